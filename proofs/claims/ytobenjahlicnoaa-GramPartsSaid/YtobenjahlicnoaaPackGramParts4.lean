/- Lemmas towards the statement: mirrors of functions, and plain laws. No condition. -/
import Derived.Test.YtobenjahlicnoaaPackGramParts3
namespace Go.Proofs.Ytobenjahlicnoaa
open Go.RowKit Go.MapKept
set_option linter.unusedSimpArgs false
set_option linter.unusedVariables false
set_option maxRecDepth 100000
def indexLInt_vc (l : List (List Int)) (dom : ((List Int) → Prop)) (φ : ((List Int) → Bool)) (Q : Int → Prop) : Prop :=
 l.length ≤ 9223372036854775807 →
 (∃ (Inv : Int → Prop) (mu : Int → Nat), Inv 0 ∧
 ∀ (x8 : Int) , Inv x8 → (IfP (decide (x8 < (l.length : Int))) (∃ e, idx l x8 = some e ∧
 (dom e) ∧
 IfP (φ e) (Q x8) ((Inv (wr (x8 + 1)) ∧ mu (wr (x8 + 1)) < mu x8))) (Q (-1))))
theorem indexLInt_walk (l : List (List Int)) (dom : ((List Int) → Prop)) (φ : ((List Int) → Bool)) (Q : Int → Prop) (h : indexLInt_vc l dom φ Q) : Ct 81 [.sv (.one (LS (lsT intT) l)), .sv (.one (.rd (fvR (fun x => [.sv (.one (LS intT x))]) (fun b => .sv (.one (B b))) dom φ)))] [] Q (fun (r : Int) => .sv (.one (I r))) := by
 have ht := tab_ok
 refine Ct.body Try.func81 rfl rfl rfl rfl (fun c hn => ?_)
 unfold indexLInt_vc at h
 refine En.lenL 0 (by rfl) (fun hl => ?_)
 replace h := h hl
 clear hl
 refine En.sr ?_
 refine WL.rn ht hn 1 ⟨[sl 0 (LS (lsT intT) l), sl 1 (.rd (fvR (fun x => [.sv (.one (LS intT x))]) (fun b => .sv (.one (B b))) dom φ))], []⟩ ?_
 refine En.seq ?_
 refine En.sr ?_
 refine WL.rn ht hn 3 ⟨[sl 0 (LS (lsT intT) l), sl 1 (.rd (fvR (fun x => [.sv (.one (LS intT x))]) (fun b => .sv (.one (B b))) dom φ)), sl 7 (I (l.length : Int)), sl 8 (I 0)], []⟩ ?_
 refine En.block ?_
 obtain ⟨Inv, mu, h0, hI⟩ := h
 refine En.loop (σ := Int) (fun zz => Inv zz) (fun zz => mu zz) (fun zz => ⟨[sl 0 (LS (lsT intT) l), sl 1 (.rd (fvR (fun x => [.sv (.one (LS intT x))]) (fun b => .sv (.one (B b))) dom φ)), sl 7 (I (l.length : Int)), sl 8 (I zz)], []⟩) 0 h0 (sub_ok (by kernel_rfl)) ?_
 intro x8 h
 replace h := hI _ h
 show En c ⟨[sl 0 (LS (lsT intT) l), sl 1 (.rd (fvR (fun x => [.sv (.one (LS intT x))]) (fun b => .sv (.one (B b))) dom φ)), sl 7 (I (l.length : Int)), sl 8 (I x8)], []⟩ _
 refine En.sr ?_
 refine WL.rn ht hn 1 ⟨[sl 0 (LS (lsT intT) l), sl 1 (.rd (fvR (fun x => [.sv (.one (LS intT x))]) (fun b => .sv (.one (B b))) dom φ)), sl 7 (I (l.length : Int)), sl 8 (I x8), sl 9 (B (decide (x8 < (l.length : Int))))], []⟩ ?_
 refine En.seq ?_
 refine En.ch h (fun h => ?_) (fun h => ?_)
 refine En.skip ?_
 refine En.seq ?_
 refine En.block ?_
 refine En.sr ?_
 refine WL.rn ht hn 2 ⟨[sl 0 (LS (lsT intT) l), sl 1 (.rd (fvR (fun x => [.sv (.one (LS intT x))]) (fun b => .sv (.one (B b))) dom φ)), sl 5 (I x8), sl 7 (I (l.length : Int)), sl 8 (I x8)], []⟩ ?_
 refine En.sr ?_
 refine WL.r ht hn 3 ⟨[sl 0 (LS (lsT intT) l), sl 1 (.rd (fvR (fun x => [.sv (.one (LS intT x))]) (fun b => .sv (.one (B b))) dom φ)), sl 5 (I x8), sl 7 (I (l.length : Int)), sl 8 (I x8), sl 11 (.rd (fvR (fun x => [.sv (.one (LS intT x))]) (fun b => .sv (.one (B b))) dom φ)), sl 12 (LS (lsT intT) l), sl 13 (I x8)], []⟩ ?_
 obtain ⟨e, he, h⟩ := h
 refine WL.v hn (val_ix (T := (lsT intT)) (l := l) (i := x8) ht rfl he) ?_
 refine WL.v hn (val_ld (s := .one (LS intT e)) ht rfl) ?_
 obtain ⟨hp, h⟩ := h
 refine WL.m0 hn (mt_callv e hp rfl (by rfl) (by rfl) (by rfl) (by rfl)) ?_
 refine WL.nil ?_
 refine En.ch h (fun h => ?_) (fun h => ?_)
 refine En.sr ?_
 refine WL.rn ht hn 2 ⟨[sl 4 (I x8)], []⟩ ?_
 exact En.rb ht x8 h
 refine En.skip ?_
 refine En.region ?_
 refine WL.rn ht hn 2 ⟨[sl 0 (LS (lsT intT) l), sl 1 (.rd (fvR (fun x => [.sv (.one (LS intT x))]) (fun b => .sv (.one (B b))) dom φ)), sl 7 (I (l.length : Int)), sl 8 (I (wr (x8 + 1)))], []⟩ ?_
 exact En.at (I := fun zz => Inv zz ∧ mu zz < mu x8) (T := fun zz => ⟨[sl 0 (LS (lsT intT) l), sl 1 (.rd (fvR (fun x => [.sv (.one (LS intT x))]) (fun b => .sv (.one (B b))) dom φ)), sl 7 (I (l.length : Int)), sl 8 (I zz)], []⟩) (wr (x8 + 1)) h (by kernel_rfl)
 refine En.exit rfl ?_
 refine En.sr ?_
 refine WL.rn ht hn 1 ⟨[sl 4 (I (-1))], []⟩ ?_
 exact En.rb ht (-1) h
theorem en81 : ∀ args w, (callFunc 81 args).run Try.prog w = .ok (.enter 81 args) w := enters_of Try.func81 (by kernel_rfl) rfl
theorem indexLInt_ct (l : List (List Int)) (dom : (List Int) → Prop) (φ : (List Int) → Bool) (hd : ∀ x ∈ l, dom x) : Ct 81 [.sv (.one (LS (lsT intT) l)), .sv (.one (.rd (fvR (fun x => [.sv (.one (LS intT x))]) (fun b => .sv (.one (B b))) dom φ)))] [] (fun (_ : Unit) => True) (fun _ => .sv (.one (I (idxTo φ l)))) := by
 refine (indexLInt_walk l dom φ (fun r => r = idxTo φ l) ?_).fun
 unfold indexLInt_vc
 exact index_plain l dom φ hd
def anyLInt_vc (l : List (List Int)) (dom : ((List Int) → Prop)) (φ : ((List Int) → Bool)) (Q : Bool → Prop) : Prop :=
 l.length ≤ 9223372036854775807 →
 ((∀ x_ ∈ l, dom x_) ∧
 Q (decide ((idxTo φ l) ≥ 0)))
theorem anyLInt_walk (l : List (List Int)) (dom : ((List Int) → Prop)) (φ : ((List Int) → Bool)) (Q : Bool → Prop) (h : anyLInt_vc l dom φ Q) : Ct 34 [.sv (.one (LS (lsT intT) l)), .sv (.one (.rd (fvR (fun x => [.sv (.one (LS intT x))]) (fun b => .sv (.one (B b))) dom φ)))] [] Q (fun (r : Bool) => .sv (.one (B r))) := by
 have ht := tab_ok
 refine Ct.body Try.func34 rfl rfl rfl rfl (fun c hn => ?_)
 unfold anyLInt_vc at h
 refine En.lenL 0 (by rfl) (fun hl => ?_)
 replace h := h hl
 clear hl
 refine En.sr ?_
 refine WL.rn ht hn 1 ⟨[sl 0 (LS (lsT intT) l), sl 1 (.rd (fvR (fun x => [.sv (.one (LS intT x))]) (fun b => .sv (.one (B b))) dom φ))], []⟩ ?_
 refine En.sr ?_
 refine WL.r ht hn 2 ⟨[sl 5 (LS (lsT intT) l), sl 6 (.rd (fvR (fun x => [.sv (.one (LS intT x))]) (fun b => .sv (.one (B b))) dom φ))], []⟩ ?_
 obtain ⟨hp, h⟩ := h
 refine WL.m0 hn (mt_c (indexLInt_ct l dom φ hp) en81 rfl) ?_
 refine WL.rn ht hn 2 ⟨[sl 4 (B (decide ((idxTo φ l) ≥ 0)))], []⟩ ?_
 exact En.rb ht (decide ((idxTo φ l) ≥ 0)) h
theorem en34 : ∀ args w, (callFunc 34 args).run Try.prog w = .ok (.enter 34 args) w := enters_of Try.func34 (by kernel_rfl) rfl
theorem anyLInt_ct (l : List (List Int)) (dom : (List Int) → Prop) (φ : (List Int) → Bool) (hd : ∀ x ∈ l, dom x) : Ct 34 [.sv (.one (LS (lsT intT) l)), .sv (.one (.rd (fvR (fun x => [.sv (.one (LS intT x))]) (fun b => .sv (.one (B b))) dom φ)))] [] (fun (_ : Unit) => True) (fun _ => .sv (.one (B (l.any φ)))) := by
 refine (anyLInt_walk l dom φ (fun r => r = l.any φ) ?_).fun
 unfold anyLInt_vc
 exact fun _ => ⟨hd, by rw [← idxTo_nonneg φ l]⟩
def indexInt_vc (l : List Int) (dom : (Int → Prop)) (φ : (Int → Bool)) (Q : Int → Prop) : Prop :=
 l.length ≤ 9223372036854775807 →
 (∃ (Inv : Int → Prop) (mu : Int → Nat), Inv 0 ∧
 ∀ (x8 : Int) , Inv x8 → (IfP (decide (x8 < (l.length : Int))) (∃ e, idx l x8 = some e ∧
 (dom e) ∧
 IfP (φ e) (Q x8) ((Inv (wr (x8 + 1)) ∧ mu (wr (x8 + 1)) < mu x8))) (Q (-1))))
noncomputable abbrev qb0 (l : List Int) := sl 7 (I (l.length : Int))
theorem indexInt_walk (l : List Int) (dom : (Int → Prop)) (φ : (Int → Bool)) (Q : Int → Prop) (h : indexInt_vc l dom φ Q) : Ct 87 [.sv (.one (LS intT l)), .sv (.one (.rd (fvR (fun x => [.sv (.one (I x))]) (fun b => .sv (.one (B b))) dom φ)))] [] Q (fun (r : Int) => .sv (.one (I r))) := by
 have ht := tab_ok
 refine Ct.body Try.func87 rfl rfl rfl rfl (fun c hn => ?_)
 unfold indexInt_vc at h
 refine En.lenL 0 (by rfl) (fun hl => ?_)
 replace h := h hl
 clear hl
 refine En.sr ?_
 refine WL.rn ht hn 1 ⟨[sl 0 (LS intT l), sl 1 (.rd (fvR (fun x => [.sv (.one (I x))]) (fun b => .sv (.one (B b))) dom φ))], []⟩ ?_
 refine En.seq ?_
 refine En.sr ?_
 refine WL.rn ht hn 3 ⟨[sl 0 (LS intT l), sl 1 (.rd (fvR (fun x => [.sv (.one (I x))]) (fun b => .sv (.one (B b))) dom φ)), qb0 l, sl 8 (I 0)], []⟩ ?_
 refine En.block ?_
 obtain ⟨Inv, mu, h0, hI⟩ := h
 refine En.loop (σ := Int) (fun zz => Inv zz) (fun zz => mu zz) (fun zz => ⟨[sl 0 (LS intT l), sl 1 (.rd (fvR (fun x => [.sv (.one (I x))]) (fun b => .sv (.one (B b))) dom φ)), qb0 l, sl 8 (I zz)], []⟩) 0 h0 (sub_ok (by kernel_rfl)) ?_
 intro x8 h
 replace h := hI _ h
 show En c ⟨[sl 0 (LS intT l), sl 1 (.rd (fvR (fun x => [.sv (.one (I x))]) (fun b => .sv (.one (B b))) dom φ)), qb0 l, sl 8 (I x8)], []⟩ _
 refine En.sr ?_
 refine WL.rn ht hn 1 ⟨[sl 0 (LS intT l), sl 1 (.rd (fvR (fun x => [.sv (.one (I x))]) (fun b => .sv (.one (B b))) dom φ)), qb0 l, sl 8 (I x8), sl 9 (B (decide (x8 < (l.length : Int))))], []⟩ ?_
 refine En.seq ?_
 refine En.ch h (fun h => ?_) (fun h => ?_)
 refine En.skip ?_
 refine En.seq ?_
 refine En.block ?_
 refine En.sr ?_
 refine WL.rn ht hn 2 ⟨[sl 0 (LS intT l), sl 1 (.rd (fvR (fun x => [.sv (.one (I x))]) (fun b => .sv (.one (B b))) dom φ)), sl 5 (I x8), qb0 l, sl 8 (I x8)], []⟩ ?_
 refine En.sr ?_
 refine WL.r ht hn 3 ⟨[sl 0 (LS intT l), sl 1 (.rd (fvR (fun x => [.sv (.one (I x))]) (fun b => .sv (.one (B b))) dom φ)), sl 5 (I x8), qb0 l, sl 8 (I x8), sl 11 (.rd (fvR (fun x => [.sv (.one (I x))]) (fun b => .sv (.one (B b))) dom φ)), sl 12 (LS intT l), sl 13 (I x8)], []⟩ ?_
 obtain ⟨e, he, h⟩ := h
 refine WL.v hn (val_ix (T := intT) (l := l) (i := x8) ht rfl he) ?_
 refine WL.v hn (val_ld (s := .one (I e)) ht rfl) ?_
 obtain ⟨hp, h⟩ := h
 refine WL.m0 hn (mt_callv e hp rfl (by rfl) (by rfl) (by rfl) (by rfl)) ?_
 refine WL.nil ?_
 refine En.ch h (fun h => ?_) (fun h => ?_)
 refine En.sr ?_
 refine WL.rn ht hn 2 ⟨[sl 4 (I x8)], []⟩ ?_
 exact En.rb ht x8 h
 refine En.skip ?_
 refine En.region ?_
 refine WL.rn ht hn 2 ⟨[sl 0 (LS intT l), sl 1 (.rd (fvR (fun x => [.sv (.one (I x))]) (fun b => .sv (.one (B b))) dom φ)), qb0 l, sl 8 (I (wr (x8 + 1)))], []⟩ ?_
 exact En.at (I := fun zz => Inv zz ∧ mu zz < mu x8) (T := fun zz => ⟨[sl 0 (LS intT l), sl 1 (.rd (fvR (fun x => [.sv (.one (I x))]) (fun b => .sv (.one (B b))) dom φ)), qb0 l, sl 8 (I zz)], []⟩) (wr (x8 + 1)) h (by kernel_rfl)
 refine En.exit rfl ?_
 refine En.sr ?_
 refine WL.rn ht hn 1 ⟨[sl 4 (I (-1))], []⟩ ?_
 exact En.rb ht (-1) h
theorem en87 : ∀ args w, (callFunc 87 args).run Try.prog w = .ok (.enter 87 args) w := enters_of Try.func87 (by kernel_rfl) rfl
theorem indexInt_ct (l : List Int) (dom : Int → Prop) (φ : Int → Bool) (hd : ∀ x ∈ l, dom x) : Ct 87 [.sv (.one (LS intT l)), .sv (.one (.rd (fvR (fun x => [.sv (.one (I x))]) (fun b => .sv (.one (B b))) dom φ)))] [] (fun (_ : Unit) => True) (fun _ => .sv (.one (I (idxTo φ l)))) := by
 refine (indexInt_walk l dom φ (fun r => r = idxTo φ l) ?_).fun
 unfold indexInt_vc
 exact index_plain l dom φ hd
def anyInt_vc (l : List Int) (dom : (Int → Prop)) (φ : (Int → Bool)) (Q : Bool → Prop) : Prop :=
 l.length ≤ 9223372036854775807 →
 ((∀ x_ ∈ l, dom x_) ∧
 Q (decide ((idxTo φ l) ≥ 0)))
theorem anyInt_walk (l : List Int) (dom : (Int → Prop)) (φ : (Int → Bool)) (Q : Bool → Prop) (h : anyInt_vc l dom φ Q) : Ct 41 [.sv (.one (LS intT l)), .sv (.one (.rd (fvR (fun x => [.sv (.one (I x))]) (fun b => .sv (.one (B b))) dom φ)))] [] Q (fun (r : Bool) => .sv (.one (B r))) := by
 have ht := tab_ok
 refine Ct.body Try.func41 rfl rfl rfl rfl (fun c hn => ?_)
 unfold anyInt_vc at h
 refine En.lenL 0 (by rfl) (fun hl => ?_)
 replace h := h hl
 clear hl
 refine En.sr ?_
 refine WL.rn ht hn 1 ⟨[sl 0 (LS intT l), sl 1 (.rd (fvR (fun x => [.sv (.one (I x))]) (fun b => .sv (.one (B b))) dom φ))], []⟩ ?_
 refine En.sr ?_
 refine WL.r ht hn 2 ⟨[sl 5 (LS intT l), sl 6 (.rd (fvR (fun x => [.sv (.one (I x))]) (fun b => .sv (.one (B b))) dom φ))], []⟩ ?_
 obtain ⟨hp, h⟩ := h
 refine WL.m0 hn (mt_c (indexInt_ct l dom φ hp) en87 rfl) ?_
 refine WL.rn ht hn 2 ⟨[sl 4 (B (decide ((idxTo φ l) ≥ 0)))], []⟩ ?_
 exact En.rb ht (decide ((idxTo φ l) ≥ 0)) h
theorem en41 : ∀ args w, (callFunc 41 args).run Try.prog w = .ok (.enter 41 args) w := enters_of Try.func41 (by kernel_rfl) rfl
theorem anyInt_ct (l : List Int) (dom : Int → Prop) (φ : Int → Bool) (hd : ∀ x ∈ l, dom x) : Ct 41 [.sv (.one (LS intT l)), .sv (.one (.rd (fvR (fun x => [.sv (.one (I x))]) (fun b => .sv (.one (B b))) dom φ)))] [] (fun (_ : Unit) => True) (fun _ => .sv (.one (B (l.any φ)))) := by
 refine (anyInt_walk l dom φ (fun r => r = l.any φ) ?_).fun
 unfold anyInt_vc
 exact fun _ => ⟨hd, by rw [← idxTo_nonneg φ l]⟩
def altNo (n q : Int) : Bool := (decide (q < 0)) || (decide (q ≥ n))
theorem altNo_iff {n q : Int} : altNo n q = false ↔ 0 ≤ q ∧ q < n := by
 unfold altNo
 simp only [Bool.or_eq_false_iff, decide_eq_false_iff_not]
 omega
def detErr (x : ApiDet) : Int :=
 if (decide (x.fLetters < 1)) || (decide (x.fLetters > 4)) then 2 else
 if (decide ((x.fNext.length : Int) < 1)) || (decide ((x.fNext.length : Int) > 3000)) then 1 else
 if ((x.fMark.length : Int) != (x.fNext.length : Int)) || x.fNext.any (fun r => (r.length : Int) != (x).fLetters) then 3 else
 if altNo (x.fNext.length : Int) x.fStart || x.fNext.any (fun r => r.any (altNo (x.fNext.length : Int))) then 2 else
 if x.fMark.any (fun m => (m != 0) && (m != 1)) then 2 else 0
structure DetOk (x : ApiDet) : Prop where
 letters : 1 ≤ x.fLetters ∧ x.fLetters ≤ 4
 size : 1 ≤ x.fNext.length ∧ x.fNext.length ≤ 3000
 marks : x.fMark.length = x.fNext.length
 rows : ∀ r ∈ x.fNext, (r.length : Int) = x.fLetters
 start : 0 ≤ x.fStart ∧ x.fStart < (x.fNext.length : Int)
 in_ : ∀ r ∈ x.fNext, ∀ p ∈ r, 0 ≤ p ∧ p < (x.fNext.length : Int)
 mark : ∀ m ∈ x.fMark, m = 0 ∨ m = 1
theorem detErr_iff (x : ApiDet) : detErr x = 0 ↔ DetOk x := by
 unfold detErr
 constructor
 ·intro h
  by_cases h1 : ((decide (x.fLetters < 1)) || (decide (x.fLetters > 4))) = true
  ·rw [if_pos h1] at h; cases h
  rw [if_neg h1] at h
  by_cases h2 : ((decide ((x.fNext.length : Int) < 1)) || (decide ((x.fNext.length : Int) > 3000))) = true
  ·rw [if_pos h2] at h; cases h
  rw [if_neg h2] at h
  by_cases h3 : (((x.fMark.length : Int) != (x.fNext.length : Int)) || x.fNext.any (fun r => (r.length : Int) != (x).fLetters)) = true
  ·rw [if_pos h3] at h; cases h
  rw [if_neg h3] at h
  by_cases h4 : (altNo (x.fNext.length : Int) x.fStart || x.fNext.any (fun r => r.any (altNo (x.fNext.length : Int)))) = true
  ·rw [if_pos h4] at h; cases h
  rw [if_neg h4] at h
  by_cases h5 : x.fMark.any (fun m => (m != 0) && (m != 1)) = true
  ·rw [if_pos h5] at h; cases h
  simp only [Bool.not_eq_true, Bool.or_eq_false_iff, decide_eq_false_iff_not, List.any_eq_false, altNo_iff, bne_eq_false_iff_eq, Bool.and_eq_false_iff, Bool.not_eq_false, bne_iff_ne, ne_eq, Decidable.not_not] at h1 h2 h3 h4 h5
  exact ⟨by omega, by omega, by omega, fun r hr => h3.2 r hr, h4.1, fun r hr p hp => h4.2 r hr p hp, fun m hm => h5 m hm⟩
 ·intro h
  have h1 : ((decide (x.fLetters < 1)) || (decide (x.fLetters > 4))) = false := by
   have := h.letters
   simp only [Bool.or_eq_false_iff, decide_eq_false_iff_not]; omega
  have h2 : ((decide ((x.fNext.length : Int) < 1)) || (decide ((x.fNext.length : Int) > 3000))) = false := by
   have := h.size
   simp only [Bool.or_eq_false_iff, decide_eq_false_iff_not]; omega
  have h3 : (((x.fMark.length : Int) != (x.fNext.length : Int)) || x.fNext.any (fun r => (r.length : Int) != (x).fLetters)) = false := by
   simp only [Bool.or_eq_false_iff, bne_eq_false_iff_eq, List.any_eq_false, bne_iff_ne, ne_eq, Decidable.not_not]
   exact ⟨by have := h.marks; omega, h.rows⟩
  have h4 : (altNo (x.fNext.length : Int) x.fStart || x.fNext.any (fun r => r.any (altNo (x.fNext.length : Int)))) = false := by
   simp only [Bool.or_eq_false_iff, altNo_iff]
   refine ⟨h.start, ?_⟩
   rw [List.any_eq_false]
   intro r hr
   rw [Bool.not_eq_true, List.any_eq_false]
   intro p hp
   rw [Bool.not_eq_true, altNo_iff]
   exact h.in_ r hr p hp
  have h5 : x.fMark.any (fun m => (m != 0) && (m != 1)) = false := by
   rw [List.any_eq_false]
   intro m hm
   rcases h.mark m hm with rfl | rfl <;> decide
  rw [h1, h2, h3, h4, h5]
  rfl
def detC1_vc (r : List Int) (x : ApiDet) (Q : Bool → Prop) : Prop :=
 r.length ≤ 9223372036854775807 →
 (Q ((r.length : Int) != x.fLetters))
theorem detC1_walk (r : List Int) (x : ApiDet) (Q : Bool → Prop) (h : detC1_vc r x Q) : Ct 92 [.sv (.one (LS intT r)), .sv (.one (.ptr 0 0))] [.box [I x.fLetters, I x.fStart, LS (lsT intT) x.fNext, LS intT x.fMark] 25 true] Q (fun (r : Bool) => .sv (.one (B r))) := by
 have ht := tab_ok
 refine Ct.body Try.func92 rfl rfl rfl rfl (fun c hn => ?_)
 unfold detC1_vc at h
 refine En.lenL 0 (by rfl) (fun hl => ?_)
 replace h := h hl
 clear hl
 refine En.sr ?_
 refine WL.rn ht hn 1 ⟨[sl 0 (LS intT r), sl 1 (.ptr 0 0)], [.box (ApiDet.cl x) 25 true]⟩ ?_
 refine En.sr ?_
 refine WL.rn ht hn 6 ⟨[sl 3 (B ((r.length : Int) != x.fLetters))], [.gone]⟩ ?_
 exact En.rb ht ((r.length : Int) != x.fLetters) h
theorem en92 : ∀ args w, (callFunc 92 args).run Try.prog w = .ok (.enter 92 args) w := enters_of Try.func92 (by kernel_rfl) rfl
def detC2_vc (q : Int) (n : Int) (Q : Bool → Prop) : Prop :=
 Q ((decide (q < 0)) || (decide (q ≥ n)))
theorem detC2_walk (q : Int) (n : Int) (Q : Bool → Prop) (h : detC2_vc q n Q) : Ct 93 [.sv (.one (I q)), .sv (.one (.ptr 0 0))] [.box [I n] 3 true] Q (fun (r : Bool) => .sv (.one (B r))) := by
 have ht := tab_ok
 refine Ct.body Try.func93 rfl rfl rfl rfl (fun c hn => ?_)
 unfold detC2_vc at h
 refine En.sr ?_
 refine WL.rn ht hn 1 ⟨[sl 0 (I q), sl 1 (.ptr 0 0)], [.box [I n] 3 true]⟩ ?_
 refine En.sr ?_
 refine WL.r ht hn 3 ⟨[sl 0 (I q), sl 1 (.ptr 0 0), sl 6 (B (decide (q < 0)))], [.box [I n] 3 true]⟩ ?_
 refine WL.thru ⟨[sl 3 (B ((decide (q < 0)) || (decide (q ≥ n))))], [.gone]⟩ ?_ ?_
 refine splitB (decide (q < 0)) (fun hb0 => ?_) (fun hb0 => ?_)
 refine WL.sB 6 hb0 ?_
 refine WL.r ht hn 5 ⟨[sl 3 (B true)], [.gone]⟩ ?_
 exact WL.nil (sub_ok (by simp only [hb0]; kernel_rfl))
 refine WL.sB 6 hb0 ?_
 refine WL.r ht hn 5 ⟨[sl 3 (B (decide (q ≥ n)))], [.gone]⟩ ?_
 exact WL.nil (sub_ok (by simp only [hb0]; kernel_rfl))
 exact En.rb ht ((decide (q < 0)) || (decide (q ≥ n))) h
theorem en93 : ∀ args w, (callFunc 93 args).run Try.prog w = .ok (.enter 93 args) w := enters_of Try.func93 (by kernel_rfl) rfl
def detC3_vc (l : List Int) (domno : (Int → Prop)) (no : (Int → Bool)) (Q : Bool → Prop) : Prop :=
 l.length ≤ 9223372036854775807 →
 ((∀ x_ ∈ l, domno x_) ∧
 Q (l.any no))
theorem detC3_walk (l : List Int) (domno : (Int → Prop)) (no : (Int → Bool)) (Q : Bool → Prop) (h : detC3_vc l domno no Q) : Ct 94 [.sv (.one (LS intT l)), .sv (.one (.ptr 0 0))] [.box [.rd (fvR (fun (x : Int) => [.sv (.one (I x))]) (fun (r : Bool) => .sv (.one (B r))) domno no)] 92 true] Q (fun (r : Bool) => .sv (.one (B r))) := by
 have ht := tab_ok
 refine Ct.body Try.func94 rfl rfl rfl rfl (fun c hn => ?_)
 unfold detC3_vc at h
 refine En.lenL 0 (by rfl) (fun hl => ?_)
 replace h := h hl
 clear hl
 refine En.sr ?_
 refine WL.rn ht hn 1 ⟨[sl 0 (LS intT l), sl 1 (.ptr 0 0)], [.box [.rd (fvR (fun (x : Int) => [.sv (.one (I x))]) (fun (r : Bool) => .sv (.one (B r))) domno no)] 92 true]⟩ ?_
 refine En.sr ?_
 refine WL.r ht hn 2 ⟨[sl 4 (LS intT l), sl 5 (.rd (fvR (fun (x : Int) => [.sv (.one (I x))]) (fun (r : Bool) => .sv (.one (B r))) domno no))], [.gone]⟩ ?_
 obtain ⟨hp, h⟩ := h
 refine WL.m0 hn (mt_c (anyInt_ct l domno no hp) en41 rfl) ?_
 refine WL.rn ht hn 1 ⟨[sl 3 (B (l.any no))], [.gone]⟩ ?_
 exact En.rb ht (l.any no) h
theorem en94 : ∀ args w, (callFunc 94 args).run Try.prog w = .ok (.enter 94 args) w := enters_of Try.func94 (by kernel_rfl) rfl
def detC4_vc (m : Int) (Q : Bool → Prop) : Prop :=
 Q ((m != 0) && (m != 1))
theorem detC4_walk (m : Int) (Q : Bool → Prop) (h : detC4_vc m Q) : Ct 95 [.sv (.one (I m))] [] Q (fun (r : Bool) => .sv (.one (B r))) := by
 have ht := tab_ok
 refine Ct.body Try.func95 rfl rfl rfl rfl (fun c hn => ?_)
 unfold detC4_vc at h
 refine En.sr ?_
 refine WL.rn ht hn 1 ⟨[sl 0 (I m)], []⟩ ?_
 refine En.sr ?_
 refine WL.r ht hn 3 ⟨[sl 0 (I m), sl 5 (B (m != 0))], []⟩ ?_
 refine WL.thru ⟨[sl 2 (B ((m != 0) && (m != 1)))], []⟩ ?_ ?_
 refine splitB (m != 0) (fun hb0 => ?_) (fun hb0 => ?_)
 refine WL.sB 5 hb0 ?_
 refine WL.r ht hn 4 ⟨[sl 2 (B (m != 1))], []⟩ ?_
 exact WL.nil (sub_ok (by simp only [hb0]; kernel_rfl))
 refine WL.sB 5 hb0 ?_
 refine WL.r ht hn 4 ⟨[sl 2 (B false)], []⟩ ?_
 exact WL.nil (sub_ok (by simp only [hb0]; kernel_rfl))
 exact En.rb ht ((m != 0) && (m != 1)) h
theorem en95 : ∀ args w, (callFunc 95 args).run Try.prog w = .ok (.enter 95 args) w := enters_of Try.func95 (by kernel_rfl) rfl
theorem detC1_ct (r : List Int) (x : ApiDet)  : Ct 92 [.sv (.one (LS intT r)), .sv (.one (.ptr 0 0))] [.box [I x.fLetters, I x.fStart, LS (lsT intT) x.fNext, LS intT x.fMark] 25 true] (fun (_ : Unit) => True) (fun _ => .sv (.one (B ((r.length : Int) != x.fLetters)))) := by
 refine (detC1_walk r x (fun res_ => res_ = ((r.length : Int) != x.fLetters)) ?_).fun
 exact fun _ => rfl
theorem detC2_ct (q : Int) (n : Int)  : Ct 93 [.sv (.one (I q)), .sv (.one (.ptr 0 0))] [.box [I n] 3 true] (fun (_ : Unit) => True) (fun _ => .sv (.one (B (altNo n q)))) := by
 refine (detC2_walk q n (fun res_ => res_ = (altNo n q)) ?_).fun
 rfl
theorem detC3_ct (l : List Int) (domno : (Int → Prop)) (no : (Int → Bool)) (hd : ∀ x ∈ l, domno x) : Ct 94 [.sv (.one (LS intT l)), .sv (.one (.ptr 0 0))] [.box [.rd (fvR (fun (x : Int) => [.sv (.one (I x))]) (fun (r : Bool) => .sv (.one (B r))) domno no)] 92 true] (fun (_ : Unit) => True) (fun _ => .sv (.one (B (l.any no)))) := by
 refine (detC3_walk l domno no (fun res_ => res_ = (l.any no)) ?_).fun
 exact fun _ => ⟨hd, rfl⟩
theorem detC4_ct (m : Int)  : Ct 95 [.sv (.one (I m))] [] (fun (_ : Unit) => True) (fun _ => .sv (.one (B ((m != 0) && (m != 1))))) := by
 refine (detC4_walk m (fun res_ => res_ = ((m != 0) && (m != 1))) ?_).fun
 rfl
def detCheck_vc (x : ApiDet) (Q : Int → Prop) : Prop :=
 x.fNext.length ≤ 9223372036854775807 →
 x.fMark.length ≤ 9223372036854775807 →
 (IfP ((decide (x.fLetters < 1)) || (decide (x.fLetters > 4))) (Q 2) (IfP ((decide ((x.fNext.length : Int) < 1)) || (decide ((x.fNext.length : Int) > 3000))) (Q 1) (∃ J : Bool → Prop, (IfP ((x.fMark.length : Int) != (x.fNext.length : Int)) (J true) ((∀ x_ ∈ x.fNext, (fun _ => True) x_) ∧
 J (x.fNext.any (fun r => (r.length : Int) != (x).fLetters)))) ∧
 (∀ (x32 : Bool), J x32 → IfP x32 (Q 3) (∃ J_2 : Bool → Prop, (((fun _ => True) x.fStart) ∧
 IfP ((altNo (x.fNext.length : Int)) x.fStart) (J_2 true) ((∀ x_ ∈ x.fNext, (fun l => ∀ x ∈ l, (fun _ => True) x) x_) ∧
 J_2 (x.fNext.any (fun l => l.any (altNo (x.fNext.length : Int)))))) ∧
 (∀ (x43 : Bool), J_2 x43 → IfP x43 (Q 2) ((∀ x_ ∈ x.fMark, (fun _ => True) x_) ∧
 IfP (x.fMark.any (fun m => (m != 0) && (m != 1))) (Q 2) (Q 0))))))))
noncomputable abbrev qd0 (x : ApiDet) := ([.box (ApiDet.cl x) 25 false, .box [I (x.fNext.length : Int)] 3 false] : List Item)
noncomputable abbrev qd1 := sl 1 (.ptr 0 0)
noncomputable abbrev qd2 (x : ApiDet) := (altNo (x.fNext.length : Int))
noncomputable abbrev qd3 (x : ApiDet) := ([.box (ApiDet.cl x) 25 false, .gone, .gone] : List Item)
noncomputable abbrev qd4 := sl 3 (.ptr 1 0)
theorem detCheck_walk (x : ApiDet) (Q : Int → Prop) (h : detCheck_vc x Q) : Ct 52 [.sv (.agg [I x.fLetters, I x.fStart, LS (lsT intT) x.fNext, LS intT x.fMark])] [] Q (fun (r : Int) => .sv (.one (I r))) := by
 have ht := tab_ok
 refine Ct.body Try.func52 rfl rfl rfl rfl (fun c hn => ?_)
 unfold detCheck_vc at h
 refine En.lenA 0 2 (by rfl) (by rfl) (fun hl => ?_)
 replace h := h hl
 clear hl
 refine En.lenA 0 3 (by rfl) (by rfl) (fun hl => ?_)
 replace h := h hl
 clear hl
 refine En.sr ?_
 refine WL.rn ht hn 2 ⟨[qd1], [.box (ApiDet.cl x) 25 false]⟩ ?_
 refine En.seq ?_
 refine En.sr ?_
 refine WL.r ht hn 4 ⟨[qd1, sl 8 (B (decide (x.fLetters < 1)))], [.box (ApiDet.cl x) 25 false]⟩ ?_
 refine WL.thru ⟨[qd1, sl 12 (B ((decide (x.fLetters < 1)) || (decide (x.fLetters > 4))))], [.box (ApiDet.cl x) 25 false]⟩ ?_ ?_
 refine splitB (decide (x.fLetters < 1)) (fun hb0 => ?_) (fun hb0 => ?_)
 refine WL.sB 8 hb0 ?_
 refine WL.r ht hn 4 ⟨[qd1, sl 12 (B true)], [.box (ApiDet.cl x) 25 false]⟩ ?_
 exact WL.nil (sub_ok (by simp only [hb0]; kernel_rfl))
 refine WL.sB 8 hb0 ?_
 refine WL.r ht hn 4 ⟨[qd1, sl 12 (B (decide (x.fLetters > 4)))], [.box (ApiDet.cl x) 25 false]⟩ ?_
 exact WL.nil (sub_ok (by simp only [hb0]; kernel_rfl))
 refine En.ch h (fun h => ?_) (fun h => ?_)
 refine En.sr ?_
 refine WL.rn ht hn 1 ⟨[sl 2 (I 2)], [.gone]⟩ ?_
 exact En.rb ht 2 h
 refine En.skip ?_
 refine En.sr ?_
 refine WL.rn ht hn 5 ⟨[qd1, qd4], (qd0 x)⟩ ?_
 refine En.seq ?_
 refine En.sr ?_
 refine WL.r ht hn 3 ⟨[qd1, qd4, sl 18 (B (decide ((x.fNext.length : Int) < 1)))], (qd0 x)⟩ ?_
 refine WL.thru ⟨[qd1, qd4, sl 21 (B ((decide ((x.fNext.length : Int) < 1)) || (decide ((x.fNext.length : Int) > 3000))))], (qd0 x)⟩ ?_ ?_
 refine splitB (decide ((x.fNext.length : Int) < 1)) (fun hb0 => ?_) (fun hb0 => ?_)
 refine WL.sB 18 hb0 ?_
 refine WL.r ht hn 3 ⟨[qd1, qd4, sl 21 (B true)], (qd0 x)⟩ ?_
 exact WL.nil (sub_ok (by simp only [hb0]; kernel_rfl))
 refine WL.sB 18 hb0 ?_
 refine WL.r ht hn 3 ⟨[qd1, qd4, sl 21 (B (decide ((x.fNext.length : Int) > 3000)))], (qd0 x)⟩ ?_
 exact WL.nil (sub_ok (by simp only [hb0]; kernel_rfl))
 refine En.ch h (fun h => ?_) (fun h => ?_)
 refine En.sr ?_
 refine WL.rn ht hn 1 ⟨[sl 2 (I 1)], [.gone, .gone]⟩ ?_
 exact En.rb ht 1 h
 refine En.skip ?_
 refine En.seq ?_
 obtain ⟨J, h, hJ⟩ := h
 refine En.seqJ (σ := Bool) (fun zz => J zz) (fun zz => ⟨[qd1, qd4, sl 32 (B zz)], (qd0 x)⟩) ?_ ?_
 refine En.region ?_
 refine WL.r ht hn 6 ⟨[qd1, qd4, sl 27 (B ((x.fMark.length : Int) != (x.fNext.length : Int)))], (qd0 x)⟩ ?_
 refine splitB ((x.fMark.length : Int) != (x.fNext.length : Int)) (fun hb => ?_) (fun hb => ?_)
 replace h := h.1 hb
 refine WL.sB 27 hb ?_
 refine WL.rn ht hn 5 ⟨[qd1, qd4, sl 32 (B true)], (qd0 x)⟩ ?_
 exact En.at (I := fun zz => J zz) (T := fun zz => ⟨[qd1, qd4, sl 32 (B zz)], (qd0 x)⟩) true h (by kernel_rfl)
 replace h := h.2 hb
 refine WL.sB 27 hb ?_
 refine WL.r ht hn 3 ⟨[qd1, qd4, sl 27 (B false), sl 29 (LS (lsT intT) x.fNext), sl 30 (.fn 92 [0])], (qd0 x)⟩ ?_
 obtain ⟨hp, h⟩ := h
 refine WL.m0 hn (mt_lendF [0] (by rfl) (by rfl) (mt_ghost 30 (o1 (.rd (fvR (fun (x_ : List Int) => [.sv (.one (LS intT x_))]) (fun (r : Bool) => .sv (.one (B r))) (fun _ => True) (fun r => (r.length : Int) != (x).fLetters)))) (by rfl) (fv_of (M := [.box (ApiDet.cl x) 25 true]) (caps := [0]) (fun x_ _ => detC1_ct x_ x) en92 rfl (by kernel_rfl) (by rfl) (fun _ => rfl)) (mt_c (anyLInt_ct x.fNext (fun _ => True) (fun r => (r.length : Int) != (x).fLetters) hp) en34 rfl))) ?_
 refine WL.rn ht hn 1 ⟨[qd1, qd4, sl 32 (B (x.fNext.any (fun r => (r.length : Int) != (x).fLetters)))], (qd0 x)⟩ ?_
 exact En.at (I := fun zz => J zz) (T := fun zz => ⟨[qd1, qd4, sl 32 (B zz)], (qd0 x)⟩) (x.fNext.any (fun r => (r.length : Int) != (x).fLetters)) h (by kernel_rfl)
 intro x32 h
 replace h := hJ _ h
 show En c ⟨[qd1, qd4, sl 32 (B x32)], (qd0 x)⟩ _
 refine En.ch h (fun h => ?_) (fun h => ?_)
 refine En.sr ?_
 refine WL.rn ht hn 1 ⟨[sl 2 (I 3)], [.gone, .gone]⟩ ?_
 exact En.rb ht 3 h
 refine En.skip ?_
 refine En.sr ?_
 refine WL.rn ht hn 3 ⟨[qd1, sl 4 (.ptr 2 0)], [.box (ApiDet.cl x) 25 false, .box [I (x.fNext.length : Int)] 3 false, .box [.fn 93 [1]] 92 false]⟩ ?_
 refine En.seq ?_
 obtain ⟨J_2, h, hJ_2⟩ := h
 refine En.seqJ (σ := Bool) (fun zz => J_2 zz) (fun zz => ⟨[qd1, sl 43 (B zz)], (qd3 x)⟩) ?_ ?_
 refine En.region ?_
 refine WL.r ht hn 3 ⟨[qd1, sl 4 (.ptr 2 0), sl 34 (.fn 93 [1]), sl 36 (I x.fStart)], [.box (ApiDet.cl x) 25 false, .box [I (x.fNext.length : Int)] 3 false, .box [.fn 93 [1]] 92 false]⟩ ?_
 refine WL.freeze [1] (by rfl) ?_
 refine WL.ghost 34 (o1 (.rd (fvR (fun (x_ : Int) => [.sv (.one (I x_))]) (fun (r : Bool) => .sv (.one (B r))) (fun _ => True) (qd2 x)))) (by rfl) (fv_of (M := [.box [I (x.fNext.length : Int)] 3 true]) (caps := [1]) (fun x_ _ => detC2_ct x_ (x.fNext.length : Int)) en93 rfl (by kernel_rfl) (by rfl) (fun _ => rfl)) ?_
 obtain ⟨hp, h⟩ := h
 refine WL.m0 hn (mt_callv x.fStart hp rfl (by rfl) (by rfl) (by rfl) (by rfl)) ?_
 refine WL.r ht hn 1 ⟨[qd1, sl 4 (.ptr 2 0), sl 38 (B ((qd2 x) x.fStart))], [.box (ApiDet.cl x) 25 false, .box [I (x.fNext.length : Int)] 3 true, .box [.fn 93 [1]] 92 false]⟩ ?_
 refine splitB ((qd2 x) x.fStart) (fun hb => ?_) (fun hb => ?_)
 replace h := h.1 hb
 refine WL.sB 38 hb ?_
 refine WL.rn ht hn 5 ⟨[qd1, sl 43 (B true)], (qd3 x)⟩ ?_
 exact En.at (I := fun zz => J_2 zz) (T := fun zz => ⟨[qd1, sl 43 (B zz)], (qd3 x)⟩) true h (by kernel_rfl)
 replace h := h.2 hb
 refine WL.sB 38 hb ?_
 refine WL.r ht hn 3 ⟨[qd1, sl 38 (B false), sl 40 (LS (lsT intT) x.fNext), sl 41 (.fn 94 [2])], [.box (ApiDet.cl x) 25 false, .box [I (x.fNext.length : Int)] 3 true, .box [.fn 93 [1]] 92 false]⟩ ?_
 obtain ⟨hp, h⟩ := h
 refine WL.m0 hn (mt_lendB (.rd (fvR (fun (x_ : Int) => [.sv (.one (I x_))]) (fun (r : Bool) => .sv (.one (B r))) (fun _ => True) (qd2 x))) 2 0 (by rfl) (by rfl) (fv_at (fv_of (M := [.box [I (x.fNext.length : Int)] 3 true]) (caps := [1]) (fun x_ _ => detC2_ct x_ (x.fNext.length : Int)) en93 rfl (by kernel_rfl) (by rfl) (fun _ => rfl))) (mt_lendF [2] (by rfl) (by rfl) (mt_ghost 41 (o1 (.rd (fvR (fun (x_ : List Int) => [.sv (.one (LS intT x_))]) (fun (r : Bool) => .sv (.one (B r))) (fun l => ∀ x ∈ l, (fun _ => True) x) (fun l => l.any (qd2 x))))) (by rfl) (fv_of (M := [.box [.rd (fvR (fun (x_ : Int) => [.sv (.one (I x_))]) (fun (r : Bool) => .sv (.one (B r))) (fun _ => True) (qd2 x))] 92 true]) (caps := [2]) (fun x_ hx => detC3_ct x_ (fun _ => True) (qd2 x) hx) en94 rfl (by kernel_rfl) (by rfl) (fun _ => rfl)) (mt_c (anyLInt_ct x.fNext (fun l => ∀ x ∈ l, (fun _ => True) x) (fun l => l.any (qd2 x)) hp) en34 rfl)))) ?_
 refine WL.rn ht hn 1 ⟨[qd1, sl 43 (B (x.fNext.any (fun l => l.any (qd2 x))))], (qd3 x)⟩ ?_
 exact En.at (I := fun zz => J_2 zz) (T := fun zz => ⟨[qd1, sl 43 (B zz)], (qd3 x)⟩) (x.fNext.any (fun l => l.any (qd2 x))) h (by kernel_rfl)
 intro x43 h
 replace h := hJ_2 _ h
 show En c ⟨[qd1, sl 43 (B x43)], (qd3 x)⟩ _
 refine En.ch h (fun h => ?_) (fun h => ?_)
 refine En.sr ?_
 refine WL.rn ht hn 1 ⟨[sl 2 (I 2)], [.gone, .gone, .gone]⟩ ?_
 exact En.rb ht 2 h
 refine En.skip ?_
 refine En.seq ?_
 refine En.sr ?_
 refine WL.r ht hn 2 ⟨[sl 45 (LS intT x.fMark)], [.gone, .gone, .gone]⟩ ?_
 obtain ⟨hp, h⟩ := h
 refine WL.m0 hn (mt_c (Ct.args (anyInt_ct x.fMark (fun _ => True) (fun m => (m != 0) && (m != 1)) hp) (argLe_same (argLe_to (fv_const (ins := (fun (x_ : Int) => [.sv (.one (I x_))])) (out := (fun (r : Bool) => .sv (.one (B r)))) (dom := (fun _ => True)) (φ := (fun m => (m != 0) && (m != 1))) (fun x_ _ => detC4_ct x_) en95) argLe_nil))) en41 rfl) ?_
 refine WL.nil ?_
 refine En.ch h (fun h => ?_) (fun h => ?_)
 refine En.sr ?_
 refine WL.rn ht hn 1 ⟨[sl 2 (I 2)], [.gone, .gone, .gone]⟩ ?_
 exact En.rb ht 2 h
 refine En.skip ?_
 refine En.sr ?_
 refine WL.rn ht hn 1 ⟨[sl 2 (I 0)], [.gone, .gone, .gone]⟩ ?_
 exact En.rb ht 0 h
theorem en52 : ∀ args w, (callFunc 52 args).run Try.prog w = .ok (.enter 52 args) w := enters_of Try.func52 (by kernel_rfl) rfl
theorem detCheck_ct (x : ApiDet)  : Ct 52 [.sv (.agg [I x.fLetters, I x.fStart, LS (lsT intT) x.fNext, LS intT x.fMark])] [] (fun (_ : Unit) => True) (fun _ => .sv (.one (I (detErr x)))) := by
 refine (detCheck_walk x (fun res_ => res_ = (detErr x)) ?_).fun
 intro _ _
 refine ⟨fun h1 => ?_, fun h1 => ⟨fun h2 => ?_, fun h2 => ?_⟩⟩
 ·show _ = detErr x
  unfold detErr; rw [if_pos h1]
 ·show _ = detErr x
  unfold detErr; rw [if_neg (by rw [h1]; decide), if_pos h2]
 refine ⟨fun b => b = (((x.fMark.length : Int) != (x.fNext.length : Int)) || x.fNext.any (fun r => (r.length : Int) != (x).fLetters)), ⟨fun h => by rw [h]; rfl, fun h => ⟨fun _ _ => trivial, by rw [h]; rfl⟩⟩, ?_⟩
 rintro b rfl
 refine ⟨fun h3 => ?_, fun h3 => ?_⟩
 ·show _ = detErr x
  unfold detErr; rw [if_neg (by rw [h1]; decide), if_neg (by rw [h2]; decide), if_pos h3]
 refine ⟨fun b => b = (altNo (x.fNext.length : Int) x.fStart || x.fNext.any (fun l => l.any (altNo (x.fNext.length : Int)))), ⟨trivial, fun h => by rw [h]; rfl, fun h => ⟨fun _ _ _ _ => trivial, by rw [h]; rfl⟩⟩, ?_⟩
 rintro b rfl
 refine ⟨fun h4 => ?_, fun h4 => ⟨fun _ _ => trivial, fun h5 => ?_, fun h5 => ?_⟩⟩
 ·show _ = detErr x
  unfold detErr; rw [if_neg (by rw [h1]; decide), if_neg (by rw [h2]; decide), if_neg (by rw [h3]; decide), if_pos h4]
 ·show _ = detErr x
  unfold detErr; rw [if_neg (by rw [h1]; decide), if_neg (by rw [h2]; decide), if_neg (by rw [h3]; decide), if_neg (by rw [h4]; decide), if_pos h5]
 ·show _ = detErr x
  unfold detErr; rw [if_neg (by rw [h1]; decide), if_neg (by rw [h2]; decide), if_neg (by rw [h3]; decide), if_neg (by rw [h4]; decide), if_neg (by rw [h5]; decide)]
def mayW_vc (n : Int) (w : List Int) (Q : Int → Prop) : Prop :=
 w.length ≤ 9223372036854775807 →
 (IfP ((decide (n < 1)) || (decide (n > 4))) (Q 2) (IfP (decide ((w.length : Int) > 60)) (Q 1) (∃ (Inv : Int → Prop) (mu : Int → Nat), Inv 0 ∧
 ∀ (x18 : Int) , Inv x18 → (IfP (decide (x18 < (w.length : Int))) (∃ e, idx w x18 = some e ∧
 IfP ((decide (e < 0)) || (decide (e ≥ n))) (Q 2) ((Inv (wr (x18 + 1)) ∧ mu (wr (x18 + 1)) < mu x18))) (Q 0)))))
noncomputable abbrev qe0 (w : List Int) := sl 17 (I (w.length : Int))
theorem mayW_walk (n : Int) (w : List Int) (Q : Int → Prop) (h : mayW_vc n w Q) : Ct 44 [.sv (.one (I n)), .sv (.one (LS intT w))] [] Q (fun (r : Int) => .sv (.one (I r))) := by
 have ht := tab_ok
 refine Ct.body Try.func44 rfl rfl rfl rfl (fun c hn => ?_)
 unfold mayW_vc at h
 refine En.lenL 1 (by rfl) (fun hl => ?_)
 replace h := h hl
 clear hl
 refine En.sr ?_
 refine WL.rn ht hn 1 ⟨[sl 0 (I n), sl 1 (LS intT w)], []⟩ ?_
 refine En.seq ?_
 refine En.sr ?_
 refine WL.r ht hn 3 ⟨[sl 0 (I n), sl 1 (LS intT w), sl 9 (B (decide (n < 1)))], []⟩ ?_
 refine WL.thru ⟨[sl 0 (I n), sl 1 (LS intT w), sl 12 (B ((decide (n < 1)) || (decide (n > 4))))], []⟩ ?_ ?_
 refine splitB (decide (n < 1)) (fun hb0 => ?_) (fun hb0 => ?_)
 refine WL.sB 9 hb0 ?_
 refine WL.r ht hn 3 ⟨[sl 0 (I n), sl 1 (LS intT w), sl 12 (B true)], []⟩ ?_
 exact WL.nil (sub_ok (by simp only [hb0]; kernel_rfl))
 refine WL.sB 9 hb0 ?_
 refine WL.r ht hn 3 ⟨[sl 0 (I n), sl 1 (LS intT w), sl 12 (B (decide (n > 4)))], []⟩ ?_
 exact WL.nil (sub_ok (by simp only [hb0]; kernel_rfl))
 refine En.ch h (fun h => ?_) (fun h => ?_)
 refine En.sr ?_
 refine WL.rn ht hn 1 ⟨[sl 4 (I 2)], []⟩ ?_
 exact En.rb ht 2 h
 refine En.skip ?_
 refine En.seq ?_
 refine En.sr ?_
 refine WL.rn ht hn 3 ⟨[sl 0 (I n), sl 1 (LS intT w), sl 15 (B (decide ((w.length : Int) > 60)))], []⟩ ?_
 refine En.ch h (fun h => ?_) (fun h => ?_)
 refine En.sr ?_
 refine WL.rn ht hn 1 ⟨[sl 4 (I 1)], []⟩ ?_
 exact En.rb ht 1 h
 refine En.skip ?_
 refine En.seq ?_
 refine En.sr ?_
 refine WL.rn ht hn 3 ⟨[sl 0 (I n), sl 16 (LS intT w), qe0 w, sl 18 (I 0)], []⟩ ?_
 refine En.block ?_
 obtain ⟨Inv, mu, h0, hI⟩ := h
 refine En.loop (σ := Int) (fun zz => Inv zz) (fun zz => mu zz) (fun zz => ⟨[sl 0 (I n), sl 16 (LS intT w), qe0 w, sl 18 (I zz)], []⟩) 0 h0 (sub_ok (by kernel_rfl)) ?_
 intro x18 h
 replace h := hI _ h
 show En c ⟨[sl 0 (I n), sl 16 (LS intT w), qe0 w, sl 18 (I x18)], []⟩ _
 refine En.sr ?_
 refine WL.rn ht hn 1 ⟨[sl 0 (I n), sl 16 (LS intT w), qe0 w, sl 18 (I x18), sl 19 (B (decide (x18 < (w.length : Int))))], []⟩ ?_
 refine En.seq ?_
 refine En.ch h (fun h => ?_) (fun h => ?_)
 refine En.skip ?_
 refine En.seq ?_
 refine En.block ?_
 refine En.sr ?_
 obtain ⟨e, he, h⟩ := h
 refine WL.v hn (val_ix (T := intT) (l := w) (i := x18) ht rfl he) ?_
 refine WL.v hn (val_ld (s := .one (I e)) ht rfl) ?_
 refine WL.rn ht hn 1 ⟨[sl 0 (I n), sl 6 (I e), sl 16 (LS intT w), qe0 w, sl 18 (I x18)], []⟩ ?_
 refine En.sr ?_
 refine WL.r ht hn 3 ⟨[sl 0 (I n), sl 6 (I e), sl 16 (LS intT w), qe0 w, sl 18 (I x18), sl 24 (B (decide (e < 0)))], []⟩ ?_
 refine WL.thru ⟨[sl 0 (I n), sl 16 (LS intT w), qe0 w, sl 18 (I x18), sl 28 (B ((decide (e < 0)) || (decide (e ≥ n))))], []⟩ ?_ ?_
 refine splitB (decide (e < 0)) (fun hb0 => ?_) (fun hb0 => ?_)
 refine WL.sB 24 hb0 ?_
 refine WL.r ht hn 4 ⟨[sl 0 (I n), sl 16 (LS intT w), qe0 w, sl 18 (I x18), sl 28 (B true)], []⟩ ?_
 exact WL.nil (sub_ok (by simp only [hb0]; kernel_rfl))
 refine WL.sB 24 hb0 ?_
 refine WL.r ht hn 4 ⟨[sl 0 (I n), sl 16 (LS intT w), qe0 w, sl 18 (I x18), sl 28 (B (decide (e ≥ n)))], []⟩ ?_
 exact WL.nil (sub_ok (by simp only [hb0]; kernel_rfl))
 refine En.ch h (fun h => ?_) (fun h => ?_)
 refine En.sr ?_
 refine WL.rn ht hn 1 ⟨[sl 4 (I 2)], []⟩ ?_
 exact En.rb ht 2 h
 refine En.skip ?_
 refine En.region ?_
 refine WL.rn ht hn 2 ⟨[sl 0 (I n), sl 16 (LS intT w), qe0 w, sl 18 (I (wr (x18 + 1)))], []⟩ ?_
 exact En.at (I := fun zz => Inv zz ∧ mu zz < mu x18) (T := fun zz => ⟨[sl 0 (I n), sl 16 (LS intT w), qe0 w, sl 18 (I zz)], []⟩) (wr (x18 + 1)) h (by kernel_rfl)
 refine En.exit rfl ?_
 refine En.sr ?_
 refine WL.rn ht hn 1 ⟨[sl 4 (I 0)], []⟩ ?_
 exact En.rb ht 0 h
theorem en44 : ∀ args w, (callFunc 44 args).run Try.prog w = .ok (.enter 44 args) w := enters_of Try.func44 (by kernel_rfl) rfl
def mayE (n : Int) (w : List Int) : Int := if (decide (n < 1)) || (decide (n > 4)) then 2 else if w.length > 60 then 1 else if w.any (fun a => (decide (a < 0)) || (decide (a ≥ n))) then 2 else 0
theorem mayW_ct (n : Int) (w : List Int)  : Ct 44 [.sv (.one (I n)), .sv (.one (LS intT w))] [] (fun (_ : Unit) => True) (fun _ => .sv (.one (I (mayE n w)))) := by
 refine (mayW_walk n w (fun res_ => res_ = (mayE n w)) ?_).fun
 intro hl
 refine ⟨fun h => ?_, fun h => ⟨fun h2 => ?_, fun h2 => ?_⟩⟩
 ·show _ = mayE n w
  unfold mayE
  rw [if_pos h]
 ·show _ = mayE n w
  have := of_decide_eq_true h2
  unfold mayE
  rw [if_neg (by rw [h]; decide), if_pos (by omega)]
 have h2 := of_decide_eq_false h2
 refine ⟨fun i => ∃ k : Nat, i = k ∧ k ≤ w.length ∧ (w.take k).any (fun a => (decide (a < 0)) || (decide (a ≥ n))) = false, fun i => w.length - i.toNat, ⟨0, rfl, Nat.zero_le _, rfl⟩, ?_⟩
 rintro i ⟨k, rfl, hk, ht⟩
 refine ⟨fun hb => ?_, fun hb => ?_⟩
 ·have hlt := dlt hb
  refine ⟨_, idx_at hlt, fun hne => ?_, fun he => ⟨⟨k + 1, wsucc (by omega), hlt, ?_⟩, mu_up hlt (by omega)⟩⟩
  ·show _ = mayE n w
   unfold mayE
   rw [if_neg (by rw [h]; decide), if_neg (by omega), if_pos (List.any_eq_true.2 ⟨_, List.getElem_mem hlt, hne⟩)]
  ·rw [List.take_add_one, List.any_append, ht, List.getElem?_eq_getElem hlt]
   simpa using he
 ·have hge := dge hb
  rw [List.take_of_length_le hge] at ht
  show _ = mayE n w
  unfold mayE
  rw [if_neg (by rw [h]; decide), if_neg (by omega), if_neg (by rw [ht]; decide)]
end Go.Proofs.Ytobenjahlicnoaa
namespace Go.Proofs.Ytobenjahlicnoaa
set_option linter.unusedSimpArgs false
set_option linter.unusedVariables false
set_option maxRecDepth 100000
def stepI (m : ApiDet) (q a : Int) : Int := (m.fNext.getD q.toNat []).getD a.toNat 0
def aftI (m : ApiDet) (q : Int) (w : List Int) : Int := w.foldl (stepI m) q
def InQ (m : ApiDet) (q : Int) : Prop := 0 ≤ q ∧ q < (m.fNext.length : Int)
def InA (m : ApiDet) (a : Int) : Prop := 0 ≤ a ∧ a < m.fLetters
def wOk (m : ApiDet) (w : List Int) : Prop := ∀ a ∈ w, InA m a
theorem stepI_at {m : ApiDet} (h : DetOk m) {q a : Int} (hq : InQ m q) (ha : InA m a) : idx m.fNext q = some (m.fNext.getD q.toNat []) ∧ idx (m.fNext.getD q.toNat []) a = some (stepI m q a) ∧ InQ m (stepI m q a) := by
 obtain ⟨q0, q1⟩ := hq
 obtain ⟨a0, a1⟩ := ha
 have hm := getD_mem (l := m.fNext) (i := q.toNat) (z := []) (by omega)
 have hr := h.rows _ hm
 have hl : a < ((m.fNext.getD q.toNat []).length : Int) := by omega
 exact ⟨idx_of [] q0 q1, idx_of 0 a0 hl, h.in_ _ hm _ (getD_mem (by omega))⟩
theorem aftI_in {m : ApiDet} (h : DetOk m) : ∀ (w : List Int) (q : Int), wOk m w → InQ m q → InQ m (aftI m q w)
 | [], q, _, hq => hq
 | a :: w, q, hw, hq => aftI_in h w _ (fun b hb => hw b (List.mem_cons_of_mem _ hb)) (stepI_at h hq (hw a List.mem_cons_self)).2.2
theorem aftI_app {m : ApiDet} {q : Int} {u v : List Int} : aftI m q (u ++ v) = aftI m (aftI m q u) v := List.foldl_append
end Go.Proofs.Ytobenjahlicnoaa
namespace Go.Proofs.Ytobenjahlicnoaa
def valW : List Int → Nat
 | [] => 0
 | a :: l => (a.toNat + 1) * 4 ^ l.length + valW l
def ones4 : Nat → Nat
 | 0 => 0
 | n + 1 => 4 ^ n + ones4 n
theorem ones4_up (n : Nat) : 3 * ones4 n + 1 = 4 ^ n := by
 induction n with
 | zero => rfl
 | succ n ih => rw [ones4, Nat.pow_succ]; omega
theorem ones4_mono {m n : Nat} (h : m ≤ n) : ones4 m ≤ ones4 n := by
 have h1 := ones4_up m
 have h2 := ones4_up n
 have := Nat.pow_le_pow_right (show 0 < 4 by decide) h
 omega
def In4 (w : List Int) : Prop := ∀ a ∈ w, 0 ≤ a ∧ a < 4
theorem valW_append (x y : List Int) : valW (x ++ y) = valW x * 4 ^ y.length + valW y := by
 induction x with
 | nil => simp [valW]
 | cons a x ih =>
  rw [List.cons_append, valW, valW, ih, List.length_append, Nat.pow_add, Nat.add_mul _ (valW x), Nat.mul_assoc, Nat.add_assoc]
theorem valW_ge (w : List Int) : ones4 w.length ≤ valW w := by
 induction w with
 | nil => exact Nat.le_refl _
 | cons a w ih =>
  rw [List.length_cons, ones4, valW, Nat.add_mul]
  omega
theorem valW_le {w : List Int} (h : In4 w) : valW w ≤ 4 * ones4 w.length := by
 induction w with
 | nil => exact Nat.le_refl _
 | cons a w ih =>
  have h1 := ih fun b hb => h b (by simp [hb])
  have h2 := h a (by simp)
  have h3 : (a.toNat + 1) * 4 ^ w.length ≤ 4 * 4 ^ w.length := Nat.mul_le_mul_right _ (by omega)
  rw [List.length_cons, ones4, valW]
  omega
theorem valW_short {a b : List Int} (ha : In4 a) (h : a.length < b.length) : valW a < valW b := by
 have h1 := valW_le ha
 have h2 := valW_ge b
 have h3 := ones4_mono (show a.length + 1 ≤ b.length from h)
 rw [ones4] at h3
 have h4 := ones4_up a.length
 omega
def cmpR (x y : Int) : Int := if x < y then -1 else if x > y then 1 else 0
def cmpL : List Int → List Int → Int
 | [], [] => 0
 | [], _ :: _ => -1
 | _ :: _, [] => 1
 | x :: a, y :: b => if cmpR x y ≠ 0 then cmpR x y else cmpL a b
theorem cmpL_drop {a b : List Int} {k : Nat} (ha : k < a.length) (hb : k < b.length) : cmpL (a.drop k) (b.drop k) = if cmpR a[k] b[k] ≠ 0 then cmpR a[k] b[k] else cmpL (a.drop (k + 1)) (b.drop (k + 1)) := by
 rw [List.drop_eq_getElem_cons ha, List.drop_eq_getElem_cons hb]
 rfl
theorem valW_lex : ∀ {a b : List Int}, In4 a → In4 b → a.length = b.length → cmpL a b < 0 → valW a < valW b
 | [], [], _, _, _, h => by cases h
 | [], _ :: _, _, _, h, _ => by cases h
 | _ :: _, [], _, _, h, _ => by cases h
 | x :: a, y :: b, ha, hb, hl, h => by
  have hl : a.length = b.length := by simpa using hl
  have ha' : In4 a := fun c hc => ha c (by simp [hc])
  have hb' : In4 b := fun c hc => hb c (by simp [hc])
  have hx := ha x (by simp)
  have hy := hb y (by simp)
  rw [cmpL] at h
  rw [valW, valW, hl]
  by_cases e : cmpR x y ≠ 0
  ·rw [if_pos e] at h
   unfold cmpR at h
   split at h
   ·rename_i hlt
    have h1 := valW_le ha'
    have h2 := valW_ge b
    rw [hl] at h1
    have h4 := ones4_up b.length
    have h5 : (x.toNat + 1 + 1) * 4 ^ b.length ≤ (y.toNat + 1) * 4 ^ b.length := Nat.mul_le_mul_right _ (by omega)
    rw [Nat.add_mul (x.toNat + 1)] at h5
    omega
   ·split at h <;> cases h
  ·rw [if_neg e] at h
   have := valW_lex ha' hb' hl h
   have exy : x = y := by
    simp only [ne_eq, Decidable.not_not] at e
    unfold cmpR at e
    split at e
    ·cases e
    ·split at e
     ·cases e
     ·omega
   rw [exy]
   omega
def beforeB (a b : List Int) : Bool := if a.length ≠ b.length then decide (a.length < b.length) else decide (cmpL a b < 0)
theorem before_val {a b : List Int} (ha : In4 a) (hb : In4 b) (h : beforeB a b = true) : valW a < valW b ∧ a.length ≤ b.length := by
 unfold beforeB at h
 split at h
 ·have := of_decide_eq_true h
  exact ⟨valW_short ha this, by omega⟩
 ·rename_i hl
  have hl : a.length = b.length := by omega
  exact ⟨valW_lex ha hb hl (of_decide_eq_true h), by omega⟩
structure RuleOk (f t : List Int) : Prop where
 pos : 1 ≤ f.length
 inF : In4 f
 inT : In4 t
 val : valW t < valW f
 len : t.length ≤ f.length
abbrev Rules := List (List Int × List Int)
inductive Step1 (R : Rules) : List Int → List Int → Prop
 | mk (x f t y : List Int) (h : (f, t) ∈ R) : Step1 R (x ++ f ++ y) (x ++ t ++ y)
inductive Steps (R : Rules) : List Int → List Int → Prop
 | refl (w) : Steps R w w
 | head {u v w} : Step1 R u v → Steps R v w → Steps R u w
end Go.Proofs.Ytobenjahlicnoaa
namespace Go.Proofs.Ytobenjahlicnoaa
open Go.RowKit Go.MapKept
set_option linter.unusedSimpArgs false
set_option linter.unusedVariables false
set_option maxRecDepth 100000
abbrev Key3 := St170
abbrev key3 (a b c : Int) : Key3 := St170.mk a b c
structure GrmOk (g : ApiGrammar) : Prop where
 lets : 1 ≤ g.fLetters ∧ g.fLetters ≤ 4
 names : 1 ≤ g.fNames ∧ g.fNames ≤ 6
 makes : g.fMakes.length ≤ 20
 from_ : ∀ m ∈ g.fMakes, 0 ≤ m.fFrom ∧ m.fFrom < g.fNames
 len : ∀ m ∈ g.fMakes, m.fTo.length ≤ 3
 tos : ∀ m ∈ g.fMakes, ∀ s ∈ m.fTo, 0 ≤ s ∧ s < g.fLetters + g.fNames
inductive SDer (g : ApiGrammar) : List Int → List Int → Prop where
 | nil : SDer g [] []
 | lett {s : Int} {rest u : List Int} : s < g.fLetters → SDer g rest u → SDer g (s :: rest) (s :: u)
 | name {s : Int} {rest u v : List Int} {m : ApiMake} : g.fLetters ≤ s → m ∈ g.fMakes → m.fFrom = s - g.fLetters → SDer g m.fTo u → SDer g rest v → SDer g (s :: rest) (u ++ v)
theorem SDer.app {g : ApiGrammar} {a u : List Int} (h : SDer g a u) {b v : List Int} (k : SDer g b v) : SDer g (a ++ b) (u ++ v) := by
 induction h with
 | nil => exact k
 | lett h1 _ ih => exact .lett h1 ih
 | name h1 h2 h3 h4 _ _ ih => rw [List.cons_append, List.append_assoc]; exact .name h1 h2 h3 h4 ih
def SgOk (g : ApiGrammar) (l : List Int) : Prop := ∀ s ∈ l, 0 ≤ s ∧ s < g.fLetters + g.fNames
theorem SDer.lets {g : ApiGrammar} (hg : GrmOk g) {a u : List Int} (h : SDer g a u) : SgOk g a → ∀ x ∈ u, 0 ≤ x ∧ x < g.fLetters := by
 induction h with
 | nil => intro _ x hx; cases hx
 | lett h1 _ ih =>
  intro ha x hx
  rcases List.mem_cons.1 hx with rfl | hx
  ·exact ⟨(ha _ List.mem_cons_self).1, h1⟩
  ·exact ih (fun s hs => ha s (List.mem_cons_of_mem _ hs)) x hx
 | name h1 h2 h3 h4 _ ih1 ih2 =>
  intro ha x hx
  rcases List.mem_append.1 hx with hx | hx
  ·exact ih1 (hg.tos _ h2) x hx
  ·exact ih2 (fun s hs => ha s (List.mem_cons_of_mem _ hs)) x hx
abbrev BMap := List (Key3 × List Int)
abbrev IMap := List (Key3 × Int)
structure FSt where
 b : BMap
 i : IMap
 ag : Bool
def tellA (k : Key3) (s : FSt) : Bool := (mget k s.i).getD 0 == 0
def tellC (k : Key3) (w : List Int) (sh : Bool) (s : FSt) : Bool := sh && (!(mget k s.b).isSome || beforeB w ((mget k s.b).getD []))
def tellK (k : Key3) (w : List Int) (sh : Bool) (s : FSt) : FSt :=
 ⟨if tellC k w sh s = true then mput k w s.b else s.b, if tellA k s = true then mput k 1 s.i else s.i, if tellC k w sh s = true then true else if tellA k s = true then true else s.ag⟩
def tellS (m : ApiMake) (p q : Int) (w : List Int) (sh : Bool) (s : FSt) : FSt := tellK (key3 m.fFrom p q) w sh s
def nxB (k : Key3) (w : List Int) (sh : Bool) (b : BMap) : Bool := sh && (mget k b).isSome && decide (w.length + ((mget k b).getD []).length ≤ 60)
def nxW (k : Key3) (w : List Int) (sh : Bool) (b : BMap) : List Int := if nxB k w sh b = true then w ++ (mget k b).getD [] else []
def nameF (R : Int → List Int → Bool → FSt → FSt) (a q : Int) (w : List Int) (sh : Bool) (st : FSt) (r : Nat) : FSt :=
 if ((mget (key3 a q r) st.i).getD 0 == 0) = true then st else R (r : Int) (nxW (key3 a q r) w sh st.b) (nxB (key3 a q r) w sh st.b) st
def rowsS (g : ApiGrammar) (d : ApiDet) (m : ApiMake) (p : Int) : List Int → Int → List Int → Bool → FSt → FSt
 | [], q, w, sh, st => tellS m p q w sh st
 | s :: rest, q, w, sh, st => if s < g.fLetters then rowsS g d m p rest (stepI d q s) (w ++ [s]) (sh && decide (w.length < 60)) st
  else (List.range d.fNext.length).foldl (nameF (rowsS g d m p rest) (s - g.fLetters) q w sh) st
def BOk (b : BMap) : Prop := ∀ k w, mget k b = some w → w.length ≤ 60
structure RwPre (g : ApiGrammar) (d : ApiDet) (b : BMap) (signs : List Int) (q : Int) (w : List Int) (sh : Bool) : Prop where
 det : DetOk d
 lets : d.fLetters = g.fLetters
 few : d.fNext.length ≤ 4
 glets : 1 ≤ g.fLetters ∧ g.fLetters ≤ 4
 inq : InQ d q
 sg : ∀ s ∈ signs, 0 ≤ s ∧ s < 10
 wl : w.length + signs.length ≤ 100
 sl : signs.length ≤ 3
 short : sh = true → w.length ≤ 60
 bok : BOk b
theorem mput_bok {b : BMap} {k : Key3} {w : List Int} (h : BOk b) (hw : w.length ≤ 60) : BOk (mput k w b) := fun k' w' e => by
 rw [mget_put] at e
 split at e
 ·cases e
  exact hw
 ·exact h k' w' e
theorem tellK_bok {k : Key3} {w : List Int} {sh : Bool} {s : FSt} (h : BOk s.b) (hw : sh = true → w.length ≤ 60) : BOk (tellK k w sh s).b := by
 unfold tellK
 by_cases hc : tellC k w sh s = true
 ·simp only [hc, if_true]
  unfold tellC at hc
  rw [Bool.and_eq_true] at hc
  exact mput_bok h (hw hc.1)
 ·rw [if_neg hc]
  exact h
theorem foldl_rel {α β : Type} {P : α → Prop} {f : α → β → α} (hf : ∀ a b, P a → P (f a b)) : ∀ (l : List β) (a : α), P a → P (l.foldl f a)
 | [], _, h => h
 | _ :: l, _, h => foldl_rel hf l _ (hf _ _ h)
theorem foldl_relM {α β : Type} {P : α → Prop} {f : α → β → α} : ∀ (l : List β) (a : α), (∀ a b, b ∈ l → P a → P (f a b)) → P a → P (l.foldl f a)
 | [], _, _, h => h
 | x :: l, _, hf, h => foldl_relM l _ (fun a b hb => hf a b (List.mem_cons_of_mem _ hb)) (hf _ x List.mem_cons_self h)
theorem nx_len {k : Key3} {w : List Int} {sh : Bool} {b : BMap} : nxB k w sh b = true → (nxW k w sh b).length ≤ 60 := fun h => by
 unfold nxW
 rw [if_pos h]
 unfold nxB at h
 simp only [Bool.and_eq_true, decide_eq_true_eq] at h
 rw [List.length_append]
 exact h.2
theorem nx_len2 {k : Key3} {w : List Int} {sh : Bool} {b : BMap} : (nxW k w sh b).length ≤ 60 := by
 by_cases h : nxB k w sh b = true
 ·exact nx_len h
 ·unfold nxW
  rw [if_neg h]
  exact Nat.zero_le _
section
variable {g : ApiGrammar} {d : ApiDet} {m : ApiMake} {p : Int}
theorem rowsS_bok : ∀ (signs : List Int) (q : Int) (w : List Int) (sh : Bool) (st : FSt), (sh = true → w.length ≤ 60) → BOk st.b → BOk (rowsS g d m p signs q w sh st).b
 | [], q, w, sh, st, hw, h => tellK_bok h hw
 | s :: rest, q, w, sh, st, hw, h => by
  rw [rowsS]
  split
  ·refine rowsS_bok rest _ _ _ _ (fun e => ?_) h
   rw [Bool.and_eq_true, decide_eq_true_eq] at e
   rw [List.length_append, List.length_singleton]
   omega
  ·refine foldl_rel (P := fun st : FSt => BOk st.b) (fun st r hst => ?_) _ _ h
   unfold nameF
   split
   ·exact hst
   ·exact rowsS_bok rest _ _ _ _ nx_len hst
structure SInv (g : ApiGrammar) (d : ApiDet) (st : FSt) : Prop where
 i : ∀ a p q, (mget (key3 a p q) st.i).getD 0 ≠ 0 → ∃ u, SDer g [a + g.fLetters] u ∧ aftI d p u = q
 b : ∀ a p q w, mget (key3 a p q) st.b = some w → (0 ≤ a ∧ a < g.fNames) ∧ SDer g [a + g.fLetters] w ∧ aftI d p w = q
theorem key3_inj {a b c a' b' c' : Int} (h : key3 a b c = key3 a' b' c') : a = a' ∧ b = b' ∧ c = c' := by
 unfold key3 at h
 injection h with h1 h2 h3
 exact ⟨h1, h2, h3⟩
theorem key3_all (k : Key3) : ∃ a b c, k = key3 a b c := ⟨_, _, _, rfl⟩
theorem SDer.one {a : Int} (h : m ∈ g.fMakes) {u : List Int} (hu : SDer g m.fTo u) (ha : m.fFrom = a) (h0 : 0 ≤ a) : SDer g [a + g.fLetters] u := by
 have := SDer.name (s := a + g.fLetters) (rest := []) (v := []) (by omega) h (by omega) hu .nil
 rwa [List.append_nil] at this
theorem tellK_get_i {k k' : Key3} {w : List Int} {sh : Bool} {s : FSt} : (mget k' (tellK k w sh s).i).getD 0 ≠ 0 → k' = k ∨ (mget k' s.i).getD 0 ≠ 0 := by
 intro h
 by_cases e : k' = k
 ·exact .inl e
 ·right
  unfold tellK at h
  simp only at h
  split at h
  ·rwa [mget_put, if_neg e] at h
  ·exact h
theorem tellK_get_b {k k' : Key3} {w v : List Int} {sh : Bool} {s : FSt} : mget k' (tellK k w sh s).b = some v → (k' = k ∧ v = w ∧ sh = true) ∨ mget k' s.b = some v := by
 intro h
 unfold tellK at h
 simp only at h
 split at h
 ·rename_i hc
  rw [mget_put] at h
  split at h
  ·rename_i e
   cases h
   unfold tellC at hc
   rw [Bool.and_eq_true] at hc
   exact .inl ⟨e, rfl, hc.1⟩
  ·exact .inr h
 ·exact .inr h
theorem tell_sound (hg : GrmOk g) (hm : m ∈ g.fMakes) {q : Int} {w : List Int} {sh : Bool} {st : FSt} (h : SInv g d st) (hu : ∃ u, SDer g m.fTo u ∧ aftI d p u = q ∧ (sh = true → w = u)) : SInv g d (tellS m p q w sh st) := by
 obtain ⟨u, h1, h2, h3⟩ := hu
 have hf := (hg.from_ m hm).1
 refine ⟨fun a p' q' hi => ?_, fun a p' q' v hb => ?_⟩
 ·rcases tellK_get_i hi with e | e
  ·obtain ⟨rfl, rfl, rfl⟩ := key3_inj e
   exact ⟨u, .one hm h1 rfl hf, h2⟩
  ·exact h.i a p' q' e
 ·rcases tellK_get_b hb with ⟨e, rfl, hs⟩ | e
  ·obtain ⟨rfl, rfl, rfl⟩ := key3_inj e
   rw [h3 hs]
   exact ⟨hg.from_ m hm, .one hm h1 rfl hf, h2⟩
  ·exact h.b a p' q' v e
theorem tellK_up {k : Key3} {w : List Int} {sh : Bool} {s : FSt} (h : s.ag = true) : (tellK k w sh s).ag = true := by
 unfold tellK
 simp only
 split
 ·rfl
 ·split
  ·rfl
  ·exact h
theorem rows_up : ∀ (signs : List Int) (q : Int) (w : List Int) (sh : Bool) (st : FSt), st.ag = true → (rowsS g d m p signs q w sh st).ag = true
 | [], _, _, _, _, h => tellK_up h
 | s :: rest, q, w, sh, st, h => by
  rw [rowsS]
  split
  ·exact rows_up rest _ _ _ _ h
  ·refine foldl_rel (P := fun st : FSt => st.ag = true) (fun st r hst => ?_) _ _ h
   unfold nameF
   split
   ·exact hst
   ·exact rows_up rest _ _ _ _ hst
def Still (k : Key3) (w : List Int) (sh : Bool) (st : FSt) : Prop := (mget k st.i).getD 0 ≠ 0 ∧ (sh = true → ∃ v, mget k st.b = some v ∧ beforeB w v = false)
theorem tellK_still {k : Key3} {w : List Int} {sh : Bool} {s : FSt} (h : (tellK k w sh s).ag = false) : tellK k w sh s = s ∧ Still k w sh s := by
 unfold tellK at h ⊢
 simp only at h
 split at h
 ·cases h
 rename_i hc
 split at h
 ·cases h
 rename_i ha
 rw [if_neg hc, if_neg ha, if_neg hc, if_neg ha]
 refine ⟨rfl, ?_, fun hs => ?_⟩
 ·unfold tellA at ha
  simpa using ha
 ·subst hs
  unfold tellC at hc
  rw [Bool.true_and, Bool.not_eq_true, Bool.or_eq_false_iff] at hc
  cases e : mget k s.b with
  | none => rw [e] at hc; cases hc.1
  | some v => rw [e] at hc; exact ⟨v, rfl, hc.2⟩
def AllLeaf (g : ApiGrammar) (d : ApiDet) (st : FSt) (P : Int → List Int → Bool → Prop) : List Int → Int → List Int → Bool → Prop
 | [], q, w, sh => P q w sh
 | s :: rest, q, w, sh => (s < g.fLetters → AllLeaf g d st P rest (stepI d q s) (w ++ [s]) (sh && decide (w.length < 60))) ∧
  (g.fLetters ≤ s → ∀ r : Nat, r < d.fNext.length → (mget (key3 (s - g.fLetters) q r) st.i).getD 0 ≠ 0 → AllLeaf g d st P rest r (nxW (key3 (s - g.fLetters) q r) w sh st.b) (nxB (key3 (s - g.fLetters) q r) w sh st.b))
theorem foldl_still {β : Type} {f : FSt → β → FSt} {Q : β → Prop} (hup : ∀ st b, st.ag = true → (f st b).ag = true) {st : FSt} (hf : ∀ b, (f st b).ag = false → f st b = st ∧ Q b) : ∀ (l : List β), (l.foldl f st).ag = false → l.foldl f st = st ∧ ∀ b ∈ l, Q b
 | [], _ => ⟨rfl, fun b hb => by cases hb⟩
 | x :: l, h => by
  rw [List.foldl_cons] at h ⊢
  have h1 : (f st x).ag = false := by
   cases e : (f st x).ag with
   | false => rfl
   | true =>
    rw [foldl_rel (P := fun st : FSt => st.ag = true) (fun a b ha => hup a b ha) l _ e] at h
    cases h
  obtain ⟨h2, h3⟩ := hf x h1
  rw [h2] at h ⊢
  obtain ⟨h4, h5⟩ := foldl_still hup hf l h
  exact ⟨h4, fun b hb => (List.mem_cons.1 hb).elim (fun e => e ▸ h3) (h5 b)⟩
theorem rows_still : ∀ (signs : List Int) (q : Int) (w : List Int) (sh : Bool) (st : FSt), (rowsS g d m p signs q w sh st).ag = false → rowsS g d m p signs q w sh st = st ∧ AllLeaf g d st (fun q w sh => Still (key3 m.fFrom p q) w sh st) signs q w sh
 | [], _, _, _, _, h => tellK_still h
 | s :: rest, q, w, sh, st, h => by
  rw [rowsS] at h ⊢
  rw [AllLeaf]
  by_cases hs : s < g.fLetters
  ·rw [if_pos hs] at h ⊢
   obtain ⟨h1, h2⟩ := rows_still rest _ _ _ _ h
   exact ⟨h1, fun _ => h2, fun e => by omega⟩
  ·rw [if_neg hs] at h ⊢
   obtain ⟨h1, h2⟩ := foldl_still (f := nameF (rowsS g d m p rest) (s - g.fLetters) q w sh) (Q := fun r : Nat => (mget (key3 (s - g.fLetters) q r) st.i).getD 0 ≠ 0 → AllLeaf g d st (fun q w sh => Still (key3 m.fFrom p q) w sh st) rest r (nxW (key3 (s - g.fLetters) q r) w sh st.b) (nxB (key3 (s - g.fLetters) q r) w sh st.b)) (fun st r hst => by
    unfold nameF
    split
    ·exact hst
    ·exact rows_up rest _ _ _ _ hst) (fun r hr => by
    unfold nameF at hr ⊢
    split at hr
    ·rename_i e
     rw [if_pos e]
     exact ⟨rfl, fun hn => absurd (by simpa using e) hn⟩
    ·rename_i e
     rw [if_neg e]
     obtain ⟨k1, k2⟩ := rows_still rest _ _ _ _ hr
     exact ⟨k1, fun _ => k2⟩) _ h
   exact ⟨h1, fun e => absurd e hs, fun _ r hr => h2 r (List.mem_range.2 hr)⟩
end
theorem valW_len {a b : List Int} (ha : In4 a) (hb : In4 b) (h : valW a ≤ valW b) : a.length ≤ b.length := by
 rcases Nat.lt_or_ge b.length a.length with hl | hl
 ·have := valW_short hb hl
  omega
 ·exact hl
theorem cmpL_zero : ∀ {a b : List Int}, a.length = b.length → cmpL a b = 0 → a = b
 | [], [], _, _ => rfl
 | [], _ :: _, h, _ => by cases h
 | _ :: _, [], h, _ => by cases h
 | x :: a, y :: b, h, e => by
  rw [cmpL] at e
  by_cases c : cmpR x y ≠ 0
  ·rw [if_pos c] at e
   exact absurd e c
  ·rw [if_neg c] at e
   have hxy : x = y := by
    unfold cmpR at c
    split at c
    ·exact absurd (by decide) c
    ·split at c
     ·exact absurd (by decide) c
     ·omega
   rw [hxy, cmpL_zero (by simpa using h) e]
theorem cmpL_turn : ∀ {a b : List Int}, a.length = b.length → cmpL b a = -cmpL a b
 | [], [], _ => rfl
 | [], _ :: _, h => by cases h
 | _ :: _, [], h => by cases h
 | x :: a, y :: b, h => by
  have hr : cmpR y x = -cmpR x y := by
   unfold cmpR
   split <;> split <;> (try split) <;> omega
  rw [cmpL, cmpL, hr]
  by_cases c : cmpR x y = 0
  ·rw [if_neg (by omega), if_neg (by omega)]
   exact cmpL_turn (by simpa using h)
  ·rw [if_pos (by omega), if_pos c]
theorem before_not {a b : List Int} (ha : In4 a) (hb : In4 b) (h : beforeB a b = false) : valW b ≤ valW a := by
 by_cases hl : a.length = b.length
 ·unfold beforeB at h
  rw [if_neg (fun e => e hl)] at h
  have h := of_decide_eq_false h
  by_cases h0 : cmpL a b = 0
  ·rw [cmpL_zero hl h0]
   exact Nat.le_refl _
  ·have ht := cmpL_turn hl
   exact Nat.le_of_lt (valW_lex hb ha hl.symm (by omega))
 ·unfold beforeB at h
  rw [if_pos hl] at h
  have h := of_decide_eq_false h
  exact Nat.le_of_lt (valW_short hb (by omega))
theorem before_total {a b : List Int} (ha : In4 a) (hb : In4 b) (h : valW a = valW b) : a = b := by
 have l1 := valW_len ha hb (by omega)
 have l2 := valW_len hb ha (by omega)
 have hl : a.length = b.length := by omega
 have ht := cmpL_turn hl
 refine cmpL_zero hl (Decidable.byContradiction fun h0 => ?_)
 by_cases hn : cmpL a b < 0
 ·have := valW_lex ha hb hl hn
  omega
 ·have := valW_lex hb ha hl.symm (by omega)
  omega
theorem valW_mid {w a b v : List Int} (hl : a.length ≤ b.length) (h : valW a ≤ valW b) : valW (w ++ a ++ v) ≤ valW (w ++ b ++ v) := by
 rw [valW_append, valW_append, valW_append, valW_append]
 have h1 : 4 ^ a.length ≤ 4 ^ b.length := Nat.pow_le_pow_right (by decide) hl
 have h2 : valW w * 4 ^ a.length ≤ valW w * 4 ^ b.length := Nat.mul_le_mul_left _ h1
 exact Nat.add_le_add_right (Nat.mul_le_mul_right _ (by omega)) _
section
variable {g : ApiGrammar} {d : ApiDet}
theorem SDer.in4 (hg : GrmOk g) {a u : List Int} (h : SDer g a u) (ha : SgOk g a) : In4 u := fun x hx => by
 have := h.lets hg ha x hx
 have := hg.lets
 omega
theorem SDer.inA (hg : GrmOk g) (hl : d.fLetters = g.fLetters) {a u : List Int} (h : SDer g a u) (ha : SgOk g a) : wOk d u := fun x hx => by
 have := h.lets hg ha x hx
 exact ⟨this.1, by rw [hl]; exact this.2⟩
def Closed (g : ApiGrammar) (d : ApiDet) (st : FSt) : Prop := ∀ m ∈ g.fMakes, ∀ p : Int, InQ d p → AllLeaf g d st (fun q w sh => Still (key3 m.fFrom p q) w sh st) m.fTo p [] true
theorem leaf_of (hg : GrmOk g) (hd : DetOk d) (hl : d.fLetters = g.fLetters) {st : FSt} (hS : SInv g d st) (hC : Closed g d st) {signs u : List Int} (h : SDer g signs u) : SgOk g signs → ∀ (P : Int → List Int → Bool → Prop) (p : Int) (w : List Int) (sh : Bool), InQ d p → In4 w → AllLeaf g d st P signs p w sh →
  ∃ w' sh', P (aftI d p u) w' sh' ∧ (sh = true → w.length + u.length ≤ 60 → sh' = true ∧ valW w' ≤ valW (w ++ u) ∧ In4 w') := by
 induction h with
 | nil =>
  intro _ P p w sh _ hw hA
  exact ⟨w, sh, hA, fun hs _ => ⟨hs, by rw [List.append_nil]; exact Nat.le_refl _, hw⟩⟩
 | @lett s rest u hs hr ih =>
  intro hsg P p w sh hp hw hA
  have hsa := hsg s List.mem_cons_self
  have hgl := hg.lets
  obtain ⟨w', sh', h1, h2⟩ := ih (fun x hx => hsg x (List.mem_cons_of_mem _ hx)) P (stepI d p s) (w ++ [s]) _ (stepI_at hd hp ⟨hsa.1, by omega⟩).2.2 (fun x hx => (List.mem_append.1 hx).elim (hw x) fun e => by rw [List.mem_singleton.1 e]; omega) (hA.1 hs)
  refine ⟨w', sh', h1, fun e hle => ?_⟩
  rw [List.length_cons] at hle
  have := h2 (by rw [e, Bool.true_and, decide_eq_true_eq]; omega) (by rw [List.length_append, List.length_singleton]; omega)
  rwa [List.append_assoc] at this
 | @name s rest u v m hs hm hf hu hv ihu ihv =>
  intro hsg P p w sh hp hw hA
  have hwu := hu.inA hg hl (hg.tos m hm)
  have hq := aftI_in hd u p hwu hp
  have hu4 := hu.in4 hg (hg.tos m hm)
  have hv4 := hv.in4 hg (fun x hx => hsg x (List.mem_cons_of_mem _ hx))
  obtain ⟨w1, sh1, ⟨k1, k2⟩, k3⟩ := ihu (hg.tos m hm) _ p [] true hp (fun x hx => by cases hx) (hC m hm p hp)
  obtain ⟨r, hr⟩ : ∃ r : Nat, aftI d p u = (r : Int) := ⟨(aftI d p u).toNat, by have := hq.1; omega⟩
  rw [hr, hf] at k1 k2
  have hrl : r < d.fNext.length := by have := hq.2; omega
  obtain ⟨w', sh', h1, h2⟩ := ihv (fun x hx => hsg x (List.mem_cons_of_mem _ hx)) P r (nxW (key3 (s - g.fLetters) p r) w sh st.b) (nxB (key3 (s - g.fLetters) p r) w sh st.b) (by rw [← hr]; exact hq) (fun x hx => by
   unfold nxW at hx
   split at hx
   ·rename_i hn
    unfold nxB at hn
    simp only [Bool.and_eq_true] at hn
    obtain ⟨b0, hb0⟩ := Option.isSome_iff_exists.1 hn.1.2
    rw [hb0] at hx
    have hb4 := (hS.b _ _ _ _ hb0).2.1.in4 hg (fun y hy => by rw [List.mem_singleton.1 hy]; have := hsg s List.mem_cons_self; omega)
    exact (List.mem_append.1 hx).elim (hw x) (hb4 x)
   ·cases hx) (hA.2 hs r hrl k1)
  refine ⟨w', sh', by rw [aftI_app, hr]; exact h1, fun e hle => ?_⟩
  rw [List.length_append] at hle
  obtain ⟨a1, a2, a3⟩ := k3 rfl (by rw [List.length_nil]; omega)
  rw [List.nil_append] at a2
  obtain ⟨b0, b1, b2⟩ := k2 a1
  have hb4 := (hS.b _ _ _ _ b1).2.1.in4 hg (fun y hy => by rw [List.mem_singleton.1 hy]; have := hsg s List.mem_cons_self; omega)
  have hbv : valW b0 ≤ valW u := Nat.le_trans (before_not a3 hb4 b2) a2
  have hbl := valW_len hb4 hu4 hbv
  have hn : nxB (key3 (s - g.fLetters) p r) w sh st.b = true := by
   unfold nxB
   rw [e, b1]
   simp only [Option.isSome_some, Option.getD_some, Bool.true_and, decide_eq_true_eq]
   omega
  have hnw : nxW (key3 (s - g.fLetters) p r) w sh st.b = w ++ b0 := by
   unfold nxW
   rw [if_pos hn, b1]
   rfl
  rw [hnw] at h2
  obtain ⟨c1, c2, c3⟩ := h2 hn (by rw [List.length_append]; omega)
  exact ⟨c1, Nat.le_trans c2 (by rw [← List.append_assoc]; exact valW_mid hbl hbv), c3⟩
structure Found (g : ApiGrammar) (d : ApiDet) (st : FSt) : Prop where
 sound : SInv g d st
 bok : BOk st.b
 all : ∀ a p u, InQ d p → 0 ≤ a → a < g.fNames → SDer g [a + g.fLetters] u → (mget (key3 a p (aftI d p u)) st.i).getD 0 ≠ 0 ∧ (u.length ≤ 60 → ∃ v, mget (key3 a p (aftI d p u)) st.b = some v ∧ valW v ≤ valW u)
theorem found_of (hg : GrmOk g) (hd : DetOk d) (hl : d.fLetters = g.fLetters) {st : FSt} (hS : SInv g d st) (hB : BOk st.b) (hC : Closed g d st) : Found g d st := by
 refine ⟨hS, hB, fun a p u hp h0 h1 h => ?_⟩
 generalize hsg : [a + g.fLetters] = signs at h
 cases h with
 | nil => cases hsg
 | lett hs hr =>
  injection hsg with e1 e2
  omega
 | @name s rest u v m hs hm hf hu hv =>
  injection hsg with e1 e2
  subst e1
  subst e2
  have hvn : v = [] := by
   generalize hn : ([] : List Int) = nn at hv
   cases hv with
   | nil => rfl
   | lett _ _ => cases hn
   | name _ _ _ _ _ => cases hn
  subst hvn
  rw [List.append_nil]
  have hfa : m.fFrom = a := by omega
  obtain ⟨w1, sh1, ⟨k1, k2⟩, k3⟩ := leaf_of hg hd hl hS hC hu (hg.tos m hm) _ p [] true hp (fun x hx => by cases hx) (hC m hm p hp)
  rw [hfa] at k1 k2
  refine ⟨k1, fun hle => ?_⟩
  obtain ⟨a1, a2, a3⟩ := k3 rfl (by rw [List.length_nil]; omega)
  rw [List.nil_append] at a2
  obtain ⟨b0, b1, b2⟩ := k2 a1
  have hb4 := (hS.b _ _ _ _ b1).2.1.in4 hg (fun y hy => by rw [List.mem_singleton.1 hy]; have := hg.lets; have := hg.names; omega)
  exact ⟨b0, b1, Nat.le_trans (before_not a3 hb4 b2) a2⟩
def potK (st : FSt) (k : Key3) : Nat := (if ((mget k st.i).getD 0 == 0) = true then 1 else 0) + (match mget k st.b with
 | none => 4 ^ 70
 | some w => valW w)
def allK (g : ApiGrammar) (d : ApiDet) : List Key3 := (List.range g.fNames.toNat).flatMap fun (a : Nat) => (List.range d.fNext.length).flatMap fun (p : Nat) => (List.range d.fNext.length).map fun (q : Nat) => key3 a p q
theorem allK_mem {a p q : Int} (h0 : 0 ≤ a) (h1 : a < g.fNames) (hp : InQ d p) (hq : InQ d q) : key3 a p q ∈ allK g d := by
 unfold allK
 refine List.mem_flatMap.2 ⟨a.toNat, List.mem_range.2 (by omega), List.mem_flatMap.2 ⟨p.toNat, List.mem_range.2 (by have := hp.1; have := hp.2; omega), List.mem_map.2 ⟨q.toNat, List.mem_range.2 (by have := hq.1; have := hq.2; omega), ?_⟩⟩⟩
 rw [Int.toNat_of_nonneg h0, Int.toNat_of_nonneg hp.1, Int.toNat_of_nonneg hq.1]
def pot (g : ApiGrammar) (d : ApiDet) (st : FSt) : Nat := ((allK g d).map (potK st)).sum
theorem sum_le {f h : Key3 → Nat} : ∀ {l : List Key3}, (∀ k ∈ l, f k ≤ h k) → (l.map f).sum ≤ (l.map h).sum
 | [], _ => Nat.le_refl _
 | x :: l, e => by
  simp only [List.map_cons, List.sum_cons]
  exact Nat.add_le_add (e x List.mem_cons_self) (sum_le fun k hk => e k (List.mem_cons_of_mem _ hk))
theorem sum_lt {f h : Key3 → Nat} : ∀ {l : List Key3}, (∀ k ∈ l, f k ≤ h k) → (∃ k ∈ l, f k < h k) → (l.map f).sum < (l.map h).sum
 | [], _, ⟨_, hk, _⟩ => by cases hk
 | x :: l, e, ⟨k, hk, hlt⟩ => by
  simp only [List.map_cons, List.sum_cons]
  have h1 := e x List.mem_cons_self
  have h2 := sum_le fun k hk => e k (List.mem_cons_of_mem _ hk)
  rcases List.mem_cons.1 hk with rfl | hk
  ·omega
  ·have := sum_lt (fun k hk => e k (List.mem_cons_of_mem _ hk)) ⟨k, hk, hlt⟩
   omega
def Down (g : ApiGrammar) (d : ApiDet) (s t : FSt) : Prop := pot g d t ≤ pot g d s ∧ (t.ag = true → s.ag = true ∨ pot g d t < pot g d s)
theorem Down.refl (s : FSt) : Down g d s s := ⟨Nat.le_refl _, fun h => .inl h⟩
theorem Down.trans {r s t : FSt} (h : Down g d r s) (k : Down g d s t) : Down g d r t := by
 refine ⟨Nat.le_trans k.1 h.1, fun e => ?_⟩
 rcases k.2 e with e | e
 ·rcases h.2 e with e | e
  ·exact .inl e
  ·exact .inr (Nat.lt_of_le_of_lt k.1 e)
 ·exact .inr (Nat.lt_of_lt_of_le e h.1)
theorem valW_lt {w : List Int} (h : In4 w) (hl : w.length ≤ 60) : valW w < 4 ^ 70 := by
 have h1 : In4 (List.replicate 69 (0 : Int)) := fun x hx => by rw [(List.mem_replicate.1 hx).2]; decide
 have h2 : valW w < valW (List.replicate 69 (0 : Int)) := valW_short h (by rw [List.length_replicate]; omega)
 have h3 : valW (List.replicate 69 (0 : Int)) ≤ 4 ^ 70 := by decide
 omega
theorem tell_down {k : Key3} {w : List Int} {sh : Bool} {s : FSt} (hk : k ∈ allK g d) (hb : ∀ k v, mget k s.b = some v → In4 v) (hw : sh = true → In4 w ∧ w.length ≤ 60) : Down g d s (tellK k w sh s) := by
 have hoth : ∀ k', k' ≠ k → potK (tellK k w sh s) k' = potK s k' := fun k' e => by
  unfold potK tellK
  have h1 : mget k' (if tellC k w sh s = true then mput k w s.b else s.b) = mget k' s.b := by
   split
   ·rw [mget_put, if_neg e]
   ·rfl
  have h2 : mget k' (if tellA k s = true then mput k 1 s.i else s.i) = mget k' s.i := by
   split
   ·rw [mget_put, if_neg e]
   ·rfl
  simp only
  rw [h1, h2]
 have hi : (if ((mget k (tellK k w sh s).i).getD 0 == 0) = true then 1 else 0) ≤ (if ((mget k s.i).getD 0 == 0) = true then 1 else 0) ∧ (tellA k s = true → (if ((mget k (tellK k w sh s).i).getD 0 == 0) = true then 1 else 0) < (if ((mget k s.i).getD 0 == 0) = true then 1 else 0)) := by
  unfold tellK tellA
  simp only
  by_cases ha : ((mget k s.i).getD 0 == 0) = true
  ·have h1 : mget k (if ((mget k s.i).getD 0 == 0) = true then mput k 1 s.i else s.i) = some 1 := by rw [if_pos ha, mget_put, if_pos rfl]
   rw [h1, if_pos ha]
   exact ⟨by decide, fun _ => by decide⟩
  ·rw [if_neg ha, if_neg ha]
   exact ⟨Nat.le_refl _, fun h => absurd h ha⟩
 have hbb : (match mget k (tellK k w sh s).b with
   | none => 4 ^ 70
   | some w => valW w) ≤ (match mget k s.b with
   | none => 4 ^ 70
   | some w => valW w) ∧ (tellC k w sh s = true → (match mget k (tellK k w sh s).b with
   | none => 4 ^ 70
   | some w => valW w) < (match mget k s.b with
   | none => 4 ^ 70
   | some w => valW w)) := by
  unfold tellK
  simp only
  by_cases hc : tellC k w sh s = true
  ·rw [if_pos hc, mget_put, if_pos rfl]
   have hc' := hc
   unfold tellC at hc'
   rw [Bool.and_eq_true] at hc'
   obtain ⟨w4, wl⟩ := hw hc'.1
   cases e : mget k s.b with
   | none =>
    have := valW_lt w4 wl
    exact ⟨Nat.le_of_lt this, fun _ => this⟩
   | some v =>
    rw [e] at hc'
    have h2 : beforeB w v = true := by simpa using hc'.2
    have := (before_val w4 (hb k v e) h2).1
    exact ⟨Nat.le_of_lt this, fun _ => this⟩
  ·rw [if_neg hc]
   exact ⟨Nat.le_refl _, fun h => absurd h hc⟩
 have hle : ∀ k' ∈ allK g d, potK (tellK k w sh s) k' ≤ potK s k' := fun k' _ => by
  by_cases e : k' = k
  ·subst e
   exact Nat.add_le_add hi.1 hbb.1
  ·rw [hoth k' e]
   exact Nat.le_refl _
 refine ⟨sum_le hle, fun h => ?_⟩
 by_cases hc : tellC k w sh s = true
 ·exact .inr (sum_lt hle ⟨k, hk, Nat.add_lt_add_of_le_of_lt hi.1 (hbb.2 hc)⟩)
 ·by_cases ha : tellA k s = true
  ·exact .inr (sum_lt hle ⟨k, hk, Nat.add_lt_add_of_lt_of_le (hi.2 ha) hbb.1⟩)
  ·unfold tellK at h
   simp only at h
   rw [if_neg hc, if_neg ha] at h
   exact .inl h
theorem SInv.in4 (hg : GrmOk g) {s : FSt} (h : SInv g d s) : ∀ k v, mget k s.b = some v → In4 v := fun k v e => by
 obtain ⟨a, p, q, rfl⟩ := key3_all k
 obtain ⟨h0, h1, _⟩ := h.b a p q v e
 have hl := hg.lets
 exact h1.in4 hg fun x hx => by rw [List.mem_singleton.1 hx]; omega
theorem rows_run (hg : GrmOk g) (hd : DetOk d) (hl : d.fLetters = g.fLetters) {m : ApiMake} (hm : m ∈ g.fMakes) {p : Int} (hp : InQ d p) {s0 : FSt} : ∀ (signs : List Int) (q : Int) (w : List Int) (sh : Bool) (st : FSt) (c : List Int), c ++ signs = m.fTo → (∃ u, SDer g c u ∧ aftI d p u = q ∧ (sh = true → w = u ∧ u.length ≤ 60)) → SInv g d st ∧ Down g d s0 st → SInv g d (rowsS g d m p signs q w sh st) ∧ Down g d s0 (rowsS g d m p signs q w sh st)
 | [], q, w, sh, st, c, hc, hu, h => by
  rw [List.append_nil] at hc
  subst hc
  obtain ⟨u, h1, h2, h3⟩ := hu
  refine ⟨tell_sound hg hm h.1 ⟨u, h1, h2, fun e => (h3 e).1⟩, h.2.trans (tell_down (allK_mem (hg.from_ m hm).1 (hg.from_ m hm).2 hp ?_) (h.1.in4 hg) fun e => ?_)⟩
  ·rw [← h2]
   exact aftI_in hd u p (h1.inA hg hl (hg.tos m hm)) hp
  ·rw [(h3 e).1]
   exact ⟨h1.in4 hg (hg.tos m hm), (h3 e).2⟩
 | s :: rest, q, w, sh, st, c, hc, hu, h => by
  rw [rowsS]
  split
  ·rename_i hs
   obtain ⟨u, h1, h2, h3⟩ := hu
   refine rows_run hg hd hl hm hp rest _ _ _ _ (c ++ [s]) (by rw [List.append_assoc]; exact hc) ⟨u ++ [s], h1.app (.lett hs .nil), ?_, fun e => ?_⟩ h
   ·rw [aftI_app, h2]
    rfl
   ·rw [Bool.and_eq_true, decide_eq_true_eq] at e
    rw [← (h3 e.1).1, List.length_append, List.length_singleton]
    exact ⟨rfl, by omega⟩
  ·rename_i hs
   refine foldl_rel (P := fun st => SInv g d st ∧ Down g d s0 st) (fun st r hst => ?_) _ _ h
   unfold nameF
   split
   ·exact hst
   ·rename_i hi
    obtain ⟨u, h1, h2, h3⟩ := hu
    have hs' : [s - g.fLetters + g.fLetters] = [s] := by rw [Int.sub_add_cancel]
    by_cases hn : nxB (key3 (s - g.fLetters) q r) w sh st.b = true
    ·have hn' := hn
     unfold nxW
     rw [if_pos hn]
     unfold nxB at hn'
     simp only [Bool.and_eq_true, decide_eq_true_eq] at hn'
     obtain ⟨v, hv⟩ := Option.isSome_iff_exists.1 hn'.1.2
     obtain ⟨_, k1, k2⟩ := hst.1.b _ _ _ _ hv
     rw [hs'] at k1
     refine rows_run hg hd hl hm hp rest _ _ _ _ (c ++ [s]) (by rw [List.append_assoc]; exact hc) ⟨u ++ v, h1.app k1, by rw [aftI_app, h2, k2], fun _ => ?_⟩ hst
     have h4 := hn'.2
     rw [hv] at h4 ⊢
     rw [← (h3 hn'.1.1).1, List.length_append]
     exact ⟨rfl, h4⟩
    ·obtain ⟨v, k1, k2⟩ := hst.1.i (s - g.fLetters) q r (by simpa using hi)
     rw [hs'] at k1
     exact rows_run hg hd hl hm hp rest _ _ _ _ (c ++ [s]) (by rw [List.append_assoc]; exact hc) ⟨u ++ v, h1.app k1, by rw [aftI_app, h2, k2], fun e => absurd e hn⟩ hst
def ruleF (g : ApiGrammar) (d : ApiDet) (m : ApiMake) (st : FSt) (p : Nat) : FSt := rowsS g d m p m.fTo p [] true st
def makeF (g : ApiGrammar) (d : ApiDet) (st : FSt) (m : ApiMake) : FSt := (List.range d.fNext.length).foldl (ruleF g d m) st
def passF (g : ApiGrammar) (d : ApiDet) (st : FSt) : FSt := g.fMakes.foldl (makeF g d) st
theorem rule_run (hg : GrmOk g) (hd : DetOk d) (hl : d.fLetters = g.fLetters) {m : ApiMake} (hm : m ∈ g.fMakes) {s0 : FSt} (st : FSt) {p : Nat} (hp : p < d.fNext.length) (h : SInv g d st ∧ Down g d s0 st) : SInv g d (ruleF g d m st p) ∧ Down g d s0 (ruleF g d m st p) :=
 rows_run hg hd hl hm (p := (p : Int)) ⟨by omega, by omega⟩ m.fTo p [] true st [] rfl ⟨[], .nil, rfl, fun _ => ⟨rfl, Nat.zero_le _⟩⟩ h
theorem make_run (hg : GrmOk g) (hd : DetOk d) (hl : d.fLetters = g.fLetters) {m : ApiMake} (hm : m ∈ g.fMakes) {s0 : FSt} (k : Nat) (hk : k ≤ d.fNext.length) (st : FSt) (h : SInv g d st ∧ Down g d s0 st) : SInv g d ((List.range k).foldl (ruleF g d m) st) ∧ Down g d s0 ((List.range k).foldl (ruleF g d m) st) :=
 foldl_relM (P := fun st => SInv g d st ∧ Down g d s0 st) _ _ (fun st p hp hst => rule_run hg hd hl hm st (by have := List.mem_range.1 hp; omega) hst) h
theorem pass_run (hg : GrmOk g) (hd : DetOk d) (hl : d.fLetters = g.fLetters) {s0 : FSt} (k : Nat) (st : FSt) (h : SInv g d st ∧ Down g d s0 st) : SInv g d ((g.fMakes.take k).foldl (makeF g d) st) ∧ Down g d s0 ((g.fMakes.take k).foldl (makeF g d) st) :=
 foldl_relM (P := fun st => SInv g d st ∧ Down g d s0 st) _ _ (fun st m hm hst => make_run hg hd hl (List.mem_of_mem_take hm) _ (Nat.le_refl _) st hst) h
theorem rule_bok {m : ApiMake} {st : FSt} {p : Nat} (h : BOk st.b) : BOk (ruleF g d m st p).b := rowsS_bok _ _ _ _ _ (fun _ => Nat.zero_le _) h
theorem make_bok {m : ApiMake} (k : Nat) {st : FSt} (h : BOk st.b) : BOk ((List.range k).foldl (ruleF g d m) st).b := foldl_rel (P := fun st : FSt => BOk st.b) (fun _ _ hst => rule_bok hst) _ _ h
theorem pass_bok (k : Nat) {st : FSt} (h : BOk st.b) : BOk ((g.fMakes.take k).foldl (makeF g d) st).b := foldl_rel (P := fun st : FSt => BOk st.b) (fun _ _ hst => make_bok _ hst) _ _ h
theorem make_up {m : ApiMake} {st : FSt} (h : st.ag = true) : (makeF g d st m).ag = true := foldl_rel (P := fun st : FSt => st.ag = true) (fun _ _ hst => rows_up _ _ _ _ _ hst) _ _ h
theorem pass_still {st : FSt} (h : (passF g d st).ag = false) : passF g d st = st ∧ Closed g d st := by
 obtain ⟨h1, h2⟩ := foldl_still (f := makeF g d) (Q := fun m => ∀ p ∈ List.range d.fNext.length, AllLeaf g d st (fun q w sh => Still (key3 m.fFrom p q) w sh st) m.fTo p [] true) (fun _ _ hst => make_up hst) (fun m hm => by
  obtain ⟨k1, k2⟩ := foldl_still (f := ruleF g d m) (Q := fun p : Nat => AllLeaf g d st (fun q w sh => Still (key3 m.fFrom p q) w sh st) m.fTo p [] true) (fun _ _ hst => rows_up _ _ _ _ _ hst) (fun p hp => rows_still _ _ _ _ _ hp) _ hm
  exact ⟨k1, k2⟩) _ h
 refine ⟨h1, fun m hm p hp => ?_⟩
 have := h2 m hm p.toNat (List.mem_range.2 (by have := hp.1; have := hp.2; omega))
 rw [Int.toNat_of_nonneg hp.1] at this
 exact this
theorem SInv.ag {st : FSt} {x : Bool} (h : SInv g d st) : SInv g d ⟨st.b, st.i, x⟩ := ⟨h.i, h.b⟩
end
def isNaNI_vc (x : Int) (Q : Bool → Prop) : Prop :=
 Q (x != x)
theorem isNaNI_walk (x : Int) (Q : Bool → Prop) (h : isNaNI_vc x Q) : Ct 211 [.sv (.one (I x))] [] Q (fun (r : Bool) => .sv (.one (B r))) := by
 have ht := tab_ok
 refine Ct.body Try.func211 rfl rfl rfl rfl (fun c hn => ?_)
 unfold isNaNI_vc at h
 refine En.sr ?_
 refine WL.rn ht hn 1 ⟨[sl 0 (I x)], []⟩ ?_
 refine En.sr ?_
 refine WL.rn ht hn 4 ⟨[sl 2 (B (x != x))], []⟩ ?_
 exact En.rb ht (x != x) h
theorem en211 : ∀ args w, (callFunc 211 args).run Try.prog w = .ok (.enter 211 args) w := enters_of Try.func211 (by kernel_rfl) rfl
theorem isNaNI_ct (x : Int)  : Ct 211 [.sv (.one (I x))] [] (fun (_ : Unit) => True) (fun _ => .sv (.one (B (false)))) := by
 refine (isNaNI_walk x (fun res_ => res_ = (false)) ?_).fun
 show (x != x) = false
 simp
def cmpI_vc (x : Int) (y : Int) (Q : Int → Prop) : Prop :=
 IfP (false) (IfP (false) (Q 0) (Q (-1))) (IfP (false) (Q 1) (IfP (decide (x < y)) (Q (-1)) (IfP (decide (x > y)) (Q 1) (Q 0))))
theorem cmpI_walk (x : Int) (y : Int) (Q : Int → Prop) (h : cmpI_vc x y Q) : Ct 183 [.sv (.one (I x)), .sv (.one (I y))] [] Q (fun (r : Int) => .sv (.one (I r))) := by
 have ht := tab_ok
 refine Ct.body Try.func183 rfl rfl rfl rfl (fun c hn => ?_)
 unfold cmpI_vc at h
 refine En.sr ?_
 refine WL.rn ht hn 1 ⟨[sl 0 (I x), sl 1 (I y)], []⟩ ?_
 refine En.sr ?_
 refine WL.r ht hn 1 ⟨[sl 0 (I x), sl 1 (I y), sl 7 (I x)], []⟩ ?_
 refine WL.m0 hn (mt_c (isNaNI_ct x) en211 rfl) ?_
 refine WL.rn ht hn 1 ⟨[sl 0 (I x), sl 1 (I y), sl 5 (B false)], []⟩ ?_
 refine En.sr ?_
 refine WL.r ht hn 1 ⟨[sl 0 (I x), sl 1 (I y), sl 5 (B false), sl 9 (I y)], []⟩ ?_
 refine WL.m0 hn (mt_c (isNaNI_ct y) en211 rfl) ?_
 refine WL.rn ht hn 1 ⟨[sl 0 (I x), sl 1 (I y), sl 5 (B false), sl 6 (B false)], []⟩ ?_
 refine En.seq ?_
 refine En.sr ?_
 refine WL.rn ht hn 1 ⟨[sl 0 (I x), sl 1 (I y), sl 6 (B false), sl 11 (B false)], []⟩ ?_
 refine En.ch h (fun h => ?_) (fun h => ?_)
 refine En.seq ?_
 refine En.sr ?_
 refine WL.rn ht hn 1 ⟨[sl 12 (B false)], []⟩ ?_
 refine En.ch h (fun h => ?_) (fun h => ?_)
 refine En.sr ?_
 refine WL.rn ht hn 1 ⟨[sl 4 (I 0)], []⟩ ?_
 exact En.rb ht 0 h
 refine En.skip ?_
 refine En.sr ?_
 refine WL.rn ht hn 1 ⟨[sl 4 (I (-1))], []⟩ ?_
 exact En.rb ht (-1) h
 refine En.skip ?_
 refine En.seq ?_
 refine En.sr ?_
 refine WL.rn ht hn 1 ⟨[sl 0 (I x), sl 1 (I y), sl 13 (B false)], []⟩ ?_
 refine En.ch h (fun h => ?_) (fun h => ?_)
 refine En.sr ?_
 refine WL.rn ht hn 1 ⟨[sl 4 (I 1)], []⟩ ?_
 exact En.rb ht 1 h
 refine En.skip ?_
 refine En.seq ?_
 refine En.sr ?_
 refine WL.rn ht hn 3 ⟨[sl 0 (I x), sl 1 (I y), sl 16 (B (decide (x < y)))], []⟩ ?_
 refine En.ch h (fun h => ?_) (fun h => ?_)
 refine En.sr ?_
 refine WL.rn ht hn 1 ⟨[sl 4 (I (-1))], []⟩ ?_
 exact En.rb ht (-1) h
 refine En.skip ?_
 refine En.seq ?_
 refine En.sr ?_
 refine WL.rn ht hn 3 ⟨[sl 19 (B (decide (x > y)))], []⟩ ?_
 refine En.ch h (fun h => ?_) (fun h => ?_)
 refine En.sr ?_
 refine WL.rn ht hn 1 ⟨[sl 4 (I 1)], []⟩ ?_
 exact En.rb ht 1 h
 refine En.skip ?_
 refine En.sr ?_
 refine WL.rn ht hn 1 ⟨[sl 4 (I 0)], []⟩ ?_
 exact En.rb ht 0 h
theorem en183 : ∀ args w, (callFunc 183 args).run Try.prog w = .ok (.enter 183 args) w := enters_of Try.func183 (by kernel_rfl) rfl
theorem cmpI_ct (x : Int) (y : Int)  : Ct 183 [.sv (.one (I x)), .sv (.one (I y))] [] (fun (_ : Unit) => True) (fun _ => .sv (.one (I (cmpR x y)))) := by
 refine (cmpI_walk x y (fun res_ => res_ = (cmpR x y)) ?_).fun
 refine ⟨fun h => absurd h (by decide), fun _ => ⟨fun h => absurd h (by decide), fun _ => ⟨fun h => ?_, fun h => ⟨fun h2 => ?_, fun h2 => ?_⟩⟩⟩⟩
 ·show _ = cmpR x y
  rw [cmpR, if_pos (of_decide_eq_true h)]
 ·show _ = cmpR x y
  rw [cmpR, if_neg (of_decide_eq_false h), if_pos (of_decide_eq_true h2)]
 ·show _ = cmpR x y
  rw [cmpR, if_neg (of_decide_eq_false h), if_neg (of_decide_eq_false h2)]
def cmpLs_vc (a : List Int) (b : List Int) (Q : Int → Prop) : Prop :=
 a.length ≤ 9223372036854775807 →
 b.length ≤ 9223372036854775807 →
 (∃ (Inv : Int → Prop) (mu : Int → Nat), Inv 0 ∧
 ∀ (x11 : Int) , Inv x11 → (IfP (decide (x11 < (a.length : Int))) (∃ e, idx a x11 = some e ∧
 IfP (decide (x11 ≥ (b.length : Int))) (Q 1) (∃ e_2, idx b x11 = some e_2 ∧
 IfP ((cmpR e e_2) != 0) (Q (cmpR e e_2)) ((Inv (wr (x11 + 1)) ∧ mu (wr (x11 + 1)) < mu x11)))) (IfP (decide ((a.length : Int) < (b.length : Int))) (Q (-1)) (Q 0))))
noncomputable abbrev qg0 (a : List Int) := sl 10 (I (a.length : Int))
noncomputable abbrev qg1 (a : List Int) := sl 0 (LS intT a)
noncomputable abbrev qg2 (b : List Int) := sl 1 (LS intT b)
theorem cmpLs_walk (a : List Int) (b : List Int) (Q : Int → Prop) (h : cmpLs_vc a b Q) : Ct 141 [.sv (.one (LS intT a)), .sv (.one (LS intT b))] [] Q (fun (r : Int) => .sv (.one (I r))) := by
 have ht := tab_ok
 refine Ct.body Try.func141 rfl rfl rfl rfl (fun c hn => ?_)
 unfold cmpLs_vc at h
 refine En.lenL 0 (by rfl) (fun hl => ?_)
 replace h := h hl
 clear hl
 refine En.lenL 1 (by rfl) (fun hl => ?_)
 replace h := h hl
 clear hl
 refine En.sr ?_
 refine WL.rn ht hn 1 ⟨[qg1 a, qg2 b], []⟩ ?_
 refine En.seq ?_
 refine En.sr ?_
 refine WL.rn ht hn 3 ⟨[qg1 a, qg2 b, sl 9 (LS intT a), qg0 a, sl 11 (I 0)], []⟩ ?_
 refine En.block ?_
 obtain ⟨Inv, mu, h0, hI⟩ := h
 refine En.loop (σ := Int) (fun zz => Inv zz) (fun zz => mu zz) (fun zz => ⟨[qg1 a, qg2 b, sl 9 (LS intT a), qg0 a, sl 11 (I zz)], []⟩) 0 h0 (sub_ok (by kernel_rfl)) ?_
 intro x11 h
 replace h := hI _ h
 show En c ⟨[qg1 a, qg2 b, sl 9 (LS intT a), qg0 a, sl 11 (I x11)], []⟩ _
 refine En.sr ?_
 refine WL.rn ht hn 1 ⟨[qg1 a, qg2 b, sl 9 (LS intT a), qg0 a, sl 11 (I x11), sl 12 (B (decide (x11 < (a.length : Int))))], []⟩ ?_
 refine En.seq ?_
 refine En.ch h (fun h => ?_) (fun h => ?_)
 refine En.skip ?_
 refine En.seq ?_
 refine En.block ?_
 refine En.sr ?_
 refine WL.r ht hn 1 ⟨[qg1 a, qg2 b, sl 9 (LS intT a), qg0 a, sl 11 (I x11), sl 13 (I x11)], []⟩ ?_
 obtain ⟨e, he, h⟩ := h
 refine WL.v hn (val_ix (T := intT) (l := a) (i := x11) ht rfl he) ?_
 refine WL.v hn (val_ld (s := .one (I e)) ht rfl) ?_
 refine WL.rn ht hn 2 ⟨[qg1 a, qg2 b, sl 5 (I x11), sl 6 (I e), sl 9 (LS intT a), qg0 a, sl 11 (I x11)], []⟩ ?_
 refine En.seq ?_
 refine En.sr ?_
 refine WL.rn ht hn 4 ⟨[qg1 a, qg2 b, sl 5 (I x11), sl 6 (I e), sl 9 (LS intT a), qg0 a, sl 11 (I x11), sl 19 (B (decide (x11 ≥ (b.length : Int))))], []⟩ ?_
 refine En.ch h (fun h => ?_) (fun h => ?_)
 refine En.sr ?_
 refine WL.rn ht hn 1 ⟨[sl 4 (I 1)], []⟩ ?_
 exact En.rb ht 1 h
 refine En.skip ?_
 refine En.sr ?_
 refine WL.r ht hn 2 ⟨[qg1 a, qg2 b, sl 6 (I e), sl 9 (LS intT a), qg0 a, sl 11 (I x11), sl 20 (LS intT b), sl 21 (I x11)], []⟩ ?_
 obtain ⟨e_2, he_2, h⟩ := h
 refine WL.v hn (val_ix (T := intT) (l := b) (i := x11) ht rfl he_2) ?_
 refine WL.v hn (val_ld (s := .one (I e_2)) ht rfl) ?_
 refine WL.rn ht hn 1 ⟨[qg1 a, qg2 b, sl 6 (I e), sl 7 (I e_2), sl 9 (LS intT a), qg0 a, sl 11 (I x11)], []⟩ ?_
 refine En.sr ?_
 refine WL.r ht hn 2 ⟨[qg1 a, qg2 b, sl 9 (LS intT a), qg0 a, sl 11 (I x11), sl 24 (I e), sl 25 (I e_2)], []⟩ ?_
 refine WL.m0 hn (mt_c (cmpI_ct e e_2) en183 rfl) ?_
 refine WL.rn ht hn 1 ⟨[qg1 a, qg2 b, sl 8 (I (cmpR e e_2)), sl 9 (LS intT a), qg0 a, sl 11 (I x11)], []⟩ ?_
 refine En.sr ?_
 refine WL.rn ht hn 2 ⟨[qg1 a, qg2 b, sl 8 (I (cmpR e e_2)), sl 9 (LS intT a), qg0 a, sl 11 (I x11), sl 28 (B ((cmpR e e_2) != 0))], []⟩ ?_
 refine En.ch h (fun h => ?_) (fun h => ?_)
 refine En.sr ?_
 refine WL.rn ht hn 2 ⟨[sl 4 (I (cmpR e e_2))], []⟩ ?_
 exact En.rb ht (cmpR e e_2) h
 refine En.skip ?_
 refine En.region ?_
 refine WL.rn ht hn 2 ⟨[qg1 a, qg2 b, sl 9 (LS intT a), qg0 a, sl 11 (I (wr (x11 + 1)))], []⟩ ?_
 exact En.at (I := fun zz => Inv zz ∧ mu zz < mu x11) (T := fun zz => ⟨[qg1 a, qg2 b, sl 9 (LS intT a), qg0 a, sl 11 (I zz)], []⟩) (wr (x11 + 1)) h (by kernel_rfl)
 refine En.exit rfl ?_
 refine En.seq ?_
 refine En.sr ?_
 refine WL.rn ht hn 5 ⟨[sl 35 (B (decide ((a.length : Int) < (b.length : Int))))], []⟩ ?_
 refine En.ch h (fun h => ?_) (fun h => ?_)
 refine En.sr ?_
 refine WL.rn ht hn 1 ⟨[sl 4 (I (-1))], []⟩ ?_
 exact En.rb ht (-1) h
 refine En.skip ?_
 refine En.sr ?_
 refine WL.rn ht hn 1 ⟨[sl 4 (I 0)], []⟩ ?_
 exact En.rb ht 0 h
theorem en141 : ∀ args w, (callFunc 141 args).run Try.prog w = .ok (.enter 141 args) w := enters_of Try.func141 (by kernel_rfl) rfl
theorem cmpLs_ct (a : List Int) (b : List Int)  : Ct 141 [.sv (.one (LS intT a)), .sv (.one (LS intT b))] [] (fun (_ : Unit) => True) (fun _ => .sv (.one (I (cmpL a b)))) := by
 refine (cmpLs_walk a b (fun res_ => res_ = (cmpL a b)) ?_).fun
 intro ha hb
 refine ⟨fun i => ∃ k : Nat, i = k ∧ k ≤ a.length ∧ (k ≤ b.length) ∧ cmpL a b = cmpL (a.drop k) (b.drop k), fun i => a.length - i.toNat, ⟨0, rfl, Nat.zero_le _, Nat.zero_le _, rfl⟩, ?_⟩
 rintro i ⟨k, rfl, hk, hkb, ht⟩
 refine ⟨fun hb1 => ?_, fun hb1 => ?_⟩
 ·have hlt := dlt hb1
  refine ⟨_, idx_at hlt, fun h2 => ?_, fun h2 => ?_⟩
  ·have h2 : b.length ≤ k := by have := of_decide_eq_true h2; omega
   show 1 = cmpL a b
   rw [ht, List.drop_eq_getElem_cons hlt, List.drop_eq_nil_of_le h2]
   rfl
  ·have h2 : k < b.length := by have := of_decide_eq_false h2; omega
   refine ⟨_, idx_at h2, fun h3 => ?_, fun h3 => ⟨⟨k + 1, wsucc (by omega), hlt, h2, ?_⟩, mu_up hlt (by omega)⟩⟩
   ·show _ = cmpL a b
    rw [ht, cmpL_drop hlt h2, if_pos (by simpa using h3)]
   ·rw [ht, cmpL_drop hlt h2, if_neg (by simpa using h3)]
 ·have hk' : k = a.length := by have := dge hb1; omega
  subst hk'
  rw [List.drop_length] at ht
  refine ⟨fun h2 => ?_, fun h2 => ?_⟩
  ·have h2 := of_decide_eq_true h2
   show -1 = cmpL a b
   rw [ht, List.drop_eq_getElem_cons (by omega)]
   rfl
  ·have h2 := of_decide_eq_false h2
   show 0 = cmpL a b
   rw [ht, List.drop_eq_nil_of_le (by omega)]
   rfl
def gBef_vc (a : List Int) (b : List Int) (Q : Bool → Prop) : Prop :=
 a.length ≤ 9223372036854775807 →
 b.length ≤ 9223372036854775807 →
 (IfP ((a.length : Int) != (b.length : Int)) (Q (decide ((a.length : Int) < (b.length : Int)))) (Q (decide ((cmpL a b) < 0))))
theorem gBef_walk (a : List Int) (b : List Int) (Q : Bool → Prop) (h : gBef_vc a b Q) : Ct 90 [.sv (.one (LS intT a)), .sv (.one (LS intT b))] [] Q (fun (r : Bool) => .sv (.one (B r))) := by
 have ht := tab_ok
 refine Ct.body Try.func90 rfl rfl rfl rfl (fun c hn => ?_)
 unfold gBef_vc at h
 refine En.lenL 0 (by rfl) (fun hl => ?_)
 replace h := h hl
 clear hl
 refine En.lenL 1 (by rfl) (fun hl => ?_)
 replace h := h hl
 clear hl
 refine En.sr ?_
 refine WL.rn ht hn 1 ⟨[sl 0 (LS intT a), sl 1 (LS intT b)], []⟩ ?_
 refine En.seq ?_
 refine En.sr ?_
 refine WL.rn ht hn 5 ⟨[sl 0 (LS intT a), sl 1 (LS intT b), sl 9 (B ((a.length : Int) != (b.length : Int)))], []⟩ ?_
 refine En.ch h (fun h => ?_) (fun h => ?_)
 refine En.sr ?_
 refine WL.rn ht hn 6 ⟨[sl 4 (B (decide ((a.length : Int) < (b.length : Int))))], []⟩ ?_
 exact En.rb ht (decide ((a.length : Int) < (b.length : Int))) h
 refine En.skip ?_
 refine En.sr ?_
 refine WL.r ht hn 2 ⟨[sl 15 (LS intT a), sl 16 (LS intT b)], []⟩ ?_
 refine WL.m0 hn (mt_c (cmpLs_ct a b) en141 rfl) ?_
 refine WL.rn ht hn 2 ⟨[sl 4 (B (decide ((cmpL a b) < 0)))], []⟩ ?_
 exact En.rb ht (decide ((cmpL a b) < 0)) h
theorem en90 : ∀ args w, (callFunc 90 args).run Try.prog w = .ok (.enter 90 args) w := enters_of Try.func90 (by kernel_rfl) rfl
theorem gBef_ct (a : List Int) (b : List Int)  : Ct 90 [.sv (.one (LS intT a)), .sv (.one (LS intT b))] [] (fun (_ : Unit) => True) (fun _ => .sv (.one (B (beforeB a b)))) := by
  refine (gBef_walk a b (fun res_ => res_ = (beforeB a b)) ?_).fun
  intro _ _
  refine ⟨fun h => ?_, fun h => ?_⟩
  · show _ = beforeB a b
    have h : a.length ≠ b.length := by have : (a.length : Int) ≠ b.length := by simpa using h
                                       omega
    rw [beforeB, if_pos h]
    simp
  · show _ = beforeB a b
    have h : a.length = b.length := by have : (a.length : Int) = b.length := by simpa using h
                                       omega
    rw [beforeB, if_neg (fun c => c h)]
def gTel_vc (g : ApiGrammar) (d : ApiDet) (bM : List (St170 × (List Int))) (iM : List (St170 × Int)) (m : ApiMake) (pS : Int) (ag : Bool) (q : Int) (w : List Int) (sh : Bool) (Q : (List (St170 × (List Int))) × (List (St170 × Int)) × Bool → Prop) : Prop :=
 w.length ≤ 9223372036854775807 →
 (∃ J : Bool → (List (St170 × Int)) → Prop, (IfP (((mget (St170.mk m.fFrom pS q) iM).getD (0 : Int)) == 0) (J true (mput (St170.mk m.fFrom pS q) 1 (mput (St170.mk m.fFrom pS q) ((mget (St170.mk m.fFrom pS q) iM).getD (0 : Int)) iM))) (J ag iM)) ∧
 (∀ (y3 : Bool) (m6 : List (St170 × Int)), J y3 m6 → ∃ J_2 : Bool → Prop, (IfP sh (IfP (!(mget (St170.mk m.fFrom pS q) bM).isSome) (J_2 true) (J_2 (beforeB w ((mget (St170.mk m.fFrom pS q) bM).getD [])))) (J_2 false)) ∧
 (∀ (x50 : Bool), J_2 x50 → IfP x50 ((w.length * 8 ≤ 140737488355328) ∧
 Q ((mput (St170.mk m.fFrom pS q) (w) (mput (St170.mk m.fFrom pS q) ((mget (St170.mk m.fFrom pS q) bM).getD []) bM)), m6, true)) (Q (bM, m6, y3)))))
noncomputable abbrev qh0 (g : ApiGrammar) (d : ApiDet) := (.box [I g.fLetters, I g.fNames, LS ApiMake.ty g.fMakes, I d.fLetters, I d.fStart, LS (lsT intT) d.fNext, LS intT d.fMark, .own 5, .own 6] 169 false : Item)
noncomputable abbrev qh1 (m : ApiMake) (pS : Int) (g : ApiGrammar) (d : ApiDet) (bM : List (St170 × (List Int))) (q : Int) (y0 : Nat → Nat) (y1) (y2) := ([.box (ApiMake.cl m) 39 false, .box [I pS] 3 false, .box [.pptr 4 0 (y0 4)] 165 false, .box [B y1] 4 false, (qh0 g d), mapI St170.enc (lsT intT) bM, mapI St170.enc intT y2, .box [I m.fFrom, I pS, I q] 170 false] : List Item)
noncomputable abbrev qh2 (w : List Int) (sh : Bool) (y0 : Nat → Nat) := ([sl 1 (LS intT w), sl 2 (B sh), sl 3 (.pptr 0 0 (y0 0)), sl 4 (.pptr 1 0 (y0 1)), sl 5 (.pptr 2 0 (y0 2)), sl 6 (.pptr 3 0 (y0 3)), sl 10 (.ptr 7 0)] : List (Nat × SC))
noncomputable abbrev qh3 (m : ApiMake) (pS : Int) (q : Int) := (St170.mk m.fFrom pS q)
noncomputable abbrev qh4 (y0 : Nat → Nat) := (.box [.pptr 4 0 (y0 4)] 165 false : Item)
noncomputable abbrev qh5 (y0 : Nat → Nat) := sl 5 (.pptr 2 0 (y0 2))
noncomputable abbrev qh6 (w : List Int) (y0 : Nat → Nat) (y1) := ([sl 1 (LS intT w), sl 3 (.pptr 0 0 (y0 0)), sl 4 (.pptr 1 0 (y0 1)), (qh5 y0), sl 6 (.pptr 3 0 (y0 3)), sl 10 (.ptr 7 0), sl 50 (B y1)] : List (Nat × SC))
noncomputable abbrev qh7 (y0 : Nat → Nat) := sl 3 (.pptr 0 0 (y0 0))
noncomputable abbrev qh8 (y0 : Nat → Nat) := sl 4 (.pptr 1 0 (y0 1))
noncomputable abbrev qh9 (y0 : Nat → Nat) := sl 6 (.pptr 3 0 (y0 3))
noncomputable abbrev qh10 (m : ApiMake) (pS : Int) (q : Int) := (.box [I m.fFrom, I pS, I q] 170 false : Item)
noncomputable abbrev qh11 (m : ApiMake) (pS : Int) (q : Int) (bM : List (St170 × (List Int))) := (LS intT ((mget (qh3 m pS q) bM).getD []))
noncomputable abbrev qh12 := sl 10 (.ptr 7 0)
noncomputable abbrev qh13 (pS : Int) := (.box [I pS] 3 false : Item)
noncomputable abbrev qh14 (m : ApiMake) (pS : Int) (q : Int) := ([.gone, .gone, .gone, .gone, .gone, .gone, .gone, (qh10 m pS q)] : List Item)
theorem gTel_walk (g : ApiGrammar) (d : ApiDet) (bM : List (St170 × (List Int))) (iM : List (St170 × Int)) (m : ApiMake) (pS : Int) (ag : Bool) (q : Int) (w : List Int) (sh : Bool) (Q : (List (St170 × (List Int))) × (List (St170 × Int)) × Bool → Prop) (h : gTel_vc g d bM iM m pS ag q w sh Q) : CtE 140 [.sv (.one (I q)), .sv (.one (LS intT w)), .sv (.one (B sh)), .sv (.one (.ptr 0 0)), .sv (.one (.ptr 1 0)), .sv (.one (.ptr 2 0)), .sv (.one (.ptr 3 0))] [.box [I m.fFrom, LS intT m.fTo] 39 false, .box [I pS] 3 false, .box [.ptr 4 0] 165 false, .box [B ag] 4 false, .box [I g.fLetters, I g.fNames, LS ApiMake.ty g.fMakes, I d.fLetters, I d.fStart, LS (lsT intT) d.fNext, LS intT d.fMark, .own 5, .own 6] 169 false, mapI St170.enc (lsT intT) bM, mapI St170.enc intT iM] [0, 1, 2, 3, 4] Q (fun (r : (List (St170 × (List Int))) × (List (St170 × Int)) × Bool) => .tup []) (fun (r : (List (St170 × (List Int))) × (List (St170 × Int)) × Bool) => [.box [I m.fFrom, LS intT m.fTo] 39 false, .box [I pS] 3 false, .box [.ptr 4 0] 165 false, .box [B r.2.2] 4 false, .box [I g.fLetters, I g.fNames, LS ApiMake.ty g.fMakes, I d.fLetters, I d.fStart, LS (lsT intT) d.fNext, LS intT d.fMark, .own 5, .own 6] 169 false, mapI St170.enc (lsT intT) r.1, mapI St170.enc intT r.2.1]) := by
 have ht := tab_ok
 refine CtE.bodyP [0, 1, 2, 3, 4] [] Try.func140 rfl rfl rfl (by kernel_rfl) (by kernel_rfl) (fun c Bk Vk hn => ?_)
 unfold gTel_vc at h
 show En c ⟨[sl 0 (I q), sl 1 (LS intT w), sl 2 (B sh), qh7 Bk, qh8 Bk, qh5 Bk, qh9 Bk], [.box (ApiMake.cl m) 39 false, qh13 pS, qh4 Bk, .box [B ag] 4 false, qh0 g d, mapI St170.enc (lsT intT) bM, mapI St170.enc intT iM]⟩ _
 refine En.lenL 1 (by rfl) (fun hl => ?_)
 replace h := h hl
 clear hl
 refine En.sr ?_
 refine WL.rn ht hn 7 ⟨(qh2 w sh Bk), [.box (ApiMake.cl m) 39 false, qh13 pS, qh4 Bk, .box [B ag] 4 false, qh0 g d, mapI St170.enc (lsT intT) bM, mapI St170.enc intT iM, qh10 m pS q]⟩ ?_
 obtain ⟨J, h, hJ⟩ := h
 refine En.seqJ (σ := Bool × (List (St170 × Int))) (fun zz => J zz.1 zz.2) (fun zz => ⟨(qh2 w sh Bk), [.box (ApiMake.cl m) 39 false, qh13 pS, qh4 Bk, .box [B zz.1] 4 false, qh0 g d, mapI St170.enc (lsT intT) bM, mapI St170.enc intT zz.2, qh10 m pS q]⟩) ?_ ?_
 refine En.seq ?_
 refine En.regionA ⟨(qh2 w sh Bk), [.sv (.one (.pptr 4 0 (Bk 4))), .sv (.one (.ptr 4 0)), .sv (.one (.ptr 4 8)), .sv (.one (.own 6)), .sv (.agg [I m.fFrom, I pS, I q]), .sv (.one (I ((mget (qh3 m pS q) iM).getD (0 : Int)))), .sv (.one (B (((mget (qh3 m pS q) iM).getD (0 : Int)) == 0)))], [⟨.box (ApiMake.cl m) 39 false, none, none, none⟩, ⟨(qh13 pS), none, none, none⟩, ⟨(qh4 Bk), none, none, none⟩, ⟨.box [B ag] 4 false, none, none, none⟩, ⟨(qh0 g d), none, none, none⟩, ⟨mapI St170.enc (lsT intT) bM, none, none, none⟩, ⟨mapI St170.enc intT iM, none, none, none⟩, ⟨(qh10 m pS q), none, none, none⟩]⟩ ⟨[sl 1 (LS intT w), sl 2 (B sh), qh7 Bk, qh8 Bk, qh5 Bk, qh9 Bk, qh12, sl 24 (B (((mget (qh3 m pS q) iM).getD (0 : Int)) == 0))], [.box (ApiMake.cl m) 39 false, qh13 pS, qh4 Bk, .box [B ag] 4 false, qh0 g d, mapI St170.enc (lsT intT) bM, mapI St170.enc intT iM, qh10 m pS q]⟩ (by kernel_rfl) hn (by kernel_rfl) (by rfl) (by kernel_rfl) ?_ (by kernel_rfl) ?_
 exact ⟨.ev ⟨[qh5 Bk], [.gone, .gone, qh4 Bk]⟩ ht,
 .ev ⟨[sl 18 (.pptr 4 0 (Bk 4))], []⟩ ht,
 .ev ⟨[sl 19 (.ptr 4 0)], []⟩ ht,
 .ev ⟨[sl 20 (.ptr 4 8)], [.gone, .gone, .gone, .gone, qh0 g d]⟩ ht,
 .ev ⟨[qh12], (qh14 m pS q)⟩ ht,
 .vl ⟨[sl 21 (.own 6), (22, .sv (.agg [I m.fFrom, I pS, I q]))], [.gone, .gone, .gone, .gone, .gone, .gone, mapI St170.enc intT iM]⟩ (mt_val (val_lookup (T := intT) (D := iM) St170.keyLaw (k := (qh3 m pS q)) (ok := false) (0 : Int) (zv := (.int .i64 0)) rfl Try.underlying167 (fun _ => by kernel_rfl) (fun _ => ⟨rfl, trivial⟩) (mapAs St170.enc intT iM) (by rfl) (by rfl) (by rfl) (fun _ => rfl))),
 .ev ⟨[sl 23 (I ((mget (qh3 m pS q) iM).getD (0 : Int)))], []⟩ ht,
 trivial⟩
 refine En.ch h (fun h => ?_) (fun h => ?_)
 refine En.openM 6 (by rfl) (fun es ck => ?_)
 refine En.regionT ⟨(qh2 w sh Bk), [.sv (.one (.pptr 4 0 (Bk 4))), .sv (.one (.ptr 4 0)), .sv (.one (.ptr 4 8)), .sv (.one (.own 6)), .sv (.agg [I m.fFrom, I pS, I q])], [⟨.box (ApiMake.cl m) 39 false, none, none, none⟩, ⟨(qh13 pS), none, none, none⟩, ⟨(qh4 Bk), none, none, none⟩, ⟨.box [B ag] 4 false, none, none, none⟩, ⟨(qh0 g d), none, none, none⟩, ⟨mapI St170.enc (lsT intT) bM, none, none, none⟩, ⟨mapX St170.enc intT iM es ck, none, none, none⟩, ⟨(qh10 m pS q), none, none, none⟩]⟩ 5 ⟨[sl 1 (LS intT w), sl 2 (B sh), qh7 Bk, qh8 Bk, qh5 Bk, qh9 Bk, qh12, sl 28 (.own 6), (29, .sv (.agg [I m.fFrom, I pS, I q]))], [.box (ApiMake.cl m) 39 false, qh13 pS, qh4 Bk, .box [B ag] 4 false, qh0 g d, mapI St170.enc (lsT intT) bM, mapX St170.enc intT iM es ck, qh10 m pS q]⟩ (by kernel_rfl) hn (by kernel_rfl) (by kernel_rfl) (by kernel_rfl) (by rfl) (by kernel_rfl) ?_ (by kernel_rfl) ?_
 exact ⟨.ev ⟨[qh5 Bk], [.gone, .gone, qh4 Bk]⟩ ht,
 .ev ⟨[sl 25 (.pptr 4 0 (Bk 4))], []⟩ ht,
 .ev ⟨[sl 26 (.ptr 4 0)], []⟩ ht,
 .ev ⟨[sl 27 (.ptr 4 8)], [.gone, .gone, .gone, .gone, qh0 g d]⟩ ht,
 .ev ⟨[qh12], (qh14 m pS q)⟩ ht,
 trivial⟩
 refine WL.me hn (by rfl) (me_mapEntry (T := intT) (D := iM) (es := es) (ck := ck) St170.keyLaw (k := (qh3 m pS q)) (0 : Int) (zv := (.int .i64 0)) rfl Try.underlying167 (fun _ => by kernel_rfl) (fun _ => ⟨rfl, trivial⟩) (by rfl) (by rfl) (by rfl) (fun _ => rfl)) (by rfl) rfl rfl (by rfl) ?_
 refine WL.sub ⟨[sl 1 (LS intT w), sl 2 (B sh), qh7 Bk, qh8 Bk, qh5 Bk, qh9 Bk, qh12, sl 28 (.own 6), (29, .sv (.agg [I m.fFrom, I pS, I q])), (30, .tup [.one (I ((mget (qh3 m pS q) iM).getD (0 : Int))), .one (I (((stampX (qh3 m pS q) iM es ck) : Nat) : Int))])], [.box (ApiMake.cl m) 39 false, qh13 pS, qh4 Bk, .box [B ag] 4 false, qh0 g d, mapI St170.enc (lsT intT) bM, mapB St170.enc intT (mput (qh3 m pS q) ((mget (qh3 m pS q) iM).getD (0 : Int)) iM) (qh3 m pS q) (stampX (qh3 m pS q) iM es ck), qh10 m pS q]⟩ (by kernel_rfl) ?_
 refine WL.r ht hn 1 ⟨[sl 1 (LS intT w), sl 2 (B sh), qh7 Bk, qh8 Bk, qh5 Bk, qh9 Bk, qh12, sl 28 (.own 6), sl 31 (I (((stampX (qh3 m pS q) iM es ck) : Nat) : Int))], [.box (ApiMake.cl m) 39 false, qh13 pS, qh4 Bk, .box [B ag] 4 false, qh0 g d, mapI St170.enc (lsT intT) bM, mapB St170.enc intT (mput (qh3 m pS q) ((mget (qh3 m pS q) iM).getD (0 : Int)) iM) (qh3 m pS q) (stampX (qh3 m pS q) iM es ck), qh10 m pS q]⟩ ?_
 refine WL.entryStore (T := intT) (k := (qh3 m pS q)) (y := 1) hn (by rfl) rfl (by rfl) (by rfl) (by rfl) (by rfl) (by rfl) (by rfl) ?_
 refine WL.rn ht hn 1 ⟨(qh2 w sh Bk), [.box (ApiMake.cl m) 39 false, qh13 pS, qh4 Bk, .box [B true] 4 false, qh0 g d, mapI St170.enc (lsT intT) bM, mapI St170.enc intT (mput (qh3 m pS q) 1 (mput (qh3 m pS q) ((mget (qh3 m pS q) iM).getD (0 : Int)) iM)), qh10 m pS q]⟩ ?_
 exact En.at (I := fun zz => J zz.1 zz.2) (T := fun zz => ⟨(qh2 w sh Bk), [.box (ApiMake.cl m) 39 false, qh13 pS, qh4 Bk, .box [B zz.1] 4 false, qh0 g d, mapI St170.enc (lsT intT) bM, mapI St170.enc intT zz.2, qh10 m pS q]⟩) (true, (mput (qh3 m pS q) 1 (mput (qh3 m pS q) ((mget (qh3 m pS q) iM).getD (0 : Int)) iM))) h (by kernel_rfl)
 refine En.skip ?_
 exact En.at (I := fun zz => J zz.1 zz.2) (T := fun zz => ⟨(qh2 w sh Bk), [.box (ApiMake.cl m) 39 false, qh13 pS, qh4 Bk, .box [B zz.1] 4 false, qh0 g d, mapI St170.enc (lsT intT) bM, mapI St170.enc intT zz.2, qh10 m pS q]⟩) (ag, iM) h (by kernel_rfl)
 rintro ⟨y3, m6⟩ h
 replace h := hJ _ _ h
 show En c ⟨(qh2 w sh Bk), (qh1 m pS g d bM q Bk y3 m6)⟩ _
 refine En.seq ?_
 refine En.regionA ⟨(qh2 w sh Bk), [.sv (.one (.pptr 4 0 (Bk 4))), .sv (.one (.ptr 4 0)), .sv (.one (.ptr 4 7)), .sv (.one (.own 5)), .sv (.agg [I m.fFrom, I pS, I q]), .tup [.one (qh11 m pS q bM), .one (B (mget (qh3 m pS q) bM).isSome)], .tup [.one (qh11 m pS q bM), .one (B (mget (qh3 m pS q) bM).isSome)], .sv (.one (qh11 m pS q bM)), .sv (.one (B (mget (qh3 m pS q) bM).isSome)), .sv (.one (qh11 m pS q bM)), .sv (.one (B (mget (qh3 m pS q) bM).isSome))], [⟨.box (ApiMake.cl m) 39 false, none, none, none⟩, ⟨(qh13 pS), none, none, none⟩, ⟨(qh4 Bk), none, none, none⟩, ⟨.box [B y3] 4 false, none, none, none⟩, ⟨(qh0 g d), none, none, none⟩, ⟨mapI St170.enc (lsT intT) bM, none, none, none⟩, ⟨mapI St170.enc intT m6, none, none, none⟩, ⟨(qh10 m pS q), none, none, none⟩]⟩ ⟨[sl 1 (LS intT w), sl 2 (B sh), qh7 Bk, qh8 Bk, qh5 Bk, qh9 Bk, qh12, sl 11 (qh11 m pS q bM), sl 12 (B (mget (qh3 m pS q) bM).isSome)], (qh1 m pS g d bM q Bk y3 m6)⟩ (by kernel_rfl) hn (by kernel_rfl) (by rfl) (by kernel_rfl) ?_ (by kernel_rfl) ?_
 exact ⟨.ev ⟨[qh5 Bk], [.gone, .gone, qh4 Bk]⟩ ht,
 .ev ⟨[sl 33 (.pptr 4 0 (Bk 4))], []⟩ ht,
 .ev ⟨[sl 34 (.ptr 4 0)], []⟩ ht,
 .ev ⟨[sl 35 (.ptr 4 7)], [.gone, .gone, .gone, .gone, qh0 g d]⟩ ht,
 .ev ⟨[qh12], (qh14 m pS q)⟩ ht,
 .vl ⟨[sl 36 (.own 5), (37, .sv (.agg [I m.fFrom, I pS, I q]))], [.gone, .gone, .gone, .gone, .gone, mapI St170.enc (lsT intT) bM]⟩ (mt_val (val_lookup (T := (lsT intT)) (D := bM) St170.keyLaw (k := (qh3 m pS q)) (ok := true) [] (zv := (.slice none 0 0)) rfl Try.underlying166 (fun _ => by kernel_rfl) (fun _ => ls_nil) (mapAs St170.enc (lsT intT) bM) (by rfl) (by rfl) (by rfl) (fun _ => rfl))),
 .ev ⟨[(38, .tup [.one (qh11 m pS q bM), .one (B (mget (qh3 m pS q) bM).isSome)])], []⟩ ht,
 .ev ⟨[(32, .tup [.one (qh11 m pS q bM), .one (B (mget (qh3 m pS q) bM).isSome)])], []⟩ ht,
 .ev ⟨[(32, .tup [.one (qh11 m pS q bM), .one (B (mget (qh3 m pS q) bM).isSome)])], []⟩ ht,
 .ev ⟨[sl 39 (qh11 m pS q bM)], []⟩ ht,
 .ev ⟨[sl 40 (B (mget (qh3 m pS q) bM).isSome)], []⟩ ht,
 trivial⟩
 obtain ⟨J_2, h, hJ_2⟩ := h
 refine En.seqJ (σ := Bool) (fun zz => J_2 zz) (fun zz => ⟨(qh6 w Bk zz), (qh1 m pS g d bM q Bk y3 m6)⟩) ?_ ?_
 refine En.region ?_
 refine WL.r ht hn 2 ⟨[sl 1 (LS intT w), qh7 Bk, qh8 Bk, qh5 Bk, qh9 Bk, qh12, sl 11 (qh11 m pS q bM), sl 12 (B (mget (qh3 m pS q) bM).isSome), sl 42 (B sh)], (qh1 m pS g d bM q Bk y3 m6)⟩ ?_
 refine splitB sh (fun hb => ?_) (fun hb => ?_)
 replace h := h.1 hb
 refine WL.sB 42 hb ?_
 refine WL.r ht hn 3 ⟨[sl 1 (LS intT w), qh7 Bk, qh8 Bk, qh5 Bk, qh9 Bk, qh12, sl 11 (qh11 m pS q bM), sl 42 (B true), sl 45 (B (!(mget (qh3 m pS q) bM).isSome))], (qh1 m pS g d bM q Bk y3 m6)⟩ ?_
 refine splitB (!(mget (qh3 m pS q) bM).isSome) (fun hb => ?_) (fun hb => ?_)
 replace h := h.1 hb
 refine WL.sB 45 hb ?_
 refine WL.rn ht hn 5 ⟨[sl 1 (LS intT w), qh7 Bk, qh8 Bk, qh5 Bk, qh9 Bk, qh12, sl 50 (B true)], (qh1 m pS g d bM q Bk y3 m6)⟩ ?_
 exact En.at (I := fun zz => J_2 zz) (T := fun zz => ⟨(qh6 w Bk zz), (qh1 m pS g d bM q Bk y3 m6)⟩) true h (by kernel_rfl)
 replace h := h.2 hb
 refine WL.sB 45 hb ?_
 refine WL.r ht hn 2 ⟨[sl 1 (LS intT w), qh7 Bk, qh8 Bk, qh5 Bk, qh9 Bk, qh12, sl 42 (B true), sl 45 (B false), sl 46 (LS intT w), sl 47 (qh11 m pS q bM)], (qh1 m pS g d bM q Bk y3 m6)⟩ ?_
 refine WL.m0 hn (mt_c (gBef_ct w ((mget (qh3 m pS q) bM).getD [])) en90 rfl) ?_
 refine WL.rn ht hn 2 ⟨[sl 1 (LS intT w), qh7 Bk, qh8 Bk, qh5 Bk, qh9 Bk, qh12, sl 50 (B (beforeB w ((mget (qh3 m pS q) bM).getD [])))], (qh1 m pS g d bM q Bk y3 m6)⟩ ?_
 exact En.at (I := fun zz => J_2 zz) (T := fun zz => ⟨(qh6 w Bk zz), (qh1 m pS g d bM q Bk y3 m6)⟩) (beforeB w ((mget (qh3 m pS q) bM).getD [])) h (by kernel_rfl)
 replace h := h.2 hb
 refine WL.sB 42 hb ?_
 refine WL.rn ht hn 8 ⟨[sl 1 (LS intT w), qh7 Bk, qh8 Bk, qh5 Bk, qh9 Bk, qh12, sl 50 (B false)], (qh1 m pS g d bM q Bk y3 m6)⟩ ?_
 exact En.at (I := fun zz => J_2 zz) (T := fun zz => ⟨(qh6 w Bk zz), (qh1 m pS g d bM q Bk y3 m6)⟩) false h (by kernel_rfl)
 intro x50 h
 replace h := hJ_2 _ h
 show En c ⟨[sl 1 (LS intT w), qh7 Bk, qh8 Bk, qh5 Bk, qh9 Bk, qh12, sl 50 (B x50)], (qh1 m pS g d bM q Bk y3 m6)⟩ _
 refine En.ch h (fun h => ?_) (fun h => ?_)
 refine En.openM 5 (by rfl) (fun es_2 ck_2 => ?_)
 obtain ⟨hp_2, h⟩ := h
 refine En.regionT ⟨[sl 1 (LS intT w), qh7 Bk, qh8 Bk, qh5 Bk, qh9 Bk, qh12], [.sv (.one (.pptr 4 0 (Bk 4))), .sv (.one (.ptr 4 0)), .sv (.one (.ptr 4 7)), .sv (.one (.own 5)), .sv (.agg [I m.fFrom, I pS, I q]), .sv (.one (LS intT w)), .sv (.one (.own 8))], [⟨.box (ApiMake.cl m) 39 false, none, none, none⟩, ⟨(qh13 pS), none, none, none⟩, ⟨(qh4 Bk), none, none, none⟩, ⟨.box [B y3] 4 false, none, none, none⟩, ⟨(qh0 g d), none, none, none⟩, ⟨mapX St170.enc (lsT intT) bM es_2 ck_2, none, none, none⟩, ⟨mapI St170.enc intT m6, none, none, none⟩, ⟨(qh10 m pS q), none, none, none⟩, ⟨rowI 3 intT w, some 6, none, none⟩]⟩ 7 ⟨[qh7 Bk, qh8 Bk, qh5 Bk, qh9 Bk, sl 54 (.own 5), (55, .sv (.agg [I m.fFrom, I pS, I q])), sl 57 (.own 8)], [.box (ApiMake.cl m) 39 false, qh13 pS, qh4 Bk, .box [B y3] 4 false, qh0 g d, mapX St170.enc (lsT intT) bM es_2 ck_2, mapI St170.enc intT m6, .gone, rowI 3 intT w]⟩ (by kernel_rfl) hn (by kernel_rfl) (by kernel_rfl) (by kernel_rfl) (by rfl) (by kernel_rfl) ?_ (by kernel_rfl) ?_
 exact ⟨.ev ⟨[qh5 Bk], [.gone, .gone, qh4 Bk]⟩ ht,
 .ev ⟨[sl 51 (.pptr 4 0 (Bk 4))], []⟩ ht,
 .ev ⟨[sl 52 (.ptr 4 0)], []⟩ ht,
 .ev ⟨[sl 53 (.ptr 4 7)], [.gone, .gone, .gone, .gone, qh0 g d]⟩ ht,
 .ev ⟨[qh12], (qh14 m pS q)⟩ ht,
 .ev ⟨[sl 1 (LS intT w)], []⟩ ht,
 .mt ⟨[sl 56 (LS intT w)], []⟩ [] (some 8) (by kernel_rfl) (by rfl) (mt_callI 8 (cloneInt_ct w hp_2) en37 (caps := []) [] rfl rfl (by rfl) (by kernel_rfl) (by kernel_rfl) (by rfl) (by rfl)) rfl rfl rfl rfl,
 trivial⟩
 refine WL.me hn (by rfl) (me_mapEntry (T := (lsT intT)) (D := bM) (es := es_2) (ck := ck_2) St170.keyLaw (k := (qh3 m pS q)) [] (zv := (.slice none 0 0)) rfl Try.underlying166 (fun _ => by kernel_rfl) (fun _ => ls_nil) (by rfl) (by rfl) (by rfl) (fun _ => rfl)) (by rfl) rfl rfl (by rfl) ?_
 refine WL.sub ⟨[qh7 Bk, qh8 Bk, qh5 Bk, qh9 Bk, sl 54 (.own 5), (55, .sv (.agg [I m.fFrom, I pS, I q])), sl 57 (.own 8), (58, .tup [.one (qh11 m pS q bM), .one (I (((stampX (qh3 m pS q) bM es_2 ck_2) : Nat) : Int))])], [.box (ApiMake.cl m) 39 false, qh13 pS, qh4 Bk, .box [B y3] 4 false, qh0 g d, mapB St170.enc (lsT intT) (mput (qh3 m pS q) ((mget (qh3 m pS q) bM).getD []) bM) (qh3 m pS q) (stampX (qh3 m pS q) bM es_2 ck_2), mapI St170.enc intT m6, .gone, rowI 3 intT w]⟩ (by kernel_rfl) ?_
 refine WL.r ht hn 1 ⟨[qh7 Bk, qh8 Bk, qh5 Bk, qh9 Bk, sl 54 (.own 5), sl 57 (.own 8), sl 59 (I (((stampX (qh3 m pS q) bM es_2 ck_2) : Nat) : Int))], [.box (ApiMake.cl m) 39 false, qh13 pS, qh4 Bk, .box [B y3] 4 false, qh0 g d, mapB St170.enc (lsT intT) (mput (qh3 m pS q) ((mget (qh3 m pS q) bM).getD []) bM) (qh3 m pS q) (stampX (qh3 m pS q) bM es_2 ck_2), mapI St170.enc intT m6, .gone, rowI 3 intT w]⟩ ?_
 refine WL.seal (T := intT) (l := w) (e := 3) 8 rfl ?_
 refine WL.r ht hn 0 ⟨[qh7 Bk, qh8 Bk, qh5 Bk, qh9 Bk, sl 54 (.own 5), sl 57 (LS intT w), sl 59 (I (((stampX (qh3 m pS q) bM es_2 ck_2) : Nat) : Int))], [.box (ApiMake.cl m) 39 false, qh13 pS, qh4 Bk, .box [B y3] 4 false, qh0 g d, mapB St170.enc (lsT intT) (mput (qh3 m pS q) ((mget (qh3 m pS q) bM).getD []) bM) (qh3 m pS q) (stampX (qh3 m pS q) bM es_2 ck_2), mapI St170.enc intT m6, .gone, .gone]⟩ ?_
 refine WL.entryStore (T := (lsT intT)) (k := (qh3 m pS q)) (y := w) hn (by rfl) rfl (by rfl) (by rfl) (by rfl) (by rfl) (by rfl) (by rfl) ?_
 refine WL.rn ht hn 1 ⟨[qh7 Bk, qh8 Bk, qh5 Bk, qh9 Bk], [.box (ApiMake.cl m) 39 false, qh13 pS, qh4 Bk, .box [B true] 4 false, qh0 g d, mapI St170.enc (lsT intT) (mput (qh3 m pS q) w (mput (qh3 m pS q) ((mget (qh3 m pS q) bM).getD []) bM)), mapI St170.enc intT m6, .gone, .gone]⟩ ?_
 exact En.backP [.slot 3, .slot 4, .slot 5, .slot 6, .cell 2 0] [] ht ((mput (qh3 m pS q) w (mput (qh3 m pS q) ((mget (qh3 m pS q) bM).getD []) bM)), m6, true) h (by kernel_rfl) (by rfl) rfl rfl
 refine En.skip ?_
 exact En.backP [.slot 3, .slot 4, .slot 5, .slot 6, .cell 2 0] [] ht (bM, m6, y3) h (by kernel_rfl) (by rfl) rfl rfl
theorem en140 : ∀ args w, (callFunc 140 args).run Try.prog w = .ok (.enter 140 args) w := enters_of Try.func140 (by kernel_rfl) rfl
theorem gTel_ct (g : ApiGrammar) (d : ApiDet) (bM : List (St170 × (List Int))) (iM : List (St170 × Int)) (m : ApiMake) (pS : Int) (ag : Bool) (q : Int) (w : List Int) (sh : Bool) (hp : w.length ≤ 1000)  : CtE 140 [.sv (.one (I q)), .sv (.one (LS intT w)), .sv (.one (B sh)), .sv (.one (.ptr 0 0)), .sv (.one (.ptr 1 0)), .sv (.one (.ptr 2 0)), .sv (.one (.ptr 3 0))] [.box [I m.fFrom, LS intT m.fTo] 39 false, .box [I pS] 3 false, .box [.ptr 4 0] 165 false, .box [B ag] 4 false, .box [I g.fLetters, I g.fNames, LS ApiMake.ty g.fMakes, I d.fLetters, I d.fStart, LS (lsT intT) d.fNext, LS intT d.fMark, .own 5, .own 6] 169 false, mapI St170.enc (lsT intT) bM, mapI St170.enc intT iM] [0, 1, 2, 3, 4] (fun (_ : Unit) => True) (fun _ => .tup []) (fun _ => [.box [I m.fFrom, LS intT m.fTo] 39 false, .box [I pS] 3 false, .box [.ptr 4 0] 165 false, .box [B ((tellS m pS q w sh ⟨bM, iM, ag⟩).ag)] 4 false, .box [I g.fLetters, I g.fNames, LS ApiMake.ty g.fMakes, I d.fLetters, I d.fStart, LS (lsT intT) d.fNext, LS intT d.fMark, .own 5, .own 6] 169 false, mapI St170.enc (lsT intT) ((tellS m pS q w sh ⟨bM, iM, ag⟩).b), mapI St170.enc intT ((tellS m pS q w sh ⟨bM, iM, ag⟩).i)]) := by
 refine (gTel_walk g d bM iM m pS ag q w sh (fun res_ => res_ = ((tellS m pS q w sh ⟨bM, iM, ag⟩).b, (tellS m pS q w sh ⟨bM, iM, ag⟩).i, (tellS m pS q w sh ⟨bM, iM, ag⟩).ag)) ?_).imp (fun r hr => ⟨(), trivial, by subst hr; rfl, by subst hr; rfl⟩)
 unfold gTel_vc
 intro _
 refine ⟨fun y i => y = (if tellA (key3 m.fFrom pS q) ⟨bM, iM, ag⟩ = true then true else ag) ∧ i = (if tellA (key3 m.fFrom pS q) ⟨bM, iM, ag⟩ = true then mput (key3 m.fFrom pS q) 1 iM else iM), ⟨fun h => ?_, fun h => ?_⟩, ?_⟩
 ·have h : tellA (key3 m.fFrom pS q) ⟨bM, iM, ag⟩ = true := h
  rw [if_pos h, if_pos h, mput_put]
  exact ⟨rfl, rfl⟩
 ·have h : tellA (key3 m.fFrom pS q) ⟨bM, iM, ag⟩ = false := h
  rw [h]
  exact ⟨rfl, rfl⟩
 rintro _ _ ⟨rfl, rfl⟩
 refine ⟨fun x => x = tellC (key3 m.fFrom pS q) w sh ⟨bM, iM, ag⟩, ⟨fun h => ⟨fun h2 => ?_, fun h2 => ?_⟩, fun h => ?_⟩, ?_⟩
 ·show true = (sh && (_ || _))
  rw [h]
  show true = ((!(mget _ bM).isSome) || _)
  rw [h2]
  rfl
 ·show _ = (sh && (_ || _))
  rw [h]
  show _ = ((!(mget _ bM).isSome) || _)
  rw [h2]
  rfl
 ·show false = (sh && (_ || _))
  rw [h]
  rfl
 rintro _ rfl
 refine ⟨fun h => ⟨by omega, ?_⟩, fun h => ?_⟩
 ·show _ = ((tellK _ w sh _).b, (tellK _ w sh _).i, (tellK _ w sh _).ag)
  unfold tellK
  simp only [h, if_true]
  rw [mput_put]
 ·show _ = ((tellK _ w sh _).b, (tellK _ w sh _).i, (tellK _ w sh _).ag)
  unfold tellK
  simp only [h, Bool.false_eq_true, if_false]
def growNil_vc (n : Int) (Q : (List Int) → Prop) : Prop :=
 IfP (decide (n < 0)) (False) (∃ J : (List Int) → Prop, (IfP (decide ((wr (n - (wr (0 - ((0 : Nat) : Int))))) > 0)) ((0 < (wr (n - (wr (0 - ((0 : Nat) : Int))))) ∧ (wr (n - (wr (0 - ((0 : Nat) : Int))))) * 8 ≤ 140737488355328 ∧ (wr (n - (wr (0 - ((0 : Nat) : Int))))) ≤ 140737488355328) ∧
 (0 ≤ ((0 : Nat) : Int) ∧ ((0 : Nat) : Int) ≤ ((List.replicate ((wr (n - (wr (0 - ((0 : Nat) : Int)))))).toNat (0 : Int)).length : Int)) ∧
 J ((List.replicate ((wr (n - (wr (0 - ((0 : Nat) : Int)))))).toNat (0 : Int)).take (((0 : Nat) : Int) : Int).toNat)) (J ([] : List Int))) ∧
 (∀ (l0 : List Int), J l0 → Q l0))
noncomputable abbrev qi0 (n : Int) := (wr (n - (wr (0 - ((0 : Nat) : Int)))))
noncomputable abbrev qi1 (n : Int) := (List.replicate (qi0 n).toNat (0 : Int))
noncomputable abbrev qi2 := sl 0 (.v (.slice none 0 0))
theorem growNil_walk (n : Int) (Q : (List Int) → Prop) (h : growNil_vc n Q) : CtJ 88 [.sv (.one (.v (.slice none 0 0))), .sv (.one (I n))] [] Q (fun (r : List Int) => rowI 3 intT r) := by
 have ht := tab_ok
 refine CtJ.body Try.func88 rfl rfl rfl rfl (fun c hn hmay => ?_)
 unfold growNil_vc at h
 refine En.sr ?_
 refine WL.rn ht hn 1 ⟨[qi2, sl 1 (I n)], []⟩ ?_
 refine En.seq ?_
 refine En.sr ?_
 refine WL.rn ht hn 2 ⟨[qi2, sl 1 (I n), sl 6 (B (decide (n < 0)))], []⟩ ?_
 refine En.ch h (fun h => ?_) (fun h => ?_)
 exact h.elim
 refine En.skip ?_
 obtain ⟨J, h, hJ⟩ := h
 refine En.seqJ (σ := (List Int)) (fun zz => J zz) (fun zz => ⟨[sl 0 (.own 0)], [rowI 3 intT zz]⟩) ?_ ?_
 refine En.sr ?_
 refine WL.r ht hn 2 ⟨[qi2, sl 8 (I n), sl 9 (.v (.slice none 0 0))], []⟩ ?_
 refine WL.v hn (val_capNil ht rfl (by rfl) (by rfl) (by rfl)) ?_
 refine WL.rn ht hn 5 ⟨[qi2, sl 1 (I (qi0 n))], []⟩ ?_
 refine En.sr ?_
 refine WL.rn ht hn 2 ⟨[qi2, sl 1 (I (qi0 n)), sl 16 (B (decide ((qi0 n) > 0)))], []⟩ ?_
 refine En.ch h (fun h => ?_) (fun h => ?_)
 refine En.region ?_
 refine WL.r ht hn 2 ⟨[qi2, sl 1 (I (qi0 n)), sl 17 (.v (.slice none 0 0)), sl 18 (.v (.slice none 0 0))], []⟩ ?_
 refine WL.v hn (val_capNil ht rfl (by rfl) (by rfl) (by rfl)) ?_
 refine WL.v hn (val_sliceNil ht rfl (by rfl) (by rfl) (by rfl) (by rfl) (by rfl)) ?_
 refine WL.r ht hn 1 ⟨[qi2, sl 20 (.v (.slice none 0 0)), sl 21 (I (qi0 n))], []⟩ ?_
 obtain ⟨hp_2, h⟩ := h
 refine WL.mt0 (K := []) (p := some (0, rowI 3 intT (qi1 n))) hn (by rfl) (mt_appendZ (T := intT) (0 : Int) (zv := (.int .i64 0)) 0 (l := (qi0 n)) ht rfl (by rfl) (by rfl) (by rfl) (by rfl) (by decide) Try.underlying3 (by rfl) (by rfl) hp_2.1 (by exact hp_2.2.1) hp_2.2.2 rfl (fun _ => ⟨rfl, trivial⟩)) (by rfl) (by rfl) (by rfl) ?_
 refine WL.r ht hn 2 ⟨[sl 22 (.own 0), sl 24 (I ((0 : Nat) : Int))], [rowI 3 intT (qi1 n)]⟩ ?_
 obtain ⟨hp_3, h⟩ := h
 refine WL.mt (S2 := ⟨[sl 24 (I ((0 : Nat) : Int))], [rowI 3 intT (qi1 n)]⟩) (K := [0]) (p := some (0, rowI 3 intT ((qi1 n).take (((0 : Nat) : Int) : Int).toNat))) hn (by rfl) (mt_sliceO (T := intT) (l := (qi1 n)) (p := 0) (hv := ((0 : Nat) : Int)) ht rfl (by rfl) (by rfl) (by rfl) (by rfl) (by rfl) (by rfl) (by rfl) hp_3) (by kernel_rfl) (by rfl) (by rfl) (by rfl) ?_
 refine WL.rn ht hn 1 ⟨[sl 0 (.own 0)], [rowI 3 intT ((qi1 n).take (((0 : Nat) : Int) : Int).toNat)]⟩ ?_
 exact En.at (I := fun zz => J zz) (T := fun zz => ⟨[sl 0 (.own 0)], [rowI 3 intT zz]⟩) ((qi1 n).take (((0 : Nat) : Int) : Int).toNat) h (by kernel_rfl)
 refine En.skip ?_
 refine En.rowNil 0 0 3 intT (by rfl) (by rfl) ?_
 exact En.at (I := fun zz => J zz) (T := fun zz => ⟨[sl 0 (.own 0)], [rowI 3 intT zz]⟩) ([] : List Int) h (by kernel_rfl)
 intro l0 h
 replace h := hJ _ h
 show En c ⟨[sl 0 (.own 0)], [rowI 3 intT l0]⟩ _
 refine En.sr ?_
 refine WL.rn ht hn 2 ⟨[sl 4 (.own 0)], [rowI 3 intT l0]⟩ ?_
 refine En.ret ?_
 exact En.backJ (itf := fun l => rowI 3 intT l) hmay (by rfl) (by rfl) rfl rfl h
theorem en88 : ∀ args w, (callFunc 88 args).run Try.prog w = .ok (.enter 88 args) w := enters_of Try.func88 (by kernel_rfl) rfl
theorem growNil_ct (n : Int) (hp : 0 ≤ n ∧ n ≤ 4611686018427) : CtI 88 [.sv (.one (.v (.slice none 0 0))), .sv (.one (I n))] [] (rowI 3 intT []) := by
 refine (growNil_walk n (fun r => r = []) ?_).fun
 have h0 : wr (0 - ((0 : Nat) : Int)) = 0 := by decide
 have h1 : wr (n - wr (0 - ((0 : Nat) : Int))) = n := by rw [h0, wr_in (by omega) (by omega)]; omega
 refine ⟨fun h => absurd (of_decide_eq_true h) (by omega), fun _ => ⟨fun l => l = [], ⟨fun h => ?_, fun _ => rfl⟩, fun l h => h⟩⟩
 rw [h1] at h ⊢
 exact ⟨⟨of_decide_eq_true h, by omega, by omega⟩, ⟨by decide, by omega⟩, rfl⟩
def concatI_vc (l : List (List Int)) (Q : (List Int) → Prop) : Prop :=
 l.length ≤ 9223372036854775807 →
 (∃ (Inv : Int → Int → Prop) (mu : Int → Int → Nat), Inv 0 0 ∧
 ∀ (x3 : Int) (x11 : Int) , Inv x3 x11 → (IfP (decide (x11 < (l.length : Int))) (∃ e, idx l x11 = some e ∧
 IfP (decide ((wr (x3 + (e.length : Int))) < 0)) (False) ((Inv (wr (x3 + (e.length : Int))) (wr (x11 + 1)) ∧ mu (wr (x3 + (e.length : Int))) (wr (x11 + 1)) < mu x3 x11))) ((0 ≤ x3 ∧ x3 ≤ 4611686018427) ∧
 ∃ (Inv_2 : Int → (List Int) → Prop) (mu_2 : Int → (List Int) → Nat), Inv_2 0 (([] : List Int)) ∧
 ∀ (x27 : Int) (l0 : List Int) , Inv_2 x27 l0 → (IfP (decide (x27 < (l.length : Int))) (∃ e_2, idx l x27 = some e_2 ∧
 capOk l0.length (e_2 : List Int).length 8 ∧
 (Inv_2 (wr (x27 + 1)) (l0 ++ e_2) ∧ mu_2 (wr (x27 + 1)) (l0 ++ e_2) < mu_2 x27 l0)) (Q l0)))))
noncomputable abbrev qj0 (l : List (List Int)) := (LS (lsT intT) l)
noncomputable abbrev qj1 (l : List (List Int)) := (I (l.length : Int))
theorem concatI_walk (l : List (List Int)) (Q : (List Int) → Prop) (h : concatI_vc l Q) : CtJ 42 [.sv (.one (LS (lsT intT) l))] [] Q (fun (r : List Int) => rowI 3 intT r) := by
 have ht := tab_ok
 refine CtJ.body Try.func42 rfl rfl rfl rfl (fun c hn hmay => ?_)
 unfold concatI_vc at h
 refine En.lenL 0 (by rfl) (fun hl => ?_)
 replace h := h hl
 clear hl
 refine En.sr ?_
 refine WL.rn ht hn 1 ⟨[sl 0 (qj0 l)], []⟩ ?_
 refine En.sr ?_
 refine WL.rn ht hn 1 ⟨[sl 0 (qj0 l), sl 3 (I 0)], []⟩ ?_
 refine En.seq ?_
 refine En.sr ?_
 refine WL.rn ht hn 3 ⟨[sl 0 (qj0 l), sl 3 (I 0), sl 9 (qj0 l), sl 10 (qj1 l), sl 11 (I 0)], []⟩ ?_
 refine En.block ?_
 obtain ⟨Inv, mu, h0_2, hI_2⟩ := h
 refine En.loop (σ := Int × Int) (fun zz => Inv zz.1 zz.2) (fun zz => mu zz.1 zz.2) (fun zz => ⟨[sl 0 (qj0 l), sl 3 (I zz.1), sl 9 (qj0 l), sl 10 (qj1 l), sl 11 (I zz.2)], []⟩) (0, 0) h0_2 (sub_ok (by kernel_rfl)) ?_
 rintro ⟨x3, x11⟩ h
 replace h := hI_2 _ _ h
 show En c ⟨[sl 0 (qj0 l), sl 3 (I x3), sl 9 (qj0 l), sl 10 (qj1 l), sl 11 (I x11)], []⟩ _
 refine En.sr ?_
 refine WL.rn ht hn 1 ⟨[sl 0 (qj0 l), sl 3 (I x3), sl 9 (qj0 l), sl 10 (qj1 l), sl 11 (I x11), sl 12 (B (decide (x11 < (l.length : Int))))], []⟩ ?_
 refine En.seq ?_
 refine En.ch h (fun h => ?_) (fun h => ?_)
 refine En.skip ?_
 refine En.seq ?_
 refine En.block ?_
 refine En.sr ?_
 obtain ⟨e, he, h⟩ := h
 refine WL.v hn (val_ix (T := (lsT intT)) (l := l) (i := x11) ht rfl he) ?_
 refine WL.v hn (val_ld (s := .one (LS intT e)) ht rfl) ?_
 refine WL.rn ht hn 1 ⟨[sl 0 (qj0 l), sl 3 (I x3), sl 5 (LS intT e), sl 9 (qj0 l), sl 10 (qj1 l), sl 11 (I x11)], []⟩ ?_
 refine En.sr ?_
 refine WL.rn ht hn 5 ⟨[sl 0 (qj0 l), sl 3 (I (wr (x3 + (e.length : Int)))), sl 9 (qj0 l), sl 10 (qj1 l), sl 11 (I x11)], []⟩ ?_
 refine En.sr ?_
 refine WL.rn ht hn 2 ⟨[sl 0 (qj0 l), sl 3 (I (wr (x3 + (e.length : Int)))), sl 9 (qj0 l), sl 10 (qj1 l), sl 11 (I x11), sl 20 (B (decide ((wr (x3 + (e.length : Int))) < 0)))], []⟩ ?_
 refine En.ch h (fun h => ?_) (fun h => ?_)
 exact h.elim
 refine En.skip ?_
 refine En.region ?_
 refine WL.rn ht hn 2 ⟨[sl 0 (qj0 l), sl 3 (I (wr (x3 + (e.length : Int)))), sl 9 (qj0 l), sl 10 (qj1 l), sl 11 (I (wr (x11 + 1)))], []⟩ ?_
 exact En.at (I := fun zz => Inv zz.1 zz.2 ∧ mu zz.1 zz.2 < mu x3 x11) (T := fun zz => ⟨[sl 0 (qj0 l), sl 3 (I zz.1), sl 9 (qj0 l), sl 10 (qj1 l), sl 11 (I zz.2)], []⟩) ((wr (x3 + (e.length : Int))), (wr (x11 + 1))) h (by kernel_rfl)
 refine En.exit rfl ?_
 refine En.sr ?_
 refine WL.r ht hn 1 ⟨[sl 0 (qj0 l), sl 23 (I x3)], []⟩ ?_
 obtain ⟨hp, h⟩ := h
 refine WL.mt0 (K := []) (p := some (0, rowI 3 intT ([] : List Int))) hn (by rfl) (mt_callI 0 (growNil_ct x3 hp) en88 (caps := []) [] rfl rfl (by rfl) (by kernel_rfl) (by kernel_rfl) (by rfl) (by rfl)) (by rfl) (by rfl) (by rfl) ?_
 refine WL.rn ht hn 1 ⟨[sl 0 (qj0 l), sl 6 (.own 0)], [rowI 3 intT ([] : List Int)]⟩ ?_
 refine En.seq ?_
 refine En.sr ?_
 refine WL.rn ht hn 3 ⟨[sl 6 (.own 0), sl 25 (qj0 l), sl 26 (qj1 l), sl 27 (I 0)], [rowI 3 intT ([] : List Int)]⟩ ?_
 refine En.block ?_
 obtain ⟨Inv_2, mu_2, h0, hI⟩ := h
 refine En.loop (σ := Int × (List Int)) (fun zz => Inv_2 zz.1 zz.2) (fun zz => mu_2 zz.1 zz.2) (fun zz => ⟨[sl 6 (.own 0), sl 25 (qj0 l), sl 26 (qj1 l), sl 27 (I zz.1)], [rowI 3 intT zz.2]⟩) (0, ([] : List Int)) h0 (sub_ok (by kernel_rfl)) ?_
 rintro ⟨x27, l0⟩ h
 replace h := hI _ _ h
 show En c ⟨[sl 6 (.own 0), sl 25 (qj0 l), sl 26 (qj1 l), sl 27 (I x27)], [rowI 3 intT l0]⟩ _
 refine En.sr ?_
 refine WL.rn ht hn 1 ⟨[sl 6 (.own 0), sl 25 (qj0 l), sl 26 (qj1 l), sl 27 (I x27), sl 28 (B (decide (x27 < (l.length : Int))))], [rowI 3 intT l0]⟩ ?_
 refine En.seq ?_
 refine En.ch h (fun h => ?_) (fun h => ?_)
 refine En.skip ?_
 refine En.seq ?_
 refine En.block ?_
 refine En.sr ?_
 obtain ⟨e_2, he_2, h⟩ := h
 refine WL.v hn (val_ix (T := (lsT intT)) (l := l) (i := x27) ht rfl he_2) ?_
 refine WL.v hn (val_ld (s := .one (LS intT e_2)) ht rfl) ?_
 refine WL.rn ht hn 1 ⟨[sl 6 (.own 0), sl 8 (LS intT e_2), sl 25 (qj0 l), sl 26 (qj1 l), sl 27 (I x27)], [rowI 3 intT l0]⟩ ?_
 refine En.region ?_
 refine WL.r ht hn 2 ⟨[sl 25 (qj0 l), sl 26 (qj1 l), sl 27 (I x27), sl 31 (.own 0), sl 32 (LS intT e_2)], [rowI 3 intT l0]⟩ ?_
 obtain ⟨hp, h⟩ := h
 refine WL.mt (S2 := ⟨[sl 25 (qj0 l), sl 26 (qj1 l), sl 27 (I x27), sl 32 (LS intT e_2)], [rowI 3 intT l0]⟩) (K := [0]) (p := some (0, rowI 3 intT (l0 ++ e_2))) hn (by rfl) (mt_append (T := intT) (l := l0) (es := e_2) ht rfl (by rfl) (by rfl) (by rfl) (by rfl) (by decide) (by rfl) (by rfl) (srcLS (T := intT) (es := e_2) (fun _ h => by cases h) (by decide) (by rfl)) (by exact hp) (by exact hp.le (by decide))) (by kernel_rfl) (by rfl) (by rfl) (by rfl) ?_
 refine WL.rn ht hn 1 ⟨[sl 6 (.own 0), sl 25 (qj0 l), sl 26 (qj1 l), sl 27 (I x27)], [rowI 3 intT (l0 ++ e_2)]⟩ ?_
 refine En.region ?_
 refine WL.rn ht hn 2 ⟨[sl 6 (.own 0), sl 25 (qj0 l), sl 26 (qj1 l), sl 27 (I (wr (x27 + 1)))], [rowI 3 intT (l0 ++ e_2)]⟩ ?_
 exact En.at (I := fun zz => Inv_2 zz.1 zz.2 ∧ mu_2 zz.1 zz.2 < mu_2 x27 l0) (T := fun zz => ⟨[sl 6 (.own 0), sl 25 (qj0 l), sl 26 (qj1 l), sl 27 (I zz.1)], [rowI 3 intT zz.2]⟩) ((wr (x27 + 1)), (l0 ++ e_2)) h (by kernel_rfl)
 refine En.exit rfl ?_
 refine En.sr ?_
 refine WL.rn ht hn 2 ⟨[sl 2 (.own 0)], [rowI 3 intT l0]⟩ ?_
 refine En.ret ?_
 exact En.backJ (itf := fun l => rowI 3 intT l) hmay (by rfl) (by rfl) rfl rfl h
theorem en42 : ∀ args w, (callFunc 42 args).run Try.prog w = .ok (.enter 42 args) w := enters_of Try.func42 (by kernel_rfl) rfl
theorem flat_take {α : Type} {l : List (List α)} {k : Nat} (h : k < l.length) : (l.take (k + 1)).flatten = (l.take k).flatten ++ l[k] := by
 rw [List.take_add_one, List.flatten_append, List.getElem?_eq_getElem h]
 simp
theorem flat_le {α : Type} (l : List (List α)) (k : Nat) : (l.take k).flatten.length ≤ l.flatten.length := by
 rw [← List.take_append_drop k l, List.flatten_append, List.length_append]
 rw [List.take_append_drop]
 omega
theorem concatI_ct (l : List (List Int)) (hp : l.length ≤ 1000000 ∧ l.flatten.length ≤ 1000000)  : CtI 42 [.sv (.one (LS (lsT intT) l))] [] (rowI 3 intT (l.flatten)) := by
 refine (concatI_walk l (fun res_ => res_ = (l.flatten)) ?_).fun
 intro _
 refine ⟨fun s i => ∃ k : Nat, i = k ∧ k ≤ l.length ∧ s = (((l.take k).flatten.length : Nat) : Int), fun _ i => l.length - i.toNat, ⟨0, rfl, Nat.zero_le _, by simp⟩, ?_⟩
 rintro s i ⟨k, rfl, hk, rfl⟩
 refine ⟨fun hb => ?_, fun hb => ?_⟩
 ·have hlt := dlt hb
  have h1 := flat_le l (k + 1)
  have h2 := flat_take hlt
  have h3 : wr ((((l.take k).flatten.length : Nat) : Int) + (l[k].length : Int)) = (((l.take (k + 1)).flatten.length : Nat) : Int) := by
   rw [h2, List.length_append] at h1 ⊢
   rw [wr_in (by omega) (by omega)]
   omega
  refine ⟨_, idx_at hlt, fun h => ?_, fun _ => ⟨⟨k + 1, wsucc (by omega), hlt, h3⟩, mu_up hlt (by omega)⟩⟩
  have := of_decide_eq_true h
  omega
 have hk' : k = l.length := by have := dge hb; omega
 subst hk'
 rw [List.take_length]
 refine ⟨⟨by omega, by omega⟩, ?_⟩
 refine ⟨fun i r => ∃ k : Nat, i = k ∧ k ≤ l.length ∧ r = (l.take k).flatten, fun i _ => l.length - i.toNat, ⟨0, rfl, Nat.zero_le _, by simp⟩, ?_⟩
 rintro i r ⟨k, rfl, hk, rfl⟩
 refine ⟨fun hb => ?_, fun hb => ?_⟩
 ·have hlt := dlt hb
  have h1 := flat_le l (k + 1)
  have h2 := flat_take hlt
  refine ⟨_, idx_at hlt, capOk_of ?_, ⟨k + 1, wsucc (by omega), hlt, h2.symm⟩, mu_up hlt (by omega)⟩
  rw [h2, List.length_append] at h1
  omega
 ·rw [List.take_of_length_le (dge hb)]
theorem en139 : ∀ args w, (callFunc 139 args).run Try.prog w = .ok (.enter 139 args) w := enters_of Try.func139 (by kernel_rfl) rfl
def RwC (g : ApiGrammar) (d : ApiDet) (m : ApiMake) (pS : Int) (n : Nat) : Prop := ∀ (bM : List (St170 × (List Int))) (iM : List (St170 × Int)) (ag : Bool) (signs : List Int) (q : Int) (w : List Int) (sh : Bool), signs.length < n ∧ RwPre g d bM signs q w sh → CtE 139 [.sv (.one (.ptr 0 0)), .sv (.one (LS intT signs)), .sv (.one (I q)), .sv (.one (LS intT w)), .sv (.one (B sh)), .sv (.one (.fn 140 [3, 4, 5, 6]))] [.box [I g.fLetters, I g.fNames, LS ApiMake.ty g.fMakes, I d.fLetters, I d.fStart, LS (lsT intT) d.fNext, LS intT d.fMark, .own 1, .own 2] 169 false, mapI St170.enc (lsT intT) bM, mapI St170.enc intT iM, .box [I m.fFrom, LS intT m.fTo] 39 false, .box [I pS] 3 false, .box [.ptr 0 0] 165 false, .box [B ag] 4 false] [0, 3, 4, 5, 6] (fun (_ : Unit) => True) (fun _ => .tup []) (fun _ => [.box [I g.fLetters, I g.fNames, LS ApiMake.ty g.fMakes, I d.fLetters, I d.fStart, LS (lsT intT) d.fNext, LS intT d.fMark, .own 1, .own 2] 169 false, mapI St170.enc (lsT intT) (rowsS g d m pS signs q w sh ⟨bM, iM, ag⟩).b, mapI St170.enc intT (rowsS g d m pS signs q w sh ⟨bM, iM, ag⟩).i, .box [I m.fFrom, LS intT m.fTo] 39 false, .box [I pS] 3 false, .box [.ptr 0 0] 165 false, .box [B (rowsS g d m pS signs q w sh ⟨bM, iM, ag⟩).ag] 4 false])
def gRow_vc (g : ApiGrammar) (d : ApiDet) (bM : List (St170 × (List Int))) (iM : List (St170 × Int)) (m : ApiMake) (pS : Int) (ag : Bool) (signs : List Int) (q : Int) (w : List Int) (sh : Bool) (n : Nat) (Q : (List (St170 × (List Int))) × (List (St170 × Int)) × Bool → Prop) : Prop :=
 signs.length ≤ 9223372036854775807 →
 w.length ≤ 9223372036854775807 →
 (IfP ((signs.length : Int) == 0) (((w).length ≤ 1000) ∧
 Q (((tellS m pS q w sh ⟨bM, iM, ag⟩).b), ((tellS m pS q w sh ⟨bM, iM, ag⟩).i), ((tellS m pS q w sh ⟨bM, iM, ag⟩).ag))) (∃ e, idx signs 0 = some e ∧
 IfP (decide (e < g.fLetters)) (∃ J : (List (St170 × (List Int))) → (List (St170 × Int)) → Bool → Prop, (partOk 1 (signs.length : Int) signs.length ∧
 ∃ e_2, idx d.fNext q = some e_2 ∧
 ∃ e_3, idx e_2 e = some e_3 ∧
 (w.length * 8 ≤ 140737488355328) ∧
 capOk (w).length (([e] : List Int) : List Int).length 8 ∧
 IfP sh (((((signs.take ((signs.length : Int) : Int).toNat).drop (1 : Int).toNat)).length < n ∧ RwPre g d bM ((signs.take ((signs.length : Int) : Int).toNat).drop (1 : Int).toNat) e_3 ((w) ++ ([e] : List Int)) (decide ((w.length : Int) < 60))) ∧
 J ((rowsS g d m pS ((signs.take ((signs.length : Int) : Int).toNat).drop (1 : Int).toNat) e_3 ((w) ++ ([e] : List Int)) (decide ((w.length : Int) < 60)) ⟨bM, iM, ag⟩).b) ((rowsS g d m pS ((signs.take ((signs.length : Int) : Int).toNat).drop (1 : Int).toNat) e_3 ((w) ++ ([e] : List Int)) (decide ((w.length : Int) < 60)) ⟨bM, iM, ag⟩).i) ((rowsS g d m pS ((signs.take ((signs.length : Int) : Int).toNat).drop (1 : Int).toNat) e_3 ((w) ++ ([e] : List Int)) (decide ((w.length : Int) < 60)) ⟨bM, iM, ag⟩).ag)) (((((signs.take ((signs.length : Int) : Int).toNat).drop (1 : Int).toNat)).length < n ∧ RwPre g d bM ((signs.take ((signs.length : Int) : Int).toNat).drop (1 : Int).toNat) e_3 ((w) ++ ([e] : List Int)) false) ∧
 J ((rowsS g d m pS ((signs.take ((signs.length : Int) : Int).toNat).drop (1 : Int).toNat) e_3 ((w) ++ ([e] : List Int)) false ⟨bM, iM, ag⟩).b) ((rowsS g d m pS ((signs.take ((signs.length : Int) : Int).toNat).drop (1 : Int).toNat) e_3 ((w) ++ ([e] : List Int)) false ⟨bM, iM, ag⟩).i) ((rowsS g d m pS ((signs.take ((signs.length : Int) : Int).toNat).drop (1 : Int).toNat) e_3 ((w) ++ ([e] : List Int)) false ⟨bM, iM, ag⟩).ag))) ∧
 (∀ (m1 : List (St170 × (List Int))) (m2 : List (St170 × Int)) (y6 : Bool), J m1 m2 y6 → Q (m1, m2, y6))) (∃ (Inv : Int → (List (St170 × (List Int))) → (List (St170 × Int)) → Bool → Prop) (mu : Int → (List (St170 × (List Int))) → (List (St170 × Int)) → Bool → Nat), Inv 0 bM iM ag ∧
 ∀ (x70 : Int) (m1_2 : List (St170 × (List Int))) (m2_2 : List (St170 × Int)) (y6_2 : Bool) , Inv x70 m1_2 m2_2 y6_2 → (IfP (decide (x70 < (d.fNext.length : Int))) (∃ J_2 : (List (St170 × (List Int))) → (List (St170 × Int)) → Bool → Prop, (∃ e_4, idx signs 0 = some e_4 ∧
 IfP (((mget (St170.mk (wr (e_4 - g.fLetters)) q x70) m2_2).getD (0 : Int)) == 0) (J_2 m1_2 m2_2 y6_2) (∃ J_3 : (List Int) → Prop, (IfP ((sh && (mget (St170.mk (wr (e_4 - g.fLetters)) q x70) m1_2).isSome) && (decide ((wr ((w.length : Int) + (((mget (St170.mk (wr (e_4 - g.fLetters)) q x70) m1_2).getD []).length : Int))) ≤ 60))) ((([w, ((mget (St170.mk (wr (e_4 - g.fLetters)) q x70) m1_2).getD [])] : List (List Int)).length ≤ 1000000 ∧ ([w, ((mget (St170.mk (wr (e_4 - g.fLetters)) q x70) m1_2).getD [])] : List (List Int)).flatten.length ≤ 1000000) ∧
 J_3 (([w, ((mget (St170.mk (wr (e_4 - g.fLetters)) q x70) m1_2).getD [])] : List (List Int)).flatten)) (J_3 ([] : List Int))) ∧
 (∀ (l9 : List Int), J_3 l9 → partOk 1 (signs.length : Int) signs.length ∧
 ((((signs.take ((signs.length : Int) : Int).toNat).drop (1 : Int).toNat)).length < n ∧ RwPre g d m1_2 ((signs.take ((signs.length : Int) : Int).toNat).drop (1 : Int).toNat) x70 l9 ((sh && (mget (St170.mk (wr (e_4 - g.fLetters)) q x70) m1_2).isSome) && (decide ((wr ((w.length : Int) + (((mget (St170.mk (wr (e_4 - g.fLetters)) q x70) m1_2).getD []).length : Int))) ≤ 60)))) ∧
 J_2 ((rowsS g d m pS ((signs.take ((signs.length : Int) : Int).toNat).drop (1 : Int).toNat) x70 l9 ((sh && (mget (St170.mk (wr (e_4 - g.fLetters)) q x70) m1_2).isSome) && (decide ((wr ((w.length : Int) + (((mget (St170.mk (wr (e_4 - g.fLetters)) q x70) m1_2).getD []).length : Int))) ≤ 60))) ⟨m1_2, m2_2, y6_2⟩).b) ((rowsS g d m pS ((signs.take ((signs.length : Int) : Int).toNat).drop (1 : Int).toNat) x70 l9 ((sh && (mget (St170.mk (wr (e_4 - g.fLetters)) q x70) m1_2).isSome) && (decide ((wr ((w.length : Int) + (((mget (St170.mk (wr (e_4 - g.fLetters)) q x70) m1_2).getD []).length : Int))) ≤ 60))) ⟨m1_2, m2_2, y6_2⟩).i) ((rowsS g d m pS ((signs.take ((signs.length : Int) : Int).toNat).drop (1 : Int).toNat) x70 l9 ((sh && (mget (St170.mk (wr (e_4 - g.fLetters)) q x70) m1_2).isSome) && (decide ((wr ((w.length : Int) + (((mget (St170.mk (wr (e_4 - g.fLetters)) q x70) m1_2).getD []).length : Int))) ≤ 60))) ⟨m1_2, m2_2, y6_2⟩).ag)))) ∧
 (∀ (m1_3 : List (St170 × (List Int))) (m2_3 : List (St170 × Int)) (y6_3 : Bool), J_2 m1_3 m2_3 y6_3 → (Inv (wr (x70 + 1)) m1_3 m2_3 y6_3 ∧ mu (wr (x70 + 1)) m1_3 m2_3 y6_3 < mu x70 m1_2 m2_2 y6_2))) (Q (m1_2, m2_2, y6_2))))))
noncomputable abbrev qk0 (g : ApiGrammar) (d : ApiDet) := (.box [I g.fLetters, I g.fNames, LS ApiMake.ty g.fMakes, I d.fLetters, I d.fStart, LS (lsT intT) d.fNext, LS intT d.fMark, .own 1, .own 2] 169 false : Item)
noncomputable abbrev qk1 (y0 : Nat → Nat) := sl 5 (.pfn 140 [(3, y0 3), (4, y0 4), (5, y0 5), (6, y0 6)])
noncomputable abbrev qk2 (g : ApiGrammar) (q : Int) (y0 : Int) (y1) := (St170.mk (wr (y0 - g.fLetters)) q y1)
noncomputable abbrev qk3 (y0 : Nat → Nat) := (.box [.pptr 0 0 (y0 0)] 165 false : Item)
noncomputable abbrev qk4 (d : ApiDet) := sl 69 (I (d.fNext.length : Int))
noncomputable abbrev qk5 (y0 : Nat → Nat) := sl 0 (.pptr 0 0 (y0 0))
noncomputable abbrev qk6 (pS : Int) := (.box [I pS] 3 false : Item)
noncomputable abbrev qk7 (w : List Int) := sl 3 (LS intT w)
noncomputable abbrev qk8 (signs : List Int) := sl 1 (LS intT signs)
noncomputable abbrev qk9 (signs : List Int) := (LS intT ((signs.take ((signs.length : Int) : Int).toNat).drop (1 : Int).toNat))
noncomputable abbrev qk10 (m : ApiMake) := (ApiMake.cl m)
noncomputable abbrev qk11 (y0) := (.box [B y0] 4 false : Item)
noncomputable abbrev qk12 (w : List Int) := (decide ((w.length : Int) < 60))
noncomputable abbrev qk13 (g : ApiGrammar) (y0 : Int) := (wr (y0 - g.fLetters))
set_option maxHeartbeats 2000000 in
theorem gRow_walk (g : ApiGrammar) (d : ApiDet) (bM : List (St170 × (List Int))) (iM : List (St170 × Int)) (m : ApiMake) (pS : Int) (ag : Bool) (signs : List Int) (q : Int) (w : List Int) (sh : Bool) (n : Nat) (ih : RwC g d m pS n) (Q : (List (St170 × (List Int))) × (List (St170 × Int)) × Bool → Prop) (h : gRow_vc g d bM iM m pS ag signs q w sh n Q) : CtE 139 [.sv (.one (.ptr 0 0)), .sv (.one (LS intT signs)), .sv (.one (I q)), .sv (.one (LS intT w)), .sv (.one (B sh)), .sv (.one (.fn 140 [3, 4, 5, 6]))] [.box [I g.fLetters, I g.fNames, LS ApiMake.ty g.fMakes, I d.fLetters, I d.fStart, LS (lsT intT) d.fNext, LS intT d.fMark, .own 1, .own 2] 169 false, mapI St170.enc (lsT intT) bM, mapI St170.enc intT iM, .box [I m.fFrom, LS intT m.fTo] 39 false, .box [I pS] 3 false, .box [.ptr 0 0] 165 false, .box [B ag] 4 false] [0, 3, 4, 5, 6] Q (fun (r : (List (St170 × (List Int))) × (List (St170 × Int)) × Bool) => .tup []) (fun (r : (List (St170 × (List Int))) × (List (St170 × Int)) × Bool) => [.box [I g.fLetters, I g.fNames, LS ApiMake.ty g.fMakes, I d.fLetters, I d.fStart, LS (lsT intT) d.fNext, LS intT d.fMark, .own 1, .own 2] 169 false, mapI St170.enc (lsT intT) r.1, mapI St170.enc intT r.2.1, .box [I m.fFrom, LS intT m.fTo] 39 false, .box [I pS] 3 false, .box [.ptr 0 0] 165 false, .box [B r.2.2] 4 false]) := by
 have ht := tab_ok
 refine CtE.bodyP [0, 3, 4, 5, 6] [] Try.func139 rfl rfl rfl (by kernel_rfl) (by kernel_rfl) (fun c Bk Vk hn => ?_)
 unfold gRow_vc at h
 show En c ⟨[qk5 Bk, qk8 signs, sl 2 (I q), qk7 w, sl 4 (B sh), qk1 Bk], [qk0 g d, mapI St170.enc (lsT intT) bM, mapI St170.enc intT iM, .box (qk10 m) 39 false, qk6 pS, qk3 Bk, .box [B ag] 4 false]⟩ _
 refine En.lenL 1 (by rfl) (fun hl => ?_)
 replace h := h hl
 clear hl
 refine En.lenL 3 (by rfl) (fun hl => ?_)
 replace h := h hl
 clear hl
 refine En.seq ?_
 refine En.sr ?_
 refine WL.rn ht hn 3 ⟨[qk5 Bk, qk8 signs, sl 2 (I q), qk7 w, sl 4 (B sh), qk1 Bk, sl 21 (B ((signs.length : Int) == 0))], [qk0 g d, mapI St170.enc (lsT intT) bM, mapI St170.enc intT iM, .box (qk10 m) 39 false, qk6 pS, qk3 Bk, .box [B ag] 4 false]⟩ ?_
 refine En.ch h (fun h => ?_) (fun h => ?_)
 refine En.sr ?_
 refine WL.r ht hn 4 ⟨[qk5 Bk, qk1 Bk, sl 22 (.fn 140 [3, 4, 5, 6]), sl 23 (I q), sl 24 (LS intT w), sl 25 (B sh)], [qk0 g d, mapI St170.enc (lsT intT) bM, mapI St170.enc intT iM, .box (qk10 m) 39 false, qk6 pS, qk3 Bk, .box [B ag] 4 false]⟩ ?_
 obtain ⟨hp, h⟩ := h
 refine WL.callE (CtE.kept (gTel_ct g d bM iM m pS ag q w sh hp) [] [(4, Bk 0)] (by kernel_rfl)) en140 (caps := [3, 4, 5, 6]) [3, 4, 5, 6, 0, 1, 2] hn (by rfl) rfl (by rfl) (argsAs (by kernel_rfl) (by rfl)) (by kernel_rfl) (by decide) (by rfl) (by rfl) (fun _ _ => ⟨by rfl, _, by rfl, ?_⟩)
 refine WL.nil ?_
 refine En.ret ?_
 exact En.backP [.slot 0, .cap 5 0, .cap 5 1, .cap 5 2, .cap 5 3] [] ht ((tellS m pS q w sh ⟨bM, iM, ag⟩).b, (tellS m pS q w sh ⟨bM, iM, ag⟩).i, (tellS m pS q w sh ⟨bM, iM, ag⟩).ag) h (by kernel_rfl) (by rfl) rfl rfl
 refine En.skip ?_
 refine En.seq ?_
 refine En.sr ?_
 refine WL.r ht hn 1 ⟨[qk5 Bk, qk8 signs, sl 2 (I q), qk7 w, sl 4 (B sh), qk1 Bk, sl 27 (LS intT signs)], [qk0 g d, mapI St170.enc (lsT intT) bM, mapI St170.enc intT iM, .box (qk10 m) 39 false, qk6 pS, qk3 Bk, .box [B ag] 4 false]⟩ ?_
 obtain ⟨e, he, h⟩ := h
 refine WL.v hn (val_ix (T := intT) (l := signs) (i := 0) ht rfl he) ?_
 refine WL.v hn (val_ld (s := .one (I e)) ht rfl) ?_
 refine WL.rn ht hn 1 ⟨[qk5 Bk, qk8 signs, sl 2 (I q), qk7 w, sl 4 (B sh), qk1 Bk, sl 12 (I e)], [qk0 g d, mapI St170.enc (lsT intT) bM, mapI St170.enc intT iM, .box (qk10 m) 39 false, qk6 pS, qk3 Bk, .box [B ag] 4 false]⟩ ?_
 refine En.sr ?_
 refine WL.rn ht hn 7 ⟨[qk5 Bk, qk8 signs, sl 2 (I q), qk7 w, sl 4 (B sh), qk1 Bk, sl 12 (I e), sl 36 (B (decide (e < g.fLetters)))], [qk0 g d, mapI St170.enc (lsT intT) bM, mapI St170.enc intT iM, .box (qk10 m) 39 false, qk6 pS, qk3 Bk, .box [B ag] 4 false]⟩ ?_
 refine En.ch h (fun h => ?_) (fun h => ?_)
 obtain ⟨J, h, hJ⟩ := h
 refine En.seqJ (σ := (List (St170 × (List Int))) × (List (St170 × Int)) × Bool) (fun zz => J zz.1 zz.2.1 zz.2.2) (fun zz => ⟨[qk5 Bk, qk1 Bk], [qk0 g d, mapI St170.enc (lsT intT) zz.1, mapI St170.enc intT zz.2.1, .box (qk10 m) 39 false, qk6 pS, qk3 Bk, .box [B zz.2.2] 4 false, .gone]⟩) ?_ ?_
 obtain ⟨hp_2, h⟩ := h
 obtain ⟨e_2, he_2, h⟩ := h
 obtain ⟨e_3, he_3, h⟩ := h
 obtain ⟨hp_3, h⟩ := h
 obtain ⟨hp_4, h⟩ := h
 refine splitB sh (fun hb_2 => ?_) (fun hb_2 => ?_)
 replace h := h.1 hb_2
 refine En.regionT ⟨[qk5 Bk, qk8 signs, sl 2 (I q), qk7 w, sl 4 (B sh), qk1 Bk, sl 12 (I e)], [.sv (.one (.ptr 0 0)), .sv (.one (LS intT signs)), .sv (.one (qk9 signs)), .sv (.one (.ptr 0 0)), .sv (.one (.ptr 0 0)), .sv (.one (.ptr 0 3)), .sv (.one (.ptr 0 5)), .sv (.one (LS (lsT intT) d.fNext)), .sv (.one (I q)), .sv (.one (.pe (svR (.one (LS intT e_2))) 1)), .sv (.one (LS intT e_2)), .sv (.one (I e)), .sv (.one (.pe (svR (.one (I e_3))) 1)), .sv (.one (I e_3)), .sv (.one (LS intT w)), .sv (.one (.own 7)), .sv (.one (I e)), .sv (.one (LS intT ([e] : List Int))), .sv (.one (LS intT (w ++ ([e] : List Int)))), .sv (.one (B true)), .sv (.one (B true)), .sv (.one (LS intT w)), .sv (.one (I (w.length : Int))), .sv (.one (B (qk12 w))), .sv (.one (B (qk12 w))), .sv (.one (.fn 140 [3, 4, 5, 6]))], [⟨(qk0 g d), none, none, none⟩, ⟨mapI St170.enc (lsT intT) bM, none, none, none⟩, ⟨mapI St170.enc intT iM, none, none, none⟩, ⟨.box (qk10 m) 39 false, none, none, none⟩, ⟨(qk6 pS), none, none, none⟩, ⟨(qk3 Bk), none, none, none⟩, ⟨.box [B ag] 4 false, none, none, none⟩, ⟨rowI 3 intT w, some 15, some 18, none⟩]⟩ 26 ⟨[qk5 Bk, qk1 Bk, sl 37 (.ptr 0 0), sl 39 (qk9 signs), sl 50 (I e_3), sl 55 (LS intT (w ++ ([e] : List Int))), sl 61 (B (qk12 w)), sl 62 (.fn 140 [3, 4, 5, 6])], [qk0 g d, mapI St170.enc (lsT intT) bM, mapI St170.enc intT iM, .box (qk10 m) 39 false, qk6 pS, qk3 Bk, .box [B ag] 4 false, .gone]⟩ (by kernel_rfl) hn (by kernel_rfl) (by kernel_rfl) (by kernel_rfl) (by rfl) (by kernel_rfl) ?_ (by kernel_rfl) ?_
 exact ⟨.ev ⟨[qk5 Bk], []⟩ ht,
 .ev ⟨[qk8 signs], []⟩ ht,
 .vl ⟨[sl 38 (LS intT signs)], []⟩ (mt_val (val_slice (T := intT) (l := signs) (lv := 1) (hv := (signs.length : Int)) ht rfl (by rfl) (by rfl) (by rfl) (by rfl) (by rfl) (by rfl) (by rfl) hp_2)),
 .ev ⟨[qk5 Bk], []⟩ ht,
 .ev ⟨[sl 40 (.ptr 0 0)], []⟩ ht,
 .ev ⟨[sl 41 (.ptr 0 0)], []⟩ ht,
 .ev ⟨[sl 42 (.ptr 0 3)], []⟩ ht,
 .ev ⟨[sl 43 (.ptr 0 5)], [qk0 g d]⟩ ht,
 .ev ⟨[sl 2 (I q)], []⟩ ht,
 .vl ⟨[sl 44 (LS (lsT intT) d.fNext), sl 45 (I q)], []⟩ (mt_val (val_ix (T := (lsT intT)) (l := d.fNext) (i := q) ht rfl he_2)),
 .vl ⟨[sl 46 (.pe (svR (.one (LS intT e_2))) 1)], []⟩ (mt_val (val_ld (s := .one (LS intT e_2)) ht rfl)),
 .ev ⟨[sl 12 (I e)], []⟩ ht,
 .vl ⟨[sl 47 (LS intT e_2), sl 48 (I e)], []⟩ (mt_val (val_ix (T := intT) (l := e_2) (i := e) ht rfl he_3)),
 .vl ⟨[sl 49 (.pe (svR (.one (I e_3))) 1)], []⟩ (mt_val (val_ld (s := .one (I e_3)) ht rfl)),
 .ev ⟨[qk7 w], []⟩ ht,
 .mt ⟨[sl 51 (LS intT w)], []⟩ [] (some 7) (by kernel_rfl) (by rfl) (mt_callI 7 (cloneInt_ct w hp_3) en37 (caps := []) [] rfl rfl (by rfl) (by kernel_rfl) (by kernel_rfl) (by rfl) (by rfl)) rfl rfl rfl rfl,
 .ev ⟨[sl 12 (I e)], []⟩ ht,
 .mt ⟨[sl 53 (I e)], []⟩ [] none (by kernel_rfl) (by rfl) (mt_seal (q := 8) (e := 3) (mt_lit (T := intT) ([e] : List Int) (mt_bsl 8 (r := cellsOf intT ([e] : List Int)) ht rfl (by rfl) (by rfl) (by rfl) (by kernel_rfl) (by rfl)) (fun _ h => by cases h) (fun _ => rfl) (fun _ => rfl) (by rfl) (Nat.le_of_ble_eq_true rfl))) rfl rfl rfl rfl,
 .mt ⟨[sl 52 (.own 7), sl 54 (LS intT ([e] : List Int))], [.gone, .gone, .gone, .gone, .gone, .gone, .gone, rowI 3 intT w]⟩ [7] none (by kernel_rfl) (by rfl) (mt_seal (q := 8) (e := 3) (mt_append (T := intT) (l := w) (es := ([e] : List Int)) (p := 8) ht rfl (by rfl) (by rfl) (by rfl) (by rfl) (by decide) (by rfl) (by rfl) (srcLS (T := intT) (es := ([e] : List Int)) (fun _ h => by cases h) (by decide) (by rfl)) (by exact hp_4) (by exact hp_4.le (by decide)))) rfl rfl rfl rfl,
 .mt ⟨[sl 4 (B sh)], []⟩ [] none (by kernel_rfl) (by rfl) (mt_castB hb_2 (mt_ev ht (by kernel_rfl))) rfl rfl rfl rfl,
 .ev ⟨[sl 56 (B true)], []⟩ ht,
 .ev ⟨[qk7 w, sl 57 (B true)], []⟩ ht,
 .ev ⟨[sl 57 (B true), sl 58 (LS intT w)], []⟩ ht,
 .ev ⟨[sl 57 (B true), sl 59 (I (w.length : Int))], []⟩ ht,
 .ev ⟨[sl 57 (B true), sl 60 (B (qk12 w))], []⟩ ht,
 .ev ⟨[qk1 Bk], []⟩ ht,
 trivial⟩
 obtain ⟨hp, h⟩ := h
 refine WL.cE (CtE.kept (ih bM iM ag ((signs.take ((signs.length : Int) : Int).toNat).drop (1 : Int).toNat) e_3 (w ++ ([e] : List Int)) (qk12 w) hp) [] [(0, Bk 0)] (by kernel_rfl)) en139 [0, 1, 2, 3, 4, 5, 6] hn rfl ?_
 refine WL.nil ?_
 exact En.at (I := fun zz => J zz.1 zz.2.1 zz.2.2) (T := fun zz => ⟨[qk5 Bk, qk1 Bk], [qk0 g d, mapI St170.enc (lsT intT) zz.1, mapI St170.enc intT zz.2.1, .box (qk10 m) 39 false, qk6 pS, qk3 Bk, .box [B zz.2.2] 4 false, .gone]⟩) ((rowsS g d m pS ((signs.take ((signs.length : Int) : Int).toNat).drop (1 : Int).toNat) e_3 (w ++ ([e] : List Int)) (qk12 w) ⟨bM, iM, ag⟩).b, (rowsS g d m pS ((signs.take ((signs.length : Int) : Int).toNat).drop (1 : Int).toNat) e_3 (w ++ ([e] : List Int)) (qk12 w) ⟨bM, iM, ag⟩).i, (rowsS g d m pS ((signs.take ((signs.length : Int) : Int).toNat).drop (1 : Int).toNat) e_3 (w ++ ([e] : List Int)) (qk12 w) ⟨bM, iM, ag⟩).ag) h (by kernel_rfl)
 replace h := h.2 hb_2
 refine En.regionT ⟨[qk5 Bk, qk8 signs, sl 2 (I q), qk7 w, sl 4 (B sh), qk1 Bk, sl 12 (I e)], [.sv (.one (.ptr 0 0)), .sv (.one (LS intT signs)), .sv (.one (qk9 signs)), .sv (.one (.ptr 0 0)), .sv (.one (.ptr 0 0)), .sv (.one (.ptr 0 3)), .sv (.one (.ptr 0 5)), .sv (.one (LS (lsT intT) d.fNext)), .sv (.one (I q)), .sv (.one (.pe (svR (.one (LS intT e_2))) 1)), .sv (.one (LS intT e_2)), .sv (.one (I e)), .sv (.one (.pe (svR (.one (I e_3))) 1)), .sv (.one (I e_3)), .sv (.one (LS intT w)), .sv (.one (.own 7)), .sv (.one (I e)), .sv (.one (LS intT ([e] : List Int))), .sv (.one (LS intT (w ++ ([e] : List Int)))), .sv (.one (B false)), .sv (.one (B false)), .tup [], .tup [], .tup [], .sv (.one (B false)), .sv (.one (.fn 140 [3, 4, 5, 6]))], [⟨(qk0 g d), none, none, none⟩, ⟨mapI St170.enc (lsT intT) bM, none, none, none⟩, ⟨mapI St170.enc intT iM, none, none, none⟩, ⟨.box (qk10 m) 39 false, none, none, none⟩, ⟨(qk6 pS), none, none, none⟩, ⟨(qk3 Bk), none, none, none⟩, ⟨.box [B ag] 4 false, none, none, none⟩, ⟨rowI 3 intT w, some 15, some 18, none⟩]⟩ 26 ⟨[qk5 Bk, qk1 Bk, sl 37 (.ptr 0 0), sl 39 (qk9 signs), sl 50 (I e_3), sl 55 (LS intT (w ++ ([e] : List Int))), sl 61 (B false), sl 62 (.fn 140 [3, 4, 5, 6])], [qk0 g d, mapI St170.enc (lsT intT) bM, mapI St170.enc intT iM, .box (qk10 m) 39 false, qk6 pS, qk3 Bk, .box [B ag] 4 false, .gone]⟩ (by kernel_rfl) hn (by kernel_rfl) (by kernel_rfl) (by kernel_rfl) (by rfl) (by kernel_rfl) ?_ (by kernel_rfl) ?_
 exact ⟨.ev ⟨[qk5 Bk], []⟩ ht,
 .ev ⟨[qk8 signs], []⟩ ht,
 .vl ⟨[sl 38 (LS intT signs)], []⟩ (mt_val (val_slice (T := intT) (l := signs) (lv := 1) (hv := (signs.length : Int)) ht rfl (by rfl) (by rfl) (by rfl) (by rfl) (by rfl) (by rfl) (by rfl) hp_2)),
 .ev ⟨[qk5 Bk], []⟩ ht,
 .ev ⟨[sl 40 (.ptr 0 0)], []⟩ ht,
 .ev ⟨[sl 41 (.ptr 0 0)], []⟩ ht,
 .ev ⟨[sl 42 (.ptr 0 3)], []⟩ ht,
 .ev ⟨[sl 43 (.ptr 0 5)], [qk0 g d]⟩ ht,
 .ev ⟨[sl 2 (I q)], []⟩ ht,
 .vl ⟨[sl 44 (LS (lsT intT) d.fNext), sl 45 (I q)], []⟩ (mt_val (val_ix (T := (lsT intT)) (l := d.fNext) (i := q) ht rfl he_2)),
 .vl ⟨[sl 46 (.pe (svR (.one (LS intT e_2))) 1)], []⟩ (mt_val (val_ld (s := .one (LS intT e_2)) ht rfl)),
 .ev ⟨[sl 12 (I e)], []⟩ ht,
 .vl ⟨[sl 47 (LS intT e_2), sl 48 (I e)], []⟩ (mt_val (val_ix (T := intT) (l := e_2) (i := e) ht rfl he_3)),
 .vl ⟨[sl 49 (.pe (svR (.one (I e_3))) 1)], []⟩ (mt_val (val_ld (s := .one (I e_3)) ht rfl)),
 .ev ⟨[qk7 w], []⟩ ht,
 .mt ⟨[sl 51 (LS intT w)], []⟩ [] (some 7) (by kernel_rfl) (by rfl) (mt_callI 7 (cloneInt_ct w hp_3) en37 (caps := []) [] rfl rfl (by rfl) (by kernel_rfl) (by kernel_rfl) (by rfl) (by rfl)) rfl rfl rfl rfl,
 .ev ⟨[sl 12 (I e)], []⟩ ht,
 .mt ⟨[sl 53 (I e)], []⟩ [] none (by kernel_rfl) (by rfl) (mt_seal (q := 8) (e := 3) (mt_lit (T := intT) ([e] : List Int) (mt_bsl 8 (r := cellsOf intT ([e] : List Int)) ht rfl (by rfl) (by rfl) (by rfl) (by kernel_rfl) (by rfl)) (fun _ h => by cases h) (fun _ => rfl) (fun _ => rfl) (by rfl) (Nat.le_of_ble_eq_true rfl))) rfl rfl rfl rfl,
 .mt ⟨[sl 52 (.own 7), sl 54 (LS intT ([e] : List Int))], [.gone, .gone, .gone, .gone, .gone, .gone, .gone, rowI 3 intT w]⟩ [7] none (by kernel_rfl) (by rfl) (mt_seal (q := 8) (e := 3) (mt_append (T := intT) (l := w) (es := ([e] : List Int)) (p := 8) ht rfl (by rfl) (by rfl) (by rfl) (by rfl) (by decide) (by rfl) (by rfl) (srcLS (T := intT) (es := ([e] : List Int)) (fun _ h => by cases h) (by decide) (by rfl)) (by exact hp_4) (by exact hp_4.le (by decide)))) rfl rfl rfl rfl,
 .mt ⟨[sl 4 (B sh)], []⟩ [] none (by kernel_rfl) (by rfl) (mt_castB hb_2 (mt_ev ht (by kernel_rfl))) rfl rfl rfl rfl,
 .ev ⟨[sl 56 (B false)], []⟩ ht,
 .skip ⟨[sl 57 (B false)], []⟩ (by kernel_rfl) (by rfl) rfl rfl rfl rfl,
 .skip ⟨[sl 57 (B false)], []⟩ (by kernel_rfl) (by rfl) rfl rfl rfl rfl,
 .skip ⟨[sl 57 (B false)], []⟩ (by kernel_rfl) (by rfl) rfl rfl rfl rfl,
 .ev ⟨[sl 57 (B false), (60, .tup [])], []⟩ ht,
 .ev ⟨[qk1 Bk], []⟩ ht,
 trivial⟩
 obtain ⟨hp, h⟩ := h
 refine WL.cE (CtE.kept (ih bM iM ag ((signs.take ((signs.length : Int) : Int).toNat).drop (1 : Int).toNat) e_3 (w ++ ([e] : List Int)) false hp) [] [(0, Bk 0)] (by kernel_rfl)) en139 [0, 1, 2, 3, 4, 5, 6] hn rfl ?_
 refine WL.nil ?_
 exact En.at (I := fun zz => J zz.1 zz.2.1 zz.2.2) (T := fun zz => ⟨[qk5 Bk, qk1 Bk], [qk0 g d, mapI St170.enc (lsT intT) zz.1, mapI St170.enc intT zz.2.1, .box (qk10 m) 39 false, qk6 pS, qk3 Bk, .box [B zz.2.2] 4 false, .gone]⟩) ((rowsS g d m pS ((signs.take ((signs.length : Int) : Int).toNat).drop (1 : Int).toNat) e_3 (w ++ ([e] : List Int)) false ⟨bM, iM, ag⟩).b, (rowsS g d m pS ((signs.take ((signs.length : Int) : Int).toNat).drop (1 : Int).toNat) e_3 (w ++ ([e] : List Int)) false ⟨bM, iM, ag⟩).i, (rowsS g d m pS ((signs.take ((signs.length : Int) : Int).toNat).drop (1 : Int).toNat) e_3 (w ++ ([e] : List Int)) false ⟨bM, iM, ag⟩).ag) h (by kernel_rfl)
 rintro ⟨m1, m2, y6⟩ h
 replace h := hJ _ _ _ h
 show En c ⟨[qk5 Bk, qk1 Bk], [qk0 g d, mapI St170.enc (lsT intT) m1, mapI St170.enc intT m2, .box (qk10 m) 39 false, qk6 pS, qk3 Bk, .box [B y6] 4 false, .gone]⟩ _
 refine En.ret ?_
 exact En.backP [.slot 0, .cap 5 0, .cap 5 1, .cap 5 2, .cap 5 3] [] ht (m1, m2, y6) h (by kernel_rfl) (by rfl) rfl rfl
 refine En.skip ?_
 refine En.sr ?_
 refine WL.rn ht hn 7 ⟨[qk5 Bk, qk8 signs, sl 2 (I q), qk7 w, sl 4 (B sh), qk1 Bk, qk4 d, sl 70 (I 0)], [qk0 g d, mapI St170.enc (lsT intT) bM, mapI St170.enc intT iM, .box (qk10 m) 39 false, qk6 pS, qk3 Bk, .box [B ag] 4 false]⟩ ?_
 refine En.block ?_
 obtain ⟨Inv, mu, h0, hI⟩ := h
 refine En.loop (σ := Int × (List (St170 × (List Int))) × (List (St170 × Int)) × Bool) (fun zz => Inv zz.1 zz.2.1 zz.2.2.1 zz.2.2.2) (fun zz => mu zz.1 zz.2.1 zz.2.2.1 zz.2.2.2) (fun zz => ⟨[qk5 Bk, qk8 signs, sl 2 (I q), qk7 w, sl 4 (B sh), qk1 Bk, qk4 d, sl 70 (I zz.1)], [qk0 g d, mapI St170.enc (lsT intT) zz.2.1, mapI St170.enc intT zz.2.2.1, .box (qk10 m) 39 false, qk6 pS, qk3 Bk, .box [B zz.2.2.2] 4 false]⟩) (0, bM, iM, ag) h0 (sub_ok (by kernel_rfl)) ?_
 rintro ⟨x70, m1_2, m2_2, y6_2⟩ h
 replace h := hI _ _ _ _ h
 show En c ⟨[qk5 Bk, qk8 signs, sl 2 (I q), qk7 w, sl 4 (B sh), qk1 Bk, qk4 d, sl 70 (I x70)], [qk0 g d, mapI St170.enc (lsT intT) m1_2, mapI St170.enc intT m2_2, .box (qk10 m) 39 false, qk6 pS, qk3 Bk, qk11 y6_2]⟩ _
 refine En.sr ?_
 refine WL.rn ht hn 1 ⟨[qk5 Bk, qk8 signs, sl 2 (I q), qk7 w, sl 4 (B sh), qk1 Bk, qk4 d, sl 70 (I x70), sl 71 (B (decide (x70 < (d.fNext.length : Int))))], [qk0 g d, mapI St170.enc (lsT intT) m1_2, mapI St170.enc intT m2_2, .box (qk10 m) 39 false, qk6 pS, qk3 Bk, qk11 y6_2]⟩ ?_
 refine En.seq ?_
 refine En.ch h (fun h => ?_) (fun h => ?_)
 refine En.skip ?_
 obtain ⟨J_2, h, hJ_2⟩ := h
 refine En.seqJ (σ := (List (St170 × (List Int))) × (List (St170 × Int)) × Bool) (fun zz => J_2 zz.1 zz.2.1 zz.2.2) (fun zz => ⟨[qk5 Bk, qk8 signs, sl 2 (I q), qk7 w, sl 4 (B sh), qk1 Bk, qk4 d, sl 70 (I x70)], [qk0 g d, mapI St170.enc (lsT intT) zz.1, mapI St170.enc intT zz.2.1, .box (qk10 m) 39 false, qk6 pS, qk3 Bk, .box [B zz.2.2] 4 false, .gone]⟩) ?_ ?_
 refine En.block ?_
 refine En.sr ?_
 refine WL.rn ht hn 2 ⟨[qk5 Bk, qk8 signs, sl 2 (I q), qk7 w, sl 4 (B sh), qk1 Bk, sl 13 (I x70), qk4 d, sl 70 (I x70)], [qk0 g d, mapI St170.enc (lsT intT) m1_2, mapI St170.enc intT m2_2, .box (qk10 m) 39 false, qk6 pS, qk3 Bk, qk11 y6_2]⟩ ?_
 refine En.seq ?_
 obtain ⟨e_4, he_4, h⟩ := h
 refine En.regionA ⟨[qk5 Bk, qk8 signs, sl 2 (I q), qk7 w, sl 4 (B sh), qk1 Bk, sl 13 (I x70), qk4 d, sl 70 (I x70)], [.sv (.one (LS intT signs)), .sv (.one (.pe (svR (.one (I e_4))) 1)), .sv (.one (I e_4)), .sv (.one (.ptr 0 0)), .sv (.one (.ptr 0 0)), .sv (.one (.ptr 0 0)), .sv (.one (.ptr 0 0)), .sv (.one (I g.fLetters)), .sv (.one (I (qk13 g e_4))), .sv (.one (I q)), .sv (.one (I x70)), .sv (.agg [I (qk13 g e_4), I q, I x70]), .sv (.one (.ptr 7 0)), .tup []], [⟨(qk0 g d), none, none, none⟩, ⟨mapI St170.enc (lsT intT) m1_2, none, none, none⟩, ⟨mapI St170.enc intT m2_2, none, none, none⟩, ⟨.box (qk10 m) 39 false, none, none, none⟩, ⟨(qk6 pS), none, none, none⟩, ⟨(qk3 Bk), none, none, none⟩, ⟨(qk11 y6_2), none, none, none⟩, ⟨.box [I 0, I 0, I 0] 170 false, some 12, none, some (13, .box [I (qk13 g e_4), I q, I x70] 170 false)⟩]⟩ ⟨[qk5 Bk, qk8 signs, sl 2 (I q), qk7 w, sl 4 (B sh), qk1 Bk, sl 13 (I x70), sl 14 (.ptr 7 0), qk4 d, sl 70 (I x70)], [qk0 g d, mapI St170.enc (lsT intT) m1_2, mapI St170.enc intT m2_2, .box (qk10 m) 39 false, qk6 pS, qk3 Bk, qk11 y6_2, .box [I (qk13 g e_4), I q, I x70] 170 false]⟩ (by kernel_rfl) hn (by kernel_rfl) (by rfl) (by kernel_rfl) ?_ (by kernel_rfl) ?_
 exact ⟨.ev ⟨[qk8 signs], []⟩ ht,
 .vl ⟨[sl 73 (LS intT signs)], []⟩ (mt_val (val_ix (T := intT) (l := signs) (i := 0) ht rfl he_4)),
 .vl ⟨[sl 74 (.pe (svR (.one (I e_4))) 1)], []⟩ (mt_val (val_ld (s := .one (I e_4)) ht rfl)),
 .ev ⟨[qk5 Bk], []⟩ ht,
 .ev ⟨[sl 76 (.ptr 0 0)], []⟩ ht,
 .ev ⟨[sl 77 (.ptr 0 0)], []⟩ ht,
 .ev ⟨[sl 78 (.ptr 0 0)], []⟩ ht,
 .ev ⟨[sl 79 (.ptr 0 0)], [qk0 g d]⟩ ht,
 .ev ⟨[sl 75 (I e_4), sl 80 (I g.fLetters)], []⟩ ht,
 .ev ⟨[sl 2 (I q)], []⟩ ht,
 .ev ⟨[sl 13 (I x70)], []⟩ ht,
 .ev ⟨[sl 81 (I (qk13 g e_4)), sl 82 (I q), sl 83 (I x70)], []⟩ ht,
 .mt ⟨[], []⟩ [] (some 7) (by kernel_rfl) (by rfl) (mt_alloc2 7 170 ht rfl (by rfl) (by rfl)) rfl rfl rfl rfl,
 .mu ⟨[sl 14 (.ptr 7 0), (84, .sv (.agg [I (qk13 g e_4), I q, I x70]))], [.gone, .gone, .gone, .gone, .gone, .gone, .gone, .box [I 0, I 0, I 0] 170 false]⟩ 7 _ _ rfl rfl (by kernel_rfl) (by rfl) (mu_store2 ht rfl (by rfl) (by rfl) (by rfl) (by rfl) (fun h => by cases h) (by rfl) (by rfl)) rfl rfl rfl rfl rfl rfl rfl,
 trivial⟩
 refine En.seq ?_
 refine En.seq ?_
 refine En.regionA ⟨[qk5 Bk, qk8 signs, sl 2 (I q), qk7 w, sl 4 (B sh), qk1 Bk, sl 13 (I x70), sl 14 (.ptr 7 0), qk4 d, sl 70 (I x70)], [.sv (.one (.ptr 0 0)), .sv (.one (.ptr 0 0)), .sv (.one (.ptr 0 8)), .sv (.one (.own 2)), .sv (.agg [I (qk13 g e_4), I q, I x70]), .sv (.one (I ((mget (qk2 g q e_4 x70) m2_2).getD (0 : Int)))), .sv (.one (B (((mget (qk2 g q e_4 x70) m2_2).getD (0 : Int)) == 0)))], [⟨(qk0 g d), none, none, none⟩, ⟨mapI St170.enc (lsT intT) m1_2, none, none, none⟩, ⟨mapI St170.enc intT m2_2, none, none, none⟩, ⟨.box (qk10 m) 39 false, none, none, none⟩, ⟨(qk6 pS), none, none, none⟩, ⟨(qk3 Bk), none, none, none⟩, ⟨(qk11 y6_2), none, none, none⟩, ⟨.box [I (qk13 g e_4), I q, I x70] 170 false, none, none, none⟩]⟩ ⟨[qk5 Bk, qk8 signs, sl 2 (I q), qk7 w, sl 4 (B sh), qk1 Bk, sl 13 (I x70), sl 14 (.ptr 7 0), qk4 d, sl 70 (I x70), sl 91 (B (((mget (qk2 g q e_4 x70) m2_2).getD (0 : Int)) == 0))], [qk0 g d, mapI St170.enc (lsT intT) m1_2, mapI St170.enc intT m2_2, .box (qk10 m) 39 false, qk6 pS, qk3 Bk, qk11 y6_2, .box [I (qk13 g e_4), I q, I x70] 170 false]⟩ (by kernel_rfl) hn (by kernel_rfl) (by rfl) (by kernel_rfl) ?_ (by kernel_rfl) ?_
 exact ⟨.ev ⟨[qk5 Bk], []⟩ ht,
 .ev ⟨[sl 85 (.ptr 0 0)], []⟩ ht,
 .ev ⟨[sl 86 (.ptr 0 0)], []⟩ ht,
 .ev ⟨[sl 87 (.ptr 0 8)], [qk0 g d]⟩ ht,
 .ev ⟨[sl 14 (.ptr 7 0)], [.gone, .gone, .gone, .gone, .gone, .gone, .gone, .box [I (qk13 g e_4), I q, I x70] 170 false]⟩ ht,
 .vl ⟨[sl 88 (.own 2), (89, .sv (.agg [I (qk13 g e_4), I q, I x70]))], [.gone, .gone, mapI St170.enc intT m2_2]⟩ (mt_val (val_lookup (T := intT) (D := m2_2) St170.keyLaw (k := (qk2 g q e_4 x70)) (ok := false) (0 : Int) (zv := (.int .i64 0)) rfl Try.underlying167 (fun _ => by kernel_rfl) (fun _ => ⟨rfl, trivial⟩) (mapAs St170.enc intT m2_2) (by rfl) (by rfl) (by rfl) (fun _ => rfl))),
 .ev ⟨[sl 90 (I ((mget (qk2 g q e_4 x70) m2_2).getD (0 : Int)))], []⟩ ht,
 trivial⟩
 refine En.ch h (fun h => ?_) (fun h => ?_)
 refine En.exit rfl ?_
 exact En.at (I := fun zz => J_2 zz.1 zz.2.1 zz.2.2) (T := fun zz => ⟨[qk5 Bk, qk8 signs, sl 2 (I q), qk7 w, sl 4 (B sh), qk1 Bk, qk4 d, sl 70 (I x70)], [qk0 g d, mapI St170.enc (lsT intT) zz.1, mapI St170.enc intT zz.2.1, .box (qk10 m) 39 false, qk6 pS, qk3 Bk, .box [B zz.2.2] 4 false, .gone]⟩) (m1_2, m2_2, y6_2) h (by kernel_rfl)
 refine En.skip ?_
 refine En.seq ?_
 refine En.regionA ⟨[qk5 Bk, qk8 signs, sl 2 (I q), qk7 w, sl 4 (B sh), qk1 Bk, sl 13 (I x70), sl 14 (.ptr 7 0), qk4 d, sl 70 (I x70)], [.sv (.one (.ptr 0 0)), .sv (.one (.ptr 0 0)), .sv (.one (.ptr 0 7)), .sv (.one (.own 1)), .sv (.agg [I (qk13 g e_4), I q, I x70]), .tup [.one (LS intT ((mget (qk2 g q e_4 x70) m1_2).getD [])), .one (B (mget (qk2 g q e_4 x70) m1_2).isSome)], .tup [.one (LS intT ((mget (qk2 g q e_4 x70) m1_2).getD [])), .one (B (mget (qk2 g q e_4 x70) m1_2).isSome)], .sv (.one (LS intT ((mget (qk2 g q e_4 x70) m1_2).getD []))), .sv (.one (B (mget (qk2 g q e_4 x70) m1_2).isSome)), .sv (.one (LS intT ((mget (qk2 g q e_4 x70) m1_2).getD []))), .sv (.one (B (mget (qk2 g q e_4 x70) m1_2).isSome))], [⟨(qk0 g d), none, none, none⟩, ⟨mapI St170.enc (lsT intT) m1_2, none, none, none⟩, ⟨mapI St170.enc intT m2_2, none, none, none⟩, ⟨.box (qk10 m) 39 false, none, none, none⟩, ⟨(qk6 pS), none, none, none⟩, ⟨(qk3 Bk), none, none, none⟩, ⟨(qk11 y6_2), none, none, none⟩, ⟨.box [I (qk13 g e_4), I q, I x70] 170 false, none, none, none⟩]⟩ ⟨[qk5 Bk, qk8 signs, sl 2 (I q), qk7 w, sl 4 (B sh), qk1 Bk, sl 13 (I x70), sl 15 (LS intT ((mget (qk2 g q e_4 x70) m1_2).getD [])), sl 16 (B (mget (qk2 g q e_4 x70) m1_2).isSome), qk4 d, sl 70 (I x70)], [qk0 g d, mapI St170.enc (lsT intT) m1_2, mapI St170.enc intT m2_2, .box (qk10 m) 39 false, qk6 pS, qk3 Bk, qk11 y6_2, .gone]⟩ (by kernel_rfl) hn (by kernel_rfl) (by rfl) (by kernel_rfl) ?_ (by kernel_rfl) ?_
 exact ⟨.ev ⟨[qk5 Bk], []⟩ ht,
 .ev ⟨[sl 93 (.ptr 0 0)], []⟩ ht,
 .ev ⟨[sl 94 (.ptr 0 0)], []⟩ ht,
 .ev ⟨[sl 95 (.ptr 0 7)], [qk0 g d]⟩ ht,
 .ev ⟨[sl 14 (.ptr 7 0)], [.gone, .gone, .gone, .gone, .gone, .gone, .gone, .box [I (qk13 g e_4), I q, I x70] 170 false]⟩ ht,
 .vl ⟨[sl 96 (.own 1), (97, .sv (.agg [I (qk13 g e_4), I q, I x70]))], [.gone, mapI St170.enc (lsT intT) m1_2]⟩ (mt_val (val_lookup (T := (lsT intT)) (D := m1_2) St170.keyLaw (k := (qk2 g q e_4 x70)) (ok := true) [] (zv := (.slice none 0 0)) rfl Try.underlying166 (fun _ => by kernel_rfl) (fun _ => ls_nil) (mapAs St170.enc (lsT intT) m1_2) (by rfl) (by rfl) (by rfl) (fun _ => rfl))),
 .ev ⟨[(98, .tup [.one (LS intT ((mget (qk2 g q e_4 x70) m1_2).getD [])), .one (B (mget (qk2 g q e_4 x70) m1_2).isSome)])], []⟩ ht,
 .ev ⟨[(92, .tup [.one (LS intT ((mget (qk2 g q e_4 x70) m1_2).getD [])), .one (B (mget (qk2 g q e_4 x70) m1_2).isSome)])], []⟩ ht,
 .ev ⟨[(92, .tup [.one (LS intT ((mget (qk2 g q e_4 x70) m1_2).getD [])), .one (B (mget (qk2 g q e_4 x70) m1_2).isSome)])], []⟩ ht,
 .ev ⟨[sl 99 (LS intT ((mget (qk2 g q e_4 x70) m1_2).getD []))], []⟩ ht,
 .ev ⟨[sl 100 (B (mget (qk2 g q e_4 x70) m1_2).isSome)], []⟩ ht,
 trivial⟩
 refine En.sr ?_
 refine WL.r ht hn 2 ⟨[qk5 Bk, qk8 signs, sl 2 (I q), qk7 w, sl 4 (B sh), qk1 Bk, sl 13 (I x70), sl 15 (LS intT ((mget (qk2 g q e_4 x70) m1_2).getD [])), sl 16 (B (mget (qk2 g q e_4 x70) m1_2).isSome), qk4 d, sl 70 (I x70), sl 102 (B sh)], [qk0 g d, mapI St170.enc (lsT intT) m1_2, mapI St170.enc intT m2_2, .box (qk10 m) 39 false, qk6 pS, qk3 Bk, qk11 y6_2, .gone]⟩ ?_
 refine WL.thru ⟨[qk5 Bk, qk8 signs, sl 2 (I q), qk7 w, sl 4 (B sh), qk1 Bk, sl 13 (I x70), sl 15 (LS intT ((mget (qk2 g q e_4 x70) m1_2).getD [])), sl 17 (B ((sh && (mget (qk2 g q e_4 x70) m1_2).isSome) && (decide ((wr ((w.length : Int) + (((mget (qk2 g q e_4 x70) m1_2).getD []).length : Int))) ≤ 60)))), qk4 d, sl 70 (I x70)], [qk0 g d, mapI St170.enc (lsT intT) m1_2, mapI St170.enc intT m2_2, .box (qk10 m) 39 false, qk6 pS, qk3 Bk, qk11 y6_2, .gone]⟩ ?_ ?_
 refine splitB sh (fun hb0 => ?_) (fun hb0 => ?_)
 refine WL.sB 102 hb0 ?_
 refine WL.r ht hn 3 ⟨[qk5 Bk, qk8 signs, sl 2 (I q), qk7 w, sl 4 (B sh), qk1 Bk, sl 13 (I x70), sl 15 (LS intT ((mget (qk2 g q e_4 x70) m1_2).getD [])), qk4 d, sl 70 (I x70), sl 105 (B (mget (qk2 g q e_4 x70) m1_2).isSome)], [qk0 g d, mapI St170.enc (lsT intT) m1_2, mapI St170.enc intT m2_2, .box (qk10 m) 39 false, qk6 pS, qk3 Bk, qk11 y6_2, .gone]⟩ ?_
 refine splitB (mget (qk2 g q e_4 x70) m1_2).isSome (fun hb1 => ?_) (fun hb1 => ?_)
 refine WL.sB 105 hb1 ?_
 refine WL.r ht hn 8 ⟨[qk5 Bk, qk8 signs, sl 2 (I q), qk7 w, sl 4 (B sh), qk1 Bk, sl 13 (I x70), sl 15 (LS intT ((mget (qk2 g q e_4 x70) m1_2).getD [])), sl 17 (B (decide ((wr ((w.length : Int) + (((mget (qk2 g q e_4 x70) m1_2).getD []).length : Int))) ≤ 60))), qk4 d, sl 70 (I x70)], [qk0 g d, mapI St170.enc (lsT intT) m1_2, mapI St170.enc intT m2_2, .box (qk10 m) 39 false, qk6 pS, qk3 Bk, qk11 y6_2, .gone]⟩ ?_
 exact WL.nil (sub_ok (by simp only [hb0, hb1]; kernel_rfl))
 refine WL.sB 105 hb1 ?_
 refine WL.r ht hn 8 ⟨[qk5 Bk, qk8 signs, sl 2 (I q), qk7 w, sl 4 (B sh), qk1 Bk, sl 13 (I x70), sl 15 (LS intT ((mget (qk2 g q e_4 x70) m1_2).getD [])), sl 17 (B false), qk4 d, sl 70 (I x70)], [qk0 g d, mapI St170.enc (lsT intT) m1_2, mapI St170.enc intT m2_2, .box (qk10 m) 39 false, qk6 pS, qk3 Bk, qk11 y6_2, .gone]⟩ ?_
 exact WL.nil (sub_ok (by simp only [hb0, hb1]; kernel_rfl))
 refine WL.sB 102 hb0 ?_
 refine WL.r ht hn 11 ⟨[qk5 Bk, qk8 signs, sl 2 (I q), qk7 w, sl 4 (B sh), qk1 Bk, sl 13 (I x70), sl 15 (LS intT ((mget (qk2 g q e_4 x70) m1_2).getD [])), sl 17 (B false), qk4 d, sl 70 (I x70)], [qk0 g d, mapI St170.enc (lsT intT) m1_2, mapI St170.enc intT m2_2, .box (qk10 m) 39 false, qk6 pS, qk3 Bk, qk11 y6_2, .gone]⟩ ?_
 exact WL.nil (sub_ok (by simp only [hb0]; kernel_rfl))
 refine En.sr ?_
 refine WL.rn ht hn 1 ⟨[qk5 Bk, qk8 signs, sl 2 (I q), qk7 w, sl 4 (B sh), qk1 Bk, sl 13 (I x70), sl 15 (LS intT ((mget (qk2 g q e_4 x70) m1_2).getD [])), sl 17 (B ((sh && (mget (qk2 g q e_4 x70) m1_2).isSome) && (decide ((wr ((w.length : Int) + (((mget (qk2 g q e_4 x70) m1_2).getD []).length : Int))) ≤ 60)))), sl 18 (.v (.slice none 0 0)), qk4 d, sl 70 (I x70)], [qk0 g d, mapI St170.enc (lsT intT) m1_2, mapI St170.enc intT m2_2, .box (qk10 m) 39 false, qk6 pS, qk3 Bk, qk11 y6_2, .gone]⟩ ?_
 obtain ⟨J_3, h, hJ_3⟩ := h
 refine En.seqJ (σ := (List Int)) (fun zz => J_3 zz) (fun zz => ⟨[qk5 Bk, qk8 signs, sl 2 (I q), qk7 w, sl 4 (B sh), qk1 Bk, sl 13 (I x70), sl 17 (B ((sh && (mget (qk2 g q e_4 x70) m1_2).isSome) && (decide ((wr ((w.length : Int) + (((mget (qk2 g q e_4 x70) m1_2).getD []).length : Int))) ≤ 60)))), sl 18 (.own 9), qk4 d, sl 70 (I x70)], [qk0 g d, mapI St170.enc (lsT intT) m1_2, mapI St170.enc intT m2_2, .box (qk10 m) 39 false, qk6 pS, qk3 Bk, qk11 y6_2, .gone, .gone, rowI 3 intT zz]⟩) ?_ ?_
 refine En.sr ?_
 refine WL.rn ht hn 1 ⟨[qk5 Bk, qk8 signs, sl 2 (I q), qk7 w, sl 4 (B sh), qk1 Bk, sl 13 (I x70), sl 15 (LS intT ((mget (qk2 g q e_4 x70) m1_2).getD [])), sl 17 (B ((sh && (mget (qk2 g q e_4 x70) m1_2).isSome) && (decide ((wr ((w.length : Int) + (((mget (qk2 g q e_4 x70) m1_2).getD []).length : Int))) ≤ 60)))), sl 18 (.v (.slice none 0 0)), qk4 d, sl 70 (I x70), sl 113 (B ((sh && (mget (qk2 g q e_4 x70) m1_2).isSome) && (decide ((wr ((w.length : Int) + (((mget (qk2 g q e_4 x70) m1_2).getD []).length : Int))) ≤ 60))))], [qk0 g d, mapI St170.enc (lsT intT) m1_2, mapI St170.enc intT m2_2, .box (qk10 m) 39 false, qk6 pS, qk3 Bk, qk11 y6_2, .gone]⟩ ?_
 refine En.ch h (fun h => ?_) (fun h => ?_)
 refine En.region ?_
 refine WL.r ht hn 2 ⟨[qk5 Bk, qk8 signs, sl 2 (I q), qk7 w, sl 4 (B sh), qk1 Bk, sl 13 (I x70), sl 17 (B ((sh && (mget (qk2 g q e_4 x70) m1_2).isSome) && (decide ((wr ((w.length : Int) + (((mget (qk2 g q e_4 x70) m1_2).getD []).length : Int))) ≤ 60)))), qk4 d, sl 70 (I x70), sl 114 (LS intT w), sl 115 (LS intT ((mget (qk2 g q e_4 x70) m1_2).getD []))], [qk0 g d, mapI St170.enc (lsT intT) m1_2, mapI St170.enc intT m2_2, .box (qk10 m) 39 false, qk6 pS, qk3 Bk, qk11 y6_2, .gone]⟩ ?_
 refine WL.mt0 (K := []) (p := some (8, rowI 23 (lsT intT) ([w, ((mget (qk2 g q e_4 x70) m1_2).getD [])] : List (List Int)))) hn (by rfl) (mt_lit (T := (lsT intT)) ([w, ((mget (qk2 g q e_4 x70) m1_2).getD [])] : List (List Int)) (mt_bsl 8 (r := cellsOf (lsT intT) ([w, ((mget (qk2 g q e_4 x70) m1_2).getD [])] : List (List Int))) ht rfl (by rfl) (by rfl) (by rfl) (by kernel_rfl) (by rfl)) (fun _ h => by cases h) (fun _ => rfl) (fun _ => rfl) (by rfl) (Nat.le_of_ble_eq_true rfl)) (by rfl) (by rfl) (by rfl) ?_
 obtain ⟨hp, h⟩ := h
 refine WL.mt0 (K := []) (p := some (9, rowI 3 intT ([w, ((mget (qk2 g q e_4 x70) m1_2).getD [])] : List (List Int)).flatten)) hn (by rfl) (mt_lendI (T := (lsT intT)) (l := ([w, ((mget (qk2 g q e_4 x70) m1_2).getD [])] : List (List Int))) 8 (by rfl) (plain_row fun _ => rfl) (mt_callI 9 (concatI_ct ([w, ((mget (qk2 g q e_4 x70) m1_2).getD [])] : List (List Int)) hp) en42 (caps := []) [] rfl rfl (by rfl) (by kernel_rfl) (by kernel_rfl) (by rfl) (by rfl))) (by rfl) (by rfl) (by rfl) ?_
 refine WL.rn ht hn 1 ⟨[qk5 Bk, qk8 signs, sl 2 (I q), qk7 w, sl 4 (B sh), qk1 Bk, sl 13 (I x70), sl 17 (B ((sh && (mget (qk2 g q e_4 x70) m1_2).isSome) && (decide ((wr ((w.length : Int) + (((mget (qk2 g q e_4 x70) m1_2).getD []).length : Int))) ≤ 60)))), sl 18 (.own 9), qk4 d, sl 70 (I x70)], [qk0 g d, mapI St170.enc (lsT intT) m1_2, mapI St170.enc intT m2_2, .box (qk10 m) 39 false, qk6 pS, qk3 Bk, qk11 y6_2, .gone, .gone, rowI 3 intT ([w, ((mget (qk2 g q e_4 x70) m1_2).getD [])] : List (List Int)).flatten]⟩ ?_
 exact En.at (I := fun zz => J_3 zz) (T := fun zz => ⟨[qk5 Bk, qk8 signs, sl 2 (I q), qk7 w, sl 4 (B sh), qk1 Bk, sl 13 (I x70), sl 17 (B ((sh && (mget (qk2 g q e_4 x70) m1_2).isSome) && (decide ((wr ((w.length : Int) + (((mget (qk2 g q e_4 x70) m1_2).getD []).length : Int))) ≤ 60)))), sl 18 (.own 9), qk4 d, sl 70 (I x70)], [qk0 g d, mapI St170.enc (lsT intT) m1_2, mapI St170.enc intT m2_2, .box (qk10 m) 39 false, qk6 pS, qk3 Bk, qk11 y6_2, .gone, .gone, rowI 3 intT zz]⟩) ([w, ((mget (qk2 g q e_4 x70) m1_2).getD [])] : List (List Int)).flatten h (by kernel_rfl)
 refine En.skip ?_
 refine En.rowNil 18 9 3 intT (by rfl) (by rfl) ?_
 exact En.at (I := fun zz => J_3 zz) (T := fun zz => ⟨[qk5 Bk, qk8 signs, sl 2 (I q), qk7 w, sl 4 (B sh), qk1 Bk, sl 13 (I x70), sl 17 (B ((sh && (mget (qk2 g q e_4 x70) m1_2).isSome) && (decide ((wr ((w.length : Int) + (((mget (qk2 g q e_4 x70) m1_2).getD []).length : Int))) ≤ 60)))), sl 18 (.own 9), qk4 d, sl 70 (I x70)], [qk0 g d, mapI St170.enc (lsT intT) m1_2, mapI St170.enc intT m2_2, .box (qk10 m) 39 false, qk6 pS, qk3 Bk, qk11 y6_2, .gone, .gone, rowI 3 intT zz]⟩) ([] : List Int) h (by kernel_rfl)
 intro l9 h
 replace h := hJ_3 _ h
 show En c ⟨[qk5 Bk, qk8 signs, sl 2 (I q), qk7 w, sl 4 (B sh), qk1 Bk, sl 13 (I x70), sl 17 (B ((sh && (mget (qk2 g q e_4 x70) m1_2).isSome) && (decide ((wr ((w.length : Int) + (((mget (qk2 g q e_4 x70) m1_2).getD []).length : Int))) ≤ 60)))), sl 18 (.own 9), qk4 d, sl 70 (I x70)], [qk0 g d, mapI St170.enc (lsT intT) m1_2, mapI St170.enc intT m2_2, .box (qk10 m) 39 false, qk6 pS, qk3 Bk, qk11 y6_2, .gone, .gone, rowI 3 intT l9]⟩ _
 refine En.region ?_
 refine WL.r ht hn 2 ⟨[qk5 Bk, qk8 signs, sl 2 (I q), qk7 w, sl 4 (B sh), qk1 Bk, sl 13 (I x70), sl 17 (B ((sh && (mget (qk2 g q e_4 x70) m1_2).isSome) && (decide ((wr ((w.length : Int) + (((mget (qk2 g q e_4 x70) m1_2).getD []).length : Int))) ≤ 60)))), sl 18 (.own 9), qk4 d, sl 70 (I x70), sl 118 (.ptr 0 0), sl 119 (LS intT signs)], [qk0 g d, mapI St170.enc (lsT intT) m1_2, mapI St170.enc intT m2_2, .box (qk10 m) 39 false, qk6 pS, qk3 Bk, qk11 y6_2, .gone, .gone, rowI 3 intT l9]⟩ ?_
 obtain ⟨hp, h⟩ := h
 refine WL.v hn (val_slice (T := intT) (l := signs) (lv := 1) (hv := (signs.length : Int)) ht rfl (by rfl) (by rfl) (by rfl) (by rfl) (by rfl) (by rfl) (by rfl) hp) ?_
 refine WL.r ht hn 4 ⟨[qk5 Bk, qk8 signs, sl 2 (I q), qk7 w, sl 4 (B sh), qk1 Bk, qk4 d, sl 70 (I x70), sl 118 (.ptr 0 0), sl 120 (qk9 signs), sl 121 (I x70), sl 122 (.own 9), sl 123 (B ((sh && (mget (qk2 g q e_4 x70) m1_2).isSome) && (decide ((wr ((w.length : Int) + (((mget (qk2 g q e_4 x70) m1_2).getD []).length : Int))) ≤ 60)))), sl 124 (.fn 140 [3, 4, 5, 6])], [qk0 g d, mapI St170.enc (lsT intT) m1_2, mapI St170.enc intT m2_2, .box (qk10 m) 39 false, qk6 pS, qk3 Bk, qk11 y6_2, .gone, .gone, rowI 3 intT l9]⟩ ?_
 refine WL.seal (T := intT) (l := l9) (e := 3) 9 rfl ?_
 refine WL.r ht hn 0 ⟨[qk5 Bk, qk8 signs, sl 2 (I q), qk7 w, sl 4 (B sh), qk1 Bk, qk4 d, sl 70 (I x70), sl 118 (.ptr 0 0), sl 120 (qk9 signs), sl 121 (I x70), sl 122 (LS intT l9), sl 123 (B ((sh && (mget (qk2 g q e_4 x70) m1_2).isSome) && (decide ((wr ((w.length : Int) + (((mget (qk2 g q e_4 x70) m1_2).getD []).length : Int))) ≤ 60)))), sl 124 (.fn 140 [3, 4, 5, 6])], [qk0 g d, mapI St170.enc (lsT intT) m1_2, mapI St170.enc intT m2_2, .box (qk10 m) 39 false, qk6 pS, qk3 Bk, qk11 y6_2, .gone, .gone, .gone]⟩ ?_
 obtain ⟨hp, h⟩ := h
 refine WL.cE (CtE.kept (ih m1_2 m2_2 y6_2 ((signs.take ((signs.length : Int) : Int).toNat).drop (1 : Int).toNat) x70 l9 ((sh && (mget (qk2 g q e_4 x70) m1_2).isSome) && (decide ((wr ((w.length : Int) + (((mget (qk2 g q e_4 x70) m1_2).getD []).length : Int))) ≤ 60))) hp) [] [(0, Bk 0)] (by kernel_rfl)) en139 [0, 1, 2, 3, 4, 5, 6] hn rfl ?_
 refine WL.nil ?_
 exact En.at (I := fun zz => J_2 zz.1 zz.2.1 zz.2.2) (T := fun zz => ⟨[qk5 Bk, qk8 signs, sl 2 (I q), qk7 w, sl 4 (B sh), qk1 Bk, qk4 d, sl 70 (I x70)], [qk0 g d, mapI St170.enc (lsT intT) zz.1, mapI St170.enc intT zz.2.1, .box (qk10 m) 39 false, qk6 pS, qk3 Bk, .box [B zz.2.2] 4 false, .gone]⟩) ((rowsS g d m pS ((signs.take ((signs.length : Int) : Int).toNat).drop (1 : Int).toNat) x70 l9 ((sh && (mget (qk2 g q e_4 x70) m1_2).isSome) && (decide ((wr ((w.length : Int) + (((mget (qk2 g q e_4 x70) m1_2).getD []).length : Int))) ≤ 60))) ⟨m1_2, m2_2, y6_2⟩).b, (rowsS g d m pS ((signs.take ((signs.length : Int) : Int).toNat).drop (1 : Int).toNat) x70 l9 ((sh && (mget (qk2 g q e_4 x70) m1_2).isSome) && (decide ((wr ((w.length : Int) + (((mget (qk2 g q e_4 x70) m1_2).getD []).length : Int))) ≤ 60))) ⟨m1_2, m2_2, y6_2⟩).i, (rowsS g d m pS ((signs.take ((signs.length : Int) : Int).toNat).drop (1 : Int).toNat) x70 l9 ((sh && (mget (qk2 g q e_4 x70) m1_2).isSome) && (decide ((wr ((w.length : Int) + (((mget (qk2 g q e_4 x70) m1_2).getD []).length : Int))) ≤ 60))) ⟨m1_2, m2_2, y6_2⟩).ag) h (by kernel_rfl)
 rintro ⟨m1_3, m2_3, y6_3⟩ h
 replace h := hJ_2 _ _ _ h
 show En c ⟨[qk5 Bk, qk8 signs, sl 2 (I q), qk7 w, sl 4 (B sh), qk1 Bk, qk4 d, sl 70 (I x70)], [qk0 g d, mapI St170.enc (lsT intT) m1_3, mapI St170.enc intT m2_3, .box (qk10 m) 39 false, qk6 pS, qk3 Bk, .box [B y6_3] 4 false, .gone]⟩ _
 refine En.region ?_
 refine WL.rn ht hn 2 ⟨[qk5 Bk, qk8 signs, sl 2 (I q), qk7 w, sl 4 (B sh), qk1 Bk, qk4 d, sl 70 (I (wr (x70 + 1)))], [qk0 g d, mapI St170.enc (lsT intT) m1_3, mapI St170.enc intT m2_3, .box (qk10 m) 39 false, qk6 pS, qk3 Bk, .box [B y6_3] 4 false, .gone]⟩ ?_
 exact En.at (I := fun zz => Inv zz.1 zz.2.1 zz.2.2.1 zz.2.2.2 ∧ mu zz.1 zz.2.1 zz.2.2.1 zz.2.2.2 < mu x70 m1_2 m2_2 y6_2) (T := fun zz => ⟨[qk5 Bk, qk8 signs, sl 2 (I q), qk7 w, sl 4 (B sh), qk1 Bk, qk4 d, sl 70 (I zz.1)], [qk0 g d, mapI St170.enc (lsT intT) zz.2.1, mapI St170.enc intT zz.2.2.1, .box (qk10 m) 39 false, qk6 pS, qk3 Bk, .box [B zz.2.2.2] 4 false]⟩) ((wr (x70 + 1)), m1_3, m2_3, y6_3) h (by kernel_rfl)
 refine En.exit rfl ?_
 exact En.backP [.slot 0, .cap 5 0, .cap 5 1, .cap 5 2, .cap 5 3] [] ht (m1_2, m2_2, y6_2) h (by kernel_rfl) (by rfl) rfl rfl
theorem drop_one (s : Int) (rest : List Int) : ((s :: rest).take (((s :: rest).length : Int) : Int).toNat).drop (1 : Int).toNat = rest := by simp
theorem gRow_plain {g : ApiGrammar} {d : ApiDet} {bM : BMap} {iM : IMap} {m : ApiMake} {p : Int} {ag : Bool} {signs : List Int} {q : Int} {w : List Int} {sh : Bool} {n : Nat} (hn : signs.length < n + 1) (hp : RwPre g d bM signs q w sh) : gRow_vc g d bM iM m p ag signs q w sh n (fun r => r = ((rowsS g d m p signs q w sh ⟨bM, iM, ag⟩).b, (rowsS g d m p signs q w sh ⟨bM, iM, ag⟩).i, (rowsS g d m p signs q w sh ⟨bM, iM, ag⟩).ag)) := by
 obtain ⟨hd, hl, hf, hgl, hq, hsg, hw, hsl, hsh, hb⟩ := hp
 obtain ⟨st, hst⟩ : ∃ st : FSt, st = ⟨bM, iM, ag⟩ := ⟨_, rfl⟩
 unfold gRow_vc
 intro _ _
 cases signs with
 | nil =>
  refine ⟨fun _ => ⟨by simp only [List.length_nil] at hw; omega, ?_⟩, fun h => (by cases h)⟩
  rw [rowsS]
 | cons s rest =>
  have hs := hsg s List.mem_cons_self
  have hrs : ∀ x ∈ rest, 0 ≤ x ∧ x < 10 := fun x hx => hsg x (List.mem_cons_of_mem _ hx)
  simp only [List.length_cons] at hw hsl hn
  refine ⟨fun h => ?_, fun _ => ⟨s, rfl, fun h => ?_, fun h => ?_⟩⟩
  ·rw [beq_iff_eq, List.length_cons] at h
   omega
  ·have hlt : s < g.fLetters := of_decide_eq_true h
   obtain ⟨k1, k2, k3⟩ := stepI_at hd hq (a := s) ⟨hs.1, by omega⟩
   obtain ⟨R, hR⟩ : ∃ R, R = rowsS g d m p (s :: rest) q w sh ⟨bM, iM, ag⟩ := ⟨_, rfl⟩
   rw [← hR]
   rw [rowsS, if_pos hlt] at hR
   rw [drop_one]
   have hpre : ∀ x : Bool, (x = true → w.length < 60) → rest.length < n ∧ RwPre g d bM rest (stepI d q s) (w ++ [s]) x := fun x hx => ⟨by omega, hd, hl, hf, hgl, k3, hrs, by rw [List.length_append, List.length_singleton]; omega, by omega, fun e => by rw [List.length_append, List.length_singleton]; have := hx e; omega, hb⟩
   refine ⟨fun b i a => b = R.b ∧ i = R.i ∧ a = R.ag, ⟨⟨by omega, by simp only [List.length_cons]; omega, by omega⟩, _, k1, _, k2, by omega, capOk_of (by simp only [List.length_cons, List.length_nil]; omega), fun e => ?_, fun e => ?_⟩, ?_⟩
   ·have hdd : (decide ((w.length : Int) < 60)) = decide (w.length < 60) := decide_eq_decide.2 (by omega)
    rw [e, Bool.true_and] at hR
    rw [hdd, ← hR]
    exact ⟨hpre _ fun e => of_decide_eq_true e, rfl, rfl, rfl⟩
   ·rw [e, Bool.false_and] at hR
    rw [← hR]
    exact ⟨hpre _ fun e => (by cases e), rfl, rfl, rfl⟩
   ·rintro _ _ _ ⟨rfl, rfl, rfl⟩
    rfl
  ·have hge : ¬ s < g.fLetters := of_decide_eq_false h
   rw [rowsS, if_neg hge]
   have hwr : wr (s - g.fLetters) = s - g.fLetters := wr_in (by omega) (by omega)
   refine ⟨fun x b i a => ∃ k : Nat, x = k ∧ k ≤ d.fNext.length ∧ (⟨b, i, a⟩ : FSt) = (List.range k).foldl (nameF (rowsS g d m p rest) (s - g.fLetters) q w sh) ⟨bM, iM, ag⟩, fun x _ _ _ => d.fNext.length - x.toNat, ⟨0, rfl, Nat.zero_le _, rfl⟩, ?_⟩
   rintro x b i a ⟨k, rfl, hk, hF⟩
   have hbk : BOk b := by
    have : BOk ((List.range k).foldl (nameF (rowsS g d m p rest) (s - g.fLetters) q w sh) ⟨bM, iM, ag⟩).b := foldl_rel (P := fun st : FSt => BOk st.b) (fun st r hst => by
     unfold nameF
     split
     ·exact hst
     ·exact rowsS_bok rest _ _ _ _ nx_len hst) _ _ hb
    rw [← hF] at this
    exact this
   refine ⟨fun hb1 => ?_, fun hb1 => ?_⟩
   ·have hlt := dlt hb1
    refine ⟨fun b' i' a' => (⟨b', i', a'⟩ : FSt) = nameF (rowsS g d m p rest) (s - g.fLetters) q w sh ⟨b, i, a⟩ k, ⟨s, rfl, ?_⟩, ?_⟩
    ·rw [hwr]
     refine ⟨fun h0 => ?_, fun h0 => ?_⟩
     ·unfold nameF
      rw [if_pos (show ((mget (key3 (s - g.fLetters) q (k : Int)) i).getD 0 == 0) = true from h0)]
     ·have hvl : ((mget (key3 (s - g.fLetters) q (k : Int)) b).getD []).length ≤ 60 := by
       cases e : mget (key3 (s - g.fLetters) q (k : Int)) b with
       | none => exact Nat.zero_le _
       | some v => exact hbk _ _ e
      have hnx : ((sh && (mget (key3 (s - g.fLetters) q (k : Int)) b).isSome) && (decide ((wr ((w.length : Int) + (((mget (key3 (s - g.fLetters) q (k : Int)) b).getD []).length : Int))) ≤ 60))) = nxB (key3 (s - g.fLetters) q (k : Int)) w sh b := by
       unfold nxB
       rw [wr_in (by omega) (by omega)]
       congr 1
       exact decide_eq_decide.2 (by omega)
      have hn0 : nameF (rowsS g d m p rest) (s - g.fLetters) q w sh ⟨b, i, a⟩ k = rowsS g d m p rest k (nxW (key3 (s - g.fLetters) q (k : Int)) w sh b) (nxB (key3 (s - g.fLetters) q (k : Int)) w sh b) ⟨b, i, a⟩ := by
       unfold nameF
       rw [if_neg (by rw [show ((mget (key3 (s - g.fLetters) q (k : Int)) i).getD 0 == 0) = false from h0]; decide)]
      rw [drop_one]
      refine ⟨fun l => l = nxW (key3 (s - g.fLetters) q (k : Int)) w sh b, ⟨fun h1 => ?_, fun h1 => ?_⟩, ?_⟩
      ·have h1 := hnx.symm.trans h1
       refine ⟨⟨Nat.le_of_ble_eq_true rfl, ?_⟩, ?_⟩
       ·simp only [List.flatten_cons, List.flatten_nil, List.append_nil, List.length_append]
        have : ((mget (St170.mk (s - g.fLetters) q (k : Int)) b).getD []).length ≤ 60 := hvl
        omega
       ·unfold nxW
        rw [if_pos h1]
        simp only [List.flatten_cons, List.flatten_nil, List.append_nil]
      ·have h1 := hnx.symm.trans h1
       unfold nxW
       rw [if_neg (by rw [h1]; decide)]
      ·rintro _ rfl
       have hL : nxW (key3 (s - g.fLetters) q (k : Int)) w sh b = _ := rfl
       have hnl := nx_len2 (k := key3 (s - g.fLetters) q (k : Int)) (w := w) (sh := sh) (b := b)
       refine ⟨⟨by omega, by simp only [List.length_cons]; omega, by omega⟩, ?_⟩
       rw [show ((sh && (mget (St170.mk (s - g.fLetters) q (k : Int)) b).isSome) && (decide ((wr ((w.length : Int) + (((mget (St170.mk (s - g.fLetters) q (k : Int)) b).getD []).length : Int))) ≤ 60))) = _ from hnx]
       exact ⟨⟨by omega, hd, hl, hf, hgl, ⟨by omega, by omega⟩, hrs, by omega, by omega, fun _ => hnl, hbk⟩, hn0.symm⟩
    ·rintro b' i' a' hE
     refine ⟨⟨k + 1, wsucc (by omega), hlt, ?_⟩, mu_up hlt (by omega)⟩
     rw [List.range_succ, List.foldl_append, ← hF, hE]
     rfl
   ·obtain rfl : k = d.fNext.length := by have := dge hb1; omega
    rw [← hF]
theorem rwAll (g : ApiGrammar) (d : ApiDet) (m : ApiMake) (p : Int) : ∀ n, RwC g d m p n
 | 0 => fun _ _ _ _ _ _ _ h => absurd h.1 (Nat.not_lt_zero _)
 | n + 1 => fun bM iM ag signs q w sh h => (gRow_walk g d bM iM m p ag signs q w sh n (rwAll g d m p n) _ (gRow_plain h.1 h.2)).imp fun r hr => ⟨(), trivial, by subst hr; rfl, by subst hr; rfl⟩
theorem gRow_ct (g : ApiGrammar) (d : ApiDet) (bM : BMap) (iM : IMap) (m : ApiMake) (pS : Int) (ag : Bool) (signs : List Int) (q : Int) (w : List Int) (sh : Bool) (hp : RwPre g d bM signs q w sh) : CtE 139 [.sv (.one (.ptr 0 0)), .sv (.one (LS intT signs)), .sv (.one (I q)), .sv (.one (LS intT w)), .sv (.one (B sh)), .sv (.one (.fn 140 [3, 4, 5, 6]))] [.box [I g.fLetters, I g.fNames, LS ApiMake.ty g.fMakes, I d.fLetters, I d.fStart, LS (lsT intT) d.fNext, LS intT d.fMark, .own 1, .own 2] 169 false, mapI St170.enc (lsT intT) bM, mapI St170.enc intT iM, .box [I m.fFrom, LS intT m.fTo] 39 false, .box [I pS] 3 false, .box [.ptr 0 0] 165 false, .box [B ag] 4 false] [0, 3, 4, 5, 6] (fun (_ : Unit) => True) (fun _ => .tup []) (fun _ => [.box [I g.fLetters, I g.fNames, LS ApiMake.ty g.fMakes, I d.fLetters, I d.fStart, LS (lsT intT) d.fNext, LS intT d.fMark, .own 1, .own 2] 169 false, mapI St170.enc (lsT intT) (rowsS g d m pS signs q w sh ⟨bM, iM, ag⟩).b, mapI St170.enc intT (rowsS g d m pS signs q w sh ⟨bM, iM, ag⟩).i, .box [I m.fFrom, LS intT m.fTo] 39 false, .box [I pS] 3 false, .box [.ptr 0 0] 165 false, .box [B (rowsS g d m pS signs q w sh ⟨bM, iM, ag⟩).ag] 4 false]) := rwAll g d m pS (signs.length + 1) bM iM ag signs q w sh ⟨Nat.lt_succ_self _, hp⟩
structure FinPre (g : ApiGrammar) (d : ApiDet) (bM : BMap) (iM : IMap) : Prop where
 grm : GrmOk g
 det : DetOk d
 lets : d.fLetters = g.fLetters
 few : d.fNext.length ≤ 4
 none : bM = [] ∧ iM = []
def gFin_vc (g : ApiGrammar) (d : ApiDet) (bM : List (St170 × (List Int))) (iM : List (St170 × Int)) (Q : (List (St170 × (List Int))) × (List (St170 × Int)) → Prop) : Prop :=
 ∃ (Inv : (List (St170 × (List Int))) → (List (St170 × Int)) → Bool → Prop) (mu : (List (St170 × (List Int))) → (List (St170 × Int)) → Bool → Nat), Inv bM iM true ∧
 ∀ (m1 : List (St170 × (List Int))) (m2 : List (St170 × Int)) (y4 : Bool) , Inv m1 m2 y4 → (IfP y4 (∃ (Inv_2 : Int → (List (St170 × (List Int))) → (List (St170 × Int)) → Bool → Prop) (mu_2 : Int → (List (St170 × (List Int))) → (List (St170 × Int)) → Bool → Nat), Inv_2 0 m1 m2 false ∧
 ∀ (x13 : Int) (m1_2 : List (St170 × (List Int))) (m2_2 : List (St170 × Int)) (y4_2 : Bool) , Inv_2 x13 m1_2 m2_2 y4_2 → (IfP (decide (x13 < (g.fMakes.length : Int))) (∃ e, idx g.fMakes x13 = some e ∧
 ∃ (Inv_3 : Int → (List (St170 × (List Int))) → (List (St170 × Int)) → Bool → Prop) (mu_3 : Int → (List (St170 × (List Int))) → (List (St170 × Int)) → Bool → Nat), Inv_3 0 m1_2 m2_2 y4_2 ∧
 ∀ (x23 : Int) (m1_3 : List (St170 × (List Int))) (m2_3 : List (St170 × Int)) (y4_3 : Bool) , Inv_3 x23 m1_3 m2_3 y4_3 → (IfP (decide (x23 < (d.fNext.length : Int))) ((RwPre g d m1_3 e.fTo x23 ([] : List Int) true) ∧
 (Inv_3 (wr (x23 + 1)) ((rowsS g d e x23 e.fTo x23 ([] : List Int) true ⟨m1_3, m2_3, y4_3⟩).b) ((rowsS g d e x23 e.fTo x23 ([] : List Int) true ⟨m1_3, m2_3, y4_3⟩).i) ((rowsS g d e x23 e.fTo x23 ([] : List Int) true ⟨m1_3, m2_3, y4_3⟩).ag) ∧ mu_3 (wr (x23 + 1)) ((rowsS g d e x23 e.fTo x23 ([] : List Int) true ⟨m1_3, m2_3, y4_3⟩).b) ((rowsS g d e x23 e.fTo x23 ([] : List Int) true ⟨m1_3, m2_3, y4_3⟩).i) ((rowsS g d e x23 e.fTo x23 ([] : List Int) true ⟨m1_3, m2_3, y4_3⟩).ag) < mu_3 x23 m1_3 m2_3 y4_3)) ((Inv_2 (wr (x13 + 1)) m1_3 m2_3 y4_3 ∧ mu_2 (wr (x13 + 1)) m1_3 m2_3 y4_3 < mu_2 x13 m1_2 m2_2 y4_2)))) ((Inv m1_2 m2_2 y4_2 ∧ mu m1_2 m2_2 y4_2 < mu m1 m2 y4)))) (Q (m1, m2)))
noncomputable abbrev ql0 (g : ApiGrammar) (d : ApiDet) := (.box [I g.fLetters, I g.fNames, LS ApiMake.ty g.fMakes, I d.fLetters, I d.fStart, LS (lsT intT) d.fNext, LS intT d.fMark, .own 1, .own 2] 169 false : Item)
noncomputable abbrev ql1 := (.box [.ptr 0 0] 165 false : Item)
noncomputable abbrev ql2 (y0 : Nat → Nat) := sl 0 (.pptr 0 0 (y0 0))
noncomputable abbrev ql3 (g : ApiGrammar) := sl 12 (I (g.fMakes.length : Int))
noncomputable abbrev ql4 (g : ApiGrammar) := sl 11 (LS ApiMake.ty g.fMakes)
noncomputable abbrev ql5 := sl 1 (.ptr 3 0)
noncomputable abbrev ql6 := sl 2 (.ptr 4 0)
noncomputable abbrev ql7 (d : ApiDet) := sl 22 (I (d.fNext.length : Int))
theorem gFin_walk (g : ApiGrammar) (d : ApiDet) (bM : List (St170 × (List Int))) (iM : List (St170 × Int)) (Q : (List (St170 × (List Int))) × (List (St170 × Int)) → Prop) (h : gFin_vc g d bM iM Q) : CtE 89 [.sv (.one (.ptr 0 0))] [.box [I g.fLetters, I g.fNames, LS ApiMake.ty g.fMakes, I d.fLetters, I d.fStart, LS (lsT intT) d.fNext, LS intT d.fMark, .own 1, .own 2] 169 false, mapI St170.enc (lsT intT) bM, mapI St170.enc intT iM] [0] Q (fun (r : (List (St170 × (List Int))) × (List (St170 × Int))) => .tup []) (fun (r : (List (St170 × (List Int))) × (List (St170 × Int))) => [.box [I g.fLetters, I g.fNames, LS ApiMake.ty g.fMakes, I d.fLetters, I d.fStart, LS (lsT intT) d.fNext, LS intT d.fMark, .own 1, .own 2] 169 false, mapI St170.enc (lsT intT) r.1, mapI St170.enc intT r.2]) := by
 have ht := tab_ok
 refine CtE.body Try.func89 rfl rfl rfl (by kernel_rfl) (by kernel_rfl) (fun c Bk hn => ?_)
 unfold gFin_vc at h
 show En c ⟨[ql2 Bk], [ql0 g d, mapI St170.enc (lsT intT) bM, mapI St170.enc intT iM]⟩ _
 refine En.sr ?_
 refine WL.rn ht hn 1 ⟨[ql2 Bk, ql5], [ql0 g d, mapI St170.enc (lsT intT) bM, mapI St170.enc intT iM, ql1]⟩ ?_
 refine En.sr ?_
 refine WL.rn ht hn 2 ⟨[ql2 Bk, ql5, ql6], [ql0 g d, mapI St170.enc (lsT intT) bM, mapI St170.enc intT iM, ql1, .box [B true] 4 false]⟩ ?_
 refine En.block ?_
 obtain ⟨Inv, mu, h0_3, hI_3⟩ := h
 refine En.loop (σ := (List (St170 × (List Int))) × (List (St170 × Int)) × Bool) (fun zz => Inv zz.1 zz.2.1 zz.2.2) (fun zz => mu zz.1 zz.2.1 zz.2.2) (fun zz => ⟨[ql2 Bk, ql5, ql6], [ql0 g d, mapI St170.enc (lsT intT) zz.1, mapI St170.enc intT zz.2.1, ql1, .box [B zz.2.2] 4 false]⟩) (bM, iM, true) h0_3 (sub_ok (by kernel_rfl)) ?_
 rintro ⟨m1, m2, y4⟩ h
 replace h := hI_3 _ _ _ h
 show En c ⟨[ql2 Bk, ql5, ql6], [ql0 g d, mapI St170.enc (lsT intT) m1, mapI St170.enc intT m2, ql1, .box [B y4] 4 false]⟩ _
 refine En.seq ?_
 refine En.sr ?_
 refine WL.rn ht hn 1 ⟨[ql2 Bk, ql5, ql6, sl 6 (B y4)], [ql0 g d, mapI St170.enc (lsT intT) m1, mapI St170.enc intT m2, ql1, .box [B y4] 4 false]⟩ ?_
 refine En.ch h (fun h => ?_) (fun h => ?_)
 refine En.skip ?_
 refine En.seq ?_
 refine En.block ?_
 refine En.sr ?_
 refine WL.rn ht hn 1 ⟨[ql2 Bk, ql5, ql6], [ql0 g d, mapI St170.enc (lsT intT) m1, mapI St170.enc intT m2, ql1, .box [B false] 4 false]⟩ ?_
 refine En.sr ?_
 refine WL.rn ht hn 7 ⟨[ql2 Bk, ql5, ql6, ql4 g, ql3 g, sl 13 (I 0)], [ql0 g d, mapI St170.enc (lsT intT) m1, mapI St170.enc intT m2, ql1, .box [B false] 4 false]⟩ ?_
 refine En.block ?_
 obtain ⟨Inv_2, mu_2, h0_2, hI_2⟩ := h
 refine En.loop (σ := Int × (List (St170 × (List Int))) × (List (St170 × Int)) × Bool) (fun zz => Inv_2 zz.1 zz.2.1 zz.2.2.1 zz.2.2.2) (fun zz => mu_2 zz.1 zz.2.1 zz.2.2.1 zz.2.2.2) (fun zz => ⟨[ql2 Bk, ql5, ql6, ql4 g, ql3 g, sl 13 (I zz.1)], [ql0 g d, mapI St170.enc (lsT intT) zz.2.1, mapI St170.enc intT zz.2.2.1, ql1, .box [B zz.2.2.2] 4 false]⟩) (0, m1, m2, false) h0_2 (sub_ok (by kernel_rfl)) ?_
 rintro ⟨x13, m1_2, m2_2, y4_2⟩ h
 replace h := hI_2 _ _ _ _ h
 show En c ⟨[ql2 Bk, ql5, ql6, ql4 g, ql3 g, sl 13 (I x13)], [ql0 g d, mapI St170.enc (lsT intT) m1_2, mapI St170.enc intT m2_2, ql1, .box [B y4_2] 4 false]⟩ _
 refine En.sr ?_
 refine WL.rn ht hn 1 ⟨[ql2 Bk, ql5, ql6, ql4 g, ql3 g, sl 13 (I x13), sl 14 (B (decide (x13 < (g.fMakes.length : Int))))], [ql0 g d, mapI St170.enc (lsT intT) m1_2, mapI St170.enc intT m2_2, ql1, .box [B y4_2] 4 false]⟩ ?_
 refine En.seq ?_
 refine En.ch h (fun h => ?_) (fun h => ?_)
 refine En.skip ?_
 refine En.seq ?_
 refine En.block ?_
 refine En.sr ?_
 obtain ⟨e, he, h⟩ := h
 refine WL.v hn (val_ix (T := ApiMake.ty) (l := g.fMakes) (i := x13) ht rfl he) ?_
 refine WL.v hn (val_ld (s := .agg (ApiMake.cl e)) ht rfl) ?_
 refine WL.rn ht hn 2 ⟨[ql2 Bk, ql5, ql6, sl 4 (.ptr 5 0), ql4 g, ql3 g, sl 13 (I x13)], [ql0 g d, mapI St170.enc (lsT intT) m1_2, mapI St170.enc intT m2_2, ql1, .box [B y4_2] 4 false, .box (ApiMake.cl e) 39 false]⟩ ?_
 refine En.sr ?_
 refine WL.rn ht hn 7 ⟨[ql2 Bk, ql5, ql6, sl 4 (.ptr 5 0), ql4 g, ql3 g, sl 13 (I x13), ql7 d, sl 23 (I 0)], [ql0 g d, mapI St170.enc (lsT intT) m1_2, mapI St170.enc intT m2_2, ql1, .box [B y4_2] 4 false, .box (ApiMake.cl e) 39 false]⟩ ?_
 refine En.block ?_
 obtain ⟨Inv_3, mu_3, h0, hI⟩ := h
 refine En.loop (σ := Int × (List (St170 × (List Int))) × (List (St170 × Int)) × Bool) (fun zz => Inv_3 zz.1 zz.2.1 zz.2.2.1 zz.2.2.2) (fun zz => mu_3 zz.1 zz.2.1 zz.2.2.1 zz.2.2.2) (fun zz => ⟨[ql2 Bk, ql5, ql6, sl 4 (.ptr 5 0), ql4 g, ql3 g, sl 13 (I x13), ql7 d, sl 23 (I zz.1)], [ql0 g d, mapI St170.enc (lsT intT) zz.2.1, mapI St170.enc intT zz.2.2.1, ql1, .box [B zz.2.2.2] 4 false, .box (ApiMake.cl e) 39 false]⟩) (0, m1_2, m2_2, y4_2) h0 (sub_ok (by kernel_rfl)) ?_
 rintro ⟨x23, m1_3, m2_3, y4_3⟩ h
 replace h := hI _ _ _ _ h
 show En c ⟨[ql2 Bk, ql5, ql6, sl 4 (.ptr 5 0), ql4 g, ql3 g, sl 13 (I x13), ql7 d, sl 23 (I x23)], [ql0 g d, mapI St170.enc (lsT intT) m1_3, mapI St170.enc intT m2_3, ql1, .box [B y4_3] 4 false, .box (ApiMake.cl e) 39 false]⟩ _
 refine En.sr ?_
 refine WL.rn ht hn 1 ⟨[ql2 Bk, ql5, ql6, sl 4 (.ptr 5 0), ql4 g, ql3 g, sl 13 (I x13), ql7 d, sl 23 (I x23), sl 24 (B (decide (x23 < (d.fNext.length : Int))))], [ql0 g d, mapI St170.enc (lsT intT) m1_3, mapI St170.enc intT m2_3, ql1, .box [B y4_3] 4 false, .box (ApiMake.cl e) 39 false]⟩ ?_
 refine En.seq ?_
 refine En.ch h (fun h => ?_) (fun h => ?_)
 refine En.skip ?_
 refine En.seq ?_
 refine En.block ?_
 refine En.sr ?_
 refine WL.rn ht hn 3 ⟨[ql2 Bk, ql5, ql6, sl 4 (.ptr 5 0), sl 5 (.ptr 6 0), ql4 g, ql3 g, sl 13 (I x13), ql7 d, sl 23 (I x23)], [ql0 g d, mapI St170.enc (lsT intT) m1_3, mapI St170.enc intT m2_3, ql1, .box [B y4_3] 4 false, .box (ApiMake.cl e) 39 false, .box [I x23] 3 false]⟩ ?_
 refine En.region ?_
 refine WL.r ht hn 5 ⟨[ql2 Bk, ql5, ql6, sl 4 (.ptr 5 0), ql4 g, ql3 g, sl 13 (I x13), ql7 d, sl 23 (I x23), sl 26 (.ptr 0 0), sl 28 (LS intT e.fTo), sl 29 (I x23), sl 30 (.fn 140 [5, 6, 3, 4])], [ql0 g d, mapI St170.enc (lsT intT) m1_3, mapI St170.enc intT m2_3, ql1, .box [B y4_3] 4 false, .box (ApiMake.cl e) 39 false, .box [I x23] 3 false]⟩ ?_
 obtain ⟨hp, h⟩ := h
 refine WL.cE (CtE.args (gRow_ct g d m1_3 m2_3 e x23 y4_3 e.fTo x23 ([] : List Int) true hp) (argLe_same (argLe_same (argLe_same (argLe_to (nil_LS (T := intT)) (argLe_same (argLe_same argLe_nil))))))) en139 [0, 1, 2, 5, 6, 3, 4] hn rfl ?_
 refine WL.nil ?_
 refine En.region ?_
 refine WL.rn ht hn 2 ⟨[ql2 Bk, ql5, ql6, sl 4 (.ptr 5 0), ql4 g, ql3 g, sl 13 (I x13), ql7 d, sl 23 (I (wr (x23 + 1)))], [ql0 g d, mapI St170.enc (lsT intT) (rowsS g d e x23 e.fTo x23 ([] : List Int) true ⟨m1_3, m2_3, y4_3⟩).b, mapI St170.enc intT (rowsS g d e x23 e.fTo x23 ([] : List Int) true ⟨m1_3, m2_3, y4_3⟩).i, ql1, .box [B (rowsS g d e x23 e.fTo x23 ([] : List Int) true ⟨m1_3, m2_3, y4_3⟩).ag] 4 false, .box (ApiMake.cl e) 39 false, .gone]⟩ ?_
 exact En.at (I := fun zz => Inv_3 zz.1 zz.2.1 zz.2.2.1 zz.2.2.2 ∧ mu_3 zz.1 zz.2.1 zz.2.2.1 zz.2.2.2 < mu_3 x23 m1_3 m2_3 y4_3) (T := fun zz => ⟨[ql2 Bk, ql5, ql6, sl 4 (.ptr 5 0), ql4 g, ql3 g, sl 13 (I x13), ql7 d, sl 23 (I zz.1)], [ql0 g d, mapI St170.enc (lsT intT) zz.2.1, mapI St170.enc intT zz.2.2.1, ql1, .box [B zz.2.2.2] 4 false, .box (ApiMake.cl e) 39 false]⟩) ((wr (x23 + 1)), (rowsS g d e x23 e.fTo x23 ([] : List Int) true ⟨m1_3, m2_3, y4_3⟩).b, (rowsS g d e x23 e.fTo x23 ([] : List Int) true ⟨m1_3, m2_3, y4_3⟩).i, (rowsS g d e x23 e.fTo x23 ([] : List Int) true ⟨m1_3, m2_3, y4_3⟩).ag) h (by kernel_rfl)
 refine En.exit rfl ?_
 refine En.region ?_
 refine WL.rn ht hn 2 ⟨[ql2 Bk, ql5, ql6, ql4 g, ql3 g, sl 13 (I (wr (x13 + 1)))], [ql0 g d, mapI St170.enc (lsT intT) m1_3, mapI St170.enc intT m2_3, ql1, .box [B y4_3] 4 false, .gone]⟩ ?_
 exact En.at (I := fun zz => Inv_2 zz.1 zz.2.1 zz.2.2.1 zz.2.2.2 ∧ mu_2 zz.1 zz.2.1 zz.2.2.1 zz.2.2.2 < mu_2 x13 m1_2 m2_2 y4_2) (T := fun zz => ⟨[ql2 Bk, ql5, ql6, ql4 g, ql3 g, sl 13 (I zz.1)], [ql0 g d, mapI St170.enc (lsT intT) zz.2.1, mapI St170.enc intT zz.2.2.1, ql1, .box [B zz.2.2.2] 4 false]⟩) ((wr (x13 + 1)), m1_3, m2_3, y4_3) h (by kernel_rfl)
 refine En.exit rfl ?_
 refine En.sr ?_
 refine WL.rn ht hn 1 ⟨[ql2 Bk, ql5, sl 34 (B y4_2)], [ql0 g d, mapI St170.enc (lsT intT) m1_2, mapI St170.enc intT m2_2, ql1, .gone]⟩ ?_
 refine En.region ?_
 refine WL.rn ht hn 2 ⟨[ql2 Bk, ql5, sl 2 (.ptr 5 0)], [ql0 g d, mapI St170.enc (lsT intT) m1_2, mapI St170.enc intT m2_2, ql1, .gone, .box [B y4_2] 4 false]⟩ ?_
 refine En.move 5 4 (by rfl) (by rfl) ?_
 exact En.at (I := fun zz => Inv zz.1 zz.2.1 zz.2.2 ∧ mu zz.1 zz.2.1 zz.2.2 < mu m1 m2 y4) (T := fun zz => ⟨[ql2 Bk, ql5, ql6], [ql0 g d, mapI St170.enc (lsT intT) zz.1, mapI St170.enc intT zz.2.1, ql1, .box [B zz.2.2] 4 false]⟩) (m1_2, m2_2, y4_2) h (by kernel_rfl)
 refine En.exit rfl ?_
 exact En.backE [0] ht (m1, m2) h (by kernel_rfl) (by rfl) rfl
theorem en89 : ∀ args w, (callFunc 89 args).run Try.prog w = .ok (.enter 89 args) w := enters_of Try.func89 (by kernel_rfl) rfl
theorem gFin_ct (g : ApiGrammar) (d : ApiDet) (bM : List (St170 × (List Int))) (iM : List (St170 × Int)) (hp : FinPre g d bM iM) : CtE 89 [.sv (.one (.ptr 0 0))] [.box [I g.fLetters, I g.fNames, LS ApiMake.ty g.fMakes, I d.fLetters, I d.fStart, LS (lsT intT) d.fNext, LS intT d.fMark, .own 1, .own 2] 169 false, mapI St170.enc (lsT intT) bM, mapI St170.enc intT iM] [0] (fun r => Found g d ⟨r.1, r.2, false⟩) (fun (r : (List (St170 × (List Int))) × (List (St170 × Int))) => .tup []) (fun (r : (List (St170 × (List Int))) × (List (St170 × Int))) => [.box [I g.fLetters, I g.fNames, LS ApiMake.ty g.fMakes, I d.fLetters, I d.fStart, LS (lsT intT) d.fNext, LS intT d.fMark, .own 1, .own 2] 169 false, mapI St170.enc (lsT intT) r.1, mapI St170.enc intT r.2]) := by
 refine gFin_walk g d bM iM _ ?_
 obtain ⟨hg, hd, hl, hf, rfl, rfl⟩ := hp
 have hgl := hg.lets
 have hgn := hg.names
 unfold gFin_vc
 refine ⟨fun b i a => SInv g d ⟨b, i, false⟩ ∧ BOk b ∧ (a = false → Closed g d ⟨b, i, false⟩), fun b i a => pot g d ⟨b, i, false⟩ + (if a = true then 1 else 0), ⟨⟨fun a p q h => absurd rfl h, fun a p q w h => (by cases h)⟩, fun k w h => (by cases h), fun h => (by cases h)⟩, ?_⟩
 rintro b i a ⟨hS, hB, hC⟩
 refine ⟨fun ha => ?_, fun ha => found_of hg hd hl hS hB (hC ha)⟩
 obtain ⟨s0, hs0⟩ : ∃ s : FSt, s = ⟨b, i, false⟩ := ⟨_, rfl⟩
 have hS0 : SInv g d s0 ∧ Down g d s0 s0 := by rw [hs0]; exact ⟨hS, Down.refl _⟩
 have hB0 : BOk s0.b := by rw [hs0]; exact hB
 refine ⟨fun x b i a => ∃ k : Nat, x = k ∧ k ≤ g.fMakes.length ∧ (⟨b, i, a⟩ : FSt) = (g.fMakes.take k).foldl (makeF g d) s0, fun x _ _ _ => g.fMakes.length - x.toNat, ⟨0, rfl, Nat.zero_le _, hs0.symm⟩, ?_⟩
 rintro x b1 i1 a1 ⟨k, rfl, hk, hF⟩
 have hP := pass_run hg hd hl k s0 hS0
 have hPb := pass_bok (g := g) (d := d) k hB0
 rw [← hF] at hP hPb
 refine ⟨fun hb => ?_, fun hb => ?_⟩
 ·have hlt := dlt hb
  have hm : g.fMakes[k] ∈ g.fMakes := List.getElem_mem hlt
  have hto := hg.tos _ hm
  have hlen := hg.len _ hm
  have hfr := hg.from_ _ hm
  refine ⟨_, idx_at hlt, fun x b i a => ∃ p : Nat, x = p ∧ p ≤ d.fNext.length ∧ (⟨b, i, a⟩ : FSt) = (List.range p).foldl (ruleF g d g.fMakes[k]) ⟨b1, i1, a1⟩, fun x _ _ _ => d.fNext.length - x.toNat, ⟨0, rfl, Nat.zero_le _, rfl⟩, ?_⟩
  rintro x b2 i2 a2 ⟨p, rfl, hp, hF2⟩
  have hQb := make_bok (g := g) (d := d) (m := g.fMakes[k]) p (st := ⟨b1, i1, a1⟩) hPb
  rw [← hF2] at hQb
  refine ⟨fun hb2 => ?_, fun hb2 => ?_⟩
  ·have hplt := dlt hb2
   refine ⟨⟨hd, hl, hf, hgl, ⟨by omega, by omega⟩, fun s hs => by have := hto s hs; omega, by simp only [List.length_nil]; omega, hlen, fun _ => Nat.zero_le _, hQb⟩, ⟨p + 1, wsucc (by omega), hplt, ?_⟩, mu_up hplt (by omega)⟩
   rw [List.range_succ, List.foldl_append, ← hF2]
   rfl
  ·obtain rfl : p = d.fNext.length := by have := dge hb2; omega
   refine ⟨⟨k + 1, wsucc (by have := hg.makes; omega), hlt, ?_⟩, mu_up hlt (by have := hg.makes; omega)⟩
   rw [List.take_add_one, List.getElem?_eq_getElem hlt, List.foldl_append, ← hF]
   exact hF2
 ·have hge := dge hb
  rw [List.take_of_length_le hge] at hF
  have hF : (⟨b1, i1, a1⟩ : FSt) = passF g d s0 := hF
  have h1 : SInv g d ⟨b1, i1, false⟩ := hP.1.ag
  refine ⟨⟨h1, hPb, fun e => ?_⟩, ?_⟩
  ·subst e
   obtain ⟨k1, k2⟩ := pass_still (g := g) (d := d) (st := s0) (by rw [← hF])
   rw [hF, k1]
   exact k2
  ·show pot g d ⟨b1, i1, false⟩ + (if a1 = true then 1 else 0) < pot g d ⟨b, i, false⟩ + (if a = true then 1 else 0)
   rw [if_pos ha]
   have hD := hP.2
   have e1 : pot g d ⟨b1, i1, false⟩ = pot g d ⟨b1, i1, a1⟩ := rfl
   have e2 : pot g d ⟨b, i, false⟩ = pot g d s0 := by rw [hs0]
   rw [e1, e2]
   by_cases h : a1 = true
   ·rw [if_pos h]
    rcases hD.2 h with h2 | h2
    ·rw [hs0] at h2
     cases h2
    ·omega
   ·rw [if_neg h]
    have := hD.1
    omega
def gBad (g : ApiGrammar) (s : Int) : Bool := (decide (s < 0)) || (decide (s ≥ (wr (g.fLetters + g.fNames))))
def mkErr (g : ApiGrammar) (m : ApiMake) : Int := if ((decide (m.fFrom < 0)) || (decide (m.fFrom ≥ g.fNames))) = true then 2 else if 3 < m.fTo.length then 1 else if m.fTo.any (gBad g) = true then 2 else 0
def errL (g : ApiGrammar) : List ApiMake → Int
 | [] => 0
 | m :: l => if mkErr g m ≠ 0 then mkErr g m else errL g l
def grmErr (g : ApiGrammar) : Int := if ((decide (g.fLetters < 1)) || (decide (g.fLetters > 4))) = true then 2 else if (((decide (g.fNames < 1)) || (decide (g.fNames > 6))) || (decide ((g.fMakes.length : Int) > 20))) = true then 1 else errL g g.fMakes
theorem errL_zero {g : ApiGrammar} : ∀ {l : List ApiMake}, errL g l = 0 → ∀ m ∈ l, mkErr g m = 0
 | [], _, m, hm => by cases hm
 | x :: l, h, m, hm => by
  rw [errL] at h
  by_cases e : mkErr g x ≠ 0
  ·rw [if_pos e] at h
   exact absurd h e
  ·rw [if_neg e] at h
   rcases List.mem_cons.1 hm with rfl | hm
   ·exact Decidable.not_not.1 e
   ·exact errL_zero h m hm
theorem grmErr_ok {g : ApiGrammar} (h : grmErr g = 0) : GrmOk g := by
 unfold grmErr at h
 split at h
 ·cases h
 rename_i h1
 split at h
 ·cases h
 rename_i h2
 simp only [Bool.or_eq_true, decide_eq_true_eq, not_or] at h1 h2
 have hm := errL_zero h
 have key : ∀ m ∈ g.fMakes, (0 ≤ m.fFrom ∧ m.fFrom < g.fNames) ∧ m.fTo.length ≤ 3 ∧ ∀ s ∈ m.fTo, 0 ≤ s ∧ s < g.fLetters + g.fNames := fun m hmm => by
  have := hm m hmm
  unfold mkErr at this
  split at this
  ·cases this
  rename_i k1
  split at this
  ·cases this
  rename_i k2
  split at this
  ·cases this
  rename_i k3
  simp only [Bool.or_eq_true, decide_eq_true_eq, not_or] at k1
  rw [Bool.not_eq_true, List.any_eq_false] at k3
  refine ⟨by omega, by omega, fun s hs => ?_⟩
  have := k3 s hs
  unfold gBad at this
  rw [wr_in (by omega) (by omega)] at this
  simp only [Bool.or_eq_true, decide_eq_true_eq, not_or] at this
  omega
 exact ⟨by omega, by omega, by omega, fun m hmm => (key m hmm).1, fun m hmm => (key m hmm).2.1, fun m hmm => (key m hmm).2.2⟩
structure FstPre (g : ApiGrammar) (d : ApiDet) : Prop where
 grm : GrmOk g
 det : DetOk d
 lets : d.fLetters = g.fLetters
 few : d.fNext.length ≤ 4
def markW (d : ApiDet) (u : List Int) : Int := d.fMark.getD (aftI d d.fStart u).toNat 0
structure FQ (g : ApiGrammar) (d : ApiDet) (w : List Int) (found : Bool) : Prop where
 yes : found = true → SDer g [0 + g.fLetters] w ∧ markW d w ≠ 0 ∧ w.length ≤ 60 ∧ ∀ u, SDer g [0 + g.fLetters] u → markW d u ≠ 0 → valW w ≤ valW u
 no : found = false → ∀ u, SDer g [0 + g.fLetters] u → markW d u = 0
def FirstQ (g : ApiGrammar) (d : ApiDet) (r : List Int × Bool × Int) : Prop := (r.2.2 = 7 ∧ r.2.1 = false) ∨ (r.2.2 = 0 ∧ FQ g d r.1 r.2.1)
structure MinW (g : ApiGrammar) (d : ApiDet) (w : List Int) : Prop where
 der : SDer g [0 + g.fLetters] w
 acc : markW d w ≠ 0
 len : w.length ≤ 60
 min : ∀ u, SDer g [0 + g.fLetters] u → markW d u ≠ 0 → valW w ≤ valW u
open Classical in
noncomputable def firstR (g : ApiGrammar) (d : ApiDet) : List Int × Bool × Int := if h : ∃ w, MinW g d w then (Classical.choose h, true, 0) else if ∃ u, SDer g [0 + g.fLetters] u ∧ markW d u ≠ 0 then ([], false, 7) else ([], false, 0)
theorem minW_one {g : ApiGrammar} {d : ApiDet} (hg : GrmOk g) {v w : List Int} (hv : MinW g d v) (hw : MinW g d w) : v = w := by
 have hgn := hg.names
 have hgl := hg.lets
 have hsg : SgOk g [0 + g.fLetters] := fun s hs => by rw [List.mem_singleton.1 hs]; omega
 exact before_total (hv.der.in4 hg hsg) (hw.der.in4 hg hsg) (Nat.le_antisymm (hv.min w hw.der hw.acc) (hw.min v hv.der hv.acc))
theorem firstR_yes {g : ApiGrammar} {d : ApiDet} (hg : GrmOk g) {w : List Int} (h : MinW g d w) : firstR g d = (w, true, 0) := by
 unfold firstR
 rw [dif_pos ⟨w, h⟩, minW_one hg (Classical.choose_spec (⟨w, h⟩ : ∃ w, MinW g d w)) h]
theorem firstR_far {g : ApiGrammar} {d : ApiDet} (h : ¬ ∃ w, MinW g d w) (h2 : ∃ u, SDer g [0 + g.fLetters] u ∧ markW d u ≠ 0) : firstR g d = ([], false, 7) := by
 unfold firstR
 rw [dif_neg h, if_pos h2]
theorem firstR_no {g : ApiGrammar} {d : ApiDet} (h2 : ¬ ∃ u, SDer g [0 + g.fLetters] u ∧ markW d u ≠ 0) : firstR g d = ([], false, 0) := by
 unfold firstR
 rw [dif_neg (fun ⟨w, hw⟩ => h2 ⟨w, hw.der, hw.acc⟩), if_neg h2]
theorem firstR_ok {g : ApiGrammar} {d : ApiDet} : FirstQ g d (firstR g d) := by
 unfold firstR
 by_cases h : ∃ w, MinW g d w
 ·rw [dif_pos h]
  have hw := Classical.choose_spec h
  exact .inr ⟨rfl, fun _ => ⟨hw.der, hw.acc, hw.len, hw.min⟩, fun e => (by cases e)⟩
 ·rw [dif_neg h]
  by_cases h2 : ∃ u, SDer g [0 + g.fLetters] u ∧ markW d u ≠ 0
  ·rw [if_pos h2]
   exact .inl ⟨rfl, rfl⟩
  ·rw [if_neg h2]
   exact .inr ⟨rfl, fun e => (by cases e), fun _ u hu => Decidable.byContradiction fun hm => h2 ⟨u, hu, hm⟩⟩
structure FInv (d : ApiDet) (b : BMap) (i : IMap) (w : List Int) (found any : Bool) (k : Nat) : Prop where
 yes : found = true → ∃ q, q < k ∧ d.fMark.getD q 0 ≠ 0 ∧ mget (key3 0 d.fStart (q : Int)) b = some w
 anyA : ∀ q, q < k → d.fMark.getD q 0 ≠ 0 → (mget (key3 0 d.fStart (q : Int)) i).getD 0 ≠ 0 → any = true
 anyS : any = true → ∃ q, q < k ∧ d.fMark.getD q 0 ≠ 0 ∧ (mget (key3 0 d.fStart (q : Int)) i).getD 0 ≠ 0
 nil : found = false → w = []
 min : ∀ q v, q < k → d.fMark.getD q 0 ≠ 0 → (mget (key3 0 d.fStart (q : Int)) i).getD 0 ≠ 0 → mget (key3 0 d.fStart (q : Int)) b = some v → found = true ∧ valW w ≤ valW v
theorem first_of {g : ApiGrammar} {d : ApiDet} (hp : FstPre g d) {b : BMap} {i : IMap} {x : Bool} (hF : Found g d ⟨b, i, x⟩) {w : List Int} {found any : Bool} (hI : FInv d b i w found any d.fMark.length) : firstR g d = if (any && !found) = true then ([], false, 7) else (w, found, 0) := by
 obtain ⟨hg, hd, hl, hf⟩ := hp
 have hgn := hg.names
 have hgl := hg.lets
 have hsg : SgOk g [0 + g.fLetters] := fun s hs => by rw [List.mem_singleton.1 hs]; omega
 have at_ : ∀ u, SDer g [0 + g.fLetters] u → InQ d (aftI d d.fStart u) := fun u hu => aftI_in hd u _ (hu.inA hg hl hsg) hd.start
 have hn : ∀ u, SDer g [0 + g.fLetters] u → (((aftI d d.fStart u).toNat : Nat) : Int) = aftI d d.fStart u ∧ (aftI d d.fStart u).toNat < d.fMark.length := fun u hu => by
  have := at_ u hu
  have h1 := this.1
  have h2 := this.2
  have := hd.marks
  omega
 cases found with
 | true =>
  obtain ⟨q, hq, hm, hb⟩ := hI.yes rfl
  obtain ⟨_, h1, h2⟩ := hF.sound.b 0 d.fStart q w hb
  have hmw : markW d w ≠ 0 := by unfold markW; rw [h2]; exact hm
  have hlen := hF.bok _ _ hb
  have hw4 := h1.in4 hg hsg
  rw [if_neg (by simp), firstR_yes hg ⟨h1, hmw, hlen, fun u hu hmu => ?_⟩]
  obtain ⟨n1, n2⟩ := hn u hu
  obtain ⟨a1, a2⟩ := hF.all 0 d.fStart u hd.start (by omega) (by omega) hu
  by_cases h60 : u.length ≤ 60
  ·obtain ⟨v, v1, v2⟩ := a2 h60
   rw [← n1] at a1 v1
   exact Nat.le_trans (hI.min _ v n2 hmu a1 v1).2 v2
  ·exact Nat.le_of_lt (valW_short hw4 (by omega))
 | false =>
  cases any with
  | true =>
   rw [show (true && !false) = true from rfl, if_pos rfl]
   refine firstR_far (fun ⟨u, hu⟩ => ?_) ?_
   ·obtain ⟨n1, n2⟩ := hn u hu.der
    obtain ⟨a1, a2⟩ := hF.all 0 d.fStart u hd.start (by omega) (by omega) hu.der
    obtain ⟨v, v1, _⟩ := a2 hu.len
    rw [← n1] at a1 v1
    have := (hI.min _ v n2 hu.acc a1 v1).1
    cases this
   ·obtain ⟨q, hq, hm, hi⟩ := hI.anyS rfl
    obtain ⟨u, u1, u2⟩ := hF.sound.i 0 d.fStart q hi
    exact ⟨u, u1, by unfold markW; rw [u2]; exact hm⟩
  | false =>
   rw [if_neg (by decide), hI.nil rfl]
   refine firstR_no fun ⟨u, hu, hm⟩ => ?_
   obtain ⟨n1, n2⟩ := hn u hu
   obtain ⟨a1, _⟩ := hF.all 0 d.fStart u hd.start (by omega) (by omega) hu
   rw [← n1] at a1
   have := hI.anyA _ n2 hm a1
   cases this
end Go.Proofs.Ytobenjahlicnoaa
