/- Lemmas towards the statement: mirrors of functions, and plain laws. No condition. -/
import Derived.Test.YtiinkohfldopbaaPackHigmanTwice5

/- Contracts of det.Check, det.Least, det.Mixed. No condition. -/
namespace Go.Proofs.Ytiinkohfldopbaa
open Go.RowKit Go.MapKept
set_option linter.unusedSimpArgs false
set_option linter.unusedVariables false
set_option maxRecDepth 100000

def indexLInt_vc (l : (List (List Int))) (dom : ((List Int) → Prop)) (φ : ((List Int) → Bool)) (Q : Int → Prop) : Prop :=
  l.length ≤ 9223372036854775807 →
  (∃ (Inv : Int → Prop) (mu : Int → Nat), Inv 0 ∧
  ∀ (x8 : Int) , Inv x8 → (IfP (decide (x8 < (l.length : Int))) (∃ e, idx l x8 = some e ∧
  (dom e) ∧
  IfP (φ e) (Q x8) ((Inv (wr (x8 + 1)) ∧ mu (wr (x8 + 1)) < mu x8))) (Q (-1))))
theorem indexLInt_walk (l : (List (List Int))) (dom : ((List Int) → Prop)) (φ : ((List Int) → Bool)) (Q : Int → Prop) (h : indexLInt_vc l dom φ Q) : Ct 128 [.sv (.one (LS (lsT intT) l)), .sv (.one (.rd (fvR (fun x => [.sv (.one (LS intT x))]) (fun b => .sv (.one (B b))) dom φ)))] [] Q (fun (r : Int) => .sv (.one (I r))) := by
  have ht := tab_ok
  refine Ct.body Try.func128 rfl rfl rfl rfl (fun c hn => ?_)
  unfold indexLInt_vc at h
  refine En.lenL 0 (by rfl) (fun hl => ?_)
  replace h := h hl
  clear hl
  refine En.seq ?_
  refine En.region ?_
  refine WL.run ht hn 1 ⟨[(0, .sv (.one (LS (lsT intT) l))), (1, .sv (.one (.rd (fvR (fun x => [.sv (.one (LS intT x))]) (fun b => .sv (.one (B b))) dom φ))))], []⟩ (by kernel_rfl) ?_
  refine WL.nil ?_
  refine En.seq ?_
  refine En.seq ?_
  refine En.region ?_
  refine WL.run ht hn 3 ⟨[(0, .sv (.one (LS (lsT intT) l))), (1, .sv (.one (.rd (fvR (fun x => [.sv (.one (LS intT x))]) (fun b => .sv (.one (B b))) dom φ)))), (7, .sv (.one (I (l.length : Int)))), (8, .sv (.one (I 0)))], []⟩ (by kernel_rfl) ?_
  refine WL.nil ?_
  refine En.block ?_
  obtain ⟨Inv, mu, h0, hI⟩ := h
  refine En.loop (σ := Int) (fun zz => Inv zz) (fun zz => mu zz) (fun zz => ⟨[(0, .sv (.one (LS (lsT intT) l))), (1, .sv (.one (.rd (fvR (fun x => [.sv (.one (LS intT x))]) (fun b => .sv (.one (B b))) dom φ)))), (7, .sv (.one (I (l.length : Int)))), (8, .sv (.one (I zz)))], []⟩) 0 h0 (sub_ok (by kernel_rfl)) ?_
  intro x8 h
  replace h := hI _ h
  show En c ⟨[(0, .sv (.one (LS (lsT intT) l))), (1, .sv (.one (.rd (fvR (fun x => [.sv (.one (LS intT x))]) (fun b => .sv (.one (B b))) dom φ)))), (7, .sv (.one (I (l.length : Int)))), (8, .sv (.one (I x8)))], []⟩ _
  refine En.seq ?_
  refine En.region ?_
  refine WL.run ht hn 1 ⟨[(0, .sv (.one (LS (lsT intT) l))), (1, .sv (.one (.rd (fvR (fun x => [.sv (.one (LS intT x))]) (fun b => .sv (.one (B b))) dom φ)))), (7, .sv (.one (I (l.length : Int)))), (8, .sv (.one (I x8))), (9, .sv (.one (B (decide (x8 < (l.length : Int))))))], []⟩ (by kernel_rfl) ?_
  refine WL.nil ?_
  refine En.seq ?_
  refine En.cond (b := (decide (x8 < (l.length : Int)))) (by kernel_rfl) (fun hb => ?_) (fun hb => ?_)
  · replace h := h.1 hb
    refine En.skip ?_
    refine En.seq ?_
    refine En.block ?_
    refine En.seq ?_
    refine En.region ?_
    refine WL.run ht hn 2 ⟨[(0, .sv (.one (LS (lsT intT) l))), (1, .sv (.one (.rd (fvR (fun x => [.sv (.one (LS intT x))]) (fun b => .sv (.one (B b))) dom φ)))), (5, .sv (.one (I x8))), (7, .sv (.one (I (l.length : Int)))), (8, .sv (.one (I x8)))], []⟩ (by kernel_rfl) ?_
    refine WL.nil ?_
    refine En.seq ?_
    refine En.region ?_
    refine WL.run ht hn 3 ⟨[(0, .sv (.one (LS (lsT intT) l))), (1, .sv (.one (.rd (fvR (fun x => [.sv (.one (LS intT x))]) (fun b => .sv (.one (B b))) dom φ)))), (5, .sv (.one (I x8))), (7, .sv (.one (I (l.length : Int)))), (8, .sv (.one (I x8))), (11, .sv (.one (.rd (fvR (fun x => [.sv (.one (LS intT x))]) (fun b => .sv (.one (B b))) dom φ)))), (12, .sv (.one (LS (lsT intT) l))), (13, .sv (.one (I x8)))], []⟩ (by kernel_rfl) ?_
    obtain ⟨e, he, h⟩ := h
    refine WL.val hn (by rfl) (val_index (T := (lsT intT)) (l := l) (i := x8) ht rfl (by rfl) (by rfl) (by rfl) (by rfl) (by rfl) (by rfl) he) (by rfl) ?_
    refine WL.val hn (by rfl) (val_load (s := .one (LS intT e)) ht rfl (by rfl) (by rfl) (by rfl) (by rfl) (by rfl)) (by rfl) ?_
    have hp := h.1
    replace h := h.2
    refine WL.mt0 (K := []) (p := none) hn (by rfl) (mt_callv e hp rfl (by rfl) (by rfl) (by rfl) (by rfl)) (by rfl) (by rfl) (by rfl) ?_
    refine WL.nil ?_
    refine En.cond (b := (φ e)) (by kernel_rfl) (fun hb => ?_) (fun hb => ?_)
    · replace h := h.1 hb
      refine En.seq ?_
      refine En.region ?_
      refine WL.run ht hn 2 ⟨[(4, .sv (.one (I x8)))], []⟩ (by kernel_rfl) ?_
      refine WL.nil ?_
      refine En.ret ?_
      exact En.back ht x8 h (by kernel_rfl) rfl
    · replace h := h.2 hb
      refine En.skip ?_
      refine En.region ?_
      refine WL.run ht hn 2 ⟨[(0, .sv (.one (LS (lsT intT) l))), (1, .sv (.one (.rd (fvR (fun x => [.sv (.one (LS intT x))]) (fun b => .sv (.one (B b))) dom φ)))), (7, .sv (.one (I (l.length : Int)))), (8, .sv (.one (I (wr (x8 + 1)))))], []⟩ (by kernel_rfl) ?_
      refine WL.nil ?_
      exact En.at (I := fun zz => Inv zz ∧ mu zz < mu x8) (T := fun zz => ⟨[(0, .sv (.one (LS (lsT intT) l))), (1, .sv (.one (.rd (fvR (fun x => [.sv (.one (LS intT x))]) (fun b => .sv (.one (B b))) dom φ)))), (7, .sv (.one (I (l.length : Int)))), (8, .sv (.one (I zz)))], []⟩) (wr (x8 + 1)) h (by kernel_rfl)
  · replace h := h.2 hb
    refine En.exit rfl ?_
    refine En.seq ?_
    refine En.region ?_
    refine WL.run ht hn 1 ⟨[(4, .sv (.one (I (-1))))], []⟩ (by kernel_rfl) ?_
    refine WL.nil ?_
    refine En.ret ?_
    exact En.back ht (-1) h (by kernel_rfl) rfl
theorem en128 : ∀ args w, (callFunc 128 args).run Try.prog w = .ok (.enter 128 args) w := enters_of Try.func128 (by kernel_rfl) rfl
theorem indexLInt_ct (l : List (List Int)) (dom : (List Int) → Prop) (φ : (List Int) → Bool) (hd : ∀ x ∈ l, dom x) : Ct 128 [.sv (.one (LS (lsT intT) l)), .sv (.one (.rd (fvR (fun x => [.sv (.one (LS intT x))]) (fun b => .sv (.one (B b))) dom φ)))] [] (fun (_ : Unit) => True) (fun _ => .sv (.one (I (idxTo φ l)))) := by
  refine (indexLInt_walk l dom φ (fun r => r = idxTo φ l) ?_).fun
  unfold indexLInt_vc
  exact index_plain l dom φ hd
def anyLInt_vc (l : (List (List Int))) (dom : ((List Int) → Prop)) (φ : ((List Int) → Bool)) (Q : Bool → Prop) : Prop :=
  l.length ≤ 9223372036854775807 →
  ((∀ x_ ∈ l, dom x_) ∧
  Q (decide ((idxTo φ l) ≥ 0)))
theorem anyLInt_walk (l : (List (List Int))) (dom : ((List Int) → Prop)) (φ : ((List Int) → Bool)) (Q : Bool → Prop) (h : anyLInt_vc l dom φ Q) : Ct 63 [.sv (.one (LS (lsT intT) l)), .sv (.one (.rd (fvR (fun x => [.sv (.one (LS intT x))]) (fun b => .sv (.one (B b))) dom φ)))] [] Q (fun (r : Bool) => .sv (.one (B r))) := by
  have ht := tab_ok
  refine Ct.body Try.func63 rfl rfl rfl rfl (fun c hn => ?_)
  unfold anyLInt_vc at h
  refine En.lenL 0 (by rfl) (fun hl => ?_)
  replace h := h hl
  clear hl
  refine En.seq ?_
  refine En.region ?_
  refine WL.run ht hn 1 ⟨[(0, .sv (.one (LS (lsT intT) l))), (1, .sv (.one (.rd (fvR (fun x => [.sv (.one (LS intT x))]) (fun b => .sv (.one (B b))) dom φ))))], []⟩ (by kernel_rfl) ?_
  refine WL.nil ?_
  refine En.seq ?_
  refine En.region ?_
  refine WL.run ht hn 2 ⟨[(5, .sv (.one (LS (lsT intT) l))), (6, .sv (.one (.rd (fvR (fun x => [.sv (.one (LS intT x))]) (fun b => .sv (.one (B b))) dom φ))))], []⟩ (by kernel_rfl) ?_
  have hp := h.1
  replace h := h.2
  refine WL.mt0 (K := []) (p := none) hn (by rfl) (mt_call (indexLInt_ct l dom φ hp) en128 (caps := []) [] rfl (by rfl) (by kernel_rfl) (by kernel_rfl) (by rfl) (by rfl) (by rfl)) (by rfl) (by rfl) (by rfl) ?_
  refine WL.run ht hn 2 ⟨[(4, .sv (.one (B (decide ((idxTo φ l) ≥ 0)))))], []⟩ (by kernel_rfl) ?_
  refine WL.nil ?_
  refine En.ret ?_
  exact En.back ht (decide ((idxTo φ l) ≥ 0)) h (by kernel_rfl) rfl
theorem en63 : ∀ args w, (callFunc 63 args).run Try.prog w = .ok (.enter 63 args) w := enters_of Try.func63 (by kernel_rfl) rfl
theorem anyLInt_ct (l : List (List Int)) (dom : (List Int) → Prop) (φ : (List Int) → Bool) (hd : ∀ x ∈ l, dom x) : Ct 63 [.sv (.one (LS (lsT intT) l)), .sv (.one (.rd (fvR (fun x => [.sv (.one (LS intT x))]) (fun b => .sv (.one (B b))) dom φ)))] [] (fun (_ : Unit) => True) (fun _ => .sv (.one (B (l.any φ)))) := by
  refine (anyLInt_walk l dom φ (fun r => r = l.any φ) ?_).fun
  unfold anyLInt_vc
  exact fun _ => ⟨hd, by rw [← idxTo_nonneg φ l]⟩
def indexInt_vc (l : (List Int)) (dom : (Int → Prop)) (φ : (Int → Bool)) (Q : Int → Prop) : Prop :=
  l.length ≤ 9223372036854775807 →
  (∃ (Inv : Int → Prop) (mu : Int → Nat), Inv 0 ∧
  ∀ (x8 : Int) , Inv x8 → (IfP (decide (x8 < (l.length : Int))) (∃ e, idx l x8 = some e ∧
  (dom e) ∧
  IfP (φ e) (Q x8) ((Inv (wr (x8 + 1)) ∧ mu (wr (x8 + 1)) < mu x8))) (Q (-1))))
theorem indexInt_walk (l : (List Int)) (dom : (Int → Prop)) (φ : (Int → Bool)) (Q : Int → Prop) (h : indexInt_vc l dom φ Q) : Ct 138 [.sv (.one (LS intT l)), .sv (.one (.rd (fvR (fun x => [.sv (.one (I x))]) (fun b => .sv (.one (B b))) dom φ)))] [] Q (fun (r : Int) => .sv (.one (I r))) := by
  have ht := tab_ok
  refine Ct.body Try.func138 rfl rfl rfl rfl (fun c hn => ?_)
  unfold indexInt_vc at h
  refine En.lenL 0 (by rfl) (fun hl => ?_)
  replace h := h hl
  clear hl
  refine En.seq ?_
  refine En.region ?_
  refine WL.run ht hn 1 ⟨[(0, .sv (.one (LS intT l))), (1, .sv (.one (.rd (fvR (fun x => [.sv (.one (I x))]) (fun b => .sv (.one (B b))) dom φ))))], []⟩ (by kernel_rfl) ?_
  refine WL.nil ?_
  refine En.seq ?_
  refine En.seq ?_
  refine En.region ?_
  refine WL.run ht hn 3 ⟨[(0, .sv (.one (LS intT l))), (1, .sv (.one (.rd (fvR (fun x => [.sv (.one (I x))]) (fun b => .sv (.one (B b))) dom φ)))), (7, .sv (.one (I (l.length : Int)))), (8, .sv (.one (I 0)))], []⟩ (by kernel_rfl) ?_
  refine WL.nil ?_
  refine En.block ?_
  obtain ⟨Inv, mu, h0, hI⟩ := h
  refine En.loop (σ := Int) (fun zz => Inv zz) (fun zz => mu zz) (fun zz => ⟨[(0, .sv (.one (LS intT l))), (1, .sv (.one (.rd (fvR (fun x => [.sv (.one (I x))]) (fun b => .sv (.one (B b))) dom φ)))), (7, .sv (.one (I (l.length : Int)))), (8, .sv (.one (I zz)))], []⟩) 0 h0 (sub_ok (by kernel_rfl)) ?_
  intro x8 h
  replace h := hI _ h
  show En c ⟨[(0, .sv (.one (LS intT l))), (1, .sv (.one (.rd (fvR (fun x => [.sv (.one (I x))]) (fun b => .sv (.one (B b))) dom φ)))), (7, .sv (.one (I (l.length : Int)))), (8, .sv (.one (I x8)))], []⟩ _
  refine En.seq ?_
  refine En.region ?_
  refine WL.run ht hn 1 ⟨[(0, .sv (.one (LS intT l))), (1, .sv (.one (.rd (fvR (fun x => [.sv (.one (I x))]) (fun b => .sv (.one (B b))) dom φ)))), (7, .sv (.one (I (l.length : Int)))), (8, .sv (.one (I x8))), (9, .sv (.one (B (decide (x8 < (l.length : Int))))))], []⟩ (by kernel_rfl) ?_
  refine WL.nil ?_
  refine En.seq ?_
  refine En.cond (b := (decide (x8 < (l.length : Int)))) (by kernel_rfl) (fun hb => ?_) (fun hb => ?_)
  · replace h := h.1 hb
    refine En.skip ?_
    refine En.seq ?_
    refine En.block ?_
    refine En.seq ?_
    refine En.region ?_
    refine WL.run ht hn 2 ⟨[(0, .sv (.one (LS intT l))), (1, .sv (.one (.rd (fvR (fun x => [.sv (.one (I x))]) (fun b => .sv (.one (B b))) dom φ)))), (5, .sv (.one (I x8))), (7, .sv (.one (I (l.length : Int)))), (8, .sv (.one (I x8)))], []⟩ (by kernel_rfl) ?_
    refine WL.nil ?_
    refine En.seq ?_
    refine En.region ?_
    refine WL.run ht hn 3 ⟨[(0, .sv (.one (LS intT l))), (1, .sv (.one (.rd (fvR (fun x => [.sv (.one (I x))]) (fun b => .sv (.one (B b))) dom φ)))), (5, .sv (.one (I x8))), (7, .sv (.one (I (l.length : Int)))), (8, .sv (.one (I x8))), (11, .sv (.one (.rd (fvR (fun x => [.sv (.one (I x))]) (fun b => .sv (.one (B b))) dom φ)))), (12, .sv (.one (LS intT l))), (13, .sv (.one (I x8)))], []⟩ (by kernel_rfl) ?_
    obtain ⟨e, he, h⟩ := h
    refine WL.val hn (by rfl) (val_index (T := intT) (l := l) (i := x8) ht rfl (by rfl) (by rfl) (by rfl) (by rfl) (by rfl) (by rfl) he) (by rfl) ?_
    refine WL.val hn (by rfl) (val_load (s := .one (I e)) ht rfl (by rfl) (by rfl) (by rfl) (by rfl) (by rfl)) (by rfl) ?_
    have hp := h.1
    replace h := h.2
    refine WL.mt0 (K := []) (p := none) hn (by rfl) (mt_callv e hp rfl (by rfl) (by rfl) (by rfl) (by rfl)) (by rfl) (by rfl) (by rfl) ?_
    refine WL.nil ?_
    refine En.cond (b := (φ e)) (by kernel_rfl) (fun hb => ?_) (fun hb => ?_)
    · replace h := h.1 hb
      refine En.seq ?_
      refine En.region ?_
      refine WL.run ht hn 2 ⟨[(4, .sv (.one (I x8)))], []⟩ (by kernel_rfl) ?_
      refine WL.nil ?_
      refine En.ret ?_
      exact En.back ht x8 h (by kernel_rfl) rfl
    · replace h := h.2 hb
      refine En.skip ?_
      refine En.region ?_
      refine WL.run ht hn 2 ⟨[(0, .sv (.one (LS intT l))), (1, .sv (.one (.rd (fvR (fun x => [.sv (.one (I x))]) (fun b => .sv (.one (B b))) dom φ)))), (7, .sv (.one (I (l.length : Int)))), (8, .sv (.one (I (wr (x8 + 1)))))], []⟩ (by kernel_rfl) ?_
      refine WL.nil ?_
      exact En.at (I := fun zz => Inv zz ∧ mu zz < mu x8) (T := fun zz => ⟨[(0, .sv (.one (LS intT l))), (1, .sv (.one (.rd (fvR (fun x => [.sv (.one (I x))]) (fun b => .sv (.one (B b))) dom φ)))), (7, .sv (.one (I (l.length : Int)))), (8, .sv (.one (I zz)))], []⟩) (wr (x8 + 1)) h (by kernel_rfl)
  · replace h := h.2 hb
    refine En.exit rfl ?_
    refine En.seq ?_
    refine En.region ?_
    refine WL.run ht hn 1 ⟨[(4, .sv (.one (I (-1))))], []⟩ (by kernel_rfl) ?_
    refine WL.nil ?_
    refine En.ret ?_
    exact En.back ht (-1) h (by kernel_rfl) rfl
theorem en138 : ∀ args w, (callFunc 138 args).run Try.prog w = .ok (.enter 138 args) w := enters_of Try.func138 (by kernel_rfl) rfl
theorem indexInt_ct (l : List Int) (dom : Int → Prop) (φ : Int → Bool) (hd : ∀ x ∈ l, dom x) : Ct 138 [.sv (.one (LS intT l)), .sv (.one (.rd (fvR (fun x => [.sv (.one (I x))]) (fun b => .sv (.one (B b))) dom φ)))] [] (fun (_ : Unit) => True) (fun _ => .sv (.one (I (idxTo φ l)))) := by
  refine (indexInt_walk l dom φ (fun r => r = idxTo φ l) ?_).fun
  unfold indexInt_vc
  exact index_plain l dom φ hd
def anyInt_vc (l : (List Int)) (dom : (Int → Prop)) (φ : (Int → Bool)) (Q : Bool → Prop) : Prop :=
  l.length ≤ 9223372036854775807 →
  ((∀ x_ ∈ l, dom x_) ∧
  Q (decide ((idxTo φ l) ≥ 0)))
theorem anyInt_walk (l : (List Int)) (dom : (Int → Prop)) (φ : (Int → Bool)) (Q : Bool → Prop) (h : anyInt_vc l dom φ Q) : Ct 77 [.sv (.one (LS intT l)), .sv (.one (.rd (fvR (fun x => [.sv (.one (I x))]) (fun b => .sv (.one (B b))) dom φ)))] [] Q (fun (r : Bool) => .sv (.one (B r))) := by
  have ht := tab_ok
  refine Ct.body Try.func77 rfl rfl rfl rfl (fun c hn => ?_)
  unfold anyInt_vc at h
  refine En.lenL 0 (by rfl) (fun hl => ?_)
  replace h := h hl
  clear hl
  refine En.seq ?_
  refine En.region ?_
  refine WL.run ht hn 1 ⟨[(0, .sv (.one (LS intT l))), (1, .sv (.one (.rd (fvR (fun x => [.sv (.one (I x))]) (fun b => .sv (.one (B b))) dom φ))))], []⟩ (by kernel_rfl) ?_
  refine WL.nil ?_
  refine En.seq ?_
  refine En.region ?_
  refine WL.run ht hn 2 ⟨[(5, .sv (.one (LS intT l))), (6, .sv (.one (.rd (fvR (fun x => [.sv (.one (I x))]) (fun b => .sv (.one (B b))) dom φ))))], []⟩ (by kernel_rfl) ?_
  have hp := h.1
  replace h := h.2
  refine WL.mt0 (K := []) (p := none) hn (by rfl) (mt_call (indexInt_ct l dom φ hp) en138 (caps := []) [] rfl (by rfl) (by kernel_rfl) (by kernel_rfl) (by rfl) (by rfl) (by rfl)) (by rfl) (by rfl) (by rfl) ?_
  refine WL.run ht hn 2 ⟨[(4, .sv (.one (B (decide ((idxTo φ l) ≥ 0)))))], []⟩ (by kernel_rfl) ?_
  refine WL.nil ?_
  refine En.ret ?_
  exact En.back ht (decide ((idxTo φ l) ≥ 0)) h (by kernel_rfl) rfl
theorem en77 : ∀ args w, (callFunc 77 args).run Try.prog w = .ok (.enter 77 args) w := enters_of Try.func77 (by kernel_rfl) rfl
theorem anyInt_ct (l : List Int) (dom : Int → Prop) (φ : Int → Bool) (hd : ∀ x ∈ l, dom x) : Ct 77 [.sv (.one (LS intT l)), .sv (.one (.rd (fvR (fun x => [.sv (.one (I x))]) (fun b => .sv (.one (B b))) dom φ)))] [] (fun (_ : Unit) => True) (fun _ => .sv (.one (B (l.any φ)))) := by
  refine (anyInt_walk l dom φ (fun r => r = l.any φ) ?_).fun
  unfold anyInt_vc
  exact fun _ => ⟨hd, by rw [← idxTo_nonneg φ l]⟩
def altNo (n q : Int) : Bool := (decide (q < 0)) || (decide (q ≥ n))
theorem altNo_iff {n q : Int} : altNo n q = false ↔ 0 ≤ q ∧ q < n := by
  unfold altNo
  simp only [Bool.or_eq_false_iff, decide_eq_false_iff_not]
  omega
def detErr (x : ApiDet) : Int :=
  if (decide (x.fLetters < 1)) || (decide (x.fLetters > 4)) then 2 else
  if (decide ((x.fNext.length : Int) < 1)) || (decide ((x.fNext.length : Int) > 3000)) then 1 else
  if ((x.fMark.length : Int) != (x.fNext.length : Int)) || x.fNext.any (fun r => (r.length : Int) != (x).fLetters) then 3 else
  if altNo (x.fNext.length : Int) x.fStart || x.fNext.any (fun r => r.any (altNo (x.fNext.length : Int))) then 2 else
  if x.fMark.any (fun m => (m != 0) && (m != 1)) then 2 else 0
structure DetOk (x : ApiDet) : Prop where
  letters : 1 ≤ x.fLetters ∧ x.fLetters ≤ 4
  size : 1 ≤ x.fNext.length ∧ x.fNext.length ≤ 3000
  marks : x.fMark.length = x.fNext.length
  rows : ∀ r ∈ x.fNext, (r.length : Int) = x.fLetters
  start : 0 ≤ x.fStart ∧ x.fStart < (x.fNext.length : Int)
  in_ : ∀ r ∈ x.fNext, ∀ p ∈ r, 0 ≤ p ∧ p < (x.fNext.length : Int)
  mark : ∀ m ∈ x.fMark, m = 0 ∨ m = 1
theorem detErr_iff (x : ApiDet) : detErr x = 0 ↔ DetOk x := by
  unfold detErr
  constructor
  · intro h
    by_cases h1 : ((decide (x.fLetters < 1)) || (decide (x.fLetters > 4))) = true
    · rw [if_pos h1] at h; cases h
    rw [if_neg h1] at h
    by_cases h2 : ((decide ((x.fNext.length : Int) < 1)) || (decide ((x.fNext.length : Int) > 3000))) = true
    · rw [if_pos h2] at h; cases h
    rw [if_neg h2] at h
    by_cases h3 : (((x.fMark.length : Int) != (x.fNext.length : Int)) || x.fNext.any (fun r => (r.length : Int) != (x).fLetters)) = true
    · rw [if_pos h3] at h; cases h
    rw [if_neg h3] at h
    by_cases h4 : (altNo (x.fNext.length : Int) x.fStart || x.fNext.any (fun r => r.any (altNo (x.fNext.length : Int)))) = true
    · rw [if_pos h4] at h; cases h
    rw [if_neg h4] at h
    by_cases h5 : x.fMark.any (fun m => (m != 0) && (m != 1)) = true
    · rw [if_pos h5] at h; cases h
    simp only [Bool.not_eq_true, Bool.or_eq_false_iff, decide_eq_false_iff_not, List.any_eq_false, altNo_iff, bne_eq_false_iff_eq, Bool.and_eq_false_iff, Bool.not_eq_false, bne_iff_ne, ne_eq, Decidable.not_not] at h1 h2 h3 h4 h5
    exact ⟨by omega, by omega, by omega, fun r hr => h3.2 r hr, h4.1, fun r hr p hp => h4.2 r hr p hp, fun m hm => h5 m hm⟩
  · intro h
    have h1 : ((decide (x.fLetters < 1)) || (decide (x.fLetters > 4))) = false := by
      have := h.letters
      simp only [Bool.or_eq_false_iff, decide_eq_false_iff_not]; omega
    have h2 : ((decide ((x.fNext.length : Int) < 1)) || (decide ((x.fNext.length : Int) > 3000))) = false := by
      have := h.size
      simp only [Bool.or_eq_false_iff, decide_eq_false_iff_not]; omega
    have h3 : (((x.fMark.length : Int) != (x.fNext.length : Int)) || x.fNext.any (fun r => (r.length : Int) != (x).fLetters)) = false := by
      simp only [Bool.or_eq_false_iff, bne_eq_false_iff_eq, List.any_eq_false, bne_iff_ne, ne_eq, Decidable.not_not]
      exact ⟨by have := h.marks; omega, h.rows⟩
    have h4 : (altNo (x.fNext.length : Int) x.fStart || x.fNext.any (fun r => r.any (altNo (x.fNext.length : Int)))) = false := by
      simp only [Bool.or_eq_false_iff, altNo_iff]
      refine ⟨h.start, ?_⟩
      rw [List.any_eq_false]
      intro r hr
      rw [Bool.not_eq_true, List.any_eq_false]
      intro p hp
      rw [Bool.not_eq_true, altNo_iff]
      exact h.in_ r hr p hp
    have h5 : x.fMark.any (fun m => (m != 0) && (m != 1)) = false := by
      rw [List.any_eq_false]
      intro m hm
      rcases h.mark m hm with rfl | rfl <;> decide
    rw [h1, h2, h3, h4, h5]
    rfl
theorem DetOk.cls {d : ApiDet} (h : DetOk d) : ClsOk d := by
  have h1 := h.letters
  have h2 := h.size
  refine ⟨⟨by omega, fun r hr => by have := h.rows r hr; omega, h.in_, h.start, h.marks⟩, by omega, by omega, fun m hm => by rcases h.mark m hm with rfl | rfl <;> decide⟩
/-- the automaton of a language of nothing and one, with few states, may be -/
theorem CanonOk.det {L : Nat} {r : Lang} {n : Nat} (h : CanonOk L r n) (hL : 1 ≤ L ∧ L ≤ 4) (hn : n ≤ 3000) (hr : ∀ w, r w = 0 ∨ r w = 1) : DetOk (canon L r) := by
  have h1 := h.wf.start
  have h2 := h.count
  refine ⟨by rw [h.letters]; omega, by omega, h.wf.mark, fun s hs => ?_, h1, h.wf.next, fun m hm => ?_⟩
  · have := h.wf.rows s hs
    rw [h.letters] at this ⊢
    omega
  · obtain ⟨u, rfl⟩ := h.marks m hm
    exact hr u
noncomputable def leastR (d : ApiDet) : ApiDet × Int := if detErr d = 0 then (canon d.fLetters.toNat (langD d d.fStart.toNat), 0) else (⟨0, 0, [], []⟩, detErr d)
def detC1_vc (r : (List Int)) (x : ApiDet) (Q : Bool → Prop) : Prop :=
  r.length ≤ 9223372036854775807 →
  (Q ((r.length : Int) != x.fLetters))
theorem detC1_walk (r : (List Int)) (x : ApiDet) (Q : Bool → Prop) (h : detC1_vc r x Q) : Ct 111 [.sv (.one (LS intT r)), .sv (.one (.ptr 0 0))] [.box [I x.fLetters, I x.fStart, LS (lsT intT) x.fNext, LS intT x.fMark] 25 true] Q (fun (r : Bool) => .sv (.one (B r))) := by
  have ht := tab_ok
  refine Ct.body Try.func111 rfl rfl rfl rfl (fun c hn => ?_)
  unfold detC1_vc at h
  refine En.lenL 0 (by rfl) (fun hl => ?_)
  replace h := h hl
  clear hl
  refine En.seq ?_
  refine En.region ?_
  refine WL.run ht hn 1 ⟨[(0, .sv (.one (LS intT r))), (1, .sv (.one (.ptr 0 0)))], [.box [I x.fLetters, I x.fStart, LS (lsT intT) x.fNext, LS intT x.fMark] 25 true]⟩ (by kernel_rfl) ?_
  refine WL.nil ?_
  refine En.seq ?_
  refine En.region ?_
  refine WL.run ht hn 6 ⟨[(3, .sv (.one (B ((r.length : Int) != x.fLetters))))], [.gone]⟩ (by kernel_rfl) ?_
  refine WL.nil ?_
  refine En.ret ?_
  exact En.back ht ((r.length : Int) != x.fLetters) h (by kernel_rfl) rfl
theorem en111 : ∀ args w, (callFunc 111 args).run Try.prog w = .ok (.enter 111 args) w := enters_of Try.func111 (by kernel_rfl) rfl
def detC2_vc (q : Int) (n : Int) (Q : Bool → Prop) : Prop :=
  Q ((decide (q < 0)) || (decide (q ≥ n)))
theorem detC2_walk (q : Int) (n : Int) (Q : Bool → Prop) (h : detC2_vc q n Q) : Ct 112 [.sv (.one (I q)), .sv (.one (.ptr 0 0))] [.box [I n] 3 true] Q (fun (r : Bool) => .sv (.one (B r))) := by
  have ht := tab_ok
  refine Ct.body Try.func112 rfl rfl rfl rfl (fun c hn => ?_)
  unfold detC2_vc at h
  refine En.seq ?_
  refine En.region ?_
  refine WL.run ht hn 1 ⟨[(0, .sv (.one (I q))), (1, .sv (.one (.ptr 0 0)))], [.box [I n] 3 true]⟩ (by kernel_rfl) ?_
  refine WL.nil ?_
  refine En.seq ?_
  refine En.region ?_
  refine WL.run ht hn 3 ⟨[(0, .sv (.one (I q))), (1, .sv (.one (.ptr 0 0))), (6, .sv (.one (B (decide (q < 0)))))], [.box [I n] 3 true]⟩ (by kernel_rfl) ?_
  refine WL.thru ⟨[(3, .sv (.one (B ((decide (q < 0)) || (decide (q ≥ n))))))], [.gone]⟩ ?_ ?_
  · refine splitB (decide (q < 0)) (fun hb0 => ?_) (fun hb0 => ?_)
    · refine WL.setB 6 hb0 (by kernel_rfl) ?_
      refine WL.run ht hn 5 ⟨[(3, .sv (.one (B true)))], [.gone]⟩ (by kernel_rfl) ?_
      exact WL.nil (sub_ok (by simp only [hb0]; kernel_rfl))
    · refine WL.setB 6 hb0 (by kernel_rfl) ?_
      refine WL.run ht hn 5 ⟨[(3, .sv (.one (B (decide (q ≥ n)))))], [.gone]⟩ (by kernel_rfl) ?_
      exact WL.nil (sub_ok (by simp only [hb0]; kernel_rfl))
  · refine En.ret ?_
    exact En.back ht ((decide (q < 0)) || (decide (q ≥ n))) h (by kernel_rfl) rfl
theorem en112 : ∀ args w, (callFunc 112 args).run Try.prog w = .ok (.enter 112 args) w := enters_of Try.func112 (by kernel_rfl) rfl
def detC3_vc (l : (List Int)) (domno : (Int → Prop)) (no : (Int → Bool)) (Q : Bool → Prop) : Prop :=
  l.length ≤ 9223372036854775807 →
  ((∀ x_ ∈ l, domno x_) ∧
  Q (l.any no))
theorem detC3_walk (l : (List Int)) (domno : (Int → Prop)) (no : (Int → Bool)) (Q : Bool → Prop) (h : detC3_vc l domno no Q) : Ct 113 [.sv (.one (LS intT l)), .sv (.one (.ptr 0 0))] [.box [.rd (fvR (fun (x : Int) => [.sv (.one (I x))]) (fun (r : Bool) => .sv (.one (B r))) domno no)] 134 true] Q (fun (r : Bool) => .sv (.one (B r))) := by
  have ht := tab_ok
  refine Ct.body Try.func113 rfl rfl rfl rfl (fun c hn => ?_)
  unfold detC3_vc at h
  refine En.lenL 0 (by rfl) (fun hl => ?_)
  replace h := h hl
  clear hl
  refine En.seq ?_
  refine En.region ?_
  refine WL.run ht hn 1 ⟨[(0, .sv (.one (LS intT l))), (1, .sv (.one (.ptr 0 0)))], [.box [.rd (fvR (fun (x : Int) => [.sv (.one (I x))]) (fun (r : Bool) => .sv (.one (B r))) domno no)] 134 true]⟩ (by kernel_rfl) ?_
  refine WL.nil ?_
  refine En.seq ?_
  refine En.region ?_
  refine WL.run ht hn 2 ⟨[(4, .sv (.one (LS intT l))), (5, .sv (.one (.rd (fvR (fun (x : Int) => [.sv (.one (I x))]) (fun (r : Bool) => .sv (.one (B r))) domno no))))], [.gone]⟩ (by kernel_rfl) ?_
  have hp := h.1
  replace h := h.2
  refine WL.mt0 (K := []) (p := none) hn (by rfl) (mt_call (anyInt_ct l domno no hp) en77 (caps := []) [] rfl (by rfl) (by kernel_rfl) (by kernel_rfl) (by rfl) (by rfl) (by rfl)) (by rfl) (by rfl) (by rfl) ?_
  refine WL.run ht hn 1 ⟨[(3, .sv (.one (B (l.any no))))], [.gone]⟩ (by kernel_rfl) ?_
  refine WL.nil ?_
  refine En.ret ?_
  exact En.back ht (l.any no) h (by kernel_rfl) rfl
theorem en113 : ∀ args w, (callFunc 113 args).run Try.prog w = .ok (.enter 113 args) w := enters_of Try.func113 (by kernel_rfl) rfl
def detC4_vc (m : Int) (Q : Bool → Prop) : Prop :=
  Q ((m != 0) && (m != 1))
theorem detC4_walk (m : Int) (Q : Bool → Prop) (h : detC4_vc m Q) : Ct 114 [.sv (.one (I m))] [] Q (fun (r : Bool) => .sv (.one (B r))) := by
  have ht := tab_ok
  refine Ct.body Try.func114 rfl rfl rfl rfl (fun c hn => ?_)
  unfold detC4_vc at h
  refine En.seq ?_
  refine En.region ?_
  refine WL.run ht hn 1 ⟨[(0, .sv (.one (I m)))], []⟩ (by kernel_rfl) ?_
  refine WL.nil ?_
  refine En.seq ?_
  refine En.region ?_
  refine WL.run ht hn 3 ⟨[(0, .sv (.one (I m))), (5, .sv (.one (B (m != 0))))], []⟩ (by kernel_rfl) ?_
  refine WL.thru ⟨[(2, .sv (.one (B ((m != 0) && (m != 1)))))], []⟩ ?_ ?_
  · refine splitB (m != 0) (fun hb0 => ?_) (fun hb0 => ?_)
    · refine WL.setB 5 hb0 (by kernel_rfl) ?_
      refine WL.run ht hn 4 ⟨[(2, .sv (.one (B (m != 1))))], []⟩ (by kernel_rfl) ?_
      exact WL.nil (sub_ok (by simp only [hb0]; kernel_rfl))
    · refine WL.setB 5 hb0 (by kernel_rfl) ?_
      refine WL.run ht hn 4 ⟨[(2, .sv (.one (B false)))], []⟩ (by kernel_rfl) ?_
      exact WL.nil (sub_ok (by simp only [hb0]; kernel_rfl))
  · refine En.ret ?_
    exact En.back ht ((m != 0) && (m != 1)) h (by kernel_rfl) rfl
theorem en114 : ∀ args w, (callFunc 114 args).run Try.prog w = .ok (.enter 114 args) w := enters_of Try.func114 (by kernel_rfl) rfl
theorem detC1_ct (r : (List Int)) (x : ApiDet)  : Ct 111 [.sv (.one (LS intT r)), .sv (.one (.ptr 0 0))] [.box [I x.fLetters, I x.fStart, LS (lsT intT) x.fNext, LS intT x.fMark] 25 true] (fun (_ : Unit) => True) (fun _ => .sv (.one (B ((r.length : Int) != x.fLetters)))) := by
  refine (detC1_walk r x (fun res_ => res_ = ((r.length : Int) != x.fLetters)) ?_).fun
  exact fun _ => rfl
theorem detC2_ct (q : Int) (n : Int)  : Ct 112 [.sv (.one (I q)), .sv (.one (.ptr 0 0))] [.box [I n] 3 true] (fun (_ : Unit) => True) (fun _ => .sv (.one (B (altNo n q)))) := by
  refine (detC2_walk q n (fun res_ => res_ = (altNo n q)) ?_).fun
  rfl
theorem detC3_ct (l : (List Int)) (domno : (Int → Prop)) (no : (Int → Bool)) (hd : ∀ x ∈ l, domno x) : Ct 113 [.sv (.one (LS intT l)), .sv (.one (.ptr 0 0))] [.box [.rd (fvR (fun (x : Int) => [.sv (.one (I x))]) (fun (r : Bool) => .sv (.one (B r))) domno no)] 134 true] (fun (_ : Unit) => True) (fun _ => .sv (.one (B (l.any no)))) := by
  refine (detC3_walk l domno no (fun res_ => res_ = (l.any no)) ?_).fun
  exact fun _ => ⟨hd, rfl⟩
theorem detC4_ct (m : Int)  : Ct 114 [.sv (.one (I m))] [] (fun (_ : Unit) => True) (fun _ => .sv (.one (B ((m != 0) && (m != 1))))) := by
  refine (detC4_walk m (fun res_ => res_ = ((m != 0) && (m != 1))) ?_).fun
  rfl
def detCheck_vc (x : ApiDet) (Q : Int → Prop) : Prop :=
  x.fNext.length ≤ 9223372036854775807 →
  x.fMark.length ≤ 9223372036854775807 →
  (IfP ((decide (x.fLetters < 1)) || (decide (x.fLetters > 4))) (Q 2) (IfP ((decide ((x.fNext.length : Int) < 1)) || (decide ((x.fNext.length : Int) > 3000))) (Q 1) (∃ J : Bool → Prop, (IfP ((x.fMark.length : Int) != (x.fNext.length : Int)) (J true) ((∀ x_ ∈ x.fNext, (fun _ => True) x_) ∧
  J (x.fNext.any (fun r => (r.length : Int) != (x).fLetters)))) ∧
  (∀ (x32 : Bool), J x32 → IfP x32 (Q 3) (∃ J_2 : Bool → Prop, (((fun _ => True) x.fStart) ∧
  IfP ((altNo (x.fNext.length : Int)) x.fStart) (J_2 true) ((∀ x_ ∈ x.fNext, (fun l => ∀ x ∈ l, (fun _ => True) x) x_) ∧
  J_2 (x.fNext.any (fun l => l.any (altNo (x.fNext.length : Int)))))) ∧
  (∀ (x43 : Bool), J_2 x43 → IfP x43 (Q 2) ((∀ x_ ∈ x.fMark, (fun _ => True) x_) ∧
  IfP (x.fMark.any (fun m => (m != 0) && (m != 1))) (Q 2) (Q 0))))))))
theorem detCheck_walk (x : ApiDet) (Q : Int → Prop) (h : detCheck_vc x Q) : Ct 44 [.sv (.agg [I x.fLetters, I x.fStart, LS (lsT intT) x.fNext, LS intT x.fMark])] [] Q (fun (r : Int) => .sv (.one (I r))) := by
  have ht := tab_ok
  refine Ct.body Try.func44 rfl rfl rfl rfl (fun c hn => ?_)
  unfold detCheck_vc at h
  refine En.lenA 0 2 (by rfl) (by rfl) (fun hl => ?_)
  replace h := h hl
  clear hl
  refine En.lenA 0 3 (by rfl) (by rfl) (fun hl => ?_)
  replace h := h hl
  clear hl
  refine En.seq ?_
  refine En.region ?_
  refine WL.run ht hn 2 ⟨[(1, .sv (.one (.ptr 0 0)))], [.box [I x.fLetters, I x.fStart, LS (lsT intT) x.fNext, LS intT x.fMark] 25 false]⟩ (by kernel_rfl) ?_
  refine WL.nil ?_
  refine En.seq ?_
  refine En.seq ?_
  refine En.region ?_
  refine WL.run ht hn 4 ⟨[(1, .sv (.one (.ptr 0 0))), (8, .sv (.one (B (decide (x.fLetters < 1)))))], [.box [I x.fLetters, I x.fStart, LS (lsT intT) x.fNext, LS intT x.fMark] 25 false]⟩ (by kernel_rfl) ?_
  refine WL.thru ⟨[(1, .sv (.one (.ptr 0 0))), (12, .sv (.one (B ((decide (x.fLetters < 1)) || (decide (x.fLetters > 4))))))], [.box [I x.fLetters, I x.fStart, LS (lsT intT) x.fNext, LS intT x.fMark] 25 false]⟩ ?_ ?_
  · refine splitB (decide (x.fLetters < 1)) (fun hb0 => ?_) (fun hb0 => ?_)
    · refine WL.setB 8 hb0 (by kernel_rfl) ?_
      refine WL.run ht hn 4 ⟨[(1, .sv (.one (.ptr 0 0))), (12, .sv (.one (B true)))], [.box [I x.fLetters, I x.fStart, LS (lsT intT) x.fNext, LS intT x.fMark] 25 false]⟩ (by kernel_rfl) ?_
      exact WL.nil (sub_ok (by simp only [hb0]; kernel_rfl))
    · refine WL.setB 8 hb0 (by kernel_rfl) ?_
      refine WL.run ht hn 4 ⟨[(1, .sv (.one (.ptr 0 0))), (12, .sv (.one (B (decide (x.fLetters > 4)))))], [.box [I x.fLetters, I x.fStart, LS (lsT intT) x.fNext, LS intT x.fMark] 25 false]⟩ (by kernel_rfl) ?_
      exact WL.nil (sub_ok (by simp only [hb0]; kernel_rfl))
  · refine En.cond (b := ((decide (x.fLetters < 1)) || (decide (x.fLetters > 4)))) (by kernel_rfl) (fun hb => ?_) (fun hb => ?_)
    · replace h := h.1 hb
      refine En.seq ?_
      refine En.region ?_
      refine WL.run ht hn 1 ⟨[(2, .sv (.one (I 2)))], [.gone]⟩ (by kernel_rfl) ?_
      refine WL.nil ?_
      refine En.ret ?_
      exact En.back ht 2 h (by kernel_rfl) rfl
    · replace h := h.2 hb
      refine En.skip ?_
      refine En.seq ?_
      refine En.region ?_
      refine WL.run ht hn 5 ⟨[(1, .sv (.one (.ptr 0 0))), (3, .sv (.one (.ptr 1 0)))], [.box [I x.fLetters, I x.fStart, LS (lsT intT) x.fNext, LS intT x.fMark] 25 false, .box [I (x.fNext.length : Int)] 3 false]⟩ (by kernel_rfl) ?_
      refine WL.nil ?_
      refine En.seq ?_
      refine En.seq ?_
      refine En.region ?_
      refine WL.run ht hn 3 ⟨[(1, .sv (.one (.ptr 0 0))), (3, .sv (.one (.ptr 1 0))), (18, .sv (.one (B (decide ((x.fNext.length : Int) < 1)))))], [.box [I x.fLetters, I x.fStart, LS (lsT intT) x.fNext, LS intT x.fMark] 25 false, .box [I (x.fNext.length : Int)] 3 false]⟩ (by kernel_rfl) ?_
      refine WL.thru ⟨[(1, .sv (.one (.ptr 0 0))), (3, .sv (.one (.ptr 1 0))), (21, .sv (.one (B ((decide ((x.fNext.length : Int) < 1)) || (decide ((x.fNext.length : Int) > 3000))))))], [.box [I x.fLetters, I x.fStart, LS (lsT intT) x.fNext, LS intT x.fMark] 25 false, .box [I (x.fNext.length : Int)] 3 false]⟩ ?_ ?_
      · refine splitB (decide ((x.fNext.length : Int) < 1)) (fun hb0 => ?_) (fun hb0 => ?_)
        · refine WL.setB 18 hb0 (by kernel_rfl) ?_
          refine WL.run ht hn 3 ⟨[(1, .sv (.one (.ptr 0 0))), (3, .sv (.one (.ptr 1 0))), (21, .sv (.one (B true)))], [.box [I x.fLetters, I x.fStart, LS (lsT intT) x.fNext, LS intT x.fMark] 25 false, .box [I (x.fNext.length : Int)] 3 false]⟩ (by kernel_rfl) ?_
          exact WL.nil (sub_ok (by simp only [hb0]; kernel_rfl))
        · refine WL.setB 18 hb0 (by kernel_rfl) ?_
          refine WL.run ht hn 3 ⟨[(1, .sv (.one (.ptr 0 0))), (3, .sv (.one (.ptr 1 0))), (21, .sv (.one (B (decide ((x.fNext.length : Int) > 3000)))))], [.box [I x.fLetters, I x.fStart, LS (lsT intT) x.fNext, LS intT x.fMark] 25 false, .box [I (x.fNext.length : Int)] 3 false]⟩ (by kernel_rfl) ?_
          exact WL.nil (sub_ok (by simp only [hb0]; kernel_rfl))
      · refine En.cond (b := ((decide ((x.fNext.length : Int) < 1)) || (decide ((x.fNext.length : Int) > 3000)))) (by kernel_rfl) (fun hb => ?_) (fun hb => ?_)
        · replace h := h.1 hb
          refine En.seq ?_
          refine En.region ?_
          refine WL.run ht hn 1 ⟨[(2, .sv (.one (I 1)))], [.gone, .gone]⟩ (by kernel_rfl) ?_
          refine WL.nil ?_
          refine En.ret ?_
          exact En.back ht 1 h (by kernel_rfl) rfl
        · replace h := h.2 hb
          refine En.skip ?_
          refine En.seq ?_
          obtain ⟨J, h, hJ⟩ := h
          refine En.seqJ (σ := Bool) (fun zz => J zz) (fun zz => ⟨[(1, .sv (.one (.ptr 0 0))), (3, .sv (.one (.ptr 1 0))), (32, .sv (.one (B zz)))], [.box [I x.fLetters, I x.fStart, LS (lsT intT) x.fNext, LS intT x.fMark] 25 false, .box [I (x.fNext.length : Int)] 3 false]⟩) ?_ ?_
          · refine En.region ?_
            refine WL.run ht hn 6 ⟨[(1, .sv (.one (.ptr 0 0))), (3, .sv (.one (.ptr 1 0))), (27, .sv (.one (B ((x.fMark.length : Int) != (x.fNext.length : Int)))))], [.box [I x.fLetters, I x.fStart, LS (lsT intT) x.fNext, LS intT x.fMark] 25 false, .box [I (x.fNext.length : Int)] 3 false]⟩ (by kernel_rfl) ?_
            refine splitB ((x.fMark.length : Int) != (x.fNext.length : Int)) (fun hb => ?_) (fun hb => ?_)
            · replace h := h.1 hb
              refine WL.setB 27 hb (by kernel_rfl) ?_
              refine WL.run ht hn 5 ⟨[(1, .sv (.one (.ptr 0 0))), (3, .sv (.one (.ptr 1 0))), (32, .sv (.one (B true)))], [.box [I x.fLetters, I x.fStart, LS (lsT intT) x.fNext, LS intT x.fMark] 25 false, .box [I (x.fNext.length : Int)] 3 false]⟩ (by kernel_rfl) ?_
              refine WL.nil ?_
              exact En.at (I := fun zz => J zz) (T := fun zz => ⟨[(1, .sv (.one (.ptr 0 0))), (3, .sv (.one (.ptr 1 0))), (32, .sv (.one (B zz)))], [.box [I x.fLetters, I x.fStart, LS (lsT intT) x.fNext, LS intT x.fMark] 25 false, .box [I (x.fNext.length : Int)] 3 false]⟩) true h (by kernel_rfl)
            · replace h := h.2 hb
              refine WL.setB 27 hb (by kernel_rfl) ?_
              refine WL.run ht hn 3 ⟨[(1, .sv (.one (.ptr 0 0))), (3, .sv (.one (.ptr 1 0))), (27, .sv (.one (B false))), (29, .sv (.one (LS (lsT intT) x.fNext))), (30, .sv (.one (.fn 111 [0])))], [.box [I x.fLetters, I x.fStart, LS (lsT intT) x.fNext, LS intT x.fMark] 25 false, .box [I (x.fNext.length : Int)] 3 false]⟩ (by kernel_rfl) ?_
              have hp := h.1
              replace h := h.2
              refine WL.mt0 (K := []) (p := none) hn (by rfl) (mt_lendF [0] (by rfl) (by rfl) (mt_ghost 30 (.sv (.one (.rd (fvR (fun (x_ : (List Int)) => [.sv (.one (LS intT x_))]) (fun (r : Bool) => .sv (.one (B r))) (fun _ => True) (fun r => (r.length : Int) != (x).fLetters))))) (by rfl) (fv_of (M := [.box [I x.fLetters, I x.fStart, LS (lsT intT) x.fNext, LS intT x.fMark] 25 true]) (caps := [0]) (fun x_ _ => detC1_ct x_ x) en111 rfl (by kernel_rfl) (by rfl) (fun _ => rfl)) (mt_call (anyLInt_ct x.fNext (fun _ => True) (fun r => (r.length : Int) != (x).fLetters) hp) en63 (caps := []) [] rfl (by rfl) (by kernel_rfl) (by kernel_rfl) (by rfl) (by rfl) (by rfl)))) (by rfl) (by rfl) (by rfl) ?_
              refine WL.run ht hn 1 ⟨[(1, .sv (.one (.ptr 0 0))), (3, .sv (.one (.ptr 1 0))), (32, .sv (.one (B (x.fNext.any (fun r => (r.length : Int) != (x).fLetters)))))], [.box [I x.fLetters, I x.fStart, LS (lsT intT) x.fNext, LS intT x.fMark] 25 false, .box [I (x.fNext.length : Int)] 3 false]⟩ (by kernel_rfl) ?_
              refine WL.nil ?_
              exact En.at (I := fun zz => J zz) (T := fun zz => ⟨[(1, .sv (.one (.ptr 0 0))), (3, .sv (.one (.ptr 1 0))), (32, .sv (.one (B zz)))], [.box [I x.fLetters, I x.fStart, LS (lsT intT) x.fNext, LS intT x.fMark] 25 false, .box [I (x.fNext.length : Int)] 3 false]⟩) (x.fNext.any (fun r => (r.length : Int) != (x).fLetters)) h (by kernel_rfl)
          · intro x32 h
            replace h := hJ _ h
            show En c ⟨[(1, .sv (.one (.ptr 0 0))), (3, .sv (.one (.ptr 1 0))), (32, .sv (.one (B x32)))], [.box [I x.fLetters, I x.fStart, LS (lsT intT) x.fNext, LS intT x.fMark] 25 false, .box [I (x.fNext.length : Int)] 3 false]⟩ _
            refine En.cond (b := x32) (by kernel_rfl) (fun hb => ?_) (fun hb => ?_)
            · replace h := h.1 hb
              refine En.seq ?_
              refine En.region ?_
              refine WL.run ht hn 1 ⟨[(2, .sv (.one (I 3)))], [.gone, .gone]⟩ (by kernel_rfl) ?_
              refine WL.nil ?_
              refine En.ret ?_
              exact En.back ht 3 h (by kernel_rfl) rfl
            · replace h := h.2 hb
              refine En.skip ?_
              refine En.seq ?_
              refine En.region ?_
              refine WL.run ht hn 3 ⟨[(1, .sv (.one (.ptr 0 0))), (4, .sv (.one (.ptr 2 0)))], [.box [I x.fLetters, I x.fStart, LS (lsT intT) x.fNext, LS intT x.fMark] 25 false, .box [I (x.fNext.length : Int)] 3 false, .box [.fn 112 [1]] 134 false]⟩ (by kernel_rfl) ?_
              refine WL.nil ?_
              refine En.seq ?_
              obtain ⟨J_2, h, hJ_2⟩ := h
              refine En.seqJ (σ := Bool) (fun zz => J_2 zz) (fun zz => ⟨[(1, .sv (.one (.ptr 0 0))), (43, .sv (.one (B zz)))], [.box [I x.fLetters, I x.fStart, LS (lsT intT) x.fNext, LS intT x.fMark] 25 false, .gone, .gone]⟩) ?_ ?_
              · refine En.region ?_
                refine WL.run ht hn 3 ⟨[(1, .sv (.one (.ptr 0 0))), (4, .sv (.one (.ptr 2 0))), (34, .sv (.one (.fn 112 [1]))), (36, .sv (.one (I x.fStart)))], [.box [I x.fLetters, I x.fStart, LS (lsT intT) x.fNext, LS intT x.fMark] 25 false, .box [I (x.fNext.length : Int)] 3 false, .box [.fn 112 [1]] 134 false]⟩ (by kernel_rfl) ?_
                refine WL.freeze [1] (by rfl) ?_
                refine WL.ghost 34 (.sv (.one (.rd (fvR (fun (x_ : Int) => [.sv (.one (I x_))]) (fun (r : Bool) => .sv (.one (B r))) (fun _ => True) (altNo (x.fNext.length : Int)))))) (by rfl) (fv_of (M := [.box [I (x.fNext.length : Int)] 3 true]) (caps := [1]) (fun x_ _ => detC2_ct x_ (x.fNext.length : Int)) en112 rfl (by kernel_rfl) (by rfl) (fun _ => rfl)) ?_
                have hp := h.1
                replace h := h.2
                refine WL.mt0 (K := []) (p := none) hn (by rfl) (mt_callv x.fStart hp rfl (by rfl) (by rfl) (by rfl) (by rfl)) (by rfl) (by rfl) (by rfl) ?_
                refine WL.run ht hn 1 ⟨[(1, .sv (.one (.ptr 0 0))), (4, .sv (.one (.ptr 2 0))), (38, .sv (.one (B ((altNo (x.fNext.length : Int)) x.fStart))))], [.box [I x.fLetters, I x.fStart, LS (lsT intT) x.fNext, LS intT x.fMark] 25 false, .box [I (x.fNext.length : Int)] 3 true, .box [.fn 112 [1]] 134 false]⟩ (by kernel_rfl) ?_
                refine splitB ((altNo (x.fNext.length : Int)) x.fStart) (fun hb => ?_) (fun hb => ?_)
                · replace h := h.1 hb
                  refine WL.setB 38 hb (by kernel_rfl) ?_
                  refine WL.run ht hn 5 ⟨[(1, .sv (.one (.ptr 0 0))), (43, .sv (.one (B true)))], [.box [I x.fLetters, I x.fStart, LS (lsT intT) x.fNext, LS intT x.fMark] 25 false, .gone, .gone]⟩ (by kernel_rfl) ?_
                  refine WL.nil ?_
                  exact En.at (I := fun zz => J_2 zz) (T := fun zz => ⟨[(1, .sv (.one (.ptr 0 0))), (43, .sv (.one (B zz)))], [.box [I x.fLetters, I x.fStart, LS (lsT intT) x.fNext, LS intT x.fMark] 25 false, .gone, .gone]⟩) true h (by kernel_rfl)
                · replace h := h.2 hb
                  refine WL.setB 38 hb (by kernel_rfl) ?_
                  refine WL.run ht hn 3 ⟨[(1, .sv (.one (.ptr 0 0))), (38, .sv (.one (B false))), (40, .sv (.one (LS (lsT intT) x.fNext))), (41, .sv (.one (.fn 113 [2])))], [.box [I x.fLetters, I x.fStart, LS (lsT intT) x.fNext, LS intT x.fMark] 25 false, .box [I (x.fNext.length : Int)] 3 true, .box [.fn 112 [1]] 134 false]⟩ (by kernel_rfl) ?_
                  refine WL.boxTurn (.rd (fvR (fun (x_ : Int) => [.sv (.one (I x_))]) (fun (r : Bool) => .sv (.one (B r))) (fun _ => True) (altNo (x.fNext.length : Int)))) 2 0 (by rfl) (by rfl) (fv_at (fv_of (M := [.box [I (x.fNext.length : Int)] 3 true]) (caps := [1]) (fun x_ _ => detC2_ct x_ (x.fNext.length : Int)) en112 rfl (by kernel_rfl) (by rfl) (fun _ => rfl))) ?_
                  have hp := h.1
                  replace h := h.2
                  refine WL.mt0 (K := []) (p := none) hn (by rfl) (mt_lendF [2] (by rfl) (by rfl) (mt_ghost 41 (.sv (.one (.rd (fvR (fun (x_ : (List Int)) => [.sv (.one (LS intT x_))]) (fun (r : Bool) => .sv (.one (B r))) (fun l => ∀ x ∈ l, (fun _ => True) x) (fun l => l.any (altNo (x.fNext.length : Int))))))) (by rfl) (fv_of (M := [.box [.rd (fvR (fun (x_ : Int) => [.sv (.one (I x_))]) (fun (r : Bool) => .sv (.one (B r))) (fun _ => True) (altNo (x.fNext.length : Int)))] 134 true]) (caps := [2]) (fun x_ hx => detC3_ct x_ (fun _ => True) (altNo (x.fNext.length : Int)) hx) en113 rfl (by kernel_rfl) (by rfl) (fun _ => rfl)) (mt_call (anyLInt_ct x.fNext (fun l => ∀ x ∈ l, (fun _ => True) x) (fun l => l.any (altNo (x.fNext.length : Int))) hp) en63 (caps := []) [] rfl (by rfl) (by kernel_rfl) (by kernel_rfl) (by rfl) (by rfl) (by rfl)))) (by rfl) (by rfl) (by rfl) ?_
                  refine WL.run ht hn 1 ⟨[(1, .sv (.one (.ptr 0 0))), (43, .sv (.one (B (x.fNext.any (fun l => l.any (altNo (x.fNext.length : Int)))))))], [.box [I x.fLetters, I x.fStart, LS (lsT intT) x.fNext, LS intT x.fMark] 25 false, .gone, .gone]⟩ (by kernel_rfl) ?_
                  refine WL.nil ?_
                  exact En.at (I := fun zz => J_2 zz) (T := fun zz => ⟨[(1, .sv (.one (.ptr 0 0))), (43, .sv (.one (B zz)))], [.box [I x.fLetters, I x.fStart, LS (lsT intT) x.fNext, LS intT x.fMark] 25 false, .gone, .gone]⟩) (x.fNext.any (fun l => l.any (altNo (x.fNext.length : Int)))) h (by kernel_rfl)
              · intro x43 h
                replace h := hJ_2 _ h
                show En c ⟨[(1, .sv (.one (.ptr 0 0))), (43, .sv (.one (B x43)))], [.box [I x.fLetters, I x.fStart, LS (lsT intT) x.fNext, LS intT x.fMark] 25 false, .gone, .gone]⟩ _
                refine En.cond (b := x43) (by kernel_rfl) (fun hb => ?_) (fun hb => ?_)
                · replace h := h.1 hb
                  refine En.seq ?_
                  refine En.region ?_
                  refine WL.run ht hn 1 ⟨[(2, .sv (.one (I 2)))], [.gone, .gone, .gone]⟩ (by kernel_rfl) ?_
                  refine WL.nil ?_
                  refine En.ret ?_
                  exact En.back ht 2 h (by kernel_rfl) rfl
                · replace h := h.2 hb
                  refine En.skip ?_
                  refine En.seq ?_
                  refine En.seq ?_
                  refine En.region ?_
                  refine WL.run ht hn 2 ⟨[(45, .sv (.one (LS intT x.fMark)))], [.gone, .gone, .gone]⟩ (by kernel_rfl) ?_
                  have hp := h.1
                  replace h := h.2
                  refine WL.mt0 (K := []) (p := none) hn (by rfl) (mt_call (Ct.args (anyInt_ct x.fMark (fun _ => True) (fun m => (m != 0) && (m != 1)) hp) (argLe_same (argLe_to (fv_const (ins := (fun (x_ : Int) => [.sv (.one (I x_))])) (out := (fun (r : Bool) => .sv (.one (B r)))) (dom := (fun _ => True)) (φ := (fun m => (m != 0) && (m != 1))) (fun x_ _ => detC4_ct x_) en114) argLe_nil))) en77 (caps := []) [] rfl (by rfl) (by kernel_rfl) (by kernel_rfl) (by rfl) (by rfl) (by rfl)) (by rfl) (by rfl) (by rfl) ?_
                  refine WL.nil ?_
                  refine En.cond (b := (x.fMark.any (fun m => (m != 0) && (m != 1)))) (by kernel_rfl) (fun hb => ?_) (fun hb => ?_)
                  · replace h := h.1 hb
                    refine En.seq ?_
                    refine En.region ?_
                    refine WL.run ht hn 1 ⟨[(2, .sv (.one (I 2)))], [.gone, .gone, .gone]⟩ (by kernel_rfl) ?_
                    refine WL.nil ?_
                    refine En.ret ?_
                    exact En.back ht 2 h (by kernel_rfl) rfl
                  · replace h := h.2 hb
                    refine En.skip ?_
                    refine En.seq ?_
                    refine En.region ?_
                    refine WL.run ht hn 1 ⟨[(2, .sv (.one (I 0)))], [.gone, .gone, .gone]⟩ (by kernel_rfl) ?_
                    refine WL.nil ?_
                    refine En.ret ?_
                    exact En.back ht 0 h (by kernel_rfl) rfl
theorem en44 : ∀ args w, (callFunc 44 args).run Try.prog w = .ok (.enter 44 args) w := enters_of Try.func44 (by kernel_rfl) rfl
theorem detCheck_ct (x : ApiDet)  : Ct 44 [.sv (.agg [I x.fLetters, I x.fStart, LS (lsT intT) x.fNext, LS intT x.fMark])] [] (fun (_ : Unit) => True) (fun _ => .sv (.one (I (detErr x)))) := by
  refine (detCheck_walk x (fun res_ => res_ = (detErr x)) ?_).fun
  intro _ _
  refine ⟨fun h1 => ?_, fun h1 => ⟨fun h2 => ?_, fun h2 => ?_⟩⟩
  · show _ = detErr x
    unfold detErr; rw [if_pos h1]
  · show _ = detErr x
    unfold detErr; rw [if_neg (by rw [h1]; decide), if_pos h2]
  refine ⟨fun b => b = (((x.fMark.length : Int) != (x.fNext.length : Int)) || x.fNext.any (fun r => (r.length : Int) != (x).fLetters)), ⟨fun h => by rw [h]; rfl, fun h => ⟨fun _ _ => trivial, by rw [h]; rfl⟩⟩, ?_⟩
  rintro b rfl
  refine ⟨fun h3 => ?_, fun h3 => ?_⟩
  · show _ = detErr x
    unfold detErr; rw [if_neg (by rw [h1]; decide), if_neg (by rw [h2]; decide), if_pos h3]
  refine ⟨fun b => b = (altNo (x.fNext.length : Int) x.fStart || x.fNext.any (fun l => l.any (altNo (x.fNext.length : Int)))), ⟨trivial, fun h => by rw [h]; rfl, fun h => ⟨fun _ _ _ _ => trivial, by rw [h]; rfl⟩⟩, ?_⟩
  rintro b rfl
  refine ⟨fun h4 => ?_, fun h4 => ⟨fun _ _ => trivial, fun h5 => ?_, fun h5 => ?_⟩⟩
  · show _ = detErr x
    unfold detErr; rw [if_neg (by rw [h1]; decide), if_neg (by rw [h2]; decide), if_neg (by rw [h3]; decide), if_pos h4]
  · show _ = detErr x
    unfold detErr; rw [if_neg (by rw [h1]; decide), if_neg (by rw [h2]; decide), if_neg (by rw [h3]; decide), if_neg (by rw [h4]; decide), if_pos h5]
  · show _ = detErr x
    unfold detErr; rw [if_neg (by rw [h1]; decide), if_neg (by rw [h2]; decide), if_neg (by rw [h3]; decide), if_neg (by rw [h4]; decide), if_neg (by rw [h5]; decide)]
def detLeast_vc (x : ApiDet) (Q : (ApiDet × Int) → Prop) : Prop :=
  x.fNext.length ≤ 9223372036854775807 →
  x.fMark.length ≤ 9223372036854775807 →
  (IfP ((detErr x) != 0) (Q ((ApiDet.mk 0 0 [] []), (detErr x))) ((ClsOk x) ∧
  Q ((canon (x).fLetters.toNat (langD x (x).fStart.toNat)), 0)))
theorem detLeast_walk (x : ApiDet) (Q : (ApiDet × Int) → Prop) (h : detLeast_vc x Q) : Ct 15 [.sv (.agg [I x.fLetters, I x.fStart, LS (lsT intT) x.fNext, LS intT x.fMark])] [] Q (fun (r : (ApiDet × Int)) => .tup [.agg [I r.1.fLetters, I r.1.fStart, LS (lsT intT) r.1.fNext, LS intT r.1.fMark], .one (I r.2)]) := by
  have ht := tab_ok
  refine Ct.body Try.func15 rfl rfl rfl rfl (fun c hn => ?_)
  unfold detLeast_vc at h
  refine En.lenA 0 2 (by rfl) (by rfl) (fun hl => ?_)
  replace h := h hl
  clear hl
  refine En.lenA 0 3 (by rfl) (by rfl) (fun hl => ?_)
  replace h := h hl
  clear hl
  refine En.seq ?_
  refine En.region ?_
  refine WL.run ht hn 3 ⟨[(1, .sv (.one (.ptr 0 0))), (2, .sv (.one (.ptr 1 0)))], [.box [I x.fLetters, I x.fStart, LS (lsT intT) x.fNext, LS intT x.fMark] 25 false, .box [I 0, I 0, .v (.slice none 0 0), .v (.slice none 0 0)] 25 false]⟩ (by kernel_rfl) ?_
  refine WL.nil ?_
  refine En.seq ?_
  refine En.seq ?_
  refine En.region ?_
  refine WL.run ht hn 1 ⟨[(1, .sv (.one (.ptr 0 0))), (2, .sv (.one (.ptr 1 0))), (5, .sv (.agg [I x.fLetters, I x.fStart, LS (lsT intT) x.fNext, LS intT x.fMark]))], [.box [I x.fLetters, I x.fStart, LS (lsT intT) x.fNext, LS intT x.fMark] 25 false, .box [I 0, I 0, .v (.slice none 0 0), .v (.slice none 0 0)] 25 false]⟩ (by kernel_rfl) ?_
  refine WL.mt0 (K := []) (p := none) hn (by rfl) (mt_call (detCheck_ct x) en44 (caps := []) [] rfl (by rfl) (by kernel_rfl) (by kernel_rfl) (by rfl) (by rfl) (by rfl)) (by rfl) (by rfl) (by rfl) ?_
  refine WL.run ht hn 1 ⟨[(1, .sv (.one (.ptr 0 0))), (2, .sv (.one (.ptr 1 0))), (4, .sv (.one (I (detErr x))))], [.box [I x.fLetters, I x.fStart, LS (lsT intT) x.fNext, LS intT x.fMark] 25 false, .box [I 0, I 0, .v (.slice none 0 0), .v (.slice none 0 0)] 25 false]⟩ (by kernel_rfl) ?_
  refine WL.nil ?_
  refine En.seq ?_
  refine En.region ?_
  refine WL.run ht hn 2 ⟨[(1, .sv (.one (.ptr 0 0))), (2, .sv (.one (.ptr 1 0))), (4, .sv (.one (I (detErr x)))), (8, .sv (.one (B ((detErr x) != 0))))], [.box [I x.fLetters, I x.fStart, LS (lsT intT) x.fNext, LS intT x.fMark] 25 false, .box [I 0, I 0, .v (.slice none 0 0), .v (.slice none 0 0)] 25 false]⟩ (by kernel_rfl) ?_
  refine WL.nil ?_
  refine En.cond (b := ((detErr x) != 0)) (by kernel_rfl) (fun hb => ?_) (fun hb => ?_)
  · replace h := h.1 hb
    refine En.seq ?_
    refine En.region ?_
    refine WL.run ht hn 4 ⟨[(2, .sv (.one (.ptr 1 0))), (3, .sv (.one (I (detErr x))))], [.gone, .box [I 0, I 0, .v (.slice none 0 0), .v (.slice none 0 0)] 25 false]⟩ (by kernel_rfl) ?_
    refine WL.nil ?_
    refine En.ret ?_
    refine En.nilBox (T := (lsT intT)) 1 2 (by rfl) (by rfl) ?_
    refine En.nilBox (T := intT) 1 3 (by rfl) (by rfl) ?_
    exact En.back ht ((ApiDet.mk 0 0 [] []), (detErr x)) h (by kernel_rfl) rfl
  · replace h := h.2 hb
    refine En.skip ?_
    refine En.seq ?_
    refine En.region ?_
    refine WL.run ht hn 1 ⟨[(2, .sv (.one (.ptr 1 0))), (11, .sv (.agg [I x.fLetters, I x.fStart, LS (lsT intT) x.fNext, LS intT x.fMark]))], [.gone, .box [I 0, I 0, .v (.slice none 0 0), .v (.slice none 0 0)] 25 false]⟩ (by kernel_rfl) ?_
    have hp := h.1
    replace h := h.2
    refine WL.mt0 (K := []) (p := none) hn (by rfl) (mt_call (smallest_ct x hp) en45 (caps := []) [] rfl (by rfl) (by kernel_rfl) (by kernel_rfl) (by rfl) (by rfl) (by rfl)) (by rfl) (by rfl) (by rfl) ?_
    refine WL.run ht hn 2 ⟨[(2, .sv (.one (.ptr 1 0))), (3, .sv (.one (I 0)))], [.gone, .box [I (canon (x).fLetters.toNat (langD x (x).fStart.toNat)).fLetters, I (canon (x).fLetters.toNat (langD x (x).fStart.toNat)).fStart, LS (lsT intT) (canon (x).fLetters.toNat (langD x (x).fStart.toNat)).fNext, LS intT (canon (x).fLetters.toNat (langD x (x).fStart.toNat)).fMark] 25 false]⟩ (by kernel_rfl) ?_
    refine WL.nil ?_
    refine En.ret ?_
    exact En.back ht ((canon (x).fLetters.toNat (langD x (x).fStart.toNat)), 0) h (by kernel_rfl) rfl
theorem en15 : ∀ args w, (callFunc 15 args).run Try.prog w = .ok (.enter 15 args) w := enters_of Try.func15 (by kernel_rfl) rfl
theorem detLeast_ct (x : ApiDet)  : Ct 15 [.sv (.agg [I x.fLetters, I x.fStart, LS (lsT intT) x.fNext, LS intT x.fMark])] [] (fun (_ : Unit) => True) (fun _ => .tup [.agg [I (leastR x).1.fLetters, I (leastR x).1.fStart, LS (lsT intT) (leastR x).1.fNext, LS intT (leastR x).1.fMark], .one (I (leastR x).2)]) := by
  refine (detLeast_walk x (fun res_ => res_ = (leastR x)) ?_).fun
  intro _ _
  refine ⟨fun h => ?_, fun h => ?_⟩
  · show _ = leastR x
    unfold leastR
    rw [if_neg (by simpa using h)]
  · have h0 : detErr x = 0 := by simpa using h
    refine ⟨((detErr_iff x).1 h0).cls, ?_⟩
    show _ = leastR x
    unfold leastR
    rw [if_pos h0]
def detTwo_vc (x : ApiDet) (y : ApiDet) (Q : Int → Prop) : Prop :=
  x.fNext.length ≤ 9223372036854775807 →
  x.fMark.length ≤ 9223372036854775807 →
  y.fNext.length ≤ 9223372036854775807 →
  y.fMark.length ≤ 9223372036854775807 →
  (∃ (Inv : Int → Prop) (mu : Int → Nat), Inv 0 ∧
  ∀ (x12 : Int) , Inv x12 → (IfP (decide (x12 < (([x, y] : (List ApiDet)).length : Int))) (∃ e, idx ([x, y] : (List ApiDet)) x12 = some e ∧
  IfP ((detErr e) != 0) (Q (detErr e)) ((Inv (wr (x12 + 1)) ∧ mu (wr (x12 + 1)) < mu x12))) (IfP (x.fLetters != y.fLetters) (Q 3) (Q 0))))
theorem detTwo_walk (x : ApiDet) (y : ApiDet) (Q : Int → Prop) (h : detTwo_vc x y Q) : Ct 51 [.sv (.agg [I x.fLetters, I x.fStart, LS (lsT intT) x.fNext, LS intT x.fMark]), .sv (.agg [I y.fLetters, I y.fStart, LS (lsT intT) y.fNext, LS intT y.fMark])] [] Q (fun (r : Int) => .sv (.one (I r))) := by
  have ht := tab_ok
  refine Ct.body Try.func51 rfl rfl rfl rfl (fun c hn => ?_)
  unfold detTwo_vc at h
  refine En.lenA 0 2 (by rfl) (by rfl) (fun hl => ?_)
  replace h := h hl
  clear hl
  refine En.lenA 0 3 (by rfl) (by rfl) (fun hl => ?_)
  replace h := h hl
  clear hl
  refine En.lenA 1 2 (by rfl) (by rfl) (fun hl => ?_)
  replace h := h hl
  clear hl
  refine En.lenA 1 3 (by rfl) (by rfl) (fun hl => ?_)
  replace h := h hl
  clear hl
  refine En.seq ?_
  refine En.region ?_
  refine WL.run ht hn 3 ⟨[(2, .sv (.one (.ptr 0 0))), (3, .sv (.one (.ptr 1 0)))], [.box [I x.fLetters, I x.fStart, LS (lsT intT) x.fNext, LS intT x.fMark] 25 false, .box [I y.fLetters, I y.fStart, LS (lsT intT) y.fNext, LS intT y.fMark] 25 false]⟩ (by kernel_rfl) ?_
  refine WL.nil ?_
  refine En.seq ?_
  refine En.seq ?_
  refine En.region ?_
  refine WL.run ht hn 2 ⟨[(2, .sv (.one (.ptr 0 0))), (3, .sv (.one (.ptr 1 0))), (8, .sv (.agg [I x.fLetters, I x.fStart, LS (lsT intT) x.fNext, LS intT x.fMark])), (9, .sv (.agg [I y.fLetters, I y.fStart, LS (lsT intT) y.fNext, LS intT y.fMark]))], [.box [I x.fLetters, I x.fStart, LS (lsT intT) x.fNext, LS intT x.fMark] 25 false, .box [I y.fLetters, I y.fStart, LS (lsT intT) y.fNext, LS intT y.fMark] 25 false]⟩ (by kernel_rfl) ?_
  refine WL.mt0 (K := []) (p := some (2, rowI 25 ApiDet.ty ([x, y] : (List ApiDet)))) hn (by rfl) (mt_lit (T := ApiDet.ty) ([x, y] : (List ApiDet)) (mt_bsl 2 (r := cellsOf ApiDet.ty ([x, y] : (List ApiDet))) ht rfl (by rfl) (by rfl) (by rfl) (by kernel_rfl) (by rfl)) (fun _ h => by cases h) (fun _ => rfl) (fun _ => rfl) (by rfl) (Nat.le_of_ble_eq_true rfl)) (by rfl) (by rfl) (by rfl) ?_
  refine WL.run ht hn 2 ⟨[(2, .sv (.one (.ptr 0 0))), (3, .sv (.one (.ptr 1 0))), (10, .sv (.one (.own 2))), (11, .sv (.one (I (([x, y] : (List ApiDet)).length : Int)))), (12, .sv (.one (I 0)))], [.box [I x.fLetters, I x.fStart, LS (lsT intT) x.fNext, LS intT x.fMark] 25 false, .box [I y.fLetters, I y.fStart, LS (lsT intT) y.fNext, LS intT y.fMark] 25 false, rowI 25 ApiDet.ty ([x, y] : (List ApiDet))]⟩ (by kernel_rfl) ?_
  refine WL.nil ?_
  refine En.block ?_
  obtain ⟨Inv, mu, h0, hI⟩ := h
  refine En.loop (σ := Int) (fun zz => Inv zz) (fun zz => mu zz) (fun zz => ⟨[(2, .sv (.one (.ptr 0 0))), (3, .sv (.one (.ptr 1 0))), (10, .sv (.one (.own 2))), (11, .sv (.one (I (([x, y] : (List ApiDet)).length : Int)))), (12, .sv (.one (I zz)))], [.box [I x.fLetters, I x.fStart, LS (lsT intT) x.fNext, LS intT x.fMark] 25 false, .box [I y.fLetters, I y.fStart, LS (lsT intT) y.fNext, LS intT y.fMark] 25 false, rowI 25 ApiDet.ty ([x, y] : (List ApiDet))]⟩) 0 h0 (sub_ok (by kernel_rfl)) ?_
  intro x12 h
  replace h := hI _ h
  show En c ⟨[(2, .sv (.one (.ptr 0 0))), (3, .sv (.one (.ptr 1 0))), (10, .sv (.one (.own 2))), (11, .sv (.one (I (([x, y] : (List ApiDet)).length : Int)))), (12, .sv (.one (I x12)))], [.box [I x.fLetters, I x.fStart, LS (lsT intT) x.fNext, LS intT x.fMark] 25 false, .box [I y.fLetters, I y.fStart, LS (lsT intT) y.fNext, LS intT y.fMark] 25 false, rowI 25 ApiDet.ty ([x, y] : (List ApiDet))]⟩ _
  refine En.seq ?_
  refine En.region ?_
  refine WL.run ht hn 1 ⟨[(2, .sv (.one (.ptr 0 0))), (3, .sv (.one (.ptr 1 0))), (10, .sv (.one (.own 2))), (11, .sv (.one (I (([x, y] : (List ApiDet)).length : Int)))), (12, .sv (.one (I x12))), (13, .sv (.one (B (decide (x12 < (([x, y] : (List ApiDet)).length : Int))))))], [.box [I x.fLetters, I x.fStart, LS (lsT intT) x.fNext, LS intT x.fMark] 25 false, .box [I y.fLetters, I y.fStart, LS (lsT intT) y.fNext, LS intT y.fMark] 25 false, rowI 25 ApiDet.ty ([x, y] : (List ApiDet))]⟩ (by kernel_rfl) ?_
  refine WL.nil ?_
  refine En.seq ?_
  refine En.cond (b := (decide (x12 < (([x, y] : (List ApiDet)).length : Int)))) (by kernel_rfl) (fun hb => ?_) (fun hb => ?_)
  · replace h := h.1 hb
    refine En.skip ?_
    refine En.seq ?_
    refine En.block ?_
    refine En.seq ?_
    refine En.region ?_
    obtain ⟨e, he, h⟩ := h
    refine WL.val hn (by rfl) (val_indexO (T := ApiDet.ty) (l := ([x, y] : (List ApiDet))) (k := x12) ht rfl (by rfl) (by rfl) (by rfl) (by rfl) (by decide) (by rfl) (by rfl) (by rfl) he) (by rfl) ?_
    refine WL.val hn (by rfl) (val_loadO (T := ApiDet.ty) (l := ([x, y] : (List ApiDet))) (y := e) ht rfl (by rfl) (by rfl) (by rfl) (by rfl) (by rfl) (idx_some he).2.2 (by rfl)) (by rfl) ?_
    refine WL.run ht hn 2 ⟨[(2, .sv (.one (.ptr 0 0))), (3, .sv (.one (.ptr 1 0))), (6, .sv (.one (.ptr 3 0))), (10, .sv (.one (.own 2))), (11, .sv (.one (I (([x, y] : (List ApiDet)).length : Int)))), (12, .sv (.one (I x12)))], [.box [I x.fLetters, I x.fStart, LS (lsT intT) x.fNext, LS intT x.fMark] 25 false, .box [I y.fLetters, I y.fStart, LS (lsT intT) y.fNext, LS intT y.fMark] 25 false, rowI 25 ApiDet.ty ([x, y] : (List ApiDet)), .box [I e.fLetters, I e.fStart, LS (lsT intT) e.fNext, LS intT e.fMark] 25 false]⟩ (by kernel_rfl) ?_
    refine WL.nil ?_
    refine En.seq ?_
    refine En.region ?_
    refine WL.run ht hn 1 ⟨[(2, .sv (.one (.ptr 0 0))), (3, .sv (.one (.ptr 1 0))), (10, .sv (.one (.own 2))), (11, .sv (.one (I (([x, y] : (List ApiDet)).length : Int)))), (12, .sv (.one (I x12))), (16, .sv (.agg [I e.fLetters, I e.fStart, LS (lsT intT) e.fNext, LS intT e.fMark]))], [.box [I x.fLetters, I x.fStart, LS (lsT intT) x.fNext, LS intT x.fMark] 25 false, .box [I y.fLetters, I y.fStart, LS (lsT intT) y.fNext, LS intT y.fMark] 25 false, rowI 25 ApiDet.ty ([x, y] : (List ApiDet)), .gone]⟩ (by kernel_rfl) ?_
    refine WL.mt0 (K := []) (p := none) hn (by rfl) (mt_call (detCheck_ct e) en44 (caps := []) [] rfl (by rfl) (by kernel_rfl) (by kernel_rfl) (by rfl) (by rfl) (by rfl)) (by rfl) (by rfl) (by rfl) ?_
    refine WL.run ht hn 1 ⟨[(2, .sv (.one (.ptr 0 0))), (3, .sv (.one (.ptr 1 0))), (7, .sv (.one (I (detErr e)))), (10, .sv (.one (.own 2))), (11, .sv (.one (I (([x, y] : (List ApiDet)).length : Int)))), (12, .sv (.one (I x12)))], [.box [I x.fLetters, I x.fStart, LS (lsT intT) x.fNext, LS intT x.fMark] 25 false, .box [I y.fLetters, I y.fStart, LS (lsT intT) y.fNext, LS intT y.fMark] 25 false, rowI 25 ApiDet.ty ([x, y] : (List ApiDet)), .gone]⟩ (by kernel_rfl) ?_
    refine WL.nil ?_
    refine En.seq ?_
    refine En.region ?_
    refine WL.run ht hn 2 ⟨[(2, .sv (.one (.ptr 0 0))), (3, .sv (.one (.ptr 1 0))), (7, .sv (.one (I (detErr e)))), (10, .sv (.one (.own 2))), (11, .sv (.one (I (([x, y] : (List ApiDet)).length : Int)))), (12, .sv (.one (I x12))), (19, .sv (.one (B ((detErr e) != 0))))], [.box [I x.fLetters, I x.fStart, LS (lsT intT) x.fNext, LS intT x.fMark] 25 false, .box [I y.fLetters, I y.fStart, LS (lsT intT) y.fNext, LS intT y.fMark] 25 false, rowI 25 ApiDet.ty ([x, y] : (List ApiDet)), .gone]⟩ (by kernel_rfl) ?_
    refine WL.nil ?_
    refine En.cond (b := ((detErr e) != 0)) (by kernel_rfl) (fun hb => ?_) (fun hb => ?_)
    · replace h := h.1 hb
      refine En.seq ?_
      refine En.region ?_
      refine WL.run ht hn 2 ⟨[(4, .sv (.one (I (detErr e))))], [.gone, .gone, .gone, .gone]⟩ (by kernel_rfl) ?_
      refine WL.nil ?_
      refine En.ret ?_
      exact En.back ht (detErr e) h (by kernel_rfl) rfl
    · replace h := h.2 hb
      refine En.skip ?_
      refine En.region ?_
      refine WL.run ht hn 2 ⟨[(2, .sv (.one (.ptr 0 0))), (3, .sv (.one (.ptr 1 0))), (10, .sv (.one (.own 2))), (11, .sv (.one (I (([x, y] : (List ApiDet)).length : Int)))), (12, .sv (.one (I (wr (x12 + 1)))))], [.box [I x.fLetters, I x.fStart, LS (lsT intT) x.fNext, LS intT x.fMark] 25 false, .box [I y.fLetters, I y.fStart, LS (lsT intT) y.fNext, LS intT y.fMark] 25 false, rowI 25 ApiDet.ty ([x, y] : (List ApiDet)), .gone]⟩ (by kernel_rfl) ?_
      refine WL.nil ?_
      exact En.at (I := fun zz => Inv zz ∧ mu zz < mu x12) (T := fun zz => ⟨[(2, .sv (.one (.ptr 0 0))), (3, .sv (.one (.ptr 1 0))), (10, .sv (.one (.own 2))), (11, .sv (.one (I (([x, y] : (List ApiDet)).length : Int)))), (12, .sv (.one (I zz)))], [.box [I x.fLetters, I x.fStart, LS (lsT intT) x.fNext, LS intT x.fMark] 25 false, .box [I y.fLetters, I y.fStart, LS (lsT intT) y.fNext, LS intT y.fMark] 25 false, rowI 25 ApiDet.ty ([x, y] : (List ApiDet))]⟩) (wr (x12 + 1)) h (by kernel_rfl)
  · replace h := h.2 hb
    refine En.exit rfl ?_
    refine En.seq ?_
    refine En.seq ?_
    refine En.region ?_
    refine WL.run ht hn 5 ⟨[(26, .sv (.one (B (x.fLetters != y.fLetters))))], [.gone, .gone, .gone]⟩ (by kernel_rfl) ?_
    refine WL.nil ?_
    refine En.cond (b := (x.fLetters != y.fLetters)) (by kernel_rfl) (fun hb => ?_) (fun hb => ?_)
    · replace h := h.1 hb
      refine En.seq ?_
      refine En.region ?_
      refine WL.run ht hn 1 ⟨[(4, .sv (.one (I 3)))], [.gone, .gone, .gone]⟩ (by kernel_rfl) ?_
      refine WL.nil ?_
      refine En.ret ?_
      exact En.back ht 3 h (by kernel_rfl) rfl
    · replace h := h.2 hb
      refine En.skip ?_
      refine En.seq ?_
      refine En.region ?_
      refine WL.run ht hn 1 ⟨[(4, .sv (.one (I 0)))], [.gone, .gone, .gone]⟩ (by kernel_rfl) ?_
      refine WL.nil ?_
      refine En.ret ?_
      exact En.back ht 0 h (by kernel_rfl) rfl
theorem en51 : ∀ args w, (callFunc 51 args).run Try.prog w = .ok (.enter 51 args) w := enters_of Try.func51 (by kernel_rfl) rfl
def twoErr (x y : ApiDet) : Int := if detErr x = 0 then (if detErr y = 0 then (if x.fLetters = y.fLetters then 0 else 3) else detErr y) else detErr x
theorem detTwo_ct (x : ApiDet) (y : ApiDet)  : Ct 51 [.sv (.agg [I x.fLetters, I x.fStart, LS (lsT intT) x.fNext, LS intT x.fMark]), .sv (.agg [I y.fLetters, I y.fStart, LS (lsT intT) y.fNext, LS intT y.fMark])] [] (fun (_ : Unit) => True) (fun _ => .sv (.one (I (twoErr x y)))) := by
  refine (detTwo_walk x y (fun res_ => res_ = (twoErr x y)) ?_).fun
  intro _ _ _ _
  refine ⟨fun i => i = 0 ∨ (i = 1 ∧ detErr x = 0) ∨ (i = 2 ∧ detErr x = 0 ∧ detErr y = 0), fun i => 2 - i.toNat, .inl rfl, ?_⟩
  rintro i (rfl | ⟨rfl, hx⟩ | ⟨rfl, hx, hy⟩)
  · refine ⟨fun _ => ⟨x, rfl, fun h => ?_, fun h => ⟨.inr (.inl ⟨rfl, by simpa using h⟩), by decide⟩⟩, (fun h => by cases h)⟩
    show _ = twoErr x y
    unfold twoErr
    rw [if_neg (by simpa using h)]
  · refine ⟨fun _ => ⟨y, rfl, fun h => ?_, fun h => ⟨.inr (.inr ⟨rfl, hx, by simpa using h⟩), by decide⟩⟩, (fun h => by cases h)⟩
    show _ = twoErr x y
    unfold twoErr
    rw [if_pos hx, if_neg (by simpa using h)]
  · refine ⟨(fun h => by cases h), fun _ => ⟨fun h => ?_, fun h => ?_⟩⟩
    · show _ = twoErr x y
      unfold twoErr
      rw [if_pos hx, if_pos hy, if_neg (by simpa using h)]
    · show _ = twoErr x y
      unfold twoErr
      rw [if_pos hx, if_pos hy, if_pos (by simpa using h)]
def cplOk (x y : ApiDet) (k : DetCouple) : Prop := (0 ≤ k.fE0 ∧ k.fE0 < (x.fNext.length : Int)) ∧ 0 ≤ k.fE1 ∧ k.fE1 < (y.fNext.length : Int)
def cplGo (x y : ApiDet) (k : DetCouple) (a : Int) : DetCouple := ⟨(stepD x k.fE0.toNat a.toNat : Int), (stepD y k.fE1.toNat a.toNat : Int)⟩
/-- what a table says of two marks -/
def tabB (t m n : Int) : Int := bitsI .and .i64 (Int.fdiv t (2 ^ (min (2 * m + n).toNat 64))) 1
def cplMark (t : Int) (x y : ApiDet) (k : DetCouple) : Int := tabB t (x.fMark.getD k.fE0.toNat 0) (y.fMark.getD k.fE1.toNat 0)
theorem step_cell {d : ApiDet} (h : DetOk d) {q a : Int} (hq : 0 ≤ q ∧ q < (d.fNext.length : Int)) (ha : 0 ≤ a ∧ a < d.fLetters) : ∃ r, idx d.fNext q = some r ∧ idx r a = some (stepD d q.toNat a.toNat : Int) := by
  have hm : d.fNext.getD q.toNat [] ∈ d.fNext := getD_mem (by omega)
  have hr := h.rows _ hm
  refine ⟨_, idx_of [] hq.1 hq.2, (idx_of 0 ha.1 (by omega)).trans ?_⟩
  have := h.in_ _ hm _ (getD_mem (l := d.fNext.getD q.toNat []) (i := a.toNat) (z := 0) (by omega))
  unfold stepD
  congr 1
  omega
theorem step_in {d : ApiDet} (h : DetOk d) {q : Int} (hq : 0 ≤ q ∧ q < (d.fNext.length : Int)) (a : Nat) : 0 ≤ (stepD d q.toNat a : Int) ∧ (stepD d q.toNat a : Int) < (d.fNext.length : Int) := by
  have := h.cls.pre.step (q := q.toNat) (a := a) (by omega)
  omega
def mixGo_vc (k : DetCouple) (a : Int) (x : ApiDet) (y : ApiDet) (Q : DetCouple → Prop) : Prop :=
  ∃ e, idx x.fNext k.fE0 = some e ∧
  ∃ e_2, idx e a = some e_2 ∧
  ∃ e_3, idx y.fNext k.fE1 = some e_3 ∧
  ∃ e_4, idx e_3 a = some e_4 ∧
  Q (DetCouple.mk e_2 e_4)
theorem mixGo_walk (k : DetCouple) (a : Int) (x : ApiDet) (y : ApiDet) (Q : DetCouple → Prop) (h : mixGo_vc k a x y Q) : Ct 53 [.sv (.agg [I k.fE0, I k.fE1]), .sv (.one (I a)), .sv (.one (.ptr 0 0)), .sv (.one (.ptr 1 0))] [.box [I x.fLetters, I x.fStart, LS (lsT intT) x.fNext, LS intT x.fMark] 25 true, .box [I y.fLetters, I y.fStart, LS (lsT intT) y.fNext, LS intT y.fMark] 25 true] Q (fun (r : DetCouple) => .sv (.agg [I r.fE0, I r.fE1])) := by
  have ht := tab_ok
  refine Ct.body Try.func53 rfl rfl rfl rfl (fun c hn => ?_)
  unfold mixGo_vc at h
  refine En.seq ?_
  refine En.region ?_
  refine WL.run ht hn 2 ⟨[(1, .sv (.one (I a))), (2, .sv (.one (.ptr 0 0))), (3, .sv (.one (.ptr 1 0))), (4, .sv (.one (.ptr 2 0))), (6, .sv (.one (.ptr 3 0)))], [.box [I x.fLetters, I x.fStart, LS (lsT intT) x.fNext, LS intT x.fMark] 25 true, .box [I y.fLetters, I y.fStart, LS (lsT intT) y.fNext, LS intT y.fMark] 25 true, .box [I k.fE0, I k.fE1] 102 false, .box [I 0, I 0] 102 false]⟩ (by kernel_rfl) ?_
  refine WL.nil ?_
  refine En.seq ?_
  obtain ⟨e, he, h⟩ := h
  obtain ⟨e_2, he_2, h⟩ := h
  obtain ⟨e_3, he_3, h⟩ := h
  obtain ⟨e_4, he_4, h⟩ := h
  refine En.regionA ⟨[(1, .sv (.one (I a))), (2, .sv (.one (.ptr 0 0))), (3, .sv (.one (.ptr 1 0))), (4, .sv (.one (.ptr 2 0))), (6, .sv (.one (.ptr 3 0)))], [.sv (.one (.ptr 0 2)), .sv (.one (LS (lsT intT) x.fNext)), .sv (.one (.ptr 2 0)), .sv (.one (I k.fE0)), .sv (.one (.pe (svR (.one (LS intT e))) 1)), .sv (.one (LS intT e)), .sv (.one (I a)), .sv (.one (.pe (svR (.one (I e_2))) 1)), .sv (.one (I e_2)), .sv (.one (.ptr 1 2)), .sv (.one (LS (lsT intT) y.fNext)), .sv (.one (.ptr 2 1)), .sv (.one (I k.fE1)), .sv (.one (.pe (svR (.one (LS intT e_3))) 1)), .sv (.one (LS intT e_3)), .sv (.one (I a)), .sv (.one (.pe (svR (.one (I e_4))) 1)), .sv (.one (I e_4)), .sv (.agg [I e_2, I e_4]), .tup []], [⟨.box [I x.fLetters, I x.fStart, LS (lsT intT) x.fNext, LS intT x.fMark] 25 true, none, none, none⟩, ⟨.box [I y.fLetters, I y.fStart, LS (lsT intT) y.fNext, LS intT y.fMark] 25 true, none, none, none⟩, ⟨.box [I k.fE0, I k.fE1] 102 false, none, none, none⟩, ⟨.box [I 0, I 0] 102 false, none, none, some (19, .box [I e_2, I e_4] 102 false)⟩]⟩ ⟨[(6, .sv (.one (.ptr 3 0)))], [.gone, .gone, .gone, .box [I e_2, I e_4] 102 false]⟩ (by kernel_rfl) hn (by kernel_rfl) (by rfl) (by kernel_rfl) ?_ (by kernel_rfl) ?_
  · exact ⟨.mt ⟨[(2, .sv (.one (.ptr 0 0)))], []⟩ [] none (by kernel_rfl) (by rfl) (mt_ev ht (by kernel_rfl)) rfl rfl rfl rfl,
    .mt ⟨[(7, .sv (.one (.ptr 0 2)))], [.box [I x.fLetters, I x.fStart, LS (lsT intT) x.fNext, LS intT x.fMark] 25 true]⟩ [] none (by kernel_rfl) (by rfl) (mt_ev ht (by kernel_rfl)) rfl rfl rfl rfl,
    .mt ⟨[(4, .sv (.one (.ptr 2 0)))], [.gone, .gone, .box [I k.fE0, I k.fE1] 102 false]⟩ [] none (by kernel_rfl) (by rfl) (mt_val (val_indexP (k := 0) 2 0 0 ht rfl Try.underlying102 (by rfl) (by rfl) (by rfl) (by rfl) (by decide) (by rfl))) rfl rfl rfl rfl,
    .mt ⟨[(9, .sv (.one (.ptr 2 0)))], [.gone, .gone, .box [I k.fE0, I k.fE1] 102 false]⟩ [] none (by kernel_rfl) (by rfl) (mt_ev ht (by kernel_rfl)) rfl rfl rfl rfl,
    .mt ⟨[(8, .sv (.one (LS (lsT intT) x.fNext))), (10, .sv (.one (I k.fE0)))], []⟩ [] none (by kernel_rfl) (by rfl) (mt_val (val_index (T := (lsT intT)) (l := x.fNext) (i := k.fE0) ht rfl (by rfl) (by rfl) (by rfl) (by rfl) (by rfl) (by rfl) he)) rfl rfl rfl rfl,
    .mt ⟨[(11, .sv (.one (.pe (svR (.one (LS intT e))) 1)))], []⟩ [] none (by kernel_rfl) (by rfl) (mt_val (val_load (s := .one (LS intT e)) ht rfl (by rfl) (by rfl) (by rfl) (by rfl) (by rfl))) rfl rfl rfl rfl,
    .mt ⟨[(1, .sv (.one (I a)))], []⟩ [] none (by kernel_rfl) (by rfl) (mt_ev ht (by kernel_rfl)) rfl rfl rfl rfl,
    .mt ⟨[(12, .sv (.one (LS intT e))), (13, .sv (.one (I a)))], []⟩ [] none (by kernel_rfl) (by rfl) (mt_val (val_index (T := intT) (l := e) (i := a) ht rfl (by rfl) (by rfl) (by rfl) (by rfl) (by rfl) (by rfl) he_2)) rfl rfl rfl rfl,
    .mt ⟨[(14, .sv (.one (.pe (svR (.one (I e_2))) 1)))], []⟩ [] none (by kernel_rfl) (by rfl) (mt_val (val_load (s := .one (I e_2)) ht rfl (by rfl) (by rfl) (by rfl) (by rfl) (by rfl))) rfl rfl rfl rfl,
    .mt ⟨[(3, .sv (.one (.ptr 1 0)))], []⟩ [] none (by kernel_rfl) (by rfl) (mt_ev ht (by kernel_rfl)) rfl rfl rfl rfl,
    .mt ⟨[(16, .sv (.one (.ptr 1 2)))], [.gone, .box [I y.fLetters, I y.fStart, LS (lsT intT) y.fNext, LS intT y.fMark] 25 true]⟩ [] none (by kernel_rfl) (by rfl) (mt_ev ht (by kernel_rfl)) rfl rfl rfl rfl,
    .mt ⟨[(4, .sv (.one (.ptr 2 0)))], [.gone, .gone, .box [I k.fE0, I k.fE1] 102 false]⟩ [] none (by kernel_rfl) (by rfl) (mt_val (val_indexP (k := 1) 2 0 1 ht rfl Try.underlying102 (by rfl) (by rfl) (by rfl) (by rfl) (by decide) (by rfl))) rfl rfl rfl rfl,
    .mt ⟨[(18, .sv (.one (.ptr 2 1)))], [.gone, .gone, .box [I k.fE0, I k.fE1] 102 false]⟩ [] none (by kernel_rfl) (by rfl) (mt_ev ht (by kernel_rfl)) rfl rfl rfl rfl,
    .mt ⟨[(17, .sv (.one (LS (lsT intT) y.fNext))), (19, .sv (.one (I k.fE1)))], []⟩ [] none (by kernel_rfl) (by rfl) (mt_val (val_index (T := (lsT intT)) (l := y.fNext) (i := k.fE1) ht rfl (by rfl) (by rfl) (by rfl) (by rfl) (by rfl) (by rfl) he_3)) rfl rfl rfl rfl,
    .mt ⟨[(20, .sv (.one (.pe (svR (.one (LS intT e_3))) 1)))], []⟩ [] none (by kernel_rfl) (by rfl) (mt_val (val_load (s := .one (LS intT e_3)) ht rfl (by rfl) (by rfl) (by rfl) (by rfl) (by rfl))) rfl rfl rfl rfl,
    .mt ⟨[(1, .sv (.one (I a)))], []⟩ [] none (by kernel_rfl) (by rfl) (mt_ev ht (by kernel_rfl)) rfl rfl rfl rfl,
    .mt ⟨[(21, .sv (.one (LS intT e_3))), (22, .sv (.one (I a)))], []⟩ [] none (by kernel_rfl) (by rfl) (mt_val (val_index (T := intT) (l := e_3) (i := a) ht rfl (by rfl) (by rfl) (by rfl) (by rfl) (by rfl) (by rfl) he_4)) rfl rfl rfl rfl,
    .mt ⟨[(23, .sv (.one (.pe (svR (.one (I e_4))) 1)))], []⟩ [] none (by kernel_rfl) (by rfl) (mt_val (val_load (s := .one (I e_4)) ht rfl (by rfl) (by rfl) (by rfl) (by rfl) (by rfl))) rfl rfl rfl rfl,
    .mt ⟨[(15, .sv (.one (I e_2))), (24, .sv (.one (I e_4)))], []⟩ [] none (by kernel_rfl) (by rfl) (mt_ev ht (by kernel_rfl)) rfl rfl rfl rfl,
    .mu ⟨[(6, .sv (.one (.ptr 3 0))), (25, .sv (.agg [I e_2, I e_4]))], [.gone, .gone, .gone, .box [I 0, I 0] 102 false]⟩ 3 _ _ rfl rfl (by kernel_rfl) (by rfl) (mu_store2 ht rfl (by rfl) (by rfl) (by rfl) (by rfl) (fun h => by cases h) (by rfl) (by rfl)) rfl rfl rfl rfl rfl rfl rfl,
    trivial⟩
  · refine En.ret ?_
    exact En.back ht (DetCouple.mk e_2 e_4) h (by kernel_rfl) rfl
theorem en53 : ∀ args w, (callFunc 53 args).run Try.prog w = .ok (.enter 53 args) w := enters_of Try.func53 (by kernel_rfl) rfl
def mixMark_vc (k : DetCouple) (t : Int) (x : ApiDet) (y : ApiDet) (Q : Int → Prop) : Prop :=
  ∃ e, idx x.fMark k.fE0 = some e ∧
  ∃ e_2, idx y.fMark k.fE1 = some e_2 ∧
  (0 ≤ (wr ((wr (2 * e)) + e_2))) ∧
  Q (bitsI .and .i64 (Int.fdiv t (2 ^ (min ((wr ((wr (2 * e)) + e_2))).toNat 64))) 1)
theorem mixMark_walk (k : DetCouple) (t : Int) (x : ApiDet) (y : ApiDet) (Q : Int → Prop) (h : mixMark_vc k t x y Q) : Ct 54 [.sv (.agg [I k.fE0, I k.fE1]), .sv (.one (.ptr 0 0)), .sv (.one (.ptr 1 0)), .sv (.one (.ptr 2 0))] [.box [I t] 3 true, .box [I x.fLetters, I x.fStart, LS (lsT intT) x.fNext, LS intT x.fMark] 25 true, .box [I y.fLetters, I y.fStart, LS (lsT intT) y.fNext, LS intT y.fMark] 25 true] Q (fun (r : Int) => .sv (.one (I r))) := by
  have ht := tab_ok
  refine Ct.body Try.func54 rfl rfl rfl rfl (fun c hn => ?_)
  unfold mixMark_vc at h
  refine En.seq ?_
  refine En.region ?_
  refine WL.run ht hn 2 ⟨[(1, .sv (.one (.ptr 0 0))), (2, .sv (.one (.ptr 1 0))), (3, .sv (.one (.ptr 2 0))), (4, .sv (.one (.ptr 3 0)))], [.box [I t] 3 true, .box [I x.fLetters, I x.fStart, LS (lsT intT) x.fNext, LS intT x.fMark] 25 true, .box [I y.fLetters, I y.fStart, LS (lsT intT) y.fNext, LS intT y.fMark] 25 true, .box [I k.fE0, I k.fE1] 102 false]⟩ (by kernel_rfl) ?_
  refine WL.nil ?_
  refine En.seq ?_
  refine En.regionS (by kernel_rfl) (by kernel_rfl) ?_
  refine SL.run ht hn 3 ⟨[(1, .sv (.one (.ptr 0 0))), (2, .sv (.one (.ptr 1 0))), (3, .sv (.one (.ptr 2 0))), (4, .sv (.one (.ptr 3 0))), (6, .sv (.one (I t))), (7, .sv (.one (.ptr 1 3))), (8, .sv (.one (LS intT x.fMark)))], [.box [I t] 3 true, .box [I x.fLetters, I x.fStart, LS (lsT intT) x.fNext, LS intT x.fMark] 25 true, .box [I y.fLetters, I y.fStart, LS (lsT intT) y.fNext, LS intT y.fMark] 25 true, .box [I k.fE0, I k.fE1] 102 false]⟩ (by kernel_rfl) ?_
  refine SL.val hn (by rfl) (val_indexP (k := 0) 3 0 0 ht rfl Try.underlying102 (by rfl) (by rfl) (by rfl) (by rfl) (by decide) (by rfl)) (by rfl) ?_
  refine SL.run ht hn 1 ⟨[(1, .sv (.one (.ptr 0 0))), (2, .sv (.one (.ptr 1 0))), (3, .sv (.one (.ptr 2 0))), (4, .sv (.one (.ptr 3 0))), (6, .sv (.one (I t))), (7, .sv (.one (.ptr 1 3))), (8, .sv (.one (LS intT x.fMark))), (9, .sv (.one (.ptr 3 0))), (10, .sv (.one (I k.fE0)))], [.box [I t] 3 true, .box [I x.fLetters, I x.fStart, LS (lsT intT) x.fNext, LS intT x.fMark] 25 true, .box [I y.fLetters, I y.fStart, LS (lsT intT) y.fNext, LS intT y.fMark] 25 true, .box [I k.fE0, I k.fE1] 102 false]⟩ (by kernel_rfl) ?_
  obtain ⟨e, he, h⟩ := h
  refine SL.val hn (by rfl) (val_index (T := intT) (l := x.fMark) (i := k.fE0) ht rfl (by rfl) (by rfl) (by rfl) (by rfl) (by rfl) (by rfl) he) (by rfl) ?_
  refine SL.val hn (by rfl) (val_load (s := .one (I e)) ht rfl (by rfl) (by rfl) (by rfl) (by rfl) (by rfl)) (by rfl) ?_
  refine SL.run ht hn 3 ⟨[(1, .sv (.one (.ptr 0 0))), (2, .sv (.one (.ptr 1 0))), (3, .sv (.one (.ptr 2 0))), (4, .sv (.one (.ptr 3 0))), (6, .sv (.one (I t))), (7, .sv (.one (.ptr 1 3))), (8, .sv (.one (LS intT x.fMark))), (9, .sv (.one (.ptr 3 0))), (10, .sv (.one (I k.fE0))), (11, .sv (.one (.pe (svR (.one (I e))) 1))), (12, .sv (.one (I e))), (13, .sv (.one (I (wr (2 * e))))), (14, .sv (.one (.ptr 2 3))), (15, .sv (.one (LS intT y.fMark)))], [.box [I t] 3 true, .box [I x.fLetters, I x.fStart, LS (lsT intT) x.fNext, LS intT x.fMark] 25 true, .box [I y.fLetters, I y.fStart, LS (lsT intT) y.fNext, LS intT y.fMark] 25 true, .box [I k.fE0, I k.fE1] 102 false]⟩ (by kernel_rfl) ?_
  refine SL.val hn (by rfl) (val_indexP (k := 1) 3 0 1 ht rfl Try.underlying102 (by rfl) (by rfl) (by rfl) (by rfl) (by decide) (by rfl)) (by rfl) ?_
  refine SL.run ht hn 1 ⟨[(1, .sv (.one (.ptr 0 0))), (2, .sv (.one (.ptr 1 0))), (3, .sv (.one (.ptr 2 0))), (4, .sv (.one (.ptr 3 0))), (6, .sv (.one (I t))), (7, .sv (.one (.ptr 1 3))), (8, .sv (.one (LS intT x.fMark))), (9, .sv (.one (.ptr 3 0))), (10, .sv (.one (I k.fE0))), (11, .sv (.one (.pe (svR (.one (I e))) 1))), (12, .sv (.one (I e))), (13, .sv (.one (I (wr (2 * e))))), (14, .sv (.one (.ptr 2 3))), (15, .sv (.one (LS intT y.fMark))), (16, .sv (.one (.ptr 3 1))), (17, .sv (.one (I k.fE1)))], [.box [I t] 3 true, .box [I x.fLetters, I x.fStart, LS (lsT intT) x.fNext, LS intT x.fMark] 25 true, .box [I y.fLetters, I y.fStart, LS (lsT intT) y.fNext, LS intT y.fMark] 25 true, .box [I k.fE0, I k.fE1] 102 false]⟩ (by kernel_rfl) ?_
  obtain ⟨e_2, he_2, h⟩ := h
  refine SL.val hn (by rfl) (val_index (T := intT) (l := y.fMark) (i := k.fE1) ht rfl (by rfl) (by rfl) (by rfl) (by rfl) (by rfl) (by rfl) he_2) (by rfl) ?_
  refine SL.val hn (by rfl) (val_load (s := .one (I e_2)) ht rfl (by rfl) (by rfl) (by rfl) (by rfl) (by rfl)) (by rfl) ?_
  refine SL.run ht hn 1 ⟨[(1, .sv (.one (.ptr 0 0))), (2, .sv (.one (.ptr 1 0))), (3, .sv (.one (.ptr 2 0))), (4, .sv (.one (.ptr 3 0))), (6, .sv (.one (I t))), (7, .sv (.one (.ptr 1 3))), (8, .sv (.one (LS intT x.fMark))), (9, .sv (.one (.ptr 3 0))), (10, .sv (.one (I k.fE0))), (11, .sv (.one (.pe (svR (.one (I e))) 1))), (12, .sv (.one (I e))), (13, .sv (.one (I (wr (2 * e))))), (14, .sv (.one (.ptr 2 3))), (15, .sv (.one (LS intT y.fMark))), (16, .sv (.one (.ptr 3 1))), (17, .sv (.one (I k.fE1))), (18, .sv (.one (.pe (svR (.one (I e_2))) 1))), (19, .sv (.one (I e_2))), (20, .sv (.one (I (wr ((wr (2 * e)) + e_2)))))], [.box [I t] 3 true, .box [I x.fLetters, I x.fStart, LS (lsT intT) x.fNext, LS intT x.fMark] 25 true, .box [I y.fLetters, I y.fStart, LS (lsT intT) y.fNext, LS intT y.fMark] 25 true, .box [I k.fE0, I k.fE1] 102 false]⟩ (by kernel_rfl) ?_
  have hz := h.1
  replace h := h.2
  refine SL.val hn (by rfl) (val_shift (u := t) (v := (wr ((wr (2 * e)) + e_2))) rfl (by rfl) (by rfl) hz (.inr ⟨rfl, rfl⟩)) (by rfl) ?_
  refine SL.run ht hn 2 ⟨[(1, .sv (.one (.ptr 0 0))), (2, .sv (.one (.ptr 1 0))), (3, .sv (.one (.ptr 2 0))), (4, .sv (.one (.ptr 3 0))), (5, .sv (.one (I (bitsI .and .i64 (Int.fdiv t (2 ^ (min ((wr ((wr (2 * e)) + e_2))).toNat 64))) 1)))), (6, .sv (.one (I t))), (7, .sv (.one (.ptr 1 3))), (8, .sv (.one (LS intT x.fMark))), (9, .sv (.one (.ptr 3 0))), (10, .sv (.one (I k.fE0))), (11, .sv (.one (.pe (svR (.one (I e))) 1))), (12, .sv (.one (I e))), (13, .sv (.one (I (wr (2 * e))))), (14, .sv (.one (.ptr 2 3))), (15, .sv (.one (LS intT y.fMark))), (16, .sv (.one (.ptr 3 1))), (17, .sv (.one (I k.fE1))), (18, .sv (.one (.pe (svR (.one (I e_2))) 1))), (19, .sv (.one (I e_2))), (20, .sv (.one (I (wr ((wr (2 * e)) + e_2))))), (21, .sv (.one (I (Int.fdiv t (2 ^ (min ((wr ((wr (2 * e)) + e_2))).toNat 64)))))), (22, .sv (.one (I (bitsI .and .i64 (Int.fdiv t (2 ^ (min ((wr ((wr (2 * e)) + e_2))).toNat 64))) 1))))], [.box [I t] 3 true, .box [I x.fLetters, I x.fStart, LS (lsT intT) x.fNext, LS intT x.fMark] 25 true, .box [I y.fLetters, I y.fStart, LS (lsT intT) y.fNext, LS intT y.fMark] 25 true, .box [I k.fE0, I k.fE1] 102 false]⟩ (by kernel_rfl) ?_
  refine SL.nil ⟨by kernel_rfl, ?_⟩
  refine En.ret ?_
  exact En.back ht (bitsI .and .i64 (Int.fdiv t (2 ^ (min ((wr ((wr (2 * e)) + e_2))).toNat 64))) 1) h (by kernel_rfl) rfl
theorem en54 : ∀ args w, (callFunc 54 args).run Try.prog w = .ok (.enter 54 args) w := enters_of Try.func54 (by kernel_rfl) rfl
theorem mixGo_ct (k : DetCouple) (a : Int) (x : ApiDet) (y : ApiDet) (hd : DetOk x ∧ DetOk y ∧ cplOk x y k ∧ 0 ≤ a ∧ a < x.fLetters ∧ x.fLetters = y.fLetters) : Ct 53 [.sv (.agg [I k.fE0, I k.fE1]), .sv (.one (I a)), .sv (.one (.ptr 0 0)), .sv (.one (.ptr 1 0))] [.box [I x.fLetters, I x.fStart, LS (lsT intT) x.fNext, LS intT x.fMark] 25 true, .box [I y.fLetters, I y.fStart, LS (lsT intT) y.fNext, LS intT y.fMark] 25 true] (fun (_ : Unit) => True) (fun _ => .sv (.agg [I (cplGo x y k a).fE0, I (cplGo x y k a).fE1])) := by
  refine (mixGo_walk k a x y (fun res_ => res_ = (cplGo x y k a)) ?_).fun
  obtain ⟨hx, hy, hk, ha0, ha1, hl⟩ := hd
  obtain ⟨r, h1, h2⟩ := step_cell hx hk.1 ⟨ha0, ha1⟩
  obtain ⟨s, h3, h4⟩ := step_cell hy hk.2 ⟨ha0, by omega⟩
  exact ⟨r, h1, _, h2, s, h3, _, h4, rfl⟩
theorem mixMark_ct (k : DetCouple) (t : Int) (x : ApiDet) (y : ApiDet) (hd : DetOk x ∧ DetOk y ∧ cplOk x y k) : Ct 54 [.sv (.agg [I k.fE0, I k.fE1]), .sv (.one (.ptr 0 0)), .sv (.one (.ptr 1 0)), .sv (.one (.ptr 2 0))] [.box [I t] 3 true, .box [I x.fLetters, I x.fStart, LS (lsT intT) x.fNext, LS intT x.fMark] 25 true, .box [I y.fLetters, I y.fStart, LS (lsT intT) y.fNext, LS intT y.fMark] 25 true] (fun (_ : Unit) => True) (fun _ => .sv (.one (I (cplMark t x y k)))) := by
  refine (mixMark_walk k t x y (fun res_ => res_ = (cplMark t x y k)) ?_).fun
  obtain ⟨hx, hy, hk⟩ := hd
  have h1 := hx.marks
  have h2 := hy.marks
  have e1 := idx_of (l := x.fMark) (i := k.fE0) 0 hk.1.1 (by rw [h1]; exact hk.1.2)
  have e2 := idx_of (l := y.fMark) (i := k.fE1) 0 hk.2.1 (by rw [h2]; exact hk.2.2)
  have m1 := hx.mark _ (getD_mem (l := x.fMark) (i := k.fE0.toNat) (z := 0) (by have := hk.1; omega))
  have m2 := hy.mark _ (getD_mem (l := y.fMark) (i := k.fE1.toNat) (z := 0) (by have := hk.2; omega))
  refine ⟨_, e1, _, e2, ?_, ?_⟩
  · rw [wr_in (n := 2 * _) (by omega) (by omega), wr_in (by omega) (by omega)]
    omega
  · rw [wr_in (n := 2 * _) (by omega) (by omega), wr_in (by omega) (by omega)]
    rfl
def mixLang (x y : ApiDet) (t : Int) : Lang := fun w => tabB t (langD x x.fStart.toNat w) (langD y y.fStart.toNat w)
noncomputable def mixR (x y : ApiDet) (t : Int) : ApiDet × Int :=
  if twoErr x y = 0 then (if 0 ≤ t ∧ t ≤ 15 then (if x.fNext.length * y.fNext.length ≤ 3000 then (canon x.fLetters.toNat (mixLang x y t), 0) else (⟨0, 0, [], []⟩, 7)) else (⟨0, 0, [], []⟩, 2)) else (⟨0, 0, [], []⟩, twoErr x y)
theorem twoErr_iff (x y : ApiDet) : twoErr x y = 0 ↔ DetOk x ∧ DetOk y ∧ x.fLetters = y.fLetters := by
  unfold twoErr
  rw [← detErr_iff, ← detErr_iff]
  constructor
  · intro h
    by_cases h1 : detErr x = 0
    · rw [if_pos h1] at h
      by_cases h2 : detErr y = 0
      · rw [if_pos h2] at h
        by_cases h3 : x.fLetters = y.fLetters
        · exact ⟨h1, h2, h3⟩
        · rw [if_neg h3] at h; cases h
      · rw [if_neg h2] at h; exact absurd h h2
    · rw [if_neg h1] at h; exact absurd h h1
  · rintro ⟨h1, h2, h3⟩
    rw [if_pos h1, if_pos h2, if_pos h3]
theorem tabB_01 {t m n : Int} (ht : 0 ≤ t ∧ t ≤ 15) (hm : m = 0 ∨ m = 1) (hn : n = 0 ∨ n = 1) : tabB t m n = if hasB t (2 * m + n) then 1 else 0 := btestI (by omega) (by omega)
theorem cpl_lang {x y : ApiDet} {t : Int} : ∀ (w : List Nat) (k : DetCouple), 0 ≤ k.fE0 → 0 ≤ k.fE1 → langK (fun k (a : Nat) => cplGo x y k (a : Int)) (cplMark t x y) k w = tabB t (langD x k.fE0.toNat w) (langD y k.fE1.toNat w)
  | [], k, _, _ => rfl
  | a :: w, k, h1, h2 => by
    show langK (fun k (a : Nat) => cplGo x y k (a : Int)) (cplMark t x y) (cplGo x y k (a : Int)) w = _
    rw [cpl_lang w _ (Int.natCast_nonneg _) (Int.natCast_nonneg _)]
    unfold cplGo
    simp only [Int.toNat_natCast]
    rfl
/-- all couples -/
def allCpl (n m : Nat) : List DetCouple := (List.range n).flatMap fun (p : Nat) => (List.range m).map fun (q : Nat) => ⟨(p : Int), (q : Int)⟩
theorem allCpl_len (n m : Nat) : (allCpl n m).length = n * m := by
  unfold allCpl
  rw [List.length_flatMap]
  have : (List.range n).map (fun (p : Nat) => ((List.range m).map fun (q : Nat) => (⟨(p : Int), (q : Int)⟩ : DetCouple)).length) = List.replicate n m := by
    rw [List.eq_replicate_iff]
    refine ⟨by simp, fun b hb => ?_⟩
    obtain ⟨p, _, rfl⟩ := List.mem_map.1 hb
    simp
  rw [this]
  simp
theorem allCpl_mem {x y : ApiDet} {k : DetCouple} : k ∈ allCpl x.fNext.length y.fNext.length ↔ cplOk x y k := by
  unfold allCpl cplOk
  rw [List.mem_flatMap]
  constructor
  · rintro ⟨p, hp, h⟩
    obtain ⟨q, hq, rfl⟩ := List.mem_map.1 h
    have := List.mem_range.1 hp
    have := List.mem_range.1 hq
    simp only
    omega
  · rintro ⟨⟨h1, h2⟩, h3, h4⟩
    refine ⟨k.fE0.toNat, List.mem_range.2 (by omega), List.mem_map.2 ⟨k.fE1.toNat, List.mem_range.2 (by omega), ?_⟩⟩
    rw [Int.toNat_of_nonneg h1, Int.toNat_of_nonneg h3]
def detMixed_vc (x : ApiDet) (y : ApiDet) (t : Int) (Q : (ApiDet × Int) → Prop) : Prop :=
  x.fNext.length ≤ 9223372036854775807 →
  x.fMark.length ≤ 9223372036854775807 →
  y.fNext.length ≤ 9223372036854775807 →
  y.fMark.length ≤ 9223372036854775807 →
  (IfP ((twoErr x y) != 0) (Q ((ApiDet.mk 0 0 [] []), (twoErr x y))) (IfP ((decide (t < 0)) || (decide (t > 15))) (Q ((ApiDet.mk 0 0 [] []), 2)) (IfP (decide ((wr ((x.fNext.length : Int) * (y.fNext.length : Int))) > 3000)) (Q ((ApiDet.mk 0 0 [] []), 7)) ((ExplPre x.fLetters (DetCouple.mk x.fStart y.fStart) (fun (z : DetCouple × Int) => DetOk x ∧ DetOk y ∧ cplOk x y z.1 ∧ 0 ≤ z.2 ∧ z.2 < (x).fLetters ∧ (x).fLetters = (y).fLetters) (fun (z : DetCouple × Int) => cplGo x y z.1 z.2) (fun k => DetOk x ∧ DetOk y ∧ cplOk x y k) 3001) ∧
  (ClsOk (explR (fun k (a : Nat) => (fun (z : DetCouple × Int) => cplGo x y z.1 z.2) (k, (a : Int))) (cplMark t x y) (x.fLetters).toNat (DetCouple.mk x.fStart y.fStart) 3001).1) ∧
  Q ((canon ((explR (fun k (a : Nat) => (fun (z : DetCouple × Int) => cplGo x y z.1 z.2) (k, (a : Int))) (cplMark t x y) (x.fLetters).toNat (DetCouple.mk x.fStart y.fStart) 3001).1).fLetters.toNat (langD (explR (fun k (a : Nat) => (fun (z : DetCouple × Int) => cplGo x y z.1 z.2) (k, (a : Int))) (cplMark t x y) (x.fLetters).toNat (DetCouple.mk x.fStart y.fStart) 3001).1 ((explR (fun k (a : Nat) => (fun (z : DetCouple × Int) => cplGo x y z.1 z.2) (k, (a : Int))) (cplMark t x y) (x.fLetters).toNat (DetCouple.mk x.fStart y.fStart) 3001).1).fStart.toNat)), 0)))))
theorem detMixed_walk (x : ApiDet) (y : ApiDet) (t : Int) (Q : (ApiDet × Int) → Prop) (h : detMixed_vc x y t Q) : Ct 18 [.sv (.agg [I x.fLetters, I x.fStart, LS (lsT intT) x.fNext, LS intT x.fMark]), .sv (.agg [I y.fLetters, I y.fStart, LS (lsT intT) y.fNext, LS intT y.fMark]), .sv (.one (I t))] [] Q (fun (r : (ApiDet × Int)) => .tup [.agg [I r.1.fLetters, I r.1.fStart, LS (lsT intT) r.1.fNext, LS intT r.1.fMark], .one (I r.2)]) := by
  have ht := tab_ok
  refine Ct.body Try.func18 rfl rfl rfl rfl (fun c hn => ?_)
  unfold detMixed_vc at h
  refine En.lenA 0 2 (by rfl) (by rfl) (fun hl => ?_)
  replace h := h hl
  clear hl
  refine En.lenA 0 3 (by rfl) (by rfl) (fun hl => ?_)
  replace h := h hl
  clear hl
  refine En.lenA 1 2 (by rfl) (by rfl) (fun hl => ?_)
  replace h := h hl
  clear hl
  refine En.lenA 1 3 (by rfl) (by rfl) (fun hl => ?_)
  replace h := h hl
  clear hl
  refine En.seq ?_
  refine En.region ?_
  refine WL.run ht hn 5 ⟨[(3, .sv (.one (.ptr 0 0))), (4, .sv (.one (.ptr 1 0))), (5, .sv (.one (.ptr 2 0))), (6, .sv (.one (.ptr 3 0)))], [.box [I x.fLetters, I x.fStart, LS (lsT intT) x.fNext, LS intT x.fMark] 25 false, .box [I y.fLetters, I y.fStart, LS (lsT intT) y.fNext, LS intT y.fMark] 25 false, .box [I t] 3 false, .box [I 0, I 0, .v (.slice none 0 0), .v (.slice none 0 0)] 25 false]⟩ (by kernel_rfl) ?_
  refine WL.nil ?_
  refine En.seq ?_
  refine En.seq ?_
  refine En.region ?_
  refine WL.run ht hn 2 ⟨[(3, .sv (.one (.ptr 0 0))), (4, .sv (.one (.ptr 1 0))), (5, .sv (.one (.ptr 2 0))), (6, .sv (.one (.ptr 3 0))), (11, .sv (.agg [I x.fLetters, I x.fStart, LS (lsT intT) x.fNext, LS intT x.fMark])), (12, .sv (.agg [I y.fLetters, I y.fStart, LS (lsT intT) y.fNext, LS intT y.fMark]))], [.box [I x.fLetters, I x.fStart, LS (lsT intT) x.fNext, LS intT x.fMark] 25 false, .box [I y.fLetters, I y.fStart, LS (lsT intT) y.fNext, LS intT y.fMark] 25 false, .box [I t] 3 false, .box [I 0, I 0, .v (.slice none 0 0), .v (.slice none 0 0)] 25 false]⟩ (by kernel_rfl) ?_
  refine WL.mt0 (K := []) (p := none) hn (by rfl) (mt_call (detTwo_ct x y) en51 (caps := []) [] rfl (by rfl) (by kernel_rfl) (by kernel_rfl) (by rfl) (by rfl) (by rfl)) (by rfl) (by rfl) (by rfl) ?_
  refine WL.run ht hn 1 ⟨[(3, .sv (.one (.ptr 0 0))), (4, .sv (.one (.ptr 1 0))), (5, .sv (.one (.ptr 2 0))), (6, .sv (.one (.ptr 3 0))), (8, .sv (.one (I (twoErr x y))))], [.box [I x.fLetters, I x.fStart, LS (lsT intT) x.fNext, LS intT x.fMark] 25 false, .box [I y.fLetters, I y.fStart, LS (lsT intT) y.fNext, LS intT y.fMark] 25 false, .box [I t] 3 false, .box [I 0, I 0, .v (.slice none 0 0), .v (.slice none 0 0)] 25 false]⟩ (by kernel_rfl) ?_
  refine WL.nil ?_
  refine En.seq ?_
  refine En.region ?_
  refine WL.run ht hn 2 ⟨[(3, .sv (.one (.ptr 0 0))), (4, .sv (.one (.ptr 1 0))), (5, .sv (.one (.ptr 2 0))), (6, .sv (.one (.ptr 3 0))), (8, .sv (.one (I (twoErr x y)))), (15, .sv (.one (B ((twoErr x y) != 0))))], [.box [I x.fLetters, I x.fStart, LS (lsT intT) x.fNext, LS intT x.fMark] 25 false, .box [I y.fLetters, I y.fStart, LS (lsT intT) y.fNext, LS intT y.fMark] 25 false, .box [I t] 3 false, .box [I 0, I 0, .v (.slice none 0 0), .v (.slice none 0 0)] 25 false]⟩ (by kernel_rfl) ?_
  refine WL.nil ?_
  refine En.cond (b := ((twoErr x y) != 0)) (by kernel_rfl) (fun hb => ?_) (fun hb => ?_)
  · replace h := h.1 hb
    refine En.seq ?_
    refine En.region ?_
    refine WL.run ht hn 4 ⟨[(6, .sv (.one (.ptr 3 0))), (7, .sv (.one (I (twoErr x y))))], [.gone, .gone, .gone, .box [I 0, I 0, .v (.slice none 0 0), .v (.slice none 0 0)] 25 false]⟩ (by kernel_rfl) ?_
    refine WL.nil ?_
    refine En.ret ?_
    refine En.nilBox (T := (lsT intT)) 3 2 (by rfl) (by rfl) ?_
    refine En.nilBox (T := intT) 3 3 (by rfl) (by rfl) ?_
    exact En.back ht ((ApiDet.mk 0 0 [] []), (twoErr x y)) h (by kernel_rfl) rfl
  · replace h := h.2 hb
    refine En.skip ?_
    refine En.seq ?_
    refine En.seq ?_
    refine En.region ?_
    refine WL.run ht hn 3 ⟨[(3, .sv (.one (.ptr 0 0))), (4, .sv (.one (.ptr 1 0))), (5, .sv (.one (.ptr 2 0))), (6, .sv (.one (.ptr 3 0))), (20, .sv (.one (B (decide (t < 0)))))], [.box [I x.fLetters, I x.fStart, LS (lsT intT) x.fNext, LS intT x.fMark] 25 false, .box [I y.fLetters, I y.fStart, LS (lsT intT) y.fNext, LS intT y.fMark] 25 false, .box [I t] 3 false, .box [I 0, I 0, .v (.slice none 0 0), .v (.slice none 0 0)] 25 false]⟩ (by kernel_rfl) ?_
    refine WL.thru ⟨[(3, .sv (.one (.ptr 0 0))), (4, .sv (.one (.ptr 1 0))), (5, .sv (.one (.ptr 2 0))), (6, .sv (.one (.ptr 3 0))), (23, .sv (.one (B ((decide (t < 0)) || (decide (t > 15))))))], [.box [I x.fLetters, I x.fStart, LS (lsT intT) x.fNext, LS intT x.fMark] 25 false, .box [I y.fLetters, I y.fStart, LS (lsT intT) y.fNext, LS intT y.fMark] 25 false, .box [I t] 3 false, .box [I 0, I 0, .v (.slice none 0 0), .v (.slice none 0 0)] 25 false]⟩ ?_ ?_
    · refine splitB (decide (t < 0)) (fun hb0 => ?_) (fun hb0 => ?_)
      · refine WL.setB 20 hb0 (by kernel_rfl) ?_
        refine WL.run ht hn 3 ⟨[(3, .sv (.one (.ptr 0 0))), (4, .sv (.one (.ptr 1 0))), (5, .sv (.one (.ptr 2 0))), (6, .sv (.one (.ptr 3 0))), (23, .sv (.one (B true)))], [.box [I x.fLetters, I x.fStart, LS (lsT intT) x.fNext, LS intT x.fMark] 25 false, .box [I y.fLetters, I y.fStart, LS (lsT intT) y.fNext, LS intT y.fMark] 25 false, .box [I t] 3 false, .box [I 0, I 0, .v (.slice none 0 0), .v (.slice none 0 0)] 25 false]⟩ (by kernel_rfl) ?_
        exact WL.nil (sub_ok (by simp only [hb0]; kernel_rfl))
      · refine WL.setB 20 hb0 (by kernel_rfl) ?_
        refine WL.run ht hn 3 ⟨[(3, .sv (.one (.ptr 0 0))), (4, .sv (.one (.ptr 1 0))), (5, .sv (.one (.ptr 2 0))), (6, .sv (.one (.ptr 3 0))), (23, .sv (.one (B (decide (t > 15)))))], [.box [I x.fLetters, I x.fStart, LS (lsT intT) x.fNext, LS intT x.fMark] 25 false, .box [I y.fLetters, I y.fStart, LS (lsT intT) y.fNext, LS intT y.fMark] 25 false, .box [I t] 3 false, .box [I 0, I 0, .v (.slice none 0 0), .v (.slice none 0 0)] 25 false]⟩ (by kernel_rfl) ?_
        exact WL.nil (sub_ok (by simp only [hb0]; kernel_rfl))
    · refine En.cond (b := ((decide (t < 0)) || (decide (t > 15)))) (by kernel_rfl) (fun hb => ?_) (fun hb => ?_)
      · replace h := h.1 hb
        refine En.seq ?_
        refine En.region ?_
        refine WL.run ht hn 3 ⟨[(6, .sv (.one (.ptr 3 0))), (7, .sv (.one (I 2)))], [.gone, .gone, .gone, .box [I 0, I 0, .v (.slice none 0 0), .v (.slice none 0 0)] 25 false]⟩ (by kernel_rfl) ?_
        refine WL.nil ?_
        refine En.ret ?_
        refine En.nilBox (T := (lsT intT)) 3 2 (by rfl) (by rfl) ?_
        refine En.nilBox (T := intT) 3 3 (by rfl) (by rfl) ?_
        exact En.back ht ((ApiDet.mk 0 0 [] []), 2) h (by kernel_rfl) rfl
      · replace h := h.2 hb
        refine En.skip ?_
        refine En.seq ?_
        refine En.seq ?_
        refine En.region ?_
        refine WL.run ht hn 8 ⟨[(3, .sv (.one (.ptr 0 0))), (4, .sv (.one (.ptr 1 0))), (5, .sv (.one (.ptr 2 0))), (6, .sv (.one (.ptr 3 0))), (32, .sv (.one (B (decide ((wr ((x.fNext.length : Int) * (y.fNext.length : Int))) > 3000)))))], [.box [I x.fLetters, I x.fStart, LS (lsT intT) x.fNext, LS intT x.fMark] 25 false, .box [I y.fLetters, I y.fStart, LS (lsT intT) y.fNext, LS intT y.fMark] 25 false, .box [I t] 3 false, .box [I 0, I 0, .v (.slice none 0 0), .v (.slice none 0 0)] 25 false]⟩ (by kernel_rfl) ?_
        refine WL.nil ?_
        refine En.cond (b := (decide ((wr ((x.fNext.length : Int) * (y.fNext.length : Int))) > 3000))) (by kernel_rfl) (fun hb => ?_) (fun hb => ?_)
        · replace h := h.1 hb
          refine En.seq ?_
          refine En.region ?_
          refine WL.run ht hn 3 ⟨[(6, .sv (.one (.ptr 3 0))), (7, .sv (.one (I 7)))], [.gone, .gone, .gone, .box [I 0, I 0, .v (.slice none 0 0), .v (.slice none 0 0)] 25 false]⟩ (by kernel_rfl) ?_
          refine WL.nil ?_
          refine En.ret ?_
          refine En.nilBox (T := (lsT intT)) 3 2 (by rfl) (by rfl) ?_
          refine En.nilBox (T := intT) 3 3 (by rfl) (by rfl) ?_
          exact En.back ht ((ApiDet.mk 0 0 [] []), 7) h (by kernel_rfl) rfl
        · replace h := h.2 hb
          refine En.skip ?_
          refine En.seq ?_
          refine En.region ?_
          refine WL.run ht hn 9 ⟨[(6, .sv (.one (.ptr 3 0))), (36, .sv (.one (I x.fLetters))), (41, .sv (.agg [I x.fStart, I y.fStart])), (42, .sv (.one (.fn 53 [0, 1]))), (43, .sv (.one (.fn 54 [2, 0, 1])))], [.box [I x.fLetters, I x.fStart, LS (lsT intT) x.fNext, LS intT x.fMark] 25 false, .box [I y.fLetters, I y.fStart, LS (lsT intT) y.fNext, LS intT y.fMark] 25 false, .box [I t] 3 false, .box [I 0, I 0, .v (.slice none 0 0), .v (.slice none 0 0)] 25 false]⟩ (by kernel_rfl) ?_
          refine WL.freeze [0, 1] (by rfl) ?_
          refine WL.ghost 42 (.sv (.one (.rd (fvR (fun (x_ : (DetCouple × Int)) => [.sv (.agg [I x_.1.fE0, I x_.1.fE1]), .sv (.one (I x_.2))]) (fun (r : DetCouple) => .sv (.agg [I r.fE0, I r.fE1])) (fun (z : DetCouple × Int) => DetOk x ∧ DetOk y ∧ cplOk x y z.1 ∧ 0 ≤ z.2 ∧ z.2 < (x).fLetters ∧ (x).fLetters = (y).fLetters) (fun (z : DetCouple × Int) => cplGo x y z.1 z.2))))) (by rfl) (fv_of (M := [.box [I x.fLetters, I x.fStart, LS (lsT intT) x.fNext, LS intT x.fMark] 25 true, .box [I y.fLetters, I y.fStart, LS (lsT intT) y.fNext, LS intT y.fMark] 25 true]) (caps := [0, 1]) (fun x_ hx => mixGo_ct x_.1 x_.2 x y hx) en53 rfl (by kernel_rfl) (by rfl) (fun _ => rfl)) ?_
          refine WL.freeze [2] (by rfl) ?_
          refine WL.ghost 43 (.sv (.one (.rd (fvR (fun (x_ : DetCouple) => [.sv (.agg [I x_.fE0, I x_.fE1])]) (fun (r : Int) => .sv (.one (I r))) (fun k => DetOk x ∧ DetOk y ∧ cplOk x y k) (cplMark t x y))))) (by rfl) (fv_of (M := [.box [I t] 3 true, .box [I x.fLetters, I x.fStart, LS (lsT intT) x.fNext, LS intT x.fMark] 25 true, .box [I y.fLetters, I y.fStart, LS (lsT intT) y.fNext, LS intT y.fMark] 25 true]) (caps := [2, 0, 1]) (fun x_ hx => mixMark_ct x_ t x y hx) en54 rfl (by kernel_rfl) (by rfl) (fun _ => rfl)) ?_
          have hp := h.1
          replace h := h.2
          refine WL.mt0 (K := []) (p := none) hn (by rfl) (mt_call (exploreDetCouple_ct x.fLetters (DetCouple.mk x.fStart y.fStart) (fun (z : DetCouple × Int) => DetOk x ∧ DetOk y ∧ cplOk x y z.1 ∧ 0 ≤ z.2 ∧ z.2 < (x).fLetters ∧ (x).fLetters = (y).fLetters) (fun (z : DetCouple × Int) => cplGo x y z.1 z.2) (fun k => DetOk x ∧ DetOk y ∧ cplOk x y k) (cplMark t x y) 3001 hp) en52 (caps := []) [] rfl (by rfl) (by kernel_rfl) (by kernel_rfl) (by rfl) (by rfl) (by rfl)) (by rfl) (by rfl) (by rfl) ?_
          refine WL.run ht hn 6 ⟨[(6, .sv (.one (.ptr 3 0))), (9, .sv (.one (.ptr 4 0)))], [.gone, .gone, .gone, .box [I 0, I 0, .v (.slice none 0 0), .v (.slice none 0 0)] 25 false, .box [I (explR (fun k (a : Nat) => (fun (z : DetCouple × Int) => cplGo x y z.1 z.2) (k, (a : Int))) (cplMark t x y) (x.fLetters).toNat (DetCouple.mk x.fStart y.fStart) 3001).1.fLetters, I (explR (fun k (a : Nat) => (fun (z : DetCouple × Int) => cplGo x y z.1 z.2) (k, (a : Int))) (cplMark t x y) (x.fLetters).toNat (DetCouple.mk x.fStart y.fStart) 3001).1.fStart, LS (lsT intT) (explR (fun k (a : Nat) => (fun (z : DetCouple × Int) => cplGo x y z.1 z.2) (k, (a : Int))) (cplMark t x y) (x.fLetters).toNat (DetCouple.mk x.fStart y.fStart) 3001).1.fNext, LS intT (explR (fun k (a : Nat) => (fun (z : DetCouple × Int) => cplGo x y z.1 z.2) (k, (a : Int))) (cplMark t x y) (x.fLetters).toNat (DetCouple.mk x.fStart y.fStart) 3001).1.fMark] 25 false]⟩ (by kernel_rfl) ?_
          refine WL.nil ?_
          refine En.seq ?_
          refine En.region ?_
          refine WL.run ht hn 1 ⟨[(6, .sv (.one (.ptr 3 0))), (47, .sv (.agg [I (explR (fun k (a : Nat) => (fun (z : DetCouple × Int) => cplGo x y z.1 z.2) (k, (a : Int))) (cplMark t x y) (x.fLetters).toNat (DetCouple.mk x.fStart y.fStart) 3001).1.fLetters, I (explR (fun k (a : Nat) => (fun (z : DetCouple × Int) => cplGo x y z.1 z.2) (k, (a : Int))) (cplMark t x y) (x.fLetters).toNat (DetCouple.mk x.fStart y.fStart) 3001).1.fStart, LS (lsT intT) (explR (fun k (a : Nat) => (fun (z : DetCouple × Int) => cplGo x y z.1 z.2) (k, (a : Int))) (cplMark t x y) (x.fLetters).toNat (DetCouple.mk x.fStart y.fStart) 3001).1.fNext, LS intT (explR (fun k (a : Nat) => (fun (z : DetCouple × Int) => cplGo x y z.1 z.2) (k, (a : Int))) (cplMark t x y) (x.fLetters).toNat (DetCouple.mk x.fStart y.fStart) 3001).1.fMark]))], [.gone, .gone, .gone, .box [I 0, I 0, .v (.slice none 0 0), .v (.slice none 0 0)] 25 false, .gone]⟩ (by kernel_rfl) ?_
          have hp := h.1
          replace h := h.2
          refine WL.mt0 (K := []) (p := none) hn (by rfl) (mt_call (smallest_ct (explR (fun k (a : Nat) => (fun (z : DetCouple × Int) => cplGo x y z.1 z.2) (k, (a : Int))) (cplMark t x y) (x.fLetters).toNat (DetCouple.mk x.fStart y.fStart) 3001).1 hp) en45 (caps := []) [] rfl (by rfl) (by kernel_rfl) (by kernel_rfl) (by rfl) (by rfl) (by rfl)) (by rfl) (by rfl) (by rfl) ?_
          refine WL.run ht hn 2 ⟨[(6, .sv (.one (.ptr 3 0))), (7, .sv (.one (I 0)))], [.gone, .gone, .gone, .box [I (canon ((explR (fun k (a : Nat) => (fun (z : DetCouple × Int) => cplGo x y z.1 z.2) (k, (a : Int))) (cplMark t x y) (x.fLetters).toNat (DetCouple.mk x.fStart y.fStart) 3001).1).fLetters.toNat (langD (explR (fun k (a : Nat) => (fun (z : DetCouple × Int) => cplGo x y z.1 z.2) (k, (a : Int))) (cplMark t x y) (x.fLetters).toNat (DetCouple.mk x.fStart y.fStart) 3001).1 ((explR (fun k (a : Nat) => (fun (z : DetCouple × Int) => cplGo x y z.1 z.2) (k, (a : Int))) (cplMark t x y) (x.fLetters).toNat (DetCouple.mk x.fStart y.fStart) 3001).1).fStart.toNat)).fLetters, I (canon ((explR (fun k (a : Nat) => (fun (z : DetCouple × Int) => cplGo x y z.1 z.2) (k, (a : Int))) (cplMark t x y) (x.fLetters).toNat (DetCouple.mk x.fStart y.fStart) 3001).1).fLetters.toNat (langD (explR (fun k (a : Nat) => (fun (z : DetCouple × Int) => cplGo x y z.1 z.2) (k, (a : Int))) (cplMark t x y) (x.fLetters).toNat (DetCouple.mk x.fStart y.fStart) 3001).1 ((explR (fun k (a : Nat) => (fun (z : DetCouple × Int) => cplGo x y z.1 z.2) (k, (a : Int))) (cplMark t x y) (x.fLetters).toNat (DetCouple.mk x.fStart y.fStart) 3001).1).fStart.toNat)).fStart, LS (lsT intT) (canon ((explR (fun k (a : Nat) => (fun (z : DetCouple × Int) => cplGo x y z.1 z.2) (k, (a : Int))) (cplMark t x y) (x.fLetters).toNat (DetCouple.mk x.fStart y.fStart) 3001).1).fLetters.toNat (langD (explR (fun k (a : Nat) => (fun (z : DetCouple × Int) => cplGo x y z.1 z.2) (k, (a : Int))) (cplMark t x y) (x.fLetters).toNat (DetCouple.mk x.fStart y.fStart) 3001).1 ((explR (fun k (a : Nat) => (fun (z : DetCouple × Int) => cplGo x y z.1 z.2) (k, (a : Int))) (cplMark t x y) (x.fLetters).toNat (DetCouple.mk x.fStart y.fStart) 3001).1).fStart.toNat)).fNext, LS intT (canon ((explR (fun k (a : Nat) => (fun (z : DetCouple × Int) => cplGo x y z.1 z.2) (k, (a : Int))) (cplMark t x y) (x.fLetters).toNat (DetCouple.mk x.fStart y.fStart) 3001).1).fLetters.toNat (langD (explR (fun k (a : Nat) => (fun (z : DetCouple × Int) => cplGo x y z.1 z.2) (k, (a : Int))) (cplMark t x y) (x.fLetters).toNat (DetCouple.mk x.fStart y.fStart) 3001).1 ((explR (fun k (a : Nat) => (fun (z : DetCouple × Int) => cplGo x y z.1 z.2) (k, (a : Int))) (cplMark t x y) (x.fLetters).toNat (DetCouple.mk x.fStart y.fStart) 3001).1).fStart.toNat)).fMark] 25 false, .gone]⟩ (by kernel_rfl) ?_
          refine WL.nil ?_
          refine En.ret ?_
          exact En.back ht ((canon ((explR (fun k (a : Nat) => (fun (z : DetCouple × Int) => cplGo x y z.1 z.2) (k, (a : Int))) (cplMark t x y) (x.fLetters).toNat (DetCouple.mk x.fStart y.fStart) 3001).1).fLetters.toNat (langD (explR (fun k (a : Nat) => (fun (z : DetCouple × Int) => cplGo x y z.1 z.2) (k, (a : Int))) (cplMark t x y) (x.fLetters).toNat (DetCouple.mk x.fStart y.fStart) 3001).1 ((explR (fun k (a : Nat) => (fun (z : DetCouple × Int) => cplGo x y z.1 z.2) (k, (a : Int))) (cplMark t x y) (x.fLetters).toNat (DetCouple.mk x.fStart y.fStart) 3001).1).fStart.toNat)), 0) h (by kernel_rfl) rfl
theorem en18 : ∀ args w, (callFunc 18 args).run Try.prog w = .ok (.enter 18 args) w := enters_of Try.func18 (by kernel_rfl) rfl
theorem detMixed_ct (x : ApiDet) (y : ApiDet) (t : Int)  : Ct 18 [.sv (.agg [I x.fLetters, I x.fStart, LS (lsT intT) x.fNext, LS intT x.fMark]), .sv (.agg [I y.fLetters, I y.fStart, LS (lsT intT) y.fNext, LS intT y.fMark]), .sv (.one (I t))] [] (fun (_ : Unit) => True) (fun _ => .tup [.agg [I (mixR x y t).1.fLetters, I (mixR x y t).1.fStart, LS (lsT intT) (mixR x y t).1.fNext, LS intT (mixR x y t).1.fMark], .one (I (mixR x y t).2)]) := by
  refine (detMixed_walk x y t (fun res_ => res_ = (mixR x y t)) ?_).fun
  intro _ _ _ _
  refine ⟨fun h => ?_, fun h => ?_⟩
  · show _ = mixR x y t
    unfold mixR
    rw [if_neg (by simpa using h)]
  have h0 : twoErr x y = 0 := by simpa using h
  obtain ⟨hx, hy, hl⟩ := (twoErr_iff x y).1 h0
  have hlet := hx.letters
  have hxs := hx.size
  have hys := hy.size
  refine ⟨fun ht => ?_, fun ht => ?_⟩
  · show _ = mixR x y t
    unfold mixR
    rw [if_pos h0, if_neg (by simp only [Bool.or_eq_true, decide_eq_true_eq] at ht; omega)]
  have ht : 0 ≤ t ∧ t ≤ 15 := by simp only [Bool.or_eq_false_iff, decide_eq_false_iff_not] at ht; omega
  have hmul : x.fNext.length * y.fNext.length ≤ 3000 * 3000 := Nat.mul_le_mul hxs.2 hys.2
  have hcast : (x.fNext.length : Int) * (y.fNext.length : Int) = ((x.fNext.length * y.fNext.length : Nat) : Int) := by simp
  rw [hcast, wr_in (by omega) (by omega)]
  refine ⟨fun hb => ?_, fun hb => ?_⟩
  · show _ = mixR x y t
    unfold mixR
    rw [if_pos h0, if_pos ht, if_neg (by have := of_decide_eq_true hb; omega)]
  have hb : x.fNext.length * y.fNext.length ≤ 3000 := by have := of_decide_eq_false hb; omega
  have h1 : (⟨x.fStart, y.fStart⟩ : DetCouple) ∈ allCpl x.fNext.length y.fNext.length := allCpl_mem.2 ⟨hx.start, hy.start⟩
  have hP : ∀ k a, k ∈ allCpl x.fNext.length y.fNext.length → a < x.fLetters.toNat → cplGo x y k ((a : Nat) : Int) ∈ allCpl x.fNext.length y.fNext.length := fun k a hk _ => by
    have hk := allCpl_mem.1 hk
    refine allCpl_mem.2 ⟨?_, ?_⟩
    · have := step_in hx hk.1 a
      unfold cplGo
      simpa using this
    · have := step_in hy hk.2 a
      unfold cplGo
      simpa using this
  refine ⟨⟨⟨by omega, by omega⟩, by decide, cplOk x y, ⟨hx.start, hy.start⟩, fun k a hk ha => ⟨⟨hx, hy, hk, by omega, ha, hl⟩, allCpl_mem.1 (hP k a (allCpl_mem.2 hk) (by omega))⟩, fun k hk => ⟨hx, hy, hk⟩⟩, ?_⟩
  have key : ∀ E : ApiDet × Bool, E = (explD (fun k (a : Nat) => cplGo x y k (a : Int)) (cplMark t x y) x.fLetters.toNat ⟨x.fStart, y.fStart⟩, true) → (ClsOk E.1 ∧ ((canon (E.1).fLetters.toNat (langD E.1 (E.1).fStart.toNat)), (0 : Int)) = mixR x y t) := by
    rintro E rfl
    have hwf : Wf (explD (fun k (a : Nat) => cplGo x y k (a : Int)) (cplMark t x y) x.fLetters.toNat ⟨x.fStart, y.fStart⟩) := explD_wf h1 hP
    have hcount := explD_count (mark := cplMark t x y) h1 hP
    rw [allCpl_len] at hcount
    refine ⟨⟨hwf, Nat.le_trans hcount (by omega), ?_, ?_⟩, ?_⟩
    · show ((x.fLetters.toNat : Nat) : Int) ≤ 1000
      omega
    · refine explD_marks h1 hP fun k hk => ?_
      have hk := allCpl_mem.1 hk
      have m1 := hx.mark _ (getD_mem (l := x.fMark) (i := k.fE0.toNat) (z := 0) (by have := hk.1; have := hx.marks; omega))
      have m2 := hy.mark _ (getD_mem (l := y.fMark) (i := k.fE1.toNat) (z := 0) (by have := hk.2; have := hy.marks; omega))
      unfold cplMark
      rw [tabB_01 ht m1 m2]
      split <;> decide
    · unfold mixR
      rw [if_pos h0, if_pos ht, if_pos hb]
      congr 1
      exact canon_congr fun w hw => (explD_lang h1 hP hw).trans (cpl_lang w _ hx.start.1 hy.start.1)
  exact key _ (explR_ends h1 hP (by rw [allCpl_len]; omega))
end Go.Proofs.Ytiinkohfldopbaa

/- Sets of states as bits: what is to be known of them for words within words. No condition. -/
namespace Go.Proofs.Ytiinkohfldopbaa
open Go.RowKit Go.MapKept
set_option linter.unusedSimpArgs false
set_option linter.unusedVariables false
set_option maxRecDepth 100000
set_option linter.unusedSectionVars false

def setN (n : Nat) (s : Int) : Prop := 0 ≤ s ∧ s < 2 ^ n
theorem setN_zero (n : Nat) : setN n 0 := ⟨by decide, by have := Nat.two_pow_pos n; exact_mod_cast this⟩
theorem setN_mask (f : Nat → Bool) (n : Nat) : setN n (maskOf f n : Int) := ⟨by omega, by exact_mod_cast maskOf_lt f n⟩
theorem setN_lt {n : Nat} {s : Int} (h : setN n s) {p : Nat} (hp : hasB s (p : Int) = true) : p < n := by
  obtain ⟨a, rfl⟩ := Int.eq_ofNat_of_zero_le h.1
  have ha : a < 2 ^ n := by exact_mod_cast h.2
  unfold hasB at hp
  rw [Int.toNat_natCast, Int.toNat_natCast] at hp
  refine Decidable.byContradiction fun hn => ?_
  have : a.testBit p = false := Nat.testBit_lt_two_pow (Nat.lt_of_lt_of_le ha (Nat.pow_le_pow_right (by decide) (by omega)))
  rw [hp] at this
  cases this
theorem set_ext {s t : Int} (hs : 0 ≤ s) (ht : 0 ≤ t) (h : ∀ p : Nat, hasB s (p : Int) = true ↔ hasB t (p : Int) = true) : s = t := by
  obtain ⟨a, rfl⟩ := Int.eq_ofNat_of_zero_le hs
  obtain ⟨b, rfl⟩ := Int.eq_ofNat_of_zero_le ht
  congr 1
  refine Nat.eq_of_testBit_eq fun i => ?_
  have := h i
  unfold hasB at this
  simp only [Int.toNat_natCast] at this
  cases ha : a.testBit i <;> cases hb : b.testBit i <;> simp [ha, hb] at this ⊢
theorem set_le {s t : Int} (hs : 0 ≤ s) (ht : 0 ≤ t) (h : ∀ p : Nat, hasB s (p : Int) = true → hasB t (p : Int) = true) : s ≤ t := by
  obtain ⟨a, rfl⟩ := Int.eq_ofNat_of_zero_le hs
  obtain ⟨b, rfl⟩ := Int.eq_ofNat_of_zero_le ht
  have : a ||| b = b := by
    refine Nat.eq_of_testBit_eq fun i => ?_
    have := h i
    unfold hasB at this
    simp only [Int.toNat_natCast] at this
    rw [Nat.testBit_or]
    cases ha : a.testBit i <;> cases hb : b.testBit i <;> simp [ha, hb] at this ⊢
  have h2 : a ≤ a ||| b := Nat.left_le_or
  omega
/-- one more in the set -/
def addS (s : Int) (t : Nat) : Int := ((s.toNat ||| 2 ^ t : Nat) : Int)
theorem addS_has {s : Int} {t p : Nat} : hasB (addS s t) (p : Int) = true ↔ hasB s (p : Int) = true ∨ p = t := by
  unfold hasB addS
  rw [Int.toNat_natCast, Int.toNat_natCast, Nat.testBit_or, Nat.testBit_two_pow, Bool.or_eq_true, decide_eq_true_eq]
  exact or_congr Iff.rfl eq_comm
theorem addS_in {n : Nat} {s : Int} {t : Nat} (hs : setN n s) (ht : t < n) : setN n (addS s t) := by
  obtain ⟨a, rfl⟩ := Int.eq_ofNat_of_zero_le hs.1
  have ha : a < 2 ^ n := by exact_mod_cast hs.2
  unfold addS
  rw [Int.toNat_natCast]
  refine ⟨by omega, ?_⟩
  have := Nat.or_lt_two_pow ha (Nat.pow_lt_pow_right (by decide) ht)
  exact_mod_cast this
theorem or_add {n : Nat} {s t : Int} (hn : n ≤ 5) (hs : setN n s) (ht : 0 ≤ t ∧ t < (n : Int)) : bitsI .or .i64 s (wr (1 * 2 ^ (min t.toNat 64))) = addS s t.toNat := by
  obtain ⟨a, rfl⟩ := Int.eq_ofNat_of_zero_le hs.1
  have ha : a < 2 ^ n := by exact_mod_cast hs.2
  have h1 : (2 : Nat) ^ n ≤ 2 ^ 5 := Nat.pow_le_pow_right (by decide) hn
  have h2 : (2 : Nat) ^ t.toNat < 2 ^ 62 := Nat.pow_lt_pow_right (by decide) (by omega)
  rw [bshl (by omega), bor (by omega) h2]
  unfold addS
  rw [Int.toNat_natCast]
theorem setN5 {n : Nat} {s : Int} (hn : n ≤ 5) (hs : setN n s) : 0 ≤ s ∧ s < 32 := by
  have h1 : (2 : Nat) ^ n ≤ 2 ^ 5 := Nat.pow_le_pow_right (by decide) hn
  obtain ⟨a, rfl⟩ := Int.eq_ofNat_of_zero_le hs.1
  have ha : a < 2 ^ n := by exact_mod_cast hs.2
  omega
theorem setN_bit {n : Nat} {s : Int} (hn : n ≤ 5) (hs : setN n s) {p : Int} (hp : 0 ≤ p ∧ p < 60) : bitsI .and .i64 (Int.fdiv s (2 ^ (min p.toNat 64))) 1 = if hasB s p then 1 else 0 := btestI (by have := setN5 hn hs; omega) (by omega)
/-- do two sets meet? -/
def meetB (s t : Int) : Int := if bitsI .and .i64 s t = 0 then 0 else 1
theorem meetB_iff {s t : Int} (hs : 0 ≤ s ∧ s < 32) (ht : 0 ≤ t ∧ t < 32) : meetB s t = 1 ↔ ∃ p : Nat, hasB s (p : Int) = true ∧ hasB t (p : Int) = true := by
  obtain ⟨a, rfl⟩ := Int.eq_ofNat_of_zero_le hs.1
  obtain ⟨b, rfl⟩ := Int.eq_ofNat_of_zero_le ht.1
  unfold meetB hasB
  rw [band (by omega) (by omega)]
  simp only [Int.toNat_natCast]
  by_cases h : a &&& b = 0
  · rw [if_pos (by rw [h]; rfl)]
    refine ⟨(fun e => by cases e), ?_⟩
    rintro ⟨p, h1, h2⟩
    have := congrArg (·.testBit p) h
    simp only [Nat.testBit_and, h1, h2, Nat.zero_testBit] at this
    cases this
  · rw [if_neg (by omega)]
    refine ⟨fun _ => ?_, fun _ => rfl⟩
    refine Classical.byContradiction fun hn => h (Nat.eq_of_testBit_eq fun i => ?_)
    rw [Nat.testBit_and, Nat.zero_testBit]
    cases h1 : a.testBit i
    · rfl
    · cases h2 : b.testBit i
      · rfl
      · exact absurd ⟨i, h1, h2⟩ hn
theorem meetB_01 (s t : Int) : meetB s t = 0 ∨ meetB s t = 1 := by
  unfold meetB
  split
  · exact .inl rfl
  · exact .inr rfl
/-- all sets of n -/
theorem sets_all (n : Nat) : ∃ m : List Int, (∀ k, setN n k ↔ k ∈ m) ∧ m.length = 2 ^ n := by
  refine ⟨(List.range (2 ^ n)).map (fun i : Nat => (i : Int)), fun k => ?_, by rw [List.length_map, List.length_range]⟩
  rw [List.mem_map]
  unfold setN
  constructor
  · rintro ⟨h1, h2⟩
    obtain ⟨a, rfl⟩ := Int.eq_ofNat_of_zero_le h1
    exact ⟨a, List.mem_range.2 (by exact_mod_cast h2), rfl⟩
  · rintro ⟨i, hi, rfl⟩
    have := List.mem_range.1 hi
    exact ⟨by omega, by exact_mod_cast this⟩
theorem one_has {t p : Nat} : hasB ((2 ^ t : Nat) : Int) (p : Int) = true ↔ p = t := by
  unfold hasB
  rw [Int.toNat_natCast, Int.toNat_natCast, Nat.testBit_two_pow, decide_eq_true_eq]
  exact eq_comm
theorem one_in {n t : Nat} (h : t < n) : setN n ((2 ^ t : Nat) : Int) := ⟨Int.natCast_nonneg _, by exact_mod_cast Nat.pow_lt_pow_right (by decide) h⟩
section
variable {d : ApiDet}
theorem clo_in {L : Nat} {s : Int} : setN d.fNext.length (clo d L s) := setN_mask _ _
theorem stepS_in {s a : Int} : setN d.fNext.length (stepS d s a) := setN_mask _ _
theorem orS_in {n : Nat} {s t : Int} (hs : setN n s) (ht : setN n t) : setN n (orS s t) := by
  obtain ⟨a, rfl⟩ := Int.eq_ofNat_of_zero_le hs.1
  obtain ⟨b, rfl⟩ := Int.eq_ofNat_of_zero_le ht.1
  have ha : a < 2 ^ n := by exact_mod_cast hs.2
  have hb : b < 2 ^ n := by exact_mod_cast ht.2
  unfold orS
  rw [Int.toNat_natCast, Int.toNat_natCast]
  exact ⟨by omega, by exact_mod_cast Nat.or_lt_two_pow ha hb⟩
/-- a set that is closed holds all that can be come to -/
theorem clo_least (hd : ClsPre d) {L : Nat} {s t : Int} (ht : setN d.fNext.length t) (h1 : ∀ p : Nat, hasB s (p : Int) = true → hasB t (p : Int) = true) (h2 : ∀ p : Nat, hasB t (p : Int) = true → hasB (clo d L s) (p : Int) = true) (h3 : ∀ p a : Nat, hasB t (p : Int) = true → a < L → hasB t (stepD d p a : Nat) = true) : t = clo d L s := by
  refine set_ext ht.1 clo_in.1 fun p => ⟨h2 p, fun hp => ?_⟩
  obtain ⟨q, _, hq, v, hv, rfl⟩ := (clo_has hd).1 hp
  have go : ∀ (v : List Nat) (q : Nat), hasB t (q : Int) = true → (∀ a ∈ v, a < L) → hasB t (v.foldl (stepD d) q : Nat) = true := by
    intro v
    induction v with
    | nil => exact fun q hq _ => hq
    | cons a v ih => exact fun q hq hv => ih _ (h3 q a hq (hv a List.mem_cons_self)) fun b hb => hv b (List.mem_cons_of_mem _ hb)
  exact go v q (h1 q hq) hv
/-- the states that accept -/
def goodS (x : ApiDet) : Int := (maskOf (fun q => x.fMark.getD q 0 == 1) x.fMark.length : Int)
theorem good_has {q : Nat} : hasB (goodS d) (q : Int) = true ↔ d.fMark.getD q 0 = 1 := by
  unfold goodS
  rw [hasB_mask (by omega), Int.toNat_natCast, Bool.and_eq_true, decide_eq_true_eq, beq_iff_eq]
  refine ⟨fun h => h.2, fun h => ⟨?_, h⟩⟩
  refine Decidable.byContradiction fun hn => ?_
  rw [List.getD_eq_getElem?_getD, List.getElem?_eq_none (by omega)] at h
  cases h
end
end Go.Proofs.Ytiinkohfldopbaa

/- Contracts of package higman. No condition. -/
namespace Go.Proofs.Ytiinkohfldopbaa
open Go.RowKit Go.MapKept
set_option linter.unusedSimpArgs false
set_option linter.unusedVariables false
set_option maxRecDepth 100000

def higSmall_vc (x : ApiDet) (Q : Int → Prop) : Prop :=
  x.fNext.length ≤ 9223372036854775807 →
  x.fMark.length ≤ 9223372036854775807 →
  (IfP ((detErr x) != 0) (Q (detErr x)) (IfP (decide ((x.fNext.length : Int) > 5)) (Q 1) (Q 0)))
theorem higSmall_walk (x : ApiDet) (Q : Int → Prop) (h : higSmall_vc x Q) : Ct 46 [.sv (.agg [I x.fLetters, I x.fStart, LS (lsT intT) x.fNext, LS intT x.fMark])] [] Q (fun (r : Int) => .sv (.one (I r))) := by
  have ht := tab_ok
  refine Ct.body Try.func46 rfl rfl rfl rfl (fun c hn => ?_)
  unfold higSmall_vc at h
  refine En.lenA 0 2 (by rfl) (by rfl) (fun hl => ?_)
  replace h := h hl
  clear hl
  refine En.lenA 0 3 (by rfl) (by rfl) (fun hl => ?_)
  replace h := h hl
  clear hl
  refine En.seq ?_
  refine En.region ?_
  refine WL.run ht hn 2 ⟨[(1, .sv (.one (.ptr 0 0)))], [.box [I x.fLetters, I x.fStart, LS (lsT intT) x.fNext, LS intT x.fMark] 25 false]⟩ (by kernel_rfl) ?_
  refine WL.nil ?_
  refine En.seq ?_
  refine En.seq ?_
  refine En.region ?_
  refine WL.run ht hn 1 ⟨[(1, .sv (.one (.ptr 0 0))), (4, .sv (.agg [I x.fLetters, I x.fStart, LS (lsT intT) x.fNext, LS intT x.fMark]))], [.box [I x.fLetters, I x.fStart, LS (lsT intT) x.fNext, LS intT x.fMark] 25 false]⟩ (by kernel_rfl) ?_
  refine WL.mt0 (K := []) (p := none) hn (by rfl) (mt_call (detCheck_ct x) en44 (caps := []) [] rfl (by rfl) (by kernel_rfl) (by kernel_rfl) (by rfl) (by rfl) (by rfl)) (by rfl) (by rfl) (by rfl) ?_
  refine WL.run ht hn 1 ⟨[(1, .sv (.one (.ptr 0 0))), (3, .sv (.one (I (detErr x))))], [.box [I x.fLetters, I x.fStart, LS (lsT intT) x.fNext, LS intT x.fMark] 25 false]⟩ (by kernel_rfl) ?_
  refine WL.nil ?_
  refine En.seq ?_
  refine En.region ?_
  refine WL.run ht hn 2 ⟨[(1, .sv (.one (.ptr 0 0))), (3, .sv (.one (I (detErr x)))), (7, .sv (.one (B ((detErr x) != 0))))], [.box [I x.fLetters, I x.fStart, LS (lsT intT) x.fNext, LS intT x.fMark] 25 false]⟩ (by kernel_rfl) ?_
  refine WL.nil ?_
  refine En.cond (b := ((detErr x) != 0)) (by kernel_rfl) (fun hb => ?_) (fun hb => ?_)
  · replace h := h.1 hb
    refine En.seq ?_
    refine En.region ?_
    refine WL.run ht hn 2 ⟨[(2, .sv (.one (I (detErr x))))], [.gone]⟩ (by kernel_rfl) ?_
    refine WL.nil ?_
    refine En.ret ?_
    exact En.back ht (detErr x) h (by kernel_rfl) rfl
  · replace h := h.2 hb
    refine En.skip ?_
    refine En.seq ?_
    refine En.seq ?_
    refine En.region ?_
    refine WL.run ht hn 4 ⟨[(12, .sv (.one (B (decide ((x.fNext.length : Int) > 5)))))], [.gone]⟩ (by kernel_rfl) ?_
    refine WL.nil ?_
    refine En.cond (b := (decide ((x.fNext.length : Int) > 5))) (by kernel_rfl) (fun hb => ?_) (fun hb => ?_)
    · replace h := h.1 hb
      refine En.seq ?_
      refine En.region ?_
      refine WL.run ht hn 1 ⟨[(2, .sv (.one (I 1)))], [.gone]⟩ (by kernel_rfl) ?_
      refine WL.nil ?_
      refine En.ret ?_
      exact En.back ht 1 h (by kernel_rfl) rfl
    · replace h := h.2 hb
      refine En.skip ?_
      refine En.seq ?_
      refine En.region ?_
      refine WL.run ht hn 1 ⟨[(2, .sv (.one (I 0)))], [.gone]⟩ (by kernel_rfl) ?_
      refine WL.nil ?_
      refine En.ret ?_
      exact En.back ht 0 h (by kernel_rfl) rfl
theorem en46 : ∀ args w, (callFunc 46 args).run Try.prog w = .ok (.enter 46 args) w := enters_of Try.func46 (by kernel_rfl) rfl
def smallErr (x : ApiDet) : Int := if detErr x = 0 then (if x.fNext.length ≤ 5 then 0 else 1) else detErr x
theorem smallErr_iff (x : ApiDet) : smallErr x = 0 ↔ DetOk x ∧ x.fNext.length ≤ 5 := by
  unfold smallErr
  rw [← detErr_iff]
  constructor
  · intro h
    by_cases h1 : detErr x = 0
    · rw [if_pos h1] at h
      by_cases h2 : x.fNext.length ≤ 5
      · exact ⟨h1, h2⟩
      · rw [if_neg h2] at h; cases h
    · rw [if_neg h1] at h; exact absurd h h1
  · rintro ⟨h1, h2⟩
    rw [if_pos h1, if_pos h2]
theorem higSmall_ct (x : ApiDet)  : Ct 46 [.sv (.agg [I x.fLetters, I x.fStart, LS (lsT intT) x.fNext, LS intT x.fMark])] [] (fun (_ : Unit) => True) (fun _ => .sv (.one (I (smallErr x)))) := by
  refine (higSmall_walk x (fun res_ => res_ = (smallErr x)) ?_).fun
  intro _ _
  refine ⟨fun h => ?_, fun h => ⟨fun h2 => ?_, fun h2 => ?_⟩⟩
  · show _ = smallErr x
    unfold smallErr
    rw [if_neg (by simpa using h)]
  · show _ = smallErr x
    unfold smallErr
    rw [if_pos (by simpa using h), if_neg (by have := of_decide_eq_true h2; omega)]
  · show _ = smallErr x
    unfold smallErr
    rw [if_pos (by simpa using h), if_pos (by have := of_decide_eq_false h2; omega)]
def smallD (x : ApiDet) : Prop := DetOk x ∧ x.fNext.length ≤ 5
def higAhead_vc (x : ApiDet) (s : Int) (Q : Int → Prop) : Prop :=
  x.fNext.length ≤ 9223372036854775807 →
  x.fMark.length ≤ 9223372036854775807 →
  (∃ (Inv : Int → Prop) (mu : Int → Nat), Inv s ∧
  ∀ (x1 : Int) , Inv x1 → (∃ (Inv_2 : Int → Int → Prop) (mu_2 : Int → Int → Nat), Inv_2 x1 0 ∧
  ∀ (x5 : Int) (x14 : Int) , Inv_2 x5 x14 → (IfP (decide (x14 < (x.fNext.length : Int))) (∃ e, idx x.fNext x14 = some e ∧
  ∃ (Inv_3 : Int → Int → Prop) (mu_3 : Int → Int → Nat), Inv_3 x5 0 ∧
  ∀ (x5_2 : Int) (x21 : Int) , Inv_3 x5_2 x21 → (IfP (decide (x21 < (e.length : Int))) (∃ J : Int → Prop, (∃ e_2, idx e x21 = some e_2 ∧
  (0 ≤ x14) ∧
  IfP ((bitsI .and .i64 (Int.fdiv x1 (2 ^ (min (x14).toNat 64))) 1) == 1) ((0 ≤ e_2) ∧
  J (bitsI .or .i64 x5_2 (wr (1 * (2 ^ (min (e_2).toNat 64)))))) (J x5_2)) ∧
  (∀ (x5_3 : Int), J x5_3 → (Inv_3 x5_3 (wr (x21 + 1)) ∧ mu_3 x5_3 (wr (x21 + 1)) < mu_3 x5_2 x21))) ((Inv_2 x5_2 (wr (x14 + 1)) ∧ mu_2 x5_2 (wr (x14 + 1)) < mu_2 x5 x14)))) (IfP (x5 == x1) (Q x1) ((Inv x5 ∧ mu x5 < mu x1))))))
theorem higAhead_walk (x : ApiDet) (s : Int) (Q : Int → Prop) (h : higAhead_vc x s Q) : Ct 49 [.sv (.agg [I x.fLetters, I x.fStart, LS (lsT intT) x.fNext, LS intT x.fMark]), .sv (.one (I s))] [] Q (fun (r : Int) => .sv (.one (I r))) := by
  have ht := tab_ok
  refine Ct.body Try.func49 rfl rfl rfl rfl (fun c hn => ?_)
  unfold higAhead_vc at h
  refine En.lenA 0 2 (by rfl) (by rfl) (fun hl => ?_)
  replace h := h hl
  clear hl
  refine En.lenA 0 3 (by rfl) (by rfl) (fun hl => ?_)
  replace h := h hl
  clear hl
  refine En.seq ?_
  refine En.region ?_
  refine WL.run ht hn 2 ⟨[(1, .sv (.one (I s))), (2, .sv (.one (.ptr 0 0)))], [.box [I x.fLetters, I x.fStart, LS (lsT intT) x.fNext, LS intT x.fMark] 25 false]⟩ (by kernel_rfl) ?_
  refine WL.nil ?_
  refine En.block ?_
  obtain ⟨Inv, mu, h0_3, hI_3⟩ := h
  refine En.loop (σ := Int) (fun zz => Inv zz) (fun zz => mu zz) (fun zz => ⟨[(1, .sv (.one (I zz))), (2, .sv (.one (.ptr 0 0)))], [.box [I x.fLetters, I x.fStart, LS (lsT intT) x.fNext, LS intT x.fMark] 25 false]⟩) s h0_3 (sub_ok (by kernel_rfl)) ?_
  intro x1 h
  replace h := hI_3 _ h
  show En c ⟨[(1, .sv (.one (I x1))), (2, .sv (.one (.ptr 0 0)))], [.box [I x.fLetters, I x.fStart, LS (lsT intT) x.fNext, LS intT x.fMark] 25 false]⟩ _
  refine En.block ?_
  refine En.seq ?_
  refine En.region ?_
  refine WL.run ht hn 2 ⟨[(1, .sv (.one (I x1))), (2, .sv (.one (.ptr 0 0))), (5, .sv (.one (I x1)))], [.box [I x.fLetters, I x.fStart, LS (lsT intT) x.fNext, LS intT x.fMark] 25 false]⟩ (by kernel_rfl) ?_
  refine WL.nil ?_
  refine En.seq ?_
  refine En.seq ?_
  refine En.region ?_
  refine WL.run ht hn 4 ⟨[(1, .sv (.one (I x1))), (2, .sv (.one (.ptr 0 0))), (5, .sv (.one (I x1))), (12, .sv (.one (LS (lsT intT) x.fNext))), (13, .sv (.one (I (x.fNext.length : Int)))), (14, .sv (.one (I 0)))], [.box [I x.fLetters, I x.fStart, LS (lsT intT) x.fNext, LS intT x.fMark] 25 false]⟩ (by kernel_rfl) ?_
  refine WL.nil ?_
  refine En.block ?_
  obtain ⟨Inv_2, mu_2, h0_2, hI_2⟩ := h
  refine En.loop (σ := Int × Int) (fun zz => Inv_2 zz.1 zz.2) (fun zz => mu_2 zz.1 zz.2) (fun zz => ⟨[(1, .sv (.one (I x1))), (2, .sv (.one (.ptr 0 0))), (5, .sv (.one (I zz.1))), (12, .sv (.one (LS (lsT intT) x.fNext))), (13, .sv (.one (I (x.fNext.length : Int)))), (14, .sv (.one (I zz.2)))], [.box [I x.fLetters, I x.fStart, LS (lsT intT) x.fNext, LS intT x.fMark] 25 false]⟩) (x1, 0) h0_2 (sub_ok (by kernel_rfl)) ?_
  rintro ⟨x5, x14⟩ h
  replace h := hI_2 _ _ h
  show En c ⟨[(1, .sv (.one (I x1))), (2, .sv (.one (.ptr 0 0))), (5, .sv (.one (I x5))), (12, .sv (.one (LS (lsT intT) x.fNext))), (13, .sv (.one (I (x.fNext.length : Int)))), (14, .sv (.one (I x14)))], [.box [I x.fLetters, I x.fStart, LS (lsT intT) x.fNext, LS intT x.fMark] 25 false]⟩ _
  refine En.seq ?_
  refine En.region ?_
  refine WL.run ht hn 1 ⟨[(1, .sv (.one (I x1))), (2, .sv (.one (.ptr 0 0))), (5, .sv (.one (I x5))), (12, .sv (.one (LS (lsT intT) x.fNext))), (13, .sv (.one (I (x.fNext.length : Int)))), (14, .sv (.one (I x14))), (15, .sv (.one (B (decide (x14 < (x.fNext.length : Int))))))], [.box [I x.fLetters, I x.fStart, LS (lsT intT) x.fNext, LS intT x.fMark] 25 false]⟩ (by kernel_rfl) ?_
  refine WL.nil ?_
  refine En.seq ?_
  refine En.cond (b := (decide (x14 < (x.fNext.length : Int)))) (by kernel_rfl) (fun hb => ?_) (fun hb => ?_)
  · replace h := h.1 hb
    refine En.skip ?_
    refine En.seq ?_
    refine En.block ?_
    refine En.seq ?_
    refine En.region ?_
    refine WL.run ht hn 1 ⟨[(1, .sv (.one (I x1))), (2, .sv (.one (.ptr 0 0))), (5, .sv (.one (I x5))), (12, .sv (.one (LS (lsT intT) x.fNext))), (13, .sv (.one (I (x.fNext.length : Int)))), (14, .sv (.one (I x14))), (16, .sv (.one (I x14)))], [.box [I x.fLetters, I x.fStart, LS (lsT intT) x.fNext, LS intT x.fMark] 25 false]⟩ (by kernel_rfl) ?_
    obtain ⟨e, he, h⟩ := h
    refine WL.val hn (by rfl) (val_index (T := (lsT intT)) (l := x.fNext) (i := x14) ht rfl (by rfl) (by rfl) (by rfl) (by rfl) (by rfl) (by rfl) he) (by rfl) ?_
    refine WL.val hn (by rfl) (val_load (s := .one (LS intT e)) ht rfl (by rfl) (by rfl) (by rfl) (by rfl) (by rfl)) (by rfl) ?_
    refine WL.run ht hn 2 ⟨[(1, .sv (.one (I x1))), (2, .sv (.one (.ptr 0 0))), (5, .sv (.one (I x5))), (6, .sv (.one (I x14))), (7, .sv (.one (LS intT e))), (12, .sv (.one (LS (lsT intT) x.fNext))), (13, .sv (.one (I (x.fNext.length : Int)))), (14, .sv (.one (I x14)))], [.box [I x.fLetters, I x.fStart, LS (lsT intT) x.fNext, LS intT x.fMark] 25 false]⟩ (by kernel_rfl) ?_
    refine WL.nil ?_
    refine En.seq ?_
    refine En.region ?_
    refine WL.run ht hn 3 ⟨[(1, .sv (.one (I x1))), (2, .sv (.one (.ptr 0 0))), (5, .sv (.one (I x5))), (6, .sv (.one (I x14))), (12, .sv (.one (LS (lsT intT) x.fNext))), (13, .sv (.one (I (x.fNext.length : Int)))), (14, .sv (.one (I x14))), (19, .sv (.one (LS intT e))), (20, .sv (.one (I (e.length : Int)))), (21, .sv (.one (I 0)))], [.box [I x.fLetters, I x.fStart, LS (lsT intT) x.fNext, LS intT x.fMark] 25 false]⟩ (by kernel_rfl) ?_
    refine WL.nil ?_
    refine En.block ?_
    obtain ⟨Inv_3, mu_3, h0, hI⟩ := h
    refine En.loop (σ := Int × Int) (fun zz => Inv_3 zz.1 zz.2) (fun zz => mu_3 zz.1 zz.2) (fun zz => ⟨[(1, .sv (.one (I x1))), (2, .sv (.one (.ptr 0 0))), (5, .sv (.one (I zz.1))), (6, .sv (.one (I x14))), (12, .sv (.one (LS (lsT intT) x.fNext))), (13, .sv (.one (I (x.fNext.length : Int)))), (14, .sv (.one (I x14))), (19, .sv (.one (LS intT e))), (20, .sv (.one (I (e.length : Int)))), (21, .sv (.one (I zz.2)))], [.box [I x.fLetters, I x.fStart, LS (lsT intT) x.fNext, LS intT x.fMark] 25 false]⟩) (x5, 0) h0 (sub_ok (by kernel_rfl)) ?_
    rintro ⟨x5_2, x21⟩ h
    replace h := hI _ _ h
    show En c ⟨[(1, .sv (.one (I x1))), (2, .sv (.one (.ptr 0 0))), (5, .sv (.one (I x5_2))), (6, .sv (.one (I x14))), (12, .sv (.one (LS (lsT intT) x.fNext))), (13, .sv (.one (I (x.fNext.length : Int)))), (14, .sv (.one (I x14))), (19, .sv (.one (LS intT e))), (20, .sv (.one (I (e.length : Int)))), (21, .sv (.one (I x21)))], [.box [I x.fLetters, I x.fStart, LS (lsT intT) x.fNext, LS intT x.fMark] 25 false]⟩ _
    refine En.seq ?_
    refine En.region ?_
    refine WL.run ht hn 1 ⟨[(1, .sv (.one (I x1))), (2, .sv (.one (.ptr 0 0))), (5, .sv (.one (I x5_2))), (6, .sv (.one (I x14))), (12, .sv (.one (LS (lsT intT) x.fNext))), (13, .sv (.one (I (x.fNext.length : Int)))), (14, .sv (.one (I x14))), (19, .sv (.one (LS intT e))), (20, .sv (.one (I (e.length : Int)))), (21, .sv (.one (I x21))), (22, .sv (.one (B (decide (x21 < (e.length : Int))))))], [.box [I x.fLetters, I x.fStart, LS (lsT intT) x.fNext, LS intT x.fMark] 25 false]⟩ (by kernel_rfl) ?_
    refine WL.nil ?_
    refine En.seq ?_
    refine En.cond (b := (decide (x21 < (e.length : Int)))) (by kernel_rfl) (fun hb => ?_) (fun hb => ?_)
    · replace h := h.1 hb
      refine En.skip ?_
      obtain ⟨J, h, hJ⟩ := h
      refine En.seqJ (σ := Int) (fun zz => J zz) (fun zz => ⟨[(1, .sv (.one (I x1))), (2, .sv (.one (.ptr 0 0))), (5, .sv (.one (I zz))), (6, .sv (.one (I x14))), (12, .sv (.one (LS (lsT intT) x.fNext))), (13, .sv (.one (I (x.fNext.length : Int)))), (14, .sv (.one (I x14))), (19, .sv (.one (LS intT e))), (20, .sv (.one (I (e.length : Int)))), (21, .sv (.one (I x21)))], [.box [I x.fLetters, I x.fStart, LS (lsT intT) x.fNext, LS intT x.fMark] 25 false]⟩) ?_ ?_
      · refine En.block ?_
        refine En.seq ?_
        refine En.region ?_
        obtain ⟨e_2, he_2, h⟩ := h
        refine WL.val hn (by rfl) (val_index (T := intT) (l := e) (i := x21) ht rfl (by rfl) (by rfl) (by rfl) (by rfl) (by rfl) (by rfl) he_2) (by rfl) ?_
        refine WL.val hn (by rfl) (val_load (s := .one (I e_2)) ht rfl (by rfl) (by rfl) (by rfl) (by rfl) (by rfl)) (by rfl) ?_
        refine WL.run ht hn 1 ⟨[(1, .sv (.one (I x1))), (2, .sv (.one (.ptr 0 0))), (5, .sv (.one (I x5_2))), (6, .sv (.one (I x14))), (9, .sv (.one (I e_2))), (12, .sv (.one (LS (lsT intT) x.fNext))), (13, .sv (.one (I (x.fNext.length : Int)))), (14, .sv (.one (I x14))), (19, .sv (.one (LS intT e))), (20, .sv (.one (I (e.length : Int)))), (21, .sv (.one (I x21)))], [.box [I x.fLetters, I x.fStart, LS (lsT intT) x.fNext, LS intT x.fMark] 25 false]⟩ (by kernel_rfl) ?_
        refine WL.nil ?_
        refine En.seq ?_
        refine En.region ?_
        refine WL.run ht hn 2 ⟨[(1, .sv (.one (I x1))), (2, .sv (.one (.ptr 0 0))), (5, .sv (.one (I x5_2))), (6, .sv (.one (I x14))), (9, .sv (.one (I e_2))), (12, .sv (.one (LS (lsT intT) x.fNext))), (13, .sv (.one (I (x.fNext.length : Int)))), (14, .sv (.one (I x14))), (19, .sv (.one (LS intT e))), (20, .sv (.one (I (e.length : Int)))), (21, .sv (.one (I x21))), (25, .sv (.one (I x1))), (26, .sv (.one (I x14)))], [.box [I x.fLetters, I x.fStart, LS (lsT intT) x.fNext, LS intT x.fMark] 25 false]⟩ (by kernel_rfl) ?_
        have hz := h.1
        replace h := h.2
        refine WL.val hn (by rfl) (val_shift (u := x1) (v := x14) rfl (by rfl) (by rfl) hz (.inr ⟨rfl, rfl⟩)) (by rfl) ?_
        refine WL.run ht hn 2 ⟨[(1, .sv (.one (I x1))), (2, .sv (.one (.ptr 0 0))), (5, .sv (.one (I x5_2))), (6, .sv (.one (I x14))), (9, .sv (.one (I e_2))), (12, .sv (.one (LS (lsT intT) x.fNext))), (13, .sv (.one (I (x.fNext.length : Int)))), (14, .sv (.one (I x14))), (19, .sv (.one (LS intT e))), (20, .sv (.one (I (e.length : Int)))), (21, .sv (.one (I x21))), (29, .sv (.one (B ((bitsI .and .i64 (Int.fdiv x1 (2 ^ (min (x14).toNat 64))) 1) == 1))))], [.box [I x.fLetters, I x.fStart, LS (lsT intT) x.fNext, LS intT x.fMark] 25 false]⟩ (by kernel_rfl) ?_
        refine WL.nil ?_
        refine En.cond (b := ((bitsI .and .i64 (Int.fdiv x1 (2 ^ (min (x14).toNat 64))) 1) == 1)) (by kernel_rfl) (fun hb => ?_) (fun hb => ?_)
        · replace h := h.1 hb
          refine En.region ?_
          refine WL.run ht hn 2 ⟨[(1, .sv (.one (I x1))), (2, .sv (.one (.ptr 0 0))), (6, .sv (.one (I x14))), (12, .sv (.one (LS (lsT intT) x.fNext))), (13, .sv (.one (I (x.fNext.length : Int)))), (14, .sv (.one (I x14))), (19, .sv (.one (LS intT e))), (20, .sv (.one (I (e.length : Int)))), (21, .sv (.one (I x21))), (30, .sv (.one (I x5_2))), (31, .sv (.one (I e_2)))], [.box [I x.fLetters, I x.fStart, LS (lsT intT) x.fNext, LS intT x.fMark] 25 false]⟩ (by kernel_rfl) ?_
          have hz_2 := h.1
          replace h := h.2
          refine WL.val hn (by rfl) (val_shift (u := 1) (v := e_2) rfl (by rfl) (by rfl) hz_2 (.inl ⟨rfl, rfl⟩)) (by rfl) ?_
          refine WL.run ht hn 2 ⟨[(1, .sv (.one (I x1))), (2, .sv (.one (.ptr 0 0))), (5, .sv (.one (I (bitsI .or .i64 x5_2 (wr (1 * (2 ^ (min (e_2).toNat 64)))))))), (6, .sv (.one (I x14))), (12, .sv (.one (LS (lsT intT) x.fNext))), (13, .sv (.one (I (x.fNext.length : Int)))), (14, .sv (.one (I x14))), (19, .sv (.one (LS intT e))), (20, .sv (.one (I (e.length : Int)))), (21, .sv (.one (I x21)))], [.box [I x.fLetters, I x.fStart, LS (lsT intT) x.fNext, LS intT x.fMark] 25 false]⟩ (by kernel_rfl) ?_
          refine WL.nil ?_
          exact En.at (I := fun zz => J zz) (T := fun zz => ⟨[(1, .sv (.one (I x1))), (2, .sv (.one (.ptr 0 0))), (5, .sv (.one (I zz))), (6, .sv (.one (I x14))), (12, .sv (.one (LS (lsT intT) x.fNext))), (13, .sv (.one (I (x.fNext.length : Int)))), (14, .sv (.one (I x14))), (19, .sv (.one (LS intT e))), (20, .sv (.one (I (e.length : Int)))), (21, .sv (.one (I x21)))], [.box [I x.fLetters, I x.fStart, LS (lsT intT) x.fNext, LS intT x.fMark] 25 false]⟩) (bitsI .or .i64 x5_2 (wr (1 * (2 ^ (min (e_2).toNat 64))))) h (by kernel_rfl)
        · replace h := h.2 hb
          refine En.skip ?_
          exact En.at (I := fun zz => J zz) (T := fun zz => ⟨[(1, .sv (.one (I x1))), (2, .sv (.one (.ptr 0 0))), (5, .sv (.one (I zz))), (6, .sv (.one (I x14))), (12, .sv (.one (LS (lsT intT) x.fNext))), (13, .sv (.one (I (x.fNext.length : Int)))), (14, .sv (.one (I x14))), (19, .sv (.one (LS intT e))), (20, .sv (.one (I (e.length : Int)))), (21, .sv (.one (I x21)))], [.box [I x.fLetters, I x.fStart, LS (lsT intT) x.fNext, LS intT x.fMark] 25 false]⟩) x5_2 h (by kernel_rfl)
      · intro x5_3 h
        replace h := hJ _ h
        show En c ⟨[(1, .sv (.one (I x1))), (2, .sv (.one (.ptr 0 0))), (5, .sv (.one (I x5_3))), (6, .sv (.one (I x14))), (12, .sv (.one (LS (lsT intT) x.fNext))), (13, .sv (.one (I (x.fNext.length : Int)))), (14, .sv (.one (I x14))), (19, .sv (.one (LS intT e))), (20, .sv (.one (I (e.length : Int)))), (21, .sv (.one (I x21)))], [.box [I x.fLetters, I x.fStart, LS (lsT intT) x.fNext, LS intT x.fMark] 25 false]⟩ _
        refine En.region ?_
        refine WL.run ht hn 2 ⟨[(1, .sv (.one (I x1))), (2, .sv (.one (.ptr 0 0))), (5, .sv (.one (I x5_3))), (6, .sv (.one (I x14))), (12, .sv (.one (LS (lsT intT) x.fNext))), (13, .sv (.one (I (x.fNext.length : Int)))), (14, .sv (.one (I x14))), (19, .sv (.one (LS intT e))), (20, .sv (.one (I (e.length : Int)))), (21, .sv (.one (I (wr (x21 + 1)))))], [.box [I x.fLetters, I x.fStart, LS (lsT intT) x.fNext, LS intT x.fMark] 25 false]⟩ (by kernel_rfl) ?_
        refine WL.nil ?_
        exact En.at (I := fun zz => Inv_3 zz.1 zz.2 ∧ mu_3 zz.1 zz.2 < mu_3 x5_2 x21) (T := fun zz => ⟨[(1, .sv (.one (I x1))), (2, .sv (.one (.ptr 0 0))), (5, .sv (.one (I zz.1))), (6, .sv (.one (I x14))), (12, .sv (.one (LS (lsT intT) x.fNext))), (13, .sv (.one (I (x.fNext.length : Int)))), (14, .sv (.one (I x14))), (19, .sv (.one (LS intT e))), (20, .sv (.one (I (e.length : Int)))), (21, .sv (.one (I zz.2)))], [.box [I x.fLetters, I x.fStart, LS (lsT intT) x.fNext, LS intT x.fMark] 25 false]⟩) (x5_3, (wr (x21 + 1))) h (by kernel_rfl)
    · replace h := h.2 hb
      refine En.exit rfl ?_
      refine En.region ?_
      refine WL.run ht hn 2 ⟨[(1, .sv (.one (I x1))), (2, .sv (.one (.ptr 0 0))), (5, .sv (.one (I x5_2))), (12, .sv (.one (LS (lsT intT) x.fNext))), (13, .sv (.one (I (x.fNext.length : Int)))), (14, .sv (.one (I (wr (x14 + 1)))))], [.box [I x.fLetters, I x.fStart, LS (lsT intT) x.fNext, LS intT x.fMark] 25 false]⟩ (by kernel_rfl) ?_
      refine WL.nil ?_
      exact En.at (I := fun zz => Inv_2 zz.1 zz.2 ∧ mu_2 zz.1 zz.2 < mu_2 x5 x14) (T := fun zz => ⟨[(1, .sv (.one (I x1))), (2, .sv (.one (.ptr 0 0))), (5, .sv (.one (I zz.1))), (12, .sv (.one (LS (lsT intT) x.fNext))), (13, .sv (.one (I (x.fNext.length : Int)))), (14, .sv (.one (I zz.2)))], [.box [I x.fLetters, I x.fStart, LS (lsT intT) x.fNext, LS intT x.fMark] 25 false]⟩) (x5_2, (wr (x14 + 1))) h (by kernel_rfl)
  · replace h := h.2 hb
    refine En.exit rfl ?_
    refine En.seq ?_
    refine En.seq ?_
    refine En.region ?_
    refine WL.run ht hn 3 ⟨[(1, .sv (.one (I x1))), (2, .sv (.one (.ptr 0 0))), (5, .sv (.one (I x5))), (38, .sv (.one (B (x5 == x1))))], [.box [I x.fLetters, I x.fStart, LS (lsT intT) x.fNext, LS intT x.fMark] 25 false]⟩ (by kernel_rfl) ?_
    refine WL.nil ?_
    refine En.cond (b := (x5 == x1)) (by kernel_rfl) (fun hb => ?_) (fun hb => ?_)
    · replace h := h.1 hb
      refine En.seq ?_
      refine En.region ?_
      refine WL.run ht hn 2 ⟨[(4, .sv (.one (I x1)))], [.gone]⟩ (by kernel_rfl) ?_
      refine WL.nil ?_
      refine En.ret ?_
      exact En.back ht x1 h (by kernel_rfl) rfl
    · replace h := h.2 hb
      refine En.skip ?_
      refine En.region ?_
      refine WL.run ht hn 2 ⟨[(1, .sv (.one (I x5))), (2, .sv (.one (.ptr 0 0)))], [.box [I x.fLetters, I x.fStart, LS (lsT intT) x.fNext, LS intT x.fMark] 25 false]⟩ (by kernel_rfl) ?_
      refine WL.nil ?_
      exact En.at (I := fun zz => Inv zz ∧ mu zz < mu x1) (T := fun zz => ⟨[(1, .sv (.one (I zz))), (2, .sv (.one (.ptr 0 0)))], [.box [I x.fLetters, I x.fStart, LS (lsT intT) x.fNext, LS intT x.fMark] 25 false]⟩) x5 h (by kernel_rfl)
theorem en49 : ∀ args w, (callFunc 49 args).run Try.prog w = .ok (.enter 49 args) w := enters_of Try.func49 (by kernel_rfl) rfl
theorem higAhead_ct (x : ApiDet) (s : Int) (hd : smallD x ∧ setN x.fNext.length s) : Ct 49 [.sv (.agg [I x.fLetters, I x.fStart, LS (lsT intT) x.fNext, LS intT x.fMark]), .sv (.one (I s))] [] (fun (_ : Unit) => True) (fun _ => .sv (.one (I (clo x x.fLetters.toNat s)))) := by
  refine (higAhead_walk x s (fun res_ => res_ = (clo x x.fLetters.toNat s)) ?_).fun
  intro _ _
  obtain ⟨⟨hx, hn⟩, hs⟩ := hd
  have hp := hx.cls.pre
  have hlet := hx.letters
  have hsub : ∀ p : Nat, hasB s (p : Int) = true → hasB (clo x x.fLetters.toNat s) (p : Int) = true := fun p hp' => (clo_has hp).2 ⟨p, setN_lt hs hp', hp', [], (fun a h => by simp at h), rfl⟩
  have hstep : ∀ p a : Nat, hasB (clo x x.fLetters.toNat s) (p : Int) = true → a < x.fLetters.toNat → hasB (clo x x.fLetters.toNat s) (stepD x p a : Nat) = true := fun p a h1 h2 => (clo_shut hp).2 p [a] h1 fun b hb => by rw [List.mem_singleton.1 hb]; exact h2
  refine ⟨fun t => setN x.fNext.length t ∧ (∀ p : Nat, hasB s (p : Int) = true → hasB t (p : Int) = true) ∧ ∀ p : Nat, hasB t (p : Int) = true → hasB (clo x x.fLetters.toNat s) (p : Int) = true, fun t => 32 - t.toNat, ⟨hs, fun _ h => h, hsub⟩, ?_⟩
  rintro t ⟨ht, hst, htc⟩
  have h32 := setN5 hn ht
  refine ⟨fun u i => ∃ k : Nat, i = k ∧ k ≤ x.fNext.length ∧ setN x.fNext.length u ∧ (∀ p : Nat, hasB t (p : Int) = true → hasB u (p : Int) = true) ∧ (∀ p : Nat, hasB u (p : Int) = true → hasB (clo x x.fLetters.toNat s) (p : Int) = true) ∧ ∀ p a : Nat, p < k → hasB t (p : Int) = true → a < x.fLetters.toNat → hasB u (stepD x p a : Nat) = true, fun _ i => x.fNext.length - i.toNat, ⟨0, rfl, Nat.zero_le _, ht, fun _ h => h, htc, fun p a h => absurd h (Nat.not_lt_zero _)⟩, ?_⟩
  rintro u i ⟨k, rfl, hk, hu, htu, huc, hdone⟩
  refine ⟨fun hb => ?_, fun hb => ?_⟩
  · have hlt := dlt hb
    have hmem : x.fNext[k] ∈ x.fNext := List.getElem_mem hlt
    have hrow := hx.rows _ hmem
    have hgd : x.fNext.getD k [] = x.fNext[k] := by rw [List.getD_eq_getElem?_getD, List.getElem?_eq_getElem hlt]; rfl
    refine ⟨_, idx_at hlt, fun u i => ∃ j : Nat, i = j ∧ j ≤ x.fNext[k].length ∧ setN x.fNext.length u ∧ (∀ p : Nat, hasB t (p : Int) = true → hasB u (p : Int) = true) ∧ (∀ p : Nat, hasB u (p : Int) = true → hasB (clo x x.fLetters.toNat s) (p : Int) = true) ∧ (∀ p a : Nat, p < k → hasB t (p : Int) = true → a < x.fLetters.toNat → hasB u (stepD x p a : Nat) = true) ∧ ∀ a : Nat, a < j → hasB t (k : Int) = true → hasB u (stepD x k a : Nat) = true, fun _ i => x.fNext[k].length - i.toNat, ⟨0, rfl, Nat.zero_le _, hu, htu, huc, hdone, fun a h => absurd h (Nat.not_lt_zero _)⟩, ?_⟩
    rintro u i ⟨j, rfl, hj, hu, htu, huc, hdone, hrowd⟩
    refine ⟨fun hb2 => ?_, fun hb2 => ?_⟩
    · have hlt2 := dlt hb2
      have hto := hx.in_ _ hmem _ (List.getElem_mem hlt2)
      have hsd : stepD x k j = (x.fNext[k][j]).toNat := by
        unfold stepD
        rw [hgd, List.getD_eq_getElem?_getD, List.getElem?_eq_getElem hlt2]
        rfl
      have hbit := setN_bit hn ht (p := (k : Int)) (by omega)
      refine ⟨fun v => setN x.fNext.length v ∧ (∀ p : Nat, hasB u (p : Int) = true → hasB v (p : Int) = true) ∧ (∀ p : Nat, hasB v (p : Int) = true → hasB (clo x x.fLetters.toNat s) (p : Int) = true) ∧ (hasB t (k : Int) = true → hasB v (stepD x k j : Nat) = true), ⟨_, idx_at hlt2, by omega, fun h => ⟨hto.1, ?_⟩, fun h => ?_⟩, ?_⟩
      · rw [hbit] at h
        have hk' : hasB t (k : Int) = true := by cases hh : hasB t (k : Int) <;> simp [hh] at h ⊢
        rw [or_add hn hu hto]
        refine ⟨addS_in hu (by omega), fun p hp => addS_has.2 (.inl hp), fun p hp => ?_, fun _ => by rw [hsd]; exact addS_has.2 (.inr rfl)⟩
        rcases addS_has.1 hp with hp | rfl
        · exact huc p hp
        · rw [← hsd]
          exact hstep k j (htc k hk') (by omega)
      · rw [hbit] at h
        exact ⟨hu, fun _ h => h, huc, fun hk' => by rw [hk'] at h; cases h⟩
      · rintro v ⟨h1, h2, h3, h4⟩
        refine ⟨⟨j + 1, wsucc (by omega), hlt2, h1, fun p hp => h2 p (htu p hp), h3, fun p a hp hp2 ha => h2 _ (hdone p a hp hp2 ha), fun a ha hk' => ?_⟩, mu_up hlt2 (by omega)⟩
        by_cases e : a = j
        · subst e; exact h4 hk'
        · exact h2 _ (hrowd a (by omega) hk')
    · have hge := dge hb2
      refine ⟨⟨k + 1, wsucc (by omega), hlt, hu, htu, huc, fun p a hp hp2 ha => ?_⟩, mu_up hlt (by omega)⟩
      by_cases e : p = k
      · subst e
        exact hrowd a (by omega) hp2
      · exact hdone p a (by omega) hp2 ha
  · have hge := dge hb
    refine ⟨fun he => ?_, fun he => ⟨⟨hu, fun p hp => htu p (hst p hp), huc⟩, ?_⟩⟩
    · have he : u = t := by simpa using he
      subst he
      exact clo_least hp ht hst htc fun p a hp ha => hdone p a (by have := setN_lt ht hp; omega) hp ha
    · have he : u ≠ t := by simpa using he
      have := set_le ht.1 hu.1 htu
      have h2 := setN5 hn hu
      show 32 - u.toNat < 32 - t.toNat
      omega
def setsGo_vc (s : Int) (a : Int) (x : ApiDet) (dommore : ((Int × Int) → Prop)) (more : ((Int × Int) → Int)) (Q : Int → Prop) : Prop :=
  ∃ (Inv : Int → Int → Prop) (mu : Int → Int → Nat), Inv 0 0 ∧
  ∀ (x7 : Int) (x13 : Int) , Inv x7 x13 → (IfP (decide (x13 < (x.fNext.length : Int))) (∃ J : Int → Prop, (∃ e, idx x.fNext x13 = some e ∧
  (0 ≤ x13) ∧
  IfP ((bitsI .and .i64 (Int.fdiv s (2 ^ (min (x13).toNat 64))) 1) == 1) (∃ e_2, idx e a = some e_2 ∧
  (0 ≤ e_2) ∧
  J (bitsI .or .i64 x7 (wr (1 * (2 ^ (min (e_2).toNat 64)))))) (J x7)) ∧
  (∀ (x7_2 : Int), J x7_2 → (Inv x7_2 (wr (x13 + 1)) ∧ mu x7_2 (wr (x13 + 1)) < mu x7 x13))) ((dommore (s, x7)) ∧
  Q (more (s, x7))))
theorem setsGo_walk (s : Int) (a : Int) (x : ApiDet) (dommore : ((Int × Int) → Prop)) (more : ((Int × Int) → Int)) (Q : Int → Prop) (h : setsGo_vc s a x dommore more Q) : Ct 118 [.sv (.one (I s)), .sv (.one (I a)), .sv (.one (.ptr 0 0)), .sv (.one (.ptr 1 0))] [.box [I x.fLetters, I x.fStart, LS (lsT intT) x.fNext, LS intT x.fMark] 25 true, .box [.rd (fvR (fun (x : (Int × Int)) => [.sv (.one (I x.1)), .sv (.one (I x.2))]) (fun (r : Int) => .sv (.one (I r))) dommore more)] 97 true] Q (fun (r : Int) => .sv (.one (I r))) := by
  have ht := tab_ok
  refine Ct.body Try.func118 rfl rfl rfl rfl (fun c hn => ?_)
  unfold setsGo_vc at h
  refine En.seq ?_
  refine En.region ?_
  refine WL.run ht hn 1 ⟨[(0, .sv (.one (I s))), (1, .sv (.one (I a))), (2, .sv (.one (.ptr 0 0))), (3, .sv (.one (.ptr 1 0)))], [.box [I x.fLetters, I x.fStart, LS (lsT intT) x.fNext, LS intT x.fMark] 25 true, .box [.rd (fvR (fun (x : (Int × Int)) => [.sv (.one (I x.1)), .sv (.one (I x.2))]) (fun (r : Int) => .sv (.one (I r))) dommore more)] 97 true]⟩ (by kernel_rfl) ?_
  refine WL.nil ?_
  refine En.seq ?_
  refine En.region ?_
  refine WL.run ht hn 1 ⟨[(0, .sv (.one (I s))), (1, .sv (.one (I a))), (2, .sv (.one (.ptr 0 0))), (3, .sv (.one (.ptr 1 0))), (7, .sv (.one (I 0)))], [.box [I x.fLetters, I x.fStart, LS (lsT intT) x.fNext, LS intT x.fMark] 25 true, .box [.rd (fvR (fun (x : (Int × Int)) => [.sv (.one (I x.1)), .sv (.one (I x.2))]) (fun (r : Int) => .sv (.one (I r))) dommore more)] 97 true]⟩ (by kernel_rfl) ?_
  refine WL.nil ?_
  refine En.seq ?_
  refine En.seq ?_
  refine En.region ?_
  refine WL.run ht hn 4 ⟨[(0, .sv (.one (I s))), (1, .sv (.one (I a))), (3, .sv (.one (.ptr 1 0))), (7, .sv (.one (I 0))), (11, .sv (.one (LS (lsT intT) x.fNext))), (12, .sv (.one (I (x.fNext.length : Int)))), (13, .sv (.one (I 0)))], [.gone, .box [.rd (fvR (fun (x : (Int × Int)) => [.sv (.one (I x.1)), .sv (.one (I x.2))]) (fun (r : Int) => .sv (.one (I r))) dommore more)] 97 true]⟩ (by kernel_rfl) ?_
  refine WL.nil ?_
  refine En.block ?_
  obtain ⟨Inv, mu, h0, hI⟩ := h
  refine En.loop (σ := Int × Int) (fun zz => Inv zz.1 zz.2) (fun zz => mu zz.1 zz.2) (fun zz => ⟨[(0, .sv (.one (I s))), (1, .sv (.one (I a))), (3, .sv (.one (.ptr 1 0))), (7, .sv (.one (I zz.1))), (11, .sv (.one (LS (lsT intT) x.fNext))), (12, .sv (.one (I (x.fNext.length : Int)))), (13, .sv (.one (I zz.2)))], [.gone, .box [.rd (fvR (fun (x : (Int × Int)) => [.sv (.one (I x.1)), .sv (.one (I x.2))]) (fun (r : Int) => .sv (.one (I r))) dommore more)] 97 true]⟩) (0, 0) h0 (sub_ok (by kernel_rfl)) ?_
  rintro ⟨x7, x13⟩ h
  replace h := hI _ _ h
  show En c ⟨[(0, .sv (.one (I s))), (1, .sv (.one (I a))), (3, .sv (.one (.ptr 1 0))), (7, .sv (.one (I x7))), (11, .sv (.one (LS (lsT intT) x.fNext))), (12, .sv (.one (I (x.fNext.length : Int)))), (13, .sv (.one (I x13)))], [.gone, .box [.rd (fvR (fun (x : (Int × Int)) => [.sv (.one (I x.1)), .sv (.one (I x.2))]) (fun (r : Int) => .sv (.one (I r))) dommore more)] 97 true]⟩ _
  refine En.seq ?_
  refine En.region ?_
  refine WL.run ht hn 1 ⟨[(0, .sv (.one (I s))), (1, .sv (.one (I a))), (3, .sv (.one (.ptr 1 0))), (7, .sv (.one (I x7))), (11, .sv (.one (LS (lsT intT) x.fNext))), (12, .sv (.one (I (x.fNext.length : Int)))), (13, .sv (.one (I x13))), (14, .sv (.one (B (decide (x13 < (x.fNext.length : Int))))))], [.gone, .box [.rd (fvR (fun (x : (Int × Int)) => [.sv (.one (I x.1)), .sv (.one (I x.2))]) (fun (r : Int) => .sv (.one (I r))) dommore more)] 97 true]⟩ (by kernel_rfl) ?_
  refine WL.nil ?_
  refine En.seq ?_
  refine En.cond (b := (decide (x13 < (x.fNext.length : Int)))) (by kernel_rfl) (fun hb => ?_) (fun hb => ?_)
  · replace h := h.1 hb
    refine En.skip ?_
    obtain ⟨J, h, hJ⟩ := h
    refine En.seqJ (σ := Int) (fun zz => J zz) (fun zz => ⟨[(0, .sv (.one (I s))), (1, .sv (.one (I a))), (3, .sv (.one (.ptr 1 0))), (7, .sv (.one (I zz))), (11, .sv (.one (LS (lsT intT) x.fNext))), (12, .sv (.one (I (x.fNext.length : Int)))), (13, .sv (.one (I x13)))], [.gone, .box [.rd (fvR (fun (x : (Int × Int)) => [.sv (.one (I x.1)), .sv (.one (I x.2))]) (fun (r : Int) => .sv (.one (I r))) dommore more)] 97 true]⟩) ?_ ?_
    · refine En.block ?_
      refine En.seq ?_
      refine En.region ?_
      refine WL.run ht hn 1 ⟨[(0, .sv (.one (I s))), (1, .sv (.one (I a))), (3, .sv (.one (.ptr 1 0))), (7, .sv (.one (I x7))), (11, .sv (.one (LS (lsT intT) x.fNext))), (12, .sv (.one (I (x.fNext.length : Int)))), (13, .sv (.one (I x13))), (15, .sv (.one (I x13)))], [.gone, .box [.rd (fvR (fun (x : (Int × Int)) => [.sv (.one (I x.1)), .sv (.one (I x.2))]) (fun (r : Int) => .sv (.one (I r))) dommore more)] 97 true]⟩ (by kernel_rfl) ?_
      obtain ⟨e, he, h⟩ := h
      refine WL.val hn (by rfl) (val_index (T := (lsT intT)) (l := x.fNext) (i := x13) ht rfl (by rfl) (by rfl) (by rfl) (by rfl) (by rfl) (by rfl) he) (by rfl) ?_
      refine WL.val hn (by rfl) (val_load (s := .one (LS intT e)) ht rfl (by rfl) (by rfl) (by rfl) (by rfl) (by rfl)) (by rfl) ?_
      refine WL.run ht hn 2 ⟨[(0, .sv (.one (I s))), (1, .sv (.one (I a))), (3, .sv (.one (.ptr 1 0))), (7, .sv (.one (I x7))), (8, .sv (.one (I x13))), (9, .sv (.one (LS intT e))), (11, .sv (.one (LS (lsT intT) x.fNext))), (12, .sv (.one (I (x.fNext.length : Int)))), (13, .sv (.one (I x13)))], [.gone, .box [.rd (fvR (fun (x : (Int × Int)) => [.sv (.one (I x.1)), .sv (.one (I x.2))]) (fun (r : Int) => .sv (.one (I r))) dommore more)] 97 true]⟩ (by kernel_rfl) ?_
      refine WL.nil ?_
      refine En.seq ?_
      refine En.region ?_
      refine WL.run ht hn 2 ⟨[(0, .sv (.one (I s))), (1, .sv (.one (I a))), (3, .sv (.one (.ptr 1 0))), (7, .sv (.one (I x7))), (9, .sv (.one (LS intT e))), (11, .sv (.one (LS (lsT intT) x.fNext))), (12, .sv (.one (I (x.fNext.length : Int)))), (13, .sv (.one (I x13))), (18, .sv (.one (I s))), (19, .sv (.one (I x13)))], [.gone, .box [.rd (fvR (fun (x : (Int × Int)) => [.sv (.one (I x.1)), .sv (.one (I x.2))]) (fun (r : Int) => .sv (.one (I r))) dommore more)] 97 true]⟩ (by kernel_rfl) ?_
      have hz := h.1
      replace h := h.2
      refine WL.val hn (by rfl) (val_shift (u := s) (v := x13) rfl (by rfl) (by rfl) hz (.inr ⟨rfl, rfl⟩)) (by rfl) ?_
      refine WL.run ht hn 2 ⟨[(0, .sv (.one (I s))), (1, .sv (.one (I a))), (3, .sv (.one (.ptr 1 0))), (7, .sv (.one (I x7))), (9, .sv (.one (LS intT e))), (11, .sv (.one (LS (lsT intT) x.fNext))), (12, .sv (.one (I (x.fNext.length : Int)))), (13, .sv (.one (I x13))), (22, .sv (.one (B ((bitsI .and .i64 (Int.fdiv s (2 ^ (min (x13).toNat 64))) 1) == 1))))], [.gone, .box [.rd (fvR (fun (x : (Int × Int)) => [.sv (.one (I x.1)), .sv (.one (I x.2))]) (fun (r : Int) => .sv (.one (I r))) dommore more)] 97 true]⟩ (by kernel_rfl) ?_
      refine WL.nil ?_
      refine En.cond (b := ((bitsI .and .i64 (Int.fdiv s (2 ^ (min (x13).toNat 64))) 1) == 1)) (by kernel_rfl) (fun hb => ?_) (fun hb => ?_)
      · replace h := h.1 hb
        refine En.region ?_
        refine WL.run ht hn 3 ⟨[(0, .sv (.one (I s))), (1, .sv (.one (I a))), (3, .sv (.one (.ptr 1 0))), (11, .sv (.one (LS (lsT intT) x.fNext))), (12, .sv (.one (I (x.fNext.length : Int)))), (13, .sv (.one (I x13))), (23, .sv (.one (I x7))), (24, .sv (.one (LS intT e))), (25, .sv (.one (I a)))], [.gone, .box [.rd (fvR (fun (x : (Int × Int)) => [.sv (.one (I x.1)), .sv (.one (I x.2))]) (fun (r : Int) => .sv (.one (I r))) dommore more)] 97 true]⟩ (by kernel_rfl) ?_
        obtain ⟨e_2, he_2, h⟩ := h
        refine WL.val hn (by rfl) (val_index (T := intT) (l := e) (i := a) ht rfl (by rfl) (by rfl) (by rfl) (by rfl) (by rfl) (by rfl) he_2) (by rfl) ?_
        refine WL.val hn (by rfl) (val_load (s := .one (I e_2)) ht rfl (by rfl) (by rfl) (by rfl) (by rfl) (by rfl)) (by rfl) ?_
        have hz_2 := h.1
        replace h := h.2
        refine WL.val hn (by rfl) (val_shift (u := 1) (v := e_2) rfl (by rfl) (by rfl) hz_2 (.inl ⟨rfl, rfl⟩)) (by rfl) ?_
        refine WL.run ht hn 2 ⟨[(0, .sv (.one (I s))), (1, .sv (.one (I a))), (3, .sv (.one (.ptr 1 0))), (7, .sv (.one (I (bitsI .or .i64 x7 (wr (1 * (2 ^ (min (e_2).toNat 64)))))))), (11, .sv (.one (LS (lsT intT) x.fNext))), (12, .sv (.one (I (x.fNext.length : Int)))), (13, .sv (.one (I x13)))], [.gone, .box [.rd (fvR (fun (x : (Int × Int)) => [.sv (.one (I x.1)), .sv (.one (I x.2))]) (fun (r : Int) => .sv (.one (I r))) dommore more)] 97 true]⟩ (by kernel_rfl) ?_
        refine WL.nil ?_
        exact En.at (I := fun zz => J zz) (T := fun zz => ⟨[(0, .sv (.one (I s))), (1, .sv (.one (I a))), (3, .sv (.one (.ptr 1 0))), (7, .sv (.one (I zz))), (11, .sv (.one (LS (lsT intT) x.fNext))), (12, .sv (.one (I (x.fNext.length : Int)))), (13, .sv (.one (I x13)))], [.gone, .box [.rd (fvR (fun (x : (Int × Int)) => [.sv (.one (I x.1)), .sv (.one (I x.2))]) (fun (r : Int) => .sv (.one (I r))) dommore more)] 97 true]⟩) (bitsI .or .i64 x7 (wr (1 * (2 ^ (min (e_2).toNat 64))))) h (by kernel_rfl)
      · replace h := h.2 hb
        refine En.skip ?_
        exact En.at (I := fun zz => J zz) (T := fun zz => ⟨[(0, .sv (.one (I s))), (1, .sv (.one (I a))), (3, .sv (.one (.ptr 1 0))), (7, .sv (.one (I zz))), (11, .sv (.one (LS (lsT intT) x.fNext))), (12, .sv (.one (I (x.fNext.length : Int)))), (13, .sv (.one (I x13)))], [.gone, .box [.rd (fvR (fun (x : (Int × Int)) => [.sv (.one (I x.1)), .sv (.one (I x.2))]) (fun (r : Int) => .sv (.one (I r))) dommore more)] 97 true]⟩) x7 h (by kernel_rfl)
    · intro x7_2 h
      replace h := hJ _ h
      show En c ⟨[(0, .sv (.one (I s))), (1, .sv (.one (I a))), (3, .sv (.one (.ptr 1 0))), (7, .sv (.one (I x7_2))), (11, .sv (.one (LS (lsT intT) x.fNext))), (12, .sv (.one (I (x.fNext.length : Int)))), (13, .sv (.one (I x13)))], [.gone, .box [.rd (fvR (fun (x : (Int × Int)) => [.sv (.one (I x.1)), .sv (.one (I x.2))]) (fun (r : Int) => .sv (.one (I r))) dommore more)] 97 true]⟩ _
      refine En.region ?_
      refine WL.run ht hn 2 ⟨[(0, .sv (.one (I s))), (1, .sv (.one (I a))), (3, .sv (.one (.ptr 1 0))), (7, .sv (.one (I x7_2))), (11, .sv (.one (LS (lsT intT) x.fNext))), (12, .sv (.one (I (x.fNext.length : Int)))), (13, .sv (.one (I (wr (x13 + 1)))))], [.gone, .box [.rd (fvR (fun (x : (Int × Int)) => [.sv (.one (I x.1)), .sv (.one (I x.2))]) (fun (r : Int) => .sv (.one (I r))) dommore more)] 97 true]⟩ (by kernel_rfl) ?_
      refine WL.nil ?_
      exact En.at (I := fun zz => Inv zz.1 zz.2 ∧ mu zz.1 zz.2 < mu x7 x13) (T := fun zz => ⟨[(0, .sv (.one (I s))), (1, .sv (.one (I a))), (3, .sv (.one (.ptr 1 0))), (7, .sv (.one (I zz.1))), (11, .sv (.one (LS (lsT intT) x.fNext))), (12, .sv (.one (I (x.fNext.length : Int)))), (13, .sv (.one (I zz.2)))], [.gone, .box [.rd (fvR (fun (x : (Int × Int)) => [.sv (.one (I x.1)), .sv (.one (I x.2))]) (fun (r : Int) => .sv (.one (I r))) dommore more)] 97 true]⟩) (x7_2, (wr (x13 + 1))) h (by kernel_rfl)
  · replace h := h.2 hb
    refine En.exit rfl ?_
    refine En.seq ?_
    refine En.region ?_
    refine WL.run ht hn 3 ⟨[(31, .sv (.one (.rd (fvR (fun (x : (Int × Int)) => [.sv (.one (I x.1)), .sv (.one (I x.2))]) (fun (r : Int) => .sv (.one (I r))) dommore more)))), (32, .sv (.one (I s))), (33, .sv (.one (I x7)))], [.gone, .gone]⟩ (by kernel_rfl) ?_
    have hp := h.1
    replace h := h.2
    refine WL.mt0 (K := []) (p := none) hn (by rfl) (mt_callv (s, x7) hp rfl (by rfl) (by rfl) (by rfl) (by rfl)) (by rfl) (by rfl) (by rfl) ?_
    refine WL.run ht hn 1 ⟨[(6, .sv (.one (I (more (s, x7)))))], [.gone, .gone]⟩ (by kernel_rfl) ?_
    refine WL.nil ?_
    refine En.ret ?_
    exact En.back ht (more (s, x7)) h (by kernel_rfl) rfl
theorem en118 : ∀ args w, (callFunc 118 args).run Try.prog w = .ok (.enter 118 args) w := enters_of Try.func118 (by kernel_rfl) rfl
def setsMark_vc (s : Int) (good : Int) (Q : Int → Prop) : Prop :=
  IfP ((bitsI .and .i64 s good) != 0) (Q 1) (Q 0)
theorem setsMark_walk (s : Int) (good : Int) (Q : Int → Prop) (h : setsMark_vc s good Q) : Ct 119 [.sv (.one (I s)), .sv (.one (.ptr 0 0))] [.box [I good] 3 true] Q (fun (r : Int) => .sv (.one (I r))) := by
  have ht := tab_ok
  refine Ct.body Try.func119 rfl rfl rfl rfl (fun c hn => ?_)
  unfold setsMark_vc at h
  refine En.seq ?_
  refine En.region ?_
  refine WL.run ht hn 1 ⟨[(0, .sv (.one (I s))), (1, .sv (.one (.ptr 0 0)))], [.box [I good] 3 true]⟩ (by kernel_rfl) ?_
  refine WL.nil ?_
  refine En.seq ?_
  refine En.seq ?_
  refine En.region ?_
  refine WL.run ht hn 4 ⟨[(7, .sv (.one (B ((bitsI .and .i64 s good) != 0))))], [.gone]⟩ (by kernel_rfl) ?_
  refine WL.nil ?_
  refine En.cond (b := ((bitsI .and .i64 s good) != 0)) (by kernel_rfl) (fun hb => ?_) (fun hb => ?_)
  · replace h := h.1 hb
    refine En.seq ?_
    refine En.region ?_
    refine WL.run ht hn 1 ⟨[(3, .sv (.one (I 1)))], [.gone]⟩ (by kernel_rfl) ?_
    refine WL.nil ?_
    refine En.ret ?_
    exact En.back ht 1 h (by kernel_rfl) rfl
  · replace h := h.2 hb
    refine En.skip ?_
    refine En.seq ?_
    refine En.region ?_
    refine WL.run ht hn 1 ⟨[(3, .sv (.one (I 0)))], [.gone]⟩ (by kernel_rfl) ?_
    refine WL.nil ?_
    refine En.ret ?_
    exact En.back ht 0 h (by kernel_rfl) rfl
theorem en119 : ∀ args w, (callFunc 119 args).run Try.prog w = .ok (.enter 119 args) w := enters_of Try.func119 (by kernel_rfl) rfl
theorem setsGo_ct (s : Int) (a : Int) (x : ApiDet) (dommore : ((Int × Int) → Prop)) (more : ((Int × Int) → Int)) (hd : smallD x ∧ setN x.fNext.length s ∧ 0 ≤ a ∧ a < x.fLetters ∧ dommore (s, stepS x s a)) : Ct 118 [.sv (.one (I s)), .sv (.one (I a)), .sv (.one (.ptr 0 0)), .sv (.one (.ptr 1 0))] [.box [I x.fLetters, I x.fStart, LS (lsT intT) x.fNext, LS intT x.fMark] 25 true, .box [.rd (fvR (fun (x : (Int × Int)) => [.sv (.one (I x.1)), .sv (.one (I x.2))]) (fun (r : Int) => .sv (.one (I r))) dommore more)] 97 true] (fun (_ : Unit) => True) (fun _ => .sv (.one (I (more (s, stepS x s a))))) := by
  refine (setsGo_walk s a x dommore more (fun res_ => res_ = (more (s, stepS x s a))) ?_).fun
  obtain ⟨⟨hx, hn⟩, hs, ha0, ha1, hm⟩ := hd
  have hp := hx.cls.pre
  refine ⟨fun u i => ∃ k : Nat, i = k ∧ k ≤ x.fNext.length ∧ setN x.fNext.length u ∧ ∀ q : Nat, hasB u (q : Int) = true ↔ ∃ p : Nat, p < k ∧ hasB s (p : Int) = true ∧ stepD x p a.toNat = q, fun _ i => x.fNext.length - i.toNat, ⟨0, rfl, Nat.zero_le _, setN_zero _, fun q => ?_⟩, ?_⟩
  · constructor
    · intro h; unfold hasB at h; simp at h
    · rintro ⟨p, h, _⟩; exact absurd h (Nat.not_lt_zero _)
  rintro u i ⟨k, rfl, hk, hu, hq⟩
  refine ⟨fun hb => ?_, fun hb => ?_⟩
  · have hlt := dlt hb
    have hmem : x.fNext[k] ∈ x.fNext := List.getElem_mem hlt
    have hrow := hx.rows _ hmem
    have hgd : x.fNext.getD k [] = x.fNext[k] := by rw [List.getD_eq_getElem?_getD, List.getElem?_eq_getElem hlt]; rfl
    have hto := hx.in_ _ hmem _ (getD_mem (l := x.fNext[k]) (i := a.toNat) (z := 0) (by omega))
    have hsd : stepD x k a.toNat = (x.fNext[k].getD a.toNat 0).toNat := by
      unfold stepD
      rw [hgd]
    have hbit := setN_bit hn hs (p := (k : Int)) (by omega)
    refine ⟨fun v => setN x.fNext.length v ∧ ∀ q : Nat, hasB v (q : Int) = true ↔ ∃ p : Nat, p < k + 1 ∧ hasB s (p : Int) = true ∧ stepD x p a.toNat = q, ⟨_, idx_at hlt, by omega, fun h => ⟨_, idx_of 0 ha0 (by omega), hto.1, ?_⟩, fun h => ?_⟩, ?_⟩
    · rw [hbit] at h
      have hk' : hasB s (k : Int) = true := by cases hh : hasB s (k : Int) <;> simp [hh] at h ⊢
      rw [or_add hn hu hto]
      refine ⟨addS_in hu (by omega), fun q => addS_has.trans ?_⟩
      rw [hq q]
      constructor
      · rintro (⟨p, h1, h2, h3⟩ | rfl)
        · exact ⟨p, by omega, h2, h3⟩
        · exact ⟨k, by omega, hk', hsd⟩
      · rintro ⟨p, h1, h2, h3⟩
        by_cases e : p = k
        · subst e; exact .inr (by rw [← h3, hsd])
        · exact .inl ⟨p, by omega, h2, h3⟩
    · rw [hbit] at h
      refine ⟨hu, fun q => (hq q).trans ⟨?_, ?_⟩⟩
      · rintro ⟨p, h1, h2, h3⟩
        exact ⟨p, by omega, h2, h3⟩
      · rintro ⟨p, h1, h2, h3⟩
        by_cases e : p = k
        · subst e; rw [h2] at h; cases h
        · exact ⟨p, by omega, h2, h3⟩
    · rintro v ⟨h1, h2⟩
      exact ⟨⟨k + 1, wsucc (by omega), hlt, h1, h2⟩, mu_up hlt (by omega)⟩
  · have : k = x.fNext.length := by have := dge hb; omega
    subst this
    have : u = stepS x s a := set_ext hu.1 stepS_in.1 fun q => by
      rw [hq q, stepS_has]
      constructor
      · rintro ⟨p, h1, h2, rfl⟩
        exact ⟨hp.step h1, p, h1, h2, rfl⟩
      · rintro ⟨_, p, h1, h2, h3⟩
        exact ⟨p, h1, h2, h3⟩
    subst this
    exact ⟨hm, rfl⟩
theorem setsMark_ct (s : Int) (good : Int)  : Ct 119 [.sv (.one (I s)), .sv (.one (.ptr 0 0))] [.box [I good] 3 true] (fun (_ : Unit) => True) (fun _ => .sv (.one (I (meetB s good)))) := by
  refine (setsMark_walk s good (fun res_ => res_ = (meetB s good)) ?_).fun
  refine ⟨fun h => ?_, fun h => ?_⟩
  · show _ = meetB s good
    unfold meetB
    rw [if_neg (by simpa using h)]
  · show _ = meetB s good
    unfold meetB
    rw [if_pos (by simpa using h)]
def higSets_vc (x : ApiDet) (first : Int) (dommore : ((Int × Int) → Prop)) (more : ((Int × Int) → Int)) (Q : ApiDet → Prop) : Prop :=
  x.fNext.length ≤ 9223372036854775807 →
  x.fMark.length ≤ 9223372036854775807 →
  (∃ (Inv : Int → Int → Prop) (mu : Int → Int → Nat), Inv 0 0 ∧
  ∀ (x15 : Int) (y3 : Int) , Inv x15 y3 → (IfP (decide (x15 < (x.fMark.length : Int))) (∃ e, idx x.fMark x15 = some e ∧
  (0 ≤ x15) ∧
  (Inv (wr (x15 + 1)) (bitsI .or .i64 y3 (wr (e * (2 ^ (min (x15).toNat 64))))) ∧ mu (wr (x15 + 1)) (bitsI .or .i64 y3 (wr (e * (2 ^ (min (x15).toNat 64))))) < mu x15 y3)) ((ExplPre x.fLetters first (fun (z : Int × Int) => smallD x ∧ setN (x).fNext.length z.1 ∧ 0 ≤ z.2 ∧ z.2 < (x).fLetters ∧ dommore (z.1, stepS x z.1 z.2)) (fun (z : Int × Int) => more (z.1, stepS x z.1 z.2)) (fun _ => True) 64) ∧
  (ClsOk (explR (fun k (a : Nat) => (fun (z : Int × Int) => more (z.1, stepS x z.1 z.2)) (k, (a : Int))) (fun s => meetB s y3) (x.fLetters).toNat first 64).1) ∧
  Q (canon ((explR (fun k (a : Nat) => (fun (z : Int × Int) => more (z.1, stepS x z.1 z.2)) (k, (a : Int))) (fun s => meetB s y3) (x.fLetters).toNat first 64).1).fLetters.toNat (langD (explR (fun k (a : Nat) => (fun (z : Int × Int) => more (z.1, stepS x z.1 z.2)) (k, (a : Int))) (fun s => meetB s y3) (x.fLetters).toNat first 64).1 ((explR (fun k (a : Nat) => (fun (z : Int × Int) => more (z.1, stepS x z.1 z.2)) (k, (a : Int))) (fun s => meetB s y3) (x.fLetters).toNat first 64).1).fStart.toNat)))))
theorem higSets_walk (x : ApiDet) (first : Int) (dommore : ((Int × Int) → Prop)) (more : ((Int × Int) → Int)) (Q : ApiDet → Prop) (h : higSets_vc x first dommore more Q) : Ct 47 [.sv (.agg [I x.fLetters, I x.fStart, LS (lsT intT) x.fNext, LS intT x.fMark]), .sv (.one (I first)), .sv (.one (.rd (fvR (fun (x : (Int × Int)) => [.sv (.one (I x.1)), .sv (.one (I x.2))]) (fun (r : Int) => .sv (.one (I r))) dommore more)))] [] Q (fun (r : ApiDet) => .sv (.agg [I r.fLetters, I r.fStart, LS (lsT intT) r.fNext, LS intT r.fMark])) := by
  have ht := tab_ok
  refine Ct.body Try.func47 rfl rfl rfl rfl (fun c hn => ?_)
  unfold higSets_vc at h
  refine En.lenA 0 2 (by rfl) (by rfl) (fun hl => ?_)
  replace h := h hl
  clear hl
  refine En.lenA 0 3 (by rfl) (by rfl) (fun hl => ?_)
  replace h := h hl
  clear hl
  refine En.seq ?_
  refine En.region ?_
  refine WL.run ht hn 3 ⟨[(1, .sv (.one (I first))), (3, .sv (.one (.ptr 0 0))), (5, .sv (.one (.ptr 1 0))), (6, .sv (.one (.ptr 2 0)))], [.box [I x.fLetters, I x.fStart, LS (lsT intT) x.fNext, LS intT x.fMark] 25 false, .box [.rd (fvR (fun (x : (Int × Int)) => [.sv (.one (I x.1)), .sv (.one (I x.2))]) (fun (r : Int) => .sv (.one (I r))) dommore more)] 97 false, .box [I 0, I 0, .v (.slice none 0 0), .v (.slice none 0 0)] 25 false]⟩ (by kernel_rfl) ?_
  refine WL.nil ?_
  refine En.seq ?_
  refine En.region ?_
  refine WL.run ht hn 2 ⟨[(1, .sv (.one (I first))), (3, .sv (.one (.ptr 0 0))), (5, .sv (.one (.ptr 1 0))), (6, .sv (.one (.ptr 2 0))), (7, .sv (.one (.ptr 3 0)))], [.box [I x.fLetters, I x.fStart, LS (lsT intT) x.fNext, LS intT x.fMark] 25 false, .box [.rd (fvR (fun (x : (Int × Int)) => [.sv (.one (I x.1)), .sv (.one (I x.2))]) (fun (r : Int) => .sv (.one (I r))) dommore more)] 97 false, .box [I 0, I 0, .v (.slice none 0 0), .v (.slice none 0 0)] 25 false, .box [I 0] 3 false]⟩ (by kernel_rfl) ?_
  refine WL.nil ?_
  refine En.seq ?_
  refine En.seq ?_
  refine En.region ?_
  refine WL.run ht hn 4 ⟨[(1, .sv (.one (I first))), (3, .sv (.one (.ptr 0 0))), (5, .sv (.one (.ptr 1 0))), (6, .sv (.one (.ptr 2 0))), (7, .sv (.one (.ptr 3 0))), (13, .sv (.one (LS intT x.fMark))), (14, .sv (.one (I (x.fMark.length : Int)))), (15, .sv (.one (I 0)))], [.box [I x.fLetters, I x.fStart, LS (lsT intT) x.fNext, LS intT x.fMark] 25 false, .box [.rd (fvR (fun (x : (Int × Int)) => [.sv (.one (I x.1)), .sv (.one (I x.2))]) (fun (r : Int) => .sv (.one (I r))) dommore more)] 97 false, .box [I 0, I 0, .v (.slice none 0 0), .v (.slice none 0 0)] 25 false, .box [I 0] 3 false]⟩ (by kernel_rfl) ?_
  refine WL.nil ?_
  refine En.block ?_
  obtain ⟨Inv, mu, h0, hI⟩ := h
  refine En.loop (σ := Int × Int) (fun zz => Inv zz.1 zz.2) (fun zz => mu zz.1 zz.2) (fun zz => ⟨[(1, .sv (.one (I first))), (3, .sv (.one (.ptr 0 0))), (5, .sv (.one (.ptr 1 0))), (6, .sv (.one (.ptr 2 0))), (7, .sv (.one (.ptr 3 0))), (13, .sv (.one (LS intT x.fMark))), (14, .sv (.one (I (x.fMark.length : Int)))), (15, .sv (.one (I zz.1)))], [.box [I x.fLetters, I x.fStart, LS (lsT intT) x.fNext, LS intT x.fMark] 25 false, .box [.rd (fvR (fun (x : (Int × Int)) => [.sv (.one (I x.1)), .sv (.one (I x.2))]) (fun (r : Int) => .sv (.one (I r))) dommore more)] 97 false, .box [I 0, I 0, .v (.slice none 0 0), .v (.slice none 0 0)] 25 false, .box [I zz.2] 3 false]⟩) (0, 0) h0 (sub_ok (by kernel_rfl)) ?_
  rintro ⟨x15, y3⟩ h
  replace h := hI _ _ h
  show En c ⟨[(1, .sv (.one (I first))), (3, .sv (.one (.ptr 0 0))), (5, .sv (.one (.ptr 1 0))), (6, .sv (.one (.ptr 2 0))), (7, .sv (.one (.ptr 3 0))), (13, .sv (.one (LS intT x.fMark))), (14, .sv (.one (I (x.fMark.length : Int)))), (15, .sv (.one (I x15)))], [.box [I x.fLetters, I x.fStart, LS (lsT intT) x.fNext, LS intT x.fMark] 25 false, .box [.rd (fvR (fun (x : (Int × Int)) => [.sv (.one (I x.1)), .sv (.one (I x.2))]) (fun (r : Int) => .sv (.one (I r))) dommore more)] 97 false, .box [I 0, I 0, .v (.slice none 0 0), .v (.slice none 0 0)] 25 false, .box [I y3] 3 false]⟩ _
  refine En.seq ?_
  refine En.region ?_
  refine WL.run ht hn 1 ⟨[(1, .sv (.one (I first))), (3, .sv (.one (.ptr 0 0))), (5, .sv (.one (.ptr 1 0))), (6, .sv (.one (.ptr 2 0))), (7, .sv (.one (.ptr 3 0))), (13, .sv (.one (LS intT x.fMark))), (14, .sv (.one (I (x.fMark.length : Int)))), (15, .sv (.one (I x15))), (16, .sv (.one (B (decide (x15 < (x.fMark.length : Int))))))], [.box [I x.fLetters, I x.fStart, LS (lsT intT) x.fNext, LS intT x.fMark] 25 false, .box [.rd (fvR (fun (x : (Int × Int)) => [.sv (.one (I x.1)), .sv (.one (I x.2))]) (fun (r : Int) => .sv (.one (I r))) dommore more)] 97 false, .box [I 0, I 0, .v (.slice none 0 0), .v (.slice none 0 0)] 25 false, .box [I y3] 3 false]⟩ (by kernel_rfl) ?_
  refine WL.nil ?_
  refine En.seq ?_
  refine En.cond (b := (decide (x15 < (x.fMark.length : Int)))) (by kernel_rfl) (fun hb => ?_) (fun hb => ?_)
  · replace h := h.1 hb
    refine En.skip ?_
    refine En.seq ?_
    refine En.block ?_
    refine En.seq ?_
    refine En.region ?_
    refine WL.run ht hn 1 ⟨[(1, .sv (.one (I first))), (3, .sv (.one (.ptr 0 0))), (5, .sv (.one (.ptr 1 0))), (6, .sv (.one (.ptr 2 0))), (7, .sv (.one (.ptr 3 0))), (13, .sv (.one (LS intT x.fMark))), (14, .sv (.one (I (x.fMark.length : Int)))), (15, .sv (.one (I x15))), (17, .sv (.one (I x15)))], [.box [I x.fLetters, I x.fStart, LS (lsT intT) x.fNext, LS intT x.fMark] 25 false, .box [.rd (fvR (fun (x : (Int × Int)) => [.sv (.one (I x.1)), .sv (.one (I x.2))]) (fun (r : Int) => .sv (.one (I r))) dommore more)] 97 false, .box [I 0, I 0, .v (.slice none 0 0), .v (.slice none 0 0)] 25 false, .box [I y3] 3 false]⟩ (by kernel_rfl) ?_
    obtain ⟨e, he, h⟩ := h
    refine WL.val hn (by rfl) (val_index (T := intT) (l := x.fMark) (i := x15) ht rfl (by rfl) (by rfl) (by rfl) (by rfl) (by rfl) (by rfl) he) (by rfl) ?_
    refine WL.val hn (by rfl) (val_load (s := .one (I e)) ht rfl (by rfl) (by rfl) (by rfl) (by rfl) (by rfl)) (by rfl) ?_
    refine WL.run ht hn 2 ⟨[(1, .sv (.one (I first))), (3, .sv (.one (.ptr 0 0))), (5, .sv (.one (.ptr 1 0))), (6, .sv (.one (.ptr 2 0))), (7, .sv (.one (.ptr 3 0))), (8, .sv (.one (I x15))), (9, .sv (.one (I e))), (13, .sv (.one (LS intT x.fMark))), (14, .sv (.one (I (x.fMark.length : Int)))), (15, .sv (.one (I x15)))], [.box [I x.fLetters, I x.fStart, LS (lsT intT) x.fNext, LS intT x.fMark] 25 false, .box [.rd (fvR (fun (x : (Int × Int)) => [.sv (.one (I x.1)), .sv (.one (I x.2))]) (fun (r : Int) => .sv (.one (I r))) dommore more)] 97 false, .box [I 0, I 0, .v (.slice none 0 0), .v (.slice none 0 0)] 25 false, .box [I y3] 3 false]⟩ (by kernel_rfl) ?_
    refine WL.nil ?_
    have hz := h.1
    replace h := h.2
    refine En.regionA ⟨[(1, .sv (.one (I first))), (3, .sv (.one (.ptr 0 0))), (5, .sv (.one (.ptr 1 0))), (6, .sv (.one (.ptr 2 0))), (7, .sv (.one (.ptr 3 0))), (8, .sv (.one (I x15))), (9, .sv (.one (I e))), (13, .sv (.one (LS intT x.fMark))), (14, .sv (.one (I (x.fMark.length : Int)))), (15, .sv (.one (I x15)))], [.sv (.one (I y3)), .sv (.one (I e)), .sv (.one (I x15)), .sv (.one (I (wr (e * (2 ^ (min (x15).toNat 64)))))), .sv (.one (I (bitsI .or .i64 y3 (wr (e * (2 ^ (min (x15).toNat 64))))))), .tup []], [⟨.box [I x.fLetters, I x.fStart, LS (lsT intT) x.fNext, LS intT x.fMark] 25 false, none, none, none⟩, ⟨.box [.rd (fvR (fun (x : (Int × Int)) => [.sv (.one (I x.1)), .sv (.one (I x.2))]) (fun (r : Int) => .sv (.one (I r))) dommore more)] 97 false, none, none, none⟩, ⟨.box [I 0, I 0, .v (.slice none 0 0), .v (.slice none 0 0)] 25 false, none, none, none⟩, ⟨.box [I y3] 3 false, none, none, some (5, .box [I (bitsI .or .i64 y3 (wr (e * (2 ^ (min (x15).toNat 64)))))] 3 false)⟩]⟩ ⟨[(1, .sv (.one (I first))), (3, .sv (.one (.ptr 0 0))), (5, .sv (.one (.ptr 1 0))), (6, .sv (.one (.ptr 2 0))), (7, .sv (.one (.ptr 3 0))), (13, .sv (.one (LS intT x.fMark))), (14, .sv (.one (I (x.fMark.length : Int)))), (15, .sv (.one (I x15)))], [.box [I x.fLetters, I x.fStart, LS (lsT intT) x.fNext, LS intT x.fMark] 25 false, .box [.rd (fvR (fun (x : (Int × Int)) => [.sv (.one (I x.1)), .sv (.one (I x.2))]) (fun (r : Int) => .sv (.one (I r))) dommore more)] 97 false, .box [I 0, I 0, .v (.slice none 0 0), .v (.slice none 0 0)] 25 false, .box [I (bitsI .or .i64 y3 (wr (e * (2 ^ (min (x15).toNat 64)))))] 3 false]⟩ (by kernel_rfl) hn (by kernel_rfl) (by rfl) (by kernel_rfl) ?_ (by kernel_rfl) ?_
    · exact ⟨.mt ⟨[(7, .sv (.one (.ptr 3 0)))], [.gone, .gone, .gone, .box [I y3] 3 false]⟩ [] none (by kernel_rfl) (by rfl) (mt_ev ht (by kernel_rfl)) rfl rfl rfl rfl,
    .mt ⟨[(9, .sv (.one (I e)))], []⟩ [] none (by kernel_rfl) (by rfl) (mt_ev ht (by kernel_rfl)) rfl rfl rfl rfl,
    .mt ⟨[(8, .sv (.one (I x15)))], []⟩ [] none (by kernel_rfl) (by rfl) (mt_ev ht (by kernel_rfl)) rfl rfl rfl rfl,
    .mt ⟨[(21, .sv (.one (I e))), (22, .sv (.one (I x15)))], []⟩ [] none (by kernel_rfl) (by rfl) (mt_val (val_shift (u := e) (v := x15) rfl (by rfl) (by rfl) hz (.inl ⟨rfl, rfl⟩))) rfl rfl rfl rfl,
    .mt ⟨[(20, .sv (.one (I y3))), (23, .sv (.one (I (wr (e * (2 ^ (min (x15).toNat 64)))))))], []⟩ [] none (by kernel_rfl) (by rfl) (mt_ev ht (by kernel_rfl)) rfl rfl rfl rfl,
    .mu ⟨[(7, .sv (.one (.ptr 3 0))), (24, .sv (.one (I (bitsI .or .i64 y3 (wr (e * (2 ^ (min (x15).toNat 64))))))))], [.gone, .gone, .gone, .box [I y3] 3 false]⟩ 3 _ _ rfl rfl (by kernel_rfl) (by rfl) (mu_store2 ht rfl (by rfl) (by rfl) (by rfl) (by rfl) (fun h => by cases h) (by rfl) (by rfl)) rfl rfl rfl rfl rfl rfl rfl,
    trivial⟩
    · refine En.region ?_
      refine WL.run ht hn 2 ⟨[(1, .sv (.one (I first))), (3, .sv (.one (.ptr 0 0))), (5, .sv (.one (.ptr 1 0))), (6, .sv (.one (.ptr 2 0))), (7, .sv (.one (.ptr 3 0))), (13, .sv (.one (LS intT x.fMark))), (14, .sv (.one (I (x.fMark.length : Int)))), (15, .sv (.one (I (wr (x15 + 1)))))], [.box [I x.fLetters, I x.fStart, LS (lsT intT) x.fNext, LS intT x.fMark] 25 false, .box [.rd (fvR (fun (x : (Int × Int)) => [.sv (.one (I x.1)), .sv (.one (I x.2))]) (fun (r : Int) => .sv (.one (I r))) dommore more)] 97 false, .box [I 0, I 0, .v (.slice none 0 0), .v (.slice none 0 0)] 25 false, .box [I (bitsI .or .i64 y3 (wr (e * (2 ^ (min (x15).toNat 64)))))] 3 false]⟩ (by kernel_rfl) ?_
      refine WL.nil ?_
      exact En.at (I := fun zz => Inv zz.1 zz.2 ∧ mu zz.1 zz.2 < mu x15 y3) (T := fun zz => ⟨[(1, .sv (.one (I first))), (3, .sv (.one (.ptr 0 0))), (5, .sv (.one (.ptr 1 0))), (6, .sv (.one (.ptr 2 0))), (7, .sv (.one (.ptr 3 0))), (13, .sv (.one (LS intT x.fMark))), (14, .sv (.one (I (x.fMark.length : Int)))), (15, .sv (.one (I zz.1)))], [.box [I x.fLetters, I x.fStart, LS (lsT intT) x.fNext, LS intT x.fMark] 25 false, .box [.rd (fvR (fun (x : (Int × Int)) => [.sv (.one (I x.1)), .sv (.one (I x.2))]) (fun (r : Int) => .sv (.one (I r))) dommore more)] 97 false, .box [I 0, I 0, .v (.slice none 0 0), .v (.slice none 0 0)] 25 false, .box [I zz.2] 3 false]⟩) ((wr (x15 + 1)), (bitsI .or .i64 y3 (wr (e * (2 ^ (min (x15).toNat 64)))))) h (by kernel_rfl)
  · replace h := h.2 hb
    refine En.exit rfl ?_
    refine En.seq ?_
    refine En.region ?_
    refine WL.run ht hn 5 ⟨[(6, .sv (.one (.ptr 2 0))), (28, .sv (.one (I x.fLetters))), (29, .sv (.one (I first))), (30, .sv (.one (.fn 118 [0, 1]))), (31, .sv (.one (.fn 119 [3])))], [.box [I x.fLetters, I x.fStart, LS (lsT intT) x.fNext, LS intT x.fMark] 25 false, .box [.rd (fvR (fun (x : (Int × Int)) => [.sv (.one (I x.1)), .sv (.one (I x.2))]) (fun (r : Int) => .sv (.one (I r))) dommore more)] 97 false, .box [I 0, I 0, .v (.slice none 0 0), .v (.slice none 0 0)] 25 false, .box [I y3] 3 false]⟩ (by kernel_rfl) ?_
    refine WL.freeze [0, 1] (by rfl) ?_
    refine WL.ghost 30 (.sv (.one (.rd (fvR (fun (x_ : (Int × Int)) => [.sv (.one (I x_.1)), .sv (.one (I x_.2))]) (fun (r : Int) => .sv (.one (I r))) (fun (z : Int × Int) => smallD x ∧ setN (x).fNext.length z.1 ∧ 0 ≤ z.2 ∧ z.2 < (x).fLetters ∧ dommore (z.1, stepS x z.1 z.2)) (fun (z : Int × Int) => more (z.1, stepS x z.1 z.2)))))) (by rfl) (fv_of (M := [.box [I x.fLetters, I x.fStart, LS (lsT intT) x.fNext, LS intT x.fMark] 25 true, .box [.rd (fvR (fun (x : (Int × Int)) => [.sv (.one (I x.1)), .sv (.one (I x.2))]) (fun (r : Int) => .sv (.one (I r))) dommore more)] 97 true]) (caps := [0, 1]) (fun x_ hx => setsGo_ct x_.1 x_.2 x dommore more hx) en118 rfl (by kernel_rfl) (by rfl) (fun _ => rfl)) ?_
    refine WL.freeze [3] (by rfl) ?_
    refine WL.ghost 31 (.sv (.one (.rd (fvR (fun (x_ : Int) => [.sv (.one (I x_))]) (fun (r : Int) => .sv (.one (I r))) (fun _ => True) (fun s => meetB s y3))))) (by rfl) (fv_of (M := [.box [I y3] 3 true]) (caps := [3]) (fun x_ _ => setsMark_ct x_ y3) en119 rfl (by kernel_rfl) (by rfl) (fun _ => rfl)) ?_
    have hp := h.1
    replace h := h.2
    refine WL.mt0 (K := []) (p := none) hn (by rfl) (mt_call (exploreInt_ct x.fLetters first (fun (z : Int × Int) => smallD x ∧ setN (x).fNext.length z.1 ∧ 0 ≤ z.2 ∧ z.2 < (x).fLetters ∧ dommore (z.1, stepS x z.1 z.2)) (fun (z : Int × Int) => more (z.1, stepS x z.1 z.2)) (fun _ => True) (fun s => meetB s y3) 64 hp) en94 (caps := []) [] rfl (by rfl) (by kernel_rfl) (by kernel_rfl) (by rfl) (by rfl) (by rfl)) (by rfl) (by rfl) (by rfl) ?_
    refine WL.run ht hn 6 ⟨[(6, .sv (.one (.ptr 2 0))), (10, .sv (.one (.ptr 4 0)))], [.gone, .gone, .box [I 0, I 0, .v (.slice none 0 0), .v (.slice none 0 0)] 25 false, .gone, .box [I (explR (fun k (a : Nat) => (fun (z : Int × Int) => more (z.1, stepS x z.1 z.2)) (k, (a : Int))) (fun s => meetB s y3) (x.fLetters).toNat first 64).1.fLetters, I (explR (fun k (a : Nat) => (fun (z : Int × Int) => more (z.1, stepS x z.1 z.2)) (k, (a : Int))) (fun s => meetB s y3) (x.fLetters).toNat first 64).1.fStart, LS (lsT intT) (explR (fun k (a : Nat) => (fun (z : Int × Int) => more (z.1, stepS x z.1 z.2)) (k, (a : Int))) (fun s => meetB s y3) (x.fLetters).toNat first 64).1.fNext, LS intT (explR (fun k (a : Nat) => (fun (z : Int × Int) => more (z.1, stepS x z.1 z.2)) (k, (a : Int))) (fun s => meetB s y3) (x.fLetters).toNat first 64).1.fMark] 25 false]⟩ (by kernel_rfl) ?_
    refine WL.nil ?_
    refine En.seq ?_
    refine En.region ?_
    refine WL.run ht hn 1 ⟨[(6, .sv (.one (.ptr 2 0))), (35, .sv (.agg [I (explR (fun k (a : Nat) => (fun (z : Int × Int) => more (z.1, stepS x z.1 z.2)) (k, (a : Int))) (fun s => meetB s y3) (x.fLetters).toNat first 64).1.fLetters, I (explR (fun k (a : Nat) => (fun (z : Int × Int) => more (z.1, stepS x z.1 z.2)) (k, (a : Int))) (fun s => meetB s y3) (x.fLetters).toNat first 64).1.fStart, LS (lsT intT) (explR (fun k (a : Nat) => (fun (z : Int × Int) => more (z.1, stepS x z.1 z.2)) (k, (a : Int))) (fun s => meetB s y3) (x.fLetters).toNat first 64).1.fNext, LS intT (explR (fun k (a : Nat) => (fun (z : Int × Int) => more (z.1, stepS x z.1 z.2)) (k, (a : Int))) (fun s => meetB s y3) (x.fLetters).toNat first 64).1.fMark]))], [.gone, .gone, .box [I 0, I 0, .v (.slice none 0 0), .v (.slice none 0 0)] 25 false, .gone, .gone]⟩ (by kernel_rfl) ?_
    have hp := h.1
    replace h := h.2
    refine WL.mt0 (K := []) (p := none) hn (by rfl) (mt_call (smallest_ct (explR (fun k (a : Nat) => (fun (z : Int × Int) => more (z.1, stepS x z.1 z.2)) (k, (a : Int))) (fun s => meetB s y3) (x.fLetters).toNat first 64).1 hp) en45 (caps := []) [] rfl (by rfl) (by kernel_rfl) (by kernel_rfl) (by rfl) (by rfl) (by rfl)) (by rfl) (by rfl) (by rfl) ?_
    refine WL.run ht hn 1 ⟨[(6, .sv (.one (.ptr 2 0)))], [.gone, .gone, .box [I (canon ((explR (fun k (a : Nat) => (fun (z : Int × Int) => more (z.1, stepS x z.1 z.2)) (k, (a : Int))) (fun s => meetB s y3) (x.fLetters).toNat first 64).1).fLetters.toNat (langD (explR (fun k (a : Nat) => (fun (z : Int × Int) => more (z.1, stepS x z.1 z.2)) (k, (a : Int))) (fun s => meetB s y3) (x.fLetters).toNat first 64).1 ((explR (fun k (a : Nat) => (fun (z : Int × Int) => more (z.1, stepS x z.1 z.2)) (k, (a : Int))) (fun s => meetB s y3) (x.fLetters).toNat first 64).1).fStart.toNat)).fLetters, I (canon ((explR (fun k (a : Nat) => (fun (z : Int × Int) => more (z.1, stepS x z.1 z.2)) (k, (a : Int))) (fun s => meetB s y3) (x.fLetters).toNat first 64).1).fLetters.toNat (langD (explR (fun k (a : Nat) => (fun (z : Int × Int) => more (z.1, stepS x z.1 z.2)) (k, (a : Int))) (fun s => meetB s y3) (x.fLetters).toNat first 64).1 ((explR (fun k (a : Nat) => (fun (z : Int × Int) => more (z.1, stepS x z.1 z.2)) (k, (a : Int))) (fun s => meetB s y3) (x.fLetters).toNat first 64).1).fStart.toNat)).fStart, LS (lsT intT) (canon ((explR (fun k (a : Nat) => (fun (z : Int × Int) => more (z.1, stepS x z.1 z.2)) (k, (a : Int))) (fun s => meetB s y3) (x.fLetters).toNat first 64).1).fLetters.toNat (langD (explR (fun k (a : Nat) => (fun (z : Int × Int) => more (z.1, stepS x z.1 z.2)) (k, (a : Int))) (fun s => meetB s y3) (x.fLetters).toNat first 64).1 ((explR (fun k (a : Nat) => (fun (z : Int × Int) => more (z.1, stepS x z.1 z.2)) (k, (a : Int))) (fun s => meetB s y3) (x.fLetters).toNat first 64).1).fStart.toNat)).fNext, LS intT (canon ((explR (fun k (a : Nat) => (fun (z : Int × Int) => more (z.1, stepS x z.1 z.2)) (k, (a : Int))) (fun s => meetB s y3) (x.fLetters).toNat first 64).1).fLetters.toNat (langD (explR (fun k (a : Nat) => (fun (z : Int × Int) => more (z.1, stepS x z.1 z.2)) (k, (a : Int))) (fun s => meetB s y3) (x.fLetters).toNat first 64).1 ((explR (fun k (a : Nat) => (fun (z : Int × Int) => more (z.1, stepS x z.1 z.2)) (k, (a : Int))) (fun s => meetB s y3) (x.fLetters).toNat first 64).1).fStart.toNat)).fMark] 25 false, .gone, .gone]⟩ (by kernel_rfl) ?_
    refine WL.nil ?_
    refine En.ret ?_
    exact En.back ht (canon ((explR (fun k (a : Nat) => (fun (z : Int × Int) => more (z.1, stepS x z.1 z.2)) (k, (a : Int))) (fun s => meetB s y3) (x.fLetters).toNat first 64).1).fLetters.toNat (langD (explR (fun k (a : Nat) => (fun (z : Int × Int) => more (z.1, stepS x z.1 z.2)) (k, (a : Int))) (fun s => meetB s y3) (x.fLetters).toNat first 64).1 ((explR (fun k (a : Nat) => (fun (z : Int × Int) => more (z.1, stepS x z.1 z.2)) (k, (a : Int))) (fun s => meetB s y3) (x.fLetters).toNat first 64).1).fStart.toNat)) h (by kernel_rfl) rfl
theorem en47 : ∀ args w, (callFunc 47 args).run Try.prog w = .ok (.enter 47 args) w := enters_of Try.func47 (by kernel_rfl) rfl
def SetsPre (x : ApiDet) (first : Int) (dom : (Int × Int) → Prop) (more : (Int × Int) → Int) : Prop := smallD x ∧ setN x.fNext.length first ∧ ∀ s a, setN x.fNext.length s → 0 ≤ a → a < x.fLetters → dom (s, stepS x s a) ∧ setN x.fNext.length (more (s, stepS x s a))
noncomputable def setsR (x : ApiDet) (first : Int) (more : (Int × Int) → Int) : ApiDet := canon x.fLetters.toNat (langK (fun s (a : Nat) => more (s, stepS x s (a : Int))) (fun s => meetB s (goodS x)) first)
theorem higSets_ct (x : ApiDet) (first : Int) (dommore : ((Int × Int) → Prop)) (more : ((Int × Int) → Int)) (hd : SetsPre x first dommore more) : Ct 47 [.sv (.agg [I x.fLetters, I x.fStart, LS (lsT intT) x.fNext, LS intT x.fMark]), .sv (.one (I first)), .sv (.one (.rd (fvR (fun (x : (Int × Int)) => [.sv (.one (I x.1)), .sv (.one (I x.2))]) (fun (r : Int) => .sv (.one (I r))) dommore more)))] [] (fun (_ : Unit) => True) (fun _ => .sv (.agg [I (setsR x first more).fLetters, I (setsR x first more).fStart, LS (lsT intT) (setsR x first more).fNext, LS intT (setsR x first more).fMark])) := by
  refine (higSets_walk x first dommore more (fun res_ => res_ = (setsR x first more)) ?_).fun
  intro _ _
  obtain ⟨⟨hx, hn⟩, hf, hm⟩ := hd
  have hlet := hx.letters
  have hmk := hx.marks
  refine ⟨fun i g => ∃ k : Nat, i = k ∧ k ≤ x.fMark.length ∧ g = (maskOf (fun q => x.fMark.getD q 0 == 1) k : Int), fun i _ => x.fMark.length - i.toNat, ⟨0, rfl, Nat.zero_le _, rfl⟩, ?_⟩
  rintro i g ⟨k, rfl, hk, rfl⟩
  refine ⟨fun hb => ?_, fun hb => ?_⟩
  · have hlt := dlt hb
    have hg : x.fMark.getD k 0 = x.fMark[k] := by rw [List.getD_eq_getElem?_getD, List.getElem?_eq_getElem hlt]; rfl
    refine ⟨_, idx_at hlt, by omega, ⟨k + 1, wsucc (by omega), hlt, ?_⟩, mu_up hlt (by omega)⟩
    rw [Int.toNat_natCast]
    rcases hx.mark _ (List.getElem_mem hlt) with h | h
    · rw [h, mask_no (by rw [hg, h]; rfl), Int.zero_mul]
      have := bor (a := maskOf (fun q => x.fMark.getD q 0 == 1) k) (b := 0) (maskOf_lt62 _ (by omega)) (by decide)
      rw [Nat.or_zero] at this
      exact this
    · rw [h]
      exact mask_or (by omega) (by rw [hg, h]; rfl)
  have : k = x.fMark.length := by have := dge hb; omega
  subst this
  obtain ⟨m, hmm, hml⟩ := sets_all x.fNext.length
  have h2n : 2 ^ x.fNext.length ≤ 2 ^ 5 := Nat.pow_le_pow_right (by decide) hn
  have h0 : first ∈ m := (hmm _).1 hf
  have hP : ∀ k a, k ∈ m → a < x.fLetters.toNat → more (k, stepS x k ((a : Nat) : Int)) ∈ m := fun k a hk ha => (hmm _).1 (hm k a ((hmm _).2 hk) (by omega) (by omega)).2
  refine ⟨⟨⟨by omega, by omega⟩, by decide, setN x.fNext.length, hf, fun k a hk ha => ⟨⟨⟨hx, hn⟩, hk, by omega, ha, (hm k a hk (by omega) ha).1⟩, (hm k a hk (by omega) ha).2⟩, fun k hk => trivial⟩, ?_⟩
  have key : ∀ E : ApiDet × Bool, E = (explD (fun k (a : Nat) => more (k, stepS x k (a : Int))) (fun s => meetB s (goodS x)) x.fLetters.toNat first, true) → (ClsOk E.1 ∧ (canon (E.1).fLetters.toNat (langD E.1 (E.1).fStart.toNat)) = setsR x first more) := by
    rintro E rfl
    have hcount := explD_count (mark := fun s => meetB s (goodS x)) h0 hP
    rw [hml] at hcount
    refine ⟨⟨explD_wf h0 hP, Nat.le_trans hcount (by omega), ?_, explD_marks h0 hP fun k _ => by rcases meetB_01 k (goodS x) with h | h <;> rw [h] <;> decide⟩, canon_congr fun w hw => explD_lang h0 hP hw⟩
    show ((x.fLetters.toNat : Nat) : Int) ≤ 1000
    omega
  exact key _ (explR_ends h0 hP (by rw [hml]; omega))
def upMore_vc (s : Int) (t : Int) (Q : Int → Prop) : Prop :=
  Q (bitsI .or .i64 s t)
theorem upMore_walk (s : Int) (t : Int) (Q : Int → Prop) (h : upMore_vc s t Q) : Ct 48 [.sv (.one (I s)), .sv (.one (I t))] [] Q (fun (r : Int) => .sv (.one (I r))) := by
  have ht := tab_ok
  refine Ct.body Try.func48 rfl rfl rfl rfl (fun c hn => ?_)
  unfold upMore_vc at h
  refine En.seq ?_
  refine En.region ?_
  refine WL.run ht hn 1 ⟨[(0, .sv (.one (I s))), (1, .sv (.one (I t)))], []⟩ (by kernel_rfl) ?_
  refine WL.nil ?_
  refine En.seq ?_
  refine En.region ?_
  refine WL.run ht hn 4 ⟨[(4, .sv (.one (I (bitsI .or .i64 s t))))], []⟩ (by kernel_rfl) ?_
  refine WL.nil ?_
  refine En.ret ?_
  exact En.back ht (bitsI .or .i64 s t) h (by kernel_rfl) rfl
theorem en48 : ∀ args w, (callFunc 48 args).run Try.prog w = .ok (.enter 48 args) w := enters_of Try.func48 (by kernel_rfl) rfl
def downMore_vc (s : Int) (t : Int) (x : ApiDet) (Q : Int → Prop) : Prop :=
  (smallD x ∧ setN (x).fNext.length t) ∧
  Q (clo x (x).fLetters.toNat t)
theorem downMore_walk (s : Int) (t : Int) (x : ApiDet) (Q : Int → Prop) (h : downMore_vc s t x Q) : Ct 50 [.sv (.one (I s)), .sv (.one (I t)), .sv (.one (.ptr 0 0))] [.box [I x.fLetters, I x.fStart, LS (lsT intT) x.fNext, LS intT x.fMark] 25 true] Q (fun (r : Int) => .sv (.one (I r))) := by
  have ht := tab_ok
  refine Ct.body Try.func50 rfl rfl rfl rfl (fun c hn => ?_)
  unfold downMore_vc at h
  refine En.seq ?_
  refine En.region ?_
  refine WL.run ht hn 1 ⟨[(1, .sv (.one (I t))), (2, .sv (.one (.ptr 0 0)))], [.box [I x.fLetters, I x.fStart, LS (lsT intT) x.fNext, LS intT x.fMark] 25 true]⟩ (by kernel_rfl) ?_
  refine WL.nil ?_
  refine En.seq ?_
  refine En.region ?_
  refine WL.run ht hn 2 ⟨[(6, .sv (.agg [I x.fLetters, I x.fStart, LS (lsT intT) x.fNext, LS intT x.fMark])), (7, .sv (.one (I t)))], [.gone]⟩ (by kernel_rfl) ?_
  have hp := h.1
  replace h := h.2
  refine WL.mt0 (K := []) (p := none) hn (by rfl) (mt_call (higAhead_ct x t hp) en49 (caps := []) [] rfl (by rfl) (by kernel_rfl) (by kernel_rfl) (by rfl) (by rfl) (by rfl)) (by rfl) (by rfl) (by rfl) ?_
  refine WL.run ht hn 1 ⟨[(5, .sv (.one (I (clo x (x).fLetters.toNat t))))], [.gone]⟩ (by kernel_rfl) ?_
  refine WL.nil ?_
  refine En.ret ?_
  exact En.back ht (clo x (x).fLetters.toNat t) h (by kernel_rfl) rfl
theorem en50 : ∀ args w, (callFunc 50 args).run Try.prog w = .ok (.enter 50 args) w := enters_of Try.func50 (by kernel_rfl) rfl
theorem upMore_ct (s : Int) (t : Int) (hd : setN 5 s ∧ setN 5 t) : Ct 48 [.sv (.one (I s)), .sv (.one (I t))] [] (fun (_ : Unit) => True) (fun _ => .sv (.one (I (orS s t)))) := by
  refine (upMore_walk s t (fun res_ => res_ = (orS s t)) ?_).fun
  obtain ⟨a, rfl⟩ := Int.eq_ofNat_of_zero_le hd.1.1
  obtain ⟨b, rfl⟩ := Int.eq_ofNat_of_zero_le hd.2.1
  have h1 := setN5 (Nat.le_refl 5) hd.1
  have h2 := setN5 (Nat.le_refl 5) hd.2
  show bitsI .or .i64 (a : Int) (b : Int) = orS (a : Int) (b : Int)
  rw [bor (by omega) (by omega)]
  rfl
theorem downMore_ct (s : Int) (t : Int) (x : ApiDet) (hd : smallD x ∧ setN x.fNext.length t) : Ct 50 [.sv (.one (I s)), .sv (.one (I t)), .sv (.one (.ptr 0 0))] [.box [I x.fLetters, I x.fStart, LS (lsT intT) x.fNext, LS intT x.fMark] 25 true] (fun (_ : Unit) => True) (fun _ => .sv (.one (I (clo x x.fLetters.toNat t)))) := by
  refine (downMore_walk s t x (fun res_ => res_ = (clo x x.fLetters.toNat t)) ?_).fun
  exact ⟨hd, rfl⟩
noncomputable def upR (x : ApiDet) : ApiDet × Int := if smallErr x = 0 then (canon x.fLetters.toNat (upLang x), 0) else (⟨0, 0, [], []⟩, smallErr x)
noncomputable def downR (x : ApiDet) : ApiDet × Int := if smallErr x = 0 then (canon x.fLetters.toNat (downLang x x.fLetters.toNat), 0) else (⟨0, 0, [], []⟩, smallErr x)
theorem setN_mono {n m : Nat} {s : Int} (h : n ≤ m) (hs : setN n s) : setN m s := by
  obtain ⟨a, rfl⟩ := Int.eq_ofNat_of_zero_le hs.1
  have ha : a < 2 ^ n := by exact_mod_cast hs.2
  exact ⟨by omega, by exact_mod_cast Nat.lt_of_lt_of_le ha (Nat.pow_le_pow_right (by decide) h)⟩
theorem foldl_langK {K : Type} {go : K → Nat → K} {mark : K → Int} {k : K} {w : List Nat} : langK go mark k w = mark (w.foldl go k) := rfl
theorem good_in {x : ApiDet} (h : smallD x) : 0 ≤ goodS x ∧ goodS x < 32 := by
  have := h.1.marks
  have := h.2
  exact setN5 (n := x.fMark.length) (by omega) (setN_mask _ _)
theorem sets_in {x : ApiDet} {go : Int → Nat → Int} (hg : ∀ s a, setN x.fNext.length s → setN x.fNext.length (go s a)) : ∀ (w : List Nat) (s : Int), setN x.fNext.length s → setN x.fNext.length (w.foldl go s)
  | [], _, h => h
  | a :: w, s, h => sets_in hg w _ (hg s a h)
theorem up_lang {x : ApiDet} (h : smallD x) (w : List Nat) : langK (fun s (a : Nat) => orS s (stepS x s (a : Int))) (fun s => meetB s (goodS x)) ((2 ^ x.fStart.toNat : Nat) : Int) w = upLang x w := by
  have hst := h.1.start
  have hp := h.1.cls.pre
  have h1 : setN x.fNext.length ((2 ^ x.fStart.toNat : Nat) : Int) := one_in (by omega)
  refine eq01 (meetB_01 _ _) (upLang_01 w) ?_
  rw [foldl_langK]
  have h2 := sets_in (x := x) (go := fun s (a : Nat) => orS s (stepS x s (a : Int))) (fun s a hs => orS_in hs stepS_in) w _ h1
  rw [meetB_iff (setN5 h.2 h2) (good_in h), upLang_iff]
  constructor
  · rintro ⟨q, hq, hg⟩
    obtain ⟨p, hp1, u, hu, rfl⟩ := (up_run hp w _ q fun p hp => setN_lt h1 hp).1 hq
    rw [one_has] at hp1
    subst hp1
    exact ⟨u, hu, good_has.1 hg⟩
  · rintro ⟨u, hu, e⟩
    exact ⟨_, (up_run hp w _ _ fun p hp => setN_lt h1 hp).2 ⟨x.fStart.toNat, one_has.2 rfl, u, hu, rfl⟩, good_has.2 e⟩
theorem down_lang {x : ApiDet} (h : smallD x) {w : List Nat} (hw : ∀ a ∈ w, a < x.fLetters.toNat) : langK (fun s (a : Nat) => clo x x.fLetters.toNat (stepS x s (a : Int))) (fun s => meetB s (goodS x)) (clo x x.fLetters.toNat ((2 ^ x.fStart.toNat : Nat) : Int)) w = downLang x x.fLetters.toNat w := by
  have hst := h.1.start
  have hp := h.1.cls.pre
  refine eq01 (meetB_01 _ _) (downLang_01 w) ?_
  rw [foldl_langK]
  have h2 := sets_in (x := x) (go := fun s (a : Nat) => clo x x.fLetters.toNat (stepS x s (a : Int))) (fun s a hs => clo_in) w _ (clo_in (L := x.fLetters.toNat) (s := ((2 ^ x.fStart.toNat : Nat) : Int)))
  rw [meetB_iff (setN5 h.2 h2) (good_in h), downLang_iff]
  constructor
  · rintro ⟨q, hq, hg⟩
    obtain ⟨p, hp1, v, hv, hwv, rfl⟩ := (down_run hp w _ q hw (clo_shut hp)).1 hq
    obtain ⟨p0, _, hp0, y, hy, rfl⟩ := (clo_has hp).1 hp1
    rw [one_has] at hp0
    subst hp0
    refine ⟨y ++ v, fun a ha => (List.mem_append.1 ha).elim (hy a) (hv a), hwv.trans (List.sublist_append_right y v), ?_⟩
    rw [← List.foldl_append] at hg
    exact good_has.1 hg
  · rintro ⟨v, hv, hwv, e⟩
    refine ⟨_, (down_run hp w _ _ hw (clo_shut hp)).2 ⟨x.fStart.toNat, (clo_has hp).2 ⟨x.fStart.toNat, by omega, one_has.2 rfl, [], (fun a h => by simp at h), rfl⟩, v, hv, hwv, rfl⟩, good_has.2 e⟩
def higUp_vc (x : ApiDet) (Q : (ApiDet × Int) → Prop) : Prop :=
  x.fNext.length ≤ 9223372036854775807 →
  x.fMark.length ≤ 9223372036854775807 →
  (IfP ((smallErr x) != 0) (Q ((ApiDet.mk 0 0 [] []), (smallErr x))) ((0 ≤ x.fStart) ∧
  (SetsPre x (wr (1 * (2 ^ (min (x.fStart).toNat 64)))) (fun (z : Int × Int) => setN 5 z.1 ∧ setN 5 z.2) (fun (z : Int × Int) => orS z.1 z.2)) ∧
  Q ((setsR x (wr (1 * (2 ^ (min (x.fStart).toNat 64)))) (fun (z : Int × Int) => orS z.1 z.2)), 0)))
theorem higUp_walk (x : ApiDet) (Q : (ApiDet × Int) → Prop) (h : higUp_vc x Q) : Ct 16 [.sv (.agg [I x.fLetters, I x.fStart, LS (lsT intT) x.fNext, LS intT x.fMark])] [] Q (fun (r : (ApiDet × Int)) => .tup [.agg [I r.1.fLetters, I r.1.fStart, LS (lsT intT) r.1.fNext, LS intT r.1.fMark], .one (I r.2)]) := by
  have ht := tab_ok
  refine Ct.body Try.func16 rfl rfl rfl rfl (fun c hn => ?_)
  unfold higUp_vc at h
  refine En.lenA 0 2 (by rfl) (by rfl) (fun hl => ?_)
  replace h := h hl
  clear hl
  refine En.lenA 0 3 (by rfl) (by rfl) (fun hl => ?_)
  replace h := h hl
  clear hl
  refine En.seq ?_
  refine En.region ?_
  refine WL.run ht hn 3 ⟨[(1, .sv (.one (.ptr 0 0))), (2, .sv (.one (.ptr 1 0)))], [.box [I x.fLetters, I x.fStart, LS (lsT intT) x.fNext, LS intT x.fMark] 25 false, .box [I 0, I 0, .v (.slice none 0 0), .v (.slice none 0 0)] 25 false]⟩ (by kernel_rfl) ?_
  refine WL.nil ?_
  refine En.seq ?_
  refine En.seq ?_
  refine En.region ?_
  refine WL.run ht hn 1 ⟨[(1, .sv (.one (.ptr 0 0))), (2, .sv (.one (.ptr 1 0))), (5, .sv (.agg [I x.fLetters, I x.fStart, LS (lsT intT) x.fNext, LS intT x.fMark]))], [.box [I x.fLetters, I x.fStart, LS (lsT intT) x.fNext, LS intT x.fMark] 25 false, .box [I 0, I 0, .v (.slice none 0 0), .v (.slice none 0 0)] 25 false]⟩ (by kernel_rfl) ?_
  refine WL.mt0 (K := []) (p := none) hn (by rfl) (mt_call (higSmall_ct x) en46 (caps := []) [] rfl (by rfl) (by kernel_rfl) (by kernel_rfl) (by rfl) (by rfl) (by rfl)) (by rfl) (by rfl) (by rfl) ?_
  refine WL.run ht hn 1 ⟨[(1, .sv (.one (.ptr 0 0))), (2, .sv (.one (.ptr 1 0))), (4, .sv (.one (I (smallErr x))))], [.box [I x.fLetters, I x.fStart, LS (lsT intT) x.fNext, LS intT x.fMark] 25 false, .box [I 0, I 0, .v (.slice none 0 0), .v (.slice none 0 0)] 25 false]⟩ (by kernel_rfl) ?_
  refine WL.nil ?_
  refine En.seq ?_
  refine En.region ?_
  refine WL.run ht hn 2 ⟨[(1, .sv (.one (.ptr 0 0))), (2, .sv (.one (.ptr 1 0))), (4, .sv (.one (I (smallErr x)))), (8, .sv (.one (B ((smallErr x) != 0))))], [.box [I x.fLetters, I x.fStart, LS (lsT intT) x.fNext, LS intT x.fMark] 25 false, .box [I 0, I 0, .v (.slice none 0 0), .v (.slice none 0 0)] 25 false]⟩ (by kernel_rfl) ?_
  refine WL.nil ?_
  refine En.cond (b := ((smallErr x) != 0)) (by kernel_rfl) (fun hb => ?_) (fun hb => ?_)
  · replace h := h.1 hb
    refine En.seq ?_
    refine En.region ?_
    refine WL.run ht hn 4 ⟨[(2, .sv (.one (.ptr 1 0))), (3, .sv (.one (I (smallErr x))))], [.gone, .box [I 0, I 0, .v (.slice none 0 0), .v (.slice none 0 0)] 25 false]⟩ (by kernel_rfl) ?_
    refine WL.nil ?_
    refine En.ret ?_
    refine En.nilBox (T := (lsT intT)) 1 2 (by rfl) (by rfl) ?_
    refine En.nilBox (T := intT) 1 3 (by rfl) (by rfl) ?_
    exact En.back ht ((ApiDet.mk 0 0 [] []), (smallErr x)) h (by kernel_rfl) rfl
  · replace h := h.2 hb
    refine En.skip ?_
    refine En.seq ?_
    have hz := h.1
    replace h := h.2
    have hp_2 := h.1
    replace h := h.2
    refine En.regionA ⟨[(1, .sv (.one (.ptr 0 0))), (2, .sv (.one (.ptr 1 0)))], [.sv (.agg [I x.fLetters, I x.fStart, LS (lsT intT) x.fNext, LS intT x.fMark]), .sv (.one (.ptr 0 1)), .sv (.one (I x.fStart)), .sv (.one (I (wr (1 * (2 ^ (min (x.fStart).toNat 64)))))), .sv (.agg [I (setsR x (wr (1 * (2 ^ (min (x.fStart).toNat 64)))) (fun (z : Int × Int) => orS z.1 z.2)).fLetters, I (setsR x (wr (1 * (2 ^ (min (x.fStart).toNat 64)))) (fun (z : Int × Int) => orS z.1 z.2)).fStart, LS (lsT intT) (setsR x (wr (1 * (2 ^ (min (x.fStart).toNat 64)))) (fun (z : Int × Int) => orS z.1 z.2)).fNext, LS intT (setsR x (wr (1 * (2 ^ (min (x.fStart).toNat 64)))) (fun (z : Int × Int) => orS z.1 z.2)).fMark]), .tup [], .sv (.one (I 0))], [⟨.box [I x.fLetters, I x.fStart, LS (lsT intT) x.fNext, LS intT x.fMark] 25 false, none, none, none⟩, ⟨.box [I 0, I 0, .v (.slice none 0 0), .v (.slice none 0 0)] 25 false, none, none, some (5, .box [I (setsR x (wr (1 * (2 ^ (min (x.fStart).toNat 64)))) (fun (z : Int × Int) => orS z.1 z.2)).fLetters, I (setsR x (wr (1 * (2 ^ (min (x.fStart).toNat 64)))) (fun (z : Int × Int) => orS z.1 z.2)).fStart, LS (lsT intT) (setsR x (wr (1 * (2 ^ (min (x.fStart).toNat 64)))) (fun (z : Int × Int) => orS z.1 z.2)).fNext, LS intT (setsR x (wr (1 * (2 ^ (min (x.fStart).toNat 64)))) (fun (z : Int × Int) => orS z.1 z.2)).fMark] 25 false)⟩]⟩ ⟨[(2, .sv (.one (.ptr 1 0))), (3, .sv (.one (I 0)))], [.gone, .box [I (setsR x (wr (1 * (2 ^ (min (x.fStart).toNat 64)))) (fun (z : Int × Int) => orS z.1 z.2)).fLetters, I (setsR x (wr (1 * (2 ^ (min (x.fStart).toNat 64)))) (fun (z : Int × Int) => orS z.1 z.2)).fStart, LS (lsT intT) (setsR x (wr (1 * (2 ^ (min (x.fStart).toNat 64)))) (fun (z : Int × Int) => orS z.1 z.2)).fNext, LS intT (setsR x (wr (1 * (2 ^ (min (x.fStart).toNat 64)))) (fun (z : Int × Int) => orS z.1 z.2)).fMark] 25 false]⟩ (by kernel_rfl) hn (by kernel_rfl) (by rfl) (by kernel_rfl) ?_ (by kernel_rfl) ?_
    · exact ⟨.mt ⟨[(1, .sv (.one (.ptr 0 0)))], [.box [I x.fLetters, I x.fStart, LS (lsT intT) x.fNext, LS intT x.fMark] 25 false]⟩ [] none (by kernel_rfl) (by rfl) (mt_ev ht (by kernel_rfl)) rfl rfl rfl rfl,
    .mt ⟨[(1, .sv (.one (.ptr 0 0)))], []⟩ [] none (by kernel_rfl) (by rfl) (mt_ev ht (by kernel_rfl)) rfl rfl rfl rfl,
    .mt ⟨[(12, .sv (.one (.ptr 0 1)))], [.box [I x.fLetters, I x.fStart, LS (lsT intT) x.fNext, LS intT x.fMark] 25 false]⟩ [] none (by kernel_rfl) (by rfl) (mt_ev ht (by kernel_rfl)) rfl rfl rfl rfl,
    .mt ⟨[(13, .sv (.one (I x.fStart)))], []⟩ [] none (by kernel_rfl) (by rfl) (mt_val (val_shift (u := 1) (v := x.fStart) rfl (by rfl) (by rfl) hz (.inl ⟨rfl, rfl⟩))) rfl rfl rfl rfl,
    .mt ⟨[(11, .sv (.agg [I x.fLetters, I x.fStart, LS (lsT intT) x.fNext, LS intT x.fMark])), (14, .sv (.one (I (wr (1 * (2 ^ (min (x.fStart).toNat 64)))))))], []⟩ [] none (by kernel_rfl) (by rfl) (mt_call (Ct.args (higSets_ct x (wr (1 * (2 ^ (min (x.fStart).toNat 64)))) (fun (z : Int × Int) => setN 5 z.1 ∧ setN 5 z.2) (fun (z : Int × Int) => orS z.1 z.2) hp_2) (argLe_same (argLe_same (argLe_to (fv_const (ins := (fun (x_ : (Int × Int)) => [.sv (.one (I x_.1)), .sv (.one (I x_.2))])) (out := (fun (r : Int) => .sv (.one (I r)))) (dom := (fun (z : Int × Int) => setN 5 z.1 ∧ setN 5 z.2)) (φ := (fun (z : Int × Int) => orS z.1 z.2)) (fun x_ hx => upMore_ct x_.1 x_.2 hx) en48) argLe_nil)))) en47 (caps := []) [] rfl (by rfl) (by kernel_rfl) (by kernel_rfl) (by rfl) (by rfl) (by rfl)) rfl rfl rfl rfl,
    .mu ⟨[(2, .sv (.one (.ptr 1 0))), (15, .sv (.agg [I (setsR x (wr (1 * (2 ^ (min (x.fStart).toNat 64)))) (fun (z : Int × Int) => orS z.1 z.2)).fLetters, I (setsR x (wr (1 * (2 ^ (min (x.fStart).toNat 64)))) (fun (z : Int × Int) => orS z.1 z.2)).fStart, LS (lsT intT) (setsR x (wr (1 * (2 ^ (min (x.fStart).toNat 64)))) (fun (z : Int × Int) => orS z.1 z.2)).fNext, LS intT (setsR x (wr (1 * (2 ^ (min (x.fStart).toNat 64)))) (fun (z : Int × Int) => orS z.1 z.2)).fMark]))], [.gone, .box [I 0, I 0, .v (.slice none 0 0), .v (.slice none 0 0)] 25 false]⟩ 1 _ _ rfl rfl (by kernel_rfl) (by rfl) (mu_store2 ht rfl (by rfl) (by rfl) (by rfl) (by rfl) (fun h => by cases h) (by rfl) (by rfl)) rfl rfl rfl rfl rfl rfl rfl,
    .mt ⟨[], []⟩ [] none (by kernel_rfl) (by rfl) (mt_ev ht (by kernel_rfl)) rfl rfl rfl rfl,
    trivial⟩
    · refine En.ret ?_
      exact En.back ht ((setsR x (wr (1 * (2 ^ (min (x.fStart).toNat 64)))) (fun (z : Int × Int) => orS z.1 z.2)), 0) h (by kernel_rfl) rfl
theorem en16 : ∀ args w, (callFunc 16 args).run Try.prog w = .ok (.enter 16 args) w := enters_of Try.func16 (by kernel_rfl) rfl
def higDown_vc (x : ApiDet) (Q : (ApiDet × Int) → Prop) : Prop :=
  x.fNext.length ≤ 9223372036854775807 →
  x.fMark.length ≤ 9223372036854775807 →
  (IfP ((smallErr x) != 0) (Q ((ApiDet.mk 0 0 [] []), (smallErr x))) ((0 ≤ x.fStart) ∧
  (smallD x ∧ setN (x).fNext.length (wr (1 * (2 ^ (min (x.fStart).toNat 64))))) ∧
  (SetsPre x (clo x (x).fLetters.toNat (wr (1 * (2 ^ (min (x.fStart).toNat 64))))) (fun (z : Int × Int) => smallD x ∧ setN (x).fNext.length z.2) (fun (z : Int × Int) => clo x (x).fLetters.toNat z.2)) ∧
  Q ((setsR x (clo x (x).fLetters.toNat (wr (1 * (2 ^ (min (x.fStart).toNat 64))))) (fun (z : Int × Int) => clo x (x).fLetters.toNat z.2)), 0)))
theorem higDown_walk (x : ApiDet) (Q : (ApiDet × Int) → Prop) (h : higDown_vc x Q) : Ct 17 [.sv (.agg [I x.fLetters, I x.fStart, LS (lsT intT) x.fNext, LS intT x.fMark])] [] Q (fun (r : (ApiDet × Int)) => .tup [.agg [I r.1.fLetters, I r.1.fStart, LS (lsT intT) r.1.fNext, LS intT r.1.fMark], .one (I r.2)]) := by
  have ht := tab_ok
  refine Ct.body Try.func17 rfl rfl rfl rfl (fun c hn => ?_)
  unfold higDown_vc at h
  refine En.lenA 0 2 (by rfl) (by rfl) (fun hl => ?_)
  replace h := h hl
  clear hl
  refine En.lenA 0 3 (by rfl) (by rfl) (fun hl => ?_)
  replace h := h hl
  clear hl
  refine En.seq ?_
  refine En.region ?_
  refine WL.run ht hn 3 ⟨[(1, .sv (.one (.ptr 0 0))), (2, .sv (.one (.ptr 1 0)))], [.box [I x.fLetters, I x.fStart, LS (lsT intT) x.fNext, LS intT x.fMark] 25 false, .box [I 0, I 0, .v (.slice none 0 0), .v (.slice none 0 0)] 25 false]⟩ (by kernel_rfl) ?_
  refine WL.nil ?_
  refine En.seq ?_
  refine En.seq ?_
  refine En.region ?_
  refine WL.run ht hn 1 ⟨[(1, .sv (.one (.ptr 0 0))), (2, .sv (.one (.ptr 1 0))), (5, .sv (.agg [I x.fLetters, I x.fStart, LS (lsT intT) x.fNext, LS intT x.fMark]))], [.box [I x.fLetters, I x.fStart, LS (lsT intT) x.fNext, LS intT x.fMark] 25 false, .box [I 0, I 0, .v (.slice none 0 0), .v (.slice none 0 0)] 25 false]⟩ (by kernel_rfl) ?_
  refine WL.mt0 (K := []) (p := none) hn (by rfl) (mt_call (higSmall_ct x) en46 (caps := []) [] rfl (by rfl) (by kernel_rfl) (by kernel_rfl) (by rfl) (by rfl) (by rfl)) (by rfl) (by rfl) (by rfl) ?_
  refine WL.run ht hn 1 ⟨[(1, .sv (.one (.ptr 0 0))), (2, .sv (.one (.ptr 1 0))), (4, .sv (.one (I (smallErr x))))], [.box [I x.fLetters, I x.fStart, LS (lsT intT) x.fNext, LS intT x.fMark] 25 false, .box [I 0, I 0, .v (.slice none 0 0), .v (.slice none 0 0)] 25 false]⟩ (by kernel_rfl) ?_
  refine WL.nil ?_
  refine En.seq ?_
  refine En.region ?_
  refine WL.run ht hn 2 ⟨[(1, .sv (.one (.ptr 0 0))), (2, .sv (.one (.ptr 1 0))), (4, .sv (.one (I (smallErr x)))), (8, .sv (.one (B ((smallErr x) != 0))))], [.box [I x.fLetters, I x.fStart, LS (lsT intT) x.fNext, LS intT x.fMark] 25 false, .box [I 0, I 0, .v (.slice none 0 0), .v (.slice none 0 0)] 25 false]⟩ (by kernel_rfl) ?_
  refine WL.nil ?_
  refine En.cond (b := ((smallErr x) != 0)) (by kernel_rfl) (fun hb => ?_) (fun hb => ?_)
  · replace h := h.1 hb
    refine En.seq ?_
    refine En.region ?_
    refine WL.run ht hn 4 ⟨[(2, .sv (.one (.ptr 1 0))), (3, .sv (.one (I (smallErr x))))], [.gone, .box [I 0, I 0, .v (.slice none 0 0), .v (.slice none 0 0)] 25 false]⟩ (by kernel_rfl) ?_
    refine WL.nil ?_
    refine En.ret ?_
    refine En.nilBox (T := (lsT intT)) 1 2 (by rfl) (by rfl) ?_
    refine En.nilBox (T := intT) 1 3 (by rfl) (by rfl) ?_
    exact En.back ht ((ApiDet.mk 0 0 [] []), (smallErr x)) h (by kernel_rfl) rfl
  · replace h := h.2 hb
    refine En.skip ?_
    refine En.seq ?_
    refine En.freeze [0] (by rfl) ?_
    have hz := h.1
    replace h := h.2
    have hp_2 := h.1
    replace h := h.2
    have hp_3 := h.1
    replace h := h.2
    refine En.regionA ⟨[(1, .sv (.one (.ptr 0 0))), (2, .sv (.one (.ptr 1 0)))], [.sv (.agg [I x.fLetters, I x.fStart, LS (lsT intT) x.fNext, LS intT x.fMark]), .sv (.agg [I x.fLetters, I x.fStart, LS (lsT intT) x.fNext, LS intT x.fMark]), .sv (.one (.ptr 0 1)), .sv (.one (I x.fStart)), .sv (.one (I (wr (1 * (2 ^ (min (x.fStart).toNat 64)))))), .sv (.one (I (clo x (x).fLetters.toNat (wr (1 * (2 ^ (min (x.fStart).toNat 64))))))), .sv (.one (.rd (fvR (fun (x_ : (Int × Int)) => [.sv (.one (I x_.1)), .sv (.one (I x_.2))]) (fun (r : Int) => .sv (.one (I r))) (fun (z : Int × Int) => smallD x ∧ setN (x).fNext.length z.2) (fun (z : Int × Int) => clo x (x).fLetters.toNat z.2)))), .sv (.agg [I (setsR x (clo x (x).fLetters.toNat (wr (1 * (2 ^ (min (x.fStart).toNat 64))))) (fun (z : Int × Int) => clo x (x).fLetters.toNat z.2)).fLetters, I (setsR x (clo x (x).fLetters.toNat (wr (1 * (2 ^ (min (x.fStart).toNat 64))))) (fun (z : Int × Int) => clo x (x).fLetters.toNat z.2)).fStart, LS (lsT intT) (setsR x (clo x (x).fLetters.toNat (wr (1 * (2 ^ (min (x.fStart).toNat 64))))) (fun (z : Int × Int) => clo x (x).fLetters.toNat z.2)).fNext, LS intT (setsR x (clo x (x).fLetters.toNat (wr (1 * (2 ^ (min (x.fStart).toNat 64))))) (fun (z : Int × Int) => clo x (x).fLetters.toNat z.2)).fMark]), .tup [], .sv (.one (I 0))], [⟨.box [I x.fLetters, I x.fStart, LS (lsT intT) x.fNext, LS intT x.fMark] 25 true, none, none, none⟩, ⟨.box [I 0, I 0, .v (.slice none 0 0), .v (.slice none 0 0)] 25 false, none, none, some (8, .box [I (setsR x (clo x (x).fLetters.toNat (wr (1 * (2 ^ (min (x.fStart).toNat 64))))) (fun (z : Int × Int) => clo x (x).fLetters.toNat z.2)).fLetters, I (setsR x (clo x (x).fLetters.toNat (wr (1 * (2 ^ (min (x.fStart).toNat 64))))) (fun (z : Int × Int) => clo x (x).fLetters.toNat z.2)).fStart, LS (lsT intT) (setsR x (clo x (x).fLetters.toNat (wr (1 * (2 ^ (min (x.fStart).toNat 64))))) (fun (z : Int × Int) => clo x (x).fLetters.toNat z.2)).fNext, LS intT (setsR x (clo x (x).fLetters.toNat (wr (1 * (2 ^ (min (x.fStart).toNat 64))))) (fun (z : Int × Int) => clo x (x).fLetters.toNat z.2)).fMark] 25 false)⟩]⟩ ⟨[(2, .sv (.one (.ptr 1 0))), (3, .sv (.one (I 0)))], [.gone, .box [I (setsR x (clo x (x).fLetters.toNat (wr (1 * (2 ^ (min (x.fStart).toNat 64))))) (fun (z : Int × Int) => clo x (x).fLetters.toNat z.2)).fLetters, I (setsR x (clo x (x).fLetters.toNat (wr (1 * (2 ^ (min (x.fStart).toNat 64))))) (fun (z : Int × Int) => clo x (x).fLetters.toNat z.2)).fStart, LS (lsT intT) (setsR x (clo x (x).fLetters.toNat (wr (1 * (2 ^ (min (x.fStart).toNat 64))))) (fun (z : Int × Int) => clo x (x).fLetters.toNat z.2)).fNext, LS intT (setsR x (clo x (x).fLetters.toNat (wr (1 * (2 ^ (min (x.fStart).toNat 64))))) (fun (z : Int × Int) => clo x (x).fLetters.toNat z.2)).fMark] 25 false]⟩ (by kernel_rfl) hn (by kernel_rfl) (by rfl) (by kernel_rfl) ?_ (by kernel_rfl) ?_
    · exact ⟨.mt ⟨[(1, .sv (.one (.ptr 0 0)))], [.box [I x.fLetters, I x.fStart, LS (lsT intT) x.fNext, LS intT x.fMark] 25 true]⟩ [] none (by kernel_rfl) (by rfl) (mt_ev ht (by kernel_rfl)) rfl rfl rfl rfl,
    .mt ⟨[(1, .sv (.one (.ptr 0 0)))], [.box [I x.fLetters, I x.fStart, LS (lsT intT) x.fNext, LS intT x.fMark] 25 true]⟩ [] none (by kernel_rfl) (by rfl) (mt_ev ht (by kernel_rfl)) rfl rfl rfl rfl,
    .mt ⟨[(1, .sv (.one (.ptr 0 0)))], []⟩ [] none (by kernel_rfl) (by rfl) (mt_ev ht (by kernel_rfl)) rfl rfl rfl rfl,
    .mt ⟨[(13, .sv (.one (.ptr 0 1)))], [.box [I x.fLetters, I x.fStart, LS (lsT intT) x.fNext, LS intT x.fMark] 25 true]⟩ [] none (by kernel_rfl) (by rfl) (mt_ev ht (by kernel_rfl)) rfl rfl rfl rfl,
    .mt ⟨[(14, .sv (.one (I x.fStart)))], []⟩ [] none (by kernel_rfl) (by rfl) (mt_val (val_shift (u := 1) (v := x.fStart) rfl (by rfl) (by rfl) hz (.inl ⟨rfl, rfl⟩))) rfl rfl rfl rfl,
    .mt ⟨[(12, .sv (.agg [I x.fLetters, I x.fStart, LS (lsT intT) x.fNext, LS intT x.fMark])), (15, .sv (.one (I (wr (1 * (2 ^ (min (x.fStart).toNat 64)))))))], []⟩ [] none (by kernel_rfl) (by rfl) (mt_call (higAhead_ct x (wr (1 * (2 ^ (min (x.fStart).toNat 64)))) hp_2) en49 (caps := []) [] rfl (by rfl) (by kernel_rfl) (by kernel_rfl) (by rfl) (by rfl) (by rfl)) rfl rfl rfl rfl,
    .mt ⟨[(1, .sv (.one (.ptr 0 0)))], [.box [I x.fLetters, I x.fStart, LS (lsT intT) x.fNext, LS intT x.fMark] 25 true]⟩ [] none (by kernel_rfl) (by rfl) (mt_fv (x := .sv (.one (.fn 50 [0]))) ht (by kernel_rfl) (fv_of (M := [.box [I x.fLetters, I x.fStart, LS (lsT intT) x.fNext, LS intT x.fMark] 25 true]) (caps := [0]) (fun x_ hx => downMore_ct x_.1 x_.2 x hx) en50 rfl (by kernel_rfl) (by rfl) (fun _ => rfl))) rfl rfl rfl rfl,
    .mt ⟨[(11, .sv (.agg [I x.fLetters, I x.fStart, LS (lsT intT) x.fNext, LS intT x.fMark])), (16, .sv (.one (I (clo x (x).fLetters.toNat (wr (1 * (2 ^ (min (x.fStart).toNat 64)))))))), (17, .sv (.one (.rd (fvR (fun (x_ : (Int × Int)) => [.sv (.one (I x_.1)), .sv (.one (I x_.2))]) (fun (r : Int) => .sv (.one (I r))) (fun (z : Int × Int) => smallD x ∧ setN (x).fNext.length z.2) (fun (z : Int × Int) => clo x (x).fLetters.toNat z.2)))))], []⟩ [] none (by kernel_rfl) (by rfl) (mt_call (higSets_ct x (clo x (x).fLetters.toNat (wr (1 * (2 ^ (min (x.fStart).toNat 64))))) (fun (z : Int × Int) => smallD x ∧ setN (x).fNext.length z.2) (fun (z : Int × Int) => clo x (x).fLetters.toNat z.2) hp_3) en47 (caps := []) [] rfl (by rfl) (by kernel_rfl) (by kernel_rfl) (by rfl) (by rfl) (by rfl)) rfl rfl rfl rfl,
    .mu ⟨[(2, .sv (.one (.ptr 1 0))), (18, .sv (.agg [I (setsR x (clo x (x).fLetters.toNat (wr (1 * (2 ^ (min (x.fStart).toNat 64))))) (fun (z : Int × Int) => clo x (x).fLetters.toNat z.2)).fLetters, I (setsR x (clo x (x).fLetters.toNat (wr (1 * (2 ^ (min (x.fStart).toNat 64))))) (fun (z : Int × Int) => clo x (x).fLetters.toNat z.2)).fStart, LS (lsT intT) (setsR x (clo x (x).fLetters.toNat (wr (1 * (2 ^ (min (x.fStart).toNat 64))))) (fun (z : Int × Int) => clo x (x).fLetters.toNat z.2)).fNext, LS intT (setsR x (clo x (x).fLetters.toNat (wr (1 * (2 ^ (min (x.fStart).toNat 64))))) (fun (z : Int × Int) => clo x (x).fLetters.toNat z.2)).fMark]))], [.gone, .box [I 0, I 0, .v (.slice none 0 0), .v (.slice none 0 0)] 25 false]⟩ 1 _ _ rfl rfl (by kernel_rfl) (by rfl) (mu_store2 ht rfl (by rfl) (by rfl) (by rfl) (by rfl) (fun h => by cases h) (by rfl) (by rfl)) rfl rfl rfl rfl rfl rfl rfl,
    .mt ⟨[], []⟩ [] none (by kernel_rfl) (by rfl) (mt_ev ht (by kernel_rfl)) rfl rfl rfl rfl,
    trivial⟩
    · refine En.ret ?_
      exact En.back ht ((setsR x (clo x (x).fLetters.toNat (wr (1 * (2 ^ (min (x.fStart).toNat 64))))) (fun (z : Int × Int) => clo x (x).fLetters.toNat z.2)), 0) h (by kernel_rfl) rfl
theorem en17 : ∀ args w, (callFunc 17 args).run Try.prog w = .ok (.enter 17 args) w := enters_of Try.func17 (by kernel_rfl) rfl
theorem higUp_ct (x : ApiDet)  : Ct 16 [.sv (.agg [I x.fLetters, I x.fStart, LS (lsT intT) x.fNext, LS intT x.fMark])] [] (fun (_ : Unit) => True) (fun _ => .tup [.agg [I (upR x).1.fLetters, I (upR x).1.fStart, LS (lsT intT) (upR x).1.fNext, LS intT (upR x).1.fMark], .one (I (upR x).2)]) := by
  refine (higUp_walk x (fun res_ => res_ = (upR x)) ?_).fun
  intro _ _
  refine ⟨fun h => ?_, fun h => ?_⟩
  · show _ = upR x
    unfold upR
    rw [if_neg (by simpa using h)]
  have h0 : smallErr x = 0 := by simpa using h
  have hx : smallD x := (smallErr_iff x).1 h0
  have hst := hx.1.start
  have hn := hx.2
  rw [bshl (by omega)]
  refine ⟨hst.1, ⟨hx, one_in (by omega), fun s a hs _ _ => ⟨⟨setN_mono hn hs, setN_mono hn stepS_in⟩, orS_in hs stepS_in⟩⟩, ?_⟩
  show _ = upR x
  unfold upR
  rw [if_pos h0]
  congr 1
  exact canon_congr fun w _ => up_lang hx w
theorem higDown_ct (x : ApiDet)  : Ct 17 [.sv (.agg [I x.fLetters, I x.fStart, LS (lsT intT) x.fNext, LS intT x.fMark])] [] (fun (_ : Unit) => True) (fun _ => .tup [.agg [I (downR x).1.fLetters, I (downR x).1.fStart, LS (lsT intT) (downR x).1.fNext, LS intT (downR x).1.fMark], .one (I (downR x).2)]) := by
  refine (higDown_walk x (fun res_ => res_ = (downR x)) ?_).fun
  intro _ _
  refine ⟨fun h => ?_, fun h => ?_⟩
  · show _ = downR x
    unfold downR
    rw [if_neg (by simpa using h)]
  have h0 : smallErr x = 0 := by simpa using h
  have hx : smallD x := (smallErr_iff x).1 h0
  have hst := hx.1.start
  have hn := hx.2
  rw [bshl (by omega)]
  refine ⟨hst.1, ⟨hx, one_in (by omega)⟩, ⟨hx, clo_in, fun s a hs _ _ => ⟨⟨hx, stepS_in⟩, clo_in⟩⟩, ?_⟩
  show _ = downR x
  unfold downR
  rw [if_pos h0]
  congr 1
  exact canon_congr fun w hw => down_lang hx hw
theorem lang_01 {d : ApiDet} (h : DetOk d) (q : Nat) (w : List Nat) : langD d q w = 0 ∨ langD d q w = 1 := by
  unfold langD
  by_cases hq : w.foldl (stepD d) q < d.fMark.length
  · exact h.mark _ (getD_mem hq)
  · left
    rw [List.getD_eq_getElem?_getD, List.getElem?_eq_none (by omega)]
    rfl
theorem upOk {x : ApiDet} (h : smallD x) : CanonOk x.fLetters.toNat (upLang x) 32 := by
  have hst := h.1.start
  have h1 : setN x.fNext.length ((2 ^ x.fStart.toNat : Nat) : Int) := one_in (by omega)
  obtain ⟨m, hm, hl⟩ := sets_all x.fNext.length
  have h2n : 2 ^ x.fNext.length ≤ 2 ^ 5 := Nat.pow_le_pow_right (by decide) h.2
  have := canonOk_keys (go := fun s (a : Nat) => orS s (stepS x s (a : Int))) (mark := fun s => meetB s (goodS x)) (L := x.fLetters.toNat) ((hm _).1 h1) fun k a hk _ => (hm _).1 (orS_in ((hm _).2 hk) stepS_in)
  exact (this.congr fun w _ => up_lang h w).mono (by omega)
theorem downOk {x : ApiDet} (h : smallD x) : CanonOk x.fLetters.toNat (downLang x x.fLetters.toNat) 32 := by
  obtain ⟨m, hm, hl⟩ := sets_all x.fNext.length
  have h2n : 2 ^ x.fNext.length ≤ 2 ^ 5 := Nat.pow_le_pow_right (by decide) h.2
  have := canonOk_keys (go := fun s (a : Nat) => clo x x.fLetters.toNat (stepS x s (a : Int))) (mark := fun s => meetB s (goodS x)) (L := x.fLetters.toNat) (k0 := clo x x.fLetters.toNat ((2 ^ x.fStart.toNat : Nat) : Int)) ((hm _).1 clo_in) fun k a hk _ => (hm _).1 clo_in
  exact (this.congr fun w hw => down_lang h hw).mono (by omega)
end Go.Proofs.Ytiinkohfldopbaa

