/- Lemmas towards the statement: mirrors of functions, and plain laws. No condition. -/
import Derived.Test.YtiinkohfldopbaaPackTransRow3

/- Contracts of package trans: checks, runs, what two words begin with. No condition. -/
namespace Go.Proofs.Ytiinkohfldopbaa
open Go.RowKit Go.MapKept
set_option linter.unusedSimpArgs false
set_option linter.unusedVariables false
set_option maxRecDepth 100000

def indexInt_vc (l : (List Int)) (dom : (Int → Prop)) (φ : (Int → Bool)) (Q : Int → Prop) : Prop :=
  l.length ≤ 9223372036854775807 →
  (∃ (Inv : Int → Prop) (mu : Int → Nat), Inv 0 ∧
  ∀ (x8 : Int) , Inv x8 → (IfP (decide (x8 < (l.length : Int))) (∃ e, idx l x8 = some e ∧
  (dom e) ∧
  IfP (φ e) (Q x8) ((Inv (wr (x8 + 1)) ∧ mu (wr (x8 + 1)) < mu x8))) (Q (-1))))
theorem indexInt_walk (l : (List Int)) (dom : (Int → Prop)) (φ : (Int → Bool)) (Q : Int → Prop) (h : indexInt_vc l dom φ Q) : Ct 138 [.sv (.one (LS intT l)), .sv (.one (.rd (fvR (fun x => [.sv (.one (I x))]) (fun b => .sv (.one (B b))) dom φ)))] [] Q (fun (r : Int) => .sv (.one (I r))) := by
  have ht := tab_ok
  refine Ct.body Try.func138 rfl rfl rfl rfl (fun c hn => ?_)
  unfold indexInt_vc at h
  refine En.lenL 0 (by rfl) (fun hl => ?_)
  replace h := h hl
  clear hl
  refine En.seq ?_
  refine En.region ?_
  refine WL.run ht hn 1 ⟨[(0, .sv (.one (LS intT l))), (1, .sv (.one (.rd (fvR (fun x => [.sv (.one (I x))]) (fun b => .sv (.one (B b))) dom φ))))], []⟩ (by kernel_rfl) ?_
  refine WL.nil ?_
  refine En.seq ?_
  refine En.seq ?_
  refine En.region ?_
  refine WL.run ht hn 3 ⟨[(0, .sv (.one (LS intT l))), (1, .sv (.one (.rd (fvR (fun x => [.sv (.one (I x))]) (fun b => .sv (.one (B b))) dom φ)))), (7, .sv (.one (I (l.length : Int)))), (8, .sv (.one (I 0)))], []⟩ (by kernel_rfl) ?_
  refine WL.nil ?_
  refine En.block ?_
  obtain ⟨Inv, mu, h0, hI⟩ := h
  refine En.loop (σ := Int) (fun zz => Inv zz) (fun zz => mu zz) (fun zz => ⟨[(0, .sv (.one (LS intT l))), (1, .sv (.one (.rd (fvR (fun x => [.sv (.one (I x))]) (fun b => .sv (.one (B b))) dom φ)))), (7, .sv (.one (I (l.length : Int)))), (8, .sv (.one (I zz)))], []⟩) 0 h0 (sub_ok (by kernel_rfl)) ?_
  intro x8 h
  replace h := hI _ h
  show En c ⟨[(0, .sv (.one (LS intT l))), (1, .sv (.one (.rd (fvR (fun x => [.sv (.one (I x))]) (fun b => .sv (.one (B b))) dom φ)))), (7, .sv (.one (I (l.length : Int)))), (8, .sv (.one (I x8)))], []⟩ _
  refine En.seq ?_
  refine En.region ?_
  refine WL.run ht hn 1 ⟨[(0, .sv (.one (LS intT l))), (1, .sv (.one (.rd (fvR (fun x => [.sv (.one (I x))]) (fun b => .sv (.one (B b))) dom φ)))), (7, .sv (.one (I (l.length : Int)))), (8, .sv (.one (I x8))), (9, .sv (.one (B (decide (x8 < (l.length : Int))))))], []⟩ (by kernel_rfl) ?_
  refine WL.nil ?_
  refine En.seq ?_
  refine En.cond (b := (decide (x8 < (l.length : Int)))) (by kernel_rfl) (fun hb => ?_) (fun hb => ?_)
  · replace h := h.1 hb
    refine En.skip ?_
    refine En.seq ?_
    refine En.block ?_
    refine En.seq ?_
    refine En.region ?_
    refine WL.run ht hn 2 ⟨[(0, .sv (.one (LS intT l))), (1, .sv (.one (.rd (fvR (fun x => [.sv (.one (I x))]) (fun b => .sv (.one (B b))) dom φ)))), (5, .sv (.one (I x8))), (7, .sv (.one (I (l.length : Int)))), (8, .sv (.one (I x8)))], []⟩ (by kernel_rfl) ?_
    refine WL.nil ?_
    refine En.seq ?_
    refine En.region ?_
    refine WL.run ht hn 3 ⟨[(0, .sv (.one (LS intT l))), (1, .sv (.one (.rd (fvR (fun x => [.sv (.one (I x))]) (fun b => .sv (.one (B b))) dom φ)))), (5, .sv (.one (I x8))), (7, .sv (.one (I (l.length : Int)))), (8, .sv (.one (I x8))), (11, .sv (.one (.rd (fvR (fun x => [.sv (.one (I x))]) (fun b => .sv (.one (B b))) dom φ)))), (12, .sv (.one (LS intT l))), (13, .sv (.one (I x8)))], []⟩ (by kernel_rfl) ?_
    obtain ⟨e, he, h⟩ := h
    refine WL.val hn (by rfl) (val_index (T := intT) (l := l) (i := x8) ht rfl (by rfl) (by rfl) (by rfl) (by rfl) (by rfl) (by rfl) he) (by rfl) ?_
    refine WL.val hn (by rfl) (val_load (s := .one (I e)) ht rfl (by rfl) (by rfl) (by rfl) (by rfl) (by rfl)) (by rfl) ?_
    have hp := h.1
    replace h := h.2
    refine WL.mt0 (K := []) (p := none) hn (by rfl) (mt_callv e hp rfl (by rfl) (by rfl) (by rfl) (by rfl)) (by rfl) (by rfl) (by rfl) ?_
    refine WL.nil ?_
    refine En.cond (b := (φ e)) (by kernel_rfl) (fun hb => ?_) (fun hb => ?_)
    · replace h := h.1 hb
      refine En.seq ?_
      refine En.region ?_
      refine WL.run ht hn 2 ⟨[(4, .sv (.one (I x8)))], []⟩ (by kernel_rfl) ?_
      refine WL.nil ?_
      refine En.ret ?_
      exact En.back ht x8 h (by kernel_rfl) rfl
    · replace h := h.2 hb
      refine En.skip ?_
      refine En.region ?_
      refine WL.run ht hn 2 ⟨[(0, .sv (.one (LS intT l))), (1, .sv (.one (.rd (fvR (fun x => [.sv (.one (I x))]) (fun b => .sv (.one (B b))) dom φ)))), (7, .sv (.one (I (l.length : Int)))), (8, .sv (.one (I (wr (x8 + 1)))))], []⟩ (by kernel_rfl) ?_
      refine WL.nil ?_
      exact En.at (I := fun zz => Inv zz ∧ mu zz < mu x8) (T := fun zz => ⟨[(0, .sv (.one (LS intT l))), (1, .sv (.one (.rd (fvR (fun x => [.sv (.one (I x))]) (fun b => .sv (.one (B b))) dom φ)))), (7, .sv (.one (I (l.length : Int)))), (8, .sv (.one (I zz)))], []⟩) (wr (x8 + 1)) h (by kernel_rfl)
  · replace h := h.2 hb
    refine En.exit rfl ?_
    refine En.seq ?_
    refine En.region ?_
    refine WL.run ht hn 1 ⟨[(4, .sv (.one (I (-1))))], []⟩ (by kernel_rfl) ?_
    refine WL.nil ?_
    refine En.ret ?_
    exact En.back ht (-1) h (by kernel_rfl) rfl
theorem en138 : ∀ args w, (callFunc 138 args).run Try.prog w = .ok (.enter 138 args) w := enters_of Try.func138 (by kernel_rfl) rfl
theorem indexInt_ct (l : List Int) (dom : Int → Prop) (φ : Int → Bool) (hd : ∀ x ∈ l, dom x) : Ct 138 [.sv (.one (LS intT l)), .sv (.one (.rd (fvR (fun x => [.sv (.one (I x))]) (fun b => .sv (.one (B b))) dom φ)))] [] (fun (_ : Unit) => True) (fun _ => .sv (.one (I (idxTo φ l)))) := by
  refine (indexInt_walk l dom φ (fun r => r = idxTo φ l) ?_).fun
  unfold indexInt_vc
  exact index_plain l dom φ hd
def anyInt_vc (l : (List Int)) (dom : (Int → Prop)) (φ : (Int → Bool)) (Q : Bool → Prop) : Prop :=
  l.length ≤ 9223372036854775807 →
  ((∀ x_ ∈ l, dom x_) ∧
  Q (decide ((idxTo φ l) ≥ 0)))
theorem anyInt_walk (l : (List Int)) (dom : (Int → Prop)) (φ : (Int → Bool)) (Q : Bool → Prop) (h : anyInt_vc l dom φ Q) : Ct 77 [.sv (.one (LS intT l)), .sv (.one (.rd (fvR (fun x => [.sv (.one (I x))]) (fun b => .sv (.one (B b))) dom φ)))] [] Q (fun (r : Bool) => .sv (.one (B r))) := by
  have ht := tab_ok
  refine Ct.body Try.func77 rfl rfl rfl rfl (fun c hn => ?_)
  unfold anyInt_vc at h
  refine En.lenL 0 (by rfl) (fun hl => ?_)
  replace h := h hl
  clear hl
  refine En.seq ?_
  refine En.region ?_
  refine WL.run ht hn 1 ⟨[(0, .sv (.one (LS intT l))), (1, .sv (.one (.rd (fvR (fun x => [.sv (.one (I x))]) (fun b => .sv (.one (B b))) dom φ))))], []⟩ (by kernel_rfl) ?_
  refine WL.nil ?_
  refine En.seq ?_
  refine En.region ?_
  refine WL.run ht hn 2 ⟨[(5, .sv (.one (LS intT l))), (6, .sv (.one (.rd (fvR (fun x => [.sv (.one (I x))]) (fun b => .sv (.one (B b))) dom φ))))], []⟩ (by kernel_rfl) ?_
  have hp := h.1
  replace h := h.2
  refine WL.mt0 (K := []) (p := none) hn (by rfl) (mt_call (indexInt_ct l dom φ hp) en138 (caps := []) [] rfl (by rfl) (by kernel_rfl) (by kernel_rfl) (by rfl) (by rfl) (by rfl)) (by rfl) (by rfl) (by rfl) ?_
  refine WL.run ht hn 2 ⟨[(4, .sv (.one (B (decide ((idxTo φ l) ≥ 0)))))], []⟩ (by kernel_rfl) ?_
  refine WL.nil ?_
  refine En.ret ?_
  exact En.back ht (decide ((idxTo φ l) ≥ 0)) h (by kernel_rfl) rfl
theorem en77 : ∀ args w, (callFunc 77 args).run Try.prog w = .ok (.enter 77 args) w := enters_of Try.func77 (by kernel_rfl) rfl
theorem anyInt_ct (l : List Int) (dom : Int → Prop) (φ : Int → Bool) (hd : ∀ x ∈ l, dom x) : Ct 77 [.sv (.one (LS intT l)), .sv (.one (.rd (fvR (fun x => [.sv (.one (I x))]) (fun b => .sv (.one (B b))) dom φ)))] [] (fun (_ : Unit) => True) (fun _ => .sv (.one (B (l.any φ)))) := by
  refine (anyInt_walk l dom φ (fun r => r = l.any φ) ?_).fun
  unfold anyInt_vc
  exact fun _ => ⟨hd, by rw [← idxTo_nonneg φ l]⟩
def indexLInt_vc (l : (List (List Int))) (dom : ((List Int) → Prop)) (φ : ((List Int) → Bool)) (Q : Int → Prop) : Prop :=
  l.length ≤ 9223372036854775807 →
  (∃ (Inv : Int → Prop) (mu : Int → Nat), Inv 0 ∧
  ∀ (x8 : Int) , Inv x8 → (IfP (decide (x8 < (l.length : Int))) (∃ e, idx l x8 = some e ∧
  (dom e) ∧
  IfP (φ e) (Q x8) ((Inv (wr (x8 + 1)) ∧ mu (wr (x8 + 1)) < mu x8))) (Q (-1))))
theorem indexLInt_walk (l : (List (List Int))) (dom : ((List Int) → Prop)) (φ : ((List Int) → Bool)) (Q : Int → Prop) (h : indexLInt_vc l dom φ Q) : Ct 128 [.sv (.one (LS (lsT intT) l)), .sv (.one (.rd (fvR (fun x => [.sv (.one (LS intT x))]) (fun b => .sv (.one (B b))) dom φ)))] [] Q (fun (r : Int) => .sv (.one (I r))) := by
  have ht := tab_ok
  refine Ct.body Try.func128 rfl rfl rfl rfl (fun c hn => ?_)
  unfold indexLInt_vc at h
  refine En.lenL 0 (by rfl) (fun hl => ?_)
  replace h := h hl
  clear hl
  refine En.seq ?_
  refine En.region ?_
  refine WL.run ht hn 1 ⟨[(0, .sv (.one (LS (lsT intT) l))), (1, .sv (.one (.rd (fvR (fun x => [.sv (.one (LS intT x))]) (fun b => .sv (.one (B b))) dom φ))))], []⟩ (by kernel_rfl) ?_
  refine WL.nil ?_
  refine En.seq ?_
  refine En.seq ?_
  refine En.region ?_
  refine WL.run ht hn 3 ⟨[(0, .sv (.one (LS (lsT intT) l))), (1, .sv (.one (.rd (fvR (fun x => [.sv (.one (LS intT x))]) (fun b => .sv (.one (B b))) dom φ)))), (7, .sv (.one (I (l.length : Int)))), (8, .sv (.one (I 0)))], []⟩ (by kernel_rfl) ?_
  refine WL.nil ?_
  refine En.block ?_
  obtain ⟨Inv, mu, h0, hI⟩ := h
  refine En.loop (σ := Int) (fun zz => Inv zz) (fun zz => mu zz) (fun zz => ⟨[(0, .sv (.one (LS (lsT intT) l))), (1, .sv (.one (.rd (fvR (fun x => [.sv (.one (LS intT x))]) (fun b => .sv (.one (B b))) dom φ)))), (7, .sv (.one (I (l.length : Int)))), (8, .sv (.one (I zz)))], []⟩) 0 h0 (sub_ok (by kernel_rfl)) ?_
  intro x8 h
  replace h := hI _ h
  show En c ⟨[(0, .sv (.one (LS (lsT intT) l))), (1, .sv (.one (.rd (fvR (fun x => [.sv (.one (LS intT x))]) (fun b => .sv (.one (B b))) dom φ)))), (7, .sv (.one (I (l.length : Int)))), (8, .sv (.one (I x8)))], []⟩ _
  refine En.seq ?_
  refine En.region ?_
  refine WL.run ht hn 1 ⟨[(0, .sv (.one (LS (lsT intT) l))), (1, .sv (.one (.rd (fvR (fun x => [.sv (.one (LS intT x))]) (fun b => .sv (.one (B b))) dom φ)))), (7, .sv (.one (I (l.length : Int)))), (8, .sv (.one (I x8))), (9, .sv (.one (B (decide (x8 < (l.length : Int))))))], []⟩ (by kernel_rfl) ?_
  refine WL.nil ?_
  refine En.seq ?_
  refine En.cond (b := (decide (x8 < (l.length : Int)))) (by kernel_rfl) (fun hb => ?_) (fun hb => ?_)
  · replace h := h.1 hb
    refine En.skip ?_
    refine En.seq ?_
    refine En.block ?_
    refine En.seq ?_
    refine En.region ?_
    refine WL.run ht hn 2 ⟨[(0, .sv (.one (LS (lsT intT) l))), (1, .sv (.one (.rd (fvR (fun x => [.sv (.one (LS intT x))]) (fun b => .sv (.one (B b))) dom φ)))), (5, .sv (.one (I x8))), (7, .sv (.one (I (l.length : Int)))), (8, .sv (.one (I x8)))], []⟩ (by kernel_rfl) ?_
    refine WL.nil ?_
    refine En.seq ?_
    refine En.region ?_
    refine WL.run ht hn 3 ⟨[(0, .sv (.one (LS (lsT intT) l))), (1, .sv (.one (.rd (fvR (fun x => [.sv (.one (LS intT x))]) (fun b => .sv (.one (B b))) dom φ)))), (5, .sv (.one (I x8))), (7, .sv (.one (I (l.length : Int)))), (8, .sv (.one (I x8))), (11, .sv (.one (.rd (fvR (fun x => [.sv (.one (LS intT x))]) (fun b => .sv (.one (B b))) dom φ)))), (12, .sv (.one (LS (lsT intT) l))), (13, .sv (.one (I x8)))], []⟩ (by kernel_rfl) ?_
    obtain ⟨e, he, h⟩ := h
    refine WL.val hn (by rfl) (val_index (T := (lsT intT)) (l := l) (i := x8) ht rfl (by rfl) (by rfl) (by rfl) (by rfl) (by rfl) (by rfl) he) (by rfl) ?_
    refine WL.val hn (by rfl) (val_load (s := .one (LS intT e)) ht rfl (by rfl) (by rfl) (by rfl) (by rfl) (by rfl)) (by rfl) ?_
    have hp := h.1
    replace h := h.2
    refine WL.mt0 (K := []) (p := none) hn (by rfl) (mt_callv e hp rfl (by rfl) (by rfl) (by rfl) (by rfl)) (by rfl) (by rfl) (by rfl) ?_
    refine WL.nil ?_
    refine En.cond (b := (φ e)) (by kernel_rfl) (fun hb => ?_) (fun hb => ?_)
    · replace h := h.1 hb
      refine En.seq ?_
      refine En.region ?_
      refine WL.run ht hn 2 ⟨[(4, .sv (.one (I x8)))], []⟩ (by kernel_rfl) ?_
      refine WL.nil ?_
      refine En.ret ?_
      exact En.back ht x8 h (by kernel_rfl) rfl
    · replace h := h.2 hb
      refine En.skip ?_
      refine En.region ?_
      refine WL.run ht hn 2 ⟨[(0, .sv (.one (LS (lsT intT) l))), (1, .sv (.one (.rd (fvR (fun x => [.sv (.one (LS intT x))]) (fun b => .sv (.one (B b))) dom φ)))), (7, .sv (.one (I (l.length : Int)))), (8, .sv (.one (I (wr (x8 + 1)))))], []⟩ (by kernel_rfl) ?_
      refine WL.nil ?_
      exact En.at (I := fun zz => Inv zz ∧ mu zz < mu x8) (T := fun zz => ⟨[(0, .sv (.one (LS (lsT intT) l))), (1, .sv (.one (.rd (fvR (fun x => [.sv (.one (LS intT x))]) (fun b => .sv (.one (B b))) dom φ)))), (7, .sv (.one (I (l.length : Int)))), (8, .sv (.one (I zz)))], []⟩) (wr (x8 + 1)) h (by kernel_rfl)
  · replace h := h.2 hb
    refine En.exit rfl ?_
    refine En.seq ?_
    refine En.region ?_
    refine WL.run ht hn 1 ⟨[(4, .sv (.one (I (-1))))], []⟩ (by kernel_rfl) ?_
    refine WL.nil ?_
    refine En.ret ?_
    exact En.back ht (-1) h (by kernel_rfl) rfl
theorem en128 : ∀ args w, (callFunc 128 args).run Try.prog w = .ok (.enter 128 args) w := enters_of Try.func128 (by kernel_rfl) rfl
theorem indexLInt_ct (l : List (List Int)) (dom : (List Int) → Prop) (φ : (List Int) → Bool) (hd : ∀ x ∈ l, dom x) : Ct 128 [.sv (.one (LS (lsT intT) l)), .sv (.one (.rd (fvR (fun x => [.sv (.one (LS intT x))]) (fun b => .sv (.one (B b))) dom φ)))] [] (fun (_ : Unit) => True) (fun _ => .sv (.one (I (idxTo φ l)))) := by
  refine (indexLInt_walk l dom φ (fun r => r = idxTo φ l) ?_).fun
  unfold indexLInt_vc
  exact index_plain l dom φ hd
def anyLInt_vc (l : (List (List Int))) (dom : ((List Int) → Prop)) (φ : ((List Int) → Bool)) (Q : Bool → Prop) : Prop :=
  l.length ≤ 9223372036854775807 →
  ((∀ x_ ∈ l, dom x_) ∧
  Q (decide ((idxTo φ l) ≥ 0)))
theorem anyLInt_walk (l : (List (List Int))) (dom : ((List Int) → Prop)) (φ : ((List Int) → Bool)) (Q : Bool → Prop) (h : anyLInt_vc l dom φ Q) : Ct 63 [.sv (.one (LS (lsT intT) l)), .sv (.one (.rd (fvR (fun x => [.sv (.one (LS intT x))]) (fun b => .sv (.one (B b))) dom φ)))] [] Q (fun (r : Bool) => .sv (.one (B r))) := by
  have ht := tab_ok
  refine Ct.body Try.func63 rfl rfl rfl rfl (fun c hn => ?_)
  unfold anyLInt_vc at h
  refine En.lenL 0 (by rfl) (fun hl => ?_)
  replace h := h hl
  clear hl
  refine En.seq ?_
  refine En.region ?_
  refine WL.run ht hn 1 ⟨[(0, .sv (.one (LS (lsT intT) l))), (1, .sv (.one (.rd (fvR (fun x => [.sv (.one (LS intT x))]) (fun b => .sv (.one (B b))) dom φ))))], []⟩ (by kernel_rfl) ?_
  refine WL.nil ?_
  refine En.seq ?_
  refine En.region ?_
  refine WL.run ht hn 2 ⟨[(5, .sv (.one (LS (lsT intT) l))), (6, .sv (.one (.rd (fvR (fun x => [.sv (.one (LS intT x))]) (fun b => .sv (.one (B b))) dom φ))))], []⟩ (by kernel_rfl) ?_
  have hp := h.1
  replace h := h.2
  refine WL.mt0 (K := []) (p := none) hn (by rfl) (mt_call (indexLInt_ct l dom φ hp) en128 (caps := []) [] rfl (by rfl) (by kernel_rfl) (by kernel_rfl) (by rfl) (by rfl) (by rfl)) (by rfl) (by rfl) (by rfl) ?_
  refine WL.run ht hn 2 ⟨[(4, .sv (.one (B (decide ((idxTo φ l) ≥ 0)))))], []⟩ (by kernel_rfl) ?_
  refine WL.nil ?_
  refine En.ret ?_
  exact En.back ht (decide ((idxTo φ l) ≥ 0)) h (by kernel_rfl) rfl
theorem en63 : ∀ args w, (callFunc 63 args).run Try.prog w = .ok (.enter 63 args) w := enters_of Try.func63 (by kernel_rfl) rfl
theorem anyLInt_ct (l : List (List Int)) (dom : (List Int) → Prop) (φ : (List Int) → Bool) (hd : ∀ x ∈ l, dom x) : Ct 63 [.sv (.one (LS (lsT intT) l)), .sv (.one (.rd (fvR (fun x => [.sv (.one (LS intT x))]) (fun b => .sv (.one (B b))) dom φ)))] [] (fun (_ : Unit) => True) (fun _ => .sv (.one (B (l.any φ)))) := by
  refine (anyLInt_walk l dom φ (fun r => r = l.any φ) ?_).fun
  unfold anyLInt_vc
  exact fun _ => ⟨hd, by rw [← idxTo_nonneg φ l]⟩
def cloneLInt_vc (l : (List (List Int))) (Q : (List (List Int)) → Prop) : Prop :=
  l.length ≤ 9223372036854775807 →
  (∀ isnil : Bool, (isnil = true → l = []) →
  (IfP (isnil != false) (Q []) (capOk ([] : (List (List Int))).length (l : (List (List Int))).length 24 ∧
  Q (([] : (List (List Int))) ++ l))))
theorem cloneLInt_walk (l : (List (List Int))) (Q : (List (List Int)) → Prop) (h : cloneLInt_vc l Q) : CtJ 187 [.sv (.one (LS (lsT intT) l))] [] Q (fun (r : (List (List Int))) => rowI 23 (lsT intT) r) := by
  have ht := tab_ok
  refine CtJ.body Try.func187 rfl rfl rfl rfl (fun c hn hmay => ?_)
  unfold cloneLInt_vc at h
  refine En.lenL 0 (by rfl) (fun hl => ?_)
  replace h := h hl
  clear hl
  refine En.seq ?_
  refine En.region ?_
  refine WL.run ht hn 1 ⟨[(0, .sv (.one (LS (lsT intT) l)))], []⟩ (by kernel_rfl) ?_
  refine WL.nil ?_
  refine En.seq ?_
  refine En.seq ?_
  refine En.region ?_
  refine WL.run ht hn 1 ⟨[(0, .sv (.one (LS (lsT intT) l))), (3, .sv (.one (LS (lsT intT) l)))], []⟩ (by kernel_rfl) ?_
  refine WL.eqNil (T := (lsT intT)) (l := l) .eql false (by simp) ht hn (by rfl) rfl (by rfl) (by rfl) (by rfl) rfl (by rfl) (fun isnil hisnil => ?_)
  replace h := h isnil hisnil
  clear hisnil
  refine WL.nil ?_
  refine En.cond (b := (isnil != false)) (by kernel_rfl) (fun hb => ?_) (fun hb => ?_)
  · replace h := h.1 hb
    refine En.seq ?_
    refine En.region ?_
    refine WL.run ht hn 1 ⟨[(2, .sv (.one (.v (.slice none 0 0))))], []⟩ (by kernel_rfl) ?_
    refine WL.nil ?_
    refine En.ret ?_
    exact En.backN (by rfl) h
  · replace h := h.2 hb
    refine En.skip ?_
    refine En.seq ?_
    refine En.region ?_
    refine WL.mt0 (K := []) (p := some (0, rowI 23 (lsT intT) ([] : (List (List Int))))) hn (by rfl) (mt_empty (lsT intT) 0 ht rfl (by rfl) (by rfl) (by rfl)) (by rfl) (by rfl) (by rfl) ?_
    refine WL.run ht hn 1 ⟨[(5, .sv (.one (.own 0))), (6, .sv (.one (LS (lsT intT) l)))], [rowI 23 (lsT intT) ([] : (List (List Int)))]⟩ (by kernel_rfl) ?_
    have hp := h.1
    replace h := h.2
    refine WL.mt (S2 := ⟨[(6, .sv (.one (LS (lsT intT) l)))], [rowI 23 (lsT intT) ([] : (List (List Int)))]⟩) (K := [0]) (p := some (0, rowI 23 (lsT intT) (([] : (List (List Int))) ++ l))) hn (by rfl) (mt_append (T := (lsT intT)) (l := ([] : (List (List Int)))) (es := l) ht rfl (by rfl) (by rfl) (by rfl) (by rfl) (by decide) (by rfl) (by rfl) (srcLS (T := (lsT intT)) (es := l) (fun _ h => by cases h) (by decide) (by rfl)) (by exact hp) (by exact hp.le (by decide))) (by kernel_rfl) (by rfl) (by rfl) (by rfl) ?_
    refine WL.run ht hn 1 ⟨[(2, .sv (.one (.own 0)))], [rowI 23 (lsT intT) (([] : (List (List Int))) ++ l)]⟩ (by kernel_rfl) ?_
    refine WL.nil ?_
    refine En.ret ?_
    exact En.backJ (itf := fun l => rowI 23 (lsT intT) l) hmay (by rfl) (by rfl) rfl rfl h
theorem en187 : ∀ args w, (callFunc 187 args).run Try.prog w = .ok (.enter 187 args) w := enters_of Try.func187 (by kernel_rfl) rfl
theorem cloneLInt_ct (l : List (List Int)) (hp : l.length * 24 ≤ 140737488355328) : CtI 187 [.sv (.one (LS (lsT intT) l))] [] (rowI 23 (lsT intT) l) := by
  refine (cloneLInt_walk l (fun r => r = l) ?_).fun
  unfold cloneLInt_vc
  refine fun _ isnil h => ⟨fun hb => (h (by simpa using hb)).symm, fun _ => ⟨?_, by simp⟩⟩
  unfold capOk
  simpa using hp
def growNil_vc (n : Int) (Q : (List Int) → Prop) : Prop :=
  IfP (decide (n < 0)) (False) (∃ J : (List Int) → Prop, (IfP (decide ((wr (n - (wr (0 - ((0 : Nat) : Int))))) > 0)) ((0 < (wr (n - (wr (0 - ((0 : Nat) : Int))))) ∧ (wr (n - (wr (0 - ((0 : Nat) : Int))))) * 8 ≤ 140737488355328 ∧ (wr (n - (wr (0 - ((0 : Nat) : Int))))) ≤ 140737488355328) ∧
  (0 ≤ ((0 : Nat) : Int) ∧ ((0 : Nat) : Int) ≤ ((List.replicate ((wr (n - (wr (0 - ((0 : Nat) : Int)))))).toNat (0 : Int)).length : Int)) ∧
  J ((List.replicate ((wr (n - (wr (0 - ((0 : Nat) : Int)))))).toNat (0 : Int)).take (((0 : Nat) : Int) : Int).toNat)) (J ([] : (List Int)))) ∧
  (∀ (l0 : (List Int)), J l0 → Q l0))
theorem growNil_walk (n : Int) (Q : (List Int) → Prop) (h : growNil_vc n Q) : CtJ 127 [.sv (.one (.v (.slice none 0 0))), .sv (.one (I n))] [] Q (fun (r : (List Int)) => rowI 3 intT r) := by
  have ht := tab_ok
  refine CtJ.body Try.func127 rfl rfl rfl rfl (fun c hn hmay => ?_)
  unfold growNil_vc at h
  refine En.seq ?_
  refine En.region ?_
  refine WL.run ht hn 1 ⟨[(0, .sv (.one (.v (.slice none 0 0)))), (1, .sv (.one (I n)))], []⟩ (by kernel_rfl) ?_
  refine WL.nil ?_
  refine En.seq ?_
  refine En.seq ?_
  refine En.region ?_
  refine WL.run ht hn 2 ⟨[(0, .sv (.one (.v (.slice none 0 0)))), (1, .sv (.one (I n))), (6, .sv (.one (B (decide (n < 0)))))], []⟩ (by kernel_rfl) ?_
  refine WL.nil ?_
  refine En.cond (b := (decide (n < 0))) (by kernel_rfl) (fun hb => ?_) (fun hb => ?_)
  · replace h := h.1 hb
    exact h.elim
  · replace h := h.2 hb
    refine En.skip ?_
    obtain ⟨J, h, hJ⟩ := h
    refine En.seqJ (σ := (List Int)) (fun zz => J zz) (fun zz => ⟨[(0, .sv (.one (.own 0)))], [rowI 3 intT zz]⟩) ?_ ?_
    · refine En.seq ?_
      refine En.region ?_
      refine WL.run ht hn 2 ⟨[(0, .sv (.one (.v (.slice none 0 0)))), (8, .sv (.one (I n))), (9, .sv (.one (.v (.slice none 0 0))))], []⟩ (by kernel_rfl) ?_
      refine WL.val hn (by rfl) (val_capNil ht rfl (by rfl) (by rfl) (by rfl)) (by rfl) ?_
      refine WL.run ht hn 5 ⟨[(0, .sv (.one (.v (.slice none 0 0)))), (1, .sv (.one (I (wr (n - (wr (0 - ((0 : Nat) : Int))))))))], []⟩ (by kernel_rfl) ?_
      refine WL.nil ?_
      refine En.seq ?_
      refine En.region ?_
      refine WL.run ht hn 2 ⟨[(0, .sv (.one (.v (.slice none 0 0)))), (1, .sv (.one (I (wr (n - (wr (0 - ((0 : Nat) : Int)))))))), (16, .sv (.one (B (decide ((wr (n - (wr (0 - ((0 : Nat) : Int))))) > 0)))))], []⟩ (by kernel_rfl) ?_
      refine WL.nil ?_
      refine En.cond (b := (decide ((wr (n - (wr (0 - ((0 : Nat) : Int))))) > 0))) (by kernel_rfl) (fun hb => ?_) (fun hb => ?_)
      · replace h := h.1 hb
        refine En.region ?_
        refine WL.run ht hn 2 ⟨[(0, .sv (.one (.v (.slice none 0 0)))), (1, .sv (.one (I (wr (n - (wr (0 - ((0 : Nat) : Int)))))))), (17, .sv (.one (.v (.slice none 0 0)))), (18, .sv (.one (.v (.slice none 0 0))))], []⟩ (by kernel_rfl) ?_
        refine WL.val hn (by rfl) (val_capNil ht rfl (by rfl) (by rfl) (by rfl)) (by rfl) ?_
        refine WL.val hn (by rfl) (val_sliceNil ht rfl (by rfl) (by rfl) (by rfl) (by rfl) (by rfl)) (by rfl) ?_
        refine WL.run ht hn 1 ⟨[(0, .sv (.one (.v (.slice none 0 0)))), (20, .sv (.one (.v (.slice none 0 0)))), (21, .sv (.one (I (wr (n - (wr (0 - ((0 : Nat) : Int))))))))], []⟩ (by kernel_rfl) ?_
        have hp_2 := h.1
        replace h := h.2
        refine WL.mt0 (K := []) (p := some (0, rowI 3 intT (List.replicate ((wr (n - (wr (0 - ((0 : Nat) : Int)))))).toNat (0 : Int)))) hn (by rfl) (mt_appendZ (T := intT) (0 : Int) (zv := (.int .i64 0)) 0 (l := (wr (n - (wr (0 - ((0 : Nat) : Int)))))) ht rfl (by rfl) (by rfl) (by rfl) (by rfl) (by decide) Try.underlying3 (by rfl) (by rfl) hp_2.1 (by exact hp_2.2.1) hp_2.2.2 rfl (fun _ => ⟨rfl, trivial⟩)) (by rfl) (by rfl) (by rfl) ?_
        refine WL.run ht hn 2 ⟨[(22, .sv (.one (.own 0))), (24, .sv (.one (I ((0 : Nat) : Int))))], [rowI 3 intT (List.replicate ((wr (n - (wr (0 - ((0 : Nat) : Int)))))).toNat (0 : Int))]⟩ (by kernel_rfl) ?_
        have hp_3 := h.1
        replace h := h.2
        refine WL.mt (S2 := ⟨[(24, .sv (.one (I ((0 : Nat) : Int))))], [rowI 3 intT (List.replicate ((wr (n - (wr (0 - ((0 : Nat) : Int)))))).toNat (0 : Int))]⟩) (K := [0]) (p := some (0, rowI 3 intT ((List.replicate ((wr (n - (wr (0 - ((0 : Nat) : Int)))))).toNat (0 : Int)).take (((0 : Nat) : Int) : Int).toNat))) hn (by rfl) (mt_sliceO (T := intT) (l := (List.replicate ((wr (n - (wr (0 - ((0 : Nat) : Int)))))).toNat (0 : Int))) (p := 0) (hv := ((0 : Nat) : Int)) ht rfl (by rfl) (by rfl) (by rfl) (by rfl) (by rfl) (by rfl) (by rfl) hp_3) (by kernel_rfl) (by rfl) (by rfl) (by rfl) ?_
        refine WL.run ht hn 1 ⟨[(0, .sv (.one (.own 0)))], [rowI 3 intT ((List.replicate ((wr (n - (wr (0 - ((0 : Nat) : Int)))))).toNat (0 : Int)).take (((0 : Nat) : Int) : Int).toNat)]⟩ (by kernel_rfl) ?_
        refine WL.nil ?_
        exact En.at (I := fun zz => J zz) (T := fun zz => ⟨[(0, .sv (.one (.own 0)))], [rowI 3 intT zz]⟩) ((List.replicate ((wr (n - (wr (0 - ((0 : Nat) : Int)))))).toNat (0 : Int)).take (((0 : Nat) : Int) : Int).toNat) h (by kernel_rfl)
      · replace h := h.2 hb
        refine En.skip ?_
        refine En.rowNil 0 0 3 intT (by rfl) (by rfl) ?_
        exact En.at (I := fun zz => J zz) (T := fun zz => ⟨[(0, .sv (.one (.own 0)))], [rowI 3 intT zz]⟩) ([] : (List Int)) h (by kernel_rfl)
    · intro l0 h
      replace h := hJ _ h
      show En c ⟨[(0, .sv (.one (.own 0)))], [rowI 3 intT l0]⟩ _
      refine En.seq ?_
      refine En.region ?_
      refine WL.run ht hn 2 ⟨[(4, .sv (.one (.own 0)))], [rowI 3 intT l0]⟩ (by kernel_rfl) ?_
      refine WL.nil ?_
      refine En.ret ?_
      exact En.backJ (itf := fun l => rowI 3 intT l) hmay (by rfl) (by rfl) rfl rfl h
theorem en127 : ∀ args w, (callFunc 127 args).run Try.prog w = .ok (.enter 127 args) w := enters_of Try.func127 (by kernel_rfl) rfl
theorem growNil_ct (n : Int) (hp : 0 ≤ n ∧ n ≤ 4611686018427) : CtI 127 [.sv (.one (.v (.slice none 0 0))), .sv (.one (I n))] [] (rowI 3 intT []) := by
  refine (growNil_walk n (fun r => r = []) ?_).fun
  have h0 : wr (0 - ((0 : Nat) : Int)) = 0 := by decide
  have h1 : wr (n - wr (0 - ((0 : Nat) : Int))) = n := by rw [h0, wr_in (by omega) (by omega)]; omega
  refine ⟨fun h => absurd (of_decide_eq_true h) (by omega), fun _ => ⟨fun l => l = [], ⟨fun h => ?_, fun _ => rfl⟩, fun l h => h⟩⟩
  rw [h1] at h ⊢
  exact ⟨⟨of_decide_eq_true h, by omega, by omega⟩, ⟨by decide, by omega⟩, rfl⟩
def concatI_vc (l : (List (List Int))) (Q : (List Int) → Prop) : Prop :=
  l.length ≤ 9223372036854775807 →
  (∃ (Inv : Int → Int → Prop) (mu : Int → Int → Nat), Inv 0 0 ∧
  ∀ (x3 : Int) (x11 : Int) , Inv x3 x11 → (IfP (decide (x11 < (l.length : Int))) (∃ e, idx l x11 = some e ∧
  IfP (decide ((wr (x3 + (e.length : Int))) < 0)) (False) ((Inv (wr (x3 + (e.length : Int))) (wr (x11 + 1)) ∧ mu (wr (x3 + (e.length : Int))) (wr (x11 + 1)) < mu x3 x11))) ((0 ≤ x3 ∧ x3 ≤ 4611686018427) ∧
  ∃ (Inv_2 : Int → (List Int) → Prop) (mu_2 : Int → (List Int) → Nat), Inv_2 0 (([] : List Int)) ∧
  ∀ (x27 : Int) (l0 : (List Int)) , Inv_2 x27 l0 → (IfP (decide (x27 < (l.length : Int))) (∃ e_2, idx l x27 = some e_2 ∧
  capOk l0.length (e_2 : (List Int)).length 8 ∧
  (Inv_2 (wr (x27 + 1)) (l0 ++ e_2) ∧ mu_2 (wr (x27 + 1)) (l0 ++ e_2) < mu_2 x27 l0)) (Q l0)))))
theorem concatI_walk (l : (List (List Int))) (Q : (List Int) → Prop) (h : concatI_vc l Q) : CtJ 59 [.sv (.one (LS (lsT intT) l))] [] Q (fun (r : (List Int)) => rowI 3 intT r) := by
  have ht := tab_ok
  refine CtJ.body Try.func59 rfl rfl rfl rfl (fun c hn hmay => ?_)
  unfold concatI_vc at h
  refine En.lenL 0 (by rfl) (fun hl => ?_)
  replace h := h hl
  clear hl
  refine En.seq ?_
  refine En.region ?_
  refine WL.run ht hn 1 ⟨[(0, .sv (.one (LS (lsT intT) l)))], []⟩ (by kernel_rfl) ?_
  refine WL.nil ?_
  refine En.seq ?_
  refine En.region ?_
  refine WL.run ht hn 1 ⟨[(0, .sv (.one (LS (lsT intT) l))), (3, .sv (.one (I 0)))], []⟩ (by kernel_rfl) ?_
  refine WL.nil ?_
  refine En.seq ?_
  refine En.seq ?_
  refine En.region ?_
  refine WL.run ht hn 3 ⟨[(0, .sv (.one (LS (lsT intT) l))), (3, .sv (.one (I 0))), (9, .sv (.one (LS (lsT intT) l))), (10, .sv (.one (I (l.length : Int)))), (11, .sv (.one (I 0)))], []⟩ (by kernel_rfl) ?_
  refine WL.nil ?_
  refine En.block ?_
  obtain ⟨Inv, mu, h0_2, hI_2⟩ := h
  refine En.loop (σ := Int × Int) (fun zz => Inv zz.1 zz.2) (fun zz => mu zz.1 zz.2) (fun zz => ⟨[(0, .sv (.one (LS (lsT intT) l))), (3, .sv (.one (I zz.1))), (9, .sv (.one (LS (lsT intT) l))), (10, .sv (.one (I (l.length : Int)))), (11, .sv (.one (I zz.2)))], []⟩) (0, 0) h0_2 (sub_ok (by kernel_rfl)) ?_
  rintro ⟨x3, x11⟩ h
  replace h := hI_2 _ _ h
  show En c ⟨[(0, .sv (.one (LS (lsT intT) l))), (3, .sv (.one (I x3))), (9, .sv (.one (LS (lsT intT) l))), (10, .sv (.one (I (l.length : Int)))), (11, .sv (.one (I x11)))], []⟩ _
  refine En.seq ?_
  refine En.region ?_
  refine WL.run ht hn 1 ⟨[(0, .sv (.one (LS (lsT intT) l))), (3, .sv (.one (I x3))), (9, .sv (.one (LS (lsT intT) l))), (10, .sv (.one (I (l.length : Int)))), (11, .sv (.one (I x11))), (12, .sv (.one (B (decide (x11 < (l.length : Int))))))], []⟩ (by kernel_rfl) ?_
  refine WL.nil ?_
  refine En.seq ?_
  refine En.cond (b := (decide (x11 < (l.length : Int)))) (by kernel_rfl) (fun hb => ?_) (fun hb => ?_)
  · replace h := h.1 hb
    refine En.skip ?_
    refine En.seq ?_
    refine En.block ?_
    refine En.seq ?_
    refine En.region ?_
    obtain ⟨e, he, h⟩ := h
    refine WL.val hn (by rfl) (val_index (T := (lsT intT)) (l := l) (i := x11) ht rfl (by rfl) (by rfl) (by rfl) (by rfl) (by rfl) (by rfl) he) (by rfl) ?_
    refine WL.val hn (by rfl) (val_load (s := .one (LS intT e)) ht rfl (by rfl) (by rfl) (by rfl) (by rfl) (by rfl)) (by rfl) ?_
    refine WL.run ht hn 1 ⟨[(0, .sv (.one (LS (lsT intT) l))), (3, .sv (.one (I x3))), (5, .sv (.one (LS intT e))), (9, .sv (.one (LS (lsT intT) l))), (10, .sv (.one (I (l.length : Int)))), (11, .sv (.one (I x11)))], []⟩ (by kernel_rfl) ?_
    refine WL.nil ?_
    refine En.seq ?_
    refine En.region ?_
    refine WL.run ht hn 5 ⟨[(0, .sv (.one (LS (lsT intT) l))), (3, .sv (.one (I (wr (x3 + (e.length : Int)))))), (9, .sv (.one (LS (lsT intT) l))), (10, .sv (.one (I (l.length : Int)))), (11, .sv (.one (I x11)))], []⟩ (by kernel_rfl) ?_
    refine WL.nil ?_
    refine En.seq ?_
    refine En.region ?_
    refine WL.run ht hn 2 ⟨[(0, .sv (.one (LS (lsT intT) l))), (3, .sv (.one (I (wr (x3 + (e.length : Int)))))), (9, .sv (.one (LS (lsT intT) l))), (10, .sv (.one (I (l.length : Int)))), (11, .sv (.one (I x11))), (20, .sv (.one (B (decide ((wr (x3 + (e.length : Int))) < 0)))))], []⟩ (by kernel_rfl) ?_
    refine WL.nil ?_
    refine En.cond (b := (decide ((wr (x3 + (e.length : Int))) < 0))) (by kernel_rfl) (fun hb => ?_) (fun hb => ?_)
    · replace h := h.1 hb
      exact h.elim
    · replace h := h.2 hb
      refine En.skip ?_
      refine En.region ?_
      refine WL.run ht hn 2 ⟨[(0, .sv (.one (LS (lsT intT) l))), (3, .sv (.one (I (wr (x3 + (e.length : Int)))))), (9, .sv (.one (LS (lsT intT) l))), (10, .sv (.one (I (l.length : Int)))), (11, .sv (.one (I (wr (x11 + 1)))))], []⟩ (by kernel_rfl) ?_
      refine WL.nil ?_
      exact En.at (I := fun zz => Inv zz.1 zz.2 ∧ mu zz.1 zz.2 < mu x3 x11) (T := fun zz => ⟨[(0, .sv (.one (LS (lsT intT) l))), (3, .sv (.one (I zz.1))), (9, .sv (.one (LS (lsT intT) l))), (10, .sv (.one (I (l.length : Int)))), (11, .sv (.one (I zz.2)))], []⟩) ((wr (x3 + (e.length : Int))), (wr (x11 + 1))) h (by kernel_rfl)
  · replace h := h.2 hb
    refine En.exit rfl ?_
    refine En.seq ?_
    refine En.region ?_
    refine WL.run ht hn 1 ⟨[(0, .sv (.one (LS (lsT intT) l))), (23, .sv (.one (I x3)))], []⟩ (by kernel_rfl) ?_
    have hp := h.1
    replace h := h.2
    refine WL.mt0 (K := []) (p := some (0, rowI 3 intT (([] : List Int)))) hn (by rfl) (mt_callI 0 (growNil_ct x3 hp) en127 (caps := []) [] rfl rfl (by rfl) (by kernel_rfl) (by kernel_rfl) (by rfl) (by rfl)) (by rfl) (by rfl) (by rfl) ?_
    refine WL.run ht hn 1 ⟨[(0, .sv (.one (LS (lsT intT) l))), (6, .sv (.one (.own 0)))], [rowI 3 intT (([] : List Int))]⟩ (by kernel_rfl) ?_
    refine WL.nil ?_
    refine En.seq ?_
    refine En.seq ?_
    refine En.region ?_
    refine WL.run ht hn 3 ⟨[(6, .sv (.one (.own 0))), (25, .sv (.one (LS (lsT intT) l))), (26, .sv (.one (I (l.length : Int)))), (27, .sv (.one (I 0)))], [rowI 3 intT (([] : List Int))]⟩ (by kernel_rfl) ?_
    refine WL.nil ?_
    refine En.block ?_
    obtain ⟨Inv_2, mu_2, h0, hI⟩ := h
    refine En.loop (σ := Int × (List Int)) (fun zz => Inv_2 zz.1 zz.2) (fun zz => mu_2 zz.1 zz.2) (fun zz => ⟨[(6, .sv (.one (.own 0))), (25, .sv (.one (LS (lsT intT) l))), (26, .sv (.one (I (l.length : Int)))), (27, .sv (.one (I zz.1)))], [rowI 3 intT zz.2]⟩) (0, (([] : List Int))) h0 (sub_ok (by kernel_rfl)) ?_
    rintro ⟨x27, l0⟩ h
    replace h := hI _ _ h
    show En c ⟨[(6, .sv (.one (.own 0))), (25, .sv (.one (LS (lsT intT) l))), (26, .sv (.one (I (l.length : Int)))), (27, .sv (.one (I x27)))], [rowI 3 intT l0]⟩ _
    refine En.seq ?_
    refine En.region ?_
    refine WL.run ht hn 1 ⟨[(6, .sv (.one (.own 0))), (25, .sv (.one (LS (lsT intT) l))), (26, .sv (.one (I (l.length : Int)))), (27, .sv (.one (I x27))), (28, .sv (.one (B (decide (x27 < (l.length : Int))))))], [rowI 3 intT l0]⟩ (by kernel_rfl) ?_
    refine WL.nil ?_
    refine En.seq ?_
    refine En.cond (b := (decide (x27 < (l.length : Int)))) (by kernel_rfl) (fun hb => ?_) (fun hb => ?_)
    · replace h := h.1 hb
      refine En.skip ?_
      refine En.seq ?_
      refine En.block ?_
      refine En.seq ?_
      refine En.region ?_
      obtain ⟨e_2, he_2, h⟩ := h
      refine WL.val hn (by rfl) (val_index (T := (lsT intT)) (l := l) (i := x27) ht rfl (by rfl) (by rfl) (by rfl) (by rfl) (by rfl) (by rfl) he_2) (by rfl) ?_
      refine WL.val hn (by rfl) (val_load (s := .one (LS intT e_2)) ht rfl (by rfl) (by rfl) (by rfl) (by rfl) (by rfl)) (by rfl) ?_
      refine WL.run ht hn 1 ⟨[(6, .sv (.one (.own 0))), (8, .sv (.one (LS intT e_2))), (25, .sv (.one (LS (lsT intT) l))), (26, .sv (.one (I (l.length : Int)))), (27, .sv (.one (I x27)))], [rowI 3 intT l0]⟩ (by kernel_rfl) ?_
      refine WL.nil ?_
      refine En.region ?_
      refine WL.run ht hn 2 ⟨[(25, .sv (.one (LS (lsT intT) l))), (26, .sv (.one (I (l.length : Int)))), (27, .sv (.one (I x27))), (31, .sv (.one (.own 0))), (32, .sv (.one (LS intT e_2)))], [rowI 3 intT l0]⟩ (by kernel_rfl) ?_
      have hp := h.1
      replace h := h.2
      refine WL.mt (S2 := ⟨[(25, .sv (.one (LS (lsT intT) l))), (26, .sv (.one (I (l.length : Int)))), (27, .sv (.one (I x27))), (32, .sv (.one (LS intT e_2)))], [rowI 3 intT l0]⟩) (K := [0]) (p := some (0, rowI 3 intT (l0 ++ e_2))) hn (by rfl) (mt_append (T := intT) (l := l0) (es := e_2) ht rfl (by rfl) (by rfl) (by rfl) (by rfl) (by decide) (by rfl) (by rfl) (srcLS (T := intT) (es := e_2) (fun _ h => by cases h) (by decide) (by rfl)) (by exact hp) (by exact hp.le (by decide))) (by kernel_rfl) (by rfl) (by rfl) (by rfl) ?_
      refine WL.run ht hn 1 ⟨[(6, .sv (.one (.own 0))), (25, .sv (.one (LS (lsT intT) l))), (26, .sv (.one (I (l.length : Int)))), (27, .sv (.one (I x27)))], [rowI 3 intT (l0 ++ e_2)]⟩ (by kernel_rfl) ?_
      refine WL.nil ?_
      refine En.region ?_
      refine WL.run ht hn 2 ⟨[(6, .sv (.one (.own 0))), (25, .sv (.one (LS (lsT intT) l))), (26, .sv (.one (I (l.length : Int)))), (27, .sv (.one (I (wr (x27 + 1)))))], [rowI 3 intT (l0 ++ e_2)]⟩ (by kernel_rfl) ?_
      refine WL.nil ?_
      exact En.at (I := fun zz => Inv_2 zz.1 zz.2 ∧ mu_2 zz.1 zz.2 < mu_2 x27 l0) (T := fun zz => ⟨[(6, .sv (.one (.own 0))), (25, .sv (.one (LS (lsT intT) l))), (26, .sv (.one (I (l.length : Int)))), (27, .sv (.one (I zz.1)))], [rowI 3 intT zz.2]⟩) ((wr (x27 + 1)), (l0 ++ e_2)) h (by kernel_rfl)
    · replace h := h.2 hb
      refine En.exit rfl ?_
      refine En.seq ?_
      refine En.region ?_
      refine WL.run ht hn 2 ⟨[(2, .sv (.one (.own 0)))], [rowI 3 intT l0]⟩ (by kernel_rfl) ?_
      refine WL.nil ?_
      refine En.ret ?_
      exact En.backJ (itf := fun l => rowI 3 intT l) hmay (by rfl) (by rfl) rfl rfl h
theorem en59 : ∀ args w, (callFunc 59 args).run Try.prog w = .ok (.enter 59 args) w := enters_of Try.func59 (by kernel_rfl) rfl
theorem flat_take {α : Type} {l : List (List α)} {k : Nat} (h : k < l.length) : (l.take (k + 1)).flatten = (l.take k).flatten ++ l[k] := by
  rw [List.take_add_one, List.flatten_append, List.getElem?_eq_getElem h]
  simp
theorem flat_le {α : Type} (l : List (List α)) (k : Nat) : (l.take k).flatten.length ≤ l.flatten.length := by
  rw [← List.take_append_drop k l, List.flatten_append, List.length_append]
  rw [List.take_append_drop]
  omega
theorem concatI_ct (l : (List (List Int))) (hp : l.length ≤ 1000000 ∧ l.flatten.length ≤ 1000000)  : CtI 59 [.sv (.one (LS (lsT intT) l))] [] (rowI 3 intT (l.flatten)) := by
  refine (concatI_walk l (fun res_ => res_ = (l.flatten)) ?_).fun
  intro _
  refine ⟨fun s i => ∃ k : Nat, i = k ∧ k ≤ l.length ∧ s = (((l.take k).flatten.length : Nat) : Int), fun _ i => l.length - i.toNat, ⟨0, rfl, Nat.zero_le _, by simp⟩, ?_⟩
  rintro s i ⟨k, rfl, hk, rfl⟩
  refine ⟨fun hb => ?_, fun hb => ?_⟩
  · have hlt := dlt hb
    have h1 := flat_le l (k + 1)
    have h2 := flat_take hlt
    have h3 : wr ((((l.take k).flatten.length : Nat) : Int) + (l[k].length : Int)) = (((l.take (k + 1)).flatten.length : Nat) : Int) := by
      rw [h2, List.length_append] at h1 ⊢
      rw [wr_in (by omega) (by omega)]
      omega
    refine ⟨_, idx_at hlt, fun h => ?_, fun _ => ⟨⟨k + 1, wsucc (by omega), hlt, h3⟩, mu_up hlt (by omega)⟩⟩
    have := of_decide_eq_true h
    omega
  have hk' : k = l.length := by have := dge hb; omega
  subst hk'
  rw [List.take_length]
  refine ⟨⟨by omega, by omega⟩, ?_⟩
  refine ⟨fun i r => ∃ k : Nat, i = k ∧ k ≤ l.length ∧ r = (l.take k).flatten, fun i _ => l.length - i.toNat, ⟨0, rfl, Nat.zero_le _, by simp⟩, ?_⟩
  rintro i r ⟨k, rfl, hk, rfl⟩
  refine ⟨fun hb => ?_, fun hb => ?_⟩
  · have hlt := dlt hb
    have h1 := flat_le l (k + 1)
    have h2 := flat_take hlt
    refine ⟨_, idx_at hlt, capOk_of ?_, ⟨k + 1, wsucc (by omega), hlt, h2.symm⟩, mu_up hlt (by omega)⟩
    rw [h2, List.length_append] at h1
    omega
  · rw [List.take_of_length_le (dge hb)]
def equalI_vc (a : (List Int)) (b : (List Int)) (Q : Bool → Prop) : Prop :=
  a.length ≤ 9223372036854775807 →
  b.length ≤ 9223372036854775807 →
  (IfP ((a.length : Int) != (b.length : Int)) (Q false) (∃ (Inv : Int → Prop) (mu : Int → Nat), Inv 0 ∧
  ∀ (x13 : Int) , Inv x13 → (IfP (decide (x13 < (a.length : Int))) (∃ e, idx a x13 = some e ∧
  ∃ e_2, idx b x13 = some e_2 ∧
  IfP (e != e_2) (Q false) ((Inv (wr (x13 + 1)) ∧ mu (wr (x13 + 1)) < mu x13))) (Q true))))
theorem equalI_walk (a : (List Int)) (b : (List Int)) (Q : Bool → Prop) (h : equalI_vc a b Q) : Ct 60 [.sv (.one (LS intT a)), .sv (.one (LS intT b))] [] Q (fun (r : Bool) => .sv (.one (B r))) := by
  have ht := tab_ok
  refine Ct.body Try.func60 rfl rfl rfl rfl (fun c hn => ?_)
  unfold equalI_vc at h
  refine En.lenL 0 (by rfl) (fun hl => ?_)
  replace h := h hl
  clear hl
  refine En.lenL 1 (by rfl) (fun hl => ?_)
  replace h := h hl
  clear hl
  refine En.seq ?_
  refine En.region ?_
  refine WL.run ht hn 1 ⟨[(0, .sv (.one (LS intT a))), (1, .sv (.one (LS intT b)))], []⟩ (by kernel_rfl) ?_
  refine WL.nil ?_
  refine En.seq ?_
  refine En.seq ?_
  refine En.region ?_
  refine WL.run ht hn 5 ⟨[(0, .sv (.one (LS intT a))), (1, .sv (.one (LS intT b))), (10, .sv (.one (B ((a.length : Int) != (b.length : Int)))))], []⟩ (by kernel_rfl) ?_
  refine WL.nil ?_
  refine En.cond (b := ((a.length : Int) != (b.length : Int))) (by kernel_rfl) (fun hb => ?_) (fun hb => ?_)
  · replace h := h.1 hb
    refine En.seq ?_
    refine En.region ?_
    refine WL.run ht hn 1 ⟨[(4, .sv (.one (B false)))], []⟩ (by kernel_rfl) ?_
    refine WL.nil ?_
    refine En.ret ?_
    exact En.back ht false h (by kernel_rfl) rfl
  · replace h := h.2 hb
    refine En.skip ?_
    refine En.seq ?_
    refine En.seq ?_
    refine En.region ?_
    refine WL.run ht hn 3 ⟨[(0, .sv (.one (LS intT a))), (1, .sv (.one (LS intT b))), (12, .sv (.one (I (a.length : Int)))), (13, .sv (.one (I 0)))], []⟩ (by kernel_rfl) ?_
    refine WL.nil ?_
    refine En.block ?_
    obtain ⟨Inv, mu, h0, hI⟩ := h
    refine En.loop (σ := Int) (fun zz => Inv zz) (fun zz => mu zz) (fun zz => ⟨[(0, .sv (.one (LS intT a))), (1, .sv (.one (LS intT b))), (12, .sv (.one (I (a.length : Int)))), (13, .sv (.one (I zz)))], []⟩) 0 h0 (sub_ok (by kernel_rfl)) ?_
    intro x13 h
    replace h := hI _ h
    show En c ⟨[(0, .sv (.one (LS intT a))), (1, .sv (.one (LS intT b))), (12, .sv (.one (I (a.length : Int)))), (13, .sv (.one (I x13)))], []⟩ _
    refine En.seq ?_
    refine En.region ?_
    refine WL.run ht hn 1 ⟨[(0, .sv (.one (LS intT a))), (1, .sv (.one (LS intT b))), (12, .sv (.one (I (a.length : Int)))), (13, .sv (.one (I x13))), (14, .sv (.one (B (decide (x13 < (a.length : Int))))))], []⟩ (by kernel_rfl) ?_
    refine WL.nil ?_
    refine En.seq ?_
    refine En.cond (b := (decide (x13 < (a.length : Int)))) (by kernel_rfl) (fun hb => ?_) (fun hb => ?_)
    · replace h := h.1 hb
      refine En.skip ?_
      refine En.seq ?_
      refine En.block ?_
      refine En.seq ?_
      refine En.region ?_
      refine WL.run ht hn 2 ⟨[(0, .sv (.one (LS intT a))), (1, .sv (.one (LS intT b))), (5, .sv (.one (I x13))), (12, .sv (.one (I (a.length : Int)))), (13, .sv (.one (I x13)))], []⟩ (by kernel_rfl) ?_
      refine WL.nil ?_
      refine En.seq ?_
      refine En.regionS (by kernel_rfl) (by kernel_rfl) ?_
      refine SL.run ht hn 2 ⟨[(0, .sv (.one (LS intT a))), (1, .sv (.one (LS intT b))), (5, .sv (.one (I x13))), (12, .sv (.one (I (a.length : Int)))), (13, .sv (.one (I x13))), (16, .sv (.one (LS intT a))), (17, .sv (.one (I x13)))], []⟩ (by kernel_rfl) ?_
      obtain ⟨e, he, h⟩ := h
      refine SL.val hn (by rfl) (val_index (T := intT) (l := a) (i := x13) ht rfl (by rfl) (by rfl) (by rfl) (by rfl) (by rfl) (by rfl) he) (by rfl) ?_
      refine SL.val hn (by rfl) (val_load (s := .one (I e)) ht rfl (by rfl) (by rfl) (by rfl) (by rfl) (by rfl)) (by rfl) ?_
      refine SL.run ht hn 2 ⟨[(0, .sv (.one (LS intT a))), (1, .sv (.one (LS intT b))), (5, .sv (.one (I x13))), (12, .sv (.one (I (a.length : Int)))), (13, .sv (.one (I x13))), (16, .sv (.one (LS intT a))), (17, .sv (.one (I x13))), (18, .sv (.one (.pe (svR (.one (I e))) 1))), (19, .sv (.one (I e))), (20, .sv (.one (LS intT b))), (21, .sv (.one (I x13)))], []⟩ (by kernel_rfl) ?_
      obtain ⟨e_2, he_2, h⟩ := h
      refine SL.val hn (by rfl) (val_index (T := intT) (l := b) (i := x13) ht rfl (by rfl) (by rfl) (by rfl) (by rfl) (by rfl) (by rfl) he_2) (by rfl) ?_
      refine SL.val hn (by rfl) (val_load (s := .one (I e_2)) ht rfl (by rfl) (by rfl) (by rfl) (by rfl) (by rfl)) (by rfl) ?_
      refine SL.run ht hn 1 ⟨[(0, .sv (.one (LS intT a))), (1, .sv (.one (LS intT b))), (5, .sv (.one (I x13))), (12, .sv (.one (I (a.length : Int)))), (13, .sv (.one (I x13))), (16, .sv (.one (LS intT a))), (17, .sv (.one (I x13))), (18, .sv (.one (.pe (svR (.one (I e))) 1))), (19, .sv (.one (I e))), (20, .sv (.one (LS intT b))), (21, .sv (.one (I x13))), (22, .sv (.one (.pe (svR (.one (I e_2))) 1))), (23, .sv (.one (I e_2))), (24, .sv (.one (B (e != e_2))))], []⟩ (by kernel_rfl) ?_
      refine SL.nil ⟨by kernel_rfl, ?_⟩
      refine En.cond (b := (e != e_2)) (by kernel_rfl) (fun hb => ?_) (fun hb => ?_)
      · replace h := h.1 hb
        refine En.seq ?_
        refine En.region ?_
        refine WL.run ht hn 1 ⟨[(4, .sv (.one (B false)))], []⟩ (by kernel_rfl) ?_
        refine WL.nil ?_
        refine En.ret ?_
        exact En.back ht false h (by kernel_rfl) rfl
      · replace h := h.2 hb
        refine En.skip ?_
        refine En.region ?_
        refine WL.run ht hn 2 ⟨[(0, .sv (.one (LS intT a))), (1, .sv (.one (LS intT b))), (12, .sv (.one (I (a.length : Int)))), (13, .sv (.one (I (wr (x13 + 1)))))], []⟩ (by kernel_rfl) ?_
        refine WL.nil ?_
        exact En.at (I := fun zz => Inv zz ∧ mu zz < mu x13) (T := fun zz => ⟨[(0, .sv (.one (LS intT a))), (1, .sv (.one (LS intT b))), (12, .sv (.one (I (a.length : Int)))), (13, .sv (.one (I zz)))], []⟩) (wr (x13 + 1)) h (by kernel_rfl)
    · replace h := h.2 hb
      refine En.exit rfl ?_
      refine En.seq ?_
      refine En.region ?_
      refine WL.run ht hn 1 ⟨[(4, .sv (.one (B true)))], []⟩ (by kernel_rfl) ?_
      refine WL.nil ?_
      refine En.ret ?_
      exact En.back ht true h (by kernel_rfl) rfl
theorem en60 : ∀ args w, (callFunc 60 args).run Try.prog w = .ok (.enter 60 args) w := enters_of Try.func60 (by kernel_rfl) rfl
theorem equalI_ct (a : (List Int)) (b : (List Int))  : Ct 60 [.sv (.one (LS intT a)), .sv (.one (LS intT b))] [] (fun (_ : Unit) => True) (fun _ => .sv (.one (B (decide (a = b))))) := by
  refine (equalI_walk a b (fun res_ => res_ = (decide (a = b))) ?_).fun
  intro ha hb
  refine ⟨fun h => ?_, fun h => ?_⟩
  · show false = decide (a = b)
    rw [eq_comm, decide_eq_false_iff_not]
    rintro rfl
    simp at h
  have hl : a.length = b.length := by have := h; simp only [bne_eq_false_iff_eq] at this; omega
  refine ⟨fun i => ∃ k : Nat, i = k ∧ k ≤ a.length ∧ a.take k = b.take k, fun i => a.length - i.toNat, ⟨0, rfl, Nat.zero_le _, by simp⟩, ?_⟩
  rintro i ⟨k, rfl, hk, ht⟩
  refine ⟨fun hb1 => ?_, fun hb1 => ?_⟩
  · have hlt := dlt hb1
    have hlt2 : k < b.length := by omega
    refine ⟨_, idx_at hlt, _, idx_at hlt2, fun hne => ?_, fun he => ⟨⟨k + 1, wsucc (by omega), hlt, ?_⟩, mu_up hlt (by omega)⟩⟩
    · show false = decide (a = b)
      rw [eq_comm, decide_eq_false_iff_not]
      rintro rfl
      simp at hne
    · have he : a[k] = b[k] := by simpa using he
      rw [List.take_add_one, List.take_add_one, ht, List.getElem?_eq_getElem hlt, List.getElem?_eq_getElem hlt2, he]
  · have hge := dge hb1
    rw [List.take_of_length_le hge, List.take_of_length_le (by omega)] at ht
    show true = decide (a = b)
    rw [ht]
    simp
def trNo (n q : Int) : Bool := (decide (q < 0)) || (decide (q ≥ n))
theorem trNo_iff {n q : Int} : trNo n q = false ↔ 0 ≤ q ∧ q < n := by
  unfold trNo
  simp only [Bool.or_eq_false_iff, decide_eq_false_iff_not]
  omega
def saidR (t : ApiTrans) : List (List Int) := t.fFirst :: (t.fLast ++ t.fSays.flatten)
def longR (t : ApiTrans) : Bool := (saidR t).any fun w => decide ((w.length : Int) > 8)
def rowBad (t : ApiTrans) (q : Nat) : Bool := (((t.fNext.getD q []).length : Int) != t.fIn) || (((t.fSays.getD q []).length : Int) != t.fIn)
def badN (n : Int) : Bool := (decide (n < 1)) || (decide (n > 4))
def trErr (t : ApiTrans) : Int :=
  if badN t.fIn || badN t.fOut then 2 else
  if (decide ((t.fNext.length : Int) < 1)) || (decide ((t.fNext.length : Int) > 6)) then 1 else
  if ((t.fSays.length : Int) != (t.fNext.length : Int)) || ((t.fLast.length : Int) != (t.fNext.length : Int)) then 3 else
  if (List.range t.fNext.length).any (rowBad t) then 3 else
  if trNo (t.fNext.length : Int) t.fStart || t.fNext.any (fun r => r.any (trNo (t.fNext.length : Int))) then 2 else
  if longR t then 1 else
  if (saidR t).any (fun w => w.any (trNo t.fOut)) then 2 else 0
structure TrChk (t : ApiTrans) : Prop where
  in_ : 1 ≤ t.fIn ∧ t.fIn ≤ 4
  out : 1 ≤ t.fOut ∧ t.fOut ≤ 4
  size : 1 ≤ t.fNext.length ∧ t.fNext.length ≤ 6
  says : t.fSays.length = t.fNext.length
  last : t.fLast.length = t.fNext.length
  rows : ∀ q, q < t.fNext.length → ((t.fNext.getD q []).length : Int) = t.fIn ∧ ((t.fSays.getD q []).length : Int) = t.fIn
  start : 0 ≤ t.fStart ∧ t.fStart < (t.fNext.length : Int)
  next : ∀ r ∈ t.fNext, ∀ x ∈ r, 0 ≤ x ∧ x < (t.fNext.length : Int)
  short : ∀ w ∈ saidR t, w.length ≤ 8
  lets : ∀ w ∈ saidR t, LetOk t.fOut w
theorem badN_iff {n : Int} : badN n = false ↔ 1 ≤ n ∧ n ≤ 4 := by
  unfold badN
  simp only [Bool.or_eq_false_iff, decide_eq_false_iff_not]
  omega
theorem trErr_iff (t : ApiTrans) : trErr t = 0 ↔ TrChk t := by
  unfold trErr
  constructor
  · intro h
    by_cases h1 : (badN t.fIn || badN t.fOut) = true
    · rw [if_pos h1] at h; cases h
    rw [if_neg h1] at h
    by_cases h2 : ((decide ((t.fNext.length : Int) < 1)) || (decide ((t.fNext.length : Int) > 6))) = true
    · rw [if_pos h2] at h; cases h
    rw [if_neg h2] at h
    by_cases h3 : (((t.fSays.length : Int) != (t.fNext.length : Int)) || ((t.fLast.length : Int) != (t.fNext.length : Int))) = true
    · rw [if_pos h3] at h; cases h
    rw [if_neg h3] at h
    by_cases h4 : (List.range t.fNext.length).any (rowBad t) = true
    · rw [if_pos h4] at h; cases h
    rw [if_neg h4] at h
    by_cases h5 : (trNo (t.fNext.length : Int) t.fStart || t.fNext.any (fun r => r.any (trNo (t.fNext.length : Int)))) = true
    · rw [if_pos h5] at h; cases h
    rw [if_neg h5] at h
    by_cases h6 : longR t = true
    · rw [if_pos h6] at h; cases h
    rw [if_neg h6] at h
    by_cases h7 : (saidR t).any (fun w => w.any (trNo t.fOut)) = true
    · rw [if_pos h7] at h; cases h
    unfold longR at h6
    simp only [Bool.not_eq_true, Bool.or_eq_false_iff, decide_eq_false_iff_not, List.any_eq_false, trNo_iff, badN_iff, bne_eq_false_iff_eq] at h1 h2 h3 h4 h5 h6 h7
    refine ⟨h1.1, h1.2, by omega, by omega, by omega, fun q hq => ?_, h5.1, h5.2, fun w hw => by have := h6 w hw; simp at this; omega, h7⟩
    have := h4 q (List.mem_range.2 hq)
    unfold rowBad at this
    simpa using this
  · intro h
    have h1 : (badN t.fIn || badN t.fOut) = false := by rw [badN_iff.2 h.in_, badN_iff.2 h.out]; rfl
    have h2 : ((decide ((t.fNext.length : Int) < 1)) || (decide ((t.fNext.length : Int) > 6))) = false := by
      have := h.size
      simp only [Bool.or_eq_false_iff, decide_eq_false_iff_not]; omega
    have h3 : (((t.fSays.length : Int) != (t.fNext.length : Int)) || ((t.fLast.length : Int) != (t.fNext.length : Int))) = false := by
      rw [h.says, h.last]; simp
    have h4 : (List.range t.fNext.length).any (rowBad t) = false := by
      rw [List.any_eq_false]
      intro q hq
      have := h.rows q (List.mem_range.1 hq)
      unfold rowBad
      rw [this.1, this.2]
      simp
    have h5 : (trNo (t.fNext.length : Int) t.fStart || t.fNext.any (fun r => r.any (trNo (t.fNext.length : Int)))) = false := by
      rw [Bool.or_eq_false_iff]
      refine ⟨trNo_iff.2 h.start, ?_⟩
      rw [List.any_eq_false]
      intro r hr
      rw [Bool.not_eq_true, List.any_eq_false]
      intro p hp
      rw [Bool.not_eq_true, trNo_iff]
      exact h.next r hr p hp
    have h6 : longR t = false := by
      unfold longR
      rw [List.any_eq_false]
      intro w hw
      have := h.short w hw
      simp
      omega
    have h7 : (saidR t).any (fun w => w.any (trNo t.fOut)) = false := by
      rw [List.any_eq_false]
      intro w hw
      rw [Bool.not_eq_true, List.any_eq_false]
      intro b hb
      rw [Bool.not_eq_true, trNo_iff]
      exact h.lets w hw b hb
    rw [h1, h2, h3, h4, h5, h6, h7]
    rfl
theorem TrChk.ok {t : ApiTrans} (h : TrChk t) : TrOk t := by
  refine ⟨h.in_, h.out, ⟨h.size.1, by have := h.size.2; omega⟩, h.says, h.last, fun r hr => ?_, fun r hr => ?_, h.start, h.next⟩
  · obtain ⟨q, hq, rfl⟩ := List.getElem_of_mem hr
    have := (h.rows q hq).1
    rwa [getD_el hq] at this
  · obtain ⟨q, hq, rfl⟩ := List.getElem_of_mem hr
    have := (h.rows q (by rw [← h.says]; exact hq)).2
    rwa [getD_el hq] at this
theorem la_said {t : ApiTrans} (h : TrOk t) {q : Nat} (hq : q < t.fNext.length) : laT t q ∈ saidR t := by
  unfold saidR laT
  exact List.mem_cons_of_mem _ (List.mem_append_left _ (getD_in (by rw [h.last]; exact hq)))
theorem sy_said {t : ApiTrans} (h : TrOk t) {q a : Nat} (hq : q < t.fNext.length) (ha : a < t.fIn.toNat) : syT t q a ∈ saidR t := by
  unfold saidR syT
  have h1 : t.fSays.getD q [] ∈ t.fSays := getD_in (by rw [h.says]; exact hq)
  have h2 := h.srow hq
  exact List.mem_cons_of_mem _ (List.mem_append_right _ (List.mem_flatten.2 ⟨_, h1, getD_in (by omega)⟩))
theorem TrChk.lok {t : ApiTrans} (h : TrChk t) : SaysOk t :=
  ⟨h.lets _ List.mem_cons_self, fun _ hq => h.lets _ (la_said h.ok hq), fun _ _ hq ha => h.lets _ (sy_said h.ok hq ha)⟩
/-- all that is said at once has at most B letters -/
structure ShortT (t : ApiTrans) (B : Nat) : Prop where
  first : t.fFirst.length ≤ B
  last : ∀ q, q < t.fNext.length → (laT t q).length ≤ B
  says : ∀ q a, q < t.fNext.length → a < t.fIn.toNat → (syT t q a).length ≤ B
theorem TrChk.shortT {t : ApiTrans} (h : TrChk t) : ShortT t 8 :=
  ⟨h.short _ List.mem_cons_self, fun _ hq => h.short _ (la_said h.ok hq), fun _ _ hq ha => h.short _ (sy_said h.ok hq ha)⟩

def SaidPre (t : ApiTrans) : Prop := t.fLast.length ≤ 1000 ∧ t.fSays.length ≤ 1000 ∧ ∀ r ∈ t.fSays, r.length ≤ 1000
def trSaid_vc (t : ApiTrans) (Q : (List (List Int)) → Prop) : Prop :=
  t.fFirst.length ≤ 9223372036854775807 →
  t.fNext.length ≤ 9223372036854775807 →
  t.fSays.length ≤ 9223372036854775807 →
  t.fLast.length ≤ 9223372036854775807 →
  (capOk ([t.fFirst] : (List (List Int))).length (t.fLast : (List (List Int))).length 24 ∧
  ∃ (Inv : Int → (List (List Int)) → Prop) (mu : Int → (List (List Int)) → Nat), Inv 0 (([t.fFirst] : (List (List Int))) ++ t.fLast) ∧
  ∀ (x15 : Int) (l1 : (List (List Int))) , Inv x15 l1 → (IfP (decide (x15 < (t.fSays.length : Int))) (∃ e, idx t.fSays x15 = some e ∧
  capOk l1.length (e : (List (List Int))).length 24 ∧
  (Inv (wr (x15 + 1)) (l1 ++ e) ∧ mu (wr (x15 + 1)) (l1 ++ e) < mu x15 l1)) (Q l1)))
theorem trSaid_walk (t : ApiTrans) (Q : (List (List Int)) → Prop) (h : trSaid_vc t Q) : CtJ 123 [.sv (.agg [I t.fIn, I t.fOut, I t.fStart, LS intT t.fFirst, LS (lsT intT) t.fNext, LS (lsT (lsT intT)) t.fSays, LS (lsT intT) t.fLast])] [] Q (fun (r : (List (List Int))) => rowI 23 (lsT intT) r) := by
  have ht := tab_ok
  refine CtJ.body Try.func123 rfl rfl rfl rfl (fun c hn hmay => ?_)
  unfold trSaid_vc at h
  refine En.lenA 0 3 (by rfl) (by rfl) (fun hl => ?_)
  replace h := h hl
  clear hl
  refine En.lenA 0 4 (by rfl) (by rfl) (fun hl => ?_)
  replace h := h hl
  clear hl
  refine En.lenA 0 5 (by rfl) (by rfl) (fun hl => ?_)
  replace h := h hl
  clear hl
  refine En.lenA 0 6 (by rfl) (by rfl) (fun hl => ?_)
  replace h := h hl
  clear hl
  refine En.seq ?_
  refine En.region ?_
  refine WL.run ht hn 2 ⟨[(1, .sv (.one (.ptr 0 0)))], [.box [I t.fIn, I t.fOut, I t.fStart, LS intT t.fFirst, LS (lsT intT) t.fNext, LS (lsT (lsT intT)) t.fSays, LS (lsT intT) t.fLast] 33 false]⟩ (by kernel_rfl) ?_
  refine WL.nil ?_
  refine En.seq ?_
  refine En.region ?_
  refine WL.run ht hn 2 ⟨[(1, .sv (.one (.ptr 0 0))), (7, .sv (.one (LS intT t.fFirst)))], [.box [I t.fIn, I t.fOut, I t.fStart, LS intT t.fFirst, LS (lsT intT) t.fNext, LS (lsT (lsT intT)) t.fSays, LS (lsT intT) t.fLast] 33 false]⟩ (by kernel_rfl) ?_
  refine WL.mt0 (K := []) (p := some (1, rowI 23 (lsT intT) ([t.fFirst] : (List (List Int))))) hn (by rfl) (mt_lit (T := (lsT intT)) ([t.fFirst] : (List (List Int))) (mt_bsl 1 (r := cellsOf (lsT intT) ([t.fFirst] : (List (List Int)))) ht rfl (by rfl) (by rfl) (by rfl) (by kernel_rfl) (by rfl)) (fun _ h => by cases h) (fun _ => rfl) (fun _ => rfl) (by rfl) (Nat.le_of_ble_eq_true rfl)) (by rfl) (by rfl) (by rfl) ?_
  refine WL.run ht hn 2 ⟨[(1, .sv (.one (.ptr 0 0))), (8, .sv (.one (.own 1))), (10, .sv (.one (LS (lsT intT) t.fLast)))], [.box [I t.fIn, I t.fOut, I t.fStart, LS intT t.fFirst, LS (lsT intT) t.fNext, LS (lsT (lsT intT)) t.fSays, LS (lsT intT) t.fLast] 33 false, rowI 23 (lsT intT) ([t.fFirst] : (List (List Int)))]⟩ (by kernel_rfl) ?_
  have hp := h.1
  replace h := h.2
  refine WL.mt (S2 := ⟨[(1, .sv (.one (.ptr 0 0))), (10, .sv (.one (LS (lsT intT) t.fLast)))], [.box [I t.fIn, I t.fOut, I t.fStart, LS intT t.fFirst, LS (lsT intT) t.fNext, LS (lsT (lsT intT)) t.fSays, LS (lsT intT) t.fLast] 33 false, rowI 23 (lsT intT) ([t.fFirst] : (List (List Int)))]⟩) (K := [1]) (p := some (1, rowI 23 (lsT intT) (([t.fFirst] : (List (List Int))) ++ t.fLast))) hn (by rfl) (mt_append (T := (lsT intT)) (l := ([t.fFirst] : (List (List Int)))) (es := t.fLast) ht rfl (by rfl) (by rfl) (by rfl) (by rfl) (by decide) (by rfl) (by rfl) (srcLS (T := (lsT intT)) (es := t.fLast) (fun _ h => by cases h) (by decide) (by rfl)) (by exact hp) (by exact hp.le (by decide))) (by kernel_rfl) (by rfl) (by rfl) (by rfl) ?_
  refine WL.run ht hn 1 ⟨[(1, .sv (.one (.ptr 0 0))), (3, .sv (.one (.own 1)))], [.box [I t.fIn, I t.fOut, I t.fStart, LS intT t.fFirst, LS (lsT intT) t.fNext, LS (lsT (lsT intT)) t.fSays, LS (lsT intT) t.fLast] 33 false, rowI 23 (lsT intT) (([t.fFirst] : (List (List Int))) ++ t.fLast)]⟩ (by kernel_rfl) ?_
  refine WL.nil ?_
  refine En.seq ?_
  refine En.seq ?_
  refine En.region ?_
  refine WL.run ht hn 4 ⟨[(3, .sv (.one (.own 1))), (13, .sv (.one (LS (lsT (lsT intT)) t.fSays))), (14, .sv (.one (I (t.fSays.length : Int)))), (15, .sv (.one (I 0)))], [.gone, rowI 23 (lsT intT) (([t.fFirst] : (List (List Int))) ++ t.fLast)]⟩ (by kernel_rfl) ?_
  refine WL.nil ?_
  refine En.block ?_
  obtain ⟨Inv, mu, h0, hI⟩ := h
  refine En.loop (σ := Int × (List (List Int))) (fun zz => Inv zz.1 zz.2) (fun zz => mu zz.1 zz.2) (fun zz => ⟨[(3, .sv (.one (.own 1))), (13, .sv (.one (LS (lsT (lsT intT)) t.fSays))), (14, .sv (.one (I (t.fSays.length : Int)))), (15, .sv (.one (I zz.1)))], [.gone, rowI 23 (lsT intT) zz.2]⟩) (0, (([t.fFirst] : (List (List Int))) ++ t.fLast)) h0 (sub_ok (by kernel_rfl)) ?_
  rintro ⟨x15, l1⟩ h
  replace h := hI _ _ h
  show En c ⟨[(3, .sv (.one (.own 1))), (13, .sv (.one (LS (lsT (lsT intT)) t.fSays))), (14, .sv (.one (I (t.fSays.length : Int)))), (15, .sv (.one (I x15)))], [.gone, rowI 23 (lsT intT) l1]⟩ _
  refine En.seq ?_
  refine En.region ?_
  refine WL.run ht hn 1 ⟨[(3, .sv (.one (.own 1))), (13, .sv (.one (LS (lsT (lsT intT)) t.fSays))), (14, .sv (.one (I (t.fSays.length : Int)))), (15, .sv (.one (I x15))), (16, .sv (.one (B (decide (x15 < (t.fSays.length : Int))))))], [.gone, rowI 23 (lsT intT) l1]⟩ (by kernel_rfl) ?_
  refine WL.nil ?_
  refine En.seq ?_
  refine En.cond (b := (decide (x15 < (t.fSays.length : Int)))) (by kernel_rfl) (fun hb => ?_) (fun hb => ?_)
  · replace h := h.1 hb
    refine En.skip ?_
    refine En.seq ?_
    refine En.block ?_
    refine En.seq ?_
    refine En.region ?_
    obtain ⟨e, he, h⟩ := h
    refine WL.val hn (by rfl) (val_index (T := (lsT (lsT intT))) (l := t.fSays) (i := x15) ht rfl (by rfl) (by rfl) (by rfl) (by rfl) (by rfl) (by rfl) he) (by rfl) ?_
    refine WL.val hn (by rfl) (val_load (s := .one (LS (lsT intT) e)) ht rfl (by rfl) (by rfl) (by rfl) (by rfl) (by rfl)) (by rfl) ?_
    refine WL.run ht hn 1 ⟨[(3, .sv (.one (.own 1))), (5, .sv (.one (LS (lsT intT) e))), (13, .sv (.one (LS (lsT (lsT intT)) t.fSays))), (14, .sv (.one (I (t.fSays.length : Int)))), (15, .sv (.one (I x15)))], [.gone, rowI 23 (lsT intT) l1]⟩ (by kernel_rfl) ?_
    refine WL.nil ?_
    refine En.region ?_
    refine WL.run ht hn 2 ⟨[(13, .sv (.one (LS (lsT (lsT intT)) t.fSays))), (14, .sv (.one (I (t.fSays.length : Int)))), (15, .sv (.one (I x15))), (19, .sv (.one (.own 1))), (20, .sv (.one (LS (lsT intT) e)))], [.gone, rowI 23 (lsT intT) l1]⟩ (by kernel_rfl) ?_
    have hp := h.1
    replace h := h.2
    refine WL.mt (S2 := ⟨[(13, .sv (.one (LS (lsT (lsT intT)) t.fSays))), (14, .sv (.one (I (t.fSays.length : Int)))), (15, .sv (.one (I x15))), (20, .sv (.one (LS (lsT intT) e)))], [.gone, rowI 23 (lsT intT) l1]⟩) (K := [1]) (p := some (1, rowI 23 (lsT intT) (l1 ++ e))) hn (by rfl) (mt_append (T := (lsT intT)) (l := l1) (es := e) ht rfl (by rfl) (by rfl) (by rfl) (by rfl) (by decide) (by rfl) (by rfl) (srcLS (T := (lsT intT)) (es := e) (fun _ h => by cases h) (by decide) (by rfl)) (by exact hp) (by exact hp.le (by decide))) (by kernel_rfl) (by rfl) (by rfl) (by rfl) ?_
    refine WL.run ht hn 1 ⟨[(3, .sv (.one (.own 1))), (13, .sv (.one (LS (lsT (lsT intT)) t.fSays))), (14, .sv (.one (I (t.fSays.length : Int)))), (15, .sv (.one (I x15)))], [.gone, rowI 23 (lsT intT) (l1 ++ e)]⟩ (by kernel_rfl) ?_
    refine WL.nil ?_
    refine En.region ?_
    refine WL.run ht hn 2 ⟨[(3, .sv (.one (.own 1))), (13, .sv (.one (LS (lsT (lsT intT)) t.fSays))), (14, .sv (.one (I (t.fSays.length : Int)))), (15, .sv (.one (I (wr (x15 + 1)))))], [.gone, rowI 23 (lsT intT) (l1 ++ e)]⟩ (by kernel_rfl) ?_
    refine WL.nil ?_
    exact En.at (I := fun zz => Inv zz.1 zz.2 ∧ mu zz.1 zz.2 < mu x15 l1) (T := fun zz => ⟨[(3, .sv (.one (.own 1))), (13, .sv (.one (LS (lsT (lsT intT)) t.fSays))), (14, .sv (.one (I (t.fSays.length : Int)))), (15, .sv (.one (I zz.1)))], [.gone, rowI 23 (lsT intT) zz.2]⟩) ((wr (x15 + 1)), (l1 ++ e)) h (by kernel_rfl)
  · replace h := h.2 hb
    refine En.exit rfl ?_
    refine En.seq ?_
    refine En.region ?_
    refine WL.run ht hn 2 ⟨[(2, .sv (.one (.own 1)))], [.gone, rowI 23 (lsT intT) l1]⟩ (by kernel_rfl) ?_
    refine WL.nil ?_
    refine En.ret ?_
    exact En.backJ (itf := fun l => rowI 23 (lsT intT) l) hmay (by rfl) (by rfl) rfl rfl h
theorem en123 : ∀ args w, (callFunc 123 args).run Try.prog w = .ok (.enter 123 args) w := enters_of Try.func123 (by kernel_rfl) rfl
theorem trSaid_ct (t : ApiTrans) (hp : SaidPre t)  : CtI 123 [.sv (.agg [I t.fIn, I t.fOut, I t.fStart, LS intT t.fFirst, LS (lsT intT) t.fNext, LS (lsT (lsT intT)) t.fSays, LS (lsT intT) t.fLast])] [] (rowI 23 (lsT intT) (saidR t)) := by
  refine (trSaid_walk t (fun res_ => res_ = (saidR t)) ?_).fun
  intro _ _ _ _
  obtain ⟨h1, h2, h3⟩ := hp
  refine ⟨capOk_of (by simp only [List.length_cons, List.length_nil]; omega), fun i l => ∃ k : Nat, i = k ∧ k ≤ t.fSays.length ∧ l = t.fFirst :: (t.fLast ++ (t.fSays.take k).flatten) ∧ l.length ≤ 1001 + k * 1000, fun i _ => t.fSays.length - i.toNat, ⟨0, rfl, Nat.zero_le _, by simp, by simp; omega⟩, ?_⟩
  rintro i l ⟨k, rfl, hk, hl, hb⟩
  refine ⟨fun hb1 => ?_, fun hb1 => ?_⟩
  · have hlt := dlt hb1
    have h4 := h3 _ (List.getElem_mem hlt)
    refine ⟨_, idx_at hlt, capOk_of (by omega), ⟨k + 1, wsucc (by omega), hlt, ?_, by rw [List.length_append]; omega⟩, mu_up hlt (by omega)⟩
    rw [hl, List.take_add_one, List.flatten_append, List.getElem?_eq_getElem hlt]
    simp
  · rw [List.take_of_length_le (dge hb1)] at hl
    exact hl
def trL1_vc (w : (List Int)) (Q : Bool → Prop) : Prop :=
  w.length ≤ 9223372036854775807 →
  (Q (decide ((w.length : Int) > 8)))
theorem trL1_walk (w : (List Int)) (Q : Bool → Prop) (h : trL1_vc w Q) : Ct 186 [.sv (.one (LS intT w))] [] Q (fun (r : Bool) => .sv (.one (B r))) := by
  have ht := tab_ok
  refine Ct.body Try.func186 rfl rfl rfl rfl (fun c hn => ?_)
  unfold trL1_vc at h
  refine En.lenL 0 (by rfl) (fun hl => ?_)
  replace h := h hl
  clear hl
  refine En.seq ?_
  refine En.region ?_
  refine WL.run ht hn 1 ⟨[(0, .sv (.one (LS intT w)))], []⟩ (by kernel_rfl) ?_
  refine WL.nil ?_
  refine En.seq ?_
  refine En.region ?_
  refine WL.run ht hn 4 ⟨[(2, .sv (.one (B (decide ((w.length : Int) > 8)))))], []⟩ (by kernel_rfl) ?_
  refine WL.nil ?_
  refine En.ret ?_
  exact En.back ht (decide ((w.length : Int) > 8)) h (by kernel_rfl) rfl
theorem en186 : ∀ args w, (callFunc 186 args).run Try.prog w = .ok (.enter 186 args) w := enters_of Try.func186 (by kernel_rfl) rfl
theorem trL1_ct (w : (List Int))  : Ct 186 [.sv (.one (LS intT w))] [] (fun (_ : Unit) => True) (fun _ => .sv (.one (B (decide ((w.length : Int) > 8))))) := by
  refine (trL1_walk w (fun res_ => res_ = (decide ((w.length : Int) > 8))) ?_).fun
  exact fun _ => rfl
def trLong_vc (t : ApiTrans) (Q : Bool → Prop) : Prop :=
  t.fFirst.length ≤ 9223372036854775807 →
  t.fNext.length ≤ 9223372036854775807 →
  t.fSays.length ≤ 9223372036854775807 →
  t.fLast.length ≤ 9223372036854775807 →
  ((SaidPre t) ∧
  (∀ x_ ∈ (saidR t), (fun _ => True) x_) ∧
  Q ((saidR t).any (fun w => decide ((w.length : Int) > 8))))
theorem trLong_walk (t : ApiTrans) (Q : Bool → Prop) (h : trLong_vc t Q) : Ct 122 [.sv (.agg [I t.fIn, I t.fOut, I t.fStart, LS intT t.fFirst, LS (lsT intT) t.fNext, LS (lsT (lsT intT)) t.fSays, LS (lsT intT) t.fLast])] [] Q (fun (r : Bool) => .sv (.one (B r))) := by
  have ht := tab_ok
  refine Ct.body Try.func122 rfl rfl rfl rfl (fun c hn => ?_)
  unfold trLong_vc at h
  refine En.lenA 0 3 (by rfl) (by rfl) (fun hl => ?_)
  replace h := h hl
  clear hl
  refine En.lenA 0 4 (by rfl) (by rfl) (fun hl => ?_)
  replace h := h hl
  clear hl
  refine En.lenA 0 5 (by rfl) (by rfl) (fun hl => ?_)
  replace h := h hl
  clear hl
  refine En.lenA 0 6 (by rfl) (by rfl) (fun hl => ?_)
  replace h := h hl
  clear hl
  refine En.seq ?_
  refine En.region ?_
  refine WL.run ht hn 2 ⟨[(1, .sv (.one (.ptr 0 0)))], [.box [I t.fIn, I t.fOut, I t.fStart, LS intT t.fFirst, LS (lsT intT) t.fNext, LS (lsT (lsT intT)) t.fSays, LS (lsT intT) t.fLast] 33 false]⟩ (by kernel_rfl) ?_
  refine WL.nil ?_
  refine En.seq ?_
  refine En.region ?_
  refine WL.run ht hn 1 ⟨[(3, .sv (.agg [I t.fIn, I t.fOut, I t.fStart, LS intT t.fFirst, LS (lsT intT) t.fNext, LS (lsT (lsT intT)) t.fSays, LS (lsT intT) t.fLast]))], [.gone]⟩ (by kernel_rfl) ?_
  have hp := h.1
  replace h := h.2
  refine WL.mt0 (K := []) (p := some (1, rowI 23 (lsT intT) (saidR t))) hn (by rfl) (mt_callI 1 (trSaid_ct t hp) en123 (caps := []) [] rfl rfl (by rfl) (by kernel_rfl) (by kernel_rfl) (by rfl) (by rfl)) (by rfl) (by rfl) (by rfl) ?_
  have hp := h.1
  replace h := h.2
  refine WL.mt0 (K := []) (p := none) hn (by rfl) (mt_lend (T := (lsT intT)) (l := (saidR t)) 1 (by rfl) (by rfl) (mt_call (Ct.args (anyLInt_ct (saidR t) (fun _ => True) (fun w => decide ((w.length : Int) > 8)) hp) (argLe_same (argLe_to (fv_const (ins := (fun (x_ : (List Int)) => [.sv (.one (LS intT x_))])) (out := (fun (r : Bool) => .sv (.one (B r)))) (dom := (fun _ => True)) (φ := (fun w => decide ((w.length : Int) > 8))) (fun x_ _ => trL1_ct x_) en186) argLe_nil))) en63 (caps := []) [] rfl (by rfl) (by kernel_rfl) (by kernel_rfl) (by rfl) (by rfl) (by rfl))) (by rfl) (by rfl) (by rfl) ?_
  refine WL.run ht hn 1 ⟨[(2, .sv (.one (B ((saidR t).any (fun w => decide ((w.length : Int) > 8))))))], [.gone, .gone]⟩ (by kernel_rfl) ?_
  refine WL.nil ?_
  refine En.ret ?_
  exact En.back ht ((saidR t).any (fun w => decide ((w.length : Int) > 8))) h (by kernel_rfl) rfl
theorem en122 : ∀ args w, (callFunc 122 args).run Try.prog w = .ok (.enter 122 args) w := enters_of Try.func122 (by kernel_rfl) rfl
theorem trLong_ct (t : ApiTrans) (hp : SaidPre t)  : Ct 122 [.sv (.agg [I t.fIn, I t.fOut, I t.fStart, LS intT t.fFirst, LS (lsT intT) t.fNext, LS (lsT (lsT intT)) t.fSays, LS (lsT intT) t.fLast])] [] (fun (_ : Unit) => True) (fun _ => .sv (.one (B (longR t)))) := by
  refine (trLong_walk t (fun res_ => res_ = (longR t)) ?_).fun
  exact fun _ _ _ _ => ⟨hp, fun _ _ => trivial, rfl⟩
def trC1_vc (q : Int) (n : Int) (Q : Bool → Prop) : Prop :=
  Q ((decide (q < 0)) || (decide (q ≥ n)))
theorem trC1_walk (q : Int) (n : Int) (Q : Bool → Prop) (h : trC1_vc q n Q) : Ct 120 [.sv (.one (I q)), .sv (.one (.ptr 0 0))] [.box [I n] 3 true] Q (fun (r : Bool) => .sv (.one (B r))) := by
  have ht := tab_ok
  refine Ct.body Try.func120 rfl rfl rfl rfl (fun c hn => ?_)
  unfold trC1_vc at h
  refine En.seq ?_
  refine En.region ?_
  refine WL.run ht hn 1 ⟨[(0, .sv (.one (I q))), (1, .sv (.one (.ptr 0 0)))], [.box [I n] 3 true]⟩ (by kernel_rfl) ?_
  refine WL.nil ?_
  refine En.seq ?_
  refine En.region ?_
  refine WL.run ht hn 3 ⟨[(0, .sv (.one (I q))), (1, .sv (.one (.ptr 0 0))), (6, .sv (.one (B (decide (q < 0)))))], [.box [I n] 3 true]⟩ (by kernel_rfl) ?_
  refine WL.thru ⟨[(3, .sv (.one (B ((decide (q < 0)) || (decide (q ≥ n))))))], [.gone]⟩ ?_ ?_
  · refine splitB (decide (q < 0)) (fun hb0 => ?_) (fun hb0 => ?_)
    · refine WL.setB 6 hb0 (by kernel_rfl) ?_
      refine WL.run ht hn 5 ⟨[(3, .sv (.one (B true)))], [.gone]⟩ (by kernel_rfl) ?_
      exact WL.nil (sub_ok (by simp only [hb0]; kernel_rfl))
    · refine WL.setB 6 hb0 (by kernel_rfl) ?_
      refine WL.run ht hn 5 ⟨[(3, .sv (.one (B (decide (q ≥ n)))))], [.gone]⟩ (by kernel_rfl) ?_
      exact WL.nil (sub_ok (by simp only [hb0]; kernel_rfl))
  · refine En.ret ?_
    exact En.back ht ((decide (q < 0)) || (decide (q ≥ n))) h (by kernel_rfl) rfl
theorem en120 : ∀ args w, (callFunc 120 args).run Try.prog w = .ok (.enter 120 args) w := enters_of Try.func120 (by kernel_rfl) rfl
def trC2_vc (r : (List Int)) (domno : (Int → Prop)) (no : (Int → Bool)) (Q : Bool → Prop) : Prop :=
  r.length ≤ 9223372036854775807 →
  ((∀ x_ ∈ r, domno x_) ∧
  Q (r.any no))
theorem trC2_walk (r : (List Int)) (domno : (Int → Prop)) (no : (Int → Bool)) (Q : Bool → Prop) (h : trC2_vc r domno no Q) : Ct 121 [.sv (.one (LS intT r)), .sv (.one (.ptr 0 0))] [.box [.rd (fvR (fun (x : Int) => [.sv (.one (I x))]) (fun (r : Bool) => .sv (.one (B r))) domno no)] 134 true] Q (fun (r : Bool) => .sv (.one (B r))) := by
  have ht := tab_ok
  refine Ct.body Try.func121 rfl rfl rfl rfl (fun c hn => ?_)
  unfold trC2_vc at h
  refine En.lenL 0 (by rfl) (fun hl => ?_)
  replace h := h hl
  clear hl
  refine En.seq ?_
  refine En.region ?_
  refine WL.run ht hn 1 ⟨[(0, .sv (.one (LS intT r))), (1, .sv (.one (.ptr 0 0)))], [.box [.rd (fvR (fun (x : Int) => [.sv (.one (I x))]) (fun (r : Bool) => .sv (.one (B r))) domno no)] 134 true]⟩ (by kernel_rfl) ?_
  refine WL.nil ?_
  refine En.seq ?_
  refine En.region ?_
  refine WL.run ht hn 2 ⟨[(4, .sv (.one (LS intT r))), (5, .sv (.one (.rd (fvR (fun (x : Int) => [.sv (.one (I x))]) (fun (r : Bool) => .sv (.one (B r))) domno no))))], [.gone]⟩ (by kernel_rfl) ?_
  have hp := h.1
  replace h := h.2
  refine WL.mt0 (K := []) (p := none) hn (by rfl) (mt_call (anyInt_ct r domno no hp) en77 (caps := []) [] rfl (by rfl) (by kernel_rfl) (by kernel_rfl) (by rfl) (by rfl) (by rfl)) (by rfl) (by rfl) (by rfl) ?_
  refine WL.run ht hn 1 ⟨[(3, .sv (.one (B (r.any no))))], [.gone]⟩ (by kernel_rfl) ?_
  refine WL.nil ?_
  refine En.ret ?_
  exact En.back ht (r.any no) h (by kernel_rfl) rfl
theorem en121 : ∀ args w, (callFunc 121 args).run Try.prog w = .ok (.enter 121 args) w := enters_of Try.func121 (by kernel_rfl) rfl
def trC3_vc (a : Int) (t : ApiTrans) (Q : Bool → Prop) : Prop :=
  Q ((decide (a < 0)) || (decide (a ≥ t.fOut)))
theorem trC3_walk (a : Int) (t : ApiTrans) (Q : Bool → Prop) (h : trC3_vc a t Q) : Ct 124 [.sv (.one (I a)), .sv (.one (.ptr 0 0))] [.box [I t.fIn, I t.fOut, I t.fStart, LS intT t.fFirst, LS (lsT intT) t.fNext, LS (lsT (lsT intT)) t.fSays, LS (lsT intT) t.fLast] 33 true] Q (fun (r : Bool) => .sv (.one (B r))) := by
  have ht := tab_ok
  refine Ct.body Try.func124 rfl rfl rfl rfl (fun c hn => ?_)
  unfold trC3_vc at h
  refine En.seq ?_
  refine En.region ?_
  refine WL.run ht hn 1 ⟨[(0, .sv (.one (I a))), (1, .sv (.one (.ptr 0 0)))], [.box [I t.fIn, I t.fOut, I t.fStart, LS intT t.fFirst, LS (lsT intT) t.fNext, LS (lsT (lsT intT)) t.fSays, LS (lsT intT) t.fLast] 33 true]⟩ (by kernel_rfl) ?_
  refine WL.nil ?_
  refine En.seq ?_
  refine En.region ?_
  refine WL.run ht hn 3 ⟨[(0, .sv (.one (I a))), (1, .sv (.one (.ptr 0 0))), (6, .sv (.one (B (decide (a < 0)))))], [.box [I t.fIn, I t.fOut, I t.fStart, LS intT t.fFirst, LS (lsT intT) t.fNext, LS (lsT (lsT intT)) t.fSays, LS (lsT intT) t.fLast] 33 true]⟩ (by kernel_rfl) ?_
  refine WL.thru ⟨[(3, .sv (.one (B ((decide (a < 0)) || (decide (a ≥ t.fOut))))))], [.gone]⟩ ?_ ?_
  · refine splitB (decide (a < 0)) (fun hb0 => ?_) (fun hb0 => ?_)
    · refine WL.setB 6 hb0 (by kernel_rfl) ?_
      refine WL.run ht hn 6 ⟨[(3, .sv (.one (B true)))], [.gone]⟩ (by kernel_rfl) ?_
      exact WL.nil (sub_ok (by simp only [hb0]; kernel_rfl))
    · refine WL.setB 6 hb0 (by kernel_rfl) ?_
      refine WL.run ht hn 6 ⟨[(3, .sv (.one (B (decide (a ≥ t.fOut)))))], [.gone]⟩ (by kernel_rfl) ?_
      exact WL.nil (sub_ok (by simp only [hb0]; kernel_rfl))
  · refine En.ret ?_
    exact En.back ht ((decide (a < 0)) || (decide (a ≥ t.fOut))) h (by kernel_rfl) rfl
theorem en124 : ∀ args w, (callFunc 124 args).run Try.prog w = .ok (.enter 124 args) w := enters_of Try.func124 (by kernel_rfl) rfl
theorem trC1_ct (q : Int) (n : Int)  : Ct 120 [.sv (.one (I q)), .sv (.one (.ptr 0 0))] [.box [I n] 3 true] (fun (_ : Unit) => True) (fun _ => .sv (.one (B (trNo n q)))) := by
  refine (trC1_walk q n (fun res_ => res_ = (trNo n q)) ?_).fun
  rfl
theorem trC2_ct (r : (List Int)) (domno : (Int → Prop)) (no : (Int → Bool)) (hd : ∀ x ∈ r, domno x) : Ct 121 [.sv (.one (LS intT r)), .sv (.one (.ptr 0 0))] [.box [.rd (fvR (fun (x : Int) => [.sv (.one (I x))]) (fun (r : Bool) => .sv (.one (B r))) domno no)] 134 true] (fun (_ : Unit) => True) (fun _ => .sv (.one (B (r.any no)))) := by
  refine (trC2_walk r domno no (fun res_ => res_ = (r.any no)) ?_).fun
  exact fun _ => ⟨hd, rfl⟩
theorem trC3_ct (a : Int) (t : ApiTrans)  : Ct 124 [.sv (.one (I a)), .sv (.one (.ptr 0 0))] [.box [I t.fIn, I t.fOut, I t.fStart, LS intT t.fFirst, LS (lsT intT) t.fNext, LS (lsT (lsT intT)) t.fSays, LS (lsT intT) t.fLast] 33 true] (fun (_ : Unit) => True) (fun _ => .sv (.one (B (trNo t.fOut a)))) := by
  refine (trC3_walk a t (fun res_ => res_ = (trNo t.fOut a)) ?_).fun
  rfl
def trCheck_vc (t : ApiTrans) (Q : Int → Prop) : Prop :=
  t.fFirst.length ≤ 9223372036854775807 →
  t.fNext.length ≤ 9223372036854775807 →
  t.fSays.length ≤ 9223372036854775807 →
  t.fLast.length ≤ 9223372036854775807 →
  (∃ (Inv : Int → Prop) (mu : Int → Nat), Inv 0 ∧
  ∀ (x16 : Int) , Inv x16 → (IfP (decide (x16 < (([t.fIn, t.fOut] : (List Int)).length : Int))) (∃ e, idx ([t.fIn, t.fOut] : (List Int)) x16 = some e ∧
  IfP ((decide (e < 1)) || (decide (e > 4))) (Q 2) ((Inv (wr (x16 + 1)) ∧ mu (wr (x16 + 1)) < mu x16))) (IfP ((decide ((t.fNext.length : Int) < 1)) || (decide ((t.fNext.length : Int) > 6))) (Q 1) (IfP (((t.fSays.length : Int) != (t.fNext.length : Int)) || ((t.fLast.length : Int) != (t.fNext.length : Int))) (Q 3) (∃ (Inv_2 : Int → Prop) (mu_2 : Int → Nat), Inv_2 0 ∧
  ∀ (x49 : Int) , Inv_2 x49 → (IfP (decide (x49 < (t.fNext.length : Int))) (∃ J : Bool → Prop, (∃ e_2, idx t.fNext x49 = some e_2 ∧
  IfP ((e_2.length : Int) != t.fIn) (J true) (∃ e_3, idx t.fSays x49 = some e_3 ∧
  J ((e_3.length : Int) != t.fIn))) ∧
  (∀ (x71 : Bool), J x71 → IfP x71 (Q 3) ((Inv_2 (wr (x49 + 1)) ∧ mu_2 (wr (x49 + 1)) < mu_2 x49)))) (∃ J_2 : Bool → Prop, (((fun _ => True) t.fStart) ∧
  IfP ((trNo (t.fNext.length : Int)) t.fStart) (J_2 true) ((∀ x_ ∈ t.fNext, (fun l => ∀ x ∈ l, (fun _ => True) x) x_) ∧
  J_2 (t.fNext.any (fun l => l.any (trNo (t.fNext.length : Int)))))) ∧
  (∀ (x83 : Bool), J_2 x83 → IfP x83 (Q 2) ((SaidPre t) ∧
  IfP (longR t) (Q 1) ((SaidPre t) ∧
  ∃ (Inv_3 : Int → Prop) (mu_3 : Int → Nat), Inv_3 0 ∧
  ∀ (x89 : Int) , Inv_3 x89 → (IfP (decide (x89 < ((saidR t).length : Int))) (∃ e_4, idx (saidR t) x89 = some e_4 ∧
  (∀ x_ ∈ e_4, (fun _ => True) x_) ∧
  IfP (e_4.any (trNo (t).fOut)) (Q 2) ((Inv_3 (wr (x89 + 1)) ∧ mu_3 (wr (x89 + 1)) < mu_3 x89))) (Q 0))))))))))))
set_option maxHeartbeats 2000000 in
theorem trCheck_walk (t : ApiTrans) (Q : Int → Prop) (h : trCheck_vc t Q) : Ct 55 [.sv (.agg [I t.fIn, I t.fOut, I t.fStart, LS intT t.fFirst, LS (lsT intT) t.fNext, LS (lsT (lsT intT)) t.fSays, LS (lsT intT) t.fLast])] [] Q (fun (r : Int) => .sv (.one (I r))) := by
  have ht := tab_ok
  refine Ct.body Try.func55 rfl rfl rfl rfl (fun c hn => ?_)
  unfold trCheck_vc at h
  refine En.lenA 0 3 (by rfl) (by rfl) (fun hl => ?_)
  replace h := h hl
  clear hl
  refine En.lenA 0 4 (by rfl) (by rfl) (fun hl => ?_)
  replace h := h hl
  clear hl
  refine En.lenA 0 5 (by rfl) (by rfl) (fun hl => ?_)
  replace h := h hl
  clear hl
  refine En.lenA 0 6 (by rfl) (by rfl) (fun hl => ?_)
  replace h := h hl
  clear hl
  refine En.seq ?_
  refine En.region ?_
  refine WL.run ht hn 2 ⟨[(1, .sv (.one (.ptr 0 0)))], [.box [I t.fIn, I t.fOut, I t.fStart, LS intT t.fFirst, LS (lsT intT) t.fNext, LS (lsT (lsT intT)) t.fSays, LS (lsT intT) t.fLast] 33 false]⟩ (by kernel_rfl) ?_
  refine WL.nil ?_
  refine En.seq ?_
  refine En.seq ?_
  refine En.region ?_
  refine WL.run ht hn 4 ⟨[(1, .sv (.one (.ptr 0 0))), (11, .sv (.one (I t.fIn))), (13, .sv (.one (I t.fOut)))], [.box [I t.fIn, I t.fOut, I t.fStart, LS intT t.fFirst, LS (lsT intT) t.fNext, LS (lsT (lsT intT)) t.fSays, LS (lsT intT) t.fLast] 33 false]⟩ (by kernel_rfl) ?_
  refine WL.mt0 (K := []) (p := some (1, rowI 3 intT ([t.fIn, t.fOut] : (List Int)))) hn (by rfl) (mt_lit (T := intT) ([t.fIn, t.fOut] : (List Int)) (mt_bsl 1 (r := cellsOf intT ([t.fIn, t.fOut] : (List Int))) ht rfl (by rfl) (by rfl) (by rfl) (by kernel_rfl) (by rfl)) (fun _ h => by cases h) (fun _ => rfl) (fun _ => rfl) (by rfl) (Nat.le_of_ble_eq_true rfl)) (by rfl) (by rfl) (by rfl) ?_
  refine WL.run ht hn 2 ⟨[(1, .sv (.one (.ptr 0 0))), (14, .sv (.one (.own 1))), (15, .sv (.one (I (([t.fIn, t.fOut] : (List Int)).length : Int)))), (16, .sv (.one (I 0)))], [.box [I t.fIn, I t.fOut, I t.fStart, LS intT t.fFirst, LS (lsT intT) t.fNext, LS (lsT (lsT intT)) t.fSays, LS (lsT intT) t.fLast] 33 false, rowI 3 intT ([t.fIn, t.fOut] : (List Int))]⟩ (by kernel_rfl) ?_
  refine WL.nil ?_
  refine En.block ?_
  obtain ⟨Inv, mu, h0_3, hI_3⟩ := h
  refine En.loop (σ := Int) (fun zz => Inv zz) (fun zz => mu zz) (fun zz => ⟨[(1, .sv (.one (.ptr 0 0))), (14, .sv (.one (.own 1))), (15, .sv (.one (I (([t.fIn, t.fOut] : (List Int)).length : Int)))), (16, .sv (.one (I zz)))], [.box [I t.fIn, I t.fOut, I t.fStart, LS intT t.fFirst, LS (lsT intT) t.fNext, LS (lsT (lsT intT)) t.fSays, LS (lsT intT) t.fLast] 33 false, rowI 3 intT ([t.fIn, t.fOut] : (List Int))]⟩) 0 h0_3 (sub_ok (by kernel_rfl)) ?_
  intro x16 h
  replace h := hI_3 _ h
  show En c ⟨[(1, .sv (.one (.ptr 0 0))), (14, .sv (.one (.own 1))), (15, .sv (.one (I (([t.fIn, t.fOut] : (List Int)).length : Int)))), (16, .sv (.one (I x16)))], [.box [I t.fIn, I t.fOut, I t.fStart, LS intT t.fFirst, LS (lsT intT) t.fNext, LS (lsT (lsT intT)) t.fSays, LS (lsT intT) t.fLast] 33 false, rowI 3 intT ([t.fIn, t.fOut] : (List Int))]⟩ _
  refine En.seq ?_
  refine En.region ?_
  refine WL.run ht hn 1 ⟨[(1, .sv (.one (.ptr 0 0))), (14, .sv (.one (.own 1))), (15, .sv (.one (I (([t.fIn, t.fOut] : (List Int)).length : Int)))), (16, .sv (.one (I x16))), (17, .sv (.one (B (decide (x16 < (([t.fIn, t.fOut] : (List Int)).length : Int))))))], [.box [I t.fIn, I t.fOut, I t.fStart, LS intT t.fFirst, LS (lsT intT) t.fNext, LS (lsT (lsT intT)) t.fSays, LS (lsT intT) t.fLast] 33 false, rowI 3 intT ([t.fIn, t.fOut] : (List Int))]⟩ (by kernel_rfl) ?_
  refine WL.nil ?_
  refine En.seq ?_
  refine En.cond (b := (decide (x16 < (([t.fIn, t.fOut] : (List Int)).length : Int)))) (by kernel_rfl) (fun hb => ?_) (fun hb => ?_)
  · replace h := h.1 hb
    refine En.skip ?_
    refine En.seq ?_
    refine En.block ?_
    refine En.seq ?_
    refine En.region ?_
    obtain ⟨e, he, h⟩ := h
    refine WL.val hn (by rfl) (val_indexO (T := intT) (l := ([t.fIn, t.fOut] : (List Int))) (k := x16) ht rfl (by rfl) (by rfl) (by rfl) (by rfl) (by decide) (by rfl) (by rfl) (by rfl) he) (by rfl) ?_
    refine WL.val hn (by rfl) (val_loadO (T := intT) (l := ([t.fIn, t.fOut] : (List Int))) (y := e) ht rfl (by rfl) (by rfl) (by rfl) (by rfl) (by rfl) (idx_some he).2.2 (by rfl)) (by rfl) ?_
    refine WL.run ht hn 1 ⟨[(1, .sv (.one (.ptr 0 0))), (4, .sv (.one (I e))), (14, .sv (.one (.own 1))), (15, .sv (.one (I (([t.fIn, t.fOut] : (List Int)).length : Int)))), (16, .sv (.one (I x16)))], [.box [I t.fIn, I t.fOut, I t.fStart, LS intT t.fFirst, LS (lsT intT) t.fNext, LS (lsT (lsT intT)) t.fSays, LS (lsT intT) t.fLast] 33 false, rowI 3 intT ([t.fIn, t.fOut] : (List Int))]⟩ (by kernel_rfl) ?_
    refine WL.nil ?_
    refine En.seq ?_
    refine En.region ?_
    refine WL.run ht hn 3 ⟨[(1, .sv (.one (.ptr 0 0))), (4, .sv (.one (I e))), (14, .sv (.one (.own 1))), (15, .sv (.one (I (([t.fIn, t.fOut] : (List Int)).length : Int)))), (16, .sv (.one (I x16))), (22, .sv (.one (B (decide (e < 1)))))], [.box [I t.fIn, I t.fOut, I t.fStart, LS intT t.fFirst, LS (lsT intT) t.fNext, LS (lsT (lsT intT)) t.fSays, LS (lsT intT) t.fLast] 33 false, rowI 3 intT ([t.fIn, t.fOut] : (List Int))]⟩ (by kernel_rfl) ?_
    refine WL.thru ⟨[(1, .sv (.one (.ptr 0 0))), (14, .sv (.one (.own 1))), (15, .sv (.one (I (([t.fIn, t.fOut] : (List Int)).length : Int)))), (16, .sv (.one (I x16))), (25, .sv (.one (B ((decide (e < 1)) || (decide (e > 4))))))], [.box [I t.fIn, I t.fOut, I t.fStart, LS intT t.fFirst, LS (lsT intT) t.fNext, LS (lsT (lsT intT)) t.fSays, LS (lsT intT) t.fLast] 33 false, rowI 3 intT ([t.fIn, t.fOut] : (List Int))]⟩ ?_ ?_
    · refine splitB (decide (e < 1)) (fun hb0 => ?_) (fun hb0 => ?_)
      · refine WL.setB 22 hb0 (by kernel_rfl) ?_
        refine WL.run ht hn 3 ⟨[(1, .sv (.one (.ptr 0 0))), (14, .sv (.one (.own 1))), (15, .sv (.one (I (([t.fIn, t.fOut] : (List Int)).length : Int)))), (16, .sv (.one (I x16))), (25, .sv (.one (B true)))], [.box [I t.fIn, I t.fOut, I t.fStart, LS intT t.fFirst, LS (lsT intT) t.fNext, LS (lsT (lsT intT)) t.fSays, LS (lsT intT) t.fLast] 33 false, rowI 3 intT ([t.fIn, t.fOut] : (List Int))]⟩ (by kernel_rfl) ?_
        exact WL.nil (sub_ok (by simp only [hb0]; kernel_rfl))
      · refine WL.setB 22 hb0 (by kernel_rfl) ?_
        refine WL.run ht hn 3 ⟨[(1, .sv (.one (.ptr 0 0))), (14, .sv (.one (.own 1))), (15, .sv (.one (I (([t.fIn, t.fOut] : (List Int)).length : Int)))), (16, .sv (.one (I x16))), (25, .sv (.one (B (decide (e > 4)))))], [.box [I t.fIn, I t.fOut, I t.fStart, LS intT t.fFirst, LS (lsT intT) t.fNext, LS (lsT (lsT intT)) t.fSays, LS (lsT intT) t.fLast] 33 false, rowI 3 intT ([t.fIn, t.fOut] : (List Int))]⟩ (by kernel_rfl) ?_
        exact WL.nil (sub_ok (by simp only [hb0]; kernel_rfl))
    · refine En.cond (b := ((decide (e < 1)) || (decide (e > 4)))) (by kernel_rfl) (fun hb => ?_) (fun hb => ?_)
      · replace h := h.1 hb
        refine En.seq ?_
        refine En.region ?_
        refine WL.run ht hn 1 ⟨[(2, .sv (.one (I 2)))], [.gone, .gone]⟩ (by kernel_rfl) ?_
        refine WL.nil ?_
        refine En.ret ?_
        exact En.back ht 2 h (by kernel_rfl) rfl
      · replace h := h.2 hb
        refine En.skip ?_
        refine En.region ?_
        refine WL.run ht hn 2 ⟨[(1, .sv (.one (.ptr 0 0))), (14, .sv (.one (.own 1))), (15, .sv (.one (I (([t.fIn, t.fOut] : (List Int)).length : Int)))), (16, .sv (.one (I (wr (x16 + 1)))))], [.box [I t.fIn, I t.fOut, I t.fStart, LS intT t.fFirst, LS (lsT intT) t.fNext, LS (lsT (lsT intT)) t.fSays, LS (lsT intT) t.fLast] 33 false, rowI 3 intT ([t.fIn, t.fOut] : (List Int))]⟩ (by kernel_rfl) ?_
        refine WL.nil ?_
        exact En.at (I := fun zz => Inv zz ∧ mu zz < mu x16) (T := fun zz => ⟨[(1, .sv (.one (.ptr 0 0))), (14, .sv (.one (.own 1))), (15, .sv (.one (I (([t.fIn, t.fOut] : (List Int)).length : Int)))), (16, .sv (.one (I zz)))], [.box [I t.fIn, I t.fOut, I t.fStart, LS intT t.fFirst, LS (lsT intT) t.fNext, LS (lsT (lsT intT)) t.fSays, LS (lsT intT) t.fLast] 33 false, rowI 3 intT ([t.fIn, t.fOut] : (List Int))]⟩) (wr (x16 + 1)) h (by kernel_rfl)
  · replace h := h.2 hb
    refine En.exit rfl ?_
    refine En.seq ?_
    refine En.region ?_
    refine WL.run ht hn 5 ⟨[(1, .sv (.one (.ptr 0 0))), (5, .sv (.one (.ptr 2 0)))], [.box [I t.fIn, I t.fOut, I t.fStart, LS intT t.fFirst, LS (lsT intT) t.fNext, LS (lsT (lsT intT)) t.fSays, LS (lsT intT) t.fLast] 33 false, .gone, .box [I (t.fNext.length : Int)] 3 false]⟩ (by kernel_rfl) ?_
    refine WL.nil ?_
    refine En.seq ?_
    refine En.seq ?_
    refine En.region ?_
    refine WL.run ht hn 3 ⟨[(1, .sv (.one (.ptr 0 0))), (5, .sv (.one (.ptr 2 0))), (32, .sv (.one (B (decide ((t.fNext.length : Int) < 1)))))], [.box [I t.fIn, I t.fOut, I t.fStart, LS intT t.fFirst, LS (lsT intT) t.fNext, LS (lsT (lsT intT)) t.fSays, LS (lsT intT) t.fLast] 33 false, .gone, .box [I (t.fNext.length : Int)] 3 false]⟩ (by kernel_rfl) ?_
    refine WL.thru ⟨[(1, .sv (.one (.ptr 0 0))), (5, .sv (.one (.ptr 2 0))), (35, .sv (.one (B ((decide ((t.fNext.length : Int) < 1)) || (decide ((t.fNext.length : Int) > 6))))))], [.box [I t.fIn, I t.fOut, I t.fStart, LS intT t.fFirst, LS (lsT intT) t.fNext, LS (lsT (lsT intT)) t.fSays, LS (lsT intT) t.fLast] 33 false, .gone, .box [I (t.fNext.length : Int)] 3 false]⟩ ?_ ?_
    · refine splitB (decide ((t.fNext.length : Int) < 1)) (fun hb0 => ?_) (fun hb0 => ?_)
      · refine WL.setB 32 hb0 (by kernel_rfl) ?_
        refine WL.run ht hn 3 ⟨[(1, .sv (.one (.ptr 0 0))), (5, .sv (.one (.ptr 2 0))), (35, .sv (.one (B true)))], [.box [I t.fIn, I t.fOut, I t.fStart, LS intT t.fFirst, LS (lsT intT) t.fNext, LS (lsT (lsT intT)) t.fSays, LS (lsT intT) t.fLast] 33 false, .gone, .box [I (t.fNext.length : Int)] 3 false]⟩ (by kernel_rfl) ?_
        exact WL.nil (sub_ok (by simp only [hb0]; kernel_rfl))
      · refine WL.setB 32 hb0 (by kernel_rfl) ?_
        refine WL.run ht hn 3 ⟨[(1, .sv (.one (.ptr 0 0))), (5, .sv (.one (.ptr 2 0))), (35, .sv (.one (B (decide ((t.fNext.length : Int) > 6)))))], [.box [I t.fIn, I t.fOut, I t.fStart, LS intT t.fFirst, LS (lsT intT) t.fNext, LS (lsT (lsT intT)) t.fSays, LS (lsT intT) t.fLast] 33 false, .gone, .box [I (t.fNext.length : Int)] 3 false]⟩ (by kernel_rfl) ?_
        exact WL.nil (sub_ok (by simp only [hb0]; kernel_rfl))
    · refine En.cond (b := ((decide ((t.fNext.length : Int) < 1)) || (decide ((t.fNext.length : Int) > 6)))) (by kernel_rfl) (fun hb => ?_) (fun hb => ?_)
      · replace h := h.1 hb
        refine En.seq ?_
        refine En.region ?_
        refine WL.run ht hn 1 ⟨[(2, .sv (.one (I 1)))], [.gone, .gone, .gone]⟩ (by kernel_rfl) ?_
        refine WL.nil ?_
        refine En.ret ?_
        exact En.back ht 1 h (by kernel_rfl) rfl
      · replace h := h.2 hb
        refine En.skip ?_
        refine En.seq ?_
        refine En.seq ?_
        refine En.region ?_
        refine WL.run ht hn 6 ⟨[(1, .sv (.one (.ptr 0 0))), (5, .sv (.one (.ptr 2 0))), (41, .sv (.one (B ((t.fSays.length : Int) != (t.fNext.length : Int)))))], [.box [I t.fIn, I t.fOut, I t.fStart, LS intT t.fFirst, LS (lsT intT) t.fNext, LS (lsT (lsT intT)) t.fSays, LS (lsT intT) t.fLast] 33 false, .gone, .box [I (t.fNext.length : Int)] 3 false]⟩ (by kernel_rfl) ?_
        refine WL.thru ⟨[(1, .sv (.one (.ptr 0 0))), (5, .sv (.one (.ptr 2 0))), (47, .sv (.one (B (((t.fSays.length : Int) != (t.fNext.length : Int)) || ((t.fLast.length : Int) != (t.fNext.length : Int))))))], [.box [I t.fIn, I t.fOut, I t.fStart, LS intT t.fFirst, LS (lsT intT) t.fNext, LS (lsT (lsT intT)) t.fSays, LS (lsT intT) t.fLast] 33 false, .gone, .box [I (t.fNext.length : Int)] 3 false]⟩ ?_ ?_
        · refine splitB ((t.fSays.length : Int) != (t.fNext.length : Int)) (fun hb0 => ?_) (fun hb0 => ?_)
          · refine WL.setB 41 hb0 (by kernel_rfl) ?_
            refine WL.run ht hn 6 ⟨[(1, .sv (.one (.ptr 0 0))), (5, .sv (.one (.ptr 2 0))), (47, .sv (.one (B true)))], [.box [I t.fIn, I t.fOut, I t.fStart, LS intT t.fFirst, LS (lsT intT) t.fNext, LS (lsT (lsT intT)) t.fSays, LS (lsT intT) t.fLast] 33 false, .gone, .box [I (t.fNext.length : Int)] 3 false]⟩ (by kernel_rfl) ?_
            exact WL.nil (sub_ok (by simp only [hb0]; kernel_rfl))
          · refine WL.setB 41 hb0 (by kernel_rfl) ?_
            refine WL.run ht hn 6 ⟨[(1, .sv (.one (.ptr 0 0))), (5, .sv (.one (.ptr 2 0))), (47, .sv (.one (B ((t.fLast.length : Int) != (t.fNext.length : Int)))))], [.box [I t.fIn, I t.fOut, I t.fStart, LS intT t.fFirst, LS (lsT intT) t.fNext, LS (lsT (lsT intT)) t.fSays, LS (lsT intT) t.fLast] 33 false, .gone, .box [I (t.fNext.length : Int)] 3 false]⟩ (by kernel_rfl) ?_
            exact WL.nil (sub_ok (by simp only [hb0]; kernel_rfl))
        · refine En.cond (b := (((t.fSays.length : Int) != (t.fNext.length : Int)) || ((t.fLast.length : Int) != (t.fNext.length : Int)))) (by kernel_rfl) (fun hb => ?_) (fun hb => ?_)
          · replace h := h.1 hb
            refine En.seq ?_
            refine En.region ?_
            refine WL.run ht hn 1 ⟨[(2, .sv (.one (I 3)))], [.gone, .gone, .gone]⟩ (by kernel_rfl) ?_
            refine WL.nil ?_
            refine En.ret ?_
            exact En.back ht 3 h (by kernel_rfl) rfl
          · replace h := h.2 hb
            refine En.skip ?_
            refine En.seq ?_
            refine En.seq ?_
            refine En.region ?_
            refine WL.run ht hn 2 ⟨[(1, .sv (.one (.ptr 0 0))), (5, .sv (.one (.ptr 2 0))), (48, .sv (.one (I (t.fNext.length : Int)))), (49, .sv (.one (I 0)))], [.box [I t.fIn, I t.fOut, I t.fStart, LS intT t.fFirst, LS (lsT intT) t.fNext, LS (lsT (lsT intT)) t.fSays, LS (lsT intT) t.fLast] 33 false, .gone, .box [I (t.fNext.length : Int)] 3 false]⟩ (by kernel_rfl) ?_
            refine WL.nil ?_
            refine En.block ?_
            obtain ⟨Inv_2, mu_2, h0_2, hI_2⟩ := h
            refine En.loop (σ := Int) (fun zz => Inv_2 zz) (fun zz => mu_2 zz) (fun zz => ⟨[(1, .sv (.one (.ptr 0 0))), (5, .sv (.one (.ptr 2 0))), (48, .sv (.one (I (t.fNext.length : Int)))), (49, .sv (.one (I zz)))], [.box [I t.fIn, I t.fOut, I t.fStart, LS intT t.fFirst, LS (lsT intT) t.fNext, LS (lsT (lsT intT)) t.fSays, LS (lsT intT) t.fLast] 33 false, .gone, .box [I (t.fNext.length : Int)] 3 false]⟩) 0 h0_2 (sub_ok (by kernel_rfl)) ?_
            intro x49 h
            replace h := hI_2 _ h
            show En c ⟨[(1, .sv (.one (.ptr 0 0))), (5, .sv (.one (.ptr 2 0))), (48, .sv (.one (I (t.fNext.length : Int)))), (49, .sv (.one (I x49)))], [.box [I t.fIn, I t.fOut, I t.fStart, LS intT t.fFirst, LS (lsT intT) t.fNext, LS (lsT (lsT intT)) t.fSays, LS (lsT intT) t.fLast] 33 false, .gone, .box [I (t.fNext.length : Int)] 3 false]⟩ _
            refine En.seq ?_
            refine En.region ?_
            refine WL.run ht hn 1 ⟨[(1, .sv (.one (.ptr 0 0))), (5, .sv (.one (.ptr 2 0))), (48, .sv (.one (I (t.fNext.length : Int)))), (49, .sv (.one (I x49))), (50, .sv (.one (B (decide (x49 < (t.fNext.length : Int))))))], [.box [I t.fIn, I t.fOut, I t.fStart, LS intT t.fFirst, LS (lsT intT) t.fNext, LS (lsT (lsT intT)) t.fSays, LS (lsT intT) t.fLast] 33 false, .gone, .box [I (t.fNext.length : Int)] 3 false]⟩ (by kernel_rfl) ?_
            refine WL.nil ?_
            refine En.seq ?_
            refine En.cond (b := (decide (x49 < (t.fNext.length : Int)))) (by kernel_rfl) (fun hb => ?_) (fun hb => ?_)
            · replace h := h.1 hb
              refine En.skip ?_
              refine En.seq ?_
              refine En.block ?_
              refine En.seq ?_
              refine En.region ?_
              refine WL.run ht hn 2 ⟨[(1, .sv (.one (.ptr 0 0))), (5, .sv (.one (.ptr 2 0))), (6, .sv (.one (I x49))), (48, .sv (.one (I (t.fNext.length : Int)))), (49, .sv (.one (I x49)))], [.box [I t.fIn, I t.fOut, I t.fStart, LS intT t.fFirst, LS (lsT intT) t.fNext, LS (lsT (lsT intT)) t.fSays, LS (lsT intT) t.fLast] 33 false, .gone, .box [I (t.fNext.length : Int)] 3 false]⟩ (by kernel_rfl) ?_
              refine WL.nil ?_
              obtain ⟨J, h, hJ⟩ := h
              refine En.seqJ (σ := Bool) (fun zz => J zz) (fun zz => ⟨[(1, .sv (.one (.ptr 0 0))), (5, .sv (.one (.ptr 2 0))), (48, .sv (.one (I (t.fNext.length : Int)))), (49, .sv (.one (I x49))), (71, .sv (.one (B zz)))], [.box [I t.fIn, I t.fOut, I t.fStart, LS intT t.fFirst, LS (lsT intT) t.fNext, LS (lsT (lsT intT)) t.fSays, LS (lsT intT) t.fLast] 33 false, .gone, .box [I (t.fNext.length : Int)] 3 false]⟩) ?_ ?_
              · refine En.regionS (by kernel_rfl) (by kernel_rfl) ?_
                refine SL.run ht hn 3 ⟨[(1, .sv (.one (.ptr 0 0))), (5, .sv (.one (.ptr 2 0))), (6, .sv (.one (I x49))), (48, .sv (.one (I (t.fNext.length : Int)))), (49, .sv (.one (I x49))), (52, .sv (.one (.ptr 0 4))), (53, .sv (.one (LS (lsT intT) t.fNext))), (54, .sv (.one (I x49)))], [.box [I t.fIn, I t.fOut, I t.fStart, LS intT t.fFirst, LS (lsT intT) t.fNext, LS (lsT (lsT intT)) t.fSays, LS (lsT intT) t.fLast] 33 false, .gone, .box [I (t.fNext.length : Int)] 3 false]⟩ (by kernel_rfl) ?_
                obtain ⟨e_2, he_2, h⟩ := h
                refine SL.val hn (by rfl) (val_index (T := (lsT intT)) (l := t.fNext) (i := x49) ht rfl (by rfl) (by rfl) (by rfl) (by rfl) (by rfl) (by rfl) he_2) (by rfl) ?_
                refine SL.val hn (by rfl) (val_load (s := .one (LS intT e_2)) ht rfl (by rfl) (by rfl) (by rfl) (by rfl) (by rfl)) (by rfl) ?_
                refine SL.run ht hn 5 ⟨[(1, .sv (.one (.ptr 0 0))), (5, .sv (.one (.ptr 2 0))), (6, .sv (.one (I x49))), (48, .sv (.one (I (t.fNext.length : Int)))), (49, .sv (.one (I x49))), (52, .sv (.one (.ptr 0 4))), (53, .sv (.one (LS (lsT intT) t.fNext))), (54, .sv (.one (I x49))), (55, .sv (.one (.pe (svR (.one (LS intT e_2))) 1))), (56, .sv (.one (LS intT e_2))), (57, .sv (.one (I (e_2.length : Int)))), (58, .sv (.one (.ptr 0 0))), (59, .sv (.one (I t.fIn))), (60, .sv (.one (B ((e_2.length : Int) != t.fIn)))), (61, .sv (.one (B ((e_2.length : Int) != t.fIn))))], [.box [I t.fIn, I t.fOut, I t.fStart, LS intT t.fFirst, LS (lsT intT) t.fNext, LS (lsT (lsT intT)) t.fSays, LS (lsT intT) t.fLast] 33 false, .gone, .box [I (t.fNext.length : Int)] 3 false]⟩ (by kernel_rfl) ?_
                refine splitB ((e_2.length : Int) != t.fIn) (fun hb => ?_) (fun hb => ?_)
                · replace h := h.1 hb
                  refine SL.setB 61 hb (by kernel_rfl) ?_
                  refine SL.run ht hn 10 ⟨[(1, .sv (.one (.ptr 0 0))), (5, .sv (.one (.ptr 2 0))), (6, .sv (.one (I x49))), (48, .sv (.one (I (t.fNext.length : Int)))), (49, .sv (.one (I x49))), (52, .sv (.one (.ptr 0 4))), (53, .sv (.one (LS (lsT intT) t.fNext))), (54, .sv (.one (I x49))), (55, .sv (.one (.pe (svR (.one (LS intT e_2))) 1))), (56, .sv (.one (LS intT e_2))), (57, .sv (.one (I (e_2.length : Int)))), (58, .sv (.one (.ptr 0 0))), (59, .sv (.one (I t.fIn))), (60, .sv (.one (B ((e_2.length : Int) != t.fIn)))), (61, .sv (.one (B true))), (62, .tup []), (63, .tup []), (64, .tup []), (65, .tup []), (66, .tup []), (67, .tup []), (68, .tup []), (69, .tup []), (70, .tup []), (71, .sv (.one (B true)))], [.box [I t.fIn, I t.fOut, I t.fStart, LS intT t.fFirst, LS (lsT intT) t.fNext, LS (lsT (lsT intT)) t.fSays, LS (lsT intT) t.fLast] 33 false, .gone, .box [I (t.fNext.length : Int)] 3 false]⟩ (by kernel_rfl) ?_
                  refine SL.nil ⟨by kernel_rfl, ?_⟩
                  exact En.at (I := fun zz => J zz) (T := fun zz => ⟨[(1, .sv (.one (.ptr 0 0))), (5, .sv (.one (.ptr 2 0))), (48, .sv (.one (I (t.fNext.length : Int)))), (49, .sv (.one (I x49))), (71, .sv (.one (B zz)))], [.box [I t.fIn, I t.fOut, I t.fStart, LS intT t.fFirst, LS (lsT intT) t.fNext, LS (lsT (lsT intT)) t.fSays, LS (lsT intT) t.fLast] 33 false, .gone, .box [I (t.fNext.length : Int)] 3 false]⟩) true h (by kernel_rfl)
                · replace h := h.2 hb
                  refine SL.setB 61 hb (by kernel_rfl) ?_
                  refine SL.run ht hn 3 ⟨[(1, .sv (.one (.ptr 0 0))), (5, .sv (.one (.ptr 2 0))), (6, .sv (.one (I x49))), (48, .sv (.one (I (t.fNext.length : Int)))), (49, .sv (.one (I x49))), (52, .sv (.one (.ptr 0 4))), (53, .sv (.one (LS (lsT intT) t.fNext))), (54, .sv (.one (I x49))), (55, .sv (.one (.pe (svR (.one (LS intT e_2))) 1))), (56, .sv (.one (LS intT e_2))), (57, .sv (.one (I (e_2.length : Int)))), (58, .sv (.one (.ptr 0 0))), (59, .sv (.one (I t.fIn))), (60, .sv (.one (B ((e_2.length : Int) != t.fIn)))), (61, .sv (.one (B false))), (62, .sv (.one (.ptr 0 5))), (63, .sv (.one (LS (lsT (lsT intT)) t.fSays))), (64, .sv (.one (I x49)))], [.box [I t.fIn, I t.fOut, I t.fStart, LS intT t.fFirst, LS (lsT intT) t.fNext, LS (lsT (lsT intT)) t.fSays, LS (lsT intT) t.fLast] 33 false, .gone, .box [I (t.fNext.length : Int)] 3 false]⟩ (by kernel_rfl) ?_
                  obtain ⟨e_3, he_3, h⟩ := h
                  refine SL.val hn (by rfl) (val_index (T := (lsT (lsT intT))) (l := t.fSays) (i := x49) ht rfl (by rfl) (by rfl) (by rfl) (by rfl) (by rfl) (by rfl) he_3) (by rfl) ?_
                  refine SL.val hn (by rfl) (val_load (s := .one (LS (lsT intT) e_3)) ht rfl (by rfl) (by rfl) (by rfl) (by rfl) (by rfl)) (by rfl) ?_
                  refine SL.run ht hn 5 ⟨[(1, .sv (.one (.ptr 0 0))), (5, .sv (.one (.ptr 2 0))), (6, .sv (.one (I x49))), (48, .sv (.one (I (t.fNext.length : Int)))), (49, .sv (.one (I x49))), (52, .sv (.one (.ptr 0 4))), (53, .sv (.one (LS (lsT intT) t.fNext))), (54, .sv (.one (I x49))), (55, .sv (.one (.pe (svR (.one (LS intT e_2))) 1))), (56, .sv (.one (LS intT e_2))), (57, .sv (.one (I (e_2.length : Int)))), (58, .sv (.one (.ptr 0 0))), (59, .sv (.one (I t.fIn))), (60, .sv (.one (B ((e_2.length : Int) != t.fIn)))), (61, .sv (.one (B false))), (62, .sv (.one (.ptr 0 5))), (63, .sv (.one (LS (lsT (lsT intT)) t.fSays))), (64, .sv (.one (I x49))), (65, .sv (.one (.pe (svR (.one (LS (lsT intT) e_3))) 1))), (66, .sv (.one (LS (lsT intT) e_3))), (67, .sv (.one (I (e_3.length : Int)))), (68, .sv (.one (.ptr 0 0))), (69, .sv (.one (I t.fIn))), (70, .sv (.one (B ((e_3.length : Int) != t.fIn)))), (71, .sv (.one (B ((e_3.length : Int) != t.fIn))))], [.box [I t.fIn, I t.fOut, I t.fStart, LS intT t.fFirst, LS (lsT intT) t.fNext, LS (lsT (lsT intT)) t.fSays, LS (lsT intT) t.fLast] 33 false, .gone, .box [I (t.fNext.length : Int)] 3 false]⟩ (by kernel_rfl) ?_
                  refine SL.nil ⟨by kernel_rfl, ?_⟩
                  exact En.at (I := fun zz => J zz) (T := fun zz => ⟨[(1, .sv (.one (.ptr 0 0))), (5, .sv (.one (.ptr 2 0))), (48, .sv (.one (I (t.fNext.length : Int)))), (49, .sv (.one (I x49))), (71, .sv (.one (B zz)))], [.box [I t.fIn, I t.fOut, I t.fStart, LS intT t.fFirst, LS (lsT intT) t.fNext, LS (lsT (lsT intT)) t.fSays, LS (lsT intT) t.fLast] 33 false, .gone, .box [I (t.fNext.length : Int)] 3 false]⟩) ((e_3.length : Int) != t.fIn) h (by kernel_rfl)
              · intro x71 h
                replace h := hJ _ h
                show En c ⟨[(1, .sv (.one (.ptr 0 0))), (5, .sv (.one (.ptr 2 0))), (48, .sv (.one (I (t.fNext.length : Int)))), (49, .sv (.one (I x49))), (71, .sv (.one (B x71)))], [.box [I t.fIn, I t.fOut, I t.fStart, LS intT t.fFirst, LS (lsT intT) t.fNext, LS (lsT (lsT intT)) t.fSays, LS (lsT intT) t.fLast] 33 false, .gone, .box [I (t.fNext.length : Int)] 3 false]⟩ _
                refine En.cond (b := x71) (by kernel_rfl) (fun hb => ?_) (fun hb => ?_)
                · replace h := h.1 hb
                  refine En.seq ?_
                  refine En.region ?_
                  refine WL.run ht hn 1 ⟨[(2, .sv (.one (I 3)))], [.gone, .gone, .gone]⟩ (by kernel_rfl) ?_
                  refine WL.nil ?_
                  refine En.ret ?_
                  exact En.back ht 3 h (by kernel_rfl) rfl
                · replace h := h.2 hb
                  refine En.skip ?_
                  refine En.region ?_
                  refine WL.run ht hn 2 ⟨[(1, .sv (.one (.ptr 0 0))), (5, .sv (.one (.ptr 2 0))), (48, .sv (.one (I (t.fNext.length : Int)))), (49, .sv (.one (I (wr (x49 + 1)))))], [.box [I t.fIn, I t.fOut, I t.fStart, LS intT t.fFirst, LS (lsT intT) t.fNext, LS (lsT (lsT intT)) t.fSays, LS (lsT intT) t.fLast] 33 false, .gone, .box [I (t.fNext.length : Int)] 3 false]⟩ (by kernel_rfl) ?_
                  refine WL.nil ?_
                  exact En.at (I := fun zz => Inv_2 zz ∧ mu_2 zz < mu_2 x49) (T := fun zz => ⟨[(1, .sv (.one (.ptr 0 0))), (5, .sv (.one (.ptr 2 0))), (48, .sv (.one (I (t.fNext.length : Int)))), (49, .sv (.one (I zz)))], [.box [I t.fIn, I t.fOut, I t.fStart, LS intT t.fFirst, LS (lsT intT) t.fNext, LS (lsT (lsT intT)) t.fSays, LS (lsT intT) t.fLast] 33 false, .gone, .box [I (t.fNext.length : Int)] 3 false]⟩) (wr (x49 + 1)) h (by kernel_rfl)
            · replace h := h.2 hb
              refine En.exit rfl ?_
              refine En.seq ?_
              refine En.region ?_
              refine WL.run ht hn 3 ⟨[(1, .sv (.one (.ptr 0 0))), (7, .sv (.one (.ptr 3 0)))], [.box [I t.fIn, I t.fOut, I t.fStart, LS intT t.fFirst, LS (lsT intT) t.fNext, LS (lsT (lsT intT)) t.fSays, LS (lsT intT) t.fLast] 33 false, .gone, .box [I (t.fNext.length : Int)] 3 false, .box [.fn 120 [2]] 134 false]⟩ (by kernel_rfl) ?_
              refine WL.nil ?_
              refine En.seq ?_
              obtain ⟨J_2, h, hJ_2⟩ := h
              refine En.seqJ (σ := Bool) (fun zz => J_2 zz) (fun zz => ⟨[(1, .sv (.one (.ptr 0 0))), (83, .sv (.one (B zz)))], [.box [I t.fIn, I t.fOut, I t.fStart, LS intT t.fFirst, LS (lsT intT) t.fNext, LS (lsT (lsT intT)) t.fSays, LS (lsT intT) t.fLast] 33 false, .gone, .gone, .gone]⟩) ?_ ?_
              · refine En.region ?_
                refine WL.run ht hn 3 ⟨[(1, .sv (.one (.ptr 0 0))), (7, .sv (.one (.ptr 3 0))), (74, .sv (.one (.fn 120 [2]))), (76, .sv (.one (I t.fStart)))], [.box [I t.fIn, I t.fOut, I t.fStart, LS intT t.fFirst, LS (lsT intT) t.fNext, LS (lsT (lsT intT)) t.fSays, LS (lsT intT) t.fLast] 33 false, .gone, .box [I (t.fNext.length : Int)] 3 false, .box [.fn 120 [2]] 134 false]⟩ (by kernel_rfl) ?_
                refine WL.freeze [2] (by rfl) ?_
                refine WL.ghost 74 (.sv (.one (.rd (fvR (fun (x_ : Int) => [.sv (.one (I x_))]) (fun (r : Bool) => .sv (.one (B r))) (fun _ => True) (trNo (t.fNext.length : Int)))))) (by rfl) (fv_of (M := [.box [I (t.fNext.length : Int)] 3 true]) (caps := [2]) (fun x_ _ => trC1_ct x_ (t.fNext.length : Int)) en120 rfl (by kernel_rfl) (by rfl) (fun _ => rfl)) ?_
                have hp := h.1
                replace h := h.2
                refine WL.mt0 (K := []) (p := none) hn (by rfl) (mt_callv t.fStart hp rfl (by rfl) (by rfl) (by rfl) (by rfl)) (by rfl) (by rfl) (by rfl) ?_
                refine WL.run ht hn 1 ⟨[(1, .sv (.one (.ptr 0 0))), (7, .sv (.one (.ptr 3 0))), (78, .sv (.one (B ((trNo (t.fNext.length : Int)) t.fStart))))], [.box [I t.fIn, I t.fOut, I t.fStart, LS intT t.fFirst, LS (lsT intT) t.fNext, LS (lsT (lsT intT)) t.fSays, LS (lsT intT) t.fLast] 33 false, .gone, .box [I (t.fNext.length : Int)] 3 true, .box [.fn 120 [2]] 134 false]⟩ (by kernel_rfl) ?_
                refine splitB ((trNo (t.fNext.length : Int)) t.fStart) (fun hb => ?_) (fun hb => ?_)
                · replace h := h.1 hb
                  refine WL.setB 78 hb (by kernel_rfl) ?_
                  refine WL.run ht hn 5 ⟨[(1, .sv (.one (.ptr 0 0))), (83, .sv (.one (B true)))], [.box [I t.fIn, I t.fOut, I t.fStart, LS intT t.fFirst, LS (lsT intT) t.fNext, LS (lsT (lsT intT)) t.fSays, LS (lsT intT) t.fLast] 33 false, .gone, .gone, .gone]⟩ (by kernel_rfl) ?_
                  refine WL.nil ?_
                  exact En.at (I := fun zz => J_2 zz) (T := fun zz => ⟨[(1, .sv (.one (.ptr 0 0))), (83, .sv (.one (B zz)))], [.box [I t.fIn, I t.fOut, I t.fStart, LS intT t.fFirst, LS (lsT intT) t.fNext, LS (lsT (lsT intT)) t.fSays, LS (lsT intT) t.fLast] 33 false, .gone, .gone, .gone]⟩) true h (by kernel_rfl)
                · replace h := h.2 hb
                  refine WL.setB 78 hb (by kernel_rfl) ?_
                  refine WL.run ht hn 3 ⟨[(1, .sv (.one (.ptr 0 0))), (78, .sv (.one (B false))), (80, .sv (.one (LS (lsT intT) t.fNext))), (81, .sv (.one (.fn 121 [3])))], [.box [I t.fIn, I t.fOut, I t.fStart, LS intT t.fFirst, LS (lsT intT) t.fNext, LS (lsT (lsT intT)) t.fSays, LS (lsT intT) t.fLast] 33 false, .gone, .box [I (t.fNext.length : Int)] 3 true, .box [.fn 120 [2]] 134 false]⟩ (by kernel_rfl) ?_
                  have hp := h.1
                  replace h := h.2
                  refine WL.mt0 (K := []) (p := none) hn (by rfl) (mt_lendB (.rd (fvR (fun (x_ : Int) => [.sv (.one (I x_))]) (fun (r : Bool) => .sv (.one (B r))) (fun _ => True) (trNo (t.fNext.length : Int)))) 3 0 (by rfl) (by rfl) (fv_at (fv_of (M := [.box [I (t.fNext.length : Int)] 3 true]) (caps := [2]) (fun x_ _ => trC1_ct x_ (t.fNext.length : Int)) en120 rfl (by kernel_rfl) (by rfl) (fun _ => rfl))) (mt_lendF [3] (by rfl) (by rfl) (mt_ghost 81 (.sv (.one (.rd (fvR (fun (x_ : (List Int)) => [.sv (.one (LS intT x_))]) (fun (r : Bool) => .sv (.one (B r))) (fun l => ∀ x ∈ l, (fun _ => True) x) (fun l => l.any (trNo (t.fNext.length : Int))))))) (by rfl) (fv_of (M := [.box [.rd (fvR (fun (x_ : Int) => [.sv (.one (I x_))]) (fun (r : Bool) => .sv (.one (B r))) (fun _ => True) (trNo (t.fNext.length : Int)))] 134 true]) (caps := [3]) (fun x_ hx => trC2_ct x_ (fun _ => True) (trNo (t.fNext.length : Int)) hx) en121 rfl (by kernel_rfl) (by rfl) (fun _ => rfl)) (mt_call (anyLInt_ct t.fNext (fun l => ∀ x ∈ l, (fun _ => True) x) (fun l => l.any (trNo (t.fNext.length : Int))) hp) en63 (caps := []) [] rfl (by rfl) (by kernel_rfl) (by kernel_rfl) (by rfl) (by rfl) (by rfl))))) (by rfl) (by rfl) (by rfl) ?_
                  refine WL.run ht hn 1 ⟨[(1, .sv (.one (.ptr 0 0))), (83, .sv (.one (B (t.fNext.any (fun l => l.any (trNo (t.fNext.length : Int)))))))], [.box [I t.fIn, I t.fOut, I t.fStart, LS intT t.fFirst, LS (lsT intT) t.fNext, LS (lsT (lsT intT)) t.fSays, LS (lsT intT) t.fLast] 33 false, .gone, .gone, .gone]⟩ (by kernel_rfl) ?_
                  refine WL.nil ?_
                  exact En.at (I := fun zz => J_2 zz) (T := fun zz => ⟨[(1, .sv (.one (.ptr 0 0))), (83, .sv (.one (B zz)))], [.box [I t.fIn, I t.fOut, I t.fStart, LS intT t.fFirst, LS (lsT intT) t.fNext, LS (lsT (lsT intT)) t.fSays, LS (lsT intT) t.fLast] 33 false, .gone, .gone, .gone]⟩) (t.fNext.any (fun l => l.any (trNo (t.fNext.length : Int)))) h (by kernel_rfl)
              · intro x83 h
                replace h := hJ_2 _ h
                show En c ⟨[(1, .sv (.one (.ptr 0 0))), (83, .sv (.one (B x83)))], [.box [I t.fIn, I t.fOut, I t.fStart, LS intT t.fFirst, LS (lsT intT) t.fNext, LS (lsT (lsT intT)) t.fSays, LS (lsT intT) t.fLast] 33 false, .gone, .gone, .gone]⟩ _
                refine En.cond (b := x83) (by kernel_rfl) (fun hb => ?_) (fun hb => ?_)
                · replace h := h.1 hb
                  refine En.seq ?_
                  refine En.region ?_
                  refine WL.run ht hn 1 ⟨[(2, .sv (.one (I 2)))], [.gone, .gone, .gone, .gone]⟩ (by kernel_rfl) ?_
                  refine WL.nil ?_
                  refine En.ret ?_
                  exact En.back ht 2 h (by kernel_rfl) rfl
                · replace h := h.2 hb
                  refine En.skip ?_
                  refine En.seq ?_
                  refine En.seq ?_
                  refine En.region ?_
                  refine WL.run ht hn 1 ⟨[(1, .sv (.one (.ptr 0 0))), (84, .sv (.agg [I t.fIn, I t.fOut, I t.fStart, LS intT t.fFirst, LS (lsT intT) t.fNext, LS (lsT (lsT intT)) t.fSays, LS (lsT intT) t.fLast]))], [.box [I t.fIn, I t.fOut, I t.fStart, LS intT t.fFirst, LS (lsT intT) t.fNext, LS (lsT (lsT intT)) t.fSays, LS (lsT intT) t.fLast] 33 false, .gone, .gone, .gone]⟩ (by kernel_rfl) ?_
                  have hp := h.1
                  replace h := h.2
                  refine WL.mt0 (K := []) (p := none) hn (by rfl) (mt_call (trLong_ct t hp) en122 (caps := []) [] rfl (by rfl) (by kernel_rfl) (by kernel_rfl) (by rfl) (by rfl) (by rfl)) (by rfl) (by rfl) (by rfl) ?_
                  refine WL.nil ?_
                  refine En.cond (b := (longR t)) (by kernel_rfl) (fun hb => ?_) (fun hb => ?_)
                  · replace h := h.1 hb
                    refine En.seq ?_
                    refine En.region ?_
                    refine WL.run ht hn 1 ⟨[(2, .sv (.one (I 1)))], [.gone, .gone, .gone, .gone]⟩ (by kernel_rfl) ?_
                    refine WL.nil ?_
                    refine En.ret ?_
                    exact En.back ht 1 h (by kernel_rfl) rfl
                  · replace h := h.2 hb
                    refine En.skip ?_
                    refine En.seq ?_
                    refine En.seq ?_
                    refine En.region ?_
                    refine WL.run ht hn 1 ⟨[(1, .sv (.one (.ptr 0 0))), (86, .sv (.agg [I t.fIn, I t.fOut, I t.fStart, LS intT t.fFirst, LS (lsT intT) t.fNext, LS (lsT (lsT intT)) t.fSays, LS (lsT intT) t.fLast]))], [.box [I t.fIn, I t.fOut, I t.fStart, LS intT t.fFirst, LS (lsT intT) t.fNext, LS (lsT (lsT intT)) t.fSays, LS (lsT intT) t.fLast] 33 false, .gone, .gone, .gone]⟩ (by kernel_rfl) ?_
                    have hp := h.1
                    replace h := h.2
                    refine WL.mt0 (K := []) (p := some (4, rowI 23 (lsT intT) (saidR t))) hn (by rfl) (mt_callI 4 (trSaid_ct t hp) en123 (caps := []) [] rfl rfl (by rfl) (by kernel_rfl) (by kernel_rfl) (by rfl) (by rfl)) (by rfl) (by rfl) (by rfl) ?_
                    refine WL.run ht hn 2 ⟨[(1, .sv (.one (.ptr 0 0))), (87, .sv (.one (.own 4))), (88, .sv (.one (I ((saidR t).length : Int)))), (89, .sv (.one (I 0)))], [.box [I t.fIn, I t.fOut, I t.fStart, LS intT t.fFirst, LS (lsT intT) t.fNext, LS (lsT (lsT intT)) t.fSays, LS (lsT intT) t.fLast] 33 false, .gone, .gone, .gone, rowI 23 (lsT intT) (saidR t)]⟩ (by kernel_rfl) ?_
                    refine WL.nil ?_
                    refine En.block ?_
                    obtain ⟨Inv_3, mu_3, h0, hI⟩ := h
                    refine En.loop (σ := Int) (fun zz => Inv_3 zz) (fun zz => mu_3 zz) (fun zz => ⟨[(1, .sv (.one (.ptr 0 0))), (87, .sv (.one (.own 4))), (88, .sv (.one (I ((saidR t).length : Int)))), (89, .sv (.one (I zz)))], [.box [I t.fIn, I t.fOut, I t.fStart, LS intT t.fFirst, LS (lsT intT) t.fNext, LS (lsT (lsT intT)) t.fSays, LS (lsT intT) t.fLast] 33 false, .gone, .gone, .gone, rowI 23 (lsT intT) (saidR t)]⟩) 0 h0 (sub_ok (by kernel_rfl)) ?_
                    intro x89 h
                    replace h := hI _ h
                    show En c ⟨[(1, .sv (.one (.ptr 0 0))), (87, .sv (.one (.own 4))), (88, .sv (.one (I ((saidR t).length : Int)))), (89, .sv (.one (I x89)))], [.box [I t.fIn, I t.fOut, I t.fStart, LS intT t.fFirst, LS (lsT intT) t.fNext, LS (lsT (lsT intT)) t.fSays, LS (lsT intT) t.fLast] 33 false, .gone, .gone, .gone, rowI 23 (lsT intT) (saidR t)]⟩ _
                    refine En.seq ?_
                    refine En.region ?_
                    refine WL.run ht hn 1 ⟨[(1, .sv (.one (.ptr 0 0))), (87, .sv (.one (.own 4))), (88, .sv (.one (I ((saidR t).length : Int)))), (89, .sv (.one (I x89))), (90, .sv (.one (B (decide (x89 < ((saidR t).length : Int))))))], [.box [I t.fIn, I t.fOut, I t.fStart, LS intT t.fFirst, LS (lsT intT) t.fNext, LS (lsT (lsT intT)) t.fSays, LS (lsT intT) t.fLast] 33 false, .gone, .gone, .gone, rowI 23 (lsT intT) (saidR t)]⟩ (by kernel_rfl) ?_
                    refine WL.nil ?_
                    refine En.seq ?_
                    refine En.cond (b := (decide (x89 < ((saidR t).length : Int)))) (by kernel_rfl) (fun hb => ?_) (fun hb => ?_)
                    · replace h := h.1 hb
                      refine En.skip ?_
                      refine En.seq ?_
                      refine En.block ?_
                      refine En.seq ?_
                      refine En.region ?_
                      obtain ⟨e_4, he_4, h⟩ := h
                      refine WL.val hn (by rfl) (val_indexO (T := (lsT intT)) (l := (saidR t)) (k := x89) ht rfl (by rfl) (by rfl) (by rfl) (by rfl) (by decide) (by rfl) (by rfl) (by rfl) he_4) (by rfl) ?_
                      refine WL.val hn (by rfl) (val_loadO (T := (lsT intT)) (l := (saidR t)) (y := e_4) ht rfl (by rfl) (by rfl) (by rfl) (by rfl) (by rfl) (idx_some he_4).2.2 (by rfl)) (by rfl) ?_
                      refine WL.run ht hn 1 ⟨[(1, .sv (.one (.ptr 0 0))), (9, .sv (.one (LS intT e_4))), (87, .sv (.one (.own 4))), (88, .sv (.one (I ((saidR t).length : Int)))), (89, .sv (.one (I x89)))], [.box [I t.fIn, I t.fOut, I t.fStart, LS intT t.fFirst, LS (lsT intT) t.fNext, LS (lsT (lsT intT)) t.fSays, LS (lsT intT) t.fLast] 33 false, .gone, .gone, .gone, rowI 23 (lsT intT) (saidR t)]⟩ (by kernel_rfl) ?_
                      refine WL.nil ?_
                      refine En.seq ?_
                      refine En.region ?_
                      refine WL.run ht hn 2 ⟨[(1, .sv (.one (.ptr 0 0))), (87, .sv (.one (.own 4))), (88, .sv (.one (I ((saidR t).length : Int)))), (89, .sv (.one (I x89))), (93, .sv (.one (LS intT e_4))), (94, .sv (.one (.fn 124 [0])))], [.box [I t.fIn, I t.fOut, I t.fStart, LS intT t.fFirst, LS (lsT intT) t.fNext, LS (lsT (lsT intT)) t.fSays, LS (lsT intT) t.fLast] 33 false, .gone, .gone, .gone, rowI 23 (lsT intT) (saidR t)]⟩ (by kernel_rfl) ?_
                      have hp := h.1
                      replace h := h.2
                      refine WL.mt0 (K := []) (p := none) hn (by rfl) (mt_lendF [0] (by rfl) (by rfl) (mt_ghost 94 (.sv (.one (.rd (fvR (fun (x_ : Int) => [.sv (.one (I x_))]) (fun (r : Bool) => .sv (.one (B r))) (fun _ => True) (trNo (t).fOut))))) (by rfl) (fv_of (M := [.box [I t.fIn, I t.fOut, I t.fStart, LS intT t.fFirst, LS (lsT intT) t.fNext, LS (lsT (lsT intT)) t.fSays, LS (lsT intT) t.fLast] 33 true]) (caps := [0]) (fun x_ _ => trC3_ct x_ t) en124 rfl (by kernel_rfl) (by rfl) (fun _ => rfl)) (mt_call (anyInt_ct e_4 (fun _ => True) (trNo (t).fOut) hp) en77 (caps := []) [] rfl (by rfl) (by kernel_rfl) (by kernel_rfl) (by rfl) (by rfl) (by rfl)))) (by rfl) (by rfl) (by rfl) ?_
                      refine WL.nil ?_
                      refine En.cond (b := (e_4.any (trNo (t).fOut))) (by kernel_rfl) (fun hb => ?_) (fun hb => ?_)
                      · replace h := h.1 hb
                        refine En.seq ?_
                        refine En.region ?_
                        refine WL.run ht hn 1 ⟨[(2, .sv (.one (I 2)))], [.gone, .gone, .gone, .gone, .gone]⟩ (by kernel_rfl) ?_
                        refine WL.nil ?_
                        refine En.ret ?_
                        exact En.back ht 2 h (by kernel_rfl) rfl
                      · replace h := h.2 hb
                        refine En.skip ?_
                        refine En.region ?_
                        refine WL.run ht hn 2 ⟨[(1, .sv (.one (.ptr 0 0))), (87, .sv (.one (.own 4))), (88, .sv (.one (I ((saidR t).length : Int)))), (89, .sv (.one (I (wr (x89 + 1)))))], [.box [I t.fIn, I t.fOut, I t.fStart, LS intT t.fFirst, LS (lsT intT) t.fNext, LS (lsT (lsT intT)) t.fSays, LS (lsT intT) t.fLast] 33 false, .gone, .gone, .gone, rowI 23 (lsT intT) (saidR t)]⟩ (by kernel_rfl) ?_
                        refine WL.nil ?_
                        exact En.at (I := fun zz => Inv_3 zz ∧ mu_3 zz < mu_3 x89) (T := fun zz => ⟨[(1, .sv (.one (.ptr 0 0))), (87, .sv (.one (.own 4))), (88, .sv (.one (I ((saidR t).length : Int)))), (89, .sv (.one (I zz)))], [.box [I t.fIn, I t.fOut, I t.fStart, LS intT t.fFirst, LS (lsT intT) t.fNext, LS (lsT (lsT intT)) t.fSays, LS (lsT intT) t.fLast] 33 false, .gone, .gone, .gone, rowI 23 (lsT intT) (saidR t)]⟩) (wr (x89 + 1)) h (by kernel_rfl)
                    · replace h := h.2 hb
                      refine En.exit rfl ?_
                      refine En.seq ?_
                      refine En.region ?_
                      refine WL.run ht hn 1 ⟨[(2, .sv (.one (I 0)))], [.gone, .gone, .gone, .gone, .gone]⟩ (by kernel_rfl) ?_
                      refine WL.nil ?_
                      refine En.ret ?_
                      exact En.back ht 0 h (by kernel_rfl) rfl
theorem en55 : ∀ args w, (callFunc 55 args).run Try.prog w = .ok (.enter 55 args) w := enters_of Try.func55 (by kernel_rfl) rfl
theorem trCheck_ct (t : ApiTrans)  : Ct 55 [.sv (.agg [I t.fIn, I t.fOut, I t.fStart, LS intT t.fFirst, LS (lsT intT) t.fNext, LS (lsT (lsT intT)) t.fSays, LS (lsT intT) t.fLast])] [] (fun (_ : Unit) => True) (fun _ => .sv (.one (I (trErr t)))) := by
  refine (trCheck_walk t (fun res_ => res_ = (trErr t)) ?_).fun
  intro _ _ _ _
  refine ⟨fun i => i = 0 ∨ (i = 1 ∧ badN t.fIn = false) ∨ (i = 2 ∧ badN t.fIn = false ∧ badN t.fOut = false), fun i => 2 - i.toNat, .inl rfl, ?_⟩
  intro i hi
  refine ⟨fun hb => ?_, fun hb => ?_⟩
  · rcases hi with rfl | ⟨rfl, h1⟩ | ⟨rfl, _⟩
    · refine ⟨t.fIn, rfl, fun h => ?_, fun h => ⟨.inr (.inl ⟨by decide, h⟩), by decide⟩⟩
      show _ = trErr t
      unfold trErr
      rw [if_pos (by rw [show badN t.fIn = true from h]; rfl)]
    · refine ⟨t.fOut, rfl, fun h => ?_, fun h => ⟨.inr (.inr ⟨by decide, h1, h⟩), by decide⟩⟩
      show _ = trErr t
      unfold trErr
      rw [if_pos (by rw [h1, show badN t.fOut = true from h]; rfl)]
    · exact absurd hb (by simp)
  have hge : ¬ i < 2 := of_decide_eq_false hb
  have h12 : (badN t.fIn || badN t.fOut) = false := by
    rcases hi with rfl | ⟨rfl, _⟩ | ⟨rfl, h, h'⟩
    · exact absurd (by decide) hge
    · exact absurd (by decide) hge
    · rw [h, h']; rfl
  refine ⟨fun h2 => ?_, fun h2 => ⟨fun h3 => ?_, fun h3 => ?_⟩⟩
  · show _ = trErr t
    unfold trErr; rw [if_neg (by rw [h12]; decide), if_pos h2]
  · show _ = trErr t
    unfold trErr; rw [if_neg (by rw [h12]; decide), if_neg (by rw [h2]; decide), if_pos h3]
  have hE : trErr t = if (List.range t.fNext.length).any (rowBad t) then 3 else
    if trNo (t.fNext.length : Int) t.fStart || t.fNext.any (fun r => r.any (trNo (t.fNext.length : Int))) then 2 else
    if longR t then 1 else
    if (saidR t).any (fun w => w.any (trNo t.fOut)) then 2 else 0 := by
    unfold trErr; rw [if_neg (by rw [h12]; decide), if_neg (by rw [h2]; decide), if_neg (by rw [h3]; decide)]
  simp only [Bool.or_eq_false_iff, decide_eq_false_iff_not, bne_eq_false_iff_eq] at h2 h3
  refine ⟨fun i => ∃ k : Nat, i = k ∧ k ≤ t.fNext.length ∧ ∀ j, j < k → rowBad t j = false, fun i => t.fNext.length - i.toNat, ⟨0, rfl, Nat.zero_le _, fun j hj => absurd hj (Nat.not_lt_zero _)⟩, ?_⟩
  rintro i ⟨k, rfl, hk, ht⟩
  refine ⟨fun hb => ?_, fun hb => ?_⟩
  · have hlt := dlt hb
    have hls : k < t.fSays.length := by omega
    have e1 : t.fNext.getD k [] = t.fNext[k] := getD_el hlt
    have e2 : t.fSays.getD k [] = t.fSays[k] := getD_el hls
    refine ⟨fun b => b = rowBad t k, ⟨_, idx_at hlt, fun h => ?_, fun h => ⟨_, idx_at hls, ?_⟩⟩, ?_⟩
    · show true = rowBad t k
      unfold rowBad
      rw [e1, h]; rfl
    · show _ = rowBad t k
      unfold rowBad
      rw [e1, e2, h]; rfl
    · rintro b rfl
      refine ⟨fun h => ?_, fun h => ⟨⟨k + 1, wsucc (by omega), hlt, fun j hj => ?_⟩, mu_up hlt (by omega)⟩⟩
      · show _ = trErr t
        rw [hE, if_pos (List.any_eq_true.2 ⟨k, List.mem_range.2 hlt, h⟩)]
      · by_cases e : j = k
        · rw [e]; exact h
        · exact ht j (by omega)
  have hge := dge hb
  have h4 : (List.range t.fNext.length).any (rowBad t) = false := by
    rw [List.any_eq_false]
    intro j hj
    rw [ht j (by have := List.mem_range.1 hj; omega)]
    decide
  rw [if_neg (by rw [h4]; decide)] at hE
  have hsp : SaidPre t := by
    refine ⟨by omega, by omega, fun r hr => ?_⟩
    obtain ⟨q, hq, rfl⟩ := List.getElem_of_mem hr
    have := ht q (by omega)
    unfold rowBad at this
    rw [getD_el hq] at this
    simp only [Bool.or_eq_false_iff, bne_eq_false_iff_eq] at this
    unfold badN at h12
    simp only [Bool.or_eq_false_iff, decide_eq_false_iff_not] at h12
    omega
  refine ⟨fun b => b = (trNo (t.fNext.length : Int) t.fStart || t.fNext.any (fun r => r.any (trNo (t.fNext.length : Int)))), ⟨trivial, fun h => by show true = _; rw [h]; rfl, fun h => ⟨fun _ _ _ _ => trivial, by show _ = _; rw [h]; rfl⟩⟩, ?_⟩
  rintro b rfl
  refine ⟨fun h5 => ?_, fun h5 => ⟨hsp, fun h6 => ?_, fun h6 => ⟨hsp, ?_⟩⟩⟩
  · show _ = trErr t
    rw [hE, if_pos h5]
  · show _ = trErr t
    rw [hE, if_neg (by rw [h5]; decide), if_pos h6]
  rw [if_neg (by rw [h5]; decide), if_neg (by rw [h6]; decide)] at hE
  have hsl : (saidR t).length ≤ 10000000 := by
    unfold saidR
    have : ∀ l : List (List (List Int)), (∀ r ∈ l, r.length ≤ 1000) → l.flatten.length ≤ l.length * 1000 := by
      intro l hl
      induction l with
      | nil => simp
      | cons a l ih =>
        have h1 := hl a List.mem_cons_self
        have h2 := ih fun r hr => hl r (List.mem_cons_of_mem _ hr)
        rw [List.flatten_cons, List.length_append, List.length_cons, Nat.succ_mul]
        omega
    have h7 := this _ hsp.2.2
    have h8 : t.fSays.length * 1000 ≤ 1000 * 1000 := Nat.mul_le_mul_right _ hsp.2.1
    have h9 := hsp.1
    rw [List.length_cons, List.length_append]
    omega
  refine ⟨fun i => ∃ k : Nat, i = k ∧ k ≤ (saidR t).length ∧ ∀ w ∈ (saidR t).take k, w.any (trNo t.fOut) = false, fun i => (saidR t).length - i.toNat, ⟨0, rfl, Nat.zero_le _, fun j hj => by cases hj⟩, ?_⟩
  rintro i ⟨k, rfl, hk, ht2⟩
  refine ⟨fun hb => ?_, fun hb => ?_⟩
  · have hlt := dlt hb
    refine ⟨_, idx_at hlt, fun _ _ => trivial, fun h => ?_, fun h => ⟨⟨k + 1, wsucc (by omega), hlt, fun w hw => ?_⟩, mu_up hlt (by omega)⟩⟩
    · show _ = trErr t
      rw [hE, if_pos (List.any_eq_true.2 ⟨_, List.getElem_mem hlt, h⟩)]
    · rw [List.take_add_one, List.getElem?_eq_getElem hlt] at hw
      rcases List.mem_append.1 hw with hw | hw
      · exact ht2 w hw
      · simp only [Option.toList_some, List.mem_singleton] at hw
        rw [hw]; exact h
  · rw [List.take_of_length_le (dge hb)] at ht2
    show _ = trErr t
    rw [hE, if_neg (by rw [Bool.not_eq_true, List.any_eq_false]; intro w hw; rw [ht2 w hw]; decide)]
def trRun_vc (t : ApiTrans) (q : Int) (w : (List Int)) (Q : ((List Int) × Int) → Prop) : Prop :=
  t.fFirst.length ≤ 9223372036854775807 →
  t.fNext.length ≤ 9223372036854775807 →
  t.fSays.length ≤ 9223372036854775807 →
  t.fLast.length ≤ 9223372036854775807 →
  w.length ≤ 9223372036854775807 →
  (∃ (Inv : Int → Int → (List Int) → Prop) (mu : Int → Int → (List Int) → Nat), Inv q 0 ([] : (List Int)) ∧
  ∀ (x1 : Int) (x13 : Int) (l1 : (List Int)) , Inv x1 x13 l1 → (IfP (decide (x13 < (w.length : Int))) (∃ e, idx w x13 = some e ∧
  ∃ e_2, idx t.fSays x1 = some e_2 ∧
  ∃ e_3, idx e_2 e = some e_3 ∧
  capOk l1.length (e_3 : (List Int)).length 8 ∧
  ∃ e_4, idx t.fNext x1 = some e_4 ∧
  ∃ e_5, idx e_4 e = some e_5 ∧
  (Inv e_5 (wr (x13 + 1)) (l1 ++ e_3) ∧ mu e_5 (wr (x13 + 1)) (l1 ++ e_3) < mu x1 x13 l1)) (Q (l1, x1))))
theorem trRun_walk (t : ApiTrans) (q : Int) (w : (List Int)) (Q : ((List Int) × Int) → Prop) (h : trRun_vc t q w Q) : Ct 58 [.sv (.agg [I t.fIn, I t.fOut, I t.fStart, LS intT t.fFirst, LS (lsT intT) t.fNext, LS (lsT (lsT intT)) t.fSays, LS (lsT intT) t.fLast]), .sv (.one (I q)), .sv (.one (LS intT w))] [] Q (fun (r : ((List Int) × Int)) => .tup [.one (LS intT r.1), .one (I r.2)]) := by
  have ht := tab_ok
  refine Ct.body Try.func58 rfl rfl rfl rfl (fun c hn => ?_)
  unfold trRun_vc at h
  refine En.lenA 0 3 (by rfl) (by rfl) (fun hl => ?_)
  replace h := h hl
  clear hl
  refine En.lenA 0 4 (by rfl) (by rfl) (fun hl => ?_)
  replace h := h hl
  clear hl
  refine En.lenA 0 5 (by rfl) (by rfl) (fun hl => ?_)
  replace h := h hl
  clear hl
  refine En.lenA 0 6 (by rfl) (by rfl) (fun hl => ?_)
  replace h := h hl
  clear hl
  refine En.lenL 2 (by rfl) (fun hl => ?_)
  replace h := h hl
  clear hl
  refine En.seq ?_
  refine En.region ?_
  refine WL.run ht hn 3 ⟨[(1, .sv (.one (I q))), (2, .sv (.one (LS intT w))), (3, .sv (.one (.ptr 0 0)))], [.box [I t.fIn, I t.fOut, I t.fStart, LS intT t.fFirst, LS (lsT intT) t.fNext, LS (lsT (lsT intT)) t.fSays, LS (lsT intT) t.fLast] 33 false]⟩ (by kernel_rfl) ?_
  refine WL.nil ?_
  refine En.seq ?_
  refine En.region ?_
  refine WL.run ht hn 1 ⟨[(1, .sv (.one (I q))), (2, .sv (.one (LS intT w))), (3, .sv (.one (.ptr 0 0))), (8, .sv (.one (.v (.slice none 0 0))))], [.box [I t.fIn, I t.fOut, I t.fStart, LS intT t.fFirst, LS (lsT intT) t.fNext, LS (lsT (lsT intT)) t.fSays, LS (lsT intT) t.fLast] 33 false]⟩ (by kernel_rfl) ?_
  refine WL.nil ?_
  refine En.seq ?_
  refine En.seq ?_
  refine En.region ?_
  refine WL.run ht hn 3 ⟨[(1, .sv (.one (I q))), (3, .sv (.one (.ptr 0 0))), (8, .sv (.one (.v (.slice none 0 0)))), (11, .sv (.one (LS intT w))), (12, .sv (.one (I (w.length : Int)))), (13, .sv (.one (I 0)))], [.box [I t.fIn, I t.fOut, I t.fStart, LS intT t.fFirst, LS (lsT intT) t.fNext, LS (lsT (lsT intT)) t.fSays, LS (lsT intT) t.fLast] 33 false]⟩ (by kernel_rfl) ?_
  refine WL.nil ?_
  refine En.block ?_
  refine En.rowNil 8 1 3 intT (by rfl) (by rfl) ?_
  obtain ⟨Inv, mu, h0, hI⟩ := h
  refine En.loop (σ := Int × Int × (List Int)) (fun zz => Inv zz.1 zz.2.1 zz.2.2) (fun zz => mu zz.1 zz.2.1 zz.2.2) (fun zz => ⟨[(1, .sv (.one (I zz.1))), (3, .sv (.one (.ptr 0 0))), (8, .sv (.one (.own 1))), (11, .sv (.one (LS intT w))), (12, .sv (.one (I (w.length : Int)))), (13, .sv (.one (I zz.2.1)))], [.box [I t.fIn, I t.fOut, I t.fStart, LS intT t.fFirst, LS (lsT intT) t.fNext, LS (lsT (lsT intT)) t.fSays, LS (lsT intT) t.fLast] 33 false, rowI 3 intT zz.2.2]⟩) (q, 0, ([] : (List Int))) h0 (sub_ok (by kernel_rfl)) ?_
  rintro ⟨x1, x13, l1⟩ h
  replace h := hI _ _ _ h
  show En c ⟨[(1, .sv (.one (I x1))), (3, .sv (.one (.ptr 0 0))), (8, .sv (.one (.own 1))), (11, .sv (.one (LS intT w))), (12, .sv (.one (I (w.length : Int)))), (13, .sv (.one (I x13)))], [.box [I t.fIn, I t.fOut, I t.fStart, LS intT t.fFirst, LS (lsT intT) t.fNext, LS (lsT (lsT intT)) t.fSays, LS (lsT intT) t.fLast] 33 false, rowI 3 intT l1]⟩ _
  refine En.seq ?_
  refine En.region ?_
  refine WL.run ht hn 1 ⟨[(1, .sv (.one (I x1))), (3, .sv (.one (.ptr 0 0))), (8, .sv (.one (.own 1))), (11, .sv (.one (LS intT w))), (12, .sv (.one (I (w.length : Int)))), (13, .sv (.one (I x13))), (14, .sv (.one (B (decide (x13 < (w.length : Int))))))], [.box [I t.fIn, I t.fOut, I t.fStart, LS intT t.fFirst, LS (lsT intT) t.fNext, LS (lsT (lsT intT)) t.fSays, LS (lsT intT) t.fLast] 33 false, rowI 3 intT l1]⟩ (by kernel_rfl) ?_
  refine WL.nil ?_
  refine En.seq ?_
  refine En.cond (b := (decide (x13 < (w.length : Int)))) (by kernel_rfl) (fun hb => ?_) (fun hb => ?_)
  · replace h := h.1 hb
    refine En.skip ?_
    refine En.seq ?_
    refine En.block ?_
    refine En.seq ?_
    refine En.region ?_
    obtain ⟨e, he, h⟩ := h
    refine WL.val hn (by rfl) (val_index (T := intT) (l := w) (i := x13) ht rfl (by rfl) (by rfl) (by rfl) (by rfl) (by rfl) (by rfl) he) (by rfl) ?_
    refine WL.val hn (by rfl) (val_load (s := .one (I e)) ht rfl (by rfl) (by rfl) (by rfl) (by rfl) (by rfl)) (by rfl) ?_
    refine WL.run ht hn 1 ⟨[(1, .sv (.one (I x1))), (3, .sv (.one (.ptr 0 0))), (8, .sv (.one (.own 1))), (10, .sv (.one (I e))), (11, .sv (.one (LS intT w))), (12, .sv (.one (I (w.length : Int)))), (13, .sv (.one (I x13)))], [.box [I t.fIn, I t.fOut, I t.fStart, LS intT t.fFirst, LS (lsT intT) t.fNext, LS (lsT (lsT intT)) t.fSays, LS (lsT intT) t.fLast] 33 false, rowI 3 intT l1]⟩ (by kernel_rfl) ?_
    refine WL.nil ?_
    refine En.seq ?_
    refine En.region ?_
    refine WL.run ht hn 4 ⟨[(1, .sv (.one (I x1))), (3, .sv (.one (.ptr 0 0))), (10, .sv (.one (I e))), (11, .sv (.one (LS intT w))), (12, .sv (.one (I (w.length : Int)))), (13, .sv (.one (I x13))), (17, .sv (.one (.own 1))), (19, .sv (.one (LS (lsT (lsT intT)) t.fSays))), (20, .sv (.one (I x1)))], [.box [I t.fIn, I t.fOut, I t.fStart, LS intT t.fFirst, LS (lsT intT) t.fNext, LS (lsT (lsT intT)) t.fSays, LS (lsT intT) t.fLast] 33 false, rowI 3 intT l1]⟩ (by kernel_rfl) ?_
    obtain ⟨e_2, he_2, h⟩ := h
    refine WL.val hn (by rfl) (val_index (T := (lsT (lsT intT))) (l := t.fSays) (i := x1) ht rfl (by rfl) (by rfl) (by rfl) (by rfl) (by rfl) (by rfl) he_2) (by rfl) ?_
    refine WL.val hn (by rfl) (val_load (s := .one (LS (lsT intT) e_2)) ht rfl (by rfl) (by rfl) (by rfl) (by rfl) (by rfl)) (by rfl) ?_
    refine WL.run ht hn 1 ⟨[(1, .sv (.one (I x1))), (3, .sv (.one (.ptr 0 0))), (10, .sv (.one (I e))), (11, .sv (.one (LS intT w))), (12, .sv (.one (I (w.length : Int)))), (13, .sv (.one (I x13))), (17, .sv (.one (.own 1))), (22, .sv (.one (LS (lsT intT) e_2))), (23, .sv (.one (I e)))], [.box [I t.fIn, I t.fOut, I t.fStart, LS intT t.fFirst, LS (lsT intT) t.fNext, LS (lsT (lsT intT)) t.fSays, LS (lsT intT) t.fLast] 33 false, rowI 3 intT l1]⟩ (by kernel_rfl) ?_
    obtain ⟨e_3, he_3, h⟩ := h
    refine WL.val hn (by rfl) (val_index (T := (lsT intT)) (l := e_2) (i := e) ht rfl (by rfl) (by rfl) (by rfl) (by rfl) (by rfl) (by rfl) he_3) (by rfl) ?_
    refine WL.val hn (by rfl) (val_load (s := .one (LS intT e_3)) ht rfl (by rfl) (by rfl) (by rfl) (by rfl) (by rfl)) (by rfl) ?_
    have hp := h.1
    replace h := h.2
    refine WL.mt (S2 := ⟨[(1, .sv (.one (I x1))), (3, .sv (.one (.ptr 0 0))), (10, .sv (.one (I e))), (11, .sv (.one (LS intT w))), (12, .sv (.one (I (w.length : Int)))), (13, .sv (.one (I x13))), (22, .sv (.one (LS (lsT intT) e_2))), (23, .sv (.one (I e))), (24, .sv (.one (.pe (svR (.one (LS intT e_3))) 1))), (25, .sv (.one (LS intT e_3)))], [.box [I t.fIn, I t.fOut, I t.fStart, LS intT t.fFirst, LS (lsT intT) t.fNext, LS (lsT (lsT intT)) t.fSays, LS (lsT intT) t.fLast] 33 false, rowI 3 intT l1]⟩) (K := [1]) (p := some (1, rowI 3 intT (l1 ++ e_3))) hn (by rfl) (mt_append (T := intT) (l := l1) (es := e_3) ht rfl (by rfl) (by rfl) (by rfl) (by rfl) (by decide) (by rfl) (by rfl) (srcLS (T := intT) (es := e_3) (fun _ h => by cases h) (by decide) (by rfl)) (by exact hp) (by exact hp.le (by decide))) (by kernel_rfl) (by rfl) (by rfl) (by rfl) ?_
    refine WL.run ht hn 1 ⟨[(1, .sv (.one (I x1))), (3, .sv (.one (.ptr 0 0))), (8, .sv (.one (.own 1))), (10, .sv (.one (I e))), (11, .sv (.one (LS intT w))), (12, .sv (.one (I (w.length : Int)))), (13, .sv (.one (I x13)))], [.box [I t.fIn, I t.fOut, I t.fStart, LS intT t.fFirst, LS (lsT intT) t.fNext, LS (lsT (lsT intT)) t.fSays, LS (lsT intT) t.fLast] 33 false, rowI 3 intT (l1 ++ e_3)]⟩ (by kernel_rfl) ?_
    refine WL.nil ?_
    refine En.region ?_
    refine WL.run ht hn 3 ⟨[(3, .sv (.one (.ptr 0 0))), (8, .sv (.one (.own 1))), (10, .sv (.one (I e))), (11, .sv (.one (LS intT w))), (12, .sv (.one (I (w.length : Int)))), (13, .sv (.one (I x13))), (28, .sv (.one (LS (lsT intT) t.fNext))), (29, .sv (.one (I x1)))], [.box [I t.fIn, I t.fOut, I t.fStart, LS intT t.fFirst, LS (lsT intT) t.fNext, LS (lsT (lsT intT)) t.fSays, LS (lsT intT) t.fLast] 33 false, rowI 3 intT (l1 ++ e_3)]⟩ (by kernel_rfl) ?_
    obtain ⟨e_4, he_4, h⟩ := h
    refine WL.val hn (by rfl) (val_index (T := (lsT intT)) (l := t.fNext) (i := x1) ht rfl (by rfl) (by rfl) (by rfl) (by rfl) (by rfl) (by rfl) he_4) (by rfl) ?_
    refine WL.val hn (by rfl) (val_load (s := .one (LS intT e_4)) ht rfl (by rfl) (by rfl) (by rfl) (by rfl) (by rfl)) (by rfl) ?_
    refine WL.run ht hn 1 ⟨[(3, .sv (.one (.ptr 0 0))), (8, .sv (.one (.own 1))), (11, .sv (.one (LS intT w))), (12, .sv (.one (I (w.length : Int)))), (13, .sv (.one (I x13))), (31, .sv (.one (LS intT e_4))), (32, .sv (.one (I e)))], [.box [I t.fIn, I t.fOut, I t.fStart, LS intT t.fFirst, LS (lsT intT) t.fNext, LS (lsT (lsT intT)) t.fSays, LS (lsT intT) t.fLast] 33 false, rowI 3 intT (l1 ++ e_3)]⟩ (by kernel_rfl) ?_
    obtain ⟨e_5, he_5, h⟩ := h
    refine WL.val hn (by rfl) (val_index (T := intT) (l := e_4) (i := e) ht rfl (by rfl) (by rfl) (by rfl) (by rfl) (by rfl) (by rfl) he_5) (by rfl) ?_
    refine WL.val hn (by rfl) (val_load (s := .one (I e_5)) ht rfl (by rfl) (by rfl) (by rfl) (by rfl) (by rfl)) (by rfl) ?_
    refine WL.run ht hn 1 ⟨[(1, .sv (.one (I e_5))), (3, .sv (.one (.ptr 0 0))), (8, .sv (.one (.own 1))), (11, .sv (.one (LS intT w))), (12, .sv (.one (I (w.length : Int)))), (13, .sv (.one (I x13)))], [.box [I t.fIn, I t.fOut, I t.fStart, LS intT t.fFirst, LS (lsT intT) t.fNext, LS (lsT (lsT intT)) t.fSays, LS (lsT intT) t.fLast] 33 false, rowI 3 intT (l1 ++ e_3)]⟩ (by kernel_rfl) ?_
    refine WL.nil ?_
    refine En.region ?_
    refine WL.run ht hn 2 ⟨[(1, .sv (.one (I e_5))), (3, .sv (.one (.ptr 0 0))), (8, .sv (.one (.own 1))), (11, .sv (.one (LS intT w))), (12, .sv (.one (I (w.length : Int)))), (13, .sv (.one (I (wr (x13 + 1)))))], [.box [I t.fIn, I t.fOut, I t.fStart, LS intT t.fFirst, LS (lsT intT) t.fNext, LS (lsT (lsT intT)) t.fSays, LS (lsT intT) t.fLast] 33 false, rowI 3 intT (l1 ++ e_3)]⟩ (by kernel_rfl) ?_
    refine WL.nil ?_
    exact En.at (I := fun zz => Inv zz.1 zz.2.1 zz.2.2 ∧ mu zz.1 zz.2.1 zz.2.2 < mu x1 x13 l1) (T := fun zz => ⟨[(1, .sv (.one (I zz.1))), (3, .sv (.one (.ptr 0 0))), (8, .sv (.one (.own 1))), (11, .sv (.one (LS intT w))), (12, .sv (.one (I (w.length : Int)))), (13, .sv (.one (I zz.2.1)))], [.box [I t.fIn, I t.fOut, I t.fStart, LS intT t.fFirst, LS (lsT intT) t.fNext, LS (lsT (lsT intT)) t.fSays, LS (lsT intT) t.fLast] 33 false, rowI 3 intT zz.2.2]⟩) (e_5, (wr (x13 + 1)), (l1 ++ e_3)) h (by kernel_rfl)
  · replace h := h.2 hb
    refine En.exit rfl ?_
    refine En.seq ?_
    refine En.region ?_
    refine WL.run ht hn 4 ⟨[(6, .sv (.one (.own 1))), (7, .sv (.one (I x1)))], [.gone, rowI 3 intT l1]⟩ (by kernel_rfl) ?_
    refine WL.nil ?_
    refine En.ret ?_
    refine En.seal (T := intT) (l := l1) (e := 3) 1 rfl ?_
    exact En.back ht (l1, x1) h (by kernel_rfl) rfl
theorem en58 : ∀ args w, (callFunc 58 args).run Try.prog w = .ok (.enter 58 args) w := enters_of Try.func58 (by kernel_rfl) rfl
theorem idx_nat {α : Type} {l : List α} {s : Nat} (z : α) (h : s < l.length) : idx l (s : Int) = some (l.getD s z) := by
  have := idx_of (l := l) (i := (s : Int)) z (by omega) (by omega)
  rwa [Int.toNat_natCast] at this
def RunPre (t : ApiTrans) (q : Int) (w : List Int) : Prop := TrOk t ∧ ShortT t 1000 ∧ 0 ≤ q ∧ q < (t.fNext.length : Int) ∧ LetOk t.fIn w ∧ w.length ≤ 1000
def runI (t : ApiTrans) (q : Int) (w : List Int) : List Int × Int := ((runT t q.toNat w).1, ((runT t q.toNat w).2 : Int))
theorem runT_snoc {t : ApiTrans} {q k : Nat} {w : List Int} (h : k < w.length) : runT t q (w.take (k + 1)) = ((runT t q (w.take k)).1 ++ syT t (runT t q (w.take k)).2 w[k].toNat, nxT t (runT t q (w.take k)).2 w[k].toNat) := by
  rw [List.take_add_one, List.getElem?_eq_getElem h]
  show runT t q (w.take k ++ [w[k]]) = _
  rw [runT_app]
  simp [runT]
theorem runT_len {t : ApiTrans} (h : TrOk t) {B : Nat} (hB : ShortT t B) : ∀ {x : List Int} {q : Nat}, q < t.fNext.length → LetOk t.fIn x → (runT t q x).1.length ≤ x.length * B
  | [], q, _, _ => by simp [runT]
  | b :: x, q, hq, hx => by
    have hb := hx b List.mem_cons_self
    have ha : b.toNat < t.fIn.toNat := by omega
    have h1 := hB.says q b.toNat hq ha
    have h2 := runT_len h hB (x := x) (q := nxT t q b.toNat) (h.nx hq ha).1 fun c hc => hx c (List.mem_cons_of_mem _ hc)
    show (syT t q b.toNat ++ (runT t (nxT t q b.toNat) x).1).length ≤ (x.length + 1) * B
    rw [List.length_append, Nat.succ_mul]
    omega
theorem trRun_ct (t : ApiTrans) (q : Int) (w : (List Int)) (hp : RunPre t q w)  : Ct 58 [.sv (.agg [I t.fIn, I t.fOut, I t.fStart, LS intT t.fFirst, LS (lsT intT) t.fNext, LS (lsT (lsT intT)) t.fSays, LS (lsT intT) t.fLast]), .sv (.one (I q)), .sv (.one (LS intT w))] [] (fun (_ : Unit) => True) (fun _ => .tup [.one (LS intT (runI t q w).1), .one (I (runI t q w).2)]) := by
  refine (trRun_walk t q w (fun res_ => res_ = (runI t q w)) ?_).fun
  intro _ _ _ _ _
  obtain ⟨hok, hsh, hq0, hq1, hw, hwl⟩ := hp
  obtain ⟨q, rfl⟩ := Int.eq_ofNat_of_zero_le hq0
  have hqn : q < t.fNext.length := by omega
  refine ⟨fun x i l => ∃ k : Nat, i = k ∧ k ≤ w.length ∧ l = (runT t q (w.take k)).1 ∧ x = ((runT t q (w.take k)).2 : Int), fun _ i _ => w.length - i.toNat, ⟨0, rfl, Nat.zero_le _, by simp [runT], by simp [runT]⟩, ?_⟩
  rintro x i l ⟨k, rfl, hk, rfl, rfl⟩
  have hwk : LetOk t.fIn (w.take k) := fun b hb => hw b (List.mem_of_mem_take hb)
  have hs := runT_in hok hqn hwk
  have hl := runT_len hok hsh hqn hwk
  refine ⟨fun hb => ?_, fun hb => ?_⟩
  · have hlt := dlt hb
    have hb := hw _ (List.getElem_mem hlt)
    have ha : w[k].toNat < t.fIn.toNat := by omega
    have hr := hok.row hs
    have hsr := hok.srow hs
    have hn := hok.nx hs ha
    have hsy := hsh.says _ _ hs ha
    have hsl := hok.says
    refine ⟨_, idx_at hlt, _, idx_nat [] (by omega), _, idx_of [] (by omega) (by omega), capOk_of ?_, _, idx_nat [] (by omega), _, idx_of 0 (by omega) (by omega), ⟨k + 1, wsucc (by omega), hlt, ?_, ?_⟩, mu_up hlt (by omega)⟩
    · show ((runT t q (w.take k)).1.length + (syT t ((runT t q (w.take k)).2) w[k].toNat).length) * 8 ≤ _
      rw [List.length_take] at hl
      have : min k w.length * 1000 ≤ 1000 * 1000 := Nat.mul_le_mul_right _ (by omega)
      omega
    · rw [runT_snoc hlt]
      rfl
    · rw [runT_snoc hlt]
      exact hn.2
  · rw [List.take_of_length_le (dge hb)]
    rfl
def trWhole_vc (t : ApiTrans) (w : (List Int)) (Q : (List Int) → Prop) : Prop :=
  t.fFirst.length ≤ 9223372036854775807 →
  t.fNext.length ≤ 9223372036854775807 →
  t.fSays.length ≤ 9223372036854775807 →
  t.fLast.length ≤ 9223372036854775807 →
  w.length ≤ 9223372036854775807 →
  ((RunPre t t.fStart w) ∧
  ∃ e, idx t.fLast (runI t t.fStart w).2 = some e ∧
  (([t.fFirst, (runI t t.fStart w).1, e] : (List (List Int))).length ≤ 1000000 ∧ ([t.fFirst, (runI t t.fStart w).1, e] : (List (List Int))).flatten.length ≤ 1000000) ∧
  Q (([t.fFirst, (runI t t.fStart w).1, e] : (List (List Int))).flatten))
theorem trWhole_walk (t : ApiTrans) (w : (List Int)) (Q : (List Int) → Prop) (h : trWhole_vc t w Q) : Ct 61 [.sv (.agg [I t.fIn, I t.fOut, I t.fStart, LS intT t.fFirst, LS (lsT intT) t.fNext, LS (lsT (lsT intT)) t.fSays, LS (lsT intT) t.fLast]), .sv (.one (LS intT w))] [] Q (fun (r : (List Int)) => .sv (.one (LS intT r))) := by
  have ht := tab_ok
  refine Ct.body Try.func61 rfl rfl rfl rfl (fun c hn => ?_)
  unfold trWhole_vc at h
  refine En.lenA 0 3 (by rfl) (by rfl) (fun hl => ?_)
  replace h := h hl
  clear hl
  refine En.lenA 0 4 (by rfl) (by rfl) (fun hl => ?_)
  replace h := h hl
  clear hl
  refine En.lenA 0 5 (by rfl) (by rfl) (fun hl => ?_)
  replace h := h hl
  clear hl
  refine En.lenA 0 6 (by rfl) (by rfl) (fun hl => ?_)
  replace h := h hl
  clear hl
  refine En.lenL 1 (by rfl) (fun hl => ?_)
  replace h := h hl
  clear hl
  refine En.seq ?_
  refine En.region ?_
  refine WL.run ht hn 2 ⟨[(1, .sv (.one (LS intT w))), (2, .sv (.one (.ptr 0 0)))], [.box [I t.fIn, I t.fOut, I t.fStart, LS intT t.fFirst, LS (lsT intT) t.fNext, LS (lsT (lsT intT)) t.fSays, LS (lsT intT) t.fLast] 33 false]⟩ (by kernel_rfl) ?_
  refine WL.nil ?_
  refine En.seq ?_
  refine En.region ?_
  refine WL.run ht hn 4 ⟨[(2, .sv (.one (.ptr 0 0))), (8, .sv (.agg [I t.fIn, I t.fOut, I t.fStart, LS intT t.fFirst, LS (lsT intT) t.fNext, LS (lsT (lsT intT)) t.fSays, LS (lsT intT) t.fLast])), (10, .sv (.one (I t.fStart))), (11, .sv (.one (LS intT w)))], [.box [I t.fIn, I t.fOut, I t.fStart, LS intT t.fFirst, LS (lsT intT) t.fNext, LS (lsT (lsT intT)) t.fSays, LS (lsT intT) t.fLast] 33 false]⟩ (by kernel_rfl) ?_
  have hp := h.1
  replace h := h.2
  refine WL.mt0 (K := []) (p := none) hn (by rfl) (mt_call (trRun_ct t t.fStart w hp) en58 (caps := []) [] rfl (by rfl) (by kernel_rfl) (by kernel_rfl) (by rfl) (by rfl) (by rfl)) (by rfl) (by rfl) (by rfl) ?_
  refine WL.run ht hn 5 ⟨[(2, .sv (.one (.ptr 0 0))), (5, .sv (.one (LS intT (runI t t.fStart w).1))), (6, .sv (.one (I (runI t t.fStart w).2)))], [.box [I t.fIn, I t.fOut, I t.fStart, LS intT t.fFirst, LS (lsT intT) t.fNext, LS (lsT (lsT intT)) t.fSays, LS (lsT intT) t.fLast] 33 false]⟩ (by kernel_rfl) ?_
  refine WL.nil ?_
  refine En.seq ?_
  obtain ⟨e, he, h⟩ := h
  have hp_2 := h.1
  replace h := h.2
  refine En.regionA ⟨[(2, .sv (.one (.ptr 0 0))), (5, .sv (.one (LS intT (runI t t.fStart w).1))), (6, .sv (.one (I (runI t t.fStart w).2)))], [.sv (.one (.ptr 0 3)), .sv (.one (LS intT t.fFirst)), .sv (.one (LS intT (runI t t.fStart w).1)), .sv (.one (.ptr 0 6)), .sv (.one (LS (lsT intT) t.fLast)), .sv (.one (I (runI t t.fStart w).2)), .sv (.one (.pe (svR (.one (LS intT e))) 1)), .sv (.one (LS intT e)), .sv (.one (.own 1)), .sv (.one (.own 2)), .sv (.one (.own 2))], [⟨.box [I t.fIn, I t.fOut, I t.fStart, LS intT t.fFirst, LS (lsT intT) t.fNext, LS (lsT (lsT intT)) t.fSays, LS (lsT intT) t.fLast] 33 false, none, none, none⟩, ⟨rowI 23 (lsT intT) ([t.fFirst, (runI t t.fStart w).1, e] : (List (List Int))), some 8, none, none⟩, ⟨rowI 3 intT (([t.fFirst, (runI t t.fStart w).1, e] : (List (List Int))).flatten), some 9, none, none⟩]⟩ ⟨[(4, .sv (.one (.own 2)))], [.gone, .gone, rowI 3 intT (([t.fFirst, (runI t t.fStart w).1, e] : (List (List Int))).flatten)]⟩ (by kernel_rfl) hn (by kernel_rfl) (by rfl) (by kernel_rfl) ?_ (by kernel_rfl) ?_
  · exact ⟨.mt ⟨[(2, .sv (.one (.ptr 0 0)))], []⟩ [] none (by kernel_rfl) (by rfl) (mt_ev ht (by kernel_rfl)) rfl rfl rfl rfl,
    .mt ⟨[(15, .sv (.one (.ptr 0 3)))], [.box [I t.fIn, I t.fOut, I t.fStart, LS intT t.fFirst, LS (lsT intT) t.fNext, LS (lsT (lsT intT)) t.fSays, LS (lsT intT) t.fLast] 33 false]⟩ [] none (by kernel_rfl) (by rfl) (mt_ev ht (by kernel_rfl)) rfl rfl rfl rfl,
    .mt ⟨[(5, .sv (.one (LS intT (runI t t.fStart w).1)))], []⟩ [] none (by kernel_rfl) (by rfl) (mt_ev ht (by kernel_rfl)) rfl rfl rfl rfl,
    .mt ⟨[(2, .sv (.one (.ptr 0 0)))], []⟩ [] none (by kernel_rfl) (by rfl) (mt_ev ht (by kernel_rfl)) rfl rfl rfl rfl,
    .mt ⟨[(18, .sv (.one (.ptr 0 6)))], [.box [I t.fIn, I t.fOut, I t.fStart, LS intT t.fFirst, LS (lsT intT) t.fNext, LS (lsT (lsT intT)) t.fSays, LS (lsT intT) t.fLast] 33 false]⟩ [] none (by kernel_rfl) (by rfl) (mt_ev ht (by kernel_rfl)) rfl rfl rfl rfl,
    .mt ⟨[(6, .sv (.one (I (runI t t.fStart w).2)))], []⟩ [] none (by kernel_rfl) (by rfl) (mt_ev ht (by kernel_rfl)) rfl rfl rfl rfl,
    .mt ⟨[(19, .sv (.one (LS (lsT intT) t.fLast))), (20, .sv (.one (I (runI t t.fStart w).2)))], []⟩ [] none (by kernel_rfl) (by rfl) (mt_val (val_index (T := (lsT intT)) (l := t.fLast) (i := (runI t t.fStart w).2) ht rfl (by rfl) (by rfl) (by rfl) (by rfl) (by rfl) (by rfl) he)) rfl rfl rfl rfl,
    .mt ⟨[(21, .sv (.one (.pe (svR (.one (LS intT e))) 1)))], []⟩ [] none (by kernel_rfl) (by rfl) (mt_val (val_load (s := .one (LS intT e)) ht rfl (by rfl) (by rfl) (by rfl) (by rfl) (by rfl))) rfl rfl rfl rfl,
    .mt ⟨[(16, .sv (.one (LS intT t.fFirst))), (17, .sv (.one (LS intT (runI t t.fStart w).1))), (22, .sv (.one (LS intT e)))], []⟩ [] (some 1) (by kernel_rfl) (by rfl) (mt_lit (T := (lsT intT)) ([t.fFirst, (runI t t.fStart w).1, e] : (List (List Int))) (mt_bsl 1 (r := cellsOf (lsT intT) ([t.fFirst, (runI t t.fStart w).1, e] : (List (List Int)))) ht rfl (by rfl) (by rfl) (by rfl) (by kernel_rfl) (by rfl)) (fun _ h => by cases h) (fun _ => rfl) (fun _ => rfl) (by rfl) (Nat.le_of_ble_eq_true rfl)) rfl rfl rfl rfl,
    .mt ⟨[(23, .sv (.one (.own 1)))], [.gone, rowI 23 (lsT intT) ([t.fFirst, (runI t t.fStart w).1, e] : (List (List Int)))]⟩ [] (some 2) (by kernel_rfl) (by rfl) (mt_lendI (T := (lsT intT)) (l := ([t.fFirst, (runI t t.fStart w).1, e] : (List (List Int)))) 1 (by rfl) (plain_row fun _ => rfl) (mt_callI 2 (concatI_ct ([t.fFirst, (runI t t.fStart w).1, e] : (List (List Int))) hp_2) en59 (caps := []) [] rfl rfl (by rfl) (by kernel_rfl) (by kernel_rfl) (by rfl) (by rfl))) rfl rfl rfl rfl,
    .mt ⟨[(24, .sv (.one (.own 2)))], []⟩ [] none (by kernel_rfl) (by rfl) (mt_ev ht (by kernel_rfl)) rfl rfl rfl rfl,
    trivial⟩
  · refine En.ret ?_
    refine En.seal (T := intT) (l := (([t.fFirst, (runI t t.fStart w).1, e] : (List (List Int))).flatten)) (e := 3) 2 rfl ?_
    exact En.back ht (([t.fFirst, (runI t t.fStart w).1, e] : (List (List Int))).flatten) h (by kernel_rfl) rfl
theorem en61 : ∀ args w, (callFunc 61 args).run Try.prog w = .ok (.enter 61 args) w := enters_of Try.func61 (by kernel_rfl) rfl
def WholePre (t : ApiTrans) (w : List Int) : Prop := TrOk t ∧ ShortT t 100 ∧ LetOk t.fIn w ∧ w.length ≤ 1000
def wholeR (t : ApiTrans) (w : List Int) : List Int := funT t (nats w)
theorem ShortT.mono {t : ApiTrans} {A B : Nat} (h : ShortT t A) (hl : A ≤ B) : ShortT t B := ⟨Nat.le_trans h.first hl, fun q hq => Nat.le_trans (h.last q hq) hl, fun q a hq ha => Nat.le_trans (h.says q a hq ha) hl⟩
theorem trWhole_ct (t : ApiTrans) (w : (List Int)) (hp : WholePre t w)  : Ct 61 [.sv (.agg [I t.fIn, I t.fOut, I t.fStart, LS intT t.fFirst, LS (lsT intT) t.fNext, LS (lsT (lsT intT)) t.fSays, LS (lsT intT) t.fLast]), .sv (.one (LS intT w))] [] (fun (_ : Unit) => True) (fun _ => .sv (.one (LS intT (wholeR t w)))) := by
  refine (trWhole_walk t w (fun res_ => res_ = (wholeR t w)) ?_).fun
  intro _ _ _ _ _
  obtain ⟨hok, hsh, hw, hwl⟩ := hp
  have hst := hok.start
  obtain ⟨q, hq⟩ := Int.eq_ofNat_of_zero_le hst.1
  have hqn : q < t.fNext.length := by omega
  have hs := runT_in hok hqn hw
  have hl := runT_len hok hsh hqn hw
  have hlast := hsh.last _ hs
  have hf := hsh.first
  have hll := hok.last
  have e2 : (runI t t.fStart w).2 = ((runT t q w).2 : Int) := by unfold runI; rw [hq]; rfl
  have e1 : (runI t t.fStart w).1 = (runT t q w).1 := by unfold runI; rw [hq]; rfl
  refine ⟨⟨hok, hsh.mono (by decide), hst.1, hst.2, hw, hwl⟩, laT t (runT t q w).2, ?_, ⟨by simp, ?_⟩, ?_⟩
  · rw [e2]
    exact idx_of [] (by omega) (by omega)
  · rw [e1]
    simp only [List.flatten_cons, List.flatten_nil, List.length_append, List.append_nil]
    have : w.length * 100 ≤ 1000 * 100 := Nat.mul_le_mul_right _ hwl
    omega
  · show _ = funT t (nats w)
    unfold funT
    rw [e1, hq, Int.toNat_natCast, runT_out]
    simp
def trCommon_vc (a : (List Int)) (b : (List Int)) (Q : (List Int) → Prop) : Prop :=
  a.length ≤ 9223372036854775807 →
  b.length ≤ 9223372036854775807 →
  (∃ (Inv : Int → Prop) (mu : Int → Nat), Inv 0 ∧
  ∀ (x5 : Int) , Inv x5 → (∃ J : Bool → Prop, (IfP (decide (x5 < (a.length : Int))) (IfP (decide (x5 < (b.length : Int))) (∃ e, idx a x5 = some e ∧
  ∃ e_2, idx b x5 = some e_2 ∧
  J (e == e_2)) (J false)) (J false)) ∧
  (∀ (x26 : Bool), J x26 → IfP x26 ((Inv (wr (x5 + 1)) ∧ mu (wr (x5 + 1)) < mu x5)) (partOk 0 x5 a.length ∧
  Q ((a.take (x5 : Int).toNat).drop (0 : Int).toNat)))))
theorem trCommon_walk (a : (List Int)) (b : (List Int)) (Q : (List Int) → Prop) (h : trCommon_vc a b Q) : Ct 188 [.sv (.one (LS intT a)), .sv (.one (LS intT b))] [] Q (fun (r : (List Int)) => .sv (.one (LS intT r))) := by
  have ht := tab_ok
  refine Ct.body Try.func188 rfl rfl rfl rfl (fun c hn => ?_)
  unfold trCommon_vc at h
  refine En.lenL 0 (by rfl) (fun hl => ?_)
  replace h := h hl
  clear hl
  refine En.lenL 1 (by rfl) (fun hl => ?_)
  replace h := h hl
  clear hl
  refine En.seq ?_
  refine En.region ?_
  refine WL.run ht hn 1 ⟨[(0, .sv (.one (LS intT a))), (1, .sv (.one (LS intT b)))], []⟩ (by kernel_rfl) ?_
  refine WL.nil ?_
  refine En.seq ?_
  refine En.region ?_
  refine WL.run ht hn 1 ⟨[(0, .sv (.one (LS intT a))), (1, .sv (.one (LS intT b))), (5, .sv (.one (I 0)))], []⟩ (by kernel_rfl) ?_
  refine WL.nil ?_
  refine En.seq ?_
  refine En.block ?_
  obtain ⟨Inv, mu, h0, hI⟩ := h
  refine En.loop (σ := Int) (fun zz => Inv zz) (fun zz => mu zz) (fun zz => ⟨[(0, .sv (.one (LS intT a))), (1, .sv (.one (LS intT b))), (5, .sv (.one (I zz)))], []⟩) 0 h0 (sub_ok (by kernel_rfl)) ?_
  intro x5 h
  replace h := hI _ h
  show En c ⟨[(0, .sv (.one (LS intT a))), (1, .sv (.one (LS intT b))), (5, .sv (.one (I x5)))], []⟩ _
  refine En.seq ?_
  obtain ⟨J, h, hJ⟩ := h
  refine En.seqJ (σ := Bool) (fun zz => J zz) (fun zz => ⟨[(0, .sv (.one (LS intT a))), (1, .sv (.one (LS intT b))), (5, .sv (.one (I x5))), (26, .sv (.one (B zz)))], []⟩) ?_ ?_
  · refine En.regionS (by kernel_rfl) (by kernel_rfl) ?_
    refine SL.run ht hn 5 ⟨[(0, .sv (.one (LS intT a))), (1, .sv (.one (LS intT b))), (5, .sv (.one (I x5))), (6, .sv (.one (I x5))), (7, .sv (.one (LS intT a))), (8, .sv (.one (I (a.length : Int)))), (9, .sv (.one (B (decide (x5 < (a.length : Int)))))), (10, .sv (.one (B (decide (x5 < (a.length : Int))))))], []⟩ (by kernel_rfl) ?_
    refine splitB (decide (x5 < (a.length : Int))) (fun hb => ?_) (fun hb => ?_)
    · replace h := h.1 hb
      refine SL.setB 10 hb (by kernel_rfl) ?_
      refine SL.run ht hn 6 ⟨[(0, .sv (.one (LS intT a))), (1, .sv (.one (LS intT b))), (5, .sv (.one (I x5))), (6, .sv (.one (I x5))), (7, .sv (.one (LS intT a))), (8, .sv (.one (I (a.length : Int)))), (9, .sv (.one (B (decide (x5 < (a.length : Int)))))), (10, .sv (.one (B true))), (11, .sv (.one (I x5))), (12, .sv (.one (LS intT b))), (13, .sv (.one (I (b.length : Int)))), (14, .sv (.one (B (decide (x5 < (b.length : Int)))))), (15, .sv (.one (B (decide (x5 < (b.length : Int)))))), (16, .sv (.one (B (decide (x5 < (b.length : Int))))))], []⟩ (by kernel_rfl) ?_
      refine splitB (decide (x5 < (b.length : Int))) (fun hb => ?_) (fun hb => ?_)
      · replace h := h.1 hb
        refine SL.setB 16 hb (by kernel_rfl) ?_
        refine SL.run ht hn 2 ⟨[(0, .sv (.one (LS intT a))), (1, .sv (.one (LS intT b))), (5, .sv (.one (I x5))), (6, .sv (.one (I x5))), (7, .sv (.one (LS intT a))), (8, .sv (.one (I (a.length : Int)))), (9, .sv (.one (B (decide (x5 < (a.length : Int)))))), (10, .sv (.one (B true))), (11, .sv (.one (I x5))), (12, .sv (.one (LS intT b))), (13, .sv (.one (I (b.length : Int)))), (14, .sv (.one (B (decide (x5 < (b.length : Int)))))), (15, .sv (.one (B (decide (x5 < (b.length : Int)))))), (16, .sv (.one (B true))), (17, .sv (.one (LS intT a))), (18, .sv (.one (I x5)))], []⟩ (by kernel_rfl) ?_
        obtain ⟨e, he, h⟩ := h
        refine SL.val hn (by rfl) (val_index (T := intT) (l := a) (i := x5) ht rfl (by rfl) (by rfl) (by rfl) (by rfl) (by rfl) (by rfl) he) (by rfl) ?_
        refine SL.val hn (by rfl) (val_load (s := .one (I e)) ht rfl (by rfl) (by rfl) (by rfl) (by rfl) (by rfl)) (by rfl) ?_
        refine SL.run ht hn 2 ⟨[(0, .sv (.one (LS intT a))), (1, .sv (.one (LS intT b))), (5, .sv (.one (I x5))), (6, .sv (.one (I x5))), (7, .sv (.one (LS intT a))), (8, .sv (.one (I (a.length : Int)))), (9, .sv (.one (B (decide (x5 < (a.length : Int)))))), (10, .sv (.one (B true))), (11, .sv (.one (I x5))), (12, .sv (.one (LS intT b))), (13, .sv (.one (I (b.length : Int)))), (14, .sv (.one (B (decide (x5 < (b.length : Int)))))), (15, .sv (.one (B (decide (x5 < (b.length : Int)))))), (16, .sv (.one (B true))), (17, .sv (.one (LS intT a))), (18, .sv (.one (I x5))), (19, .sv (.one (.pe (svR (.one (I e))) 1))), (20, .sv (.one (I e))), (21, .sv (.one (LS intT b))), (22, .sv (.one (I x5)))], []⟩ (by kernel_rfl) ?_
        obtain ⟨e_2, he_2, h⟩ := h
        refine SL.val hn (by rfl) (val_index (T := intT) (l := b) (i := x5) ht rfl (by rfl) (by rfl) (by rfl) (by rfl) (by rfl) (by rfl) he_2) (by rfl) ?_
        refine SL.val hn (by rfl) (val_load (s := .one (I e_2)) ht rfl (by rfl) (by rfl) (by rfl) (by rfl) (by rfl)) (by rfl) ?_
        refine SL.run ht hn 2 ⟨[(0, .sv (.one (LS intT a))), (1, .sv (.one (LS intT b))), (5, .sv (.one (I x5))), (6, .sv (.one (I x5))), (7, .sv (.one (LS intT a))), (8, .sv (.one (I (a.length : Int)))), (9, .sv (.one (B (decide (x5 < (a.length : Int)))))), (10, .sv (.one (B true))), (11, .sv (.one (I x5))), (12, .sv (.one (LS intT b))), (13, .sv (.one (I (b.length : Int)))), (14, .sv (.one (B (decide (x5 < (b.length : Int)))))), (15, .sv (.one (B (decide (x5 < (b.length : Int)))))), (16, .sv (.one (B true))), (17, .sv (.one (LS intT a))), (18, .sv (.one (I x5))), (19, .sv (.one (.pe (svR (.one (I e))) 1))), (20, .sv (.one (I e))), (21, .sv (.one (LS intT b))), (22, .sv (.one (I x5))), (23, .sv (.one (.pe (svR (.one (I e_2))) 1))), (24, .sv (.one (I e_2))), (25, .sv (.one (B (e == e_2)))), (26, .sv (.one (B (e == e_2))))], []⟩ (by kernel_rfl) ?_
        refine SL.nil ⟨by kernel_rfl, ?_⟩
        exact En.at (I := fun zz => J zz) (T := fun zz => ⟨[(0, .sv (.one (LS intT a))), (1, .sv (.one (LS intT b))), (5, .sv (.one (I x5))), (26, .sv (.one (B zz)))], []⟩) (e == e_2) h (by kernel_rfl)
      · replace h := h.2 hb
        refine SL.setB 16 hb (by kernel_rfl) ?_
        refine SL.run ht hn 10 ⟨[(0, .sv (.one (LS intT a))), (1, .sv (.one (LS intT b))), (5, .sv (.one (I x5))), (6, .sv (.one (I x5))), (7, .sv (.one (LS intT a))), (8, .sv (.one (I (a.length : Int)))), (9, .sv (.one (B (decide (x5 < (a.length : Int)))))), (10, .sv (.one (B true))), (11, .sv (.one (I x5))), (12, .sv (.one (LS intT b))), (13, .sv (.one (I (b.length : Int)))), (14, .sv (.one (B (decide (x5 < (b.length : Int)))))), (15, .sv (.one (B (decide (x5 < (b.length : Int)))))), (16, .sv (.one (B false))), (17, .tup []), (18, .tup []), (19, .tup []), (20, .tup []), (21, .tup []), (22, .tup []), (23, .tup []), (24, .tup []), (25, .tup []), (26, .sv (.one (B false)))], []⟩ (by kernel_rfl) ?_
        refine SL.nil ⟨by kernel_rfl, ?_⟩
        exact En.at (I := fun zz => J zz) (T := fun zz => ⟨[(0, .sv (.one (LS intT a))), (1, .sv (.one (LS intT b))), (5, .sv (.one (I x5))), (26, .sv (.one (B zz)))], []⟩) false h (by kernel_rfl)
    · replace h := h.2 hb
      refine SL.setB 10 hb (by kernel_rfl) ?_
      refine SL.run ht hn 16 ⟨[(0, .sv (.one (LS intT a))), (1, .sv (.one (LS intT b))), (5, .sv (.one (I x5))), (6, .sv (.one (I x5))), (7, .sv (.one (LS intT a))), (8, .sv (.one (I (a.length : Int)))), (9, .sv (.one (B (decide (x5 < (a.length : Int)))))), (10, .sv (.one (B false))), (11, .tup []), (12, .tup []), (13, .tup []), (14, .tup []), (15, .sv (.one (B false))), (16, .sv (.one (B false))), (17, .tup []), (18, .tup []), (19, .tup []), (20, .tup []), (21, .tup []), (22, .tup []), (23, .tup []), (24, .tup []), (25, .tup []), (26, .sv (.one (B false)))], []⟩ (by kernel_rfl) ?_
      refine SL.nil ⟨by kernel_rfl, ?_⟩
      exact En.at (I := fun zz => J zz) (T := fun zz => ⟨[(0, .sv (.one (LS intT a))), (1, .sv (.one (LS intT b))), (5, .sv (.one (I x5))), (26, .sv (.one (B zz)))], []⟩) false h (by kernel_rfl)
  · intro x26 h
    replace h := hJ _ h
    show En c ⟨[(0, .sv (.one (LS intT a))), (1, .sv (.one (LS intT b))), (5, .sv (.one (I x5))), (26, .sv (.one (B x26)))], []⟩ _
    refine En.cond (b := x26) (by kernel_rfl) (fun hb => ?_) (fun hb => ?_)
    · replace h := h.1 hb
      refine En.skip ?_
      refine En.block ?_
      refine En.region ?_
      refine WL.run ht hn 3 ⟨[(0, .sv (.one (LS intT a))), (1, .sv (.one (LS intT b))), (5, .sv (.one (I (wr (x5 + 1)))))], []⟩ (by kernel_rfl) ?_
      refine WL.nil ?_
      exact En.at (I := fun zz => Inv zz ∧ mu zz < mu x5) (T := fun zz => ⟨[(0, .sv (.one (LS intT a))), (1, .sv (.one (LS intT b))), (5, .sv (.one (I zz)))], []⟩) (wr (x5 + 1)) h (by kernel_rfl)
    · replace h := h.2 hb
      refine En.exit rfl ?_
      refine En.seq ?_
      refine En.region ?_
      refine WL.run ht hn 2 ⟨[(29, .sv (.one (LS intT a))), (30, .sv (.one (I x5)))], []⟩ (by kernel_rfl) ?_
      have hp := h.1
      replace h := h.2
      refine WL.val hn (by rfl) (val_slice (T := intT) (l := a) (lv := 0) (hv := x5) ht rfl (by rfl) (by rfl) (by rfl) (by rfl) (by rfl) (by rfl) (by rfl) hp) (by rfl) ?_
      refine WL.run ht hn 1 ⟨[(4, .sv (.one (LS intT ((a.take (x5 : Int).toNat).drop (0 : Int).toNat))))], []⟩ (by kernel_rfl) ?_
      refine WL.nil ?_
      refine En.ret ?_
      exact En.back ht ((a.take (x5 : Int).toNat).drop (0 : Int).toNat) h (by kernel_rfl) rfl
theorem en188 : ∀ args w, (callFunc 188 args).run Try.prog w = .ok (.enter 188 args) w := enters_of Try.func188 (by kernel_rfl) rfl
def comL : List Int → List Int → List Int
  | x :: a, y :: b => if x = y then x :: comL a b else []
  | _, _ => []
theorem comL_left : ∀ a b : List Int, comL a b <+: a
  | [], _ => by simp [comL]
  | _ :: _, [] => by simp [comL]
  | x :: a, y :: b => by
    rw [comL]
    split
    · exact List.cons_prefix_cons.2 ⟨rfl, comL_left a b⟩
    · exact List.nil_prefix
theorem comL_right : ∀ a b : List Int, comL a b <+: b
  | [], _ => by simp [comL]
  | _ :: _, [] => by simp [comL]
  | x :: a, y :: b => by
    rw [comL]
    split
    · rename_i e
      exact List.cons_prefix_cons.2 ⟨e, comL_right a b⟩
    · exact List.nil_prefix
theorem comL_max : ∀ {p a b : List Int}, p <+: a → p <+: b → p <+: comL a b
  | [], _, _, _, _ => List.nil_prefix
  | z :: p, [], _, h, _ => by simp at h
  | z :: p, _ :: _, [], _, h => by simp at h
  | z :: p, x :: a, y :: b, h1, h2 => by
    obtain ⟨e1, h1⟩ := List.cons_prefix_cons.1 h1
    obtain ⟨e2, h2⟩ := List.cons_prefix_cons.1 h2
    rw [comL, if_pos (e1.symm.trans e2)]
    exact List.cons_prefix_cons.2 ⟨e1, comL_max h1 h2⟩
theorem comL_drop {a b : List Int} : ∀ {k : Nat}, k ≤ a.length → k ≤ b.length → a.take k = b.take k → comL a b = a.take k ++ comL (a.drop k) (b.drop k) := by
  intro k
  induction k generalizing a b with
  | zero => intros; simp
  | succ k ih =>
    intro h1 h2 h3
    cases a with
    | nil => simp at h1
    | cons x a =>
      cases b with
      | nil => simp at h2
      | cons y b =>
        simp only [List.take_succ_cons, List.cons.injEq] at h3
        rw [comL, if_pos h3.1, List.take_succ_cons, List.drop_succ_cons, List.drop_succ_cons, List.cons_append, ih (by simpa using h1) (by simpa using h2) h3.2]
theorem trCommon_ct (a : (List Int)) (b : (List Int))  : Ct 188 [.sv (.one (LS intT a)), .sv (.one (LS intT b))] [] (fun (_ : Unit) => True) (fun _ => .sv (.one (LS intT (comL a b)))) := by
  refine (trCommon_walk a b (fun res_ => res_ = (comL a b)) ?_).fun
  intro _ _
  refine ⟨fun i => ∃ k : Nat, i = k ∧ k ≤ a.length ∧ k ≤ b.length ∧ a.take k = b.take k, fun i => a.length - i.toNat, ⟨0, rfl, Nat.zero_le _, Nat.zero_le _, by simp⟩, ?_⟩
  rintro i ⟨k, rfl, hk, hkb, ht⟩
  have hC := comL_drop hk hkb ht
  refine ⟨fun x => x = decide (k < a.length ∧ k < b.length ∧ a.getD k 0 = b.getD k 0), ⟨fun h1 => ⟨fun h2 => ?_, fun h2 => ?_⟩, fun h1 => ?_⟩, ?_⟩
  · have h1 := dlt h1
    have h2 := dlt h2
    refine ⟨_, idx_at h1, _, idx_at h2, ?_⟩
    rw [getD_el h1, getD_el h2]
    by_cases e : a[k] = b[k]
    · rw [decide_eq_true ⟨h1, h2, e⟩, e]; simp
    · rw [decide_eq_false (fun c => e c.2.2)]; simpa using e
  · have h2 := dge h2
    exact (decide_eq_false (fun c => by omega)).symm
  · have h1 := dge h1
    exact (decide_eq_false (fun c => by omega)).symm
  · rintro x rfl
    refine ⟨fun h => ?_, fun h => ?_⟩
    · obtain ⟨h1, h2, h3⟩ := of_decide_eq_true h
      rw [getD_el h1, getD_el h2] at h3
      refine ⟨⟨k + 1, wsucc (by omega), h1, h2, ?_⟩, mu_up h1 (by omega)⟩
      rw [List.take_add_one, List.take_add_one, ht, List.getElem?_eq_getElem h1, List.getElem?_eq_getElem h2, h3]
    · have h := of_decide_eq_false h
      refine ⟨⟨by omega, by omega, by omega⟩, ?_⟩
      have e0 : comL (a.drop k) (b.drop k) = [] := by
        by_cases h1 : k < a.length
        · by_cases h2 : k < b.length
          · rw [List.drop_eq_getElem_cons h1, List.drop_eq_getElem_cons h2, comL, if_neg]
            intro e
            exact h ⟨h1, h2, by rw [getD_el h1, getD_el h2]; exact e⟩
          · have e : b.drop k = [] := List.drop_eq_nil_of_le (by omega)
            rw [e]
            cases a.drop k <;> rfl
        · have e : a.drop k = [] := List.drop_eq_nil_of_le (by omega)
          rw [e]
          rfl
      rw [e0, List.append_nil] at hC
      show (a.take ((k : Nat) : Int).toNat).drop (0 : Int).toNat = _
      rw [hC]
      simp
end Go.Proofs.Ytiinkohfldopbaa

