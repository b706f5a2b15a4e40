/- Lemmas towards the statement: mirrors of functions, and plain laws. No condition. -/
import Derived.Lib.Builder
import Derived.Lib.UnsafeStr
import Derived.Laws.Externs
import Derived.Laws.BitsLemmas
import Derived.Test.YtijgcihlodofdaaGreatDoorPackCardParikhOrder4
namespace Go.Proofs.YtijgcihlodofdaaGreatDoor
open Go.RowKit Go.MapKept
set_option linter.unusedSimpArgs false
set_option linter.unusedVariables false
set_option maxRecDepth 100000
def indexLInt_vc (l : List (List Int)) (dom : ((List Int) → Prop)) (φ : ((List Int) → Bool)) (Q : Int → Prop) : Prop :=
  l.length ≤ 9223372036854775807 →
  (∃ (Inv : Int → Prop) (mu : Int → Nat), Inv 0 ∧
  ∀ (x8 : Int) , Inv x8 → (IfP (decide (x8 < (l.length : Int))) (∃ e, idx l x8 = some e ∧
  (dom e) ∧
  IfP (φ e) (Q x8) ((Inv (wr (x8 + 1)) ∧ mu (wr (x8 + 1)) < mu x8))) (Q (-1))))
theorem indexLInt_walk (l : List (List Int)) (dom : ((List Int) → Prop)) (φ : ((List Int) → Bool)) (Q : Int → Prop) (h : indexLInt_vc l dom φ Q) : Ct 35 [.sv (.one (LS (lsT intT) l)), .sv (.one (.rd (fvR (fun x => [.sv (.one (LS intT x))]) (fun b => .sv (.one (B b))) dom φ)))] [] Q (fun (r : Int) => .sv (.one (I r))) := by
  have ht := tab_ok
  refine Ct.body Tryz.func35 rfl rfl rfl rfl (fun c hn => ?_)
  unfold indexLInt_vc at h
  refine En.lenL 0 (by rfl) (fun hl => ?_)
  replace h := h hl
  clear hl
  refine En.seq ?_
  refine En.region ?_
  refine WL.run ht hn 1 ⟨[(0, .sv (.one (LS (lsT intT) l))), (1, .sv (.one (.rd (fvR (fun x => [.sv (.one (LS intT x))]) (fun b => .sv (.one (B b))) dom φ))))], []⟩ (by kernel_rfl) ?_
  refine WL.nil ?_
  refine En.seq ?_
  refine En.seq ?_
  refine En.region ?_
  refine WL.run ht hn 3 ⟨[(0, .sv (.one (LS (lsT intT) l))), (1, .sv (.one (.rd (fvR (fun x => [.sv (.one (LS intT x))]) (fun b => .sv (.one (B b))) dom φ)))), (7, .sv (.one (I (l.length : Int)))), (8, .sv (.one (I 0)))], []⟩ (by kernel_rfl) ?_
  refine WL.nil ?_
  refine En.block ?_
  obtain ⟨Inv, mu, h0, hI⟩ := h
  refine En.loop (σ := Int) (fun zz => Inv zz) (fun zz => mu zz) (fun zz => ⟨[(0, .sv (.one (LS (lsT intT) l))), (1, .sv (.one (.rd (fvR (fun x => [.sv (.one (LS intT x))]) (fun b => .sv (.one (B b))) dom φ)))), (7, .sv (.one (I (l.length : Int)))), (8, .sv (.one (I zz)))], []⟩) 0 h0 (sub_ok (by kernel_rfl)) ?_
  intro x8 h
  replace h := hI _ h
  show En c ⟨[(0, .sv (.one (LS (lsT intT) l))), (1, .sv (.one (.rd (fvR (fun x => [.sv (.one (LS intT x))]) (fun b => .sv (.one (B b))) dom φ)))), (7, .sv (.one (I (l.length : Int)))), (8, .sv (.one (I x8)))], []⟩ _
  refine En.seq ?_
  refine En.region ?_
  refine WL.run ht hn 1 ⟨[(0, .sv (.one (LS (lsT intT) l))), (1, .sv (.one (.rd (fvR (fun x => [.sv (.one (LS intT x))]) (fun b => .sv (.one (B b))) dom φ)))), (7, .sv (.one (I (l.length : Int)))), (8, .sv (.one (I x8))), (9, .sv (.one (B (decide (x8 < (l.length : Int))))))], []⟩ (by kernel_rfl) ?_
  refine WL.nil ?_
  refine En.seq ?_
  refine En.cond (b := (decide (x8 < (l.length : Int)))) (by kernel_rfl) (fun hb => ?_) (fun hb => ?_)
  · replace h := h.1 hb
    refine En.skip ?_
    refine En.seq ?_
    refine En.block ?_
    refine En.seq ?_
    refine En.region ?_
    refine WL.run ht hn 2 ⟨[(0, .sv (.one (LS (lsT intT) l))), (1, .sv (.one (.rd (fvR (fun x => [.sv (.one (LS intT x))]) (fun b => .sv (.one (B b))) dom φ)))), (5, .sv (.one (I x8))), (7, .sv (.one (I (l.length : Int)))), (8, .sv (.one (I x8)))], []⟩ (by kernel_rfl) ?_
    refine WL.nil ?_
    refine En.seq ?_
    refine En.region ?_
    refine WL.run ht hn 3 ⟨[(0, .sv (.one (LS (lsT intT) l))), (1, .sv (.one (.rd (fvR (fun x => [.sv (.one (LS intT x))]) (fun b => .sv (.one (B b))) dom φ)))), (5, .sv (.one (I x8))), (7, .sv (.one (I (l.length : Int)))), (8, .sv (.one (I x8))), (11, .sv (.one (.rd (fvR (fun x => [.sv (.one (LS intT x))]) (fun b => .sv (.one (B b))) dom φ)))), (12, .sv (.one (LS (lsT intT) l))), (13, .sv (.one (I x8)))], []⟩ (by kernel_rfl) ?_
    obtain ⟨e, he, h⟩ := h
    refine WL.val hn (by rfl) (val_index (T := (lsT intT)) (l := l) (i := x8) ht rfl (by rfl) (by rfl) (by rfl) (by rfl) (by rfl) (by rfl) he) (by rfl) ?_
    refine WL.val hn (by rfl) (val_load (s := .one (LS intT e)) ht rfl (by rfl) (by rfl) (by rfl) (by rfl) (by rfl)) (by rfl) ?_
    have hp := h.1
    replace h := h.2
    refine WL.mt0 (K := []) (p := none) hn (by rfl) (mt_callv e hp rfl (by rfl) (by rfl) (by rfl) (by rfl)) (by rfl) (by rfl) (by rfl) ?_
    refine WL.nil ?_
    refine En.cond (b := (φ e)) (by kernel_rfl) (fun hb => ?_) (fun hb => ?_)
    · replace h := h.1 hb
      refine En.seq ?_
      refine En.region ?_
      refine WL.run ht hn 2 ⟨[(4, .sv (.one (I x8)))], []⟩ (by kernel_rfl) ?_
      refine WL.nil ?_
      refine En.ret ?_
      exact En.back ht x8 h (by kernel_rfl) rfl
    · replace h := h.2 hb
      refine En.skip ?_
      refine En.region ?_
      refine WL.run ht hn 2 ⟨[(0, .sv (.one (LS (lsT intT) l))), (1, .sv (.one (.rd (fvR (fun x => [.sv (.one (LS intT x))]) (fun b => .sv (.one (B b))) dom φ)))), (7, .sv (.one (I (l.length : Int)))), (8, .sv (.one (I (wr (x8 + 1)))))], []⟩ (by kernel_rfl) ?_
      refine WL.nil ?_
      exact En.at (I := fun zz => Inv zz ∧ mu zz < mu x8) (T := fun zz => ⟨[(0, .sv (.one (LS (lsT intT) l))), (1, .sv (.one (.rd (fvR (fun x => [.sv (.one (LS intT x))]) (fun b => .sv (.one (B b))) dom φ)))), (7, .sv (.one (I (l.length : Int)))), (8, .sv (.one (I zz)))], []⟩) (wr (x8 + 1)) h (by kernel_rfl)
  · replace h := h.2 hb
    refine En.exit rfl ?_
    refine En.seq ?_
    refine En.region ?_
    refine WL.run ht hn 1 ⟨[(4, .sv (.one (I (-1))))], []⟩ (by kernel_rfl) ?_
    refine WL.nil ?_
    refine En.ret ?_
    exact En.back ht (-1) h (by kernel_rfl) rfl
theorem en35 : ∀ args w, (callFunc 35 args).run Tryz.prog w = .ok (.enter 35 args) w := enters_of Tryz.func35 (by kernel_rfl) rfl
theorem indexLInt_ct (l : List (List Int)) (dom : (List Int) → Prop) (φ : (List Int) → Bool) (hd : ∀ x ∈ l, dom x) : Ct 35 [.sv (.one (LS (lsT intT) l)), .sv (.one (.rd (fvR (fun x => [.sv (.one (LS intT x))]) (fun b => .sv (.one (B b))) dom φ)))] [] (fun (_ : Unit) => True) (fun _ => .sv (.one (I (idxTo φ l)))) := by
  refine (indexLInt_walk l dom φ (fun r => r = idxTo φ l) ?_).fun
  unfold indexLInt_vc
  exact index_plain l dom φ hd
def anyLInt_vc (l : List (List Int)) (dom : ((List Int) → Prop)) (φ : ((List Int) → Bool)) (Q : Bool → Prop) : Prop :=
  l.length ≤ 9223372036854775807 →
  ((∀ x_ ∈ l, dom x_) ∧
  Q (decide ((idxTo φ l) ≥ 0)))
theorem anyLInt_walk (l : List (List Int)) (dom : ((List Int) → Prop)) (φ : ((List Int) → Bool)) (Q : Bool → Prop) (h : anyLInt_vc l dom φ Q) : Ct 24 [.sv (.one (LS (lsT intT) l)), .sv (.one (.rd (fvR (fun x => [.sv (.one (LS intT x))]) (fun b => .sv (.one (B b))) dom φ)))] [] Q (fun (r : Bool) => .sv (.one (B r))) := by
  have ht := tab_ok
  refine Ct.body Tryz.func24 rfl rfl rfl rfl (fun c hn => ?_)
  unfold anyLInt_vc at h
  refine En.lenL 0 (by rfl) (fun hl => ?_)
  replace h := h hl
  clear hl
  refine En.seq ?_
  refine En.region ?_
  refine WL.run ht hn 1 ⟨[(0, .sv (.one (LS (lsT intT) l))), (1, .sv (.one (.rd (fvR (fun x => [.sv (.one (LS intT x))]) (fun b => .sv (.one (B b))) dom φ))))], []⟩ (by kernel_rfl) ?_
  refine WL.nil ?_
  refine En.seq ?_
  refine En.region ?_
  refine WL.run ht hn 2 ⟨[(5, .sv (.one (LS (lsT intT) l))), (6, .sv (.one (.rd (fvR (fun x => [.sv (.one (LS intT x))]) (fun b => .sv (.one (B b))) dom φ))))], []⟩ (by kernel_rfl) ?_
  have hp := h.1
  replace h := h.2
  refine WL.mt0 (K := []) (p := none) hn (by rfl) (mt_call (indexLInt_ct l dom φ hp) en35 (caps := []) [] rfl (by rfl) (by kernel_rfl) (by kernel_rfl) (by rfl) (by rfl) (by rfl)) (by rfl) (by rfl) (by rfl) ?_
  refine WL.run ht hn 2 ⟨[(4, .sv (.one (B (decide ((idxTo φ l) ≥ 0)))))], []⟩ (by kernel_rfl) ?_
  refine WL.nil ?_
  refine En.ret ?_
  exact En.back ht (decide ((idxTo φ l) ≥ 0)) h (by kernel_rfl) rfl
theorem en24 : ∀ args w, (callFunc 24 args).run Tryz.prog w = .ok (.enter 24 args) w := enters_of Tryz.func24 (by kernel_rfl) rfl
theorem anyLInt_ct (l : List (List Int)) (dom : (List Int) → Prop) (φ : (List Int) → Bool) (hd : ∀ x ∈ l, dom x) : Ct 24 [.sv (.one (LS (lsT intT) l)), .sv (.one (.rd (fvR (fun x => [.sv (.one (LS intT x))]) (fun b => .sv (.one (B b))) dom φ)))] [] (fun (_ : Unit) => True) (fun _ => .sv (.one (B (l.any φ)))) := by
  refine (anyLInt_walk l dom φ (fun r => r = l.any φ) ?_).fun
  unfold anyLInt_vc
  exact fun _ => ⟨hd, by rw [← idxTo_nonneg φ l]⟩
def indexInt_vc (l : List Int) (dom : (Int → Prop)) (φ : (Int → Bool)) (Q : Int → Prop) : Prop :=
  l.length ≤ 9223372036854775807 →
  (∃ (Inv : Int → Prop) (mu : Int → Nat), Inv 0 ∧
  ∀ (x8 : Int) , Inv x8 → (IfP (decide (x8 < (l.length : Int))) (∃ e, idx l x8 = some e ∧
  (dom e) ∧
  IfP (φ e) (Q x8) ((Inv (wr (x8 + 1)) ∧ mu (wr (x8 + 1)) < mu x8))) (Q (-1))))
theorem indexInt_walk (l : List Int) (dom : (Int → Prop)) (φ : (Int → Bool)) (Q : Int → Prop) (h : indexInt_vc l dom φ Q) : Ct 36 [.sv (.one (LS intT l)), .sv (.one (.rd (fvR (fun x => [.sv (.one (I x))]) (fun b => .sv (.one (B b))) dom φ)))] [] Q (fun (r : Int) => .sv (.one (I r))) := by
  have ht := tab_ok
  refine Ct.body Tryz.func36 rfl rfl rfl rfl (fun c hn => ?_)
  unfold indexInt_vc at h
  refine En.lenL 0 (by rfl) (fun hl => ?_)
  replace h := h hl
  clear hl
  refine En.seq ?_
  refine En.region ?_
  refine WL.run ht hn 1 ⟨[(0, .sv (.one (LS intT l))), (1, .sv (.one (.rd (fvR (fun x => [.sv (.one (I x))]) (fun b => .sv (.one (B b))) dom φ))))], []⟩ (by kernel_rfl) ?_
  refine WL.nil ?_
  refine En.seq ?_
  refine En.seq ?_
  refine En.region ?_
  refine WL.run ht hn 3 ⟨[(0, .sv (.one (LS intT l))), (1, .sv (.one (.rd (fvR (fun x => [.sv (.one (I x))]) (fun b => .sv (.one (B b))) dom φ)))), (7, .sv (.one (I (l.length : Int)))), (8, .sv (.one (I 0)))], []⟩ (by kernel_rfl) ?_
  refine WL.nil ?_
  refine En.block ?_
  obtain ⟨Inv, mu, h0, hI⟩ := h
  refine En.loop (σ := Int) (fun zz => Inv zz) (fun zz => mu zz) (fun zz => ⟨[(0, .sv (.one (LS intT l))), (1, .sv (.one (.rd (fvR (fun x => [.sv (.one (I x))]) (fun b => .sv (.one (B b))) dom φ)))), (7, .sv (.one (I (l.length : Int)))), (8, .sv (.one (I zz)))], []⟩) 0 h0 (sub_ok (by kernel_rfl)) ?_
  intro x8 h
  replace h := hI _ h
  show En c ⟨[(0, .sv (.one (LS intT l))), (1, .sv (.one (.rd (fvR (fun x => [.sv (.one (I x))]) (fun b => .sv (.one (B b))) dom φ)))), (7, .sv (.one (I (l.length : Int)))), (8, .sv (.one (I x8)))], []⟩ _
  refine En.seq ?_
  refine En.region ?_
  refine WL.run ht hn 1 ⟨[(0, .sv (.one (LS intT l))), (1, .sv (.one (.rd (fvR (fun x => [.sv (.one (I x))]) (fun b => .sv (.one (B b))) dom φ)))), (7, .sv (.one (I (l.length : Int)))), (8, .sv (.one (I x8))), (9, .sv (.one (B (decide (x8 < (l.length : Int))))))], []⟩ (by kernel_rfl) ?_
  refine WL.nil ?_
  refine En.seq ?_
  refine En.cond (b := (decide (x8 < (l.length : Int)))) (by kernel_rfl) (fun hb => ?_) (fun hb => ?_)
  · replace h := h.1 hb
    refine En.skip ?_
    refine En.seq ?_
    refine En.block ?_
    refine En.seq ?_
    refine En.region ?_
    refine WL.run ht hn 2 ⟨[(0, .sv (.one (LS intT l))), (1, .sv (.one (.rd (fvR (fun x => [.sv (.one (I x))]) (fun b => .sv (.one (B b))) dom φ)))), (5, .sv (.one (I x8))), (7, .sv (.one (I (l.length : Int)))), (8, .sv (.one (I x8)))], []⟩ (by kernel_rfl) ?_
    refine WL.nil ?_
    refine En.seq ?_
    refine En.region ?_
    refine WL.run ht hn 3 ⟨[(0, .sv (.one (LS intT l))), (1, .sv (.one (.rd (fvR (fun x => [.sv (.one (I x))]) (fun b => .sv (.one (B b))) dom φ)))), (5, .sv (.one (I x8))), (7, .sv (.one (I (l.length : Int)))), (8, .sv (.one (I x8))), (11, .sv (.one (.rd (fvR (fun x => [.sv (.one (I x))]) (fun b => .sv (.one (B b))) dom φ)))), (12, .sv (.one (LS intT l))), (13, .sv (.one (I x8)))], []⟩ (by kernel_rfl) ?_
    obtain ⟨e, he, h⟩ := h
    refine WL.val hn (by rfl) (val_index (T := intT) (l := l) (i := x8) ht rfl (by rfl) (by rfl) (by rfl) (by rfl) (by rfl) (by rfl) he) (by rfl) ?_
    refine WL.val hn (by rfl) (val_load (s := .one (I e)) ht rfl (by rfl) (by rfl) (by rfl) (by rfl) (by rfl)) (by rfl) ?_
    have hp := h.1
    replace h := h.2
    refine WL.mt0 (K := []) (p := none) hn (by rfl) (mt_callv e hp rfl (by rfl) (by rfl) (by rfl) (by rfl)) (by rfl) (by rfl) (by rfl) ?_
    refine WL.nil ?_
    refine En.cond (b := (φ e)) (by kernel_rfl) (fun hb => ?_) (fun hb => ?_)
    · replace h := h.1 hb
      refine En.seq ?_
      refine En.region ?_
      refine WL.run ht hn 2 ⟨[(4, .sv (.one (I x8)))], []⟩ (by kernel_rfl) ?_
      refine WL.nil ?_
      refine En.ret ?_
      exact En.back ht x8 h (by kernel_rfl) rfl
    · replace h := h.2 hb
      refine En.skip ?_
      refine En.region ?_
      refine WL.run ht hn 2 ⟨[(0, .sv (.one (LS intT l))), (1, .sv (.one (.rd (fvR (fun x => [.sv (.one (I x))]) (fun b => .sv (.one (B b))) dom φ)))), (7, .sv (.one (I (l.length : Int)))), (8, .sv (.one (I (wr (x8 + 1)))))], []⟩ (by kernel_rfl) ?_
      refine WL.nil ?_
      exact En.at (I := fun zz => Inv zz ∧ mu zz < mu x8) (T := fun zz => ⟨[(0, .sv (.one (LS intT l))), (1, .sv (.one (.rd (fvR (fun x => [.sv (.one (I x))]) (fun b => .sv (.one (B b))) dom φ)))), (7, .sv (.one (I (l.length : Int)))), (8, .sv (.one (I zz)))], []⟩) (wr (x8 + 1)) h (by kernel_rfl)
  · replace h := h.2 hb
    refine En.exit rfl ?_
    refine En.seq ?_
    refine En.region ?_
    refine WL.run ht hn 1 ⟨[(4, .sv (.one (I (-1))))], []⟩ (by kernel_rfl) ?_
    refine WL.nil ?_
    refine En.ret ?_
    exact En.back ht (-1) h (by kernel_rfl) rfl
theorem en36 : ∀ args w, (callFunc 36 args).run Tryz.prog w = .ok (.enter 36 args) w := enters_of Tryz.func36 (by kernel_rfl) rfl
theorem indexInt_ct (l : List Int) (dom : Int → Prop) (φ : Int → Bool) (hd : ∀ x ∈ l, dom x) : Ct 36 [.sv (.one (LS intT l)), .sv (.one (.rd (fvR (fun x => [.sv (.one (I x))]) (fun b => .sv (.one (B b))) dom φ)))] [] (fun (_ : Unit) => True) (fun _ => .sv (.one (I (idxTo φ l)))) := by
  refine (indexInt_walk l dom φ (fun r => r = idxTo φ l) ?_).fun
  unfold indexInt_vc
  exact index_plain l dom φ hd
def anyInt_vc (l : List Int) (dom : (Int → Prop)) (φ : (Int → Bool)) (Q : Bool → Prop) : Prop :=
  l.length ≤ 9223372036854775807 →
  ((∀ x_ ∈ l, dom x_) ∧
  Q (decide ((idxTo φ l) ≥ 0)))
theorem anyInt_walk (l : List Int) (dom : (Int → Prop)) (φ : (Int → Bool)) (Q : Bool → Prop) (h : anyInt_vc l dom φ Q) : Ct 28 [.sv (.one (LS intT l)), .sv (.one (.rd (fvR (fun x => [.sv (.one (I x))]) (fun b => .sv (.one (B b))) dom φ)))] [] Q (fun (r : Bool) => .sv (.one (B r))) := by
  have ht := tab_ok
  refine Ct.body Tryz.func28 rfl rfl rfl rfl (fun c hn => ?_)
  unfold anyInt_vc at h
  refine En.lenL 0 (by rfl) (fun hl => ?_)
  replace h := h hl
  clear hl
  refine En.seq ?_
  refine En.region ?_
  refine WL.run ht hn 1 ⟨[(0, .sv (.one (LS intT l))), (1, .sv (.one (.rd (fvR (fun x => [.sv (.one (I x))]) (fun b => .sv (.one (B b))) dom φ))))], []⟩ (by kernel_rfl) ?_
  refine WL.nil ?_
  refine En.seq ?_
  refine En.region ?_
  refine WL.run ht hn 2 ⟨[(5, .sv (.one (LS intT l))), (6, .sv (.one (.rd (fvR (fun x => [.sv (.one (I x))]) (fun b => .sv (.one (B b))) dom φ))))], []⟩ (by kernel_rfl) ?_
  have hp := h.1
  replace h := h.2
  refine WL.mt0 (K := []) (p := none) hn (by rfl) (mt_call (indexInt_ct l dom φ hp) en36 (caps := []) [] rfl (by rfl) (by kernel_rfl) (by kernel_rfl) (by rfl) (by rfl) (by rfl)) (by rfl) (by rfl) (by rfl) ?_
  refine WL.run ht hn 2 ⟨[(4, .sv (.one (B (decide ((idxTo φ l) ≥ 0)))))], []⟩ (by kernel_rfl) ?_
  refine WL.nil ?_
  refine En.ret ?_
  exact En.back ht (decide ((idxTo φ l) ≥ 0)) h (by kernel_rfl) rfl
theorem en28 : ∀ args w, (callFunc 28 args).run Tryz.prog w = .ok (.enter 28 args) w := enters_of Tryz.func28 (by kernel_rfl) rfl
theorem anyInt_ct (l : List Int) (dom : Int → Prop) (φ : Int → Bool) (hd : ∀ x ∈ l, dom x) : Ct 28 [.sv (.one (LS intT l)), .sv (.one (.rd (fvR (fun x => [.sv (.one (I x))]) (fun b => .sv (.one (B b))) dom φ)))] [] (fun (_ : Unit) => True) (fun _ => .sv (.one (B (l.any φ)))) := by
  refine (anyInt_walk l dom φ (fun r => r = l.any φ) ?_).fun
  unfold anyInt_vc
  exact fun _ => ⟨hd, by rw [← idxTo_nonneg φ l]⟩
def altNo (n q : Int) : Bool := (decide (q < 0)) || (decide (q ≥ n))
theorem altNo_iff {n q : Int} : altNo n q = false ↔ 0 ≤ q ∧ q < n := by
  unfold altNo
  simp only [Bool.or_eq_false_iff, decide_eq_false_iff_not]
  omega
def detErr (x : ApiDet) : Int :=
  if (decide (x.fLetters < 1)) || (decide (x.fLetters > 4)) then 2 else
  if (decide ((x.fNext.length : Int) < 1)) || (decide ((x.fNext.length : Int) > 3000)) then 1 else
  if ((x.fMark.length : Int) != (x.fNext.length : Int)) || x.fNext.any (fun r => (r.length : Int) != (x).fLetters) then 3 else
  if altNo (x.fNext.length : Int) x.fStart || x.fNext.any (fun r => r.any (altNo (x.fNext.length : Int))) then 2 else
  if x.fMark.any (fun m => (m != 0) && (m != 1)) then 2 else 0
structure DetOk (x : ApiDet) : Prop where
  letters : 1 ≤ x.fLetters ∧ x.fLetters ≤ 4
  size : 1 ≤ x.fNext.length ∧ x.fNext.length ≤ 3000
  marks : x.fMark.length = x.fNext.length
  rows : ∀ r ∈ x.fNext, (r.length : Int) = x.fLetters
  start : 0 ≤ x.fStart ∧ x.fStart < (x.fNext.length : Int)
  in_ : ∀ r ∈ x.fNext, ∀ p ∈ r, 0 ≤ p ∧ p < (x.fNext.length : Int)
  mark : ∀ m ∈ x.fMark, m = 0 ∨ m = 1
theorem detErr_iff (x : ApiDet) : detErr x = 0 ↔ DetOk x := by
  unfold detErr
  constructor
  · intro h
    by_cases h1 : ((decide (x.fLetters < 1)) || (decide (x.fLetters > 4))) = true
    · rw [if_pos h1] at h; cases h
    rw [if_neg h1] at h
    by_cases h2 : ((decide ((x.fNext.length : Int) < 1)) || (decide ((x.fNext.length : Int) > 3000))) = true
    · rw [if_pos h2] at h; cases h
    rw [if_neg h2] at h
    by_cases h3 : (((x.fMark.length : Int) != (x.fNext.length : Int)) || x.fNext.any (fun r => (r.length : Int) != (x).fLetters)) = true
    · rw [if_pos h3] at h; cases h
    rw [if_neg h3] at h
    by_cases h4 : (altNo (x.fNext.length : Int) x.fStart || x.fNext.any (fun r => r.any (altNo (x.fNext.length : Int)))) = true
    · rw [if_pos h4] at h; cases h
    rw [if_neg h4] at h
    by_cases h5 : x.fMark.any (fun m => (m != 0) && (m != 1)) = true
    · rw [if_pos h5] at h; cases h
    simp only [Bool.not_eq_true, Bool.or_eq_false_iff, decide_eq_false_iff_not, List.any_eq_false, altNo_iff, bne_eq_false_iff_eq, Bool.and_eq_false_iff, Bool.not_eq_false, bne_iff_ne, ne_eq, Decidable.not_not] at h1 h2 h3 h4 h5
    exact ⟨by omega, by omega, by omega, fun r hr => h3.2 r hr, h4.1, fun r hr p hp => h4.2 r hr p hp, fun m hm => h5 m hm⟩
  · intro h
    have h1 : ((decide (x.fLetters < 1)) || (decide (x.fLetters > 4))) = false := by
      have := h.letters
      simp only [Bool.or_eq_false_iff, decide_eq_false_iff_not]; omega
    have h2 : ((decide ((x.fNext.length : Int) < 1)) || (decide ((x.fNext.length : Int) > 3000))) = false := by
      have := h.size
      simp only [Bool.or_eq_false_iff, decide_eq_false_iff_not]; omega
    have h3 : (((x.fMark.length : Int) != (x.fNext.length : Int)) || x.fNext.any (fun r => (r.length : Int) != (x).fLetters)) = false := by
      simp only [Bool.or_eq_false_iff, bne_eq_false_iff_eq, List.any_eq_false, bne_iff_ne, ne_eq, Decidable.not_not]
      exact ⟨by have := h.marks; omega, h.rows⟩
    have h4 : (altNo (x.fNext.length : Int) x.fStart || x.fNext.any (fun r => r.any (altNo (x.fNext.length : Int)))) = false := by
      simp only [Bool.or_eq_false_iff, altNo_iff]
      refine ⟨h.start, ?_⟩
      rw [List.any_eq_false]
      intro r hr
      rw [Bool.not_eq_true, List.any_eq_false]
      intro p hp
      rw [Bool.not_eq_true, altNo_iff]
      exact h.in_ r hr p hp
    have h5 : x.fMark.any (fun m => (m != 0) && (m != 1)) = false := by
      rw [List.any_eq_false]
      intro m hm
      rcases h.mark m hm with rfl | rfl <;> decide
    rw [h1, h2, h3, h4, h5]
    rfl
def detC1_vc (r : List Int) (x : ApiDet) (Q : Bool → Prop) : Prop :=
  r.length ≤ 9223372036854775807 →
  (Q ((r.length : Int) != x.fLetters))
theorem detC1_walk (r : List Int) (x : ApiDet) (Q : Bool → Prop) (h : detC1_vc r x Q) : Ct 25 [.sv (.one (LS intT r)), .sv (.one (.ptr 0 0))] [.box [I x.fLetters, I x.fStart, LS (lsT intT) x.fNext, LS intT x.fMark] 25 true] Q (fun (r : Bool) => .sv (.one (B r))) := by
  have ht := tab_ok
  refine Ct.body Tryz.func25 rfl rfl rfl rfl (fun c hn => ?_)
  unfold detC1_vc at h
  refine En.lenL 0 (by rfl) (fun hl => ?_)
  replace h := h hl
  clear hl
  refine En.seq ?_
  refine En.region ?_
  refine WL.run ht hn 1 ⟨[(0, .sv (.one (LS intT r))), (1, .sv (.one (.ptr 0 0)))], [.box [I x.fLetters, I x.fStart, LS (lsT intT) x.fNext, LS intT x.fMark] 25 true]⟩ (by kernel_rfl) ?_
  refine WL.nil ?_
  refine En.seq ?_
  refine En.region ?_
  refine WL.run ht hn 6 ⟨[(3, .sv (.one (B ((r.length : Int) != x.fLetters))))], [.gone]⟩ (by kernel_rfl) ?_
  refine WL.nil ?_
  refine En.ret ?_
  exact En.back ht ((r.length : Int) != x.fLetters) h (by kernel_rfl) rfl
theorem en25 : ∀ args w, (callFunc 25 args).run Tryz.prog w = .ok (.enter 25 args) w := enters_of Tryz.func25 (by kernel_rfl) rfl
def detC2_vc (q : Int) (n : Int) (Q : Bool → Prop) : Prop :=
  Q ((decide (q < 0)) || (decide (q ≥ n)))
theorem detC2_walk (q : Int) (n : Int) (Q : Bool → Prop) (h : detC2_vc q n Q) : Ct 26 [.sv (.one (I q)), .sv (.one (.ptr 0 0))] [.box [I n] 3 true] Q (fun (r : Bool) => .sv (.one (B r))) := by
  have ht := tab_ok
  refine Ct.body Tryz.func26 rfl rfl rfl rfl (fun c hn => ?_)
  unfold detC2_vc at h
  refine En.seq ?_
  refine En.region ?_
  refine WL.run ht hn 1 ⟨[(0, .sv (.one (I q))), (1, .sv (.one (.ptr 0 0)))], [.box [I n] 3 true]⟩ (by kernel_rfl) ?_
  refine WL.nil ?_
  refine En.seq ?_
  refine En.region ?_
  refine WL.run ht hn 3 ⟨[(0, .sv (.one (I q))), (1, .sv (.one (.ptr 0 0))), (6, .sv (.one (B (decide (q < 0)))))], [.box [I n] 3 true]⟩ (by kernel_rfl) ?_
  refine WL.thru ⟨[(3, .sv (.one (B ((decide (q < 0)) || (decide (q ≥ n))))))], [.gone]⟩ ?_ ?_
  · refine splitB (decide (q < 0)) (fun hb0 => ?_) (fun hb0 => ?_)
    · refine WL.setB 6 hb0 (by kernel_rfl) ?_
      refine WL.run ht hn 5 ⟨[(3, .sv (.one (B true)))], [.gone]⟩ (by kernel_rfl) ?_
      exact WL.nil (sub_ok (by simp only [hb0]; kernel_rfl))
    · refine WL.setB 6 hb0 (by kernel_rfl) ?_
      refine WL.run ht hn 5 ⟨[(3, .sv (.one (B (decide (q ≥ n)))))], [.gone]⟩ (by kernel_rfl) ?_
      exact WL.nil (sub_ok (by simp only [hb0]; kernel_rfl))
  · refine En.ret ?_
    exact En.back ht ((decide (q < 0)) || (decide (q ≥ n))) h (by kernel_rfl) rfl
theorem en26 : ∀ args w, (callFunc 26 args).run Tryz.prog w = .ok (.enter 26 args) w := enters_of Tryz.func26 (by kernel_rfl) rfl
def detC3_vc (l : List Int) (domno : (Int → Prop)) (no : (Int → Bool)) (Q : Bool → Prop) : Prop :=
  l.length ≤ 9223372036854775807 →
  ((∀ x_ ∈ l, domno x_) ∧
  Q (l.any no))
theorem detC3_walk (l : List Int) (domno : (Int → Prop)) (no : (Int → Bool)) (Q : Bool → Prop) (h : detC3_vc l domno no Q) : Ct 27 [.sv (.one (LS intT l)), .sv (.one (.ptr 0 0))] [.box [.rd (fvR (fun (x : Int) => [.sv (.one (I x))]) (fun (r : Bool) => .sv (.one (B r))) domno no)] 58 true] Q (fun (r : Bool) => .sv (.one (B r))) := by
  have ht := tab_ok
  refine Ct.body Tryz.func27 rfl rfl rfl rfl (fun c hn => ?_)
  unfold detC3_vc at h
  refine En.lenL 0 (by rfl) (fun hl => ?_)
  replace h := h hl
  clear hl
  refine En.seq ?_
  refine En.region ?_
  refine WL.run ht hn 1 ⟨[(0, .sv (.one (LS intT l))), (1, .sv (.one (.ptr 0 0)))], [.box [.rd (fvR (fun (x : Int) => [.sv (.one (I x))]) (fun (r : Bool) => .sv (.one (B r))) domno no)] 58 true]⟩ (by kernel_rfl) ?_
  refine WL.nil ?_
  refine En.seq ?_
  refine En.region ?_
  refine WL.run ht hn 2 ⟨[(4, .sv (.one (LS intT l))), (5, .sv (.one (.rd (fvR (fun (x : Int) => [.sv (.one (I x))]) (fun (r : Bool) => .sv (.one (B r))) domno no))))], [.gone]⟩ (by kernel_rfl) ?_
  have hp := h.1
  replace h := h.2
  refine WL.mt0 (K := []) (p := none) hn (by rfl) (mt_call (anyInt_ct l domno no hp) en28 (caps := []) [] rfl (by rfl) (by kernel_rfl) (by kernel_rfl) (by rfl) (by rfl) (by rfl)) (by rfl) (by rfl) (by rfl) ?_
  refine WL.run ht hn 1 ⟨[(3, .sv (.one (B (l.any no))))], [.gone]⟩ (by kernel_rfl) ?_
  refine WL.nil ?_
  refine En.ret ?_
  exact En.back ht (l.any no) h (by kernel_rfl) rfl
theorem en27 : ∀ args w, (callFunc 27 args).run Tryz.prog w = .ok (.enter 27 args) w := enters_of Tryz.func27 (by kernel_rfl) rfl
def detC4_vc (m : Int) (Q : Bool → Prop) : Prop :=
  Q ((m != 0) && (m != 1))
theorem detC4_walk (m : Int) (Q : Bool → Prop) (h : detC4_vc m Q) : Ct 29 [.sv (.one (I m))] [] Q (fun (r : Bool) => .sv (.one (B r))) := by
  have ht := tab_ok
  refine Ct.body Tryz.func29 rfl rfl rfl rfl (fun c hn => ?_)
  unfold detC4_vc at h
  refine En.seq ?_
  refine En.region ?_
  refine WL.run ht hn 1 ⟨[(0, .sv (.one (I m)))], []⟩ (by kernel_rfl) ?_
  refine WL.nil ?_
  refine En.seq ?_
  refine En.region ?_
  refine WL.run ht hn 3 ⟨[(0, .sv (.one (I m))), (5, .sv (.one (B (m != 0))))], []⟩ (by kernel_rfl) ?_
  refine WL.thru ⟨[(2, .sv (.one (B ((m != 0) && (m != 1)))))], []⟩ ?_ ?_
  · refine splitB (m != 0) (fun hb0 => ?_) (fun hb0 => ?_)
    · refine WL.setB 5 hb0 (by kernel_rfl) ?_
      refine WL.run ht hn 4 ⟨[(2, .sv (.one (B (m != 1))))], []⟩ (by kernel_rfl) ?_
      exact WL.nil (sub_ok (by simp only [hb0]; kernel_rfl))
    · refine WL.setB 5 hb0 (by kernel_rfl) ?_
      refine WL.run ht hn 4 ⟨[(2, .sv (.one (B false)))], []⟩ (by kernel_rfl) ?_
      exact WL.nil (sub_ok (by simp only [hb0]; kernel_rfl))
  · refine En.ret ?_
    exact En.back ht ((m != 0) && (m != 1)) h (by kernel_rfl) rfl
theorem en29 : ∀ args w, (callFunc 29 args).run Tryz.prog w = .ok (.enter 29 args) w := enters_of Tryz.func29 (by kernel_rfl) rfl
theorem detC1_ct (r : List Int) (x : ApiDet)  : Ct 25 [.sv (.one (LS intT r)), .sv (.one (.ptr 0 0))] [.box [I x.fLetters, I x.fStart, LS (lsT intT) x.fNext, LS intT x.fMark] 25 true] (fun (_ : Unit) => True) (fun _ => .sv (.one (B ((r.length : Int) != x.fLetters)))) := by
  refine (detC1_walk r x (fun res_ => res_ = ((r.length : Int) != x.fLetters)) ?_).fun
  exact fun _ => rfl
theorem detC2_ct (q : Int) (n : Int)  : Ct 26 [.sv (.one (I q)), .sv (.one (.ptr 0 0))] [.box [I n] 3 true] (fun (_ : Unit) => True) (fun _ => .sv (.one (B (altNo n q)))) := by
  refine (detC2_walk q n (fun res_ => res_ = (altNo n q)) ?_).fun
  rfl
theorem detC3_ct (l : List Int) (domno : (Int → Prop)) (no : (Int → Bool)) (hd : ∀ x ∈ l, domno x) : Ct 27 [.sv (.one (LS intT l)), .sv (.one (.ptr 0 0))] [.box [.rd (fvR (fun (x : Int) => [.sv (.one (I x))]) (fun (r : Bool) => .sv (.one (B r))) domno no)] 58 true] (fun (_ : Unit) => True) (fun _ => .sv (.one (B (l.any no)))) := by
  refine (detC3_walk l domno no (fun res_ => res_ = (l.any no)) ?_).fun
  exact fun _ => ⟨hd, rfl⟩
theorem detC4_ct (m : Int)  : Ct 29 [.sv (.one (I m))] [] (fun (_ : Unit) => True) (fun _ => .sv (.one (B ((m != 0) && (m != 1))))) := by
  refine (detC4_walk m (fun res_ => res_ = ((m != 0) && (m != 1))) ?_).fun
  rfl
def detCheck_vc (x : ApiDet) (Q : Int → Prop) : Prop :=
  x.fNext.length ≤ 9223372036854775807 →
  x.fMark.length ≤ 9223372036854775807 →
  (IfP ((decide (x.fLetters < 1)) || (decide (x.fLetters > 4))) (Q 2) (IfP ((decide ((x.fNext.length : Int) < 1)) || (decide ((x.fNext.length : Int) > 3000))) (Q 1) (∃ J : Bool → Prop, (IfP ((x.fMark.length : Int) != (x.fNext.length : Int)) (J true) ((∀ x_ ∈ x.fNext, (fun _ => True) x_) ∧
  J (x.fNext.any (fun r => (r.length : Int) != (x).fLetters)))) ∧
  (∀ (x32 : Bool), J x32 → IfP x32 (Q 3) (∃ J_2 : Bool → Prop, (((fun _ => True) x.fStart) ∧
  IfP ((altNo (x.fNext.length : Int)) x.fStart) (J_2 true) ((∀ x_ ∈ x.fNext, (fun l => ∀ x ∈ l, (fun _ => True) x) x_) ∧
  J_2 (x.fNext.any (fun l => l.any (altNo (x.fNext.length : Int)))))) ∧
  (∀ (x43 : Bool), J_2 x43 → IfP x43 (Q 2) ((∀ x_ ∈ x.fMark, (fun _ => True) x_) ∧
  IfP (x.fMark.any (fun m => (m != 0) && (m != 1))) (Q 2) (Q 0))))))))
theorem detCheck_walk (x : ApiDet) (Q : Int → Prop) (h : detCheck_vc x Q) : Ct 13 [.sv (.agg [I x.fLetters, I x.fStart, LS (lsT intT) x.fNext, LS intT x.fMark])] [] Q (fun (r : Int) => .sv (.one (I r))) := by
  have ht := tab_ok
  refine Ct.body Tryz.func13 rfl rfl rfl rfl (fun c hn => ?_)
  unfold detCheck_vc at h
  refine En.lenA 0 2 (by rfl) (by rfl) (fun hl => ?_)
  replace h := h hl
  clear hl
  refine En.lenA 0 3 (by rfl) (by rfl) (fun hl => ?_)
  replace h := h hl
  clear hl
  refine En.seq ?_
  refine En.region ?_
  refine WL.run ht hn 2 ⟨[(1, .sv (.one (.ptr 0 0)))], [.box [I x.fLetters, I x.fStart, LS (lsT intT) x.fNext, LS intT x.fMark] 25 false]⟩ (by kernel_rfl) ?_
  refine WL.nil ?_
  refine En.seq ?_
  refine En.seq ?_
  refine En.region ?_
  refine WL.run ht hn 4 ⟨[(1, .sv (.one (.ptr 0 0))), (8, .sv (.one (B (decide (x.fLetters < 1)))))], [.box [I x.fLetters, I x.fStart, LS (lsT intT) x.fNext, LS intT x.fMark] 25 false]⟩ (by kernel_rfl) ?_
  refine WL.thru ⟨[(1, .sv (.one (.ptr 0 0))), (12, .sv (.one (B ((decide (x.fLetters < 1)) || (decide (x.fLetters > 4))))))], [.box [I x.fLetters, I x.fStart, LS (lsT intT) x.fNext, LS intT x.fMark] 25 false]⟩ ?_ ?_
  · refine splitB (decide (x.fLetters < 1)) (fun hb0 => ?_) (fun hb0 => ?_)
    · refine WL.setB 8 hb0 (by kernel_rfl) ?_
      refine WL.run ht hn 4 ⟨[(1, .sv (.one (.ptr 0 0))), (12, .sv (.one (B true)))], [.box [I x.fLetters, I x.fStart, LS (lsT intT) x.fNext, LS intT x.fMark] 25 false]⟩ (by kernel_rfl) ?_
      exact WL.nil (sub_ok (by simp only [hb0]; kernel_rfl))
    · refine WL.setB 8 hb0 (by kernel_rfl) ?_
      refine WL.run ht hn 4 ⟨[(1, .sv (.one (.ptr 0 0))), (12, .sv (.one (B (decide (x.fLetters > 4)))))], [.box [I x.fLetters, I x.fStart, LS (lsT intT) x.fNext, LS intT x.fMark] 25 false]⟩ (by kernel_rfl) ?_
      exact WL.nil (sub_ok (by simp only [hb0]; kernel_rfl))
  · refine En.cond (b := ((decide (x.fLetters < 1)) || (decide (x.fLetters > 4)))) (by kernel_rfl) (fun hb => ?_) (fun hb => ?_)
    · replace h := h.1 hb
      refine En.seq ?_
      refine En.region ?_
      refine WL.run ht hn 1 ⟨[(2, .sv (.one (I 2)))], [.gone]⟩ (by kernel_rfl) ?_
      refine WL.nil ?_
      refine En.ret ?_
      exact En.back ht 2 h (by kernel_rfl) rfl
    · replace h := h.2 hb
      refine En.skip ?_
      refine En.seq ?_
      refine En.region ?_
      refine WL.run ht hn 5 ⟨[(1, .sv (.one (.ptr 0 0))), (3, .sv (.one (.ptr 1 0)))], [.box [I x.fLetters, I x.fStart, LS (lsT intT) x.fNext, LS intT x.fMark] 25 false, .box [I (x.fNext.length : Int)] 3 false]⟩ (by kernel_rfl) ?_
      refine WL.nil ?_
      refine En.seq ?_
      refine En.seq ?_
      refine En.region ?_
      refine WL.run ht hn 3 ⟨[(1, .sv (.one (.ptr 0 0))), (3, .sv (.one (.ptr 1 0))), (18, .sv (.one (B (decide ((x.fNext.length : Int) < 1)))))], [.box [I x.fLetters, I x.fStart, LS (lsT intT) x.fNext, LS intT x.fMark] 25 false, .box [I (x.fNext.length : Int)] 3 false]⟩ (by kernel_rfl) ?_
      refine WL.thru ⟨[(1, .sv (.one (.ptr 0 0))), (3, .sv (.one (.ptr 1 0))), (21, .sv (.one (B ((decide ((x.fNext.length : Int) < 1)) || (decide ((x.fNext.length : Int) > 3000))))))], [.box [I x.fLetters, I x.fStart, LS (lsT intT) x.fNext, LS intT x.fMark] 25 false, .box [I (x.fNext.length : Int)] 3 false]⟩ ?_ ?_
      · refine splitB (decide ((x.fNext.length : Int) < 1)) (fun hb0 => ?_) (fun hb0 => ?_)
        · refine WL.setB 18 hb0 (by kernel_rfl) ?_
          refine WL.run ht hn 3 ⟨[(1, .sv (.one (.ptr 0 0))), (3, .sv (.one (.ptr 1 0))), (21, .sv (.one (B true)))], [.box [I x.fLetters, I x.fStart, LS (lsT intT) x.fNext, LS intT x.fMark] 25 false, .box [I (x.fNext.length : Int)] 3 false]⟩ (by kernel_rfl) ?_
          exact WL.nil (sub_ok (by simp only [hb0]; kernel_rfl))
        · refine WL.setB 18 hb0 (by kernel_rfl) ?_
          refine WL.run ht hn 3 ⟨[(1, .sv (.one (.ptr 0 0))), (3, .sv (.one (.ptr 1 0))), (21, .sv (.one (B (decide ((x.fNext.length : Int) > 3000)))))], [.box [I x.fLetters, I x.fStart, LS (lsT intT) x.fNext, LS intT x.fMark] 25 false, .box [I (x.fNext.length : Int)] 3 false]⟩ (by kernel_rfl) ?_
          exact WL.nil (sub_ok (by simp only [hb0]; kernel_rfl))
      · refine En.cond (b := ((decide ((x.fNext.length : Int) < 1)) || (decide ((x.fNext.length : Int) > 3000)))) (by kernel_rfl) (fun hb => ?_) (fun hb => ?_)
        · replace h := h.1 hb
          refine En.seq ?_
          refine En.region ?_
          refine WL.run ht hn 1 ⟨[(2, .sv (.one (I 1)))], [.gone, .gone]⟩ (by kernel_rfl) ?_
          refine WL.nil ?_
          refine En.ret ?_
          exact En.back ht 1 h (by kernel_rfl) rfl
        · replace h := h.2 hb
          refine En.skip ?_
          refine En.seq ?_
          obtain ⟨J, h, hJ⟩ := h
          refine En.seqJ (σ := Bool) (fun zz => J zz) (fun zz => ⟨[(1, .sv (.one (.ptr 0 0))), (3, .sv (.one (.ptr 1 0))), (32, .sv (.one (B zz)))], [.box [I x.fLetters, I x.fStart, LS (lsT intT) x.fNext, LS intT x.fMark] 25 false, .box [I (x.fNext.length : Int)] 3 false]⟩) ?_ ?_
          · refine En.region ?_
            refine WL.run ht hn 6 ⟨[(1, .sv (.one (.ptr 0 0))), (3, .sv (.one (.ptr 1 0))), (27, .sv (.one (B ((x.fMark.length : Int) != (x.fNext.length : Int)))))], [.box [I x.fLetters, I x.fStart, LS (lsT intT) x.fNext, LS intT x.fMark] 25 false, .box [I (x.fNext.length : Int)] 3 false]⟩ (by kernel_rfl) ?_
            refine splitB ((x.fMark.length : Int) != (x.fNext.length : Int)) (fun hb => ?_) (fun hb => ?_)
            · replace h := h.1 hb
              refine WL.setB 27 hb (by kernel_rfl) ?_
              refine WL.run ht hn 5 ⟨[(1, .sv (.one (.ptr 0 0))), (3, .sv (.one (.ptr 1 0))), (32, .sv (.one (B true)))], [.box [I x.fLetters, I x.fStart, LS (lsT intT) x.fNext, LS intT x.fMark] 25 false, .box [I (x.fNext.length : Int)] 3 false]⟩ (by kernel_rfl) ?_
              refine WL.nil ?_
              exact En.at (I := fun zz => J zz) (T := fun zz => ⟨[(1, .sv (.one (.ptr 0 0))), (3, .sv (.one (.ptr 1 0))), (32, .sv (.one (B zz)))], [.box [I x.fLetters, I x.fStart, LS (lsT intT) x.fNext, LS intT x.fMark] 25 false, .box [I (x.fNext.length : Int)] 3 false]⟩) true h (by kernel_rfl)
            · replace h := h.2 hb
              refine WL.setB 27 hb (by kernel_rfl) ?_
              refine WL.run ht hn 3 ⟨[(1, .sv (.one (.ptr 0 0))), (3, .sv (.one (.ptr 1 0))), (27, .sv (.one (B false))), (29, .sv (.one (LS (lsT intT) x.fNext))), (30, .sv (.one (.fn 25 [0])))], [.box [I x.fLetters, I x.fStart, LS (lsT intT) x.fNext, LS intT x.fMark] 25 false, .box [I (x.fNext.length : Int)] 3 false]⟩ (by kernel_rfl) ?_
              have hp := h.1
              replace h := h.2
              refine WL.mt0 (K := []) (p := none) hn (by rfl) (mt_lendF [0] (by rfl) (by rfl) (mt_ghost 30 (.sv (.one (.rd (fvR (fun (x_ : List Int) => [.sv (.one (LS intT x_))]) (fun (r : Bool) => .sv (.one (B r))) (fun _ => True) (fun r => (r.length : Int) != (x).fLetters))))) (by rfl) (fv_of (M := [.box [I x.fLetters, I x.fStart, LS (lsT intT) x.fNext, LS intT x.fMark] 25 true]) (caps := [0]) (fun x_ _ => detC1_ct x_ x) en25 rfl (by kernel_rfl) (by rfl) (fun _ => rfl)) (mt_call (anyLInt_ct x.fNext (fun _ => True) (fun r => (r.length : Int) != (x).fLetters) hp) en24 (caps := []) [] rfl (by rfl) (by kernel_rfl) (by kernel_rfl) (by rfl) (by rfl) (by rfl)))) (by rfl) (by rfl) (by rfl) ?_
              refine WL.run ht hn 1 ⟨[(1, .sv (.one (.ptr 0 0))), (3, .sv (.one (.ptr 1 0))), (32, .sv (.one (B (x.fNext.any (fun r => (r.length : Int) != (x).fLetters)))))], [.box [I x.fLetters, I x.fStart, LS (lsT intT) x.fNext, LS intT x.fMark] 25 false, .box [I (x.fNext.length : Int)] 3 false]⟩ (by kernel_rfl) ?_
              refine WL.nil ?_
              exact En.at (I := fun zz => J zz) (T := fun zz => ⟨[(1, .sv (.one (.ptr 0 0))), (3, .sv (.one (.ptr 1 0))), (32, .sv (.one (B zz)))], [.box [I x.fLetters, I x.fStart, LS (lsT intT) x.fNext, LS intT x.fMark] 25 false, .box [I (x.fNext.length : Int)] 3 false]⟩) (x.fNext.any (fun r => (r.length : Int) != (x).fLetters)) h (by kernel_rfl)
          · intro x32 h
            replace h := hJ _ h
            show En c ⟨[(1, .sv (.one (.ptr 0 0))), (3, .sv (.one (.ptr 1 0))), (32, .sv (.one (B x32)))], [.box [I x.fLetters, I x.fStart, LS (lsT intT) x.fNext, LS intT x.fMark] 25 false, .box [I (x.fNext.length : Int)] 3 false]⟩ _
            refine En.cond (b := x32) (by kernel_rfl) (fun hb => ?_) (fun hb => ?_)
            · replace h := h.1 hb
              refine En.seq ?_
              refine En.region ?_
              refine WL.run ht hn 1 ⟨[(2, .sv (.one (I 3)))], [.gone, .gone]⟩ (by kernel_rfl) ?_
              refine WL.nil ?_
              refine En.ret ?_
              exact En.back ht 3 h (by kernel_rfl) rfl
            · replace h := h.2 hb
              refine En.skip ?_
              refine En.seq ?_
              refine En.region ?_
              refine WL.run ht hn 3 ⟨[(1, .sv (.one (.ptr 0 0))), (4, .sv (.one (.ptr 2 0)))], [.box [I x.fLetters, I x.fStart, LS (lsT intT) x.fNext, LS intT x.fMark] 25 false, .box [I (x.fNext.length : Int)] 3 false, .box [.fn 26 [1]] 58 false]⟩ (by kernel_rfl) ?_
              refine WL.nil ?_
              refine En.seq ?_
              obtain ⟨J_2, h, hJ_2⟩ := h
              refine En.seqJ (σ := Bool) (fun zz => J_2 zz) (fun zz => ⟨[(1, .sv (.one (.ptr 0 0))), (43, .sv (.one (B zz)))], [.box [I x.fLetters, I x.fStart, LS (lsT intT) x.fNext, LS intT x.fMark] 25 false, .gone, .gone]⟩) ?_ ?_
              · refine En.region ?_
                refine WL.run ht hn 3 ⟨[(1, .sv (.one (.ptr 0 0))), (4, .sv (.one (.ptr 2 0))), (34, .sv (.one (.fn 26 [1]))), (36, .sv (.one (I x.fStart)))], [.box [I x.fLetters, I x.fStart, LS (lsT intT) x.fNext, LS intT x.fMark] 25 false, .box [I (x.fNext.length : Int)] 3 false, .box [.fn 26 [1]] 58 false]⟩ (by kernel_rfl) ?_
                refine WL.freeze [1] (by rfl) ?_
                refine WL.ghost 34 (.sv (.one (.rd (fvR (fun (x_ : Int) => [.sv (.one (I x_))]) (fun (r : Bool) => .sv (.one (B r))) (fun _ => True) (altNo (x.fNext.length : Int)))))) (by rfl) (fv_of (M := [.box [I (x.fNext.length : Int)] 3 true]) (caps := [1]) (fun x_ _ => detC2_ct x_ (x.fNext.length : Int)) en26 rfl (by kernel_rfl) (by rfl) (fun _ => rfl)) ?_
                have hp := h.1
                replace h := h.2
                refine WL.mt0 (K := []) (p := none) hn (by rfl) (mt_callv x.fStart hp rfl (by rfl) (by rfl) (by rfl) (by rfl)) (by rfl) (by rfl) (by rfl) ?_
                refine WL.run ht hn 1 ⟨[(1, .sv (.one (.ptr 0 0))), (4, .sv (.one (.ptr 2 0))), (38, .sv (.one (B ((altNo (x.fNext.length : Int)) x.fStart))))], [.box [I x.fLetters, I x.fStart, LS (lsT intT) x.fNext, LS intT x.fMark] 25 false, .box [I (x.fNext.length : Int)] 3 true, .box [.fn 26 [1]] 58 false]⟩ (by kernel_rfl) ?_
                refine splitB ((altNo (x.fNext.length : Int)) x.fStart) (fun hb => ?_) (fun hb => ?_)
                · replace h := h.1 hb
                  refine WL.setB 38 hb (by kernel_rfl) ?_
                  refine WL.run ht hn 5 ⟨[(1, .sv (.one (.ptr 0 0))), (43, .sv (.one (B true)))], [.box [I x.fLetters, I x.fStart, LS (lsT intT) x.fNext, LS intT x.fMark] 25 false, .gone, .gone]⟩ (by kernel_rfl) ?_
                  refine WL.nil ?_
                  exact En.at (I := fun zz => J_2 zz) (T := fun zz => ⟨[(1, .sv (.one (.ptr 0 0))), (43, .sv (.one (B zz)))], [.box [I x.fLetters, I x.fStart, LS (lsT intT) x.fNext, LS intT x.fMark] 25 false, .gone, .gone]⟩) true h (by kernel_rfl)
                · replace h := h.2 hb
                  refine WL.setB 38 hb (by kernel_rfl) ?_
                  refine WL.run ht hn 3 ⟨[(1, .sv (.one (.ptr 0 0))), (38, .sv (.one (B false))), (40, .sv (.one (LS (lsT intT) x.fNext))), (41, .sv (.one (.fn 27 [2])))], [.box [I x.fLetters, I x.fStart, LS (lsT intT) x.fNext, LS intT x.fMark] 25 false, .box [I (x.fNext.length : Int)] 3 true, .box [.fn 26 [1]] 58 false]⟩ (by kernel_rfl) ?_
                  have hp := h.1
                  replace h := h.2
                  refine WL.mt0 (K := []) (p := none) hn (by rfl) (mt_lendB (.rd (fvR (fun (x_ : Int) => [.sv (.one (I x_))]) (fun (r : Bool) => .sv (.one (B r))) (fun _ => True) (altNo (x.fNext.length : Int)))) 2 0 (by rfl) (by rfl) (fv_at (fv_of (M := [.box [I (x.fNext.length : Int)] 3 true]) (caps := [1]) (fun x_ _ => detC2_ct x_ (x.fNext.length : Int)) en26 rfl (by kernel_rfl) (by rfl) (fun _ => rfl))) (mt_lendF [2] (by rfl) (by rfl) (mt_ghost 41 (.sv (.one (.rd (fvR (fun (x_ : List Int) => [.sv (.one (LS intT x_))]) (fun (r : Bool) => .sv (.one (B r))) (fun l => ∀ x ∈ l, (fun _ => True) x) (fun l => l.any (altNo (x.fNext.length : Int))))))) (by rfl) (fv_of (M := [.box [.rd (fvR (fun (x_ : Int) => [.sv (.one (I x_))]) (fun (r : Bool) => .sv (.one (B r))) (fun _ => True) (altNo (x.fNext.length : Int)))] 58 true]) (caps := [2]) (fun x_ hx => detC3_ct x_ (fun _ => True) (altNo (x.fNext.length : Int)) hx) en27 rfl (by kernel_rfl) (by rfl) (fun _ => rfl)) (mt_call (anyLInt_ct x.fNext (fun l => ∀ x ∈ l, (fun _ => True) x) (fun l => l.any (altNo (x.fNext.length : Int))) hp) en24 (caps := []) [] rfl (by rfl) (by kernel_rfl) (by kernel_rfl) (by rfl) (by rfl) (by rfl))))) (by rfl) (by rfl) (by rfl) ?_
                  refine WL.run ht hn 1 ⟨[(1, .sv (.one (.ptr 0 0))), (43, .sv (.one (B (x.fNext.any (fun l => l.any (altNo (x.fNext.length : Int)))))))], [.box [I x.fLetters, I x.fStart, LS (lsT intT) x.fNext, LS intT x.fMark] 25 false, .gone, .gone]⟩ (by kernel_rfl) ?_
                  refine WL.nil ?_
                  exact En.at (I := fun zz => J_2 zz) (T := fun zz => ⟨[(1, .sv (.one (.ptr 0 0))), (43, .sv (.one (B zz)))], [.box [I x.fLetters, I x.fStart, LS (lsT intT) x.fNext, LS intT x.fMark] 25 false, .gone, .gone]⟩) (x.fNext.any (fun l => l.any (altNo (x.fNext.length : Int)))) h (by kernel_rfl)
              · intro x43 h
                replace h := hJ_2 _ h
                show En c ⟨[(1, .sv (.one (.ptr 0 0))), (43, .sv (.one (B x43)))], [.box [I x.fLetters, I x.fStart, LS (lsT intT) x.fNext, LS intT x.fMark] 25 false, .gone, .gone]⟩ _
                refine En.cond (b := x43) (by kernel_rfl) (fun hb => ?_) (fun hb => ?_)
                · replace h := h.1 hb
                  refine En.seq ?_
                  refine En.region ?_
                  refine WL.run ht hn 1 ⟨[(2, .sv (.one (I 2)))], [.gone, .gone, .gone]⟩ (by kernel_rfl) ?_
                  refine WL.nil ?_
                  refine En.ret ?_
                  exact En.back ht 2 h (by kernel_rfl) rfl
                · replace h := h.2 hb
                  refine En.skip ?_
                  refine En.seq ?_
                  refine En.seq ?_
                  refine En.region ?_
                  refine WL.run ht hn 2 ⟨[(45, .sv (.one (LS intT x.fMark)))], [.gone, .gone, .gone]⟩ (by kernel_rfl) ?_
                  have hp := h.1
                  replace h := h.2
                  refine WL.mt0 (K := []) (p := none) hn (by rfl) (mt_call (Ct.args (anyInt_ct x.fMark (fun _ => True) (fun m => (m != 0) && (m != 1)) hp) (argLe_same (argLe_to (fv_const (ins := (fun (x_ : Int) => [.sv (.one (I x_))])) (out := (fun (r : Bool) => .sv (.one (B r)))) (dom := (fun _ => True)) (φ := (fun m => (m != 0) && (m != 1))) (fun x_ _ => detC4_ct x_) en29) argLe_nil))) en28 (caps := []) [] rfl (by rfl) (by kernel_rfl) (by kernel_rfl) (by rfl) (by rfl) (by rfl)) (by rfl) (by rfl) (by rfl) ?_
                  refine WL.nil ?_
                  refine En.cond (b := (x.fMark.any (fun m => (m != 0) && (m != 1)))) (by kernel_rfl) (fun hb => ?_) (fun hb => ?_)
                  · replace h := h.1 hb
                    refine En.seq ?_
                    refine En.region ?_
                    refine WL.run ht hn 1 ⟨[(2, .sv (.one (I 2)))], [.gone, .gone, .gone]⟩ (by kernel_rfl) ?_
                    refine WL.nil ?_
                    refine En.ret ?_
                    exact En.back ht 2 h (by kernel_rfl) rfl
                  · replace h := h.2 hb
                    refine En.skip ?_
                    refine En.seq ?_
                    refine En.region ?_
                    refine WL.run ht hn 1 ⟨[(2, .sv (.one (I 0)))], [.gone, .gone, .gone]⟩ (by kernel_rfl) ?_
                    refine WL.nil ?_
                    refine En.ret ?_
                    exact En.back ht 0 h (by kernel_rfl) rfl
theorem en13 : ∀ args w, (callFunc 13 args).run Tryz.prog w = .ok (.enter 13 args) w := enters_of Tryz.func13 (by kernel_rfl) rfl
theorem detCheck_ct (x : ApiDet)  : Ct 13 [.sv (.agg [I x.fLetters, I x.fStart, LS (lsT intT) x.fNext, LS intT x.fMark])] [] (fun (_ : Unit) => True) (fun _ => .sv (.one (I (detErr x)))) := by
  refine (detCheck_walk x (fun res_ => res_ = (detErr x)) ?_).fun
  intro _ _
  refine ⟨fun h1 => ?_, fun h1 => ⟨fun h2 => ?_, fun h2 => ?_⟩⟩
  · show _ = detErr x
    unfold detErr; rw [if_pos h1]
  · show _ = detErr x
    unfold detErr; rw [if_neg (by rw [h1]; decide), if_pos h2]
  refine ⟨fun b => b = (((x.fMark.length : Int) != (x.fNext.length : Int)) || x.fNext.any (fun r => (r.length : Int) != (x).fLetters)), ⟨fun h => by rw [h]; rfl, fun h => ⟨fun _ _ => trivial, by rw [h]; rfl⟩⟩, ?_⟩
  rintro b rfl
  refine ⟨fun h3 => ?_, fun h3 => ?_⟩
  · show _ = detErr x
    unfold detErr; rw [if_neg (by rw [h1]; decide), if_neg (by rw [h2]; decide), if_pos h3]
  refine ⟨fun b => b = (altNo (x.fNext.length : Int) x.fStart || x.fNext.any (fun l => l.any (altNo (x.fNext.length : Int)))), ⟨trivial, fun h => by rw [h]; rfl, fun h => ⟨fun _ _ _ _ => trivial, by rw [h]; rfl⟩⟩, ?_⟩
  rintro b rfl
  refine ⟨fun h4 => ?_, fun h4 => ⟨fun _ _ => trivial, fun h5 => ?_, fun h5 => ?_⟩⟩
  · show _ = detErr x
    unfold detErr; rw [if_neg (by rw [h1]; decide), if_neg (by rw [h2]; decide), if_neg (by rw [h3]; decide), if_pos h4]
  · show _ = detErr x
    unfold detErr; rw [if_neg (by rw [h1]; decide), if_neg (by rw [h2]; decide), if_neg (by rw [h3]; decide), if_neg (by rw [h4]; decide), if_pos h5]
  · show _ = detErr x
    unfold detErr; rw [if_neg (by rw [h1]; decide), if_neg (by rw [h2]; decide), if_neg (by rw [h3]; decide), if_neg (by rw [h4]; decide), if_neg (by rw [h5]; decide)]
def pCtd_vc (letters : Int) (counts : List Int) (most : Int) (Q : Int → Prop) : Prop :=
  counts.length ≤ 9223372036854775807 →
  (IfP ((counts.length : Int) != letters) (Q 3) (∃ (Inv : Int → Int → Prop) (mu : Int → Int → Nat), Inv 0 0 ∧
  ∀ (x7 : Int) (x16 : Int) , Inv x7 x16 → (IfP (decide (x16 < (counts.length : Int))) (∃ e, idx counts x16 = some e ∧
  IfP ((decide (e < 0)) || (decide (e > 6))) (Q 2) ((Inv (wr (x7 + e)) (wr (x16 + 1)) ∧ mu (wr (x7 + e)) (wr (x16 + 1)) < mu x7 x16))) (IfP (decide (x7 > most)) (Q 1) (Q 0)))))
theorem pCtd_walk (letters : Int) (counts : List Int) (most : Int) (Q : Int → Prop) (h : pCtd_vc letters counts most Q) : Ct 14 [.sv (.one (I letters)), .sv (.one (LS intT counts)), .sv (.one (I most))] [] Q (fun (r : Int) => .sv (.one (I r))) := by
  have ht := tab_ok
  refine Ct.body Tryz.func14 rfl rfl rfl rfl (fun c hn => ?_)
  unfold pCtd_vc at h
  refine En.lenL 1 (by rfl) (fun hl => ?_)
  replace h := h hl
  clear hl
  refine En.seq ?_
  refine En.region ?_
  refine WL.run ht hn 1 ⟨[(0, .sv (.one (I letters))), (1, .sv (.one (LS intT counts))), (2, .sv (.one (I most)))], []⟩ (by kernel_rfl) ?_
  refine WL.nil ?_
  refine En.seq ?_
  refine En.seq ?_
  refine En.region ?_
  refine WL.run ht hn 4 ⟨[(1, .sv (.one (LS intT counts))), (2, .sv (.one (I most))), (13, .sv (.one (B ((counts.length : Int) != letters))))], []⟩ (by kernel_rfl) ?_
  refine WL.nil ?_
  refine En.cond (b := ((counts.length : Int) != letters)) (by kernel_rfl) (fun hb => ?_) (fun hb => ?_)
  · replace h := h.1 hb
    refine En.seq ?_
    refine En.region ?_
    refine WL.run ht hn 1 ⟨[(6, .sv (.one (I 3)))], []⟩ (by kernel_rfl) ?_
    refine WL.nil ?_
    refine En.ret ?_
    exact En.back ht 3 h (by kernel_rfl) rfl
  · replace h := h.2 hb
    refine En.skip ?_
    refine En.seq ?_
    refine En.region ?_
    refine WL.run ht hn 1 ⟨[(1, .sv (.one (LS intT counts))), (2, .sv (.one (I most))), (7, .sv (.one (I 0)))], []⟩ (by kernel_rfl) ?_
    refine WL.nil ?_
    refine En.seq ?_
    refine En.seq ?_
    refine En.region ?_
    refine WL.run ht hn 3 ⟨[(2, .sv (.one (I most))), (7, .sv (.one (I 0))), (14, .sv (.one (LS intT counts))), (15, .sv (.one (I (counts.length : Int)))), (16, .sv (.one (I 0)))], []⟩ (by kernel_rfl) ?_
    refine WL.nil ?_
    refine En.block ?_
    obtain ⟨Inv, mu, h0, hI⟩ := h
    refine En.loop (σ := Int × Int) (fun zz => Inv zz.1 zz.2) (fun zz => mu zz.1 zz.2) (fun zz => ⟨[(2, .sv (.one (I most))), (7, .sv (.one (I zz.1))), (14, .sv (.one (LS intT counts))), (15, .sv (.one (I (counts.length : Int)))), (16, .sv (.one (I zz.2)))], []⟩) (0, 0) h0 (sub_ok (by kernel_rfl)) ?_
    rintro ⟨x7, x16⟩ h
    replace h := hI _ _ h
    show En c ⟨[(2, .sv (.one (I most))), (7, .sv (.one (I x7))), (14, .sv (.one (LS intT counts))), (15, .sv (.one (I (counts.length : Int)))), (16, .sv (.one (I x16)))], []⟩ _
    refine En.seq ?_
    refine En.region ?_
    refine WL.run ht hn 1 ⟨[(2, .sv (.one (I most))), (7, .sv (.one (I x7))), (14, .sv (.one (LS intT counts))), (15, .sv (.one (I (counts.length : Int)))), (16, .sv (.one (I x16))), (17, .sv (.one (B (decide (x16 < (counts.length : Int))))))], []⟩ (by kernel_rfl) ?_
    refine WL.nil ?_
    refine En.seq ?_
    refine En.cond (b := (decide (x16 < (counts.length : Int)))) (by kernel_rfl) (fun hb => ?_) (fun hb => ?_)
    · replace h := h.1 hb
      refine En.skip ?_
      refine En.seq ?_
      refine En.block ?_
      refine En.seq ?_
      refine En.region ?_
      obtain ⟨e, he, h⟩ := h
      refine WL.val hn (by rfl) (val_index (T := intT) (l := counts) (i := x16) ht rfl (by rfl) (by rfl) (by rfl) (by rfl) (by rfl) (by rfl) he) (by rfl) ?_
      refine WL.val hn (by rfl) (val_load (s := .one (I e)) ht rfl (by rfl) (by rfl) (by rfl) (by rfl) (by rfl)) (by rfl) ?_
      refine WL.run ht hn 1 ⟨[(2, .sv (.one (I most))), (7, .sv (.one (I x7))), (9, .sv (.one (I e))), (14, .sv (.one (LS intT counts))), (15, .sv (.one (I (counts.length : Int)))), (16, .sv (.one (I x16)))], []⟩ (by kernel_rfl) ?_
      refine WL.nil ?_
      refine En.seq ?_
      refine En.seq ?_
      refine En.region ?_
      refine WL.run ht hn 3 ⟨[(2, .sv (.one (I most))), (7, .sv (.one (I x7))), (9, .sv (.one (I e))), (14, .sv (.one (LS intT counts))), (15, .sv (.one (I (counts.length : Int)))), (16, .sv (.one (I x16))), (22, .sv (.one (B (decide (e < 0)))))], []⟩ (by kernel_rfl) ?_
      refine WL.thru ⟨[(2, .sv (.one (I most))), (7, .sv (.one (I x7))), (9, .sv (.one (I e))), (14, .sv (.one (LS intT counts))), (15, .sv (.one (I (counts.length : Int)))), (16, .sv (.one (I x16))), (25, .sv (.one (B ((decide (e < 0)) || (decide (e > 6))))))], []⟩ ?_ ?_
      · refine splitB (decide (e < 0)) (fun hb0 => ?_) (fun hb0 => ?_)
        · refine WL.setB 22 hb0 (by kernel_rfl) ?_
          refine WL.run ht hn 3 ⟨[(2, .sv (.one (I most))), (7, .sv (.one (I x7))), (9, .sv (.one (I e))), (14, .sv (.one (LS intT counts))), (15, .sv (.one (I (counts.length : Int)))), (16, .sv (.one (I x16))), (25, .sv (.one (B true)))], []⟩ (by kernel_rfl) ?_
          exact WL.nil (sub_ok (by simp only [hb0]; kernel_rfl))
        · refine WL.setB 22 hb0 (by kernel_rfl) ?_
          refine WL.run ht hn 3 ⟨[(2, .sv (.one (I most))), (7, .sv (.one (I x7))), (9, .sv (.one (I e))), (14, .sv (.one (LS intT counts))), (15, .sv (.one (I (counts.length : Int)))), (16, .sv (.one (I x16))), (25, .sv (.one (B (decide (e > 6)))))], []⟩ (by kernel_rfl) ?_
          exact WL.nil (sub_ok (by simp only [hb0]; kernel_rfl))
      · refine En.cond (b := ((decide (e < 0)) || (decide (e > 6)))) (by kernel_rfl) (fun hb => ?_) (fun hb => ?_)
        · replace h := h.1 hb
          refine En.seq ?_
          refine En.region ?_
          refine WL.run ht hn 1 ⟨[(6, .sv (.one (I 2)))], []⟩ (by kernel_rfl) ?_
          refine WL.nil ?_
          refine En.ret ?_
          exact En.back ht 2 h (by kernel_rfl) rfl
        · replace h := h.2 hb
          refine En.skip ?_
          refine En.region ?_
          refine WL.run ht hn 4 ⟨[(2, .sv (.one (I most))), (7, .sv (.one (I (wr (x7 + e))))), (14, .sv (.one (LS intT counts))), (15, .sv (.one (I (counts.length : Int)))), (16, .sv (.one (I x16)))], []⟩ (by kernel_rfl) ?_
          refine WL.nil ?_
          refine En.region ?_
          refine WL.run ht hn 2 ⟨[(2, .sv (.one (I most))), (7, .sv (.one (I (wr (x7 + e))))), (14, .sv (.one (LS intT counts))), (15, .sv (.one (I (counts.length : Int)))), (16, .sv (.one (I (wr (x16 + 1)))))], []⟩ (by kernel_rfl) ?_
          refine WL.nil ?_
          exact En.at (I := fun zz => Inv zz.1 zz.2 ∧ mu zz.1 zz.2 < mu x7 x16) (T := fun zz => ⟨[(2, .sv (.one (I most))), (7, .sv (.one (I zz.1))), (14, .sv (.one (LS intT counts))), (15, .sv (.one (I (counts.length : Int)))), (16, .sv (.one (I zz.2)))], []⟩) ((wr (x7 + e)), (wr (x16 + 1))) h (by kernel_rfl)
    · replace h := h.2 hb
      refine En.exit rfl ?_
      refine En.seq ?_
      refine En.seq ?_
      refine En.region ?_
      refine WL.run ht hn 3 ⟨[(32, .sv (.one (B (decide (x7 > most)))))], []⟩ (by kernel_rfl) ?_
      refine WL.nil ?_
      refine En.cond (b := (decide (x7 > most))) (by kernel_rfl) (fun hb => ?_) (fun hb => ?_)
      · replace h := h.1 hb
        refine En.seq ?_
        refine En.region ?_
        refine WL.run ht hn 1 ⟨[(6, .sv (.one (I 1)))], []⟩ (by kernel_rfl) ?_
        refine WL.nil ?_
        refine En.ret ?_
        exact En.back ht 1 h (by kernel_rfl) rfl
      · replace h := h.2 hb
        refine En.skip ?_
        refine En.seq ?_
        refine En.region ?_
        refine WL.run ht hn 1 ⟨[(6, .sv (.one (I 0)))], []⟩ (by kernel_rfl) ?_
        refine WL.nil ?_
        refine En.ret ?_
        exact En.back ht 0 h (by kernel_rfl) rfl
theorem en14 : ∀ args w, (callFunc 14 args).run Tryz.prog w = .ok (.enter 14 args) w := enters_of Tryz.func14 (by kernel_rfl) rfl
def pBeh_vc (d : ApiDet) (K : List (ParikhPlace × (Option MathBigInt))) (p : ParikhPlace) (a : Int) (Q : ParikhPlace → Prop) : Prop :=
  (0 ≤ a ∧ a < 4) ∧
  (0 ≤ a ∧ a < 4) ∧
  ∃ e, idx d.fNext p.fQ = some e ∧
  ∃ e_2, idx e a = some e_2 ∧
  Q (ParikhPlace.mk e_2 (St38.put p.fLeft a (wr ((arrG (St38.l p.fLeft) a) - 1))))
theorem pBeh_walk (d : ApiDet) (K : List (ParikhPlace × (Option MathBigInt))) (p : ParikhPlace) (a : Int) (Q : ParikhPlace → Prop) (h : pBeh_vc d K p a Q) : CtE 11 [.sv (.one (.ptr 0 0)), .sv (.agg [I p.fQ, I p.fLeft.fE0, I p.fLeft.fE1, I p.fLeft.fE2, I p.fLeft.fE3]), .sv (.one (I a))] [.box [I d.fLetters, I d.fStart, LS (lsT intT) d.fNext, LS intT d.fMark, .own 1] 37 false, mapI ParikhPlace.enc (optT MathBigInt.ty) K] [0] Q (fun (r : ParikhPlace) => .sv (.agg [I r.fQ, I r.fLeft.fE0, I r.fLeft.fE1, I r.fLeft.fE2, I r.fLeft.fE3])) (fun (r : ParikhPlace) => [.box [I d.fLetters, I d.fStart, LS (lsT intT) d.fNext, LS intT d.fMark, .own 1] 37 false, mapI ParikhPlace.enc (optT MathBigInt.ty) K]) := by
  have ht := tab_ok
  refine CtE.body Tryz.func11 rfl rfl rfl (by kernel_rfl) (by kernel_rfl) (fun c Bk hn => ?_)
  unfold pBeh_vc at h
  show En c ⟨[(0, .sv (.one (.pptr 0 0 (Bk 0)))), (1, .sv (.agg [I p.fQ, I p.fLeft.fE0, I p.fLeft.fE1, I p.fLeft.fE2, I p.fLeft.fE3])), (2, .sv (.one (I a)))], [.box [I d.fLetters, I d.fStart, LS (lsT intT) d.fNext, LS intT d.fMark, .own 1] 37 false, mapI ParikhPlace.enc (optT MathBigInt.ty) K]⟩ _
  refine En.seq ?_
  refine En.region ?_
  refine WL.run ht hn 2 ⟨[(0, .sv (.one (.pptr 0 0 (Bk 0)))), (2, .sv (.one (I a))), (4, .sv (.one (.ptr 2 0))), (6, .sv (.one (.ptr 3 0)))], [.box [I d.fLetters, I d.fStart, LS (lsT intT) d.fNext, LS intT d.fMark, .own 1] 37 false, mapI ParikhPlace.enc (optT MathBigInt.ty) K, .box [I p.fQ, I p.fLeft.fE0, I p.fLeft.fE1, I p.fLeft.fE2, I p.fLeft.fE3] 40 false, .box [I 0, I 0, I 0, I 0, I 0] 40 false]⟩ (by kernel_rfl) ?_
  refine WL.nil ?_
  refine En.seq ?_
  refine En.region ?_
  refine WL.run ht hn 2 ⟨[(0, .sv (.one (.pptr 0 0 (Bk 0)))), (2, .sv (.one (I a))), (4, .sv (.one (.ptr 2 0))), (6, .sv (.one (.ptr 3 0))), (7, .sv (.one (I a))), (8, .sv (.one (.ptr 2 1)))], [.box [I d.fLetters, I d.fStart, LS (lsT intT) d.fNext, LS intT d.fMark, .own 1] 37 false, mapI ParikhPlace.enc (optT MathBigInt.ty) K, .box [I p.fQ, I p.fLeft.fE0, I p.fLeft.fE1, I p.fLeft.fE2, I p.fLeft.fE3] 40 false, .box [I 0, I 0, I 0, I 0, I 0] 40 false]⟩ (by kernel_rfl) ?_
  have hk := h.1
  replace h := h.2
  refine WL.val hn (by rfl) (val_indexP (k := a) 2 1 (1 + (a : Int).toNat * 1) ht rfl Tryz.underlying38 (by rfl) (by rfl) (by rfl) (by rfl) hk rfl) (by rfl) ?_
  refine WL.val hn (by rfl) (val_loadPO (St38.l p.fLeft) (k := a) (m := 4) 1 ht rfl (by rfl) (by rfl) (by rfl) (by rfl) (by rfl) (by rfl) (by rfl) (by omega) (by omega)) (by rfl) ?_
  refine WL.run ht hn 2 ⟨[(0, .sv (.one (.pptr 0 0 (Bk 0)))), (2, .sv (.one (I a))), (4, .sv (.one (.ptr 2 0))), (6, .sv (.one (.ptr 3 0))), (7, .sv (.one (I a))), (11, .sv (.one (I (wr ((arrG (St38.l p.fLeft) a) - 1))))), (12, .sv (.one (.ptr 2 1)))], [.box [I d.fLetters, I d.fStart, LS (lsT intT) d.fNext, LS intT d.fMark, .own 1] 37 false, mapI ParikhPlace.enc (optT MathBigInt.ty) K, .box [I p.fQ, I p.fLeft.fE0, I p.fLeft.fE1, I p.fLeft.fE2, I p.fLeft.fE3] 40 false, .box [I 0, I 0, I 0, I 0, I 0] 40 false]⟩ (by kernel_rfl) ?_
  have hk_2 := h.1
  replace h := h.2
  refine WL.val hn (by rfl) (val_indexP (k := a) 2 1 (1 + (a : Int).toNat * 1) ht rfl Tryz.underlying38 (by rfl) (by rfl) (by rfl) (by rfl) hk_2 rfl) (by rfl) ?_
  refine WL.storePO (St38.l p.fLeft) (k := a) (v := (wr ((arrG (St38.l p.fLeft) a) - 1))) (m := 4) 1 ht hn (by rfl) rfl (by rfl) (by rfl) (by rfl) (by rfl) (by rfl) (by rfl) (by rfl) (by rfl) (by omega) (by omega) (by rfl) ?_
  refine WL.nil ?_
  refine En.seq ?_
  obtain ⟨e, he, h⟩ := h
  obtain ⟨e_2, he_2, h⟩ := h
  refine En.regionA ⟨[(0, .sv (.one (.pptr 0 0 (Bk 0)))), (2, .sv (.one (I a))), (4, .sv (.one (.ptr 2 0))), (6, .sv (.one (.ptr 3 0)))], [.sv (.one (.ptr 0 0)), .sv (.one (.ptr 0 0)), .sv (.one (.ptr 0 0)), .sv (.one (.ptr 0 2)), .sv (.one (LS (lsT intT) d.fNext)), .sv (.one (.ptr 2 0)), .sv (.one (I p.fQ)), .sv (.one (.pe (svR (.one (LS intT e))) 1)), .sv (.one (LS intT e)), .sv (.one (I a)), .sv (.one (.pe (svR (.one (I e_2))) 1)), .sv (.one (I e_2)), .sv (.one (.ptr 2 0)), .tup []], [⟨.box [I d.fLetters, I d.fStart, LS (lsT intT) d.fNext, LS intT d.fMark, .own 1] 37 false, none, none, none⟩, ⟨mapI ParikhPlace.enc (optT MathBigInt.ty) K, none, none, none⟩, ⟨.box [I p.fQ, I (St38.put p.fLeft a (wr ((arrG (St38.l p.fLeft) a) - 1))).fE0, I (St38.put p.fLeft a (wr ((arrG (St38.l p.fLeft) a) - 1))).fE1, I (St38.put p.fLeft a (wr ((arrG (St38.l p.fLeft) a) - 1))).fE2, I (St38.put p.fLeft a (wr ((arrG (St38.l p.fLeft) a) - 1))).fE3] 40 false, none, none, some (13, .box [I e_2, I (St38.put p.fLeft a (wr ((arrG (St38.l p.fLeft) a) - 1))).fE0, I (St38.put p.fLeft a (wr ((arrG (St38.l p.fLeft) a) - 1))).fE1, I (St38.put p.fLeft a (wr ((arrG (St38.l p.fLeft) a) - 1))).fE2, I (St38.put p.fLeft a (wr ((arrG (St38.l p.fLeft) a) - 1))).fE3] 40 false)⟩, ⟨.box [I 0, I 0, I 0, I 0, I 0] 40 false, none, none, none⟩]⟩ ⟨[(0, .sv (.one (.pptr 0 0 (Bk 0)))), (4, .sv (.one (.ptr 2 0))), (6, .sv (.one (.ptr 3 0)))], [.box [I d.fLetters, I d.fStart, LS (lsT intT) d.fNext, LS intT d.fMark, .own 1] 37 false, mapI ParikhPlace.enc (optT MathBigInt.ty) K, .box [I e_2, I (St38.put p.fLeft a (wr ((arrG (St38.l p.fLeft) a) - 1))).fE0, I (St38.put p.fLeft a (wr ((arrG (St38.l p.fLeft) a) - 1))).fE1, I (St38.put p.fLeft a (wr ((arrG (St38.l p.fLeft) a) - 1))).fE2, I (St38.put p.fLeft a (wr ((arrG (St38.l p.fLeft) a) - 1))).fE3] 40 false, .box [I 0, I 0, I 0, I 0, I 0] 40 false]⟩ (by kernel_rfl) hn (by kernel_rfl) (by rfl) (by kernel_rfl) ?_ (by kernel_rfl) ?_
  · exact ⟨.mt ⟨[(0, .sv (.one (.pptr 0 0 (Bk 0))))], []⟩ [] none (by kernel_rfl) (by rfl) (mt_ev ht (by kernel_rfl)) rfl rfl rfl rfl,
    .mt ⟨[(14, .sv (.one (.ptr 0 0)))], []⟩ [] none (by kernel_rfl) (by rfl) (mt_ev ht (by kernel_rfl)) rfl rfl rfl rfl,
    .mt ⟨[(15, .sv (.one (.ptr 0 0)))], []⟩ [] none (by kernel_rfl) (by rfl) (mt_ev ht (by kernel_rfl)) rfl rfl rfl rfl,
    .mt ⟨[(16, .sv (.one (.ptr 0 0)))], []⟩ [] none (by kernel_rfl) (by rfl) (mt_ev ht (by kernel_rfl)) rfl rfl rfl rfl,
    .mt ⟨[(17, .sv (.one (.ptr 0 2)))], [.box [I d.fLetters, I d.fStart, LS (lsT intT) d.fNext, LS intT d.fMark, .own 1] 37 false]⟩ [] none (by kernel_rfl) (by rfl) (mt_ev ht (by kernel_rfl)) rfl rfl rfl rfl,
    .mt ⟨[(4, .sv (.one (.ptr 2 0)))], []⟩ [] none (by kernel_rfl) (by rfl) (mt_ev ht (by kernel_rfl)) rfl rfl rfl rfl,
    .mt ⟨[(19, .sv (.one (.ptr 2 0)))], [.gone, .gone, .box [I p.fQ, I (St38.put p.fLeft a (wr ((arrG (St38.l p.fLeft) a) - 1))).fE0, I (St38.put p.fLeft a (wr ((arrG (St38.l p.fLeft) a) - 1))).fE1, I (St38.put p.fLeft a (wr ((arrG (St38.l p.fLeft) a) - 1))).fE2, I (St38.put p.fLeft a (wr ((arrG (St38.l p.fLeft) a) - 1))).fE3] 40 false]⟩ [] none (by kernel_rfl) (by rfl) (mt_ev ht (by kernel_rfl)) rfl rfl rfl rfl,
    .mt ⟨[(18, .sv (.one (LS (lsT intT) d.fNext))), (20, .sv (.one (I p.fQ)))], []⟩ [] none (by kernel_rfl) (by rfl) (mt_val (val_index (T := (lsT intT)) (l := d.fNext) (i := p.fQ) ht rfl (by rfl) (by rfl) (by rfl) (by rfl) (by rfl) (by rfl) he)) rfl rfl rfl rfl,
    .mt ⟨[(21, .sv (.one (.pe (svR (.one (LS intT e))) 1)))], []⟩ [] none (by kernel_rfl) (by rfl) (mt_val (val_load (s := .one (LS intT e)) ht rfl (by rfl) (by rfl) (by rfl) (by rfl) (by rfl))) rfl rfl rfl rfl,
    .mt ⟨[(2, .sv (.one (I a)))], []⟩ [] none (by kernel_rfl) (by rfl) (mt_ev ht (by kernel_rfl)) rfl rfl rfl rfl,
    .mt ⟨[(22, .sv (.one (LS intT e))), (23, .sv (.one (I a)))], []⟩ [] none (by kernel_rfl) (by rfl) (mt_val (val_index (T := intT) (l := e) (i := a) ht rfl (by rfl) (by rfl) (by rfl) (by rfl) (by rfl) (by rfl) he_2)) rfl rfl rfl rfl,
    .mt ⟨[(24, .sv (.one (.pe (svR (.one (I e_2))) 1)))], []⟩ [] none (by kernel_rfl) (by rfl) (mt_val (val_load (s := .one (I e_2)) ht rfl (by rfl) (by rfl) (by rfl) (by rfl) (by rfl))) rfl rfl rfl rfl,
    .mt ⟨[(4, .sv (.one (.ptr 2 0)))], []⟩ [] none (by kernel_rfl) (by rfl) (mt_ev ht (by kernel_rfl)) rfl rfl rfl rfl,
    .mu ⟨[(25, .sv (.one (I e_2))), (26, .sv (.one (.ptr 2 0)))], [.gone, .gone, .box [I p.fQ, I (St38.put p.fLeft a (wr ((arrG (St38.l p.fLeft) a) - 1))).fE0, I (St38.put p.fLeft a (wr ((arrG (St38.l p.fLeft) a) - 1))).fE1, I (St38.put p.fLeft a (wr ((arrG (St38.l p.fLeft) a) - 1))).fE2, I (St38.put p.fLeft a (wr ((arrG (St38.l p.fLeft) a) - 1))).fE3] 40 false]⟩ 2 _ _ rfl rfl (by kernel_rfl) (by rfl) (mu_store2 ht rfl (by rfl) (by rfl) (by rfl) (by rfl) (fun h => by cases h) (by rfl) (by rfl)) rfl rfl rfl rfl rfl rfl rfl,
    trivial⟩
  · refine En.seq ?_
    refine En.region ?_
    refine WL.run ht hn 2 ⟨[(0, .sv (.one (.pptr 0 0 (Bk 0)))), (6, .sv (.one (.ptr 3 0)))], [.box [I d.fLetters, I d.fStart, LS (lsT intT) d.fNext, LS intT d.fMark, .own 1] 37 false, mapI ParikhPlace.enc (optT MathBigInt.ty) K, .gone, .box [I e_2, I (St38.put p.fLeft a (wr ((arrG (St38.l p.fLeft) a) - 1))).fE0, I (St38.put p.fLeft a (wr ((arrG (St38.l p.fLeft) a) - 1))).fE1, I (St38.put p.fLeft a (wr ((arrG (St38.l p.fLeft) a) - 1))).fE2, I (St38.put p.fLeft a (wr ((arrG (St38.l p.fLeft) a) - 1))).fE3] 40 false]⟩ (by kernel_rfl) ?_
    refine WL.nil ?_
    refine En.ret ?_
    exact En.backE [0] ht (ParikhPlace.mk e_2 (St38.put p.fLeft a (wr ((arrG (St38.l p.fLeft) a) - 1)))) h (by kernel_rfl) (by rfl) rfl
theorem en11 : ∀ args w, (callFunc 11 args).run Tryz.prog w = .ok (.enter 11 args) w := enters_of Tryz.func11 (by kernel_rfl) rfl
section
attribute [local irreducible] wpList
theorem intSize : (Tryz.prog.info? 3).map (·.size) = some 1 := by kernel_rfl
def fourC : List Int → List Int
  | [] => [0, 0, 0, 0]
  | [a] => [a, 0, 0, 0]
  | [a, b] => [a, b, 0, 0]
  | [a, b, c] => [a, b, c, 0]
  | a :: b :: c :: e :: _ => [a, b, c, e]
theorem setRow_alloc (w : World) (cur cs : Array Value) (t b : Nat) (hb : b = w.heap.size) : (w.alloc (.cells cur t)).setRow b cs = w.alloc (.cells cs t) := by
  subst hb
  have h1 := setRow_heap (w.alloc (.cells cur t)) w.heap.size cur cs t (0, 0) (heap_alloc w _)
  have e : ((w.alloc (.cells cur t)).setRow w.heap.size cs).heap = (w.alloc (.cells cs t)).heap := by
    apply Array.ext_getElem?
    intro i
    by_cases hi : i = w.heap.size
    · subst hi
      rw [h1, heap_alloc]
    · rw [setRow_other _ _ _ _ hi]
      show (w.heap.push _)[i]? = (w.heap.push _)[i]?
      rw [Array.getElem?_push, Array.getElem?_push, if_neg hi, if_neg hi]
  have : ∀ x y : World, x.heap = y.heap → x = { y with heap := x.heap } → x = y := fun x y h1 h2 => by rw [h2, h1]
  exact this _ _ e rfl
theorem begun_any (L q : Int) (v1 v2 : Value) (ao : Option Addr) (n cap : Nat) (l : List Int) (w : World) (hl : l.length = n) (hn : n ≤ 4) (hcell : ∀ j x, l[j]? = some x → ∃ a, ao = some a ∧ w.cell? (a.add j) = some (.int .i64 x)) : Calls Tryz.prog 8 #[.agg #[.int .i64 L, .int .i64 q, v1, v2], .slice ao n cap] w fun e w' => ∃ a b c d, fourC l = [a, b, c, d] ∧ e = .returned (.agg #[.int .i64 q, .int .i64 a, .int .i64 b, .int .i64 c, .int .i64 d]) ∧ Below w.heap.size w w' := by
  have key : ∀ a b c d, fourC l = [a, b, c, d] → Calls Tryz.prog 8 #[.agg #[.int .i64 L, .int .i64 q, v1, v2], .slice ao n cap] w fun e w' => e = .returned (.agg #[.int .i64 q, .int .i64 a, .int .i64 b, .int .i64 c, .int .i64 d]) ∧ Below w.heap.size w w' := fun a b c d h4 => by
    have hcp : ∀ W : World, (∀ a v, w.cell? a = some v → W.cell? a = some v) → ∀ ty, (Builtin.copy_ #[22, 22] ty #[.slice (some ⟨W.heap.size, 1, none⟩) 4 4, .slice ao n cap]).run Tryz.prog (W.alloc (.cells #[.int .i64 q, .int .i64 0, .int .i64 0, .int .i64 0, .int .i64 0] 40)) = .ok (goInt n) (W.alloc (.cells #[.int .i64 q, .int .i64 a, .int .i64 b, .int .i64 c, .int .i64 d] 40)) := fun W hW ty => by
      by_cases h0 : n = 0
      · subst h0
        have : l = [] := List.length_eq_zero_iff.1 hl
        subst this
        simp only [fourC, List.cons.injEq, and_true] at h4
        obtain ⟨rfl, rfl, rfl, rfl⟩ := h4
        exact run_copy_none (P := Tryz.prog) _ 22 22 ty 3 _ ao 4 4 0 cap Tryz.underlying22 intSize (by simp)
      · obtain ⟨a0, rfl⟩ : ∃ a0, ao = some a0 := by
          obtain ⟨a0, h, _⟩ := hcell 0 l[0] (List.getElem?_eq_getElem (by omega))
          exact ⟨a0, h⟩
        have hrun := run_copy_row (P := Tryz.prog) (W.alloc (.cells #[.int .i64 q, .int .i64 0, .int .i64 0, .int .i64 0, .int .i64 0] 40)) 22 22 ty 3 W.heap.size 1 4 4 a0 n cap #[.int .i64 q, .int .i64 0, .int .i64 0, .int .i64 0, .int .i64 0] 40 (l.map (Value.int .i64)) Tryz.underlying22 intSize (heap_alloc W _) (by rw [List.length_map, hl]; exact (Nat.min_eq_left hn).symm) (fun j v hj => by
          rw [List.getElem?_map] at hj
          cases hx : l[j]? with
          | none => rw [hx] at hj; cases hj
          | some x =>
            rw [hx] at hj
            cases hj
            obtain ⟨a1, e1, e2⟩ := hcell j x hx
            cases e1
            exact cell_alloc (hW _ _ e2) _) (by simp; omega) (fun v hv => by
          obtain ⟨x, _, rfl⟩ := List.mem_map.1 hv
          rfl)
        rw [hrun, setRow_alloc W _ _ _ _ rfl, List.length_map, hl]
        congr 3
        match l, hl with
        | [], hl => exact absurd hl.symm h0
        | [x], hl => subst hl; simp only [fourC, List.cons.injEq, and_true] at h4; obtain ⟨rfl, rfl, rfl, rfl⟩ := h4; rfl
        | [x, y], hl => subst hl; simp only [fourC, List.cons.injEq, and_true] at h4; obtain ⟨rfl, rfl, rfl, rfl⟩ := h4; rfl
        | [x, y, z], hl => subst hl; simp only [fourC, List.cons.injEq, and_true] at h4; obtain ⟨rfl, rfl, rfl, rfl⟩ := h4; rfl
        | [x, y, z, u], hl => subst hl; simp only [fourC, List.cons.injEq, and_true] at h4; obtain ⟨rfl, rfl, rfl, rfl⟩ := h4; rfl
        | x :: y :: z :: u :: t :: r, hl => simp at hl; omega
    have hc2 := hcp ((w.alloc (.cells #[.int .i64 L, .int .i64 q, v1, v2] 25)).alloc (.cells #[.int .i64 0, .int .i64 0, .int .i64 0, .int .i64 0, .int .i64 0] 40)) (fun a v h => cell_alloc (cell_alloc h _) _)
    have hsz : ((w.alloc (.cells #[.int .i64 L, .int .i64 q, v1, v2] 25)).alloc (.cells #[.int .i64 0, .int .i64 0, .int .i64 0, .int .i64 0, .int .i64 0] 40)).heap.size = w.heap.size + 1 + 1 := by simp
    rw [hsz] at hc2
    clear hcp hsz hcell
    go_enter Tryz.func8, Tryz.ntmps8
    go_wp2
    exact bodyPost_ret (v := .agg #[.int .i64 q, .int .i64 a, .int .i64 b, .int .i64 c, .int .i64 d]) (by simp [results, Tryz.results8, go_sem]) rfl ⟨rfl, by (repeat' (first | exact Below.refl _ _ | assumption | (refine Below.alloc ?_ ?_ _) | (refine Below.drew ?_) | (refine Below.setCell ?_ ?_ _) | (refine Below.trans ?_ (Below.mono (by assumption) ?_)) | omega | (simp; done) | (simp; omega)))⟩
  have : ∃ a b c d, fourC l = [a, b, c, d] := by
    match l with
    | [] => exact ⟨_, _, _, _, rfl⟩
    | [_] => exact ⟨_, _, _, _, rfl⟩
    | [_, _] => exact ⟨_, _, _, _, rfl⟩
    | [_, _, _] => exact ⟨_, _, _, _, rfl⟩
    | _ :: _ :: _ :: _ :: _ => exact ⟨_, _, _, _, rfl⟩
  obtain ⟨a, b, c, d, h4⟩ := this
  exact (key a b c d h4).mono fun e w' ⟨h1, h2⟩ => ⟨a, b, c, d, h4, h1, h2⟩
def begunR (d : ApiDet) (l : List Int) : ParikhPlace := ⟨d.fStart, ⟨(fourC l).getD 0 0, (fourC l).getD 1 0, (fourC l).getD 2 0, (fourC l).getD 3 0⟩⟩
theorem begun_ct (d : ApiDet) (l : List Int) (hn : l.length ≤ 4) : Ct 8 [.sv (.agg [I d.fLetters, I d.fStart, LS (lsT intT) d.fNext, LS intT d.fMark]), .sv (.one (LS intT l))] [] (fun (_ : Unit) => True) (fun _ => .sv (.agg [I (begunR d l).fQ, I (begunR d l).fLeft.fE0, I (begunR d l).fLeft.fE1, I (begunR d l).fLeft.fE2, I (begunR d l).fLeft.fE3])) := fun w g hs args hpe ha _ => by
  match args, ha with
  | [a0, a1], ha =>
    obtain ⟨⟨cs, e7, hcs⟩, ⟨⟨⟨ao, n, cap, e5, e6, h3, h4, _, h6⟩, _⟩, _⟩, _⟩ := ha
    subst e7 e6 e5
    match cs, hcs with
    | [c0, c1, c2, c3], ⟨⟨e0, _⟩, _, ⟨e1, _⟩, _, _⟩ =>
      have e0 : c0 = .int .i64 d.fLetters := e0
      have e1 : c1 = .int .i64 d.fStart := e1
      subst e0 e1
      refine (begun_any d.fLetters d.fStart c2 c3 ao l.length cap l w rfl hn fun j x hx => ?_).mono ?_
      · obtain ⟨b, o, u, rfl, ⟨e, _⟩, _, h7⟩ := h6 j x hx
        have e : u = .int .i64 x := e
        subst e
        refine ⟨_, rfl, ?_⟩
        have := hpe.cell (h7 0 (.int .i64 x) rfl)
        simpa [Addr.add_lit, intT] using this
      · rintro en w' ⟨a, b, c, e, h4, rfl, hb⟩
        have hr : begunR d l = ⟨d.fStart, ⟨a, b, c, e⟩⟩ := by unfold begunR; rw [h4]; rfl
        have hk : w.grownBy w' none := ⟨hb.os, hb.tape, hb.output, hb.size, fun k hk _ => hb.block k hk⟩
        refine ⟨_, g, (), rfl, trivial, ?_, base_of (v := .slice none 0 0) hpe hk (fun b e => by simp [Value.ownBlock] at e)⟩
        rw [hr]
        exact ⟨[.int .i64 d.fStart, .int .i64 a, .int .i64 b, .int .i64 c, .int .i64 e], rfl, ⟨rfl, trivial⟩, trivial, ⟨rfl, trivial⟩, trivial, ⟨rfl, trivial⟩, trivial, ⟨rfl, trivial⟩, trivial, ⟨rfl, trivial⟩, trivial, trivial⟩
end
section
attribute [local irreducible] wpList
theorem setCell_new (w : World) (v u : Value) (t : Nat) : (w.alloc (.cells #[v] t)).setCell ⟨w.heap.size, 0, none⟩ u = w.alloc (.cells #[u] t) := by
  have := World.setCell_alloc_new (w := w) #[v] t 0 u
  simpa using this
theorem nsetword (v : Value) (x : Int) (w : World) (hv : NW w v []) (hx : x ≠ 0) : Calls Tryz.prog 37 #[v, .int .u64 x] w (NRet w v [x]) := by
  have hx' : (x == 0) = false := by simpa using hx
  have key : ∀ (cap : Nat) (ao : Option Addr), v = .slice ao 0 cap → (cap = 0 ∨ ∃ g o cur, ao = some ⟨g, o, none⟩ ∧ w.heap[g]? = some (.cells cur 68 (0, 0)) ∧ cap ≤ maxLen ∧ o + cap ≤ cur.size) → Calls Tryz.prog 37 #[v, .int .u64 x] w (NRet w v [x]) := fun cap ao e hc => by
    subst e
    by_cases h0 : cap = 0
    · subst h0
      have hfin : Hid (NRet w (.slice ao 0 0) [x] (.returned (.slice (some ⟨w.heap.size, 0, none⟩) 1 1)) (w.alloc (.cells #[.int .u64 x] 68))) :=
        Lib.hid ⟨_, rfl, ⟨rfl, .inr ⟨w.heap.size, 0, 1, _, rfl, heap_alloc w _, Nat.le_refl _, by decide, by simp, by simp⟩⟩, World.grownBy_alloc w _ _, .inr ⟨_, rfl, Nat.le_refl _⟩⟩
      clear hc hv
      go_enter Tryz.func37, Tryz.ntmps37
      go_wp2_with (go_at_call 38; refine (nmake_one ao _).mono ?_; rintro e w' ⟨rfl, rfl⟩)
      go_ret
      exact hfin.out
    · obtain ⟨g, o, cur, rfl, hg, hm, hfit⟩ := hc.resolve_left h0
      have hs := heap_setCell_same w g o cur 68 (.int .u64 x) hg
      have hfin : Hid (NRet w (.slice (some ⟨g, o, none⟩) 0 cap) [x] (.returned (.slice (some ⟨g, o, none⟩) 1 cap)) (w.setCell ⟨g, o, none⟩ (.int .u64 x))) :=
        Lib.hid ⟨_, rfl, ⟨rfl, .inr ⟨g, o, cap, _, rfl, hs, by simp; omega, hm, by simp; omega, by
          have e1 : o < cur.size := by omega
          apply List.ext_getElem?
          intro i
          cases i with
          | zero => simp [List.getElem?_take, e1]
          | succ i => simp [List.getElem?_take]⟩⟩, grown_setCell w ⟨g, o, none⟩ _, .inl rfl⟩
      have hmk := Lib.hid (fun W => nmake_fit ⟨g, o, none⟩ 0 cap 1 W (by omega) hm)
      have hf0 : w.frozen? ⟨g, o, none⟩ = false := by simp [World.frozen?, hg]
      obtain ⟨x1, hx1⟩ : ∃ x, w.cell? ⟨g, o, none⟩ = some x := ⟨cur[o]'(by omega), by simp [World.cell?, hg, show o < cur.size by omega]⟩
      clear hc hv hs hg
      go_enter Tryz.func37, Tryz.ntmps37
      go_wp2_with (go_at_call 38; refine (hmk.out _).mono ?_; rintro e w' ⟨rfl, rfl⟩)
      go_ret
      exact hfin.out
  obtain ⟨_, h1⟩ := hv
  rcases h1 with ⟨rfl, _⟩ | ⟨g, o, cap, cur, rfl, hg, _, h3, h4, _⟩
  · exact key 0 none rfl (.inl rfl)
  · exact key cap _ rfl (.inr ⟨g, o, cur, rfl, hg, h3, by omega⟩)
theorem nsetuint (v : Value) (x : Int) (w : World) (hv : NW w v []) (hx : x ≠ 0) (h0 : 0 ≤ x) (h1 : x < 18446744073709551616) : Calls Tryz.prog 30 #[v, .int .u64 x] w (NRet w v [x]) := by
  have h := Lib.hid (nsetword v x w hv hx)
  obtain ⟨ao, cap, hsh⟩ := hv.slice
  clear hv
  subst hsh
  go_enter Tryz.func30, Tryz.ntmps30
  go_wp2_with (go_at_call 37; refine h.out.mono ?_; rintro e w' ⟨v', rfl, hq⟩)
  go_ret
  exact ⟨v', rfl, hq⟩
theorem nsetu_ct (l : List Int) (x : Int) (hp : l = [] ∧ 0 < x ∧ x < 18446744073709551616) : CtE 30 [.sv (.one (.own 0)), .sv (.one (.v (.int .u64 x)))] [wordI l] [] (fun (_ : Unit) => True) (fun _ => .sv (.one (.own 0))) (fun _ => [wordI [x]]) := fun w g hs args hpe ha hm => by
  obtain ⟨rfl, h0, h1⟩ := hp
  have hw : NW w (hs 0) [] := wordI_ok.1 (hm.items 0 _ rfl)
  match args, ha with
  | [a0, a1], ⟨⟨e0, _⟩, ⟨e1, _⟩, _⟩ =>
    have e0 : a0 = hs 0 := e0
    have e1 : a1 = .int .u64 x := e1
    subst e0 e1
    refine (nsetuint (hs 0) x w hw (by omega) (by omega) h1).mono ?_
    rintro en w' ⟨v', rfl, nw, gr, ob⟩
    obtain ⟨ao, cap, ev⟩ := nw.slice
    exact ⟨_, g, fun _ => v', (), rfl, trivial, ⟨rfl, by rw [ev]; trivial⟩, fun i hi => by simp at hi, base_of hpe gr (may_of hm), items_of hpe hm nw ob⟩
end
def numR (v : Int) : Option MathBigInt := some ⟨false, [v]⟩
def numS (o : Option MathBigInt) : Int := match o with
  | some n => n.fAbs.sum
  | none => 0
@[simp] theorem numS_R (v : Int) : numS (numR v) = v := by simp [numS, numR]
def fac : Nat → Nat
  | 0 => 1
  | n + 1 => (n + 1) * fac n
theorem fac_pos : ∀ n, 0 < fac n
  | 0 => Nat.one_pos
  | n + 1 => Nat.mul_pos (Nat.succ_pos n) (fac_pos n)
def wN : Nat → Nat → Nat → Nat → Nat → Nat
  | 0, _, _, _, _ => 1
  | n + 1, a, b, c, d => (if 0 < a then wN n (a - 1) b c d else 0) + (if 0 < b then wN n a (b - 1) c d else 0) + (if 0 < c then wN n a b (c - 1) d else 0) + (if 0 < d then wN n a b c (d - 1) else 0)
theorem wN_fac : ∀ n a b c d, a + b + c + d = n → wN n a b c d * (fac a * fac b * fac c * fac d) = fac n
  | 0, a, b, c, d, h => by
    obtain ⟨rfl, rfl, rfl, rfl⟩ : a = 0 ∧ b = 0 ∧ c = 0 ∧ d = 0 := by omega
    rfl
  | n + 1, a, b, c, d, h => by
    have ha : (if 0 < a then wN n (a - 1) b c d else 0) * (fac a * fac b * fac c * fac d) = a * fac n := by
      cases a with
      | zero => simp
      | succ a =>
        have := wN_fac n a b c d (by omega)
        rw [if_pos (Nat.succ_pos a), Nat.add_sub_cancel, fac, ← this]
        simp only [Nat.mul_assoc, Nat.mul_left_comm, Nat.mul_comm]
    have hb : (if 0 < b then wN n a (b - 1) c d else 0) * (fac a * fac b * fac c * fac d) = b * fac n := by
      cases b with
      | zero => simp
      | succ b =>
        have := wN_fac n a b c d (by omega)
        rw [if_pos (Nat.succ_pos b), Nat.add_sub_cancel, fac, ← this]
        simp only [Nat.mul_assoc, Nat.mul_left_comm, Nat.mul_comm]
    have hc : (if 0 < c then wN n a b (c - 1) d else 0) * (fac a * fac b * fac c * fac d) = c * fac n := by
      cases c with
      | zero => simp
      | succ c =>
        have := wN_fac n a b c d (by omega)
        rw [if_pos (Nat.succ_pos c), Nat.add_sub_cancel, fac, ← this]
        simp only [Nat.mul_assoc, Nat.mul_left_comm, Nat.mul_comm]
    have hd : (if 0 < d then wN n a b c (d - 1) else 0) * (fac a * fac b * fac c * fac d) = d * fac n := by
      cases d with
      | zero => simp
      | succ d =>
        have := wN_fac n a b c d (by omega)
        rw [if_pos (Nat.succ_pos d), Nat.add_sub_cancel, fac, ← this]
        simp only [Nat.mul_assoc, Nat.mul_left_comm, Nat.mul_comm]
    rw [wN, Nat.add_mul, Nat.add_mul, Nat.add_mul, ha, hb, hc, hd, fac, ← Nat.add_mul, ← Nat.add_mul, ← Nat.add_mul, h]
theorem wN_pos {n a b c d : Nat} (h : a + b + c + d = n) : 0 < wN n a b c d := by
  have := wN_fac n a b c d h
  have h2 := fac_pos n
  rcases Nat.eq_zero_or_pos (wN n a b c d) with e | e
  · rw [e, Nat.zero_mul] at this
    omega
  · exact e
theorem wN_le : ∀ n a b c d, wN n a b c d ≤ 4 ^ n
  | 0, _, _, _, _ => Nat.le_refl _
  | n + 1, a, b, c, d => by
    have h1 : (if 0 < a then wN n (a - 1) b c d else 0) ≤ 4 ^ n := by split; exact wN_le _ _ _ _ _; exact Nat.zero_le _
    have h2 : (if 0 < b then wN n a (b - 1) c d else 0) ≤ 4 ^ n := by split; exact wN_le _ _ _ _ _; exact Nat.zero_le _
    have h3 : (if 0 < c then wN n a b (c - 1) d else 0) ≤ 4 ^ n := by split; exact wN_le _ _ _ _ _; exact Nat.zero_le _
    have h4 : (if 0 < d then wN n a b c (d - 1) else 0) ≤ 4 ^ n := by split; exact wN_le _ _ _ _ _; exact Nat.zero_le _
    rw [wN, Nat.pow_succ]
    omega
def oneD (k : Int) : ApiDet := ⟨k, 0, [List.replicate k.toNat 0], [1]⟩
def sumE (x : St38) : Int := x.fE0 + x.fE1 + x.fE2 + x.fE3
def wL (x : St38) : Int := ((wN (sumE x).toNat x.fE0.toNat x.fE1.toNat x.fE2.toNat x.fE3.toNat : Nat) : Int)
structure PlOk (k : Int) (p : ParikhPlace) : Prop where
  q : p.fQ = 0
  nn : 0 ≤ p.fLeft.fE0 ∧ 0 ≤ p.fLeft.fE1 ∧ 0 ≤ p.fLeft.fE2 ∧ 0 ≤ p.fLeft.fE3
  far : (k ≤ 1 → p.fLeft.fE1 = 0) ∧ (k ≤ 2 → p.fLeft.fE2 = 0) ∧ (k ≤ 3 → p.fLeft.fE3 = 0)
  sum : sumE p.fLeft ≤ 12
theorem PlOk.sum0 {k : Int} {p : ParikhPlace} (h : PlOk k p) : 0 ≤ sumE p.fLeft := by
  have := h.nn
  unfold sumE
  omega
theorem PlOk.fits {k : Int} {p : ParikhPlace} (h : PlOk k p) : p.fLeft.fE0.toNat + p.fLeft.fE1.toNat + p.fLeft.fE2.toNat + p.fLeft.fE3.toNat = (sumE p.fLeft).toNat := by
  have := h.nn
  unfold sumE
  omega
theorem PlOk.pos {k : Int} {p : ParikhPlace} (h : PlOk k p) : 0 < wL p.fLeft := by
  have := wN_pos h.fits
  unfold wL
  omega
theorem PlOk.small {k : Int} {p : ParikhPlace} (h : PlOk k p) : wL p.fLeft ≤ 16777216 := by
  have h1 := wN_le (sumE p.fLeft).toNat p.fLeft.fE0.toNat p.fLeft.fE1.toNat p.fLeft.fE2.toNat p.fLeft.fE3.toNat
  have h2 : 4 ^ (sumE p.fLeft).toNat ≤ 4 ^ 12 := Nat.pow_le_pow_right (by decide) (by have := h.sum; omega)
  have h3 : (4 : Nat) ^ 12 = 16777216 := by decide
  unfold wL
  omega
def lessE (x : St38) (a : Int) : St38 := x.put a (arrG x.l a - 1)
theorem less0 (x : St38) : lessE x 0 = ⟨x.fE0 - 1, x.fE1, x.fE2, x.fE3⟩ := by simp [lessE, St38.put, setE, arrG]
theorem less1 (x : St38) : lessE x 1 = ⟨x.fE0, x.fE1 - 1, x.fE2, x.fE3⟩ := by simp [lessE, St38.put, setE, arrG]
theorem less2 (x : St38) : lessE x 2 = ⟨x.fE0, x.fE1, x.fE2 - 1, x.fE3⟩ := by simp [lessE, St38.put, setE, arrG]
theorem less3 (x : St38) : lessE x 3 = ⟨x.fE0, x.fE1, x.fE2, x.fE3 - 1⟩ := by simp [lessE, St38.put, setE, arrG]
theorem arr0 (x : St38) : arrG x.l 0 = x.fE0 := by simp [arrG]
theorem arr1 (x : St38) : arrG x.l 1 = x.fE1 := by simp [arrG]
theorem arr2 (x : St38) : arrG x.l 2 = x.fE2 := by simp [arrG]
theorem arr3 (x : St38) : arrG x.l 3 = x.fE3 := by simp [arrG]
theorem four {a : Nat} (h : a < 4) : a = 0 ∨ a = 1 ∨ a = 2 ∨ a = 3 := by omega
theorem PlOk.less {k : Int} {p : ParikhPlace} (h : PlOk k p) {a : Nat} (ha : (a : Int) < k) (hk : k ≤ 4) (h0 : 0 < arrG p.fLeft.l a) : PlOk k ⟨0, lessE p.fLeft a⟩ ∧ sumE (lessE p.fLeft a) = sumE p.fLeft - 1 := by
  have h1 := h.nn
  have h2 := h.far
  have h3 := h.sum
  unfold sumE at h3 ⊢
  rcases four (show a < 4 by omega) with rfl | rfl | rfl | rfl
  · replace h0 : 0 < p.fLeft.fE0 := by rw [← arr0]; exact h0
    show PlOk k ⟨0, lessE p.fLeft 0⟩ ∧ (lessE p.fLeft 0).fE0 + _ + _ + _ = _
    rw [less0]
    exact ⟨⟨rfl, ⟨by show 0 ≤ p.fLeft.fE0 - 1; omega, h1.2⟩, h2, by unfold sumE; show p.fLeft.fE0 - 1 + p.fLeft.fE1 + p.fLeft.fE2 + p.fLeft.fE3 ≤ 12; omega⟩, by show p.fLeft.fE0 - 1 + p.fLeft.fE1 + p.fLeft.fE2 + p.fLeft.fE3 = _; omega⟩
  · replace h0 : 0 < p.fLeft.fE1 := by rw [← arr1]; exact h0
    show PlOk k ⟨0, lessE p.fLeft 1⟩ ∧ (lessE p.fLeft 1).fE0 + _ + _ + _ = _
    rw [less1]
    exact ⟨⟨rfl, ⟨h1.1, by show 0 ≤ p.fLeft.fE1 - 1; omega, h1.2.2⟩, ⟨fun h => by have := h2.1 h; omega, h2.2⟩, by unfold sumE; show p.fLeft.fE0 + (p.fLeft.fE1 - 1) + p.fLeft.fE2 + p.fLeft.fE3 ≤ 12; omega⟩, by show p.fLeft.fE0 + (p.fLeft.fE1 - 1) + p.fLeft.fE2 + p.fLeft.fE3 = _; omega⟩
  · replace h0 : 0 < p.fLeft.fE2 := by rw [← arr2]; exact h0
    show PlOk k ⟨0, lessE p.fLeft 2⟩ ∧ (lessE p.fLeft 2).fE0 + _ + _ + _ = _
    rw [less2]
    exact ⟨⟨rfl, ⟨h1.1, h1.2.1, by show 0 ≤ p.fLeft.fE2 - 1; omega, h1.2.2.2⟩, ⟨h2.1, fun h => by have := h2.2.1 h; omega, h2.2.2⟩, by unfold sumE; show p.fLeft.fE0 + p.fLeft.fE1 + (p.fLeft.fE2 - 1) + p.fLeft.fE3 ≤ 12; omega⟩, by show p.fLeft.fE0 + p.fLeft.fE1 + (p.fLeft.fE2 - 1) + p.fLeft.fE3 = _; omega⟩
  · replace h0 : 0 < p.fLeft.fE3 := by rw [← arr3]; exact h0
    show PlOk k ⟨0, lessE p.fLeft 3⟩ ∧ (lessE p.fLeft 3).fE0 + _ + _ + _ = _
    rw [less3]
    exact ⟨⟨rfl, ⟨h1.1, h1.2.1, h1.2.2.1, by show 0 ≤ p.fLeft.fE3 - 1; omega⟩, ⟨h2.1, h2.2.1, fun h => by have := h2.2.2 h; omega⟩, by unfold sumE; show p.fLeft.fE0 + p.fLeft.fE1 + p.fLeft.fE2 + (p.fLeft.fE3 - 1) ≤ 12; omega⟩, by show p.fLeft.fE0 + p.fLeft.fE1 + p.fLeft.fE2 + (p.fLeft.fE3 - 1) = _; omega⟩
def wPart (x : St38) : Nat → Int
  | 0 => 0
  | j + 1 => wPart x j + (if 0 < arrG x.l (j : Int) then wL (lessE x (j : Int)) else 0)
theorem wPart_all {k : Int} {p : ParikhPlace} (h : PlOk k p) (h0 : 0 < sumE p.fLeft) : wPart p.fLeft 4 = wL p.fLeft := by
  have h1 := h.nn
  obtain ⟨n, hn⟩ : ∃ n : Nat, sumE p.fLeft = (n : Int) + 1 := ⟨(sumE p.fLeft - 1).toNat, by omega⟩
  have e : ∀ (c : Prop) [Decidable c] (a : Nat) (v : Int), ((if c then a else 0 : Nat) : Int) = if c then (a : Int) else 0 := fun c _ a v => by split <;> rfl
  unfold sumE at hn
  have t0 : (if 0 < arrG p.fLeft.l ((0 : Nat) : Int) then wL (lessE p.fLeft ((0 : Nat) : Int)) else 0) = ((if 0 < p.fLeft.fE0.toNat then wN n (p.fLeft.fE0.toNat - 1) p.fLeft.fE1.toNat p.fLeft.fE2.toNat p.fLeft.fE3.toNat else 0 : Nat) : Int) := by
    show (if 0 < arrG p.fLeft.l 0 then wL (lessE p.fLeft 0) else 0) = _
    rw [arr0, less0]
    by_cases c : 0 < p.fLeft.fE0
    · rw [if_pos c, if_pos (by omega)]
      unfold wL sumE
      simp only
      rw [show (p.fLeft.fE0 - 1 + p.fLeft.fE1 + p.fLeft.fE2 + p.fLeft.fE3).toNat = n by omega, show (p.fLeft.fE0 - 1).toNat = p.fLeft.fE0.toNat - 1 by omega]
    · rw [if_neg c, if_neg (by omega)]
      rfl
  have t1 : (if 0 < arrG p.fLeft.l ((1 : Nat) : Int) then wL (lessE p.fLeft ((1 : Nat) : Int)) else 0) = ((if 0 < p.fLeft.fE1.toNat then wN n p.fLeft.fE0.toNat (p.fLeft.fE1.toNat - 1) p.fLeft.fE2.toNat p.fLeft.fE3.toNat else 0 : Nat) : Int) := by
    show (if 0 < arrG p.fLeft.l 1 then wL (lessE p.fLeft 1) else 0) = _
    rw [arr1, less1]
    by_cases c : 0 < p.fLeft.fE1
    · rw [if_pos c, if_pos (by omega)]
      unfold wL sumE
      simp only
      rw [show (p.fLeft.fE0 + (p.fLeft.fE1 - 1) + p.fLeft.fE2 + p.fLeft.fE3).toNat = n by omega, show (p.fLeft.fE1 - 1).toNat = p.fLeft.fE1.toNat - 1 by omega]
    · rw [if_neg c, if_neg (by omega)]
      rfl
  have t2 : (if 0 < arrG p.fLeft.l ((2 : Nat) : Int) then wL (lessE p.fLeft ((2 : Nat) : Int)) else 0) = ((if 0 < p.fLeft.fE2.toNat then wN n p.fLeft.fE0.toNat p.fLeft.fE1.toNat (p.fLeft.fE2.toNat - 1) p.fLeft.fE3.toNat else 0 : Nat) : Int) := by
    show (if 0 < arrG p.fLeft.l 2 then wL (lessE p.fLeft 2) else 0) = _
    rw [arr2, less2]
    by_cases c : 0 < p.fLeft.fE2
    · rw [if_pos c, if_pos (by omega)]
      unfold wL sumE
      simp only
      rw [show (p.fLeft.fE0 + p.fLeft.fE1 + (p.fLeft.fE2 - 1) + p.fLeft.fE3).toNat = n by omega, show (p.fLeft.fE2 - 1).toNat = p.fLeft.fE2.toNat - 1 by omega]
    · rw [if_neg c, if_neg (by omega)]
      rfl
  have t3 : (if 0 < arrG p.fLeft.l ((3 : Nat) : Int) then wL (lessE p.fLeft ((3 : Nat) : Int)) else 0) = ((if 0 < p.fLeft.fE3.toNat then wN n p.fLeft.fE0.toNat p.fLeft.fE1.toNat p.fLeft.fE2.toNat (p.fLeft.fE3.toNat - 1) else 0 : Nat) : Int) := by
    show (if 0 < arrG p.fLeft.l 3 then wL (lessE p.fLeft 3) else 0) = _
    rw [arr3, less3]
    by_cases c : 0 < p.fLeft.fE3
    · rw [if_pos c, if_pos (by omega)]
      unfold wL sumE
      simp only
      rw [show (p.fLeft.fE0 + p.fLeft.fE1 + p.fLeft.fE2 + (p.fLeft.fE3 - 1)).toNat = n by omega, show (p.fLeft.fE3 - 1).toNat = p.fLeft.fE3.toNat - 1 by omega]
    · rw [if_neg c, if_neg (by omega)]
      rfl
  simp only [wPart, t0, t1, t2, t3]
  unfold wL sumE
  rw [show (p.fLeft.fE0 + p.fLeft.fE1 + p.fLeft.fE2 + p.fLeft.fE3).toNat = n + 1 by omega, wN]
  omega
theorem wPart_far {k : Nat} {p : ParikhPlace} (h : PlOk k p) (h1 : 1 ≤ k) (h4 : k ≤ 4) : wPart p.fLeft k = wPart p.fLeft 4 := by
  have hf := h.far
  have z : ∀ j : Nat, k ≤ j → j < 4 → arrG p.fLeft.l (j : Int) = 0 := fun j hj hj4 => by
    rcases four hj4 with rfl | rfl | rfl | rfl
    · omega
    · exact (arr1 _).trans (hf.1 (by omega))
    · exact (arr2 _).trans (hf.2.1 (by omega))
    · exact (arr3 _).trans (hf.2.2 (by omega))
  have up : ∀ j : Nat, k ≤ j → j < 4 → wPart p.fLeft (j + 1) = wPart p.fLeft j := fun j hj hj4 => by
    rw [wPart, z j hj hj4, if_neg (by omega), Int.add_zero]
  rcases Nat.lt_or_ge k 4 with c | c
  · have : k = 1 ∨ k = 2 ∨ k = 3 := by omega
    rcases this with rfl | rfl | rfl
    · rw [up 3 (by omega) (by omega), up 2 (by omega) (by omega), up 1 (by omega) (by omega)]
    · rw [up 3 (by omega) (by omega), up 2 (by omega) (by omega)]
    · rw [up 3 (by omega) (by omega)]
  · rw [show k = 4 by omega]
theorem wPart_le {k : Int} {p : ParikhPlace} (h : PlOk k p) (hk : k ≤ 4) : ∀ j : Nat, (j : Int) ≤ k → 0 ≤ wPart p.fLeft j ∧ wPart p.fLeft j ≤ (j : Int) * 16777216
  | 0, _ => ⟨Int.le_refl _, by simp [wPart]⟩
  | j + 1, hj => by
    have ih := wPart_le h hk j (by omega)
    rw [wPart]
    split
    · rename_i c
      have h1 := (h.less (a := j) (by omega) hk c).1
      have h2 := h1.pos
      have h3 := h1.small
      simp only at h2 h3
      omega
    · omega
def RowW (x : St38) (j : Nat) (l : List Int) : Prop := (sumE x = 0 ∧ l = [1]) ∨ (0 < sumE x ∧ ((wPart x j = 0 ∧ l = []) ∨ (0 < wPart x j ∧ l = [wPart x j])))
section
variable {c : Cfg} {S S1 : St} {tab : Tab} {n : Nat} {o : Oper} {ops : Array Oper} {rest L : List Oper} {N : Po}
theorem WL.callQ {β : Type} (F2 : List (Nat × SC)) {f : Nat} {ins : List SC} {M : List Item} {pin : List Nat} {post : β → Prop} {out : β → SC} {M' : β → List Item} (ct : CtE f ins M pin post out M') (en : ∀ args w, (callFunc f args).run Tryz.prog w = .ok (.enter f args) w) {caps : List Nat} (rn : List Nat) {fo : Operand} {args : Array Operand} {ats : Array TypeId}
    (hn : c.n = n) (hw : wantE ops S.F o = some true) (ho : o.op = .call ⟨.value fo, args, ats⟩) (hf : evX S.F fo = some (.sv (.one (.fn f caps)))) (ha : ArgsAs c S args caps (ins.map (SC.ren (rnF rn S.M.length))))
    (hM : M.map (fun it => some (it.mv (rnF rn S.M.length))) = rn.map (fun j => S.M[j]?)) (hnd : rn.Nodup) (hsb : subE ⟨F2, S.M⟩ S = subX ⟨F2, S.M⟩) (hal : aloneE ⟨F2, S.M⟩ rn pin = true) (hpl : pin.all (fun i => Nat.blt i rn.length) = true)
    (h : ∀ r, post r → (refsB (M' r) && Nat.ble M.length (M' r).length && backC pin M (M' r) && (out r).refs.all (fun i => Nat.blt i (M' r).length)) = true ∧ ∃ S1, putE n o.dst ((out r).ren (rnF rn S.M.length)) ⟨F2, putItems (rnF rn S.M.length) S.M rn (M' r)⟩ = some S1 ∧ WL c ops rest S1 N) : WL c ops (o :: rest) S N := fun a w ⟨g, hs, hk⟩ => by
  unfold wpList
  rw [if_pos (wantE_ok hk hw)]
  refine .inl ?_
  unfold Oper.wp
  have hfv : a.eval fo = .func (.func f) #[] (caps.map hs).toArray := (evX_ok hk hf).1
  have hrun : (execOp a.eval o).run Tryz.prog w = .ok (.enter f ((args.toList.map a.eval) ++ caps.map hs).toArray) w := by
    unfold execOp
    simp only [ho, resolve, hfv, Deferred.ofValue, Sem.run_bind, Sem.run_pure, Result.andThen_ok, invoke]
    rw [show (#[] ++ Array.map a.eval args ++ (List.map hs caps).toArray : Array Value) = (args.toList.map a.eval ++ caps.map hs).toArray by simp]
    exact en _ _
  rw [hrun]
  refine (ct w g (fun i => hs (rnF rn S.M.length i)) _ hk.base.pers (okArgs_ren (ha a w g hs hk)) (items_in hk hM hnd)).mono ?_
  rintro e' w' ⟨v, g', hs', r, rfl, hq, h3, h4, h5, h6⟩
  obtain ⟨hc, S1, hp, hW⟩ := h r hq
  simp only [Bool.and_eq_true] at hc
  obtain ⟨⟨⟨c1, c2⟩, c3⟩, c4⟩ := hc
  obtain ⟨hsN, n1, n2⟩ := (sub_ok' hsb a w g hs hk).backE hM hnd hal c1 (Nat.le_of_ble_eq_true c2) (backB_of c3) h4 (fun i hi => by have := List.all_eq_true.1 hpl i hi; rwa [Nat.blt_eq] at this) h5 h6
  refine hW _ _ ⟨g', hsN, putE_ok n1 hn (SC.ren_ok (SC.ok_hs (fun i hi => n2 i ?_) h3)) hp⟩
  have := List.all_eq_true.1 c4 i hi
  rwa [Nat.blt_eq] at this
theorem nil_Agg {α : Type} {T : Ty α} {cells : List At} (j : Nat) (hj : cells[j]? = some (.v (.slice none 0 0))) (g : Gh) (hs : Nat → Value) (u : Value) (h : SC.ok g hs (.sv (.agg cells)) u) : SC.ok g hs (.sv (.agg (cells.set j (LS T ([] : List α))))) u := by
  obtain ⟨us, h1, h2⟩ := h
  exact ⟨us, h1, oks_nil j hj h2⟩
end
section
variable {c : Cfg} {S S1 : St} {a : Act} {w : World} {g : Gh} {hs : Nat → Value} {tab : Tab} {n : Nat} {o : Oper} {ops : Array Oper} {rest L : List Oper} {N : Po}
theorem run_eqP {t e : Nat} (ht : Tryz.prog.underlying t = some (.pointer e)) (w : World) (p : Option Addr) : (Op.equal t (.pointer p) (.pointer none)).run Tryz.prog w = .ok p.isNone w := by
  have hu := run_underlying ht w
  show (Op.equalIn (9999 + 1) _ _ _).run _ _ = _
  rw [Op.equalIn]
  simp only [Sem.run_bind, hu, Result.andThen_ok]
  cases p <;> simp
theorem val_eqN {x y : Operand} {b : TypeId} {t e : Nat} {op : BinOp} {p : Option Addr} {r : Bool} (ho : o.op = .binOp op t x y b) (ht : Tryz.prog.underlying t = some (.pointer e)) (hx : ∀ a w g hs, Ok' c S a w g hs → ∃ q : Option Addr, a.eval x = .pointer q ∧ q.isNone = p.isNone) (hy : evX S.F y = some (.sv (.one (.v (.pointer none))))) (hop : (op = .eql ∧ r = p.isNone) ∨ (op = .neq ∧ r = !p.isNone)) : Val c S o (.sv (.one (.v (.bool r)))) := fun a w g hs h => by
  obtain ⟨q, h1, hq⟩ := hx a w g hs h
  have h2 : a.eval y = .pointer none := (evX_ok h hy).1
  refine ⟨.bool r, ?_, rfl, trivial⟩
  have e : execOp a.eval o = (do pure (.value (← (do eqGuard op t x y (a.eval x) (a.eval y); binOp op t (a.eval x) (a.eval y) : Sem Value))) : Sem Next) := by unfold execOp; rw [ho]
  rw [e]
  refine run_val ?_
  rw [h1, h2]
  have hu := run_underlying ht w
  have heq := run_eqP ht w q
  rcases hop with ⟨rfl, rfl⟩ | ⟨rfl, rfl⟩
  · simp [eqGuard, binOp, heq, hq]
  · simp [eqGuard, binOp, heq, hq]
theorem ptr_isSome {x : Operand} {i off : Nat} (hx : evX S.F x = some (.sv (.one (.ptr i off)))) : ∀ a w g hs, Ok' c S a w g hs → ∃ q : Option Addr, a.eval x = .pointer q ∧ q.isNone = (some (⟨0, 0, none⟩ : Addr)).isNone := fun a w g hs h => by
  obtain ⟨⟨b, _, e⟩, _⟩ := evX_ok h hx
  exact ⟨_, e, rfl⟩
theorem ptr_isNone {x : Operand} (hx : evX S.F x = some (.sv (.one (.v (.pointer none))))) : ∀ a w g hs, Ok' c S a w g hs → ∃ q : Option Addr, a.eval x = .pointer q ∧ q.isNone = (none : Option Addr).isNone := fun a w g hs h => ⟨none, (evX_ok h hx).1, rfl⟩
theorem val_neqSame {x y : Operand} {b : TypeId} {t e i off : Nat} {j : TypeInfo} (ho : o.op = .binOp .neq t x y b) (ht : Tryz.prog.underlying t = some (.pointer e)) (hi : Tryz.prog.info? e = some j) (hx : evX S.F x = some (.sv (.one (.ptr i off)))) (hy : evX S.F y = some (.sv (.one (.ptr i off)))) : Val c S o (.sv (.one (.v (.bool false)))) := fun a w g hs h => by
  obtain ⟨⟨b1, e1, h1⟩, _⟩ := evX_ok h hx
  obtain ⟨⟨b2, e2, h2⟩, _⟩ := evX_ok h hy
  rw [e1] at e2
  cases e2
  refine ⟨.bool false, ?_, rfl, trivial⟩
  have e : execOp a.eval o = (do pure (.value (← (do eqGuard .neq t x y (a.eval x) (a.eval y); binOp .neq t (a.eval x) (a.eval y) : Sem Value))) : Sem Next) := by unfold execOp; rw [ho]
  rw [e]
  refine run_val ?_
  rw [h1, h2]
  have hg : (eqGuard .neq t x y (.pointer (some ⟨b1, off, none⟩)) (.pointer (some ⟨b1, off, none⟩))).run Tryz.prog w = .ok () w := by simp [eqGuard]
  rw [Sem.run_bind, hg, Result.andThen_ok]
  exact Lib.run_neq_ptr_same _ _ ht hi
theorem box_shape {i ty : Nat} {cells : List At} {fz : Bool} (h : Ok' c S a w g hs) (hm : S.M[i]? = some (.box cells ty fz)) {b : Nat} (hb : hs i = .pointer (some ⟨b, 0, none⟩)) : w.shape? b = some (ty, cells.length) := by
  obtain ⟨b', cs, e1, e2, e3, _⟩ := h.items i _ hm
  rw [hb] at e1
  cases e1
  have hl : ∀ {l : List At} {us : List Value}, oks g hs l us → us.length = l.length := fun {l} => by
    induction l with
    | nil => intro us hu; cases us with | nil => rfl | cons _ _ => exact hu.elim
    | cons x l ih => intro us hu; cases us with | nil => exact hu.elim | cons u us => simp [ih hu.2.2]
  simp [World.shape?, e3, hl e2]
theorem val_toU {src t te i ty : Nat} {j : TypeInfo} {x : Operand} {cells : List At} {fz : Bool} (ho : o.op = .convert src t x) (h1 : Tryz.prog.underlying src = some (.pointer te)) (h2 : Tryz.prog.underlying t = some .unsafePointer) (h3 : Tryz.prog.info? te = some j) (h4 : j.size ≠ 0) (hx : evX S.F x = some (.sv (.one (.ptr i 0)))) (hm : S.M[i]? = some (.box cells ty fz)) (hc : 0 < cells.length) : Val c S o (.sv (.one (.ptr i 0))) := fun a w g hs h => by
  obtain ⟨⟨b, e1, e2⟩, hcv⟩ := evX_ok h hx
  refine ⟨.pointer (some ⟨b, 0, none⟩), ?_, ⟨b, e1, rfl⟩, trivial⟩
  have : (execOp a.eval o) = (do pure (.value (← convert src t (a.eval x))) : Sem Next) := by unfold execOp; rw [ho]
  rw [this]
  refine run_val ?_
  rw [e2]
  exact Lib.run_to_unsafe w ⟨b, 0, none⟩ h1 h2 h3 h4 (box_shape h hm e1) hc
theorem val_fromU {src t te i ty : Nat} {j : TypeInfo} {x : Operand} {cells : List At} {fz : Bool} (ho : o.op = .convert src t x) (h1 : Tryz.prog.underlying src = some .unsafePointer) (h2 : Tryz.prog.underlying t = some (.pointer te)) (h3 : Tryz.prog.info? te = some j) (hx : evX S.F x = some (.sv (.one (.ptr i 0)))) (hm : S.M[i]? = some (.box cells ty fz)) (hl : liesAt Tryz.prog Tryz.prog.depth ty (cells.length / Tryz.prog.cellsOf ty) 0 te 1 = true) : Val c S o (.sv (.one (.ptr i 0))) := fun a w g hs h => by
  obtain ⟨⟨b, e1, e2⟩, hcv⟩ := evX_ok h hx
  refine ⟨.pointer (some ⟨b, 0, none⟩), ?_, ⟨b, e1, rfl⟩, trivial⟩
  have : (execOp a.eval o) = (do pure (.value (← convert src t (a.eval x))) : Sem Next) := by unfold execOp; rw [ho]
  rw [this]
  refine run_val ?_
  rw [e2]
  exact Lib.run_from_unsafe w ⟨b, 0, none⟩ h1 h2 h3 (box_shape h hm e1) hl
theorem val_ext1 {f : Nat} {fo x : Operand} {ats : Array TypeId} {s : SC} (hrun : ∀ v w, (callFunc f #[v]).run Tryz.prog w = .ok (.value v) w) (ho : o.op = .call ⟨.value fo, #[x], ats⟩) (hf : evX S.F fo = some (.sv (.one (.fn f [])))) (hx : evX S.F x = some s) : Val c S o s := fun a w g hs h => by
  have h1 := evX_ok h hx
  have hfv : a.eval fo = .func (.func f) #[] #[] := (evX_ok h hf).1
  refine ⟨a.eval x, ?_, h1⟩
  unfold execOp
  simp only [ho, resolve, hfv, Deferred.ofValue, Sem.run_bind, Sem.run_pure, Result.andThen_ok, invoke]
  have e : (#[] ++ Array.map a.eval #[x] ++ #[] : Array Value) = #[a.eval x] := by simp
  rw [e]
  exact hrun _ w
theorem val_sliceData {α : Type} {T : Ty α} {l : List α} {i e t : Nat} {x : Operand} (ho : o.op = .call ⟨.builtin .unsafeSliceData, #[x], #[t]⟩) (hx : evX S.F x = some (.sv (.one (.own i)))) (hm : S.M[i]? = some (rowI e T l)) (hl : 0 < l.length) (hT : T.s = 1) : Val c S o (.sv (.one (.oe i 0 1))) := fun a w g hs h => by
  have h1 : a.eval x = hs i := (evX_ok h hx).1
  obtain ⟨cs, ⟨hl0, r1⟩, r2⟩ := h.items i _ hm
  rcases r1 with ⟨e1, e2⟩ | ⟨gb, of, cap, cur, e1, e4, e5, _⟩
  · omega
  · refine ⟨.pointer (some ⟨gb, of, none⟩), ?_, ⟨gb, of, l.length, cap, e1, by simp⟩, trivial⟩
    have e : execOp a.eval o = (do pure (.value (← Builtin.unsafeSliceData_ #[t] o.type #[a.eval x])) : Sem Next) := by
      unfold execOp
      rw [ho]
      simp [resolve, invoke, builtin]
    rw [e]
    refine run_val ?_
    rw [h1, e1]
    exact Lib.run_unsafeSliceData_row _ _ _ _ _ _ (by omega)
theorem liesAt_off {e : TypeId} (hc : Tryz.prog.cellsOf e = 1) (count off n : Nat) (hn : off + n ≤ count) : liesAt Tryz.prog Tryz.prog.depth e count off e n = true := by
  have hd : Tryz.prog.depth = (2 * (Tryz.prog.types.size + Made.depth) + 1) + 1 := rfl
  rw [hd]
  simp only [liesAt, Bool.or_eq_true]
  left
  rw [hd]
  simp [rowAt, hc, hn, sameLayout, Nat.mod_one]
theorem run_unsafeStr (w : World) (pt it ty e : TypeId) (hp : Tryz.prog.underlying pt = some (.pointer e)) (hc : Tryz.prog.cellsOf e = 1) (g of cells : Nat) (hsh : w.shape? g = some (e, cells)) (l : List UInt8) (h0 : l ≠ []) (hn : of + l.length ≤ cells) (h63 : l.length ≤ 9223372036854775807)
    (hcell : ∀ j x, l[j]? = some x → w.cell? ((⟨g, of, none⟩ : Addr).add j) = some (.int .u8 x.toNat)) :
    (Builtin.unsafeString_ #[pt, it] ty #[.pointer (some ⟨g, of, none⟩), .int .i64 l.length]).run Tryz.prog w = .ok (.string ⟨l.toArray⟩) (w.freeze ⟨g, of, none⟩ l.length) := by
  have hl : l.length ≠ 0 := by simpa using h0
  have hlb := Lib.run_loadBytes (P := Tryz.prog) (w := w) l ⟨g, of, none⟩ .empty hcell
  have hlies := liesAt_off hc (cells / Tryz.prog.cellsOf e) of l.length (by rw [hc]; simpa using hn)
  have h63' : ¬ (9223372036854775807 : Int) < (l.length : Int) := by omega
  have hmax : IntKind.i64.max = 9223372036854775807 := rfl
  have hneg : ¬ (l.length : Int) < 0 := by omega
  rw [show Builtin.unsafeString_ #[pt, it] ty #[.pointer (some ⟨g, of, none⟩), .int .i64 l.length] = Bind.bind (asInt (.int .i64 l.length)) _ from rfl]
  simp [asInt, asIntOf, hmax, h63', hneg, hl, variablesAt, hsh, elemOf, run_underlying hp, hlies, hlb]
theorem bytesOf_of (l : List UInt8) : bytesOf (l.map fun x => (x.toNat : Int)) = ⟨l.toArray⟩ := by
  have h : (bytesOf (l.map fun x => (x.toNat : Int))).data.toList = l := by
    unfold bytesOf
    rw [push_toList, List.map_map]
    refine (List.map_congr_left fun x _ => ?_).trans (List.map_id l)
    show UInt8.ofNat ((x.toNat : Int)).toNat = x
    simp
  have h2 : (bytesOf (l.map fun x => (x.toNat : Int))).data = l.toArray := by rw [← Array.toArray_toList (xs := (bytesOf (l.map fun x => (x.toNat : Int))).data), h]
  rw [← h2]
theorem freeze_heap (w : World) (p : Addr) (n : Nat) : (w.freeze p n).os = w.os ∧ (w.freeze p n).tape = w.tape ∧ (w.freeze p n).output = w.output ∧ (w.freeze p n).heap.size = w.heap.size ∧ ∀ b, b ≠ p.block → (w.freeze p n).heap[b]? = w.heap[b]? := by
  unfold World.freeze
  split
  · exact ⟨rfl, rfl, rfl, rfl, fun _ _ => rfl⟩
  · refine ⟨rfl, rfl, rfl, by simp, fun b hb => ?_⟩
    simp only [Array.getElem?_modify]
    rw [if_neg (fun e => hb e.symm)]
theorem mt_unsafeStr {l : List Int} {i e pt it : Nat} {x y : Operand} (ho : o.op = .call ⟨.builtin .unsafeString, #[x, y], #[pt, it]⟩) (hp : Tryz.prog.underlying pt = some (.pointer e)) (hc : Tryz.prog.cellsOf e = 1) (hx : evX S.F x = some (.sv (.one (.oe i 0 1)))) (hy : evK S.F y = some (.int .i64 (l.length : Int))) (hm : S.M[i]? = some (rowI e (intKT .u8) l)) (hl : 0 < l.length ∧ ∀ x ∈ l, 0 ≤ x ∧ x < 256) : MT c S o (.sv (.one (.v (.string (bytesOf l))))) [i] none := fun a w g hs h N Z hN => by
  obtain ⟨hl0, hb⟩ := hl
  obtain ⟨us, hus⟩ : ∃ us : List UInt8, l = us.map fun x => (x.toNat : Int) := by
    refine ⟨l.map fun x => UInt8.ofNat x.toNat, ?_⟩
    rw [List.map_map]
    refine (List.map_id l).symm.trans (List.map_congr_left fun x hx => ?_)
    have := hb x hx
    show x = ((UInt8.ofNat x.toNat).toNat : Int)
    rw [UInt8.toNat_ofNat_of_lt' (by show x.toNat < 256; omega)]
    omega
  obtain ⟨⟨b0, o0, n0, cap0, k1, k2⟩, _⟩ := evX_ok h hx
  have h2 : a.eval y = .int .i64 (l.length : Int) := evK_ok h hy
  obtain ⟨cs, ⟨hcl, r1⟩, r2⟩ := h.items i _ hm
  obtain rfl := r2.bytes
  rcases r1 with ⟨e1, e2⟩ | ⟨gb, of, cap, cur, e1, e4, e5, e6, e7, e8⟩
  · omega
  rw [e1] at k1
  simp only [Value.slice.injEq, Option.some.injEq, Addr.mk.injEq] at k1
  obtain ⟨⟨hb0, ho0, _⟩, _, _⟩ := k1
  rw [← hb0, ← ho0] at k2
  have hT : (intKT .u8).s = 1 := rfl
  rw [hT] at e7 e8
  have hlen : us.length = l.length := by rw [hus, List.length_map]
  have hrun : (execOp a.eval o).run Tryz.prog w = .ok (.value (.string (bytesOf l))) (w.freeze ⟨gb, of, none⟩ us.length) := by
    have ee : execOp a.eval o = (do pure (.value (← Builtin.unsafeString_ #[pt, it] o.type #[a.eval x, a.eval y])) : Sem Next) := by
      unfold execOp
      rw [ho]
      simp [resolve, invoke, builtin]
    suffices hU : (Builtin.unsafeString_ #[pt, it] o.type #[a.eval x, a.eval y]).run Tryz.prog w = .ok (.string (bytesOf l)) (w.freeze ⟨gb, of, none⟩ us.length) by
      rw [ee, Sem.run_bind, hU, Result.andThen_ok]
      rfl
    rw [k2, h2, ← hlen, hus, bytesOf_of, Nat.zero_mul, Nat.add_zero]
    refine run_unsafeStr w pt it o.type e hp hc gb of cur.size (by simp [World.shape?, e4]) us (fun hz => by rw [hz, List.length_nil] at hlen; omega) (by omega) (by unfold maxLen at e6; omega) fun j x hj => ?_
    have hj2 := (List.getElem?_eq_some_iff.1 hj).1
    have hcell : (((cur.toList.drop of).take (l.length * 1)))[j]? = some (Value.int .u8 (x.toNat : Int)) := by
      rw [e8, hus]
      simp [hj]
    rw [List.getElem?_take, if_pos (by omega), List.getElem?_drop] at hcell
    have ha : ((⟨gb, of, none⟩ : Addr).add j) = ⟨gb, of + j, none⟩ := by
      unfold Addr.add
      split
      · rename_i hz
        have hz : j = 0 := by simpa using hz
        subst hz
        rfl
      · rfl
    rw [ha]
    unfold World.cell?
    simp only [e4]
    simpa using hcell
  unfold Oper.wp
  rw [hrun]
  obtain ⟨f1, f2, f3, f4, f5⟩ := freeze_heap w ⟨gb, of, none⟩ us.length
  have hblk : Blk (hs i) gb := by rw [e1]; exact rfl
  have hg := ((h.mine i _ hm (fun e => by cases e) gb hblk).2 rfl).2
  refine hN _ _ g undef ⟨f1, f2, f3, Nat.le_of_eq f4.symm, fun b _ hk => f5 b (fun e => ?_), Gh.le.refl g, fun _ _ e => .inl e, fun b o' hb' => ?_⟩ ⟨rfl, trivial⟩ trivial
  · have e : b = gb := e
    exact hk i (by simp) (by rw [e]; exact hblk)
  · rw [f5 b (fun e => ?_)]
    · exact h.base.pers b o' hb'
    · have e : b = gb := e
      rw [e, hg] at hb'
      cases hb'
theorem turnNil (i : Nat) : ∀ a w g hs, Ok' c S a w g hs → ∀ u, At.ok g hs (.v (.pointer none)) u → At.ok g hs (.opt i) u := fun a w g hs _ u h => ⟨.inl h.1, h.2⟩
theorem turnPtr (i : Nat) : ∀ a w g hs, Ok' c S a w g hs → ∀ u, At.ok g hs (.ptr i 0) u → At.ok g hs (.opt i) u := fun a w g hs _ u h => ⟨.inr h.1, h.2⟩
end
theorem itemsOk_head {may : Nat → Prop} {lo : Nat} {M : List Item} {g : Gh} {hs : Nat → Value} {w : World} {X Y : Item} (hf : X.fz = Y.fz) (hX : X ≠ .gone) (h : ItemsOk may lo (X :: M) g hs w) (hy : Y.ok g hs w (hs 0)) : ItemsOk may lo (Y :: M) g hs w := by
  have key : ∀ (i : Nat) (it : Item), (Y :: M)[i]? = some it → ∃ jt, (X :: M)[i]? = some jt ∧ jt.fz = it.fz ∧ (it ≠ .gone → jt ≠ .gone) ∧ (i ≠ 0 → jt = it) ∧ (i = 0 → it = Y) := fun i it hi => by
    cases i with
    | zero =>
      cases hi
      exact ⟨X, rfl, hf, fun _ => hX, fun e => absurd rfl e, fun _ => rfl⟩
    | succ i => exact ⟨it, hi, rfl, id, fun _ => rfl, fun e => by cases e⟩
  refine ⟨fun i it hi => ?_, fun i j it jt hij hi hj hfi hnj => ?_, fun i it hi hn b hb => ?_⟩
  · obtain ⟨jt, h1, _, _, h4, h5⟩ := key i it hi
    by_cases e : i = 0
    · rw [h5 e, e]
      exact hy
    · rw [← h4 e]
      exact h.items i jt h1
  · obtain ⟨it', h1, h2, _⟩ := key i it hi
    obtain ⟨jt', k1, _, k3, _⟩ := key j jt hj
    exact h.sep i j it' jt' hij h1 k1 (h2.trans hfi) (k3 hnj)
  · obtain ⟨it', h1, h2, h3, _⟩ := key i it hi
    obtain ⟨m1, m2⟩ := h.mine i it' h1 (h3 hn) b hb
    exact ⟨m1, fun e => m2 (h2.trans e)⟩
theorem mayM_head {M : List Item} {hs : Nat → Value} {X Y : Item} (hf : X.fz = Y.fz) : mayM (X :: M) hs = mayM (Y :: M) hs := by
  have key : ∀ {X Y : Item}, X.fz = Y.fz → ∀ b, mayM (X :: M) hs b → mayM (Y :: M) hs b := fun {X Y} hf b ⟨i, it, h1, h2, h3⟩ => by
    cases i with
    | zero =>
      cases h1
      exact ⟨0, Y, rfl, hf.symm.trans h2, h3⟩
    | succ i => exact ⟨i + 1, it, h1, h2, h3⟩
  exact funext fun b => propext ⟨key hf b, key hf.symm b⟩
theorem ctE_opt {β : Type} {f : Nat} {ins : List SC} {M : List Item} {cells : List At} {t : Nat} {pin : List Nat} {post : β → Prop} {out : β → SC} {M' : β → List Item} (h1 : CtE f ins (.box (.v (.pointer none) :: cells) t false :: M) pin post out M') (h2 : CtE f ins (.box (.ptr 0 0 :: cells) t false :: M) pin post out M') : CtE f ins (.box (.opt 0 :: cells) t false :: M) pin post out M' := fun w g hs args hp ha hi => by
  obtain ⟨b, cs, e1, e2, e3, e4⟩ := hi.items 0 _ rfl
  cases cs with
  | nil => exact e2.elim
  | cons u us =>
    obtain ⟨⟨r1, c1⟩, c2, c3⟩ := e2
    rcases r1 with r1 | r1
    · have := h1 w g hs args hp ha (itemsOk_head (X := .box (.opt 0 :: cells) t false) (Y := .box (.v (.pointer none) :: cells) t false) rfl (fun e => by cases e) hi ⟨b, u :: us, e1, ⟨⟨r1, c1⟩, c2, c3⟩, e3, e4⟩)
      rwa [mayM_head (X := .box (.v (.pointer none) :: cells) t false) (Y := .box (.opt 0 :: cells) t false) rfl] at this
    · have := h2 w g hs args hp ha (itemsOk_head (X := .box (.opt 0 :: cells) t false) (Y := .box (.ptr 0 0 :: cells) t false) rfl (fun e => by cases e) hi ⟨b, u :: us, e1, ⟨⟨r1, c1⟩, c2, c3⟩, e3, e4⟩)
      rwa [mayM_head (X := .box (.ptr 0 0 :: cells) t false) (Y := .box (.opt 0 :: cells) t false) rfl] at this
def pinA (P : Nat → Option Value) (D : Nat → Option Nat) : At → At
  | .own i => match P i with
    | some x => .pown i x
    | none => .own i
  | .ptr i k => match D i with
    | some b => .pptr i k b
    | none => .ptr i k
  | a => a
def pinI (P : Nat → Option Value) (D : Nat → Option Nat) : Item → Item
  | .box cells ty fz => .box (cells.map (pinA P D)) ty fz
  | it => it
def pinG (pin : List Nat) (B : Nat → Nat) (i : Nat) : Option Nat := bif pin.any (Nat.beq i) then some (B i) else none
def pinK (L : List (Nat × Nat)) (i : Nat) : Option Nat := match L with
  | [] => none
  | (j, x) :: L => bif Nat.beq i j then some x else pinK L i
def pinF (pin : List Nat) (V : Nat → Value) (i : Nat) : Option Value := bif pin.any (Nat.beq i) then some (V i) else none
def pinL (L : List (Nat × Value)) (i : Nat) : Option Value := match L with
  | [] => none
  | (j, x) :: L => bif Nat.beq i j then some x else pinL L i
section
variable {P : Nat → Option Value} {D : Nat → Option Nat} {g : Gh} {hs : Nat → Value}
theorem pinA_some {i : Nat} {x : Value} (h : P i = some x) : pinA P D (.own i) = .pown i x := by simp only [pinA, h]
theorem pinA_none {i : Nat} (h : P i = none) : pinA P D (.own i) = .own i := by simp only [pinA, h]
theorem pinA_ptr {i k b : Nat} (h : D i = some b) : pinA P D (.ptr i k) = .pptr i k b := by simp only [pinA, h]
theorem pinA_noptr {i k : Nat} (h : D i = none) : pinA P D (.ptr i k) = .ptr i k := by simp only [pinA, h]
theorem pinA_ok (hP : ∀ i x, P i = some x → hs i = x) (hD : ∀ i b, D i = some b → hs i = .pointer (some ⟨b, 0, none⟩)) {a : At} {u : Value} (h : a.ok g hs u) : (pinA P D a).ok g hs u := by
  cases a with
  | own i =>
    cases e : P i with
    | some x => rw [pinA_some e]; exact ⟨⟨hP i x e, h.1⟩, h.2⟩
    | none => rw [pinA_none e]; exact h
  | ptr i k =>
    cases e : D i with
    | some b =>
      rw [pinA_ptr e]
      obtain ⟨⟨b', h1, h2⟩, h3⟩ := h
      have h4 := hD i b e
      rw [h1] at h4
      simp at h4
      subst h4
      exact ⟨⟨h1, h2⟩, h3⟩
    | none => rw [pinA_noptr e]; exact h
  | _ => exact h
theorem unpinA_ok {a : At} {u : Value} (h : (pinA P D a).ok g hs u) : a.ok g hs u := by
  cases a with
  | own i =>
    cases e : P i with
    | some x => rw [pinA_some e] at h; exact ⟨h.1.2, h.2⟩
    | none => rw [pinA_none e] at h; exact h
  | ptr i k =>
    cases e : D i with
    | some b => rw [pinA_ptr e] at h; exact ⟨⟨b, h.1.1, h.1.2⟩, h.2⟩
    | none => rw [pinA_noptr e] at h; exact h
  | _ => exact h
theorem pinA_oks (hP : ∀ i x, P i = some x → hs i = x) (hD : ∀ i b, D i = some b → hs i = .pointer (some ⟨b, 0, none⟩)) : ∀ {l : List At} {us : List Value}, oks g hs l us → oks g hs (l.map (pinA P D)) us
  | [], [], _ => trivial
  | [], _ :: _, h => h.elim
  | _ :: _, [], h => h.elim
  | _ :: _, _ :: _, h => ⟨pinA_ok hP hD h.1, h.2.1, pinA_oks hP hD h.2.2⟩
theorem unpinA_oks : ∀ {l : List At} {us : List Value}, oks g hs (l.map (pinA P D)) us → oks g hs l us
  | [], [], _ => trivial
  | [], _ :: _, h => h.elim
  | _ :: _, [], h => h.elim
  | _ :: _, _ :: _, h => ⟨unpinA_ok h.1, h.2.1, unpinA_oks h.2.2⟩
theorem pinI_ok (hP : ∀ i x, P i = some x → hs i = x) (hD : ∀ i b, D i = some b → hs i = .pointer (some ⟨b, 0, none⟩)) {it : Item} {w : World} {v : Value} (h : it.ok g hs w v) : (pinI P D it).ok g hs w v := by
  cases it with
  | box cells ty fz => obtain ⟨b, cs, h1, h2, h3⟩ := h; exact ⟨b, cs, h1, pinA_oks hP hD h2, h3⟩
  | _ => exact h
theorem unpinI_ok {it : Item} {w : World} {v : Value} (h : (pinI P D it).ok g hs w v) : it.ok g hs w v := by
  cases it with
  | box cells ty fz => obtain ⟨b, cs, h1, h2, h3⟩ := h; exact ⟨b, cs, h1, unpinA_oks h2, h3⟩
  | _ => exact h
theorem pinI_fz {it : Item} : (pinI P D it).fz = it.fz := by cases it <;> rfl
theorem pinI_gone {it : Item} : pinI P D it = .gone ↔ it = .gone := by cases it <;> simp [pinI]
theorem map_pin_get {M : List Item} {i : Nat} {jt : Item} (h : (M.map (pinI P D))[i]? = some jt) : ∃ it, M[i]? = some it ∧ pinI P D it = jt := by
  rw [List.getElem?_map] at h
  cases e : M[i]? with
  | none => rw [e] at h; cases h
  | some it => rw [e] at h; exact ⟨it, rfl, Option.some.inj h⟩
theorem ItemsOk.pin {may : Nat → Prop} {lo : Nat} {M : List Item} {w : World} (hP : ∀ i x, P i = some x → hs i = x) (hD : ∀ i b, D i = some b → hs i = .pointer (some ⟨b, 0, none⟩)) (h : ItemsOk may lo M g hs w) : ItemsOk may lo (M.map (pinI P D)) g hs w := by
  refine ⟨fun i jt hi => ?_, fun i j it jt hij hi hj hf hn => ?_, fun i it hi hn => ?_⟩
  · obtain ⟨it, h1, rfl⟩ := map_pin_get hi
    exact pinI_ok hP hD (h.items i it h1)
  · obtain ⟨it', h1, rfl⟩ := map_pin_get hi
    obtain ⟨jt', h2, rfl⟩ := map_pin_get hj
    exact h.sep i j it' jt' hij h1 h2 (by rw [← hf, pinI_fz]) (fun e => hn (pinI_gone.2 e))
  · obtain ⟨it', h1, rfl⟩ := map_pin_get hi
    rw [pinI_fz]
    exact h.mine i it' h1 (fun e => hn (pinI_gone.2 e))
theorem ItemsOk.unpin {may : Nat → Prop} {lo : Nat} {M : List Item} {w : World} (h : ItemsOk may lo (M.map (pinI P D)) g hs w) : ItemsOk may lo M g hs w := by
  have key : ∀ {i : Nat} {it : Item}, M[i]? = some it → (M.map (pinI P D))[i]? = some (pinI P D it) := fun {i it} e => by rw [List.getElem?_map, e]; rfl
  refine ⟨fun i it hi => unpinI_ok (h.items i _ (key hi)), fun i j it jt hij hi hj hf hn => h.sep i j _ _ hij (key hi) (key hj) (by rw [pinI_fz]; exact hf) (fun e => hn (pinI_gone.1 e)), fun i it hi hn => ?_⟩
  have := h.mine i _ (key hi) (fun e => hn (pinI_gone.1 e))
  rwa [pinI_fz] at this
theorem mayM_pin {M : List Item} : mayM (M.map (pinI P D)) hs = mayM M hs := by
  funext b
  refine propext ⟨?_, ?_⟩
  · rintro ⟨i, jt, h1, h2, h3⟩
    obtain ⟨it, h4, rfl⟩ := map_pin_get h1
    exact ⟨i, it, h4, by rw [← h2, pinI_fz], h3⟩
  · rintro ⟨i, it, h1, h2, h3⟩
    exact ⟨i, pinI P D it, by rw [List.getElem?_map, h1]; rfl, by rw [pinI_fz]; exact h2, h3⟩
end
def cellIn (M : List Item) (p : At → Bool) : Bool := M.any fun it => match it with
  | .box cells _ _ => cells.any p
  | _ => false
def isOwn (i : Nat) : At → Bool
  | .own j => Nat.beq i j
  | _ => false
def isPtr (i : Nat) : At → Bool
  | .ptr j 0 => Nat.beq i j
  | _ => false
theorem pinL_mem {L : List (Nat × Value)} {i : Nat} {x : Value} (h : pinL L i = some x) : (i, x) ∈ L := by
  induction L with
  | nil => cases h
  | cons y L ih =>
    obtain ⟨j, z⟩ := y
    unfold pinL at h
    cases e : Nat.beq i j with
    | true =>
      rw [e] at h
      have := Nat.eq_of_beq_eq_true e
      subst this
      have h : some z = some x := h
      cases h
      exact List.mem_cons_self
    | false =>
      rw [e] at h
      exact List.mem_cons_of_mem _ (ih h)
theorem pinK_mem {L : List (Nat × Nat)} {i x : Nat} (h : pinK L i = some x) : (i, x) ∈ L := by
  induction L with
  | nil => cases h
  | cons y L ih =>
    obtain ⟨j, z⟩ := y
    unfold pinK at h
    cases e : Nat.beq i j with
    | true =>
      rw [e] at h
      have := Nat.eq_of_beq_eq_true e
      subst this
      have h : some z = some x := h
      cases h
      exact List.mem_cons_self
    | false =>
      rw [e] at h
      exact List.mem_cons_of_mem _ (ih h)
theorem oks_at {g : Gh} {hs : Nat → Value} : ∀ {l : List At} {us : List Value} {a : At}, oks g hs l us → a ∈ l → ∃ u, a.ok g hs u
  | [], _, _, _, h => by cases h
  | _ :: _, [], _, h, _ => h.elim
  | y :: l, u :: us, a, h, ha => by
    rcases List.mem_cons.1 ha with rfl | ha
    · exact ⟨u, h.1⟩
    · exact oks_at h.2.2 ha
theorem cellIn_at {M : List Item} {p : At → Bool} {f : At → At} {F : Item → Item} {may : Nat → Prop} {lo : Nat} {g : Gh} {hs : Nat → Value} {w : World} (hF : ∀ cells ty fz, F (.box cells ty fz) = .box (cells.map f) ty fz) (hm : ItemsOk may lo (M.map F) g hs w) (h : cellIn M p = true) : ∃ a u, p a = true ∧ (f a).ok g hs u := by
  obtain ⟨it, h1, h2⟩ := List.any_eq_true.1 h
  split at h2
  · rename_i cells ty fz
    obtain ⟨a, h3, h4⟩ := List.any_eq_true.1 h2
    obtain ⟨q, hq⟩ := List.mem_iff_getElem?.1 h1
    obtain ⟨b, cs, _, h6, _⟩ := hm.items q (.box (cells.map f) ty fz) (by rw [List.getElem?_map, hq]; exact congrArg some (hF cells ty fz))
    obtain ⟨u, h7⟩ := oks_at h6 (List.mem_map_of_mem h3)
    exact ⟨a, u, h4, h7⟩
  · cases h2
theorem CtE.kept {β : Type} {f : Nat} {ins : List SC} {M : List Item} {pin : List Nat} {post : β → Prop} {out : β → SC} {M' : β → List Item} (h : CtE f ins M pin post out M') (L : List (Nat × Value)) (B : List (Nat × Nat)) (hL : (L.all (fun x => cellIn M (isOwn x.1) && pin.any (Nat.beq x.1)) && B.all (fun x => cellIn M (isPtr x.1) && pin.any (Nat.beq x.1))) = true) : CtE f ins (M.map (pinI (pinL L) (pinK B))) pin post out (fun r => (M' r).map (pinI (pinL L) (pinK B))) := fun w g hs args hp ha hm => by
  obtain ⟨hL, hB⟩ := (Bool.and_eq_true _ _).mp hL
  have hP : ∀ i x, pinL L i = some x → hs i = x ∧ i ∈ pin := fun i x e => by
    obtain ⟨m1, m2⟩ := (Bool.and_eq_true _ _).mp (List.all_eq_true.1 hL _ (pinL_mem e))
    obtain ⟨a, u, h4, h7⟩ := cellIn_at (fun _ _ _ => rfl) hm m1
    cases a <;> first | cases h4; done | skip
    have h4 := Nat.eq_of_beq_eq_true h4
    simp only at h4
    subst h4
    rw [pinA_some e] at h7
    exact ⟨h7.1.1, any_beq.1 m2⟩
  have hD : ∀ i b, pinK B i = some b → hs i = .pointer (some ⟨b, 0, none⟩) ∧ i ∈ pin := fun i b e => by
    obtain ⟨m1, m2⟩ := (Bool.and_eq_true _ _).mp (List.all_eq_true.1 hB _ (pinK_mem e))
    obtain ⟨a, u, h4, h7⟩ := cellIn_at (fun _ _ _ => rfl) hm m1
    have h4 : isPtr i a = true := h4
    unfold isPtr at h4
    split at h4
    · rename_i j
      have h4 := Nat.eq_of_beq_eq_true h4
      subst h4
      rw [pinA_ptr e] at h7
      exact ⟨h7.1.1, any_beq.1 m2⟩
    · cases h4
  refine (h w g hs args hp ha hm.unpin).mono ?_
  rintro e w' ⟨v, g', hs', r, e1, e2, e3, e4, e5, e6⟩
  rw [mayM_pin]
  exact ⟨v, g', hs', r, e1, e2, e3, e4, e5, e6.pin (fun i x hx => (e4 i (hP i x hx).2).trans (hP i x hx).1) (fun i b hx => (e4 i (hD i b hx).2).trans (hD i b hx).1)⟩
def pinT (pin : List Nat) (B : Nat → Nat) : SC → SC
  | .sv (.one (.fn f caps)) => bif caps.all (fun i => pin.any (Nat.beq i)) then .sv (.one (.pfn f (caps.map fun i => (i, B i)))) else .sv (.one (.fn f caps))
  | x => pinS pin B x
theorem okArgs_pinT {g : Gh} {hs : Nat → Value} {pin : List Nat} {B : Nat → Nat} (hB : ∀ i ∈ pin, hs i = .pointer (some ⟨B i, 0, none⟩)) : ∀ {l : List SC} {us : List Value}, okArgs g hs l us → okArgs g hs (l.map (pinT pin B)) us
  | [], [], _ => trivial
  | [], _ :: _, h => h.elim
  | _ :: _, [], h => h.elim
  | x :: l, u :: us, h => by
    refine ⟨?_, okArgs_pinT hB h.2⟩
    have h1 := h.1
    unfold pinT
    split
    · rename_i f caps
      cases hc : caps.all (fun i => pin.any (Nat.beq i)) with
      | false => exact h1
      | true =>
        refine ⟨⟨fun p hp => ?_, ?_⟩, h1.2⟩
        · obtain ⟨i, hi, rfl⟩ := List.mem_map.1 hp
          exact hB i (any_beq.1 (List.all_eq_true.1 hc i hi))
        · have e : (caps.map fun i => (i, B i)).map (·.1) = caps := by
            rw [List.map_map]
            exact List.map_id caps
          rw [e]
          exact h1.1
    · exact (okArgs_pin hB (l := [x]) (us := [u]) ⟨h1, trivial⟩).1
theorem CtE.args {β : Type} {f : Nat} {ins ins' : List SC} {M : List Item} {pin : List Nat} {post : β → Prop} {out : β → SC} {M' : β → List Item} (h : CtE f ins M pin post out M') (hle : ArgLe ins' ins) : CtE f ins' M pin post out M' := fun w g hs args h1 h2 h3 => h w g hs args h1 (hle _ _ _ h2) h3
def RetK {β : Type} (c : Cfg) (rs : Array ResultVar) (pin : List Nat) (B : Nat → Nat) (pinr : List Nat) (V : Nat → Value) (post : β → Prop) (out : β → SC) (M' : β → List Item) : Po := fun a w => a.defers = c.dfr ∧ ∃ v g hs r, (resR rs a.tmps).run Tryz.prog w = .ok v w ∧ post r ∧ (out r).ok g hs v ∧ (∀ i ∈ pin, hs i = .pointer (some ⟨B i, 0, none⟩)) ∧ (∀ i ∈ pinr, hs i = V i) ∧ Base c w g ∧ ItemsOk c.may c.w0.heap.size (M' r) g hs w
def isBoxAt (M : List Item) (i : Nat) : Bool := match M[i]? with
  | some (.box _ _ _) => true
  | _ => false
theorem CtE.bodyP {β : Type} {f : Nat} {fn : Func} {code : Code} {n : Nat} {rs : Array ResultVar} {ins : List SC} {M : List Item} (pin pinr : List Nat) {post : β → Prop} {out : β → SC} {M' : β → List Item} (hf : Tryz.prog.funcs[f]? = some fn) (hb : fn.body = some code) (hn : fn.ntmps = n) (hr : fn.results = rs)
    (hl : Nat.ble ins.length n = true) (hpin : pin.all (isBoxAt M) = true) (h : ∀ (c : Cfg) (B : Nat → Nat) (V : Nat → Value), c.n = n → En c ⟨enumF 0 (ins.map (pinT pin B)), M.map (pinI (pinF pinr V) (pinG pin B))⟩ (cwp code (PQ c (RetK c rs pin B pinr V post out M') [] (RetK c rs pin B pinr V post out M')))) : CtE f ins M (pin ++ pinr) post out M' := fun w g hs args hp ha hm => by
  have hl := Nat.le_of_ble_eq_true hl
  have hla := okArgs_length ha
  have hB : ∀ i ∈ pin, hs i = .pointer (some ⟨(blk (hs i)).getD 0, 0, none⟩) := fun i hi => by
    have e := List.all_eq_true.1 hpin i hi
    unfold isBoxAt at e
    split at e
    · rename_i hbx
      obtain ⟨b, cs, h1, _⟩ := hm.items i _ hbx
      rw [h1]
      rfl
    · cases e
  have hmP := hm.pin (P := pinF pinr hs) (D := pinG pin fun i => (blk (hs i)).getD 0) (fun i x e => by
    unfold pinF at e
    cases hc : pinr.any (Nat.beq i) with
    | true => rw [hc] at e; exact Option.some.inj e
    | false => rw [hc] at e; cases e) (fun i b e => by
    unfold pinG at e
    cases hc : pin.any (Nat.beq i) with
    | true =>
      rw [hc] at e
      rw [hB i (any_beq.1 hc), ← Option.some.inj e]
    | false => rw [hc] at e; cases e)
  refine calls_of_wp hf hb (Code.wp_mono (fun e a w' q => ?_) (h (cfgM n w g (mayM M hs)) (fun i => (blk (hs i)).getD 0) hs rfl { tmps := args.toArray ++ Array.replicate (fn.ntmps - args.toArray.size) undef, defers := [] } w ⟨g, hs, ?_⟩))
  · have key : RetK (cfgM n w g (mayM M hs)) rs pin (fun i => (blk (hs i)).getD 0) pinr hs post out M' a w' → a.defers = [] ∧ ∃ v, (results fn a.tmps).run Tryz.prog w' = .ok v w' ∧ ∃ v' g' hs' r, Ending.returned v = .returned v' ∧ post r ∧ (out r).ok g' hs' v' ∧ (∀ i ∈ pin ++ pinr, hs' i = hs i) ∧ Base (cfgM 0 w g (mayM M hs)) w' g' ∧ ItemsOk (mayM M hs) w.heap.size (M' r) g' hs' w' := fun ⟨h1, v, g', hs', r, h2, h3, h4, h5, h5', h6, h7⟩ => by
      refine ⟨h1, v, ?_, v, g', hs', r, rfl, h3, h4, fun i hi => ?_, ⟨h6.os, h6.tape, h6.output, h6.grows, h6.frame, h6.ghle, h6.ghnew, h6.pers⟩, h7⟩
      · subst hr
        exact h2
      · rcases List.mem_append.1 hi with hi | hi
        · exact (h5 i hi).trans (hB i hi).symm
        · exact h5' i hi
    cases e <;> first | exact key q | exact (q : False).elim | exact (q.2 : False).elim
  · refine ⟨?_, rfl, ⟨rfl, rfl, rfl, Nat.le_refl _, fun _ _ _ => rfl, Gh.le.refl g, fun b o e => .inl e, hp⟩, fun t x hx => ?_, hmP.items, hmP.sep, fun i it hi hn b hb => ?_⟩
    · simp [hn]
      omega
    · obtain ⟨u, h1, _, h3⟩ := enumF_ok (okArgs_pinT hB ha) hx
      simp only [Nat.sub_zero] at h1
      have hlt := (List.getElem?_eq_some_iff.1 h1).1
      have : (args.toArray ++ Array.replicate (fn.ntmps - args.toArray.size) undef).getD t undef = u := by
        rw [Array.getD_eq_getD_getElem?, Array.getElem?_append_left (by simpa using hlt)]
        simp [h1]
      rw [this]
      exact h3
    · obtain ⟨h1, h2⟩ := hmP.mine i it hi hn b hb
      obtain ⟨it', h3, rfl⟩ := map_pin_get hi
      exact ⟨h1, fun hf => ⟨.inl ⟨i, it', h3, by rw [← hf, pinI_fz], hb⟩, (h2 hf).2⟩⟩
inductive Wit where
  | slot (t : Nat)
  | cell (q j : Nat)
  | cap (t k : Nat)
def witOf (S : St) : Wit → Option At
  | .slot t => match look t S.F with
    | some (.sv (.one a)) => some a
    | _ => none
  | .cell q j => match S.M[q]? with
    | some (.box cells _ _) => cells[j]?
    | _ => none
  | .cap t k => match look t S.F with
    | some (.sv (.one (.pfn _ l))) => match l[k]? with
      | some p => some (.pptr p.1 0 p.2)
      | none => none
    | _ => none
theorem witOf_ok {c : Cfg} {S : St} {a : Act} {w : World} {g : Gh} {hs : Nat → Value} (h : Ok' c S a w g hs) {x : Wit} {y : At} (e : witOf S x = some y) : ∃ u, y.ok g hs u := by
  cases x with
  | slot t =>
    unfold witOf at e
    simp only at e
    split at e
    · rename_i b hl
      cases e
      exact ⟨_, h.slots t _ (look_mem hl)⟩
    · cases e
  | cell q j =>
    unfold witOf at e
    simp only at e
    split at e
    · rename_i cells ty fz hq
      obtain ⟨b, cs, _, h6, _⟩ := h.items q _ hq
      exact oks_at h6 (List.mem_of_getElem? e)
    · cases e
  | cap t k =>
    unfold witOf at e
    simp only at e
    split at e
    · rename_i f l hl
      have hk := h.slots t _ (look_mem hl)
      split at e
      · rename_i p hp
        cases e
        exact ⟨_, ⟨hk.1.1 p (List.mem_of_getElem? hp), rfl⟩, trivial⟩
      · cases e
    · cases e
theorem wits {c : Cfg} {S : St} {a : Act} {w : World} {g : Gh} {hs : Nat → Value} (h : Ok' c S a w g hs) {ws : List Wit} {pin : List Nat} {f : Nat → At} (e : ws.map (witOf S) = pin.map fun i => some (f i)) {i : Nat} (hi : i ∈ pin) : ∃ u, (f i).ok g hs u := by
  obtain ⟨j, hj⟩ := List.mem_iff_getElem?.1 hi
  have := congrArg (·[j]?) e
  simp only [List.getElem?_map, hj, Option.map_some] at this
  cases ht : ws[j]? with
  | none => rw [ht] at this; simp at this
  | some t =>
    rw [ht] at this
    simp only [Option.map_some, Option.some.injEq] at this
    exact witOf_ok h this
section
variable {c : Cfg} {S : St} {tab : Tab}
theorem En.backP {β : Type} {post : β → Prop} {out : β → SC} {M' : β → List Item} {rs : Array ResultVar} {pin : List Nat} {B : Nat → Nat} {pinr : List Nat} {V : Nat → Value} (ts ws : List Wit) (ht : tab.ok) (r : β) (hp : post r) (e : evR tab S rs = some (out r)) (hM : (dropM ((M' r).map (pinI (pinF pinr V) (pinG pin B))) S.M).1 = (dropM ((M' r).map (pinI (pinF pinr V) (pinG pin B))) S.M).2)
    (hB : ts.map (witOf S) = pin.map fun i => some (.pptr i 0 (B i))) (hR : ws.map (witOf S) = pinr.map fun i => some (.pown i (V i))) : En c S (RetK c rs pin B pinr V post out M') := fun a w ⟨g, hs, h⟩ => by
  obtain ⟨v, h1, h2⟩ := evR_ok ht h e
  have hM := dropM_ok hM
  have hm : ∀ (i : Nat) (it : Item), ((M' r).map (pinI (pinF pinr V) (pinG pin B)))[i]? = some it → it ≠ .gone → S.M[i]? = some it := fun i it hi hn => (hM i it hi).resolve_left hn
  have hI : ItemsOk c.may c.w0.heap.size ((M' r).map (pinI (pinF pinr V) (pinG pin B))) g hs w := by
    refine ⟨fun i it hi => ?_, fun i j it jt hij hi hj hfi hnj => h.sep i j it jt hij (hm i it hi (fz_gone hfi)) (hm j jt hj hnj) hfi hnj, fun i it hi hni => h.mine i it (hm i it hi hni) hni⟩
    rcases hM i it hi with rfl | h1
    · trivial
    · exact h.items i it h1
  refine ⟨h.defers, v, g, hs, r, h1, hp, h2, fun i hi => ?_, fun i hi => ?_, h.base, hI.unpin⟩
  · obtain ⟨u, hu⟩ := wits h hB hi
    exact hu.1.1
  · obtain ⟨u, hu⟩ := wits h hR hi
    exact hu.1.1
end
def xsE (l : List Oper) (ms : List Nat) : Nat → List (List Bool)
  | 0 => [[]]
  | i + 1 => (xsE l ms i).flatMap fun b => match ms.contains i with
    | true => [b ++ [true]]
    | false => match (onI l i).all fun j => b.getD j false with
      | true => [b ++ [false], b ++ [true]]
      | false => [b ++ [false]]
def xsA (l : List Oper) (ms : List Nat) (m : Nat) : List (Array Bool) := (xsE l ms m).map fun b => (b ++ List.replicate (l.length - m) false).toArray
def behindE (l : List Oper) (m : Nat) : Bool := (List.range l.length).all fun k => Nat.ble k m || ((onI l k).contains m || (closE l k (onI l k)).contains m)
def mustE (l : List Oper) (m : Nat) (ms : List Nat) : Bool := ms.all fun j => (onI l m).contains j || (closE l m (onI l m)).contains j
section
variable {c : Cfg} {C : Cert} {l : List Oper} {n m : Nat} {N : Po}
def XsOk (c : Cfg) (C : Cert) (l : List Oper) (N : Po) : List (Array Bool) → Prop
  | [] => True
  | A :: r => (∃ (S : St) (f : Nat), subE S ⟨C.FL l (LB A), C.ML (LB A)⟩ = subX S ∧ (A.toList.filter id).length + f = l.length ∧ RD c l N f A S) ∧ XsOk c C l N r
theorem XsOk.get : ∀ {As : List (Array Bool)}, XsOk c C l N As → ∀ A ∈ As, ∃ (S : St) (f : Nat), subE S ⟨C.FL l (LB A), C.ML (LB A)⟩ = subX S ∧ (A.toList.filter id).length + f = l.length ∧ RD c l N f A S
  | B :: r, h, A, hA => by
    rcases List.mem_cons.1 hA with rfl | hA
    · exact h.1
    · exact XsOk.get h.2 A hA
theorem XsOk.have {As : List (Array Bool)} (f' : Nat) (L' : Array Bool) (S' : St) (h1 : RD c l N f' L' S') (h2 : RD c l N f' L' S' → XsOk c C l N As) : XsOk c C l N As := h2 h1
theorem xsE_mem {ms : List Nat} {listed : Array Bool} (hs : listed.size = l.length) (hb : ∀ (i : Nat) (o : Oper), l[i]? = some o → ∀ j ∈ onE o, j < i) (hcl : Closed' l (LB listed)) (hm : ∀ j ∈ ms, LB listed j = true) : ∀ i, i ≤ l.length → listed.toList.take i ∈ xsE l ms i
  | 0, _ => by simp [xsE]
  | i + 1, hi => by
    have ih := xsE_mem hs hb hcl hm i (by omega)
    have hlt : i < listed.toList.length := by rw [Array.length_toList, hs]; omega
    have hLi : LB listed i = listed.toList[i] := by
      unfold LB
      rw [Array.getD_eq_getD_getElem?, ← Array.getElem?_toList, List.getElem?_eq_getElem hlt]
      rfl
    have hpre : ∀ j, j < i → (listed.toList.take i).getD j false = LB listed j := fun j hj => by
      unfold LB
      rw [List.getD_eq_getElem?_getD, List.getElem?_take_of_lt hj, Array.getD_eq_getD_getElem?, ← Array.getElem?_toList]
    rw [List.take_add_one, List.getElem?_eq_getElem hlt]
    show _ ∈ (xsE l ms i).flatMap _
    rw [List.mem_flatMap]
    refine ⟨_, ih, ?_⟩
    show _ ++ [listed.toList[i]] ∈ _
    split
    · rename_i hc
      have := hm i (List.contains_iff_mem.1 hc)
      rw [hLi] at this
      rw [this]
      exact List.mem_singleton.2 rfl
    · split
      · cases listed.toList[i] <;> simp
      · rename_i hne
        cases he : listed.toList[i] with
        | false => simp
        | true =>
          exfalso
          rw [he] at hLi
          obtain ⟨h1, h2⟩ := hcl i hLi
          have ho : l[i]? = some (l[i]'h1) := List.getElem?_eq_getElem h1
          have : ((onI l i).all fun j => (listed.toList.take i).getD j false) = true := List.all_eq_true.2 fun j hj => by
            have hj2 := h2 j hj
            rw [onI_eq ho] at hj
            rw [hpre j (hb i _ ho j hj)]
            exact hj2
          rw [this] at hne
          cases hne
theorem xsA_mem {ms : List Nat} {listed : Array Bool} (hs : listed.size = l.length) (hb : ∀ (i : Nat) (o : Oper), l[i]? = some o → ∀ j ∈ onE o, j < i) (hcl : Closed' l (LB listed)) (hm : ∀ j ∈ ms, LB listed j = true) (hml : m ≤ l.length) (hlt : ∀ i, LB listed i = true → i < m) : listed ∈ xsA l ms m := by
  unfold xsA
  rw [List.mem_map]
  refine ⟨_, xsE_mem hs hb hcl hm m hml, ?_⟩
  have hd : listed.toList.drop m = List.replicate (l.length - m) false := by
    refine List.eq_replicate_iff.2 ⟨by simp [hs], fun b hb' => ?_⟩
    obtain ⟨i, hi, rfl⟩ := List.mem_iff_getElem.1 hb'
    rw [List.getElem_drop]
    have hi2 : m + i < listed.toList.length := by simp at hi ⊢; omega
    have hLi : LB listed (m + i) = listed.toList[m + i] := by
      unfold LB
      rw [Array.getD_eq_getD_getElem?, ← Array.getElem?_toList, List.getElem?_eq_getElem hi2]
      rfl
    cases he : listed.toList[m + i] with
    | false => rfl
    | true =>
      rw [he] at hLi
      have := hlt _ hLi
      omega
  rw [← hd, List.take_append_drop]
theorem anyX_ok {ms : List Nat} (hk : Chk C l) (hn : c.n = n) (hd : (l.all fun o => match o.dst with | some d => Nat.blt d n | none => true) = true) (hml : m < l.length) (hbe : behindE l m = true) (hms : mustE l m ms = true) (hs : StepsOk c C l 0 (l.take m)) (hX : XsOk c C l N (xsA l ms m)) :
    ∀ (fuel : Nat) (listed : Array Bool) (a : Act) (w : World), listed.size = l.length → Closed' l (LB listed) → (∀ i, LB listed i = true → i < m) → (listed.toList.filter id).length + fuel = l.length → Ok c ⟨C.FL l (LB listed), C.ML (LB listed)⟩ a w → wpAny Tryz.prog .any l.toArray (OnlyP c N) fuel listed a w := by
  intro fuel
  induction fuel with
  | zero =>
    intro listed a w hsz hcl hlt hcnt hok
    have hall : ∀ i, i < l.length → LB listed i = true := fun i hi => by
      have hlen : listed.toList.length = l.length := by simpa using hsz
      have := count_all listed.toList (by omega) (listed[i]'(by omega)) (by simp)
      unfold LB
      rw [Array.getD_eq_getD_getElem?]
      simp [hsz, hi, this]
    have := hlt m (hall m hml)
    omega
  | succ fuel ih =>
    intro listed a w hsz hcl hlt hcnt hok
    by_cases hR : ∀ j ∈ onI l m, LB listed j = true
    · have hmem : listed ∈ xsA l ms m := xsA_mem hsz hk.below hcl (fun j hj => by
        have h1 := List.all_eq_true.1 hms j hj
        rw [Bool.or_eq_true] at h1
        rcases h1 with h1 | h1
        · exact hR j (List.contains_iff_mem.1 h1)
        · exact closE_listed hcl m hR j (List.contains_iff_mem.1 h1)) (by omega) hlt
      obtain ⟨S, f, h1, h2, h3⟩ := hX.get listed hmem
      obtain rfl : f = fuel + 1 := by omega
      exact h3 a w (sub_ok h1 a w hok)
    · have hmF : LB listed m = false := by
        cases e : LB listed m with
        | false => rfl
        | true => exact absurd (hlt m e) (Nat.lt_irrefl _)
      refine ⟨fun hr => ?_, fun i hi => ?_⟩
      · have := ready_nil hsz hk.below hr m hml
        rw [this] at hmF
        cases hmF
      obtain ⟨o, ho, hL, hon⟩ := ready_mem hsz hi
      have hltl := (List.getElem?_eq_some_iff.1 ho).1
      have him : i < m := by
        refine Decidable.byContradiction fun hc => ?_
        rcases Nat.lt_or_ge m i with hmi | hmi
        · have h1 := List.all_eq_true.1 hbe i (List.mem_range.2 hltl)
          rw [Bool.or_eq_true] at h1
          rcases h1 with h1 | h1
          · have := Nat.le_of_ble_eq_true h1
            omega
          · rw [onI_eq ho, Bool.or_eq_true] at h1
            have : LB listed m = true := by
              rcases h1 with h1 | h1
              · exact hon m (List.contains_iff_mem.1 h1)
              · exact closE_listed hcl i hon m (List.contains_iff_mem.1 h1)
            rw [this] at hmF
            cases hmF
        · obtain rfl : i = m := by omega
          exact hR (by rw [onI_eq ho]; exact hon)
      have hst := stepsOk_get hs i o (by rw [List.getElem?_take_of_lt him]; exact ho)
      rw [Nat.zero_add] at hst
      have hset := LB_set (listed := listed) (i := i) (by omega)
      have hnext : ∀ a' w', Ok c ⟨C.FL l (addL (LB listed) i), C.ML (addL (LB listed) i)⟩ a' w' → wpAny Tryz.prog .any l.toArray (OnlyP c N) fuel (listed.setIfInBounds i true) a' w' := fun a' w' h' => by
        refine ih _ a' w' (by simpa using hsz) ?_ ?_ ?_ (by rw [hset]; exact h')
        · rw [hset]
          intro j hj
          unfold addL at hj ⊢
          by_cases e : j = i
          · subst e
            refine ⟨hltl, fun k hk' => ?_⟩
            rw [onI_eq ho] at hk'
            split
            · rfl
            · exact hon k hk'
          · rw [if_neg e] at hj
            obtain ⟨h1, h2⟩ := hcl j hj
            refine ⟨h1, fun k hk' => ?_⟩
            split
            · rfl
            · exact h2 k hk'
        · rw [hset]
          intro j hj
          unfold addL at hj
          by_cases e : j = i
          · omega
          · rw [if_neg e] at hj
            exact hlt j hj
        · rw [Array.toList_setIfInBounds, count_set]
          · omega
          · unfold LB at hL
            rw [Array.getD_eq_getD_getElem?] at hL
            have : listed[i]? = some listed[i] := by simp [hsz, hltl]
            rw [this] at hL
            simp at hL
            rw [Array.getElem?_toList, this, hL]
      have := step_ok (Z := N) hk hcl hn hd ho hL hon hst hok hnext
      unfold wpOp
      have ho' : l.toArray[i]? = some o := by simpa using ho
      rw [ho']
      simp only
      split
      · rename_i hw
        rw [if_pos hw] at this
        exact .inl this
      · rename_i hw
        rw [if_neg hw] at this
        exact this
theorem En.regionX {S : St} {id : Nat} {E : List (Nat × Po)} {R : Po} (C : Cert) (m : Nat) (ms : List Nat) (As : List (Array Bool)) (fin : St) (hm : Tryz.prog.follows .mixedOrders = true) (hn : c.n = n) (hml : Nat.blt m l.length = true) (hbe : behindE l m = true) (hms : mustE l m ms = true) (hk : chkE C l = true) (hd : (l.all fun o => match o.dst with | some d => Nat.blt d n | none => true) = true)
    (h0 : subE ⟨C.FL l (fun _ => false), C.ML (fun _ => false)⟩ S = subX ⟨C.FL l (fun _ => false), C.ML (fun _ => false)⟩) (hA : xsA l ms m = As) (hs : StepsOk c C l 0 (l.take m))
    (h1 : ∀ N : Po, En c fin N → XsOk c C l N As) (h2 : En c fin N) : En c S (cwp (.region id l.toArray true) (PQ c N E R)) := fun a w ⟨g, hs', hok⟩ => by
  have hok1 : Ok' c S a w.drew g hs' := hok.grown (grown_drew w)
  have hL : LB (Array.replicate l.length false) = fun _ => false := by
    funext i
    unfold LB
    rw [Array.getD_eq_getD_getElem?, Array.getElem?_replicate]
    split <;> rfl
  subst hA
  refine Code.wp_mono (fun e a w q => ?_) (wp_region_any (Q := OnlyP c N) hm (anyX_ok (chk_of hk) hn hd (Nat.le_of_ble_eq_true hml) hbe hms hs (h1 N h2) l.toArray.size _ a w.drew (by simp) ?_ ?_ ?_ ?_))
  · cases e <;> first | exact q | exact (q : False).elim
  · intro i hi
    simp only [List.size_toArray] at hi
    rw [hL] at hi
    cases hi
  · intro i hi
    simp only [List.size_toArray] at hi
    rw [hL] at hi
    cases hi
  · simp only [List.size_toArray, Array.toList_replicate]
    rw [List.filter_replicate_of_neg (by simp)]
    simp
  · simp only [List.size_toArray]
    rw [hL]
    exact sub_ok h0 a w.drew ⟨g, hs', hok1⟩
end
def unNil (k : Nat) : SC → SC
  | .sv (.one (.own j)) => bif Nat.beq j k then .sv (.one (.v (.slice none 0 0))) else .sv (.one (.own j))
  | x => x
def awayS (k : Nat) (x : SC) : Bool := x.refs.all fun i => !(Nat.beq i k)
def awayI (k : Nat) (x : Item) : Bool := x.refs.all fun i => !(Nat.beq i k)
section
variable {g : Gh} {hs : Nat → Value} {k : Nat}
theorem away_of {l : List Nat} (h : (l.all fun i => !(Nat.beq i k)) = true) : ∀ i ∈ l, (if i = k then Value.slice none 0 0 else hs i) = hs i := fun i hi => by
  rw [if_neg (beq_ne (List.all_eq_true.1 h i hi))]
theorem okArgs_unNil : ∀ {l : List SC} {us : List Value}, ((l.map (unNil k)).all (awayS k)) = true → okArgs g hs (l.map (unNil k)) us → okArgs g (fun i => if i = k then .slice none 0 0 else hs i) l us
  | [], [], _, _ => trivial
  | [], _ :: _, _, h => h.elim
  | _ :: _, [], _, h => h.elim
  | x :: l, u :: us, ha, h => by
    rw [List.map_cons, List.all_cons, Bool.and_eq_true] at ha
    refine ⟨?_, okArgs_unNil ha.2 h.2⟩
    have h1 := h.1
    have h2 := ha.1
    have gen : unNil k x = x → SC.ok g (fun i => if i = k then .slice none 0 0 else hs i) x u := fun e => by
      rw [e] at h1 h2
      exact SC.ok_hs (away_of h2) h1
    unfold unNil at h1 gen
    split at h1
    · rename_i j
      cases hc : Nat.beq j k with
      | false => exact gen (by simp [hc])
      | true =>
        rw [hc] at h1
        have hj := Nat.eq_of_beq_eq_true hc
        subst hj
        refine ⟨?_, h1.2⟩
        show u = (if j = j then _ else hs j)
        rw [if_pos rfl]
        exact h1.1
    · rename_i hne
      refine gen ?_
      split
      · rename_i j
        exact absurd rfl (hne j)
      · rfl
theorem CtE.nilOwn {β α : Type} {f e : Nat} {T : Ty α} {ins : List SC} {M : List Item} {pin : List Nat} {post : β → Prop} {out : β → SC} {M' : β → List Item} (h : CtE f ins (M ++ [rowI e T []]) pin post out M') (hk : M.length = k) (hc : ((ins.map (unNil k)).all (awayS k) && M.all (awayI k) && pin.all fun i => !(Nat.beq i k)) = true) : CtE f (ins.map (unNil k)) M pin post out M' := fun w g hs args h1 h2 h3 => by
  rw [Bool.and_eq_true, Bool.and_eq_true] at hc
  obtain ⟨⟨c1, c2⟩, c3⟩ := hc
  have hget : ∀ {i : Nat} {it : Item}, (M ++ [rowI e T ([] : List α)])[i]? = some it → (i ≠ k ∧ M[i]? = some it) ∨ (i = k ∧ it = rowI e T []) := fun {i it} hi => by
    rcases Nat.lt_or_ge i M.length with hl | hl
    · rw [List.getElem?_append_left hl] at hi
      exact .inl ⟨by omega, hi⟩
    · rw [List.getElem?_append_right hl] at hi
      have : i - M.length = 0 := by
        refine Decidable.byContradiction fun hc => ?_
        rw [List.getElem?_eq_none (by simp; omega)] at hi
        cases hi
      rw [this] at hi
      cases hi
      exact .inr ⟨by omega, rfl⟩
  have hne : ∀ {i : Nat}, i ≠ k → (if i = k then Value.slice none 0 0 else hs i) = hs i := fun hi => if_neg hi
  have heq : (if k = k then Value.slice none 0 0 else hs k) = Value.slice none 0 0 := if_pos rfl
  have hmay : mayM (M ++ [rowI e T ([] : List α)]) (fun i => if i = k then Value.slice none 0 0 else hs i) = mayM M hs := by
    funext b
    refine propext ⟨?_, ?_⟩
    · rintro ⟨i, it, p1, p2, p3⟩
      replace p3 : Blk (if i = k then Value.slice none 0 0 else hs i) b := p3
      rcases hget p1 with ⟨q1, q2⟩ | ⟨q1, q2⟩
      · rw [hne q1] at p3
        exact ⟨i, it, q2, p2, p3⟩
      · subst q1
        rw [heq] at p3
        cases p3
    · rintro ⟨i, it, p1, p2, p3⟩
      have hl := (List.getElem?_eq_some_iff.1 p1).1
      refine ⟨i, it, by rw [List.getElem?_append_left hl]; exact p1, p2, ?_⟩
      show Blk (if i = k then Value.slice none 0 0 else hs i) b
      rw [hne (by omega)]
      exact p3
  have := h w g (fun i => if i = k then .slice none 0 0 else hs i) args h1 (okArgs_unNil c1 h2) ⟨fun i it hi => ?_, fun i j it jt hij hi hj hf hg b hb hb2 => ?_, fun i it hi hg b hb => ?_⟩
  · rw [hmay] at this
    refine this.mono ?_
    rintro en w' ⟨v, g', hs', r, e1, e2, e3, e4, e5⟩
    exact ⟨v, g', hs', r, e1, e2, e3, fun i hi => (e4 i hi).trans (hne (beq_ne (List.all_eq_true.1 c3 i hi))), e5⟩
  · rcases hget hi with ⟨q1, q2⟩ | ⟨q1, q2⟩
    · show it.ok g _ w (if i = k then Value.slice none 0 0 else hs i)
      rw [hne q1]
      exact Item.ok_hs (away_of (List.all_eq_true.1 c2 it (List.mem_of_getElem? q2))) (h3.items i it q2)
    · subst q1 q2
      show (rowI e T ([] : List α)).ok g _ w (if i = i then Value.slice none 0 0 else hs i)
      rw [heq]
      exact ⟨[], World.ownsAt_nil _ _ _, rowRead.nil⟩
  · rcases hget hi with ⟨q1, q2⟩ | ⟨q1, q2⟩
    · rw [hne q1] at hb
      rcases hget hj with ⟨r1, r2⟩ | ⟨r1, r2⟩
      · rw [hne r1] at hb2
        exact h3.sep i j it jt hij q2 r2 hf hg b hb hb2
      · subst r1
        rw [heq] at hb2
        cases hb2
    · subst q1
      rw [heq] at hb
      cases hb
  · rcases hget hi with ⟨q1, q2⟩ | ⟨q1, q2⟩
    · rw [hne q1] at hb
      exact h3.mine i it q2 hg b hb
    · subst q1
      rw [heq] at hb
      cases hb
end
theorem en31 : ∀ args w, (callFunc 31 args).run Tryz.prog w = .ok (.enter 31 args) w := enters_of Tryz.func31 (by kernel_rfl) rfl
theorem en30 : ∀ args w, (callFunc 30 args).run Tryz.prog w = .ok (.enter 30 args) w := enters_of Tryz.func30 (by kernel_rfl) rfl
def bSet_vc (l : List Int) (x : Int) (Q : Bool × (List Int) → Prop) : Prop :=
  ∃ J : Int → Bool → Prop, (IfP (decide (x < 0)) (J (wr (0 - x)) true) (J x false)) ∧
  (∀ (x1 : Int) (x5 : Bool), J x1 x5 → (l = [] ∧ 0 < (IntKind.wrap .u64 x1) ∧ (IntKind.wrap .u64 x1) < 18446744073709551616) ∧
  Q (x5, [(IntKind.wrap .u64 x1)]))
theorem bSet_walk (l : List Int) (x : Int) (Q : Bool × (List Int) → Prop) (h : bSet_vc l x Q) : CtE 15 [.sv (.one (.ptr 0 0)), .sv (.one (I x))] [.box [B false, .own 1] 54 false, rowI 68 (intKT .u64) l] [0] Q (fun (r : Bool × (List Int)) => .sv (.one (.ptr 0 0))) (fun (r : Bool × (List Int)) => [.box [B r.1, .own 1] 54 false, rowI 68 (intKT .u64) r.2]) := by
  have ht := tab_ok
  refine CtE.body Tryz.func15 rfl rfl rfl (by kernel_rfl) (by kernel_rfl) (fun c Bk hn => ?_)
  unfold bSet_vc at h
  show En c ⟨[(0, .sv (.one (.pptr 0 0 (Bk 0)))), (1, .sv (.one (I x)))], [.box [B false, .own 1] 54 false, rowI 68 (intKT .u64) l]⟩ _
  refine En.seq ?_
  refine En.region ?_
  refine WL.run ht hn 1 ⟨[(0, .sv (.one (.pptr 0 0 (Bk 0)))), (1, .sv (.one (I x)))], [.box [B false, .own 1] 54 false, rowI 68 (intKT .u64) l]⟩ (by kernel_rfl) ?_
  refine WL.nil ?_
  refine En.seq ?_
  refine En.region ?_
  refine WL.run ht hn 1 ⟨[(0, .sv (.one (.pptr 0 0 (Bk 0)))), (1, .sv (.one (I x))), (5, .sv (.one (B false)))], [.box [B false, .own 1] 54 false, rowI 68 (intKT .u64) l]⟩ (by kernel_rfl) ?_
  refine WL.nil ?_
  obtain ⟨J, h, hJ⟩ := h
  refine En.seqJ (σ := Int × Bool) (fun zz => J zz.1 zz.2) (fun zz => ⟨[(0, .sv (.one (.pptr 0 0 (Bk 0)))), (1, .sv (.one (I zz.1))), (5, .sv (.one (B zz.2)))], [.box [B false, .own 1] 54 false, rowI 68 (intKT .u64) l]⟩) ?_ ?_
  · refine En.seq ?_
    refine En.region ?_
    refine WL.run ht hn 2 ⟨[(0, .sv (.one (.pptr 0 0 (Bk 0)))), (1, .sv (.one (I x))), (5, .sv (.one (B false))), (7, .sv (.one (B (decide (x < 0)))))], [.box [B false, .own 1] 54 false, rowI 68 (intKT .u64) l]⟩ (by kernel_rfl) ?_
    refine WL.nil ?_
    refine En.cond (b := (decide (x < 0))) (by kernel_rfl) (fun hb => ?_) (fun hb => ?_)
    · replace h := h.1 hb
      refine En.seq ?_
      refine En.region ?_
      refine WL.run ht hn 1 ⟨[(0, .sv (.one (.pptr 0 0 (Bk 0)))), (1, .sv (.one (I x))), (5, .sv (.one (B true)))], [.box [B false, .own 1] 54 false, rowI 68 (intKT .u64) l]⟩ (by kernel_rfl) ?_
      refine WL.nil ?_
      refine En.region ?_
      refine WL.run ht hn 3 ⟨[(0, .sv (.one (.pptr 0 0 (Bk 0)))), (1, .sv (.one (I (wr (0 - x))))), (5, .sv (.one (B true)))], [.box [B false, .own 1] 54 false, rowI 68 (intKT .u64) l]⟩ (by kernel_rfl) ?_
      refine WL.nil ?_
      exact En.at (I := fun zz => J zz.1 zz.2) (T := fun zz => ⟨[(0, .sv (.one (.pptr 0 0 (Bk 0)))), (1, .sv (.one (I zz.1))), (5, .sv (.one (B zz.2)))], [.box [B false, .own 1] 54 false, rowI 68 (intKT .u64) l]⟩) ((wr (0 - x)), true) h (by kernel_rfl)
    · replace h := h.2 hb
      refine En.skip ?_
      exact En.at (I := fun zz => J zz.1 zz.2) (T := fun zz => ⟨[(0, .sv (.one (.pptr 0 0 (Bk 0)))), (1, .sv (.one (I zz.1))), (5, .sv (.one (B zz.2)))], [.box [B false, .own 1] 54 false, rowI 68 (intKT .u64) l]⟩) (x, false) h (by kernel_rfl)
  · rintro ⟨x1, x5⟩ h
    replace h := hJ _ _ h
    show En c ⟨[(0, .sv (.one (.pptr 0 0 (Bk 0)))), (1, .sv (.one (I x1))), (5, .sv (.one (B x5)))], [.box [B false, .own 1] 54 false, rowI 68 (intKT .u64) l]⟩ _
    refine En.seq ?_
    refine En.region ?_
    refine WL.run ht hn 7 ⟨[(0, .sv (.one (.pptr 0 0 (Bk 0)))), (5, .sv (.one (B x5))), (10, .sv (.one (.ptr 0 0))), (14, .sv (.one (.own 1))), (16, .sv (.one (.v (.int .u64 (IntKind.wrap .u64 x1)))))], [.box [B false, .own 1] 54 false, rowI 68 (intKT .u64) l]⟩ (by kernel_rfl) ?_
    refine WL.junk 0 1 (by rfl) ?_
    have hp := h.1
    replace h := h.2
    refine WL.callQ [(0, .sv (.one (.pptr 0 0 (Bk 0)))), (5, .sv (.one (B x5))), (10, .sv (.one (.ptr 0 0))), (16, .sv (.one (.v (.int .u64 (IntKind.wrap .u64 x1)))))] (nsetu_ct l (IntKind.wrap .u64 x1) hp) en30 (caps := []) [1] hn (by rfl) rfl (by rfl) (argsAs (by kernel_rfl) (by rfl)) (by kernel_rfl) (by decide) (by kernel_rfl) (by rfl) (by rfl) (fun r hr_2 => ⟨by rfl, _, by rfl, ?_⟩)
    refine WL.run ht hn 3 ⟨[(0, .sv (.one (.pptr 0 0 (Bk 0)))), (5, .sv (.one (B x5)))], [.box [B false, .own 1] 54 false, rowI 68 (intKT .u64) [(IntKind.wrap .u64 x1)]]⟩ (by kernel_rfl) ?_
    refine WL.nil ?_
    refine En.seq ?_
    refine En.region ?_
    refine WL.run ht hn 5 ⟨[(0, .sv (.one (.pptr 0 0 (Bk 0))))], [.box [B x5, .own 1] 54 false, rowI 68 (intKT .u64) [(IntKind.wrap .u64 x1)]]⟩ (by kernel_rfl) ?_
    refine WL.nil ?_
    refine En.seq ?_
    refine En.region ?_
    refine WL.run ht hn 2 ⟨[(0, .sv (.one (.pptr 0 0 (Bk 0)))), (4, .sv (.one (.ptr 0 0)))], [.box [B x5, .own 1] 54 false, rowI 68 (intKT .u64) [(IntKind.wrap .u64 x1)]]⟩ (by kernel_rfl) ?_
    refine WL.nil ?_
    refine En.ret ?_
    exact En.backE [0] ht (x5, [(IntKind.wrap .u64 x1)]) h (by kernel_rfl) (by rfl) rfl
theorem en15 : ∀ args w, (callFunc 15 args).run Tryz.prog w = .ok (.enter 15 args) w := enters_of Tryz.func15 (by kernel_rfl) rfl
def bAdd_vc (l : List Int) (y : (Option MathBigInt)) (Q : Bool × (List Int) → Prop) : Prop :=
  ∃ y_2, y = some y_2 ∧
  IfP (false == y_2.fNeg) (∃ y_3, y = some y_3 ∧
  (AddPre l y_3.fAbs) ∧
  ∃ J : Prop, (IfP (decide (([l.sum + y_3.fAbs.sum].length : Int) > 0)) (J) (J)) ∧
  (J → Q (false, [l.sum + y_3.fAbs.sum]))) (False)
theorem bAdd_walk (l : List Int) (y : (Option MathBigInt)) (Q : Bool × (List Int) → Prop) (h : bAdd_vc l y Q) : CtE 16 [.sv (.one (.ptr 0 0)), .sv (.one (.ptr 0 0)), .sv (.one (.rd (optPe MathBigInt.ty y)))] [.box [B false, .own 1] 54 false, rowI 68 (intKT .u64) l] [0] Q (fun (r : Bool × (List Int)) => .sv (.one (.ptr 0 0))) (fun (r : Bool × (List Int)) => [.box [B r.1, .own 1] 54 false, rowI 68 (intKT .u64) r.2]) := by
  have ht := tab_ok
  refine CtE.body Tryz.func16 rfl rfl rfl (by kernel_rfl) (by kernel_rfl) (fun c Bk hn => ?_)
  unfold bAdd_vc at h
  show En c ⟨[(0, .sv (.one (.pptr 0 0 (Bk 0)))), (1, .sv (.one (.pptr 0 0 (Bk 0)))), (2, .sv (.one (.rd (optPe MathBigInt.ty y))))], [.box [B false, .own 1] 54 false, rowI 68 (intKT .u64) l]⟩ _
  refine En.seq ?_
  refine En.region ?_
  refine WL.run ht hn 1 ⟨[(0, .sv (.one (.pptr 0 0 (Bk 0)))), (1, .sv (.one (.pptr 0 0 (Bk 0)))), (2, .sv (.one (.rd (optPe MathBigInt.ty y))))], [.box [B false, .own 1] 54 false, rowI 68 (intKT .u64) l]⟩ (by kernel_rfl) ?_
  refine WL.nil ?_
  refine En.seq ?_
  refine En.region ?_
  refine WL.run ht hn 5 ⟨[(0, .sv (.one (.pptr 0 0 (Bk 0)))), (1, .sv (.one (.pptr 0 0 (Bk 0)))), (2, .sv (.one (.rd (optPe MathBigInt.ty y)))), (7, .sv (.one (B false)))], [.box [B false, .own 1] 54 false, rowI 68 (intKT .u64) l]⟩ (by kernel_rfl) ?_
  refine WL.nil ?_
  refine En.seq ?_
  refine En.seq ?_
  obtain ⟨y_2, hy, h⟩ := h
  refine En.regionA ⟨[(0, .sv (.one (.pptr 0 0 (Bk 0)))), (1, .sv (.one (.pptr 0 0 (Bk 0)))), (2, .sv (.one (.rd (optPe MathBigInt.ty y)))), (7, .sv (.one (B false)))], [.sv (.one (.ptr 0 0)), .sv (.one (.ptr 0 0)), .sv (.one (.ptr 0 0)), .sv (.one (B false)), .sv (.one (.rd (optPe MathBigInt.ty y))), .sv (.one (.pe (svR (.agg [B y_2.fNeg, LS (intKT .u64) y_2.fAbs])) 2)), .sv (.one (.pe (svR (.one (B y_2.fNeg))) 1)), .sv (.one (B y_2.fNeg)), .sv (.one (B (false == y_2.fNeg)))], [⟨.box [B false, .own 1] 54 false, none, none, none⟩, ⟨rowI 68 (intKT .u64) l, none, none, none⟩]⟩ ⟨[(0, .sv (.one (.pptr 0 0 (Bk 0)))), (1, .sv (.one (.pptr 0 0 (Bk 0)))), (2, .sv (.one (.rd (optPe MathBigInt.ty y)))), (7, .sv (.one (B false))), (20, .sv (.one (B (false == y_2.fNeg))))], [.box [B false, .own 1] 54 false, rowI 68 (intKT .u64) l]⟩ (by kernel_rfl) hn (by kernel_rfl) (by rfl) (by kernel_rfl) ?_ (by kernel_rfl) ?_
  · exact ⟨.mt ⟨[(1, .sv (.one (.pptr 0 0 (Bk 0))))], []⟩ [] none (by kernel_rfl) (by rfl) (mt_ev ht (by kernel_rfl)) rfl rfl rfl rfl,
    .mt ⟨[(12, .sv (.one (.ptr 0 0)))], []⟩ [] none (by kernel_rfl) (by rfl) (mt_ev ht (by kernel_rfl)) rfl rfl rfl rfl,
    .mt ⟨[(13, .sv (.one (.ptr 0 0)))], []⟩ [] none (by kernel_rfl) (by rfl) (mt_ev ht (by kernel_rfl)) rfl rfl rfl rfl,
    .mt ⟨[(14, .sv (.one (.ptr 0 0)))], [.box [B false, .own 1] 54 false]⟩ [] none (by kernel_rfl) (by rfl) (mt_ev ht (by kernel_rfl)) rfl rfl rfl rfl,
    .mt ⟨[(2, .sv (.one (.rd (optPe MathBigInt.ty y))))], []⟩ [] none (by kernel_rfl) (by rfl) (mt_ev ht (by kernel_rfl)) rfl rfl rfl rfl,
    .mt ⟨[(16, .sv (.one (.rd (optPe MathBigInt.ty y))))], []⟩ [] none (by kernel_rfl) (by rfl) (mt_val (val_nilOp (T := MathBigInt.ty) (y := y_2) rfl (by rfl) hy)) rfl rfl rfl rfl,
    .mt ⟨[(17, .sv (.one (.pe (svR (.agg [B y_2.fNeg, LS (intKT .u64) y_2.fAbs])) 2)))], []⟩ [] none (by kernel_rfl) (by rfl) (mt_val (val_field (l := [B y_2.fNeg, LS (intKT .u64) y_2.fAbs]) (r := .one (B y_2.fNeg)) ht rfl (by rfl) (by rfl) (by rfl) (by rfl) (by rfl) (by rfl))) rfl rfl rfl rfl,
    .mt ⟨[(18, .sv (.one (.pe (svR (.one (B y_2.fNeg))) 1)))], []⟩ [] none (by kernel_rfl) (by rfl) (mt_val (val_load (s := .one (B y_2.fNeg)) ht rfl (by rfl) (by rfl) (by rfl) (by rfl) (by rfl))) rfl rfl rfl rfl,
    .mt ⟨[(15, .sv (.one (B false))), (19, .sv (.one (B y_2.fNeg)))], []⟩ [] none (by kernel_rfl) (by rfl) (mt_val (val_eqB (u := false) (v := y_2.fNeg) rfl Tryz.underlying4 (by rfl) (by rfl) (.inl ⟨rfl, rfl⟩))) rfl rfl rfl rfl,
    trivial⟩
  · refine En.cond (b := (false == y_2.fNeg)) (by kernel_rfl) (fun hb => ?_) (fun hb => ?_)
    · replace h := h.1 hb
      obtain ⟨y_3, hy_2, h⟩ := h
      have hp_r13 := h.1
      replace h := h.2
      refine En.regionX ⟨[(0, .sv (.one (.pptr 0 0 (Bk 0)))), (1, .sv (.one (.pptr 0 0 (Bk 0)))), (2, .sv (.one (.rd (optPe MathBigInt.ty y)))), (7, .sv (.one (B false)))], [.sv (.one (.ptr 0 0)), .sv (.one (.ptr 0 0)), .sv (.one (.ptr 0 0)), .sv (.one (.ptr 0 1)), .sv (.one (.own 1)), .sv (.one (.ptr 0 0)), .sv (.one (.ptr 0 0)), .sv (.one (.ptr 0 1)), .sv (.one (.own 1)), .sv (.one (.rd (optPe MathBigInt.ty y))), .sv (.one (.pe (svR (.agg [B y_3.fNeg, LS (intKT .u64) y_3.fAbs])) 2)), .sv (.one (.pe (svR (.one (LS (intKT .u64) y_3.fAbs))) 1)), .sv (.one (LS (intKT .u64) y_3.fAbs))], [⟨.box [B false, .own 1] 54 false, none, none, none⟩, ⟨rowI 68 (intKT .u64) l, none, none, none⟩]⟩ 13 [1, 2, 3, 4, 5, 6, 7, 8, 9, 10, 11, 12] [#[false, true, true, true, true, true, true, true, true, true, true, true, true, false, false, false, false], #[true, true, true, true, true, true, true, true, true, true, true, true, true, false, false, false, false]] ⟨[(0, .sv (.one (.pptr 0 0 (Bk 0)))), (7, .sv (.one (B false)))], [.box [B false, .own 1] 54 false, rowI 68 (intKT .u64) [l.sum + y_3.fAbs.sum]]⟩ (by kernel_rfl) hn (by kernel_rfl) (by kernel_rfl) (by kernel_rfl) (by kernel_rfl) (by rfl) (by kernel_rfl) (by kernel_rfl) ?_ ?_ ?_
      · exact ⟨.mt ⟨[(0, .sv (.one (.pptr 0 0 (Bk 0))))], []⟩ [] none (by kernel_rfl) (by rfl) (mt_ev ht (by kernel_rfl)) rfl rfl rfl rfl,
    .mt ⟨[(0, .sv (.one (.pptr 0 0 (Bk 0))))], []⟩ [] none (by kernel_rfl) (by rfl) (mt_ev ht (by kernel_rfl)) rfl rfl rfl rfl,
    .mt ⟨[(22, .sv (.one (.ptr 0 0)))], []⟩ [] none (by kernel_rfl) (by rfl) (mt_ev ht (by kernel_rfl)) rfl rfl rfl rfl,
    .mt ⟨[(23, .sv (.one (.ptr 0 0)))], []⟩ [] none (by kernel_rfl) (by rfl) (mt_ev ht (by kernel_rfl)) rfl rfl rfl rfl,
    .mt ⟨[(24, .sv (.one (.ptr 0 1)))], [.box [B false, .own 1] 54 false]⟩ [] none (by kernel_rfl) (by rfl) (mt_ev ht (by kernel_rfl)) rfl rfl rfl rfl,
    .mt ⟨[(1, .sv (.one (.pptr 0 0 (Bk 0))))], []⟩ [] none (by kernel_rfl) (by rfl) (mt_ev ht (by kernel_rfl)) rfl rfl rfl rfl,
    .mt ⟨[(26, .sv (.one (.ptr 0 0)))], []⟩ [] none (by kernel_rfl) (by rfl) (mt_ev ht (by kernel_rfl)) rfl rfl rfl rfl,
    .mt ⟨[(27, .sv (.one (.ptr 0 0)))], []⟩ [] none (by kernel_rfl) (by rfl) (mt_ev ht (by kernel_rfl)) rfl rfl rfl rfl,
    .mt ⟨[(28, .sv (.one (.ptr 0 1)))], [.box [B false, .own 1] 54 false]⟩ [] none (by kernel_rfl) (by rfl) (mt_ev ht (by kernel_rfl)) rfl rfl rfl rfl,
    .mt ⟨[(2, .sv (.one (.rd (optPe MathBigInt.ty y))))], []⟩ [] none (by kernel_rfl) (by rfl) (mt_ev ht (by kernel_rfl)) rfl rfl rfl rfl,
    .mt ⟨[(30, .sv (.one (.rd (optPe MathBigInt.ty y))))], []⟩ [] none (by kernel_rfl) (by rfl) (mt_val (val_nilOp (T := MathBigInt.ty) (y := y_3) rfl (by rfl) hy_2)) rfl rfl rfl rfl,
    .mt ⟨[(31, .sv (.one (.pe (svR (.agg [B y_3.fNeg, LS (intKT .u64) y_3.fAbs])) 2)))], []⟩ [] none (by kernel_rfl) (by rfl) (mt_val (val_field (l := [B y_3.fNeg, LS (intKT .u64) y_3.fAbs]) (r := .one (LS (intKT .u64) y_3.fAbs)) ht rfl (by rfl) (by rfl) (by rfl) (by rfl) (by rfl) (by rfl))) rfl rfl rfl rfl,
    .mt ⟨[(32, .sv (.one (.pe (svR (.one (LS (intKT .u64) y_3.fAbs))) 1)))], []⟩ [] none (by kernel_rfl) (by rfl) (mt_val (val_load (s := .one (LS (intKT .u64) y_3.fAbs)) ht rfl (by rfl) (by rfl) (by rfl) (by rfl) (by rfl))) rfl rfl rfl rfl,
    trivial⟩
      · intro N' hF
        refine XsOk.have 0 #[true, true, true, true, true, true, true, true, true, true, true, true, true, true, true, true, true] ⟨[(0, .sv (.one (.pptr 0 0 (Bk 0)))), (7, .sv (.one (B false)))], [.box [B false, .own 1] 54 false, rowI 68 (intKT .u64) [l.sum + y_3.fAbs.sum]]⟩ (RD.nil (by kernel_rfl) hF) (fun rd6 => ?_)
        refine XsOk.have 1 #[true, true, true, true, true, true, true, true, true, true, true, true, true, true, true, true, false] ⟨[(0, .sv (.one (.pptr 0 0 (Bk 0)))), (7, .sv (.one (B false))), (34, .sv (.one (.own 1))), (36, .sv (.one (.ptr 0 1)))], [.box [B false, .junk] 54 false, rowI 68 (intKT .u64) [l.sum + y_3.fAbs.sum]]⟩ ?_ (fun rd5 => ?_)
        · refine RD.succ [16] (by kernel_rfl) rfl ⟨⟨_, _, _, rfl, ?_, rfl, rd6⟩, trivial⟩
          · exact WL.run ht hn 1 _ (by kernel_rfl) WL.nilI
        refine XsOk.have 2 #[true, true, true, true, true, true, true, true, true, true, true, true, true, true, true, false, false] ⟨[(0, .sv (.one (.pptr 0 0 (Bk 0)))), (7, .sv (.one (B false))), (34, .sv (.one (.own 1))), (35, .sv (.one (.ptr 0 0)))], [.box [B false, .junk] 54 false, rowI 68 (intKT .u64) [l.sum + y_3.fAbs.sum]]⟩ ?_ (fun rd4 => ?_)
        · refine RD.succ [15] (by kernel_rfl) rfl ⟨⟨_, _, _, rfl, ?_, rfl, rd5⟩, trivial⟩
          · exact WL.run ht hn 1 _ (by kernel_rfl) WL.nilI
        refine XsOk.have 3 #[true, true, true, true, true, true, true, true, true, true, true, true, true, true, false, false, false] ⟨[(0, .sv (.one (.pptr 0 0 (Bk 0)))), (7, .sv (.one (B false))), (21, .sv (.one (.ptr 0 0))), (34, .sv (.one (.own 1)))], [.box [B false, .junk] 54 false, rowI 68 (intKT .u64) [l.sum + y_3.fAbs.sum]]⟩ ?_ (fun rd3 => ?_)
        · refine RD.succ [14] (by kernel_rfl) rfl ⟨⟨_, _, _, rfl, ?_, rfl, rd4⟩, trivial⟩
          · exact WL.run ht hn 1 _ (by kernel_rfl) WL.nilI
        refine XsOk.have 4 #[false, true, true, true, true, true, true, true, true, true, true, true, true, true, false, false, false] ⟨[(0, .sv (.one (.pptr 0 0 (Bk 0)))), (7, .sv (.one (B false))), (34, .sv (.one (.own 1)))], [.box [B false, .junk] 54 false, rowI 68 (intKT .u64) [l.sum + y_3.fAbs.sum]]⟩ ?_ (fun rd2 => ?_)
        · refine RD.succ [0] (by kernel_rfl) rfl ⟨⟨_, _, _, rfl, ?_, rfl, rd3⟩, trivial⟩
          · exact WL.run ht hn 1 _ (by kernel_rfl) WL.nilI
        refine XsOk.have 4 #[true, true, true, true, true, true, true, true, true, true, true, true, true, false, false, false, false] ⟨[(0, .sv (.one (.pptr 0 0 (Bk 0)))), (7, .sv (.one (B false))), (21, .sv (.one (.ptr 0 0))), (25, .sv (.one (.own 1))), (29, .sv (.one (.own 1))), (33, .sv (.one (LS (intKT .u64) y_3.fAbs)))], [.box [B false, .own 1] 54 false, rowI 68 (intKT .u64) l]⟩ ?_ (fun rd1 => ?_)
        · refine RD.succ [13] (by kernel_rfl) rfl ⟨⟨_, _, _, rfl, ?_, rfl, rd3⟩, trivial⟩
          · refine WL.junk 0 1 (by rfl) ?_
            refine WL.callQ [(0, .sv (.one (.pptr 0 0 (Bk 0)))), (7, .sv (.one (B false))), (21, .sv (.one (.ptr 0 0))), (33, .sv (.one (LS (intKT .u64) y_3.fAbs)))] (nadd_ct l y_3.fAbs hp_r13) en31 (caps := []) [1] hn (by rfl) rfl (by rfl) (argsAs (by kernel_rfl) (by rfl)) (by kernel_rfl) (by decide) (by kernel_rfl) (by rfl) (by rfl) (fun r hr_2 => ⟨by rfl, _, by rfl, ?_⟩)
            refine WL.nil ?_
            exact sub_ok (by kernel_rfl)
        refine XsOk.have 5 #[false, true, true, true, true, true, true, true, true, true, true, true, true, false, false, false, false] ⟨[(0, .sv (.one (.pptr 0 0 (Bk 0)))), (7, .sv (.one (B false))), (25, .sv (.one (.own 1))), (29, .sv (.one (.own 1))), (33, .sv (.one (LS (intKT .u64) y_3.fAbs)))], [.box [B false, .own 1] 54 false, rowI 68 (intKT .u64) l]⟩ ?_ (fun rd0 => ?_)
        · refine RD.succ [0, 13] (by kernel_rfl) rfl ⟨⟨_, _, _, rfl, ?_, rfl, rd1⟩, ⟨_, _, _, rfl, ?_, rfl, rd2⟩, trivial⟩
          · exact WL.run ht hn 1 _ (by kernel_rfl) WL.nilI
          · refine WL.junk 0 1 (by rfl) ?_
            refine WL.callQ [(0, .sv (.one (.pptr 0 0 (Bk 0)))), (7, .sv (.one (B false))), (33, .sv (.one (LS (intKT .u64) y_3.fAbs)))] (nadd_ct l y_3.fAbs hp_r13) en31 (caps := []) [1] hn (by rfl) rfl (by rfl) (argsAs (by kernel_rfl) (by rfl)) (by kernel_rfl) (by decide) (by kernel_rfl) (by rfl) (by rfl) (fun r hr_2 => ⟨by rfl, _, by rfl, ?_⟩)
            refine WL.nil ?_
            exact sub_ok (by kernel_rfl)
        exact ⟨⟨⟨[(0, .sv (.one (.pptr 0 0 (Bk 0)))), (7, .sv (.one (B false))), (25, .sv (.one (.own 1))), (29, .sv (.one (.own 1))), (33, .sv (.one (LS (intKT .u64) y_3.fAbs)))], [.box [B false, .own 1] 54 false, rowI 68 (intKT .u64) l]⟩, 5, by kernel_rfl, by rfl, rd0⟩, ⟨⟨[(0, .sv (.one (.pptr 0 0 (Bk 0)))), (7, .sv (.one (B false))), (21, .sv (.one (.ptr 0 0))), (25, .sv (.one (.own 1))), (29, .sv (.one (.own 1))), (33, .sv (.one (LS (intKT .u64) y_3.fAbs)))], [.box [B false, .own 1] 54 false, rowI 68 (intKT .u64) l]⟩, 4, by kernel_rfl, by rfl, rd1⟩, trivial⟩
      · obtain ⟨J, h, hJ⟩ := h
        refine En.seqJ (σ := Unit) (fun _ => J) (fun _ => ⟨[(0, .sv (.one (.pptr 0 0 (Bk 0))))], [.box [B false, .own 1] 54 false, rowI 68 (intKT .u64) [l.sum + y_3.fAbs.sum]]⟩) ?_ ?_
        · refine En.region ?_
          refine WL.run ht hn 8 ⟨[(0, .sv (.one (.pptr 0 0 (Bk 0)))), (7, .sv (.one (B false))), (81, .sv (.one (.ptr 0 0))), (88, .sv (.one (B (decide (([l.sum + y_3.fAbs.sum].length : Int) > 0)))))], [.box [B false, .own 1] 54 false, rowI 68 (intKT .u64) [l.sum + y_3.fAbs.sum]]⟩ (by kernel_rfl) ?_
          refine splitB (decide (([l.sum + y_3.fAbs.sum].length : Int) > 0)) (fun hb => ?_) (fun hb => ?_)
          · replace h := h.1 hb
            refine WL.setB 88 hb (by kernel_rfl) ?_
            refine WL.run ht hn 5 ⟨[(0, .sv (.one (.pptr 0 0 (Bk 0))))], [.box [B false, .own 1] 54 false, rowI 68 (intKT .u64) [l.sum + y_3.fAbs.sum]]⟩ (by kernel_rfl) ?_
            refine WL.nil ?_
            exact En.at (I := fun _ => J) (T := fun _ => ⟨[(0, .sv (.one (.pptr 0 0 (Bk 0))))], [.box [B false, .own 1] 54 false, rowI 68 (intKT .u64) [l.sum + y_3.fAbs.sum]]⟩) () h (by kernel_rfl)
          · replace h := h.2 hb
            refine WL.setB 88 hb (by kernel_rfl) ?_
            refine WL.run ht hn 5 ⟨[(0, .sv (.one (.pptr 0 0 (Bk 0))))], [.box [B false, .own 1] 54 false, rowI 68 (intKT .u64) [l.sum + y_3.fAbs.sum]]⟩ (by kernel_rfl) ?_
            refine WL.nil ?_
            exact En.at (I := fun _ => J) (T := fun _ => ⟨[(0, .sv (.one (.pptr 0 0 (Bk 0))))], [.box [B false, .own 1] 54 false, rowI 68 (intKT .u64) [l.sum + y_3.fAbs.sum]]⟩) () h (by kernel_rfl)
        · intro _ h
          replace h := hJ h
          show En c ⟨[(0, .sv (.one (.pptr 0 0 (Bk 0))))], [.box [B false, .own 1] 54 false, rowI 68 (intKT .u64) [l.sum + y_3.fAbs.sum]]⟩ _
          refine En.seq ?_
          refine En.region ?_
          refine WL.run ht hn 2 ⟨[(0, .sv (.one (.pptr 0 0 (Bk 0)))), (6, .sv (.one (.ptr 0 0)))], [.box [B false, .own 1] 54 false, rowI 68 (intKT .u64) [l.sum + y_3.fAbs.sum]]⟩ (by kernel_rfl) ?_
          refine WL.nil ?_
          refine En.ret ?_
          exact En.backE [0] ht (false, [l.sum + y_3.fAbs.sum]) h (by kernel_rfl) (by rfl) rfl
    · replace h := h.2 hb
      exact h.elim
theorem en16 : ∀ args w, (callFunc 16 args).run Tryz.prog w = .ok (.enter 16 args) w := enters_of Tryz.func16 (by kernel_rfl) rfl
def bSign_vc (y : (Option MathBigInt)) (Q : Int → Prop) : Prop :=
  ∃ y_2, y = some y_2 ∧
  IfP ((y_2.fAbs.length : Int) == 0) (Q 0) (∃ y_3, y = some y_3 ∧
  IfP y_3.fNeg (Q (-1)) (Q 1))
theorem bSign_walk (y : (Option MathBigInt)) (Q : Int → Prop) (h : bSign_vc y Q) : Ct 10 [.sv (.one (.rd (optPe MathBigInt.ty y)))] [] Q (fun (r : Int) => .sv (.one (I r))) := by
  have ht := tab_ok
  refine Ct.body Tryz.func10 rfl rfl rfl rfl (fun c hn => ?_)
  unfold bSign_vc at h
  refine En.seq ?_
  refine En.region ?_
  refine WL.run ht hn 1 ⟨[(0, .sv (.one (.rd (optPe MathBigInt.ty y))))], []⟩ (by kernel_rfl) ?_
  refine WL.nil ?_
  refine En.seq ?_
  refine En.seq ?_
  refine En.region ?_
  refine WL.run ht hn 1 ⟨[(0, .sv (.one (.rd (optPe MathBigInt.ty y)))), (3, .sv (.one (.rd (optPe MathBigInt.ty y))))], []⟩ (by kernel_rfl) ?_
  obtain ⟨y_2, hy, h⟩ := h
  refine WL.val hn (by rfl) (val_nilOp (T := MathBigInt.ty) (y := y_2) rfl (by rfl) hy) (by rfl) ?_
  refine WL.val hn (by rfl) (val_field (l := [B y_2.fNeg, LS (intKT .u64) y_2.fAbs]) (r := .one (LS (intKT .u64) y_2.fAbs)) ht rfl (by rfl) (by rfl) (by rfl) (by rfl) (by rfl) (by rfl)) (by rfl) ?_
  refine WL.val hn (by rfl) (val_load (s := .one (LS (intKT .u64) y_2.fAbs)) ht rfl (by rfl) (by rfl) (by rfl) (by rfl) (by rfl)) (by rfl) ?_
  refine WL.run ht hn 2 ⟨[(0, .sv (.one (.rd (optPe MathBigInt.ty y)))), (8, .sv (.one (B ((y_2.fAbs.length : Int) == 0))))], []⟩ (by kernel_rfl) ?_
  refine WL.nil ?_
  refine En.cond (b := ((y_2.fAbs.length : Int) == 0)) (by kernel_rfl) (fun hb => ?_) (fun hb => ?_)
  · replace h := h.1 hb
    refine En.seq ?_
    refine En.region ?_
    refine WL.run ht hn 1 ⟨[(2, .sv (.one (I 0)))], []⟩ (by kernel_rfl) ?_
    refine WL.nil ?_
    refine En.ret ?_
    exact En.back ht 0 h (by kernel_rfl) rfl
  · replace h := h.2 hb
    refine En.skip ?_
    refine En.seq ?_
    refine En.seq ?_
    refine En.region ?_
    refine WL.run ht hn 1 ⟨[(9, .sv (.one (.rd (optPe MathBigInt.ty y))))], []⟩ (by kernel_rfl) ?_
    obtain ⟨y_3, hy_2, h⟩ := h
    refine WL.val hn (by rfl) (val_nilOp (T := MathBigInt.ty) (y := y_3) rfl (by rfl) hy_2) (by rfl) ?_
    refine WL.val hn (by rfl) (val_field (l := [B y_3.fNeg, LS (intKT .u64) y_3.fAbs]) (r := .one (B y_3.fNeg)) ht rfl (by rfl) (by rfl) (by rfl) (by rfl) (by rfl) (by rfl)) (by rfl) ?_
    refine WL.val hn (by rfl) (val_load (s := .one (B y_3.fNeg)) ht rfl (by rfl) (by rfl) (by rfl) (by rfl) (by rfl)) (by rfl) ?_
    refine WL.nil ?_
    refine En.cond (b := y_3.fNeg) (by kernel_rfl) (fun hb => ?_) (fun hb => ?_)
    · replace h := h.1 hb
      refine En.seq ?_
      refine En.region ?_
      refine WL.run ht hn 1 ⟨[(2, .sv (.one (I (-1))))], []⟩ (by kernel_rfl) ?_
      refine WL.nil ?_
      refine En.ret ?_
      exact En.back ht (-1) h (by kernel_rfl) rfl
    · replace h := h.2 hb
      refine En.skip ?_
      refine En.seq ?_
      refine En.region ?_
      refine WL.run ht hn 1 ⟨[(2, .sv (.one (I 1)))], []⟩ (by kernel_rfl) ?_
      refine WL.nil ?_
      refine En.ret ?_
      exact En.back ht 1 h (by kernel_rfl) rfl
theorem en10 : ∀ args w, (callFunc 10 args).run Tryz.prog w = .ok (.enter 10 args) w := enters_of Tryz.func10 (by kernel_rfl) rfl
theorem bSet_ct (l : List Int) (x : Int) (hp : l = [] ∧ 0 < x ∧ x < 1000) : CtE 15 [.sv (.one (.ptr 0 0)), .sv (.one (I x))] [.box [B false, .own 1] 54 false, rowI 68 (intKT .u64) l] [0] (fun (_ : Unit) => True) (fun (_ : Unit) => .sv (.one (.ptr 0 0))) (fun (_ : Unit) => [.box [B false, .own 1] 54 false, rowI 68 (intKT .u64) [x]]) := by
  obtain ⟨rfl, h0, h1⟩ := hp
  have hw : IntKind.wrap .u64 x = x := by
    show x % 2 ^ 64 = x
    omega
  refine (bSet_walk [] x (fun r => r = (false, [x])) ?_).imp (fun r hr => ⟨(), trivial, by subst hr; rfl, by subst hr; rfl⟩)
  unfold bSet_vc
  refine ⟨fun a b => a = x ∧ b = false, ⟨fun h => ?_, fun h => ⟨rfl, rfl⟩⟩, ?_⟩
  · have := of_decide_eq_true h
    omega
  · rintro _ _ ⟨rfl, rfl⟩
    rw [hw]
    exact ⟨⟨rfl, h0, by omega⟩, rfl⟩
theorem bAdd_ct (l : List Int) (y : Option MathBigInt) (hp : ∃ u, y = numR u ∧ AddPre l [u]) : CtE 16 [.sv (.one (.ptr 0 0)), .sv (.one (.ptr 0 0)), .sv (.one (.rd (optPe MathBigInt.ty y)))] [.box [B false, .own 1] 54 false, rowI 68 (intKT .u64) l] [0] (fun (_ : Unit) => True) (fun (_ : Unit) => .sv (.one (.ptr 0 0))) (fun (_ : Unit) => [.box [B false, .own 1] 54 false, rowI 68 (intKT .u64) [l.sum + numS y]]) := by
  obtain ⟨u, rfl, hp⟩ := hp
  refine (bAdd_walk l _ (fun r => r = (false, [l.sum + numS (numR u)])) ?_).imp (fun r hr => ⟨(), trivial, by subst hr; rfl, by subst hr; rfl⟩)
  unfold bAdd_vc
  refine ⟨_, rfl, fun _ => ⟨_, rfl, hp, True, ⟨fun _ => trivial, fun _ => trivial⟩, fun _ => ?_⟩, fun h => (by cases h)⟩
  simp [numS, numR]
def signR (_ : Option MathBigInt) : Int := 1
theorem bSign_ct (y : Option MathBigInt) (hp : ∃ u, y = numR u) : Ct 10 [.sv (.one (.rd (optPe MathBigInt.ty y)))] [] (fun (_ : Unit) => True) (fun _ => .sv (.one (I (signR y)))) := by
  obtain ⟨u, rfl⟩ := hp
  refine (bSign_walk _ (fun r => r = 1) ?_).fun
  unfold bSign_vc
  exact ⟨_, rfl, fun h => (by simp at h), fun _ => ⟨_, rfl, fun h => (by cases h), fun _ => rfl⟩⟩
section
variable {c : Cfg} {S : St} {o : Oper}
theorem mtq_lend {β α : Type} {Q : β → Prop} {x : β → SC} {T : Ty α} {l : List α} {e : Nat} (i : Nat) (hm : S.M[i]? = some (rowI e T l)) (hp : ∀ r, plainB (x r) = true) (h : MTQ c (sealS S i (LS T l)) o Q x (fun _ => none)) : MTQ c S o Q x (fun _ => none) := fun a w g hs hk N Z hN => by
  obtain ⟨g2, hk2⟩ := hk.seal hm
  exact h a w g2 hs hk2 N Z fun r hr v w' g' h' h1 h2 _ => hN r hr v w' g h' (h1.back hk.base.pers) (plainB_ok (hp r) h2) trivial
theorem val_eqA {κ : Type} [DecidableEq κ] {t : Nat} {b : TypeId} {enc : κ → Value} (K : KeyLaw t enc) {u v : κ} {us vs : Array Value} {x y : Operand} {op : BinOp} {r : Bool} (ho : o.op = .binOp op t x y b) (hx : evKV S.F x = some (enc u)) (hy : evKV S.F y = some (enc v)) (hu : enc u = .agg us) (hv : enc v = .agg vs) (hg : Tryz.prog.eqGuardType Tryz.prog.depth t = false) (hop : (op = .eql ∧ r = decide (u = v)) ∨ (op = .neq ∧ r = !decide (u = v))) : Val c S o (.sv (.one (B r))) := fun a w g hs h => by
  have h1 : a.eval x = enc u := evKV_ok h hx
  have h2 : a.eval y = enc v := evKV_ok h hy
  refine ⟨.bool r, ?_, rfl, trivial⟩
  have e : execOp a.eval o = (do pure (.value (← (do eqGuard op t x y (a.eval x) (a.eval y); binOp op t (a.eval x) (a.eval y) : Sem Value))) : Sem Next) := by unfold execOp; rw [ho]
  rw [e]
  refine run_val ?_
  rw [h1, h2]
  have hq := K.equal u v w
  rw [hu, hv] at hq ⊢
  rcases hop with ⟨rfl, rfl⟩ | ⟨rfl, rfl⟩
  · have hg : (eqGuard .eql t x y (.agg us) (.agg vs)).run Tryz.prog w = .ok () w := by simp [eqGuard, Go.program, Sem.run, hg]
    rw [Sem.run_bind, hg, Result.andThen_ok]
    show (do pure (.bool (← Op.equal t (.agg us) (.agg vs))) : Sem Value).run Tryz.prog w = _
    rw [Sem.run_bind, hq, Result.andThen_ok]
    rfl
  · have hg : (eqGuard .neq t x y (.agg us) (.agg vs)).run Tryz.prog w = .ok () w := by simp [eqGuard, Go.program, Sem.run, hg]
    rw [Sem.run_bind, hg, Result.andThen_ok]
    show (do pure (.bool (!(← Op.equal t (.agg us) (.agg vs)))) : Sem Value).run Tryz.prog w = _
    rw [Sem.run_bind, hq, Result.andThen_ok]
    rfl
end
theorem wr_j : ∀ n : Int, 0 ≤ n → n < 2 ^ 62 → IntKind.i64.wrap n = n := fun n h0 h1 => wr_in (by omega) (by omega)
theorem band {a b : Nat} (ha : a < 2 ^ 62) (hb : b < 2 ^ 62) : bitsI .and .i64 (a : Int) (b : Int) = ((a &&& b : Nat) : Int) := (bits_nat .i64 62 (by decide) wr_j a b ha hb).1
theorem bor {a b : Nat} (ha : a < 2 ^ 62) (hb : b < 2 ^ 62) : bitsI .or .i64 (a : Int) (b : Int) = ((a ||| b : Nat) : Int) := (bits_nat .i64 62 (by decide) wr_j a b ha hb).2
theorem bandNot {a b : Nat} (ha : a < 2 ^ 62) (hb : b < 2 ^ 62) : bitsI .andNot .i64 (a : Int) (b : Int) = ((a ^^^ (a &&& b) : Nat) : Int) := by
  have key : (BitVec.ofInt 64 (a : Int) &&& ~~~(BitVec.ofInt 64 (b : Int))).toNat = a ^^^ (a &&& b) := by
    refine Nat.eq_of_testBit_eq fun i => ?_
    rw [BitVec.testBit_toNat, BitVec.getLsbD_and, BitVec.getLsbD_not, BitVec.ofInt_natCast, BitVec.ofInt_natCast, BitVec.getLsbD_ofNat, BitVec.getLsbD_ofNat, Nat.testBit_xor, Nat.testBit_and]
    by_cases hi : i < 64
    · simp only [hi, decide_true, Bool.true_and]
      cases a.testBit i <;> cases b.testBit i <;> rfl
    · have h1 : a.testBit i = false := Nat.testBit_lt_two_pow (Nat.lt_of_lt_of_le ha (Nat.pow_le_pow_right (by decide) (by omega)))
      simp [hi, h1]
  show IntKind.i64.wrap ((BitVec.ofInt 64 (a : Int) &&& ~~~(BitVec.ofInt 64 (b : Int))).toNat : Nat) = _
  rw [key]
  refine wr_j _ (Int.natCast_nonneg _) ?_
  have : a ^^^ (a &&& b) < 2 ^ 62 := Nat.xor_lt_two_pow ha (Nat.and_lt_two_pow _ hb)
  exact_mod_cast this
theorem bshr (a : Nat) {p : Nat} (hp : p ≤ 64) : Int.fdiv (a : Int) (2 ^ (min p 64)) = ((a >>> p : Nat) : Int) := by
  rw [Nat.min_eq_left hp, Nat.shiftRight_eq_div_pow, Int.fdiv_eq_ediv_of_nonneg _ (Int.pow_nonneg (by decide))]
  simp
theorem bshl {p : Nat} (hp : p < 62) : wr (1 * 2 ^ (min p 64)) = ((2 ^ p : Nat) : Int) := by
  rw [Nat.min_eq_left (by omega), Int.one_mul]
  have h : (2 : Nat) ^ p < 2 ^ 62 := Nat.pow_lt_pow_right (by decide) hp
  rw [show ((2 : Int) ^ p) = ((2 ^ p : Nat) : Int) by simp]
  exact wr_j _ (Int.natCast_nonneg _) (by exact_mod_cast h)
theorem btest {a p : Nat} (ha : a < 2 ^ 62) (hp : p ≤ 64) : bitsI .and .i64 (Int.fdiv (a : Int) (2 ^ (min p 64))) 1 = if a.testBit p then 1 else 0 := by
  rw [bshr a hp]
  have h1 : a >>> p < 2 ^ 62 := by
    rw [Nat.shiftRight_eq_div_pow]
    exact Nat.lt_of_le_of_lt (Nat.div_le_self _ _) ha
  have := band (a := a >>> p) (b := 1) h1 (by decide)
  rw [show ((1 : Nat) : Int) = 1 from rfl] at this
  rw [this]
  rw [Nat.and_one_is_mod, Nat.testBit_eq_decide_div_mod_eq, Nat.shiftRight_eq_div_pow]
  have := Nat.mod_two_eq_zero_or_one (a / 2 ^ p)
  rcases this with h | h <;> simp [h]
def maskOf (f : Nat → Bool) : Nat → Nat
  | 0 => 0
  | n + 1 => bif f n then maskOf f n ||| 2 ^ n else maskOf f n
theorem maskOf_test (f : Nat → Bool) (i : Nat) : ∀ n, (maskOf f n).testBit i = (decide (i < n) && f i)
  | 0 => by simp [maskOf]
  | n + 1 => by
    have ih := maskOf_test f i n
    rw [maskOf]
    cases hf : f n with
    | true =>
      show (maskOf f n ||| 2 ^ n).testBit i = _
      rw [Nat.testBit_or, ih, Nat.testBit_two_pow]
      by_cases e : n = i
      · subst e; simp [hf]
      · by_cases h : i < n
        · simp [h, e, show i < n + 1 by omega]
        · simp [h, e, show ¬ i < n + 1 by omega]
    | false =>
      show (maskOf f n).testBit i = _
      rw [ih]
      by_cases e : i = n
      · subst e; simp [hf]
      · by_cases h : i < n
        · simp [h, show i < n + 1 by omega]
        · simp [h, show ¬ i < n + 1 by omega]
theorem maskOf_lt (f : Nat → Bool) : ∀ n, maskOf f n < 2 ^ n
  | 0 => by simp [maskOf]
  | n + 1 => by
    have ih := maskOf_lt f n
    have h1 : 2 ^ n < 2 ^ (n + 1) := Nat.pow_lt_pow_right (by decide) (by omega)
    rw [maskOf]
    cases f n with
    | true => exact Nat.or_lt_two_pow (by omega) h1
    | false => show maskOf f n < _; omega
theorem maskOf_lt62 (f : Nat → Bool) {n : Nat} (h : n ≤ 62) : maskOf f n < 2 ^ 62 := Nat.lt_of_lt_of_le (maskOf_lt f n) (Nat.pow_le_pow_right (by decide) h)
theorem maskOf_congr {f g : Nat → Bool} : ∀ {n : Nat}, (∀ i, i < n → f i = g i) → maskOf f n = maskOf g n
  | 0, _ => rfl
  | n + 1, h => by rw [maskOf, maskOf, h n (by omega), maskOf_congr fun i hi => h i (by omega)]
theorem mask_or {f : Nat → Bool} {n : Nat} (hn : n < 62) (hf : f n = true) : bitsI .or .i64 (maskOf f n : Int) (wr (1 * 2 ^ (min n 64))) = (maskOf f (n + 1) : Int) := by
  have h : (2 : Nat) ^ n < 2 ^ 62 := Nat.pow_lt_pow_right (by decide) hn
  rw [bshl hn, bor (maskOf_lt62 f (by omega)) h, maskOf, hf]
  rfl
theorem mask_no {f : Nat → Bool} {n : Nat} (hf : f n = false) : maskOf f (n + 1) = maskOf f n := by
  rw [maskOf, hf]
  rfl
def hasB (s p : Int) : Bool := s.toNat.testBit p.toNat
theorem btestI {s p : Int} (hs : 0 ≤ s ∧ s < 4611686018427387904) (hp : 0 ≤ p ∧ p ≤ 64) : bitsI .and .i64 (Int.fdiv s (2 ^ (min p.toNat 64))) 1 = if hasB s p then 1 else 0 := by
  obtain ⟨a, rfl⟩ := Int.eq_ofNat_of_zero_le hs.1
  obtain ⟨q, rfl⟩ := Int.eq_ofNat_of_zero_le hp.1
  unfold hasB
  rw [Int.toNat_natCast, Int.toNat_natCast]
  exact btest (by omega) (by omega)
theorem hasB_mask {f : Nat → Bool} {n : Nat} {p : Int} (h : 0 ≤ p) : hasB (maskOf f n : Int) p = (decide (p < (n : Int)) && f p.toNat) := by
  unfold hasB
  rw [Int.toNat_natCast, maskOf_test]
  congr 1
  rw [decide_eq_decide]
  omega
-- loops that count
theorem dlt {k n : Nat} (h : decide ((k : Int) < (n : Int)) = true) : k < n := by
  have := of_decide_eq_true h
  omega
theorem dge {k n : Nat} (h : decide ((k : Int) < (n : Int)) = false) : n ≤ k := by
  have := of_decide_eq_false h
  omega
theorem wsucc {k : Nat} (h : k < 9223372036854775807) : wr ((k : Int) + 1) = ((k + 1 : Nat) : Int) := by
  rw [wr_in (by omega) (by omega)]
  rfl
theorem mu_up {n k : Nat} (h : k < n) (hk : k < 9223372036854775807) : n - (wr ((k : Int) + 1)).toNat < n - (k : Int).toNat := by
  rw [wsucc hk, Int.toNat_natCast, Int.toNat_natCast]
  omega
theorem idx_at {α : Type} {l : List α} {k : Nat} (h : k < l.length) : idx l (k : Int) = some l[k] := by simp [idx, h]
theorem idx_of {α : Type} {l : List α} {i : Int} (z : α) (h0 : 0 ≤ i) (h1 : i < (l.length : Int)) : idx l i = some (l.getD i.toNat z) := by
  have h : i.toNat < l.length := by omega
  unfold idx
  rw [if_pos h0, List.getD_eq_getElem?_getD, List.getElem?_eq_getElem h]
  rfl
theorem take_any {α : Type} {l : List α} {k : Nat} (h : k < l.length) (f : α → Bool) : (l.take (k + 1)).any f = ((l.take k).any f || f l[k]) := by
  rw [List.take_add_one, List.any_append, List.getElem?_eq_getElem h]
  simp
theorem take_map {α β : Type} {l : List α} {k : Nat} (h : k < l.length) (f : α → β) : (l.take (k + 1)).map f = (l.take k).map f ++ [f l[k]] := by
  rw [List.take_add_one, List.map_append, List.getElem?_eq_getElem h]
  rfl
theorem capOk_of {n m b : Nat} (h : (n + m) * b ≤ 140737488355328) : capOk n m b := h
def BehPre (d : ApiDet) (p : ParikhPlace) (a : Int) : Prop := ∃ k : Int, d = oneD k ∧ k ≤ 4 ∧ p.fQ = 0 ∧ 0 ≤ a ∧ a < k ∧ 0 < arrG p.fLeft.l a ∧ arrG p.fLeft.l a ≤ 100
def behR (p : ParikhPlace) (a : Int) : ParikhPlace := ⟨0, lessE p.fLeft a⟩
theorem pBeh_ct (d : ApiDet) (K : List (ParikhPlace × (Option MathBigInt))) (p : ParikhPlace) (a : Int) (hp : BehPre d p a)  : CtE 11 [.sv (.one (.ptr 0 0)), .sv (.agg [I p.fQ, I p.fLeft.fE0, I p.fLeft.fE1, I p.fLeft.fE2, I p.fLeft.fE3]), .sv (.one (I a))] [.box [I d.fLetters, I d.fStart, LS (lsT intT) d.fNext, LS intT d.fMark, .own 1] 37 false, mapI ParikhPlace.enc (optT MathBigInt.ty) K] [0] (fun (_ : Unit) => True) (fun _ => .sv (.agg [I (behR p a).fQ, I (behR p a).fLeft.fE0, I (behR p a).fLeft.fE1, I (behR p a).fLeft.fE2, I (behR p a).fLeft.fE3])) (fun _ => [.box [I d.fLetters, I d.fStart, LS (lsT intT) d.fNext, LS intT d.fMark, .own 1] 37 false, mapI ParikhPlace.enc (optT MathBigInt.ty) K]) := by
  refine (pBeh_walk d K p a (fun res_ => res_ = behR p a) ?_).imp (fun r hr => ⟨(), trivial, by subst hr; rfl, by subst hr; rfl⟩)
  obtain ⟨k, rfl, hk, hq, h0, h1, h2, h3⟩ := hp
  unfold pBeh_vc behR lessE
  refine ⟨⟨h0, by omega⟩, ⟨h0, by omega⟩, List.replicate k.toNat 0, by rw [hq]; rfl, 0, ?_, ?_⟩
  · unfold idx
    rw [if_pos h0, List.getElem?_replicate, if_pos (by omega)]
  · rw [wr_in (by omega) (by omega)]
theorem en9 : ∀ args w, (callFunc 9 args).run Tryz.prog w = .ok (.enter 9 args) w := enters_of Tryz.func9 (by kernel_rfl) rfl
def MOk (K : List (ParikhPlace × (Option MathBigInt))) : Prop := ∀ p o, mget p K = some o → o = numR (wL p.fLeft)
structure WayPre (d : ApiDet) (K : List (ParikhPlace × (Option MathBigInt))) (p : ParikhPlace) (n : Nat) : Prop where
  one : ∃ k : Int, d = oneD k ∧ 1 ≤ k ∧ k ≤ 4 ∧ PlOk k p
  map : MOk K
  fuel : sumE p.fLeft < n
def WayC (d : ApiDet) (n : Nat) : Prop := ∀ (K : List (ParikhPlace × (Option MathBigInt))) (p : ParikhPlace), WayPre d K p n → CtE 9 [.sv (.one (.ptr 0 0)), .sv (.agg [I p.fQ, I p.fLeft.fE0, I p.fLeft.fE1, I p.fLeft.fE2, I p.fLeft.fE3])] [.box [I d.fLetters, I d.fStart, LS (lsT intT) d.fNext, LS intT d.fMark, .own 1] 37 false, mapI ParikhPlace.enc (optT MathBigInt.ty) K] [0] (MOk) (fun (r : List (ParikhPlace × (Option MathBigInt))) => .sv (.one (.rd (optPe MathBigInt.ty (numR (wL p.fLeft)))))) (fun (r : List (ParikhPlace × (Option MathBigInt))) => [.box [I d.fLetters, I d.fStart, LS (lsT intT) d.fNext, LS intT d.fMark, .own 1] 37 false, mapI ParikhPlace.enc (optT MathBigInt.ty) r])
def pWay_vc (d : ApiDet) (K : List (ParikhPlace × (Option MathBigInt))) (p : ParikhPlace) (n : Nat) (Q : (Option MathBigInt) × (List (ParikhPlace × (Option MathBigInt))) → Prop) : Prop :=
  IfP (mget p K).isSome (Q (((mget p K).getD none), K)) (∃ J : (List Int) → Prop, (IfP (decide (p.fLeft = (St38.mk 0 0 0 0))) (∃ e, idx d.fMark p.fQ = some e ∧
  (([] : List Int) = [] ∧ 0 < e ∧ e < 1000) ∧
  J [e]) (J ([] : List Int))) ∧
  (∀ (l4 : List Int), J l4 → ∃ (Inv : Int → (List (ParikhPlace × (Option MathBigInt))) → (List Int) → Prop) (mu : Int → (List (ParikhPlace × (Option MathBigInt))) → (List Int) → Nat), Inv 0 K l4 ∧
  ∀ (x41 : Int) (m1 : List (ParikhPlace × (Option MathBigInt))) (l4_2 : List Int) , Inv x41 m1 l4_2 → (IfP (decide (x41 < d.fLetters)) (∃ J_2 : (List (ParikhPlace × (Option MathBigInt))) → (List Int) → Prop, ((0 ≤ x41 ∧ x41 < 4) ∧
  IfP (decide ((arrG (St38.l p.fLeft) x41) > 0)) ((BehPre d p x41) ∧
  (WayPre d m1 (behR p x41) n) ∧
  ∀ r_2 : (List (ParikhPlace × (Option MathBigInt))), (MOk) r_2 →
  ((∃ u, (numR (wL ((behR p x41)).fLeft)) = numR u ∧ AddPre l4_2 [u]) ∧
  J_2 r_2 [l4_2.sum + numS (numR (wL ((behR p x41)).fLeft))])) (J_2 m1 l4_2)) ∧
  (∀ (m1_2 : List (ParikhPlace × (Option MathBigInt))) (l4_3 : List Int), J_2 m1_2 l4_3 → (Inv (wr (x41 + 1)) m1_2 l4_3 ∧ mu (wr (x41 + 1)) m1_2 l4_3 < mu x41 m1 l4_2))) (Q ((some (MathBigInt.mk false l4_2)), (mput p (some (MathBigInt.mk false l4_2)) m1))))))
theorem pWay_walk (d : ApiDet) (K : List (ParikhPlace × (Option MathBigInt))) (p : ParikhPlace) (n : Nat) (ih : WayC d n) (Q : (Option MathBigInt) × (List (ParikhPlace × (Option MathBigInt))) → Prop) (h : pWay_vc d K p n Q) : CtE 9 [.sv (.one (.ptr 0 0)), .sv (.agg [I p.fQ, I p.fLeft.fE0, I p.fLeft.fE1, I p.fLeft.fE2, I p.fLeft.fE3])] [.box [I d.fLetters, I d.fStart, LS (lsT intT) d.fNext, LS intT d.fMark, .own 1] 37 false, mapI ParikhPlace.enc (optT MathBigInt.ty) K] [0] Q (fun (r : (Option MathBigInt) × (List (ParikhPlace × (Option MathBigInt)))) => .sv (.one (.rd (optPe MathBigInt.ty r.1)))) (fun (r : (Option MathBigInt) × (List (ParikhPlace × (Option MathBigInt)))) => [.box [I d.fLetters, I d.fStart, LS (lsT intT) d.fNext, LS intT d.fMark, .own 1] 37 false, mapI ParikhPlace.enc (optT MathBigInt.ty) r.2]) := by
  have ht := tab_ok
  refine CtE.body Tryz.func9 rfl rfl rfl (by kernel_rfl) (by kernel_rfl) (fun c Bk hn => ?_)
  unfold pWay_vc at h
  show En c ⟨[(0, .sv (.one (.pptr 0 0 (Bk 0)))), (1, .sv (.agg [I p.fQ, I p.fLeft.fE0, I p.fLeft.fE1, I p.fLeft.fE2, I p.fLeft.fE3]))], [.box [I d.fLetters, I d.fStart, LS (lsT intT) d.fNext, LS intT d.fMark, .own 1] 37 false, mapI ParikhPlace.enc (optT MathBigInt.ty) K]⟩ _
  refine En.seq ?_
  refine En.region ?_
  refine WL.run ht hn 2 ⟨[(0, .sv (.one (.pptr 0 0 (Bk 0)))), (3, .sv (.one (.ptr 2 0)))], [.box [I d.fLetters, I d.fStart, LS (lsT intT) d.fNext, LS intT d.fMark, .own 1] 37 false, mapI ParikhPlace.enc (optT MathBigInt.ty) K, .box [I p.fQ, I p.fLeft.fE0, I p.fLeft.fE1, I p.fLeft.fE2, I p.fLeft.fE3] 40 false]⟩ (by kernel_rfl) ?_
  refine WL.nil ?_
  refine En.seq ?_
  refine En.seq ?_
  refine En.regionA ⟨[(0, .sv (.one (.pptr 0 0 (Bk 0)))), (3, .sv (.one (.ptr 2 0)))], [.sv (.one (.ptr 0 0)), .sv (.one (.ptr 0 0)), .sv (.one (.ptr 0 4)), .sv (.one (.own 1)), .sv (.agg [I p.fQ, I p.fLeft.fE0, I p.fLeft.fE1, I p.fLeft.fE2, I p.fLeft.fE3]), .tup [.one (.rd (optPe MathBigInt.ty ((mget p K).getD none))), .one (B (mget p K).isSome)], .tup [.one (.rd (optPe MathBigInt.ty ((mget p K).getD none))), .one (B (mget p K).isSome)], .sv (.one (.rd (optPe MathBigInt.ty ((mget p K).getD none)))), .sv (.one (B (mget p K).isSome)), .sv (.one (.rd (optPe MathBigInt.ty ((mget p K).getD none)))), .sv (.one (B (mget p K).isSome))], [⟨.box [I d.fLetters, I d.fStart, LS (lsT intT) d.fNext, LS intT d.fMark, .own 1] 37 false, none, none, none⟩, ⟨mapI ParikhPlace.enc (optT MathBigInt.ty) K, none, none, none⟩, ⟨.box [I p.fQ, I p.fLeft.fE0, I p.fLeft.fE1, I p.fLeft.fE2, I p.fLeft.fE3] 40 false, none, none, none⟩]⟩ ⟨[(0, .sv (.one (.pptr 0 0 (Bk 0)))), (3, .sv (.one (.ptr 2 0))), (5, .sv (.one (.rd (optPe MathBigInt.ty ((mget p K).getD none))))), (6, .sv (.one (B (mget p K).isSome)))], [.box [I d.fLetters, I d.fStart, LS (lsT intT) d.fNext, LS intT d.fMark, .own 1] 37 false, mapI ParikhPlace.enc (optT MathBigInt.ty) K, .box [I p.fQ, I p.fLeft.fE0, I p.fLeft.fE1, I p.fLeft.fE2, I p.fLeft.fE3] 40 false]⟩ (by kernel_rfl) hn (by kernel_rfl) (by rfl) (by kernel_rfl) ?_ (by kernel_rfl) ?_
  · exact ⟨.mt ⟨[(0, .sv (.one (.pptr 0 0 (Bk 0))))], []⟩ [] none (by kernel_rfl) (by rfl) (mt_ev ht (by kernel_rfl)) rfl rfl rfl rfl,
    .mt ⟨[(10, .sv (.one (.ptr 0 0)))], []⟩ [] none (by kernel_rfl) (by rfl) (mt_ev ht (by kernel_rfl)) rfl rfl rfl rfl,
    .mt ⟨[(11, .sv (.one (.ptr 0 0)))], []⟩ [] none (by kernel_rfl) (by rfl) (mt_ev ht (by kernel_rfl)) rfl rfl rfl rfl,
    .mt ⟨[(12, .sv (.one (.ptr 0 4)))], [.box [I d.fLetters, I d.fStart, LS (lsT intT) d.fNext, LS intT d.fMark, .own 1] 37 false]⟩ [] none (by kernel_rfl) (by rfl) (mt_ev ht (by kernel_rfl)) rfl rfl rfl rfl,
    .mt ⟨[(3, .sv (.one (.ptr 2 0)))], [.gone, .gone, .box [I p.fQ, I p.fLeft.fE0, I p.fLeft.fE1, I p.fLeft.fE2, I p.fLeft.fE3] 40 false]⟩ [] none (by kernel_rfl) (by rfl) (mt_ev ht (by kernel_rfl)) rfl rfl rfl rfl,
    .mt ⟨[(13, .sv (.one (.own 1))), (14, .sv (.agg [I p.fQ, I p.fLeft.fE0, I p.fLeft.fE1, I p.fLeft.fE2, I p.fLeft.fE3]))], [.gone, mapI ParikhPlace.enc (optT MathBigInt.ty) K]⟩ [] none (by kernel_rfl) (by rfl) (mt_val (val_lookup (T := (optT MathBigInt.ty)) (D := K) ParikhPlace.keyLaw (k := p) (ok := true) none (zv := (.pointer none)) rfl Tryz.underlying35 (fun _ => by kernel_rfl) (fun _ => ⟨rfl, trivial⟩) (mapAs ParikhPlace.enc (optT MathBigInt.ty) K) (by rfl) (by rfl) (by rfl) (fun _ => rfl))) rfl rfl rfl rfl,
    .mt ⟨[(15, .tup [.one (.rd (optPe MathBigInt.ty ((mget p K).getD none))), .one (B (mget p K).isSome)])], []⟩ [] none (by kernel_rfl) (by rfl) (mt_ev ht (by kernel_rfl)) rfl rfl rfl rfl,
    .mt ⟨[(9, .tup [.one (.rd (optPe MathBigInt.ty ((mget p K).getD none))), .one (B (mget p K).isSome)])], []⟩ [] none (by kernel_rfl) (by rfl) (mt_ev ht (by kernel_rfl)) rfl rfl rfl rfl,
    .mt ⟨[(9, .tup [.one (.rd (optPe MathBigInt.ty ((mget p K).getD none))), .one (B (mget p K).isSome)])], []⟩ [] none (by kernel_rfl) (by rfl) (mt_ev ht (by kernel_rfl)) rfl rfl rfl rfl,
    .mt ⟨[(16, .sv (.one (.rd (optPe MathBigInt.ty ((mget p K).getD none)))))], []⟩ [] none (by kernel_rfl) (by rfl) (mt_ev ht (by kernel_rfl)) rfl rfl rfl rfl,
    .mt ⟨[(17, .sv (.one (B (mget p K).isSome)))], []⟩ [] none (by kernel_rfl) (by rfl) (mt_ev ht (by kernel_rfl)) rfl rfl rfl rfl,
    trivial⟩
  · refine En.seq ?_
    refine En.region ?_
    refine WL.run ht hn 1 ⟨[(0, .sv (.one (.pptr 0 0 (Bk 0)))), (3, .sv (.one (.ptr 2 0))), (5, .sv (.one (.rd (optPe MathBigInt.ty ((mget p K).getD none))))), (18, .sv (.one (B (mget p K).isSome)))], [.box [I d.fLetters, I d.fStart, LS (lsT intT) d.fNext, LS intT d.fMark, .own 1] 37 false, mapI ParikhPlace.enc (optT MathBigInt.ty) K, .box [I p.fQ, I p.fLeft.fE0, I p.fLeft.fE1, I p.fLeft.fE2, I p.fLeft.fE3] 40 false]⟩ (by kernel_rfl) ?_
    refine WL.nil ?_
    refine En.cond (b := (mget p K).isSome) (by kernel_rfl) (fun hb => ?_) (fun hb => ?_)
    · replace h := h.1 hb
      refine En.seq ?_
      refine En.region ?_
      refine WL.run ht hn 2 ⟨[(0, .sv (.one (.pptr 0 0 (Bk 0)))), (4, .sv (.one (.rd (optPe MathBigInt.ty ((mget p K).getD none)))))], [.box [I d.fLetters, I d.fStart, LS (lsT intT) d.fNext, LS intT d.fMark, .own 1] 37 false, mapI ParikhPlace.enc (optT MathBigInt.ty) K, .gone]⟩ (by kernel_rfl) ?_
      refine WL.nil ?_
      refine En.ret ?_
      exact En.backE [0] ht (((mget p K).getD none), K) h (by kernel_rfl) (by rfl) rfl
    · replace h := h.2 hb
      refine En.skip ?_
      refine En.seq ?_
      refine En.region ?_
      refine WL.run ht hn 2 ⟨[(0, .sv (.one (.pptr 0 0 (Bk 0)))), (3, .sv (.one (.ptr 2 0))), (7, .sv (.one (.ptr 3 0)))], [.box [I d.fLetters, I d.fStart, LS (lsT intT) d.fNext, LS intT d.fMark, .own 1] 37 false, mapI ParikhPlace.enc (optT MathBigInt.ty) K, .box [I p.fQ, I p.fLeft.fE0, I p.fLeft.fE1, I p.fLeft.fE2, I p.fLeft.fE3] 40 false, .box [B false, .v (.slice none 0 0)] 54 false]⟩ (by kernel_rfl) ?_
      refine WL.nil ?_
      obtain ⟨J, h, hJ⟩ := h
      refine En.seqJ (σ := (List Int)) (fun zz => J zz) (fun zz => ⟨[(0, .sv (.one (.pptr 0 0 (Bk 0)))), (3, .sv (.one (.ptr 2 0))), (7, .sv (.one (.ptr 3 0)))], [.box [I d.fLetters, I d.fStart, LS (lsT intT) d.fNext, LS intT d.fMark, .own 1] 37 false, mapI ParikhPlace.enc (optT MathBigInt.ty) K, .box [I p.fQ, I p.fLeft.fE0, I p.fLeft.fE1, I p.fLeft.fE2, I p.fLeft.fE3] 40 false, .box [B false, .own 4] 54 false, rowI 68 (intKT .u64) zz]⟩) ?_ ?_
      · refine En.seq ?_
        refine En.region ?_
        refine WL.run ht hn 3 ⟨[(0, .sv (.one (.pptr 0 0 (Bk 0)))), (3, .sv (.one (.ptr 2 0))), (7, .sv (.one (.ptr 3 0))), (22, .sv (.agg [I p.fLeft.fE0, I p.fLeft.fE1, I p.fLeft.fE2, I p.fLeft.fE3])), (23, .sv (.agg [I 0, I 0, I 0, I 0]))], [.box [I d.fLetters, I d.fStart, LS (lsT intT) d.fNext, LS intT d.fMark, .own 1] 37 false, mapI ParikhPlace.enc (optT MathBigInt.ty) K, .box [I p.fQ, I p.fLeft.fE0, I p.fLeft.fE1, I p.fLeft.fE2, I p.fLeft.fE3] 40 false, .box [B false, .v (.slice none 0 0)] 54 false]⟩ (by kernel_rfl) ?_
        refine WL.val hn (by rfl) (val_eqA St38.keyLaw (u := p.fLeft) (v := (St38.mk 0 0 0 0)) rfl (by rfl) (by rfl) rfl rfl (by kernel_rfl) (.inl ⟨rfl, rfl⟩)) (by rfl) ?_
        refine WL.nil ?_
        refine En.cond (b := (decide (p.fLeft = (St38.mk 0 0 0 0)))) (by kernel_rfl) (fun hb => ?_) (fun hb => ?_)
        · replace h := h.1 hb
          obtain ⟨e, he, h⟩ := h
          refine En.regionT ⟨[(0, .sv (.one (.pptr 0 0 (Bk 0)))), (3, .sv (.one (.ptr 2 0))), (7, .sv (.one (.ptr 3 0)))], [.sv (.one (.ptr 3 0)), .sv (.one (.ptr 0 0)), .sv (.one (.ptr 0 0)), .sv (.one (.ptr 0 0)), .sv (.one (.ptr 0 3)), .sv (.one (LS intT d.fMark)), .sv (.one (.ptr 2 0)), .sv (.one (I p.fQ)), .sv (.one (.pe (svR (.one (I e))) 1)), .sv (.one (I e))], [⟨.box [I d.fLetters, I d.fStart, LS (lsT intT) d.fNext, LS intT d.fMark, .own 1] 37 false, none, none, none⟩, ⟨mapI ParikhPlace.enc (optT MathBigInt.ty) K, none, none, none⟩, ⟨.box [I p.fQ, I p.fLeft.fE0, I p.fLeft.fE1, I p.fLeft.fE2, I p.fLeft.fE3] 40 false, none, none, none⟩, ⟨.box [B false, .v (.slice none 0 0)] 54 false, none, none, none⟩]⟩ 10 ⟨[(0, .sv (.one (.pptr 0 0 (Bk 0)))), (3, .sv (.one (.ptr 2 0))), (7, .sv (.one (.ptr 3 0))), (25, .sv (.one (.ptr 3 0))), (34, .sv (.one (I e)))], [.box [I d.fLetters, I d.fStart, LS (lsT intT) d.fNext, LS intT d.fMark, .own 1] 37 false, mapI ParikhPlace.enc (optT MathBigInt.ty) K, .box [I p.fQ, I p.fLeft.fE0, I p.fLeft.fE1, I p.fLeft.fE2, I p.fLeft.fE3] 40 false, .box [B false, .v (.slice none 0 0)] 54 false]⟩ (by kernel_rfl) hn (by kernel_rfl) (by kernel_rfl) (by kernel_rfl) (by rfl) (by kernel_rfl) ?_ (by kernel_rfl) ?_
          · exact ⟨.mt ⟨[(7, .sv (.one (.ptr 3 0)))], []⟩ [] none (by kernel_rfl) (by rfl) (mt_ev ht (by kernel_rfl)) rfl rfl rfl rfl,
    .mt ⟨[(0, .sv (.one (.pptr 0 0 (Bk 0))))], []⟩ [] none (by kernel_rfl) (by rfl) (mt_ev ht (by kernel_rfl)) rfl rfl rfl rfl,
    .mt ⟨[(26, .sv (.one (.ptr 0 0)))], []⟩ [] none (by kernel_rfl) (by rfl) (mt_ev ht (by kernel_rfl)) rfl rfl rfl rfl,
    .mt ⟨[(27, .sv (.one (.ptr 0 0)))], []⟩ [] none (by kernel_rfl) (by rfl) (mt_ev ht (by kernel_rfl)) rfl rfl rfl rfl,
    .mt ⟨[(28, .sv (.one (.ptr 0 0)))], []⟩ [] none (by kernel_rfl) (by rfl) (mt_ev ht (by kernel_rfl)) rfl rfl rfl rfl,
    .mt ⟨[(29, .sv (.one (.ptr 0 3)))], [.box [I d.fLetters, I d.fStart, LS (lsT intT) d.fNext, LS intT d.fMark, .own 1] 37 false]⟩ [] none (by kernel_rfl) (by rfl) (mt_ev ht (by kernel_rfl)) rfl rfl rfl rfl,
    .mt ⟨[(3, .sv (.one (.ptr 2 0)))], []⟩ [] none (by kernel_rfl) (by rfl) (mt_ev ht (by kernel_rfl)) rfl rfl rfl rfl,
    .mt ⟨[(31, .sv (.one (.ptr 2 0)))], [.gone, .gone, .box [I p.fQ, I p.fLeft.fE0, I p.fLeft.fE1, I p.fLeft.fE2, I p.fLeft.fE3] 40 false]⟩ [] none (by kernel_rfl) (by rfl) (mt_ev ht (by kernel_rfl)) rfl rfl rfl rfl,
    .mt ⟨[(30, .sv (.one (LS intT d.fMark))), (32, .sv (.one (I p.fQ)))], []⟩ [] none (by kernel_rfl) (by rfl) (mt_val (val_index (T := intT) (l := d.fMark) (i := p.fQ) ht rfl (by rfl) (by rfl) (by rfl) (by rfl) (by rfl) (by rfl) he)) rfl rfl rfl rfl,
    .mt ⟨[(33, .sv (.one (.pe (svR (.one (I e))) 1)))], []⟩ [] none (by kernel_rfl) (by rfl) (mt_val (val_load (s := .one (I e)) ht rfl (by rfl) (by rfl) (by rfl) (by rfl) (by rfl))) rfl rfl rfl rfl,
    trivial⟩
          · refine WL.nilBoxO (T := (intKT .u64)) 3 1 4 68 (by rfl) (by rfl) (by rfl) (by rfl) ?_
            have hp := h.1
            replace h := h.2
            refine WL.callQ [(0, .sv (.one (.pptr 0 0 (Bk 0)))), (3, .sv (.one (.ptr 2 0))), (7, .sv (.one (.ptr 3 0))), (25, .sv (.one (.ptr 3 0))), (34, .sv (.one (I e)))] (bSet_ct ([] : List Int) e hp) en15 (caps := []) [3, 4] hn (by rfl) rfl (by rfl) (argsAs (by kernel_rfl) (by rfl)) (by kernel_rfl) (by decide) (by kernel_rfl) (by rfl) (by rfl) (fun r hr_2 => ⟨by rfl, _, by rfl, ?_⟩)
            refine WL.nil ?_
            exact En.at (I := fun zz => J zz) (T := fun zz => ⟨[(0, .sv (.one (.pptr 0 0 (Bk 0)))), (3, .sv (.one (.ptr 2 0))), (7, .sv (.one (.ptr 3 0)))], [.box [I d.fLetters, I d.fStart, LS (lsT intT) d.fNext, LS intT d.fMark, .own 1] 37 false, mapI ParikhPlace.enc (optT MathBigInt.ty) K, .box [I p.fQ, I p.fLeft.fE0, I p.fLeft.fE1, I p.fLeft.fE2, I p.fLeft.fE3] 40 false, .box [B false, .own 4] 54 false, rowI 68 (intKT .u64) zz]⟩) [e] h (by kernel_rfl)
        · replace h := h.2 hb
          refine En.skip ?_
          refine En.nilBoxO (T := (intKT .u64)) 3 1 4 68 (by rfl) (by rfl) (by rfl) (by rfl) ?_
          exact En.at (I := fun zz => J zz) (T := fun zz => ⟨[(0, .sv (.one (.pptr 0 0 (Bk 0)))), (3, .sv (.one (.ptr 2 0))), (7, .sv (.one (.ptr 3 0)))], [.box [I d.fLetters, I d.fStart, LS (lsT intT) d.fNext, LS intT d.fMark, .own 1] 37 false, mapI ParikhPlace.enc (optT MathBigInt.ty) K, .box [I p.fQ, I p.fLeft.fE0, I p.fLeft.fE1, I p.fLeft.fE2, I p.fLeft.fE3] 40 false, .box [B false, .own 4] 54 false, rowI 68 (intKT .u64) zz]⟩) ([] : List Int) h (by kernel_rfl)
      · intro l4 h
        replace h := hJ _ h
        show En c ⟨[(0, .sv (.one (.pptr 0 0 (Bk 0)))), (3, .sv (.one (.ptr 2 0))), (7, .sv (.one (.ptr 3 0)))], [.box [I d.fLetters, I d.fStart, LS (lsT intT) d.fNext, LS intT d.fMark, .own 1] 37 false, mapI ParikhPlace.enc (optT MathBigInt.ty) K, .box [I p.fQ, I p.fLeft.fE0, I p.fLeft.fE1, I p.fLeft.fE2, I p.fLeft.fE3] 40 false, .box [B false, .own 4] 54 false, rowI 68 (intKT .u64) l4]⟩ _
        refine En.seq ?_
        refine En.seq ?_
        refine En.region ?_
        refine WL.run ht hn 6 ⟨[(0, .sv (.one (.pptr 0 0 (Bk 0)))), (3, .sv (.one (.ptr 2 0))), (7, .sv (.one (.ptr 3 0))), (40, .sv (.one (I d.fLetters))), (41, .sv (.one (I 0)))], [.box [I d.fLetters, I d.fStart, LS (lsT intT) d.fNext, LS intT d.fMark, .own 1] 37 false, mapI ParikhPlace.enc (optT MathBigInt.ty) K, .box [I p.fQ, I p.fLeft.fE0, I p.fLeft.fE1, I p.fLeft.fE2, I p.fLeft.fE3] 40 false, .box [B false, .own 4] 54 false, rowI 68 (intKT .u64) l4]⟩ (by kernel_rfl) ?_
        refine WL.nil ?_
        refine En.block ?_
        obtain ⟨Inv, mu, h0, hI⟩ := h
        refine En.loop (σ := Int × (List (ParikhPlace × (Option MathBigInt))) × (List Int)) (fun zz => Inv zz.1 zz.2.1 zz.2.2) (fun zz => mu zz.1 zz.2.1 zz.2.2) (fun zz => ⟨[(0, .sv (.one (.pptr 0 0 (Bk 0)))), (3, .sv (.one (.ptr 2 0))), (7, .sv (.one (.ptr 3 0))), (40, .sv (.one (I d.fLetters))), (41, .sv (.one (I zz.1)))], [.box [I d.fLetters, I d.fStart, LS (lsT intT) d.fNext, LS intT d.fMark, .own 1] 37 false, mapI ParikhPlace.enc (optT MathBigInt.ty) zz.2.1, .box [I p.fQ, I p.fLeft.fE0, I p.fLeft.fE1, I p.fLeft.fE2, I p.fLeft.fE3] 40 false, .box [B false, .own 4] 54 false, rowI 68 (intKT .u64) zz.2.2]⟩) (0, K, l4) h0 (sub_ok (by kernel_rfl)) ?_
        rintro ⟨x41, m1, l4_2⟩ h
        replace h := hI _ _ _ h
        show En c ⟨[(0, .sv (.one (.pptr 0 0 (Bk 0)))), (3, .sv (.one (.ptr 2 0))), (7, .sv (.one (.ptr 3 0))), (40, .sv (.one (I d.fLetters))), (41, .sv (.one (I x41)))], [.box [I d.fLetters, I d.fStart, LS (lsT intT) d.fNext, LS intT d.fMark, .own 1] 37 false, mapI ParikhPlace.enc (optT MathBigInt.ty) m1, .box [I p.fQ, I p.fLeft.fE0, I p.fLeft.fE1, I p.fLeft.fE2, I p.fLeft.fE3] 40 false, .box [B false, .own 4] 54 false, rowI 68 (intKT .u64) l4_2]⟩ _
        refine En.seq ?_
        refine En.region ?_
        refine WL.run ht hn 1 ⟨[(0, .sv (.one (.pptr 0 0 (Bk 0)))), (3, .sv (.one (.ptr 2 0))), (7, .sv (.one (.ptr 3 0))), (40, .sv (.one (I d.fLetters))), (41, .sv (.one (I x41))), (42, .sv (.one (B (decide (x41 < d.fLetters)))))], [.box [I d.fLetters, I d.fStart, LS (lsT intT) d.fNext, LS intT d.fMark, .own 1] 37 false, mapI ParikhPlace.enc (optT MathBigInt.ty) m1, .box [I p.fQ, I p.fLeft.fE0, I p.fLeft.fE1, I p.fLeft.fE2, I p.fLeft.fE3] 40 false, .box [B false, .own 4] 54 false, rowI 68 (intKT .u64) l4_2]⟩ (by kernel_rfl) ?_
        refine WL.nil ?_
        refine En.seq ?_
        refine En.cond (b := (decide (x41 < d.fLetters))) (by kernel_rfl) (fun hb => ?_) (fun hb => ?_)
        · replace h := h.1 hb
          refine En.skip ?_
          obtain ⟨J_2, h, hJ_2⟩ := h
          refine En.seqJ (σ := (List (ParikhPlace × (Option MathBigInt))) × (List Int)) (fun zz => J_2 zz.1 zz.2) (fun zz => ⟨[(0, .sv (.one (.pptr 0 0 (Bk 0)))), (3, .sv (.one (.ptr 2 0))), (7, .sv (.one (.ptr 3 0))), (40, .sv (.one (I d.fLetters))), (41, .sv (.one (I x41)))], [.box [I d.fLetters, I d.fStart, LS (lsT intT) d.fNext, LS intT d.fMark, .own 1] 37 false, mapI ParikhPlace.enc (optT MathBigInt.ty) zz.1, .box [I p.fQ, I p.fLeft.fE0, I p.fLeft.fE1, I p.fLeft.fE2, I p.fLeft.fE3] 40 false, .box [B false, .own 4] 54 false, rowI 68 (intKT .u64) zz.2]⟩) ?_ ?_
          · refine En.block ?_
            refine En.seq ?_
            refine En.region ?_
            refine WL.run ht hn 2 ⟨[(0, .sv (.one (.pptr 0 0 (Bk 0)))), (3, .sv (.one (.ptr 2 0))), (7, .sv (.one (.ptr 3 0))), (8, .sv (.one (I x41))), (40, .sv (.one (I d.fLetters))), (41, .sv (.one (I x41)))], [.box [I d.fLetters, I d.fStart, LS (lsT intT) d.fNext, LS intT d.fMark, .own 1] 37 false, mapI ParikhPlace.enc (optT MathBigInt.ty) m1, .box [I p.fQ, I p.fLeft.fE0, I p.fLeft.fE1, I p.fLeft.fE2, I p.fLeft.fE3] 40 false, .box [B false, .own 4] 54 false, rowI 68 (intKT .u64) l4_2]⟩ (by kernel_rfl) ?_
            refine WL.nil ?_
            refine En.seq ?_
            refine En.region ?_
            refine WL.run ht hn 2 ⟨[(0, .sv (.one (.pptr 0 0 (Bk 0)))), (3, .sv (.one (.ptr 2 0))), (7, .sv (.one (.ptr 3 0))), (8, .sv (.one (I x41))), (40, .sv (.one (I d.fLetters))), (41, .sv (.one (I x41))), (44, .sv (.one (I x41))), (45, .sv (.one (.ptr 2 1)))], [.box [I d.fLetters, I d.fStart, LS (lsT intT) d.fNext, LS intT d.fMark, .own 1] 37 false, mapI ParikhPlace.enc (optT MathBigInt.ty) m1, .box [I p.fQ, I p.fLeft.fE0, I p.fLeft.fE1, I p.fLeft.fE2, I p.fLeft.fE3] 40 false, .box [B false, .own 4] 54 false, rowI 68 (intKT .u64) l4_2]⟩ (by kernel_rfl) ?_
            have hk := h.1
            replace h := h.2
            refine WL.val hn (by rfl) (val_indexP (k := x41) 2 1 (1 + (x41 : Int).toNat * 1) ht rfl Tryz.underlying38 (by rfl) (by rfl) (by rfl) (by rfl) hk rfl) (by rfl) ?_
            refine WL.val hn (by rfl) (val_loadPO (St38.l p.fLeft) (k := x41) (m := 4) 1 ht rfl (by rfl) (by rfl) (by rfl) (by rfl) (by rfl) (by rfl) (by rfl) (by omega) (by omega)) (by rfl) ?_
            refine WL.run ht hn 1 ⟨[(0, .sv (.one (.pptr 0 0 (Bk 0)))), (3, .sv (.one (.ptr 2 0))), (7, .sv (.one (.ptr 3 0))), (8, .sv (.one (I x41))), (40, .sv (.one (I d.fLetters))), (41, .sv (.one (I x41))), (48, .sv (.one (B (decide ((arrG (St38.l p.fLeft) x41) > 0)))))], [.box [I d.fLetters, I d.fStart, LS (lsT intT) d.fNext, LS intT d.fMark, .own 1] 37 false, mapI ParikhPlace.enc (optT MathBigInt.ty) m1, .box [I p.fQ, I p.fLeft.fE0, I p.fLeft.fE1, I p.fLeft.fE2, I p.fLeft.fE3] 40 false, .box [B false, .own 4] 54 false, rowI 68 (intKT .u64) l4_2]⟩ (by kernel_rfl) ?_
            refine WL.nil ?_
            refine En.cond (b := (decide ((arrG (St38.l p.fLeft) x41) > 0))) (by kernel_rfl) (fun hb => ?_) (fun hb => ?_)
            · replace h := h.1 hb
              refine En.region ?_
              refine WL.run ht hn 6 ⟨[(0, .sv (.one (.pptr 0 0 (Bk 0)))), (3, .sv (.one (.ptr 2 0))), (7, .sv (.one (.ptr 3 0))), (40, .sv (.one (I d.fLetters))), (41, .sv (.one (I x41))), (49, .sv (.one (.ptr 3 0))), (50, .sv (.one (.ptr 3 0))), (51, .sv (.one (.ptr 0 0))), (52, .sv (.one (.ptr 0 0))), (53, .sv (.agg [I p.fQ, I p.fLeft.fE0, I p.fLeft.fE1, I p.fLeft.fE2, I p.fLeft.fE3])), (54, .sv (.one (I x41)))], [.box [I d.fLetters, I d.fStart, LS (lsT intT) d.fNext, LS intT d.fMark, .own 1] 37 false, mapI ParikhPlace.enc (optT MathBigInt.ty) m1, .box [I p.fQ, I p.fLeft.fE0, I p.fLeft.fE1, I p.fLeft.fE2, I p.fLeft.fE3] 40 false, .box [B false, .own 4] 54 false, rowI 68 (intKT .u64) l4_2]⟩ (by kernel_rfl) ?_
              have hp := h.1
              replace h := h.2
              refine WL.callE (pBeh_ct d m1 p x41 hp) en11 (caps := []) [0, 1] hn (by rfl) rfl (by rfl) (argsAs (by kernel_rfl) (by rfl)) (by kernel_rfl) (by decide) (by rfl) (by rfl) (fun _ _ => ⟨by rfl, _, by rfl, ?_⟩)
              have hp := h.1
              replace h := h.2
              refine WL.callQ [(0, .sv (.one (.pptr 0 0 (Bk 0)))), (3, .sv (.one (.ptr 2 0))), (7, .sv (.one (.ptr 3 0))), (40, .sv (.one (I d.fLetters))), (41, .sv (.one (I x41))), (49, .sv (.one (.ptr 3 0))), (50, .sv (.one (.ptr 3 0))), (51, .sv (.one (.ptr 0 0))), (52, .sv (.one (.ptr 0 0))), (53, .sv (.agg [I p.fQ, I p.fLeft.fE0, I p.fLeft.fE1, I p.fLeft.fE2, I p.fLeft.fE3])), (54, .sv (.one (I x41))), (55, .sv (.agg [I (behR p x41).fQ, I (behR p x41).fLeft.fE0, I (behR p x41).fLeft.fE1, I (behR p x41).fLeft.fE2, I (behR p x41).fLeft.fE3]))] (ih m1 (behR p x41) hp) en9 (caps := []) [0, 1] hn (by rfl) rfl (by rfl) (argsAs (by kernel_rfl) (by rfl)) (by kernel_rfl) (by decide) (by kernel_rfl) (by rfl) (by rfl) (fun r_2 hr_2_2 => ⟨by rfl, _, by rfl, ?_⟩)
              replace h := h r_2 hr_2_2
              have hp := h.1
              replace h := h.2
              refine WL.callQ [(0, .sv (.one (.pptr 0 0 (Bk 0)))), (3, .sv (.one (.ptr 2 0))), (7, .sv (.one (.ptr 3 0))), (40, .sv (.one (I d.fLetters))), (41, .sv (.one (I x41))), (49, .sv (.one (.ptr 3 0))), (50, .sv (.one (.ptr 3 0))), (51, .sv (.one (.ptr 0 0))), (52, .sv (.one (.ptr 0 0))), (53, .sv (.agg [I p.fQ, I p.fLeft.fE0, I p.fLeft.fE1, I p.fLeft.fE2, I p.fLeft.fE3])), (54, .sv (.one (I x41))), (55, .sv (.agg [I (behR p x41).fQ, I (behR p x41).fLeft.fE0, I (behR p x41).fLeft.fE1, I (behR p x41).fLeft.fE2, I (behR p x41).fLeft.fE3])), (56, .sv (.one (.rd (optPe MathBigInt.ty (numR (wL ((behR p x41)).fLeft))))))] (bAdd_ct l4_2 (numR (wL ((behR p x41)).fLeft)) hp) en16 (caps := []) [3, 4] hn (by rfl) rfl (by rfl) (argsAs (by kernel_rfl) (by rfl)) (by kernel_rfl) (by decide) (by kernel_rfl) (by rfl) (by rfl) (fun r_3 hr_3 => ⟨by rfl, _, by rfl, ?_⟩)
              refine WL.nil ?_
              exact En.at (I := fun zz => J_2 zz.1 zz.2) (T := fun zz => ⟨[(0, .sv (.one (.pptr 0 0 (Bk 0)))), (3, .sv (.one (.ptr 2 0))), (7, .sv (.one (.ptr 3 0))), (40, .sv (.one (I d.fLetters))), (41, .sv (.one (I x41)))], [.box [I d.fLetters, I d.fStart, LS (lsT intT) d.fNext, LS intT d.fMark, .own 1] 37 false, mapI ParikhPlace.enc (optT MathBigInt.ty) zz.1, .box [I p.fQ, I p.fLeft.fE0, I p.fLeft.fE1, I p.fLeft.fE2, I p.fLeft.fE3] 40 false, .box [B false, .own 4] 54 false, rowI 68 (intKT .u64) zz.2]⟩) (r_2, [l4_2.sum + numS (numR (wL ((behR p x41)).fLeft))]) h (by kernel_rfl)
            · replace h := h.2 hb
              refine En.skip ?_
              exact En.at (I := fun zz => J_2 zz.1 zz.2) (T := fun zz => ⟨[(0, .sv (.one (.pptr 0 0 (Bk 0)))), (3, .sv (.one (.ptr 2 0))), (7, .sv (.one (.ptr 3 0))), (40, .sv (.one (I d.fLetters))), (41, .sv (.one (I x41)))], [.box [I d.fLetters, I d.fStart, LS (lsT intT) d.fNext, LS intT d.fMark, .own 1] 37 false, mapI ParikhPlace.enc (optT MathBigInt.ty) zz.1, .box [I p.fQ, I p.fLeft.fE0, I p.fLeft.fE1, I p.fLeft.fE2, I p.fLeft.fE3] 40 false, .box [B false, .own 4] 54 false, rowI 68 (intKT .u64) zz.2]⟩) (m1, l4_2) h (by kernel_rfl)
          · rintro ⟨m1_2, l4_3⟩ h
            replace h := hJ_2 _ _ h
            show En c ⟨[(0, .sv (.one (.pptr 0 0 (Bk 0)))), (3, .sv (.one (.ptr 2 0))), (7, .sv (.one (.ptr 3 0))), (40, .sv (.one (I d.fLetters))), (41, .sv (.one (I x41)))], [.box [I d.fLetters, I d.fStart, LS (lsT intT) d.fNext, LS intT d.fMark, .own 1] 37 false, mapI ParikhPlace.enc (optT MathBigInt.ty) m1_2, .box [I p.fQ, I p.fLeft.fE0, I p.fLeft.fE1, I p.fLeft.fE2, I p.fLeft.fE3] 40 false, .box [B false, .own 4] 54 false, rowI 68 (intKT .u64) l4_3]⟩ _
            refine En.region ?_
            refine WL.run ht hn 2 ⟨[(0, .sv (.one (.pptr 0 0 (Bk 0)))), (3, .sv (.one (.ptr 2 0))), (7, .sv (.one (.ptr 3 0))), (40, .sv (.one (I d.fLetters))), (41, .sv (.one (I (wr (x41 + 1)))))], [.box [I d.fLetters, I d.fStart, LS (lsT intT) d.fNext, LS intT d.fMark, .own 1] 37 false, mapI ParikhPlace.enc (optT MathBigInt.ty) m1_2, .box [I p.fQ, I p.fLeft.fE0, I p.fLeft.fE1, I p.fLeft.fE2, I p.fLeft.fE3] 40 false, .box [B false, .own 4] 54 false, rowI 68 (intKT .u64) l4_3]⟩ (by kernel_rfl) ?_
            refine WL.nil ?_
            exact En.at (I := fun zz => Inv zz.1 zz.2.1 zz.2.2 ∧ mu zz.1 zz.2.1 zz.2.2 < mu x41 m1 l4_2) (T := fun zz => ⟨[(0, .sv (.one (.pptr 0 0 (Bk 0)))), (3, .sv (.one (.ptr 2 0))), (7, .sv (.one (.ptr 3 0))), (40, .sv (.one (I d.fLetters))), (41, .sv (.one (I zz.1)))], [.box [I d.fLetters, I d.fStart, LS (lsT intT) d.fNext, LS intT d.fMark, .own 1] 37 false, mapI ParikhPlace.enc (optT MathBigInt.ty) zz.2.1, .box [I p.fQ, I p.fLeft.fE0, I p.fLeft.fE1, I p.fLeft.fE2, I p.fLeft.fE3] 40 false, .box [B false, .own 4] 54 false, rowI 68 (intKT .u64) zz.2.2]⟩) ((wr (x41 + 1)), m1_2, l4_3) h (by kernel_rfl)
        · replace h := h.2 hb
          refine En.exit rfl ?_
          refine En.seq ?_
          refine En.seal (T := (intKT .u64)) (l := l4_2) (e := 68) 4 rfl ?_
          refine En.freeze [3] (by rfl) ?_
          refine En.ghost 7 (.sv (.one (.pe (svR (.agg [B false, LS (intKT .u64) l4_2])) 2))) (by rfl) (pe_of (i := 3) (cells := [B false, LS (intKT .u64) l4_2]) (by rfl) (by rfl) (by rfl)) ?_
          refine En.ghost 7 (.sv (.one (.rd (optPe MathBigInt.ty (some (MathBigInt.mk false l4_2)))))) (by rfl) (op_of_pe (T := MathBigInt.ty) (x := (MathBigInt.mk false l4_2))) ?_
          refine En.regionA ⟨[(0, .sv (.one (.pptr 0 0 (Bk 0)))), (3, .sv (.one (.ptr 2 0))), (7, .sv (.one (.rd (optPe MathBigInt.ty (some (MathBigInt.mk false l4_2))))))], [.sv (.one (.ptr 0 0)), .sv (.one (.ptr 0 0)), .sv (.one (.ptr 0 4)), .sv (.one (.own 1)), .sv (.agg [I p.fQ, I p.fLeft.fE0, I p.fLeft.fE1, I p.fLeft.fE2, I p.fLeft.fE3]), .sv (.one (.rd (optPe MathBigInt.ty (some (MathBigInt.mk false l4_2))))), .tup []], [⟨.box [I d.fLetters, I d.fStart, LS (lsT intT) d.fNext, LS intT d.fMark, .own 1] 37 false, none, none, none⟩, ⟨mapI ParikhPlace.enc (optT MathBigInt.ty) m1, none, none, some (6, mapI ParikhPlace.enc (optT MathBigInt.ty) (mput p (some (MathBigInt.mk false l4_2)) m1))⟩, ⟨.box [I p.fQ, I p.fLeft.fE0, I p.fLeft.fE1, I p.fLeft.fE2, I p.fLeft.fE3] 40 false, none, none, none⟩, ⟨.gone, none, none, none⟩, ⟨.gone, none, none, none⟩]⟩ ⟨[(0, .sv (.one (.pptr 0 0 (Bk 0)))), (7, .sv (.one (.rd (optPe MathBigInt.ty (some (MathBigInt.mk false l4_2))))))], [.box [I d.fLetters, I d.fStart, LS (lsT intT) d.fNext, LS intT d.fMark, .own 1] 37 false, mapI ParikhPlace.enc (optT MathBigInt.ty) (mput p (some (MathBigInt.mk false l4_2)) m1), .gone, .gone, .gone]⟩ (by kernel_rfl) hn (by kernel_rfl) (by rfl) (by kernel_rfl) ?_ (by kernel_rfl) ?_
          · exact ⟨.mt ⟨[(0, .sv (.one (.pptr 0 0 (Bk 0))))], []⟩ [] none (by kernel_rfl) (by rfl) (mt_ev ht (by kernel_rfl)) rfl rfl rfl rfl,
    .mt ⟨[(59, .sv (.one (.ptr 0 0)))], []⟩ [] none (by kernel_rfl) (by rfl) (mt_ev ht (by kernel_rfl)) rfl rfl rfl rfl,
    .mt ⟨[(60, .sv (.one (.ptr 0 0)))], []⟩ [] none (by kernel_rfl) (by rfl) (mt_ev ht (by kernel_rfl)) rfl rfl rfl rfl,
    .mt ⟨[(61, .sv (.one (.ptr 0 4)))], [.box [I d.fLetters, I d.fStart, LS (lsT intT) d.fNext, LS intT d.fMark, .own 1] 37 false]⟩ [] none (by kernel_rfl) (by rfl) (mt_ev ht (by kernel_rfl)) rfl rfl rfl rfl,
    .mt ⟨[(3, .sv (.one (.ptr 2 0)))], [.gone, .gone, .box [I p.fQ, I p.fLeft.fE0, I p.fLeft.fE1, I p.fLeft.fE2, I p.fLeft.fE3] 40 false]⟩ [] none (by kernel_rfl) (by rfl) (mt_ev ht (by kernel_rfl)) rfl rfl rfl rfl,
    .mt ⟨[(7, .sv (.one (.rd (optPe MathBigInt.ty (some (MathBigInt.mk false l4_2))))))], []⟩ [] none (by kernel_rfl) (by rfl) (mt_ev ht (by kernel_rfl)) rfl rfl rfl rfl,
    .mu ⟨[(62, .sv (.one (.own 1))), (63, .sv (.agg [I p.fQ, I p.fLeft.fE0, I p.fLeft.fE1, I p.fLeft.fE2, I p.fLeft.fE3])), (64, .sv (.one (.rd (optPe MathBigInt.ty (some (MathBigInt.mk false l4_2))))))], [.gone, mapI ParikhPlace.enc (optT MathBigInt.ty) m1]⟩ 1 _ _ rfl rfl (by kernel_rfl) (by rfl) (mu_mapPut (T := (optT MathBigInt.ty)) ParikhPlace.keyLaw (k := p) (y := (some (MathBigInt.mk false l4_2))) (.inl rfl) Tryz.underlying35 (by rfl) (by rfl) (by rfl) (by rfl) (by rfl)) rfl rfl rfl rfl rfl rfl rfl,
    trivial⟩
          · refine En.seq ?_
            refine En.region ?_
            refine WL.run ht hn 2 ⟨[(0, .sv (.one (.pptr 0 0 (Bk 0)))), (4, .sv (.one (.rd (optPe MathBigInt.ty (some (MathBigInt.mk false l4_2))))))], [.box [I d.fLetters, I d.fStart, LS (lsT intT) d.fNext, LS intT d.fMark, .own 1] 37 false, mapI ParikhPlace.enc (optT MathBigInt.ty) (mput p (some (MathBigInt.mk false l4_2)) m1), .gone, .gone, .gone]⟩ (by kernel_rfl) ?_
            refine WL.nil ?_
            refine En.ret ?_
            exact En.backE [0] ht ((some (MathBigInt.mk false l4_2)), (mput p (some (MathBigInt.mk false l4_2)) m1)) h (by kernel_rfl) (by rfl) rfl
theorem MOk.put {K : (List (ParikhPlace × (Option MathBigInt)))} (h : MOk K) (p : ParikhPlace) : MOk (mput p (numR (wL p.fLeft)) K) := fun q o hq => by
  rw [mget_put] at hq
  split at hq
  · rename_i e
    subst e
    exact (Option.some.inj hq).symm
  · exact h q o hq
theorem pWay_ok {d : ApiDet} {K : (List (ParikhPlace × (Option MathBigInt)))} {p : ParikhPlace} {n : Nat} (hp : WayPre d K p (n + 1)) : pWay_vc d K p n (fun r => r.1 = numR (wL p.fLeft) ∧ MOk r.2) := by
  obtain ⟨⟨k, rfl, hk1, hk4, hpl⟩, hK, hf⟩ := hp
  have hs0 := hpl.sum0
  unfold pWay_vc
  refine ⟨fun h => ?_, fun _ => ⟨fun l => RowW p.fLeft 0 l, ⟨fun h => ?_, fun h => ?_⟩, ?_⟩⟩
  · obtain ⟨o, ho⟩ := Option.isSome_iff_exists.1 h
    rw [ho]
    exact ⟨hK _ _ ho, hK⟩
  · have h := of_decide_eq_true h
    refine ⟨1, by rw [hpl.q]; rfl, ⟨rfl, by decide, by decide⟩, .inl ⟨?_, rfl⟩⟩
    rw [h]
    rfl
  · have h := of_decide_eq_false h
    refine .inr ⟨?_, .inl ⟨rfl, rfl⟩⟩
    have hn := hpl.nn
    rcases Int.lt_or_eq_of_le hs0 with c | c
    · exact c
    · exfalso
      apply h
      unfold sumE at c
      have e0 : p.fLeft.fE0 = 0 := by omega
      have e1 : p.fLeft.fE1 = 0 := by omega
      have e2 : p.fLeft.fE2 = 0 := by omega
      have e3 : p.fLeft.fE3 = 0 := by omega
      exact (show p.fLeft = ⟨p.fLeft.fE0, p.fLeft.fE1, p.fLeft.fE2, p.fLeft.fE3⟩ from rfl).trans (by rw [e0, e1, e2, e3])
  intro l4 hl4
  refine ⟨fun x m l => ∃ j : Nat, x = j ∧ (j : Int) ≤ k ∧ MOk m ∧ RowW p.fLeft j l, fun x _ _ => (k - x).toNat, ⟨0, rfl, by omega, hK, hl4⟩, ?_⟩
  rintro x m l ⟨j, rfl, hj, hm, hl⟩
  refine ⟨fun hb => ?_, fun hb => ?_⟩
  · have hlt : (j : Int) < k := of_decide_eq_true hb
    refine ⟨fun m' l' => MOk m' ∧ RowW p.fLeft (j + 1) l', ⟨⟨by omega, by omega⟩, fun h => ?_, fun h => ?_⟩, ?_⟩
    · have h : 0 < arrG p.fLeft.l (j : Int) := of_decide_eq_true h
      obtain ⟨hl1, hl2⟩ := hpl.less hlt hk4 h
      have hpos := hl1.pos
      have hsm := hl1.small
      have hpt := wPart_le hpl hk4 j hj
      have hsum : 0 < sumE p.fLeft := by have := hl1.sum0; simp only at this; omega
      have hle : arrG p.fLeft.l (j : Int) ≤ 12 := by
        have h1 := hpl.nn
        have h3 := hpl.sum
        unfold sumE at h3
        rcases four (show j < 4 by omega) with rfl | rfl | rfl | rfl
        · rw [show arrG p.fLeft.l ((0 : Nat) : Int) = p.fLeft.fE0 from arr0 _]; omega
        · rw [show arrG p.fLeft.l ((1 : Nat) : Int) = p.fLeft.fE1 from arr1 _]; omega
        · rw [show arrG p.fLeft.l ((2 : Nat) : Int) = p.fLeft.fE2 from arr2 _]; omega
        · rw [show arrG p.fLeft.l ((3 : Nat) : Int) = p.fLeft.fE3 from arr3 _]; omega
      have hP : wPart p.fLeft (j + 1) = wPart p.fLeft j + wL (lessE p.fLeft (j : Int)) := by rw [wPart, if_pos h]
      refine ⟨⟨k, rfl, hk4, hpl.q, by omega, hlt, h, by omega⟩, ⟨⟨k, rfl, hk1, hk4, hl1⟩, hm, by show sumE (lessE p.fLeft (j : Int)) < n; omega⟩, fun m2 hm2 => ⟨⟨wL (lessE p.fLeft (j : Int)), rfl, ⟨_, rfl, hpos, ?_, ?_⟩⟩, hm2, ?_⟩⟩
      · rcases hl with ⟨e, _⟩ | ⟨_, ⟨_, rfl⟩ | ⟨_, rfl⟩⟩
        · omega
        · simp only [List.sum_nil]
          simp only at hsm
          omega
        · simp only [List.sum_cons, List.sum_nil]
          simp only at hsm
          omega
      · rcases hl with ⟨e, _⟩ | ⟨_, ⟨_, rfl⟩ | ⟨h0, rfl⟩⟩
        · omega
        · exact .inl rfl
        · exact .inr ⟨_, rfl, by omega⟩
      · refine .inr ⟨hsum, .inr ⟨by rw [hP]; simp only at hpos; omega, ?_⟩⟩
        rw [numS_R, hP]
        rcases hl with ⟨e, _⟩ | ⟨_, ⟨e, rfl⟩ | ⟨_, rfl⟩⟩
        · omega
        · rw [e]
          simp [behR]
        · simp [behR]
    · have h : ¬ 0 < arrG p.fLeft.l (j : Int) := of_decide_eq_false h
      refine ⟨hm, ?_⟩
      have hP : wPart p.fLeft (j + 1) = wPart p.fLeft j := by rw [wPart, if_neg h, Int.add_zero]
      unfold RowW at hl ⊢
      rw [hP]
      exact hl
    · rintro m' l' ⟨h1, h2⟩
      rw [wsucc (by omega)]
      refine ⟨⟨j + 1, rfl, by omega, h1, h2⟩, ?_⟩
      show (k - ((j + 1 : Nat) : Int)).toNat < (k - (j : Int)).toNat
      omega
  · have hge : ¬ (j : Int) < k := of_decide_eq_false hb
    obtain rfl : k = (j : Int) := by omega
    have hall : (some (MathBigInt.mk false l) : Option MathBigInt) = numR (wL p.fLeft) := by
      rcases hl with ⟨e, rfl⟩ | ⟨h0, h⟩
      · unfold numR wL
        rw [e]
        rfl
      · have e1 := wPart_all hpl h0
        have e2 := wPart_far hpl (by omega) (by omega)
        have e3 := hpl.pos
        rcases h with ⟨e, _⟩ | ⟨_, rfl⟩
        · omega
        · rw [e2, e1]
          rfl
    rw [hall]
    exact ⟨rfl, hm.put p⟩
theorem wayAll (d : ApiDet) : ∀ n, WayC d n
  | 0 => fun _ p h => by
    obtain ⟨_, _, _, _, hpl⟩ := h.one
    have := hpl.sum0
    have := h.fuel
    omega
  | n + 1 => fun K p h => (pWay_walk d K p n (wayAll d n) _ (pWay_ok h)).imp fun r hr => ⟨r.2, hr.2, by rw [← hr.1], rfl⟩
theorem pWay_ct (d : ApiDet) (K : List (ParikhPlace × (Option MathBigInt))) (p : ParikhPlace) (hp : WayPre d K p 13) : CtE 9 [.sv (.one (.ptr 0 0)), .sv (.agg [I p.fQ, I p.fLeft.fE0, I p.fLeft.fE1, I p.fLeft.fE2, I p.fLeft.fE3])] [.box [I d.fLetters, I d.fStart, LS (lsT intT) d.fNext, LS intT d.fMark, .own 1] 37 false, mapI ParikhPlace.enc (optT MathBigInt.ty) K] [0] (MOk) (fun (r : List (ParikhPlace × (Option MathBigInt))) => .sv (.one (.rd (optPe MathBigInt.ty (numR (wL p.fLeft)))))) (fun (r : List (ParikhPlace × (Option MathBigInt))) => [.box [I d.fLetters, I d.fStart, LS (lsT intT) d.fNext, LS intT d.fMark, .own 1] 37 false, mapI ParikhPlace.enc (optT MathBigInt.ty) r]) := wayAll d 13 K p hp
end Go.Proofs.YtijgcihlodofdaaGreatDoor
