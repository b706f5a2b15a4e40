/- Lemmas towards the statement: mirrors of functions, and plain laws. No condition. -/
import Derived.Test.YtiinkohfldopbaaPackTwoOne4

/- Contracts of package two. No condition. -/
namespace Go.Proofs.Ytiinkohfldopbaa
open Go.RowKit Go.MapKept
set_option linter.unusedSimpArgs false
set_option linter.unusedVariables false
set_option maxRecDepth 100000

def indexLT46_vc (l : (List (List St46))) (dom : ((List St46) → Prop)) (φ : ((List St46) → Bool)) (Q : Int → Prop) : Prop :=
  l.length ≤ 9223372036854775807 →
  (∃ (Inv : Int → Prop) (mu : Int → Nat), Inv 0 ∧
  ∀ (x8 : Int) , Inv x8 → (IfP (decide (x8 < (l.length : Int))) (∃ e, idx l x8 = some e ∧
  (dom e) ∧
  IfP (φ e) (Q x8) ((Inv (wr (x8 + 1)) ∧ mu (wr (x8 + 1)) < mu x8))) (Q (-1))))
theorem indexLT46_walk (l : (List (List St46))) (dom : ((List St46) → Prop)) (φ : ((List St46) → Bool)) (Q : Int → Prop) (h : indexLT46_vc l dom φ Q) : Ct 191 [.sv (.one (LS (lsT St46.ty) l)), .sv (.one (.rd (fvR (fun x => [.sv (.one (LS St46.ty x))]) (fun b => .sv (.one (B b))) dom φ)))] [] Q (fun (r : Int) => .sv (.one (I r))) := by
  have ht := tab_ok
  refine Ct.body Try.func191 rfl rfl rfl rfl (fun c hn => ?_)
  unfold indexLT46_vc at h
  refine En.lenL 0 (by rfl) (fun hl => ?_)
  replace h := h hl
  clear hl
  refine En.seq ?_
  refine En.region ?_
  refine WL.run ht hn 1 ⟨[(0, .sv (.one (LS (lsT St46.ty) l))), (1, .sv (.one (.rd (fvR (fun x => [.sv (.one (LS St46.ty x))]) (fun b => .sv (.one (B b))) dom φ))))], []⟩ (by kernel_rfl) ?_
  refine WL.nil ?_
  refine En.seq ?_
  refine En.seq ?_
  refine En.region ?_
  refine WL.run ht hn 3 ⟨[(0, .sv (.one (LS (lsT St46.ty) l))), (1, .sv (.one (.rd (fvR (fun x => [.sv (.one (LS St46.ty x))]) (fun b => .sv (.one (B b))) dom φ)))), (7, .sv (.one (I (l.length : Int)))), (8, .sv (.one (I 0)))], []⟩ (by kernel_rfl) ?_
  refine WL.nil ?_
  refine En.block ?_
  obtain ⟨Inv, mu, h0, hI⟩ := h
  refine En.loop (σ := Int) (fun zz => Inv zz) (fun zz => mu zz) (fun zz => ⟨[(0, .sv (.one (LS (lsT St46.ty) l))), (1, .sv (.one (.rd (fvR (fun x => [.sv (.one (LS St46.ty x))]) (fun b => .sv (.one (B b))) dom φ)))), (7, .sv (.one (I (l.length : Int)))), (8, .sv (.one (I zz)))], []⟩) 0 h0 (sub_ok (by kernel_rfl)) ?_
  intro x8 h
  replace h := hI _ h
  show En c ⟨[(0, .sv (.one (LS (lsT St46.ty) l))), (1, .sv (.one (.rd (fvR (fun x => [.sv (.one (LS St46.ty x))]) (fun b => .sv (.one (B b))) dom φ)))), (7, .sv (.one (I (l.length : Int)))), (8, .sv (.one (I x8)))], []⟩ _
  refine En.seq ?_
  refine En.region ?_
  refine WL.run ht hn 1 ⟨[(0, .sv (.one (LS (lsT St46.ty) l))), (1, .sv (.one (.rd (fvR (fun x => [.sv (.one (LS St46.ty x))]) (fun b => .sv (.one (B b))) dom φ)))), (7, .sv (.one (I (l.length : Int)))), (8, .sv (.one (I x8))), (9, .sv (.one (B (decide (x8 < (l.length : Int))))))], []⟩ (by kernel_rfl) ?_
  refine WL.nil ?_
  refine En.seq ?_
  refine En.cond (b := (decide (x8 < (l.length : Int)))) (by kernel_rfl) (fun hb => ?_) (fun hb => ?_)
  · replace h := h.1 hb
    refine En.skip ?_
    refine En.seq ?_
    refine En.block ?_
    refine En.seq ?_
    refine En.region ?_
    refine WL.run ht hn 2 ⟨[(0, .sv (.one (LS (lsT St46.ty) l))), (1, .sv (.one (.rd (fvR (fun x => [.sv (.one (LS St46.ty x))]) (fun b => .sv (.one (B b))) dom φ)))), (5, .sv (.one (I x8))), (7, .sv (.one (I (l.length : Int)))), (8, .sv (.one (I x8)))], []⟩ (by kernel_rfl) ?_
    refine WL.nil ?_
    refine En.seq ?_
    refine En.region ?_
    refine WL.run ht hn 3 ⟨[(0, .sv (.one (LS (lsT St46.ty) l))), (1, .sv (.one (.rd (fvR (fun x => [.sv (.one (LS St46.ty x))]) (fun b => .sv (.one (B b))) dom φ)))), (5, .sv (.one (I x8))), (7, .sv (.one (I (l.length : Int)))), (8, .sv (.one (I x8))), (11, .sv (.one (.rd (fvR (fun x => [.sv (.one (LS St46.ty x))]) (fun b => .sv (.one (B b))) dom φ)))), (12, .sv (.one (LS (lsT St46.ty) l))), (13, .sv (.one (I x8)))], []⟩ (by kernel_rfl) ?_
    obtain ⟨e, he, h⟩ := h
    refine WL.val hn (by rfl) (val_index (T := (lsT St46.ty)) (l := l) (i := x8) ht rfl (by rfl) (by rfl) (by rfl) (by rfl) (by rfl) (by rfl) he) (by rfl) ?_
    refine WL.val hn (by rfl) (val_load (s := .one (LS St46.ty e)) ht rfl (by rfl) (by rfl) (by rfl) (by rfl) (by rfl)) (by rfl) ?_
    have hp := h.1
    replace h := h.2
    refine WL.mt0 (K := []) (p := none) hn (by rfl) (mt_callv e hp rfl (by rfl) (by rfl) (by rfl) (by rfl)) (by rfl) (by rfl) (by rfl) ?_
    refine WL.nil ?_
    refine En.cond (b := (φ e)) (by kernel_rfl) (fun hb => ?_) (fun hb => ?_)
    · replace h := h.1 hb
      refine En.seq ?_
      refine En.region ?_
      refine WL.run ht hn 2 ⟨[(4, .sv (.one (I x8)))], []⟩ (by kernel_rfl) ?_
      refine WL.nil ?_
      refine En.ret ?_
      exact En.back ht x8 h (by kernel_rfl) rfl
    · replace h := h.2 hb
      refine En.skip ?_
      refine En.region ?_
      refine WL.run ht hn 2 ⟨[(0, .sv (.one (LS (lsT St46.ty) l))), (1, .sv (.one (.rd (fvR (fun x => [.sv (.one (LS St46.ty x))]) (fun b => .sv (.one (B b))) dom φ)))), (7, .sv (.one (I (l.length : Int)))), (8, .sv (.one (I (wr (x8 + 1)))))], []⟩ (by kernel_rfl) ?_
      refine WL.nil ?_
      exact En.at (I := fun zz => Inv zz ∧ mu zz < mu x8) (T := fun zz => ⟨[(0, .sv (.one (LS (lsT St46.ty) l))), (1, .sv (.one (.rd (fvR (fun x => [.sv (.one (LS St46.ty x))]) (fun b => .sv (.one (B b))) dom φ)))), (7, .sv (.one (I (l.length : Int)))), (8, .sv (.one (I zz)))], []⟩) (wr (x8 + 1)) h (by kernel_rfl)
  · replace h := h.2 hb
    refine En.exit rfl ?_
    refine En.seq ?_
    refine En.region ?_
    refine WL.run ht hn 1 ⟨[(4, .sv (.one (I (-1))))], []⟩ (by kernel_rfl) ?_
    refine WL.nil ?_
    refine En.ret ?_
    exact En.back ht (-1) h (by kernel_rfl) rfl
theorem en191 : ∀ args w, (callFunc 191 args).run Try.prog w = .ok (.enter 191 args) w := enters_of Try.func191 (by kernel_rfl) rfl
theorem indexLT46_ct (l : List (List St46)) (dom : (List St46) → Prop) (φ : (List St46) → Bool) (hd : ∀ x ∈ l, dom x) : Ct 191 [.sv (.one (LS (lsT St46.ty) l)), .sv (.one (.rd (fvR (fun x => [.sv (.one (LS St46.ty x))]) (fun b => .sv (.one (B b))) dom φ)))] [] (fun (_ : Unit) => True) (fun _ => .sv (.one (I (idxTo φ l)))) := by
  refine (indexLT46_walk l dom φ (fun r => r = idxTo φ l) ?_).fun
  unfold indexLT46_vc
  exact index_plain l dom φ hd
def anyLT46_vc (l : (List (List St46))) (dom : ((List St46) → Prop)) (φ : ((List St46) → Bool)) (Q : Bool → Prop) : Prop :=
  l.length ≤ 9223372036854775807 →
  ((∀ x_ ∈ l, dom x_) ∧
  Q (decide ((idxTo φ l) ≥ 0)))
theorem anyLT46_walk (l : (List (List St46))) (dom : ((List St46) → Prop)) (φ : ((List St46) → Bool)) (Q : Bool → Prop) (h : anyLT46_vc l dom φ Q) : Ct 130 [.sv (.one (LS (lsT St46.ty) l)), .sv (.one (.rd (fvR (fun x => [.sv (.one (LS St46.ty x))]) (fun b => .sv (.one (B b))) dom φ)))] [] Q (fun (r : Bool) => .sv (.one (B r))) := by
  have ht := tab_ok
  refine Ct.body Try.func130 rfl rfl rfl rfl (fun c hn => ?_)
  unfold anyLT46_vc at h
  refine En.lenL 0 (by rfl) (fun hl => ?_)
  replace h := h hl
  clear hl
  refine En.seq ?_
  refine En.region ?_
  refine WL.run ht hn 1 ⟨[(0, .sv (.one (LS (lsT St46.ty) l))), (1, .sv (.one (.rd (fvR (fun x => [.sv (.one (LS St46.ty x))]) (fun b => .sv (.one (B b))) dom φ))))], []⟩ (by kernel_rfl) ?_
  refine WL.nil ?_
  refine En.seq ?_
  refine En.region ?_
  refine WL.run ht hn 2 ⟨[(5, .sv (.one (LS (lsT St46.ty) l))), (6, .sv (.one (.rd (fvR (fun x => [.sv (.one (LS St46.ty x))]) (fun b => .sv (.one (B b))) dom φ))))], []⟩ (by kernel_rfl) ?_
  have hp := h.1
  replace h := h.2
  refine WL.mt0 (K := []) (p := none) hn (by rfl) (mt_call (indexLT46_ct l dom φ hp) en191 (caps := []) [] rfl (by rfl) (by kernel_rfl) (by kernel_rfl) (by rfl) (by rfl) (by rfl)) (by rfl) (by rfl) (by rfl) ?_
  refine WL.run ht hn 2 ⟨[(4, .sv (.one (B (decide ((idxTo φ l) ≥ 0)))))], []⟩ (by kernel_rfl) ?_
  refine WL.nil ?_
  refine En.ret ?_
  exact En.back ht (decide ((idxTo φ l) ≥ 0)) h (by kernel_rfl) rfl
theorem en130 : ∀ args w, (callFunc 130 args).run Try.prog w = .ok (.enter 130 args) w := enters_of Try.func130 (by kernel_rfl) rfl
theorem anyLT46_ct (l : List (List St46)) (dom : (List St46) → Prop) (φ : (List St46) → Bool) (hd : ∀ x ∈ l, dom x) : Ct 130 [.sv (.one (LS (lsT St46.ty) l)), .sv (.one (.rd (fvR (fun x => [.sv (.one (LS St46.ty x))]) (fun b => .sv (.one (B b))) dom φ)))] [] (fun (_ : Unit) => True) (fun _ => .sv (.one (B (l.any φ)))) := by
  refine (anyLT46_walk l dom φ (fun r => r = l.any φ) ?_).fun
  unfold anyLT46_vc
  exact fun _ => ⟨hd, by rw [← idxTo_nonneg φ l]⟩
def indexT46_vc (l : (List St46)) (dom : (St46 → Prop)) (φ : (St46 → Bool)) (Q : Int → Prop) : Prop :=
  l.length ≤ 9223372036854775807 →
  (∃ (Inv : Int → Prop) (mu : Int → Nat), Inv 0 ∧
  ∀ (x8 : Int) , Inv x8 → (IfP (decide (x8 < (l.length : Int))) (∃ e, idx l x8 = some e ∧
  (dom e) ∧
  IfP (φ e) (Q x8) ((Inv (wr (x8 + 1)) ∧ mu (wr (x8 + 1)) < mu x8))) (Q (-1))))
theorem indexT46_walk (l : (List St46)) (dom : (St46 → Prop)) (φ : (St46 → Bool)) (Q : Int → Prop) (h : indexT46_vc l dom φ Q) : Ct 192 [.sv (.one (LS St46.ty l)), .sv (.one (.rd (fvR (fun x => [.sv (.agg [I x.fE0, I x.fE1])]) (fun b => .sv (.one (B b))) dom φ)))] [] Q (fun (r : Int) => .sv (.one (I r))) := by
  have ht := tab_ok
  refine Ct.body Try.func192 rfl rfl rfl rfl (fun c hn => ?_)
  unfold indexT46_vc at h
  refine En.lenL 0 (by rfl) (fun hl => ?_)
  replace h := h hl
  clear hl
  refine En.seq ?_
  refine En.region ?_
  refine WL.run ht hn 1 ⟨[(0, .sv (.one (LS St46.ty l))), (1, .sv (.one (.rd (fvR (fun x => [.sv (.agg [I x.fE0, I x.fE1])]) (fun b => .sv (.one (B b))) dom φ))))], []⟩ (by kernel_rfl) ?_
  refine WL.nil ?_
  refine En.seq ?_
  refine En.seq ?_
  refine En.region ?_
  refine WL.run ht hn 3 ⟨[(0, .sv (.one (LS St46.ty l))), (1, .sv (.one (.rd (fvR (fun x => [.sv (.agg [I x.fE0, I x.fE1])]) (fun b => .sv (.one (B b))) dom φ)))), (7, .sv (.one (I (l.length : Int)))), (8, .sv (.one (I 0)))], []⟩ (by kernel_rfl) ?_
  refine WL.nil ?_
  refine En.block ?_
  obtain ⟨Inv, mu, h0, hI⟩ := h
  refine En.loop (σ := Int) (fun zz => Inv zz) (fun zz => mu zz) (fun zz => ⟨[(0, .sv (.one (LS St46.ty l))), (1, .sv (.one (.rd (fvR (fun x => [.sv (.agg [I x.fE0, I x.fE1])]) (fun b => .sv (.one (B b))) dom φ)))), (7, .sv (.one (I (l.length : Int)))), (8, .sv (.one (I zz)))], []⟩) 0 h0 (sub_ok (by kernel_rfl)) ?_
  intro x8 h
  replace h := hI _ h
  show En c ⟨[(0, .sv (.one (LS St46.ty l))), (1, .sv (.one (.rd (fvR (fun x => [.sv (.agg [I x.fE0, I x.fE1])]) (fun b => .sv (.one (B b))) dom φ)))), (7, .sv (.one (I (l.length : Int)))), (8, .sv (.one (I x8)))], []⟩ _
  refine En.seq ?_
  refine En.region ?_
  refine WL.run ht hn 1 ⟨[(0, .sv (.one (LS St46.ty l))), (1, .sv (.one (.rd (fvR (fun x => [.sv (.agg [I x.fE0, I x.fE1])]) (fun b => .sv (.one (B b))) dom φ)))), (7, .sv (.one (I (l.length : Int)))), (8, .sv (.one (I x8))), (9, .sv (.one (B (decide (x8 < (l.length : Int))))))], []⟩ (by kernel_rfl) ?_
  refine WL.nil ?_
  refine En.seq ?_
  refine En.cond (b := (decide (x8 < (l.length : Int)))) (by kernel_rfl) (fun hb => ?_) (fun hb => ?_)
  · replace h := h.1 hb
    refine En.skip ?_
    refine En.seq ?_
    refine En.block ?_
    refine En.seq ?_
    refine En.region ?_
    refine WL.run ht hn 2 ⟨[(0, .sv (.one (LS St46.ty l))), (1, .sv (.one (.rd (fvR (fun x => [.sv (.agg [I x.fE0, I x.fE1])]) (fun b => .sv (.one (B b))) dom φ)))), (5, .sv (.one (I x8))), (7, .sv (.one (I (l.length : Int)))), (8, .sv (.one (I x8)))], []⟩ (by kernel_rfl) ?_
    refine WL.nil ?_
    refine En.seq ?_
    refine En.region ?_
    refine WL.run ht hn 3 ⟨[(0, .sv (.one (LS St46.ty l))), (1, .sv (.one (.rd (fvR (fun x => [.sv (.agg [I x.fE0, I x.fE1])]) (fun b => .sv (.one (B b))) dom φ)))), (5, .sv (.one (I x8))), (7, .sv (.one (I (l.length : Int)))), (8, .sv (.one (I x8))), (11, .sv (.one (.rd (fvR (fun x => [.sv (.agg [I x.fE0, I x.fE1])]) (fun b => .sv (.one (B b))) dom φ)))), (12, .sv (.one (LS St46.ty l))), (13, .sv (.one (I x8)))], []⟩ (by kernel_rfl) ?_
    obtain ⟨e, he, h⟩ := h
    refine WL.val hn (by rfl) (val_index (T := St46.ty) (l := l) (i := x8) ht rfl (by rfl) (by rfl) (by rfl) (by rfl) (by rfl) (by rfl) he) (by rfl) ?_
    refine WL.val hn (by rfl) (val_load (s := .agg [I e.fE0, I e.fE1]) ht rfl (by rfl) (by rfl) (by rfl) (by rfl) (by rfl)) (by rfl) ?_
    have hp := h.1
    replace h := h.2
    refine WL.mt0 (K := []) (p := none) hn (by rfl) (mt_callv e hp rfl (by rfl) (by rfl) (by rfl) (by rfl)) (by rfl) (by rfl) (by rfl) ?_
    refine WL.nil ?_
    refine En.cond (b := (φ e)) (by kernel_rfl) (fun hb => ?_) (fun hb => ?_)
    · replace h := h.1 hb
      refine En.seq ?_
      refine En.region ?_
      refine WL.run ht hn 2 ⟨[(4, .sv (.one (I x8)))], []⟩ (by kernel_rfl) ?_
      refine WL.nil ?_
      refine En.ret ?_
      exact En.back ht x8 h (by kernel_rfl) rfl
    · replace h := h.2 hb
      refine En.skip ?_
      refine En.region ?_
      refine WL.run ht hn 2 ⟨[(0, .sv (.one (LS St46.ty l))), (1, .sv (.one (.rd (fvR (fun x => [.sv (.agg [I x.fE0, I x.fE1])]) (fun b => .sv (.one (B b))) dom φ)))), (7, .sv (.one (I (l.length : Int)))), (8, .sv (.one (I (wr (x8 + 1)))))], []⟩ (by kernel_rfl) ?_
      refine WL.nil ?_
      exact En.at (I := fun zz => Inv zz ∧ mu zz < mu x8) (T := fun zz => ⟨[(0, .sv (.one (LS St46.ty l))), (1, .sv (.one (.rd (fvR (fun x => [.sv (.agg [I x.fE0, I x.fE1])]) (fun b => .sv (.one (B b))) dom φ)))), (7, .sv (.one (I (l.length : Int)))), (8, .sv (.one (I zz)))], []⟩) (wr (x8 + 1)) h (by kernel_rfl)
  · replace h := h.2 hb
    refine En.exit rfl ?_
    refine En.seq ?_
    refine En.region ?_
    refine WL.run ht hn 1 ⟨[(4, .sv (.one (I (-1))))], []⟩ (by kernel_rfl) ?_
    refine WL.nil ?_
    refine En.ret ?_
    exact En.back ht (-1) h (by kernel_rfl) rfl
theorem en192 : ∀ args w, (callFunc 192 args).run Try.prog w = .ok (.enter 192 args) w := enters_of Try.func192 (by kernel_rfl) rfl
theorem indexT46_ct (l : List St46) (dom : St46 → Prop) (φ : St46 → Bool) (hd : ∀ x ∈ l, dom x) : Ct 192 [.sv (.one (LS St46.ty l)), .sv (.one (.rd (fvR (fun x => [.sv (.agg [I x.fE0, I x.fE1])]) (fun b => .sv (.one (B b))) dom φ)))] [] (fun (_ : Unit) => True) (fun _ => .sv (.one (I (idxTo φ l)))) := by
  refine (indexT46_walk l dom φ (fun r => r = idxTo φ l) ?_).fun
  unfold indexT46_vc
  exact index_plain l dom φ hd
def anyT46_vc (l : (List St46)) (dom : (St46 → Prop)) (φ : (St46 → Bool)) (Q : Bool → Prop) : Prop :=
  l.length ≤ 9223372036854775807 →
  ((∀ x_ ∈ l, dom x_) ∧
  Q (decide ((idxTo φ l) ≥ 0)))
theorem anyT46_walk (l : (List St46)) (dom : (St46 → Prop)) (φ : (St46 → Bool)) (Q : Bool → Prop) (h : anyT46_vc l dom φ Q) : Ct 134 [.sv (.one (LS St46.ty l)), .sv (.one (.rd (fvR (fun x => [.sv (.agg [I x.fE0, I x.fE1])]) (fun b => .sv (.one (B b))) dom φ)))] [] Q (fun (r : Bool) => .sv (.one (B r))) := by
  have ht := tab_ok
  refine Ct.body Try.func134 rfl rfl rfl rfl (fun c hn => ?_)
  unfold anyT46_vc at h
  refine En.lenL 0 (by rfl) (fun hl => ?_)
  replace h := h hl
  clear hl
  refine En.seq ?_
  refine En.region ?_
  refine WL.run ht hn 1 ⟨[(0, .sv (.one (LS St46.ty l))), (1, .sv (.one (.rd (fvR (fun x => [.sv (.agg [I x.fE0, I x.fE1])]) (fun b => .sv (.one (B b))) dom φ))))], []⟩ (by kernel_rfl) ?_
  refine WL.nil ?_
  refine En.seq ?_
  refine En.region ?_
  refine WL.run ht hn 2 ⟨[(5, .sv (.one (LS St46.ty l))), (6, .sv (.one (.rd (fvR (fun x => [.sv (.agg [I x.fE0, I x.fE1])]) (fun b => .sv (.one (B b))) dom φ))))], []⟩ (by kernel_rfl) ?_
  have hp := h.1
  replace h := h.2
  refine WL.mt0 (K := []) (p := none) hn (by rfl) (mt_call (indexT46_ct l dom φ hp) en192 (caps := []) [] rfl (by rfl) (by kernel_rfl) (by kernel_rfl) (by rfl) (by rfl) (by rfl)) (by rfl) (by rfl) (by rfl) ?_
  refine WL.run ht hn 2 ⟨[(4, .sv (.one (B (decide ((idxTo φ l) ≥ 0)))))], []⟩ (by kernel_rfl) ?_
  refine WL.nil ?_
  refine En.ret ?_
  exact En.back ht (decide ((idxTo φ l) ≥ 0)) h (by kernel_rfl) rfl
theorem en134 : ∀ args w, (callFunc 134 args).run Try.prog w = .ok (.enter 134 args) w := enters_of Try.func134 (by kernel_rfl) rfl
theorem anyT46_ct (l : List St46) (dom : St46 → Prop) (φ : St46 → Bool) (hd : ∀ x ∈ l, dom x) : Ct 134 [.sv (.one (LS St46.ty l)), .sv (.one (.rd (fvR (fun x => [.sv (.agg [I x.fE0, I x.fE1])]) (fun b => .sv (.one (B b))) dom φ)))] [] (fun (_ : Unit) => True) (fun _ => .sv (.one (B (l.any φ)))) := by
  refine (anyT46_walk l dom φ (fun r => r = l.any φ) ?_).fun
  unfold anyT46_vc
  exact fun _ => ⟨hd, by rw [← idxTo_nonneg φ l]⟩
def twNo (n : Int) (x : St46) : Bool := altNo n x.fE0 || ((x.fE1 != 1) && (x.fE1 != -1))
def twErr (t : ApiTwoWay) : Int :=
  if (decide (t.fLetters < 1)) || (decide (t.fLetters > 4)) then 2 else
  if (decide ((t.fNext.length : Int) < 1)) || (decide ((t.fNext.length : Int) > 4)) then 1 else
  if ((t.fMark.length : Int) != (t.fNext.length : Int)) || t.fNext.any (fun r => (r.length : Int) != wr (t.fLetters + 2)) then 3 else
  if altNo (t.fNext.length : Int) t.fStart || (t.fNext.any (fun r => r.any (twNo (t.fNext.length : Int))) || t.fMark.any (fun m => (m != 0) && (m != 1))) then 2 else 0
structure TwOk (t : ApiTwoWay) : Prop where
  letters : 1 ≤ t.fLetters ∧ t.fLetters ≤ 4
  size : 1 ≤ t.fNext.length ∧ t.fNext.length ≤ 4
  marks : t.fMark.length = t.fNext.length
  rows : ∀ r ∈ t.fNext, (r.length : Int) = t.fLetters + 2
  start : 0 ≤ t.fStart ∧ t.fStart < (t.fNext.length : Int)
  in_ : ∀ r ∈ t.fNext, ∀ x ∈ r, (0 ≤ x.fE0 ∧ x.fE0 < (t.fNext.length : Int)) ∧ (x.fE1 = 1 ∨ x.fE1 = -1)
  mark : ∀ m ∈ t.fMark, m = 0 ∨ m = 1
theorem twErr_ok {t : ApiTwoWay} (h : twErr t = 0) : TwOk t := by
  unfold twErr at h
  by_cases h1 : ((decide (t.fLetters < 1)) || (decide (t.fLetters > 4))) = true
  · rw [if_pos h1] at h; cases h
  rw [if_neg h1] at h
  by_cases h2 : ((decide ((t.fNext.length : Int) < 1)) || (decide ((t.fNext.length : Int) > 4))) = true
  · rw [if_pos h2] at h; cases h
  rw [if_neg h2] at h
  by_cases h3 : (((t.fMark.length : Int) != (t.fNext.length : Int)) || t.fNext.any (fun r => (r.length : Int) != wr (t.fLetters + 2))) = true
  · rw [if_pos h3] at h; cases h
  rw [if_neg h3] at h
  by_cases h4 : (altNo (t.fNext.length : Int) t.fStart || (t.fNext.any (fun r => r.any (twNo (t.fNext.length : Int))) || t.fMark.any (fun m => (m != 0) && (m != 1)))) = true
  · rw [if_pos h4] at h; cases h
  simp only [Bool.not_eq_true, Bool.or_eq_false_iff, decide_eq_false_iff_not, List.any_eq_false, altNo_iff, bne_eq_false_iff_eq, Bool.and_eq_false_iff, Bool.not_eq_false, bne_iff_ne, ne_eq, Decidable.not_not, twNo] at h1 h2 h3 h4
  have hw : wr (t.fLetters + 2) = t.fLetters + 2 := wr_in (by omega) (by omega)
  exact ⟨by omega, by omega, by omega, fun r hr => by rw [h3.2 r hr, hw], h4.1, fun r hr x hx => h4.2.1 r hr x hx, fun m hm => h4.2.2 m hm⟩
def twoC1_vc (r : (List St46)) (t : ApiTwoWay) (Q : Bool → Prop) : Prop :=
  r.length ≤ 9223372036854775807 →
  (Q ((r.length : Int) != (wr (t.fLetters + 2))))
theorem twoC1_walk (r : (List St46)) (t : ApiTwoWay) (Q : Bool → Prop) (h : twoC1_vc r t Q) : Ct 131 [.sv (.one (LS St46.ty r)), .sv (.one (.ptr 0 0))] [.box [I t.fLetters, I t.fStart, LS (lsT St46.ty) t.fNext, LS intT t.fMark] 45 true] Q (fun (r : Bool) => .sv (.one (B r))) := by
  have ht := tab_ok
  refine Ct.body Try.func131 rfl rfl rfl rfl (fun c hn => ?_)
  unfold twoC1_vc at h
  refine En.lenL 0 (by rfl) (fun hl => ?_)
  replace h := h hl
  clear hl
  refine En.seq ?_
  refine En.region ?_
  refine WL.run ht hn 1 ⟨[(0, .sv (.one (LS St46.ty r))), (1, .sv (.one (.ptr 0 0)))], [.box [I t.fLetters, I t.fStart, LS (lsT St46.ty) t.fNext, LS intT t.fMark] 45 true]⟩ (by kernel_rfl) ?_
  refine WL.nil ?_
  refine En.seq ?_
  refine En.region ?_
  refine WL.run ht hn 7 ⟨[(3, .sv (.one (B ((r.length : Int) != (wr (t.fLetters + 2))))))], [.gone]⟩ (by kernel_rfl) ?_
  refine WL.nil ?_
  refine En.ret ?_
  exact En.back ht ((r.length : Int) != (wr (t.fLetters + 2))) h (by kernel_rfl) rfl
theorem en131 : ∀ args w, (callFunc 131 args).run Try.prog w = .ok (.enter 131 args) w := enters_of Try.func131 (by kernel_rfl) rfl
def twoC2_vc (q : Int) (n : Int) (Q : Bool → Prop) : Prop :=
  Q ((decide (q < 0)) || (decide (q ≥ n)))
theorem twoC2_walk (q : Int) (n : Int) (Q : Bool → Prop) (h : twoC2_vc q n Q) : Ct 132 [.sv (.one (I q)), .sv (.one (.ptr 0 0))] [.box [I n] 3 true] Q (fun (r : Bool) => .sv (.one (B r))) := by
  have ht := tab_ok
  refine Ct.body Try.func132 rfl rfl rfl rfl (fun c hn => ?_)
  unfold twoC2_vc at h
  refine En.seq ?_
  refine En.region ?_
  refine WL.run ht hn 1 ⟨[(0, .sv (.one (I q))), (1, .sv (.one (.ptr 0 0)))], [.box [I n] 3 true]⟩ (by kernel_rfl) ?_
  refine WL.nil ?_
  refine En.seq ?_
  refine En.region ?_
  refine WL.run ht hn 3 ⟨[(0, .sv (.one (I q))), (1, .sv (.one (.ptr 0 0))), (6, .sv (.one (B (decide (q < 0)))))], [.box [I n] 3 true]⟩ (by kernel_rfl) ?_
  refine WL.thru ⟨[(3, .sv (.one (B ((decide (q < 0)) || (decide (q ≥ n))))))], [.gone]⟩ ?_ ?_
  · refine splitB (decide (q < 0)) (fun hb0 => ?_) (fun hb0 => ?_)
    · refine WL.setB 6 hb0 (by kernel_rfl) ?_
      refine WL.run ht hn 5 ⟨[(3, .sv (.one (B true)))], [.gone]⟩ (by kernel_rfl) ?_
      exact WL.nil (sub_ok (by simp only [hb0]; kernel_rfl))
    · refine WL.setB 6 hb0 (by kernel_rfl) ?_
      refine WL.run ht hn 5 ⟨[(3, .sv (.one (B (decide (q ≥ n)))))], [.gone]⟩ (by kernel_rfl) ?_
      exact WL.nil (sub_ok (by simp only [hb0]; kernel_rfl))
  · refine En.ret ?_
    exact En.back ht ((decide (q < 0)) || (decide (q ≥ n))) h (by kernel_rfl) rfl
theorem en132 : ∀ args w, (callFunc 132 args).run Try.prog w = .ok (.enter 132 args) w := enters_of Try.func132 (by kernel_rfl) rfl
def twoC31_vc (x : St46) (domno : (Int → Prop)) (no : (Int → Bool)) (Q : Bool → Prop) : Prop :=
  ∃ J : Bool → Prop, ((domno x.fE0) ∧
  IfP (no x.fE0) (J true) (IfP (x.fE1 != 1) (J (x.fE1 != (-1))) (J false))) ∧
  (∀ (x3 : Bool), J x3 → Q x3)
theorem twoC31_walk (x : St46) (domno : (Int → Prop)) (no : (Int → Bool)) (Q : Bool → Prop) (h : twoC31_vc x domno no Q) : Ct 135 [.sv (.agg [I x.fE0, I x.fE1]), .sv (.one (.ptr 0 0))] [.box [.rd (fvR (fun (x : Int) => [.sv (.one (I x))]) (fun (r : Bool) => .sv (.one (B r))) domno no)] 134 true] Q (fun (r : Bool) => .sv (.one (B r))) := by
  have ht := tab_ok
  refine Ct.body Try.func135 rfl rfl rfl rfl (fun c hn => ?_)
  unfold twoC31_vc at h
  refine En.seq ?_
  refine En.region ?_
  refine WL.run ht hn 2 ⟨[(1, .sv (.one (.ptr 0 0))), (2, .sv (.one (.ptr 1 0)))], [.box [.rd (fvR (fun (x : Int) => [.sv (.one (I x))]) (fun (r : Bool) => .sv (.one (B r))) domno no)] 134 true, .box [I x.fE0, I x.fE1] 46 false]⟩ (by kernel_rfl) ?_
  refine WL.nil ?_
  obtain ⟨J, h, hJ⟩ := h
  refine En.seqJ (σ := Bool) (fun zz => J zz) (fun zz => ⟨[(3, .sv (.one (B zz)))], [.gone, .gone]⟩) ?_ ?_
  · refine En.region ?_
    refine WL.run ht hn 1 ⟨[(2, .sv (.one (.ptr 1 0))), (4, .sv (.one (.rd (fvR (fun (x : Int) => [.sv (.one (I x))]) (fun (r : Bool) => .sv (.one (B r))) domno no))))], [.gone, .box [I x.fE0, I x.fE1] 46 false]⟩ (by kernel_rfl) ?_
    refine WL.val hn (by rfl) (val_indexP (k := 0) 1 0 0 ht rfl Try.underlying46 (by rfl) (by rfl) (by rfl) (by rfl) (by decide) (by rfl)) (by rfl) ?_
    refine WL.run ht hn 1 ⟨[(2, .sv (.one (.ptr 1 0))), (4, .sv (.one (.rd (fvR (fun (x : Int) => [.sv (.one (I x))]) (fun (r : Bool) => .sv (.one (B r))) domno no)))), (6, .sv (.one (I x.fE0)))], [.gone, .box [I x.fE0, I x.fE1] 46 false]⟩ (by kernel_rfl) ?_
    have hp := h.1
    replace h := h.2
    refine WL.mt0 (K := []) (p := none) hn (by rfl) (mt_callv x.fE0 hp rfl (by rfl) (by rfl) (by rfl) (by rfl)) (by rfl) (by rfl) (by rfl) ?_
    refine WL.run ht hn 1 ⟨[(2, .sv (.one (.ptr 1 0))), (8, .sv (.one (B (no x.fE0))))], [.gone, .box [I x.fE0, I x.fE1] 46 false]⟩ (by kernel_rfl) ?_
    refine splitB (no x.fE0) (fun hb => ?_) (fun hb => ?_)
    · replace h := h.1 hb
      refine WL.setB 8 hb (by kernel_rfl) ?_
      refine WL.run ht hn 10 ⟨[(3, .sv (.one (B true)))], [.gone, .gone]⟩ (by kernel_rfl) ?_
      refine WL.nil ?_
      exact En.at (I := fun zz => J zz) (T := fun zz => ⟨[(3, .sv (.one (B zz)))], [.gone, .gone]⟩) true h (by kernel_rfl)
    · replace h := h.2 hb
      refine WL.setB 8 hb (by kernel_rfl) ?_
      refine WL.val hn (by rfl) (val_indexP (k := 1) 1 0 1 ht rfl Try.underlying46 (by rfl) (by rfl) (by rfl) (by rfl) (by decide) (by rfl)) (by rfl) ?_
      refine WL.run ht hn 3 ⟨[(2, .sv (.one (.ptr 1 0))), (8, .sv (.one (B false))), (12, .sv (.one (B (x.fE1 != 1))))], [.gone, .box [I x.fE0, I x.fE1] 46 false]⟩ (by kernel_rfl) ?_
      refine splitB (x.fE1 != 1) (fun hb => ?_) (fun hb => ?_)
      · replace h := h.1 hb
        refine WL.setB 12 hb (by kernel_rfl) ?_
        refine WL.val hn (by rfl) (val_indexP (k := 1) 1 0 1 ht rfl Try.underlying46 (by rfl) (by rfl) (by rfl) (by rfl) (by decide) (by rfl)) (by rfl) ?_
        refine WL.run ht hn 5 ⟨[(3, .sv (.one (B (x.fE1 != (-1)))))], [.gone, .gone]⟩ (by kernel_rfl) ?_
        refine WL.nil ?_
        exact En.at (I := fun zz => J zz) (T := fun zz => ⟨[(3, .sv (.one (B zz)))], [.gone, .gone]⟩) (x.fE1 != (-1)) h (by kernel_rfl)
      · replace h := h.2 hb
        refine WL.setB 12 hb (by kernel_rfl) ?_
        refine WL.run ht hn 6 ⟨[(3, .sv (.one (B false)))], [.gone, .gone]⟩ (by kernel_rfl) ?_
        refine WL.nil ?_
        exact En.at (I := fun zz => J zz) (T := fun zz => ⟨[(3, .sv (.one (B zz)))], [.gone, .gone]⟩) false h (by kernel_rfl)
  · intro x3 h
    replace h := hJ _ h
    show En c ⟨[(3, .sv (.one (B x3)))], [.gone, .gone]⟩ _
    refine En.ret ?_
    exact En.back ht x3 h (by kernel_rfl) rfl
theorem en135 : ∀ args w, (callFunc 135 args).run Try.prog w = .ok (.enter 135 args) w := enters_of Try.func135 (by kernel_rfl) rfl
def twoC4_vc (m : Int) (Q : Bool → Prop) : Prop :=
  Q ((m != 0) && (m != 1))
theorem twoC4_walk (m : Int) (Q : Bool → Prop) (h : twoC4_vc m Q) : Ct 136 [.sv (.one (I m))] [] Q (fun (r : Bool) => .sv (.one (B r))) := by
  have ht := tab_ok
  refine Ct.body Try.func136 rfl rfl rfl rfl (fun c hn => ?_)
  unfold twoC4_vc at h
  refine En.seq ?_
  refine En.region ?_
  refine WL.run ht hn 1 ⟨[(0, .sv (.one (I m)))], []⟩ (by kernel_rfl) ?_
  refine WL.nil ?_
  refine En.seq ?_
  refine En.region ?_
  refine WL.run ht hn 3 ⟨[(0, .sv (.one (I m))), (5, .sv (.one (B (m != 0))))], []⟩ (by kernel_rfl) ?_
  refine WL.thru ⟨[(2, .sv (.one (B ((m != 0) && (m != 1)))))], []⟩ ?_ ?_
  · refine splitB (m != 0) (fun hb0 => ?_) (fun hb0 => ?_)
    · refine WL.setB 5 hb0 (by kernel_rfl) ?_
      refine WL.run ht hn 4 ⟨[(2, .sv (.one (B (m != 1))))], []⟩ (by kernel_rfl) ?_
      exact WL.nil (sub_ok (by simp only [hb0]; kernel_rfl))
    · refine WL.setB 5 hb0 (by kernel_rfl) ?_
      refine WL.run ht hn 4 ⟨[(2, .sv (.one (B false)))], []⟩ (by kernel_rfl) ?_
      exact WL.nil (sub_ok (by simp only [hb0]; kernel_rfl))
  · refine En.ret ?_
    exact En.back ht ((m != 0) && (m != 1)) h (by kernel_rfl) rfl
theorem en136 : ∀ args w, (callFunc 136 args).run Try.prog w = .ok (.enter 136 args) w := enters_of Try.func136 (by kernel_rfl) rfl
theorem twoC1_ct (r : (List St46)) (t : ApiTwoWay)  : Ct 131 [.sv (.one (LS St46.ty r)), .sv (.one (.ptr 0 0))] [.box [I t.fLetters, I t.fStart, LS (lsT St46.ty) t.fNext, LS intT t.fMark] 45 true] (fun (_ : Unit) => True) (fun _ => .sv (.one (B ((r.length : Int) != wr (t.fLetters + 2))))) := by
  refine (twoC1_walk r t (fun res_ => res_ = ((r.length : Int) != wr (t.fLetters + 2))) ?_).fun
  exact fun _ => rfl
theorem twoC2_ct (q : Int) (n : Int)  : Ct 132 [.sv (.one (I q)), .sv (.one (.ptr 0 0))] [.box [I n] 3 true] (fun (_ : Unit) => True) (fun _ => .sv (.one (B (altNo n q)))) := by
  refine (twoC2_walk q n (fun res_ => res_ = (altNo n q)) ?_).fun
  rfl
theorem twoC31_ct (x : St46) (domno : (Int → Prop)) (no : (Int → Bool)) (hd : domno x.fE0) : Ct 135 [.sv (.agg [I x.fE0, I x.fE1]), .sv (.one (.ptr 0 0))] [.box [.rd (fvR (fun (x : Int) => [.sv (.one (I x))]) (fun (r : Bool) => .sv (.one (B r))) domno no)] 134 true] (fun (_ : Unit) => True) (fun _ => .sv (.one (B (no x.fE0 || ((x.fE1 != 1) && (x.fE1 != -1)))))) := by
  refine (twoC31_walk x domno no (fun res_ => res_ = (no x.fE0 || ((x.fE1 != 1) && (x.fE1 != -1)))) ?_).fun
  refine ⟨fun b => b = (no x.fE0 || ((x.fE1 != 1) && (x.fE1 != -1))), ⟨hd, fun h => by rw [h]; rfl, fun h => ⟨fun h2 => by rw [h, h2]; rfl, fun h2 => by rw [h, h2]; rfl⟩⟩, ?_⟩
  rintro _ rfl
  rfl
theorem twoC4_ct (m : Int)  : Ct 136 [.sv (.one (I m))] [] (fun (_ : Unit) => True) (fun _ => .sv (.one (B ((m != 0) && (m != 1))))) := by
  refine (twoC4_walk m (fun res_ => res_ = ((m != 0) && (m != 1))) ?_).fun
  rfl
def twoC3_vc (l : (List St46)) (domno : (Int → Prop)) (no : (Int → Bool)) (Q : Bool → Prop) : Prop :=
  l.length ≤ 9223372036854775807 →
  ((∀ x_ ∈ l, (fun x => domno x.fE0) x_) ∧
  Q (l.any (fun x => no x.fE0 || ((x.fE1 != 1) && (x.fE1 != -1)))))
theorem twoC3_walk (l : (List St46)) (domno : (Int → Prop)) (no : (Int → Bool)) (Q : Bool → Prop) (h : twoC3_vc l domno no Q) : Ct 133 [.sv (.one (LS St46.ty l)), .sv (.one (.ptr 0 0))] [.box [.rd (fvR (fun (x : Int) => [.sv (.one (I x))]) (fun (r : Bool) => .sv (.one (B r))) domno no)] 134 true] Q (fun (r : Bool) => .sv (.one (B r))) := by
  have ht := tab_ok
  refine Ct.body Try.func133 rfl rfl rfl rfl (fun c hn => ?_)
  unfold twoC3_vc at h
  refine En.lenL 0 (by rfl) (fun hl => ?_)
  replace h := h hl
  clear hl
  refine En.seq ?_
  refine En.region ?_
  refine WL.run ht hn 1 ⟨[(0, .sv (.one (LS St46.ty l))), (1, .sv (.one (.ptr 0 0)))], [.box [.rd (fvR (fun (x : Int) => [.sv (.one (I x))]) (fun (r : Bool) => .sv (.one (B r))) domno no)] 134 true]⟩ (by kernel_rfl) ?_
  refine WL.nil ?_
  refine En.seq ?_
  refine En.region ?_
  refine WL.run ht hn 2 ⟨[(4, .sv (.one (LS St46.ty l))), (5, .sv (.one (.fn 135 [0])))], [.box [.rd (fvR (fun (x : Int) => [.sv (.one (I x))]) (fun (r : Bool) => .sv (.one (B r))) domno no)] 134 true]⟩ (by kernel_rfl) ?_
  have hp := h.1
  replace h := h.2
  refine WL.mt0 (K := []) (p := none) hn (by rfl) (mt_ghost 5 (.sv (.one (.rd (fvR (fun (x_ : St46) => [.sv (.agg [I x_.fE0, I x_.fE1])]) (fun (r : Bool) => .sv (.one (B r))) (fun x => domno x.fE0) (fun x => no x.fE0 || ((x.fE1 != 1) && (x.fE1 != -1))))))) (by rfl) (fv_of (M := [.box [.rd (fvR (fun (x : Int) => [.sv (.one (I x))]) (fun (r : Bool) => .sv (.one (B r))) domno no)] 134 true]) (caps := [0]) (fun x_ hx => twoC31_ct x_ domno no hx) en135 rfl (by kernel_rfl) (by rfl) (fun _ => rfl)) (mt_call (anyT46_ct l (fun x => domno x.fE0) (fun x => no x.fE0 || ((x.fE1 != 1) && (x.fE1 != -1))) hp) en134 (caps := []) [] rfl (by rfl) (by kernel_rfl) (by kernel_rfl) (by rfl) (by rfl) (by rfl))) (by rfl) (by rfl) (by rfl) ?_
  refine WL.run ht hn 1 ⟨[(3, .sv (.one (B (l.any (fun x => no x.fE0 || ((x.fE1 != 1) && (x.fE1 != -1)))))))], [.gone]⟩ (by kernel_rfl) ?_
  refine WL.nil ?_
  refine En.ret ?_
  exact En.back ht (l.any (fun x => no x.fE0 || ((x.fE1 != 1) && (x.fE1 != -1)))) h (by kernel_rfl) rfl
theorem en133 : ∀ args w, (callFunc 133 args).run Try.prog w = .ok (.enter 133 args) w := enters_of Try.func133 (by kernel_rfl) rfl
theorem twoC3_ct (l : (List St46)) (domno : (Int → Prop)) (no : (Int → Bool)) (hd : ∀ x ∈ l, domno x.fE0) : Ct 133 [.sv (.one (LS St46.ty l)), .sv (.one (.ptr 0 0))] [.box [.rd (fvR (fun (x : Int) => [.sv (.one (I x))]) (fun (r : Bool) => .sv (.one (B r))) domno no)] 134 true] (fun (_ : Unit) => True) (fun _ => .sv (.one (B (l.any (fun x => no x.fE0 || ((x.fE1 != 1) && (x.fE1 != -1))))))) := by
  refine (twoC3_walk l domno no (fun res_ => res_ = (l.any (fun x => no x.fE0 || ((x.fE1 != 1) && (x.fE1 != -1))))) ?_).fun
  exact fun _ => ⟨hd, rfl⟩
def twoCheck_vc (t : ApiTwoWay) (Q : Int → Prop) : Prop :=
  t.fNext.length ≤ 9223372036854775807 →
  t.fMark.length ≤ 9223372036854775807 →
  (IfP ((decide (t.fLetters < 1)) || (decide (t.fLetters > 4))) (Q 2) (IfP ((decide ((t.fNext.length : Int) < 1)) || (decide ((t.fNext.length : Int) > 4))) (Q 1) (∃ J : Bool → Prop, (IfP ((t.fMark.length : Int) != (t.fNext.length : Int)) (J true) ((∀ x_ ∈ t.fNext, (fun _ => True) x_) ∧
  J (t.fNext.any (fun r => (r.length : Int) != wr ((t).fLetters + 2))))) ∧
  (∀ (x32 : Bool), J x32 → IfP x32 (Q 3) (∃ J_2 : Bool → Prop, (((fun _ => True) t.fStart) ∧
  IfP ((altNo (t.fNext.length : Int)) t.fStart) (J_2 true) ((∀ x_ ∈ t.fNext, (fun l => ∀ x ∈ l, (fun _ => True) x.fE0) x_) ∧
  IfP (t.fNext.any (fun l => l.any (fun x => (altNo (t.fNext.length : Int)) x.fE0 || ((x.fE1 != 1) && (x.fE1 != -1))))) (J_2 true) ((∀ x_ ∈ t.fMark, (fun _ => True) x_) ∧
  J_2 (t.fMark.any (fun m => (m != 0) && (m != 1)))))) ∧
  (∀ (x48 : Bool), J_2 x48 → IfP x48 (Q 2) (Q 0)))))))
theorem twoCheck_walk (t : ApiTwoWay) (Q : Int → Prop) (h : twoCheck_vc t Q) : Ct 68 [.sv (.agg [I t.fLetters, I t.fStart, LS (lsT St46.ty) t.fNext, LS intT t.fMark])] [] Q (fun (r : Int) => .sv (.one (I r))) := by
  have ht := tab_ok
  refine Ct.body Try.func68 rfl rfl rfl rfl (fun c hn => ?_)
  unfold twoCheck_vc at h
  refine En.lenA 0 2 (by rfl) (by rfl) (fun hl => ?_)
  replace h := h hl
  clear hl
  refine En.lenA 0 3 (by rfl) (by rfl) (fun hl => ?_)
  replace h := h hl
  clear hl
  refine En.seq ?_
  refine En.region ?_
  refine WL.run ht hn 2 ⟨[(1, .sv (.one (.ptr 0 0)))], [.box [I t.fLetters, I t.fStart, LS (lsT St46.ty) t.fNext, LS intT t.fMark] 45 false]⟩ (by kernel_rfl) ?_
  refine WL.nil ?_
  refine En.seq ?_
  refine En.seq ?_
  refine En.region ?_
  refine WL.run ht hn 4 ⟨[(1, .sv (.one (.ptr 0 0))), (8, .sv (.one (B (decide (t.fLetters < 1)))))], [.box [I t.fLetters, I t.fStart, LS (lsT St46.ty) t.fNext, LS intT t.fMark] 45 false]⟩ (by kernel_rfl) ?_
  refine WL.thru ⟨[(1, .sv (.one (.ptr 0 0))), (12, .sv (.one (B ((decide (t.fLetters < 1)) || (decide (t.fLetters > 4))))))], [.box [I t.fLetters, I t.fStart, LS (lsT St46.ty) t.fNext, LS intT t.fMark] 45 false]⟩ ?_ ?_
  · refine splitB (decide (t.fLetters < 1)) (fun hb0 => ?_) (fun hb0 => ?_)
    · refine WL.setB 8 hb0 (by kernel_rfl) ?_
      refine WL.run ht hn 4 ⟨[(1, .sv (.one (.ptr 0 0))), (12, .sv (.one (B true)))], [.box [I t.fLetters, I t.fStart, LS (lsT St46.ty) t.fNext, LS intT t.fMark] 45 false]⟩ (by kernel_rfl) ?_
      exact WL.nil (sub_ok (by simp only [hb0]; kernel_rfl))
    · refine WL.setB 8 hb0 (by kernel_rfl) ?_
      refine WL.run ht hn 4 ⟨[(1, .sv (.one (.ptr 0 0))), (12, .sv (.one (B (decide (t.fLetters > 4)))))], [.box [I t.fLetters, I t.fStart, LS (lsT St46.ty) t.fNext, LS intT t.fMark] 45 false]⟩ (by kernel_rfl) ?_
      exact WL.nil (sub_ok (by simp only [hb0]; kernel_rfl))
  · refine En.cond (b := ((decide (t.fLetters < 1)) || (decide (t.fLetters > 4)))) (by kernel_rfl) (fun hb => ?_) (fun hb => ?_)
    · replace h := h.1 hb
      refine En.seq ?_
      refine En.region ?_
      refine WL.run ht hn 1 ⟨[(2, .sv (.one (I 2)))], [.gone]⟩ (by kernel_rfl) ?_
      refine WL.nil ?_
      refine En.ret ?_
      exact En.back ht 2 h (by kernel_rfl) rfl
    · replace h := h.2 hb
      refine En.skip ?_
      refine En.seq ?_
      refine En.region ?_
      refine WL.run ht hn 5 ⟨[(1, .sv (.one (.ptr 0 0))), (3, .sv (.one (.ptr 1 0)))], [.box [I t.fLetters, I t.fStart, LS (lsT St46.ty) t.fNext, LS intT t.fMark] 45 false, .box [I (t.fNext.length : Int)] 3 false]⟩ (by kernel_rfl) ?_
      refine WL.nil ?_
      refine En.seq ?_
      refine En.seq ?_
      refine En.region ?_
      refine WL.run ht hn 3 ⟨[(1, .sv (.one (.ptr 0 0))), (3, .sv (.one (.ptr 1 0))), (18, .sv (.one (B (decide ((t.fNext.length : Int) < 1)))))], [.box [I t.fLetters, I t.fStart, LS (lsT St46.ty) t.fNext, LS intT t.fMark] 45 false, .box [I (t.fNext.length : Int)] 3 false]⟩ (by kernel_rfl) ?_
      refine WL.thru ⟨[(1, .sv (.one (.ptr 0 0))), (3, .sv (.one (.ptr 1 0))), (21, .sv (.one (B ((decide ((t.fNext.length : Int) < 1)) || (decide ((t.fNext.length : Int) > 4))))))], [.box [I t.fLetters, I t.fStart, LS (lsT St46.ty) t.fNext, LS intT t.fMark] 45 false, .box [I (t.fNext.length : Int)] 3 false]⟩ ?_ ?_
      · refine splitB (decide ((t.fNext.length : Int) < 1)) (fun hb0 => ?_) (fun hb0 => ?_)
        · refine WL.setB 18 hb0 (by kernel_rfl) ?_
          refine WL.run ht hn 3 ⟨[(1, .sv (.one (.ptr 0 0))), (3, .sv (.one (.ptr 1 0))), (21, .sv (.one (B true)))], [.box [I t.fLetters, I t.fStart, LS (lsT St46.ty) t.fNext, LS intT t.fMark] 45 false, .box [I (t.fNext.length : Int)] 3 false]⟩ (by kernel_rfl) ?_
          exact WL.nil (sub_ok (by simp only [hb0]; kernel_rfl))
        · refine WL.setB 18 hb0 (by kernel_rfl) ?_
          refine WL.run ht hn 3 ⟨[(1, .sv (.one (.ptr 0 0))), (3, .sv (.one (.ptr 1 0))), (21, .sv (.one (B (decide ((t.fNext.length : Int) > 4)))))], [.box [I t.fLetters, I t.fStart, LS (lsT St46.ty) t.fNext, LS intT t.fMark] 45 false, .box [I (t.fNext.length : Int)] 3 false]⟩ (by kernel_rfl) ?_
          exact WL.nil (sub_ok (by simp only [hb0]; kernel_rfl))
      · refine En.cond (b := ((decide ((t.fNext.length : Int) < 1)) || (decide ((t.fNext.length : Int) > 4)))) (by kernel_rfl) (fun hb => ?_) (fun hb => ?_)
        · replace h := h.1 hb
          refine En.seq ?_
          refine En.region ?_
          refine WL.run ht hn 1 ⟨[(2, .sv (.one (I 1)))], [.gone, .gone]⟩ (by kernel_rfl) ?_
          refine WL.nil ?_
          refine En.ret ?_
          exact En.back ht 1 h (by kernel_rfl) rfl
        · replace h := h.2 hb
          refine En.skip ?_
          refine En.seq ?_
          obtain ⟨J, h, hJ⟩ := h
          refine En.seqJ (σ := Bool) (fun zz => J zz) (fun zz => ⟨[(1, .sv (.one (.ptr 0 0))), (3, .sv (.one (.ptr 1 0))), (32, .sv (.one (B zz)))], [.box [I t.fLetters, I t.fStart, LS (lsT St46.ty) t.fNext, LS intT t.fMark] 45 false, .box [I (t.fNext.length : Int)] 3 false]⟩) ?_ ?_
          · refine En.region ?_
            refine WL.run ht hn 6 ⟨[(1, .sv (.one (.ptr 0 0))), (3, .sv (.one (.ptr 1 0))), (27, .sv (.one (B ((t.fMark.length : Int) != (t.fNext.length : Int)))))], [.box [I t.fLetters, I t.fStart, LS (lsT St46.ty) t.fNext, LS intT t.fMark] 45 false, .box [I (t.fNext.length : Int)] 3 false]⟩ (by kernel_rfl) ?_
            refine splitB ((t.fMark.length : Int) != (t.fNext.length : Int)) (fun hb => ?_) (fun hb => ?_)
            · replace h := h.1 hb
              refine WL.setB 27 hb (by kernel_rfl) ?_
              refine WL.run ht hn 5 ⟨[(1, .sv (.one (.ptr 0 0))), (3, .sv (.one (.ptr 1 0))), (32, .sv (.one (B true)))], [.box [I t.fLetters, I t.fStart, LS (lsT St46.ty) t.fNext, LS intT t.fMark] 45 false, .box [I (t.fNext.length : Int)] 3 false]⟩ (by kernel_rfl) ?_
              refine WL.nil ?_
              exact En.at (I := fun zz => J zz) (T := fun zz => ⟨[(1, .sv (.one (.ptr 0 0))), (3, .sv (.one (.ptr 1 0))), (32, .sv (.one (B zz)))], [.box [I t.fLetters, I t.fStart, LS (lsT St46.ty) t.fNext, LS intT t.fMark] 45 false, .box [I (t.fNext.length : Int)] 3 false]⟩) true h (by kernel_rfl)
            · replace h := h.2 hb
              refine WL.setB 27 hb (by kernel_rfl) ?_
              refine WL.run ht hn 3 ⟨[(1, .sv (.one (.ptr 0 0))), (3, .sv (.one (.ptr 1 0))), (27, .sv (.one (B false))), (29, .sv (.one (LS (lsT St46.ty) t.fNext))), (30, .sv (.one (.fn 131 [0])))], [.box [I t.fLetters, I t.fStart, LS (lsT St46.ty) t.fNext, LS intT t.fMark] 45 false, .box [I (t.fNext.length : Int)] 3 false]⟩ (by kernel_rfl) ?_
              have hp := h.1
              replace h := h.2
              refine WL.mt0 (K := []) (p := none) hn (by rfl) (mt_lendF [0] (by rfl) (by rfl) (mt_ghost 30 (.sv (.one (.rd (fvR (fun (x_ : (List St46)) => [.sv (.one (LS St46.ty x_))]) (fun (r : Bool) => .sv (.one (B r))) (fun _ => True) (fun r => (r.length : Int) != wr ((t).fLetters + 2)))))) (by rfl) (fv_of (M := [.box [I t.fLetters, I t.fStart, LS (lsT St46.ty) t.fNext, LS intT t.fMark] 45 true]) (caps := [0]) (fun x_ _ => twoC1_ct x_ t) en131 rfl (by kernel_rfl) (by rfl) (fun _ => rfl)) (mt_call (anyLT46_ct t.fNext (fun _ => True) (fun r => (r.length : Int) != wr ((t).fLetters + 2)) hp) en130 (caps := []) [] rfl (by rfl) (by kernel_rfl) (by kernel_rfl) (by rfl) (by rfl) (by rfl)))) (by rfl) (by rfl) (by rfl) ?_
              refine WL.run ht hn 1 ⟨[(1, .sv (.one (.ptr 0 0))), (3, .sv (.one (.ptr 1 0))), (32, .sv (.one (B (t.fNext.any (fun r => (r.length : Int) != wr ((t).fLetters + 2))))))], [.box [I t.fLetters, I t.fStart, LS (lsT St46.ty) t.fNext, LS intT t.fMark] 45 false, .box [I (t.fNext.length : Int)] 3 false]⟩ (by kernel_rfl) ?_
              refine WL.nil ?_
              exact En.at (I := fun zz => J zz) (T := fun zz => ⟨[(1, .sv (.one (.ptr 0 0))), (3, .sv (.one (.ptr 1 0))), (32, .sv (.one (B zz)))], [.box [I t.fLetters, I t.fStart, LS (lsT St46.ty) t.fNext, LS intT t.fMark] 45 false, .box [I (t.fNext.length : Int)] 3 false]⟩) (t.fNext.any (fun r => (r.length : Int) != wr ((t).fLetters + 2))) h (by kernel_rfl)
          · intro x32 h
            replace h := hJ _ h
            show En c ⟨[(1, .sv (.one (.ptr 0 0))), (3, .sv (.one (.ptr 1 0))), (32, .sv (.one (B x32)))], [.box [I t.fLetters, I t.fStart, LS (lsT St46.ty) t.fNext, LS intT t.fMark] 45 false, .box [I (t.fNext.length : Int)] 3 false]⟩ _
            refine En.cond (b := x32) (by kernel_rfl) (fun hb => ?_) (fun hb => ?_)
            · replace h := h.1 hb
              refine En.seq ?_
              refine En.region ?_
              refine WL.run ht hn 1 ⟨[(2, .sv (.one (I 3)))], [.gone, .gone]⟩ (by kernel_rfl) ?_
              refine WL.nil ?_
              refine En.ret ?_
              exact En.back ht 3 h (by kernel_rfl) rfl
            · replace h := h.2 hb
              refine En.skip ?_
              refine En.seq ?_
              refine En.region ?_
              refine WL.run ht hn 3 ⟨[(1, .sv (.one (.ptr 0 0))), (4, .sv (.one (.ptr 2 0)))], [.box [I t.fLetters, I t.fStart, LS (lsT St46.ty) t.fNext, LS intT t.fMark] 45 false, .box [I (t.fNext.length : Int)] 3 false, .box [.fn 132 [1]] 134 false]⟩ (by kernel_rfl) ?_
              refine WL.nil ?_
              refine En.seq ?_
              obtain ⟨J_2, h, hJ_2⟩ := h
              refine En.seqJ (σ := Bool) (fun zz => J_2 zz) (fun zz => ⟨[(48, .sv (.one (B zz)))], [.gone, .gone, .gone]⟩) ?_ ?_
              · refine En.region ?_
                refine WL.run ht hn 3 ⟨[(1, .sv (.one (.ptr 0 0))), (4, .sv (.one (.ptr 2 0))), (34, .sv (.one (.fn 132 [1]))), (36, .sv (.one (I t.fStart)))], [.box [I t.fLetters, I t.fStart, LS (lsT St46.ty) t.fNext, LS intT t.fMark] 45 false, .box [I (t.fNext.length : Int)] 3 false, .box [.fn 132 [1]] 134 false]⟩ (by kernel_rfl) ?_
                refine WL.freeze [1] (by rfl) ?_
                refine WL.ghost 34 (.sv (.one (.rd (fvR (fun (x_ : Int) => [.sv (.one (I x_))]) (fun (r : Bool) => .sv (.one (B r))) (fun _ => True) (altNo (t.fNext.length : Int)))))) (by rfl) (fv_of (M := [.box [I (t.fNext.length : Int)] 3 true]) (caps := [1]) (fun x_ _ => twoC2_ct x_ (t.fNext.length : Int)) en132 rfl (by kernel_rfl) (by rfl) (fun _ => rfl)) ?_
                have hp := h.1
                replace h := h.2
                refine WL.mt0 (K := []) (p := none) hn (by rfl) (mt_callv t.fStart hp rfl (by rfl) (by rfl) (by rfl) (by rfl)) (by rfl) (by rfl) (by rfl) ?_
                refine WL.run ht hn 1 ⟨[(1, .sv (.one (.ptr 0 0))), (4, .sv (.one (.ptr 2 0))), (38, .sv (.one (B ((altNo (t.fNext.length : Int)) t.fStart))))], [.box [I t.fLetters, I t.fStart, LS (lsT St46.ty) t.fNext, LS intT t.fMark] 45 false, .box [I (t.fNext.length : Int)] 3 true, .box [.fn 132 [1]] 134 false]⟩ (by kernel_rfl) ?_
                refine splitB ((altNo (t.fNext.length : Int)) t.fStart) (fun hb => ?_) (fun hb => ?_)
                · replace h := h.1 hb
                  refine WL.setB 38 hb (by kernel_rfl) ?_
                  refine WL.run ht hn 10 ⟨[(48, .sv (.one (B true)))], [.gone, .gone, .gone]⟩ (by kernel_rfl) ?_
                  refine WL.nil ?_
                  exact En.at (I := fun zz => J_2 zz) (T := fun zz => ⟨[(48, .sv (.one (B zz)))], [.gone, .gone, .gone]⟩) true h (by kernel_rfl)
                · replace h := h.2 hb
                  refine WL.setB 38 hb (by kernel_rfl) ?_
                  refine WL.run ht hn 3 ⟨[(1, .sv (.one (.ptr 0 0))), (38, .sv (.one (B false))), (40, .sv (.one (LS (lsT St46.ty) t.fNext))), (41, .sv (.one (.fn 133 [2])))], [.box [I t.fLetters, I t.fStart, LS (lsT St46.ty) t.fNext, LS intT t.fMark] 45 false, .box [I (t.fNext.length : Int)] 3 true, .box [.fn 132 [1]] 134 false]⟩ (by kernel_rfl) ?_
                  refine WL.boxTurn (.rd (fvR (fun (x_ : Int) => [.sv (.one (I x_))]) (fun (r : Bool) => .sv (.one (B r))) (fun _ => True) (altNo (t.fNext.length : Int)))) 2 0 (by rfl) (by rfl) (fv_at (fv_of (M := [.box [I (t.fNext.length : Int)] 3 true]) (caps := [1]) (fun x_ _ => twoC2_ct x_ (t.fNext.length : Int)) en132 rfl (by kernel_rfl) (by rfl) (fun _ => rfl))) ?_
                  have hp := h.1
                  replace h := h.2
                  refine WL.mt0 (K := []) (p := none) hn (by rfl) (mt_lendF [2] (by rfl) (by rfl) (mt_ghost 41 (.sv (.one (.rd (fvR (fun (x_ : (List St46)) => [.sv (.one (LS St46.ty x_))]) (fun (r : Bool) => .sv (.one (B r))) (fun l => ∀ x ∈ l, (fun _ => True) x.fE0) (fun l => l.any (fun x => (altNo (t.fNext.length : Int)) x.fE0 || ((x.fE1 != 1) && (x.fE1 != -1)))))))) (by rfl) (fv_of (M := [.box [.rd (fvR (fun (x_ : Int) => [.sv (.one (I x_))]) (fun (r : Bool) => .sv (.one (B r))) (fun _ => True) (altNo (t.fNext.length : Int)))] 134 true]) (caps := [2]) (fun x_ hx => twoC3_ct x_ (fun _ => True) (altNo (t.fNext.length : Int)) hx) en133 rfl (by kernel_rfl) (by rfl) (fun _ => rfl)) (mt_call (anyLT46_ct t.fNext (fun l => ∀ x ∈ l, (fun _ => True) x.fE0) (fun l => l.any (fun x => (altNo (t.fNext.length : Int)) x.fE0 || ((x.fE1 != 1) && (x.fE1 != -1)))) hp) en130 (caps := []) [] rfl (by rfl) (by kernel_rfl) (by kernel_rfl) (by rfl) (by rfl) (by rfl)))) (by rfl) (by rfl) (by rfl) ?_
                  refine WL.run ht hn 2 ⟨[(1, .sv (.one (.ptr 0 0))), (44, .sv (.one (B (t.fNext.any (fun l => l.any (fun x => (altNo (t.fNext.length : Int)) x.fE0 || ((x.fE1 != 1) && (x.fE1 != -1))))))))], [.box [I t.fLetters, I t.fStart, LS (lsT St46.ty) t.fNext, LS intT t.fMark] 45 false, .gone, .gone]⟩ (by kernel_rfl) ?_
                  refine splitB (t.fNext.any (fun l => l.any (fun x => (altNo (t.fNext.length : Int)) x.fE0 || ((x.fE1 != 1) && (x.fE1 != -1))))) (fun hb => ?_) (fun hb => ?_)
                  · replace h := h.1 hb
                    refine WL.setB 44 hb (by kernel_rfl) ?_
                    refine WL.run ht hn 4 ⟨[(48, .sv (.one (B true)))], [.gone, .gone, .gone]⟩ (by kernel_rfl) ?_
                    refine WL.nil ?_
                    exact En.at (I := fun zz => J_2 zz) (T := fun zz => ⟨[(48, .sv (.one (B zz)))], [.gone, .gone, .gone]⟩) true h (by kernel_rfl)
                  · replace h := h.2 hb
                    refine WL.setB 44 hb (by kernel_rfl) ?_
                    refine WL.run ht hn 2 ⟨[(44, .sv (.one (B false))), (46, .sv (.one (LS intT t.fMark)))], [.gone, .gone, .gone]⟩ (by kernel_rfl) ?_
                    have hp := h.1
                    replace h := h.2
                    refine WL.mt0 (K := []) (p := none) hn (by rfl) (mt_call (Ct.args (anyInt_ct t.fMark (fun _ => True) (fun m => (m != 0) && (m != 1)) hp) (argLe_same (argLe_to (fv_const (ins := (fun (x_ : Int) => [.sv (.one (I x_))])) (out := (fun (r : Bool) => .sv (.one (B r)))) (dom := (fun _ => True)) (φ := (fun m => (m != 0) && (m != 1))) (fun x_ _ => twoC4_ct x_) en136) argLe_nil))) en77 (caps := []) [] rfl (by rfl) (by kernel_rfl) (by kernel_rfl) (by rfl) (by rfl) (by rfl)) (by rfl) (by rfl) (by rfl) ?_
                    refine WL.run ht hn 1 ⟨[(48, .sv (.one (B (t.fMark.any (fun m => (m != 0) && (m != 1))))))], [.gone, .gone, .gone]⟩ (by kernel_rfl) ?_
                    refine WL.nil ?_
                    exact En.at (I := fun zz => J_2 zz) (T := fun zz => ⟨[(48, .sv (.one (B zz)))], [.gone, .gone, .gone]⟩) (t.fMark.any (fun m => (m != 0) && (m != 1))) h (by kernel_rfl)
              · intro x48 h
                replace h := hJ_2 _ h
                show En c ⟨[(48, .sv (.one (B x48)))], [.gone, .gone, .gone]⟩ _
                refine En.cond (b := x48) (by kernel_rfl) (fun hb => ?_) (fun hb => ?_)
                · replace h := h.1 hb
                  refine En.seq ?_
                  refine En.region ?_
                  refine WL.run ht hn 1 ⟨[(2, .sv (.one (I 2)))], [.gone, .gone, .gone]⟩ (by kernel_rfl) ?_
                  refine WL.nil ?_
                  refine En.ret ?_
                  exact En.back ht 2 h (by kernel_rfl) rfl
                · replace h := h.2 hb
                  refine En.skip ?_
                  refine En.seq ?_
                  refine En.region ?_
                  refine WL.run ht hn 1 ⟨[(2, .sv (.one (I 0)))], [.gone, .gone, .gone]⟩ (by kernel_rfl) ?_
                  refine WL.nil ?_
                  refine En.ret ?_
                  exact En.back ht 0 h (by kernel_rfl) rfl
theorem en68 : ∀ args w, (callFunc 68 args).run Try.prog w = .ok (.enter 68 args) w := enters_of Try.func68 (by kernel_rfl) rfl
theorem twoCheck_ct (t : ApiTwoWay)  : Ct 68 [.sv (.agg [I t.fLetters, I t.fStart, LS (lsT St46.ty) t.fNext, LS intT t.fMark])] [] (fun (_ : Unit) => True) (fun _ => .sv (.one (I (twErr t)))) := by
  refine (twoCheck_walk t (fun res_ => res_ = (twErr t)) ?_).fun
  intro _ _
  refine ⟨fun h1 => ?_, fun h1 => ⟨fun h2 => ?_, fun h2 => ?_⟩⟩
  · show _ = twErr t
    unfold twErr; rw [if_pos h1]
  · show _ = twErr t
    unfold twErr; rw [if_neg (by rw [h1]; decide), if_pos h2]
  refine ⟨fun b => b = (((t.fMark.length : Int) != (t.fNext.length : Int)) || t.fNext.any (fun r => (r.length : Int) != wr (t.fLetters + 2))), ⟨fun h => by rw [h]; rfl, fun h => ⟨fun _ _ => trivial, by rw [h]; rfl⟩⟩, ?_⟩
  rintro b rfl
  refine ⟨fun h3 => ?_, fun h3 => ?_⟩
  · show _ = twErr t
    unfold twErr; rw [if_neg (by rw [h1]; decide), if_neg (by rw [h2]; decide), if_pos h3]
  refine ⟨fun b => b = (altNo (t.fNext.length : Int) t.fStart || (t.fNext.any (fun r => r.any (twNo (t.fNext.length : Int))) || t.fMark.any (fun m => (m != 0) && (m != 1)))), ?_, ?_⟩
  · exact ⟨trivial, fun h => by rw [h]; rfl, fun h => ⟨fun _ _ _ _ => trivial, fun h2 => by rw [h, show t.fNext.any (fun r => r.any (twNo (t.fNext.length : Int))) = true from h2]; rfl, fun h2 => ⟨fun _ _ => trivial, by rw [h, show t.fNext.any (fun r => r.any (twNo (t.fNext.length : Int))) = false from h2]; rfl⟩⟩⟩
  rintro b rfl
  refine ⟨fun h4 => ?_, fun h4 => ?_⟩
  · show _ = twErr t
    unfold twErr; rw [if_neg (by rw [h1]; decide), if_neg (by rw [h2]; decide), if_neg (by rw [h3]; decide), if_pos h4]
  · show _ = twErr t
    unfold twErr; rw [if_neg (by rw [h1]; decide), if_neg (by rw [h2]; decide), if_neg (by rw [h3]; decide), if_neg (by rw [h4]; decide)]
def cel (t : ApiTwoWay) (q a : Int) : St46 := (t.fNext.getD q.toNat []).getD a.toNat ⟨0, 1⟩
theorem cel_in {t : ApiTwoWay} (h : TwOk t) {q a : Int} (hq : 0 ≤ q ∧ q < (t.fNext.length : Int)) (ha : 0 ≤ a ∧ a < t.fLetters + 2) : a < ((t.fNext.getD q.toNat []).length : Int) ∧ (0 ≤ (cel t q a).fE0 ∧ (cel t q a).fE0 < (t.fNext.length : Int)) ∧ ((cel t q a).fE1 = 1 ∨ (cel t q a).fE1 = -1) := by
  have hm := getD_mem (l := t.fNext) (i := q.toNat) (z := []) (by omega)
  have hr := h.rows _ hm
  exact ⟨by omega, h.in_ _ hm _ (getD_mem (by omega))⟩
def tape (t : ApiTwoWay) (w : List Int) : List Int := [t.fLetters] ++ w ++ [t.fLetters + 1]
theorem tape_in {t : ApiTwoWay} (h : TwOk t) {w : List Int} (hw : ∀ a ∈ w, 0 ≤ a ∧ a < t.fLetters) : ∀ a ∈ tape t w, 0 ≤ a ∧ a < t.fLetters + 2 := by
  have := h.letters
  intro a ha
  unfold tape at ha
  simp only [List.mem_append, List.mem_singleton] at ha
  rcases ha with (rfl | ha) | rfl
  · omega
  · have := hw a ha; omega
  · omega
def runF (t : ApiTwoWay) (T : List Int) : Nat → Int → Int → Int → Bool × Int × Int
  | 0, _, _, _ => (false, 0, 0)
  | k + 1, s, at_, q => if 0 ≤ at_ ∧ at_ < (T.length : Int) then (if s > (T.length : Int) * (t.fNext.length : Int) then (false, 0, 0) else runF t T k (s + 1) (at_ + (cel t q (T.getD at_.toNat 0)).fE1) (cel t q (T.getD at_.toNat 0)).fE0) else (if at_ > 0 then (t.fMark.getD q.toNat 0 == 1) else false, s, 0)
def runR (t : ApiTwoWay) (w : List Int) : Bool × Int × Int := if twErr t = 0 then (if mayE t.fLetters w = 0 then runF t (tape t w) ((tape t w).length * t.fNext.length + 2) 0 0 t.fStart else (false, 0, mayE t.fLetters w)) else (false, 0, twErr t)
def twoRun_vc (t : ApiTwoWay) (w : (List Int)) (Q : (Bool × Int × Int) → Prop) : Prop :=
  t.fNext.length ≤ 9223372036854775807 →
  t.fMark.length ≤ 9223372036854775807 →
  w.length ≤ 9223372036854775807 →
  (IfP ((twErr t) != 0) (Q (false, 0, (twErr t))) (IfP ((mayE t.fLetters w) != 0) (Q (false, 0, (mayE t.fLetters w))) ((([([t.fLetters] : (List Int)), w, ([(wr (t.fLetters + 1))] : (List Int))] : (List (List Int))).length ≤ 1000000 ∧ ([([t.fLetters] : (List Int)), w, ([(wr (t.fLetters + 1))] : (List Int))] : (List (List Int))).flatten.length ≤ 1000000) ∧
  ∃ (Inv : Int → Int → Int → Prop) (mu : Int → Int → Int → Nat), Inv 0 0 t.fStart ∧
  ∀ (x5 : Int) (x10 : Int) (x11 : Int) , Inv x5 x10 x11 → (IfP ((decide (x10 ≥ 0)) && (decide (x10 < ((([([t.fLetters] : (List Int)), w, ([(wr (t.fLetters + 1))] : (List Int))] : (List (List Int))).flatten).length : Int)))) (IfP (decide (x5 > (wr (((([([t.fLetters] : (List Int)), w, ([(wr (t.fLetters + 1))] : (List Int))] : (List (List Int))).flatten).length : Int) * (t.fNext.length : Int))))) (Q (false, 0, 0)) (∃ e, idx t.fNext x11 = some e ∧
  ∃ e_2, idx (([([t.fLetters] : (List Int)), w, ([(wr (t.fLetters + 1))] : (List Int))] : (List (List Int))).flatten) x10 = some e_2 ∧
  ∃ e_3, idx e e_2 = some e_3 ∧
  (Inv (wr (x5 + 1)) (wr (x10 + e_3.fE1)) e_3.fE0 ∧ mu (wr (x5 + 1)) (wr (x10 + e_3.fE1)) e_3.fE0 < mu x5 x10 x11))) (∃ J : Bool → Prop, (IfP (decide (x10 > 0)) (∃ e_4, idx t.fMark x11 = some e_4 ∧
  J (e_4 == 1)) (J false)) ∧
  (∀ (x4 : Bool), J x4 → Q (x4, x5, 0)))))))
theorem twoRun_walk (t : ApiTwoWay) (w : (List Int)) (Q : (Bool × Int × Int) → Prop) (h : twoRun_vc t w Q) : Ct 25 [.sv (.agg [I t.fLetters, I t.fStart, LS (lsT St46.ty) t.fNext, LS intT t.fMark]), .sv (.one (LS intT w))] [] Q (fun (r : (Bool × Int × Int)) => .tup [.one (B r.1), .one (I r.2.1), .one (I r.2.2)]) := by
  have ht := tab_ok
  refine Ct.body Try.func25 rfl rfl rfl rfl (fun c hn => ?_)
  unfold twoRun_vc at h
  refine En.lenA 0 2 (by rfl) (by rfl) (fun hl => ?_)
  replace h := h hl
  clear hl
  refine En.lenA 0 3 (by rfl) (by rfl) (fun hl => ?_)
  replace h := h hl
  clear hl
  refine En.lenL 1 (by rfl) (fun hl => ?_)
  replace h := h hl
  clear hl
  refine En.seq ?_
  refine En.region ?_
  refine WL.run ht hn 4 ⟨[(1, .sv (.one (LS intT w))), (2, .sv (.one (.ptr 0 0))), (5, .sv (.one (I 0)))], [.box [I t.fLetters, I t.fStart, LS (lsT St46.ty) t.fNext, LS intT t.fMark] 45 false]⟩ (by kernel_rfl) ?_
  refine WL.nil ?_
  refine En.seq ?_
  refine En.seq ?_
  refine En.region ?_
  refine WL.run ht hn 1 ⟨[(1, .sv (.one (LS intT w))), (2, .sv (.one (.ptr 0 0))), (5, .sv (.one (I 0))), (13, .sv (.agg [I t.fLetters, I t.fStart, LS (lsT St46.ty) t.fNext, LS intT t.fMark]))], [.box [I t.fLetters, I t.fStart, LS (lsT St46.ty) t.fNext, LS intT t.fMark] 45 false]⟩ (by kernel_rfl) ?_
  refine WL.mt0 (K := []) (p := none) hn (by rfl) (mt_call (twoCheck_ct t) en68 (caps := []) [] rfl (by rfl) (by kernel_rfl) (by kernel_rfl) (by rfl) (by rfl) (by rfl)) (by rfl) (by rfl) (by rfl) ?_
  refine WL.run ht hn 1 ⟨[(1, .sv (.one (LS intT w))), (2, .sv (.one (.ptr 0 0))), (5, .sv (.one (I 0))), (7, .sv (.one (I (twErr t))))], [.box [I t.fLetters, I t.fStart, LS (lsT St46.ty) t.fNext, LS intT t.fMark] 45 false]⟩ (by kernel_rfl) ?_
  refine WL.nil ?_
  refine En.seq ?_
  refine En.region ?_
  refine WL.run ht hn 2 ⟨[(1, .sv (.one (LS intT w))), (2, .sv (.one (.ptr 0 0))), (5, .sv (.one (I 0))), (7, .sv (.one (I (twErr t)))), (16, .sv (.one (B ((twErr t) != 0))))], [.box [I t.fLetters, I t.fStart, LS (lsT St46.ty) t.fNext, LS intT t.fMark] 45 false]⟩ (by kernel_rfl) ?_
  refine WL.nil ?_
  refine En.cond (b := ((twErr t) != 0)) (by kernel_rfl) (fun hb => ?_) (fun hb => ?_)
  · replace h := h.1 hb
    refine En.seq ?_
    refine En.region ?_
    refine WL.run ht hn 4 ⟨[(4, .sv (.one (B false))), (5, .sv (.one (I 0))), (6, .sv (.one (I (twErr t))))], [.gone]⟩ (by kernel_rfl) ?_
    refine WL.nil ?_
    refine En.ret ?_
    exact En.back ht (false, 0, (twErr t)) h (by kernel_rfl) rfl
  · replace h := h.2 hb
    refine En.skip ?_
    refine En.seq ?_
    refine En.seq ?_
    refine En.region ?_
    refine WL.run ht hn 3 ⟨[(1, .sv (.one (LS intT w))), (2, .sv (.one (.ptr 0 0))), (5, .sv (.one (I 0))), (19, .sv (.one (I t.fLetters))), (20, .sv (.one (LS intT w)))], [.box [I t.fLetters, I t.fStart, LS (lsT St46.ty) t.fNext, LS intT t.fMark] 45 false]⟩ (by kernel_rfl) ?_
    refine WL.mt0 (K := []) (p := none) hn (by rfl) (mt_call (mayW_ct t.fLetters w) en73 (caps := []) [] rfl (by rfl) (by kernel_rfl) (by kernel_rfl) (by rfl) (by rfl) (by rfl)) (by rfl) (by rfl) (by rfl) ?_
    refine WL.run ht hn 1 ⟨[(1, .sv (.one (LS intT w))), (2, .sv (.one (.ptr 0 0))), (5, .sv (.one (I 0))), (8, .sv (.one (I (mayE t.fLetters w))))], [.box [I t.fLetters, I t.fStart, LS (lsT St46.ty) t.fNext, LS intT t.fMark] 45 false]⟩ (by kernel_rfl) ?_
    refine WL.nil ?_
    refine En.seq ?_
    refine En.region ?_
    refine WL.run ht hn 2 ⟨[(1, .sv (.one (LS intT w))), (2, .sv (.one (.ptr 0 0))), (5, .sv (.one (I 0))), (8, .sv (.one (I (mayE t.fLetters w)))), (23, .sv (.one (B ((mayE t.fLetters w) != 0))))], [.box [I t.fLetters, I t.fStart, LS (lsT St46.ty) t.fNext, LS intT t.fMark] 45 false]⟩ (by kernel_rfl) ?_
    refine WL.nil ?_
    refine En.cond (b := ((mayE t.fLetters w) != 0)) (by kernel_rfl) (fun hb => ?_) (fun hb => ?_)
    · replace h := h.1 hb
      refine En.seq ?_
      refine En.region ?_
      refine WL.run ht hn 4 ⟨[(4, .sv (.one (B false))), (5, .sv (.one (I 0))), (6, .sv (.one (I (mayE t.fLetters w))))], [.gone]⟩ (by kernel_rfl) ?_
      refine WL.nil ?_
      refine En.ret ?_
      exact En.back ht (false, 0, (mayE t.fLetters w)) h (by kernel_rfl) rfl
    · replace h := h.2 hb
      refine En.skip ?_
      refine En.seq ?_
      refine En.region ?_
      refine WL.run ht hn 2 ⟨[(1, .sv (.one (LS intT w))), (2, .sv (.one (.ptr 0 0))), (5, .sv (.one (I 0))), (26, .sv (.one (I t.fLetters)))], [.box [I t.fLetters, I t.fStart, LS (lsT St46.ty) t.fNext, LS intT t.fMark] 45 false]⟩ (by kernel_rfl) ?_
      refine WL.mt0 (K := []) (p := some (1, rowI 3 intT ([t.fLetters] : (List Int)))) hn (by rfl) (mt_lit (T := intT) ([t.fLetters] : (List Int)) (mt_bsl 1 (r := cellsOf intT ([t.fLetters] : (List Int))) ht rfl (by rfl) (by rfl) (by rfl) (by kernel_rfl) (by rfl)) (fun _ h => by cases h) (fun _ => rfl) (fun _ => rfl) (by rfl) (Nat.le_of_ble_eq_true rfl)) (by rfl) (by rfl) (by rfl) ?_
      refine WL.run ht hn 4 ⟨[(2, .sv (.one (.ptr 0 0))), (5, .sv (.one (I 0))), (27, .sv (.one (.own 1))), (28, .sv (.one (LS intT w))), (31, .sv (.one (I (wr (t.fLetters + 1)))))], [.box [I t.fLetters, I t.fStart, LS (lsT St46.ty) t.fNext, LS intT t.fMark] 45 false, rowI 3 intT ([t.fLetters] : (List Int))]⟩ (by kernel_rfl) ?_
      refine WL.mt0 (K := []) (p := some (2, rowI 3 intT ([(wr (t.fLetters + 1))] : (List Int)))) hn (by rfl) (mt_lit (T := intT) ([(wr (t.fLetters + 1))] : (List Int)) (mt_bsl 2 (r := cellsOf intT ([(wr (t.fLetters + 1))] : (List Int))) ht rfl (by rfl) (by rfl) (by rfl) (by kernel_rfl) (by rfl)) (fun _ h => by cases h) (fun _ => rfl) (fun _ => rfl) (by rfl) (Nat.le_of_ble_eq_true rfl)) (by rfl) (by rfl) (by rfl) ?_
      refine WL.seal (T := intT) (l := ([t.fLetters] : (List Int))) (e := 3) 1 rfl ?_
      refine WL.run ht hn 0 ⟨[(2, .sv (.one (.ptr 0 0))), (5, .sv (.one (I 0))), (27, .sv (.one (LS intT ([t.fLetters] : (List Int))))), (28, .sv (.one (LS intT w))), (31, .sv (.one (I (wr (t.fLetters + 1))))), (32, .sv (.one (.own 2)))], [.box [I t.fLetters, I t.fStart, LS (lsT St46.ty) t.fNext, LS intT t.fMark] 45 false, .gone, rowI 3 intT ([(wr (t.fLetters + 1))] : (List Int))]⟩ (by kernel_rfl) ?_
      refine WL.seal (T := intT) (l := ([(wr (t.fLetters + 1))] : (List Int))) (e := 3) 2 rfl ?_
      refine WL.run ht hn 0 ⟨[(2, .sv (.one (.ptr 0 0))), (5, .sv (.one (I 0))), (27, .sv (.one (LS intT ([t.fLetters] : (List Int))))), (28, .sv (.one (LS intT w))), (31, .sv (.one (I (wr (t.fLetters + 1))))), (32, .sv (.one (LS intT ([(wr (t.fLetters + 1))] : (List Int)))))], [.box [I t.fLetters, I t.fStart, LS (lsT St46.ty) t.fNext, LS intT t.fMark] 45 false, .gone, .gone]⟩ (by kernel_rfl) ?_
      refine WL.mt0 (K := []) (p := some (3, rowI 23 (lsT intT) ([([t.fLetters] : (List Int)), w, ([(wr (t.fLetters + 1))] : (List Int))] : (List (List Int))))) hn (by rfl) (mt_lit (T := (lsT intT)) ([([t.fLetters] : (List Int)), w, ([(wr (t.fLetters + 1))] : (List Int))] : (List (List Int))) (mt_bsl 3 (r := cellsOf (lsT intT) ([([t.fLetters] : (List Int)), w, ([(wr (t.fLetters + 1))] : (List Int))] : (List (List Int)))) ht rfl (by rfl) (by rfl) (by rfl) (by kernel_rfl) (by rfl)) (fun _ h => by cases h) (fun _ => rfl) (fun _ => rfl) (by rfl) (Nat.le_of_ble_eq_true rfl)) (by rfl) (by rfl) (by rfl) ?_
      have hp := h.1
      replace h := h.2
      refine WL.mt0 (K := []) (p := some (4, rowI 3 intT (([([t.fLetters] : (List Int)), w, ([(wr (t.fLetters + 1))] : (List Int))] : (List (List Int))).flatten))) hn (by rfl) (mt_lendI (T := (lsT intT)) (l := ([([t.fLetters] : (List Int)), w, ([(wr (t.fLetters + 1))] : (List Int))] : (List (List Int)))) 3 (by rfl) (plain_row fun _ => rfl) (mt_callI 4 (concatI_ct ([([t.fLetters] : (List Int)), w, ([(wr (t.fLetters + 1))] : (List Int))] : (List (List Int))) hp) en59 (caps := []) [] rfl rfl (by rfl) (by kernel_rfl) (by kernel_rfl) (by rfl) (by rfl))) (by rfl) (by rfl) (by rfl) ?_
      refine WL.run ht hn 1 ⟨[(2, .sv (.one (.ptr 0 0))), (5, .sv (.one (I 0))), (9, .sv (.one (.own 4)))], [.box [I t.fLetters, I t.fStart, LS (lsT St46.ty) t.fNext, LS intT t.fMark] 45 false, .gone, .gone, .gone, rowI 3 intT (([([t.fLetters] : (List Int)), w, ([(wr (t.fLetters + 1))] : (List Int))] : (List (List Int))).flatten)]⟩ (by kernel_rfl) ?_
      refine WL.nil ?_
      refine En.seq ?_
      refine En.regionS (by kernel_rfl) (by kernel_rfl) ?_
      refine SL.run ht hn 4 ⟨[(2, .sv (.one (.ptr 0 0))), (5, .sv (.one (I 0))), (9, .sv (.one (.own 4))), (10, .sv (.one (I 0))), (11, .sv (.one (I t.fStart))), (35, .sv (.one (.ptr 0 1))), (36, .sv (.one (I t.fStart)))], [.box [I t.fLetters, I t.fStart, LS (lsT St46.ty) t.fNext, LS intT t.fMark] 45 false, .gone, .gone, .gone, rowI 3 intT (([([t.fLetters] : (List Int)), w, ([(wr (t.fLetters + 1))] : (List Int))] : (List (List Int))).flatten)]⟩ (by kernel_rfl) ?_
      refine SL.nil ⟨by kernel_rfl, ?_⟩
      refine En.seq ?_
      refine En.block ?_
      obtain ⟨Inv, mu, h0, hI⟩ := h
      refine En.loop (σ := Int × Int × Int) (fun zz => Inv zz.1 zz.2.1 zz.2.2) (fun zz => mu zz.1 zz.2.1 zz.2.2) (fun zz => ⟨[(2, .sv (.one (.ptr 0 0))), (5, .sv (.one (I zz.1))), (9, .sv (.one (.own 4))), (10, .sv (.one (I zz.2.1))), (11, .sv (.one (I zz.2.2)))], [.box [I t.fLetters, I t.fStart, LS (lsT St46.ty) t.fNext, LS intT t.fMark] 45 false, .gone, .gone, .gone, rowI 3 intT (([([t.fLetters] : (List Int)), w, ([(wr (t.fLetters + 1))] : (List Int))] : (List (List Int))).flatten)]⟩) (0, 0, t.fStart) h0 (sub_ok (by kernel_rfl)) ?_
      rintro ⟨x5, x10, x11⟩ h
      replace h := hI _ _ _ h
      show En c ⟨[(2, .sv (.one (.ptr 0 0))), (5, .sv (.one (I x5))), (9, .sv (.one (.own 4))), (10, .sv (.one (I x10))), (11, .sv (.one (I x11)))], [.box [I t.fLetters, I t.fStart, LS (lsT St46.ty) t.fNext, LS intT t.fMark] 45 false, .gone, .gone, .gone, rowI 3 intT (([([t.fLetters] : (List Int)), w, ([(wr (t.fLetters + 1))] : (List Int))] : (List (List Int))).flatten)]⟩ _
      refine En.seq ?_
      refine En.seq ?_
      refine En.region ?_
      refine WL.run ht hn 3 ⟨[(2, .sv (.one (.ptr 0 0))), (5, .sv (.one (I x5))), (9, .sv (.one (.own 4))), (10, .sv (.one (I x10))), (11, .sv (.one (I x11))), (39, .sv (.one (B (decide (x10 ≥ 0)))))], [.box [I t.fLetters, I t.fStart, LS (lsT St46.ty) t.fNext, LS intT t.fMark] 45 false, .gone, .gone, .gone, rowI 3 intT (([([t.fLetters] : (List Int)), w, ([(wr (t.fLetters + 1))] : (List Int))] : (List (List Int))).flatten)]⟩ (by kernel_rfl) ?_
      refine WL.thru ⟨[(2, .sv (.one (.ptr 0 0))), (5, .sv (.one (I x5))), (9, .sv (.one (.own 4))), (10, .sv (.one (I x10))), (11, .sv (.one (I x11))), (44, .sv (.one (B ((decide (x10 ≥ 0)) && (decide (x10 < ((([([t.fLetters] : (List Int)), w, ([(wr (t.fLetters + 1))] : (List Int))] : (List (List Int))).flatten).length : Int)))))))], [.box [I t.fLetters, I t.fStart, LS (lsT St46.ty) t.fNext, LS intT t.fMark] 45 false, .gone, .gone, .gone, rowI 3 intT (([([t.fLetters] : (List Int)), w, ([(wr (t.fLetters + 1))] : (List Int))] : (List (List Int))).flatten)]⟩ ?_ ?_
      · refine splitB (decide (x10 ≥ 0)) (fun hb0 => ?_) (fun hb0 => ?_)
        · refine WL.setB 39 hb0 (by kernel_rfl) ?_
          refine WL.run ht hn 5 ⟨[(2, .sv (.one (.ptr 0 0))), (5, .sv (.one (I x5))), (9, .sv (.one (.own 4))), (10, .sv (.one (I x10))), (11, .sv (.one (I x11))), (44, .sv (.one (B (decide (x10 < ((([([t.fLetters] : (List Int)), w, ([(wr (t.fLetters + 1))] : (List Int))] : (List (List Int))).flatten).length : Int))))))], [.box [I t.fLetters, I t.fStart, LS (lsT St46.ty) t.fNext, LS intT t.fMark] 45 false, .gone, .gone, .gone, rowI 3 intT (([([t.fLetters] : (List Int)), w, ([(wr (t.fLetters + 1))] : (List Int))] : (List (List Int))).flatten)]⟩ (by kernel_rfl) ?_
          exact WL.nil (sub_ok (by simp only [hb0]; kernel_rfl))
        · refine WL.setB 39 hb0 (by kernel_rfl) ?_
          refine WL.run ht hn 5 ⟨[(2, .sv (.one (.ptr 0 0))), (5, .sv (.one (I x5))), (9, .sv (.one (.own 4))), (10, .sv (.one (I x10))), (11, .sv (.one (I x11))), (44, .sv (.one (B false)))], [.box [I t.fLetters, I t.fStart, LS (lsT St46.ty) t.fNext, LS intT t.fMark] 45 false, .gone, .gone, .gone, rowI 3 intT (([([t.fLetters] : (List Int)), w, ([(wr (t.fLetters + 1))] : (List Int))] : (List (List Int))).flatten)]⟩ (by kernel_rfl) ?_
          exact WL.nil (sub_ok (by simp only [hb0]; kernel_rfl))
      · refine En.cond (b := ((decide (x10 ≥ 0)) && (decide (x10 < ((([([t.fLetters] : (List Int)), w, ([(wr (t.fLetters + 1))] : (List Int))] : (List (List Int))).flatten).length : Int))))) (by kernel_rfl) (fun hb => ?_) (fun hb => ?_)
        · replace h := h.1 hb
          refine En.skip ?_
          refine En.block ?_
          refine En.seq ?_
          refine En.seq ?_
          refine En.region ?_
          refine WL.run ht hn 8 ⟨[(2, .sv (.one (.ptr 0 0))), (5, .sv (.one (I x5))), (9, .sv (.one (.own 4))), (10, .sv (.one (I x10))), (11, .sv (.one (I x11))), (52, .sv (.one (B (decide (x5 > (wr (((([([t.fLetters] : (List Int)), w, ([(wr (t.fLetters + 1))] : (List Int))] : (List (List Int))).flatten).length : Int) * (t.fNext.length : Int))))))))], [.box [I t.fLetters, I t.fStart, LS (lsT St46.ty) t.fNext, LS intT t.fMark] 45 false, .gone, .gone, .gone, rowI 3 intT (([([t.fLetters] : (List Int)), w, ([(wr (t.fLetters + 1))] : (List Int))] : (List (List Int))).flatten)]⟩ (by kernel_rfl) ?_
          refine WL.nil ?_
          refine En.cond (b := (decide (x5 > (wr (((([([t.fLetters] : (List Int)), w, ([(wr (t.fLetters + 1))] : (List Int))] : (List (List Int))).flatten).length : Int) * (t.fNext.length : Int)))))) (by kernel_rfl) (fun hb => ?_) (fun hb => ?_)
          · replace h := h.1 hb
            refine En.seq ?_
            refine En.region ?_
            refine WL.run ht hn 3 ⟨[(4, .sv (.one (B false))), (5, .sv (.one (I 0))), (6, .sv (.one (I 0)))], [.gone, .gone, .gone, .gone, .gone]⟩ (by kernel_rfl) ?_
            refine WL.nil ?_
            refine En.ret ?_
            exact En.back ht (false, 0, 0) h (by kernel_rfl) rfl
          · replace h := h.2 hb
            refine En.skip ?_
            refine En.seq ?_
            obtain ⟨e, he, h⟩ := h
            obtain ⟨e_2, he_2, h⟩ := h
            obtain ⟨e_3, he_3, h⟩ := h
            refine En.regionA ⟨[(2, .sv (.one (.ptr 0 0))), (5, .sv (.one (I x5))), (9, .sv (.one (.own 4))), (10, .sv (.one (I x10))), (11, .sv (.one (I x11)))], [.sv (.one (.ptr 0 2)), .sv (.one (LS (lsT St46.ty) t.fNext)), .sv (.one (I x11)), .sv (.one (.pe (svR (.one (LS St46.ty e))) 1)), .sv (.one (LS St46.ty e)), .sv (.one (.own 4)), .sv (.one (I x10)), .sv (.one (.oe 4 ((x10).toNat) 1)), .sv (.one (I e_2)), .sv (.one (.pe (svR (.agg [I e_3.fE0, I e_3.fE1])) 2)), .sv (.agg [I e_3.fE0, I e_3.fE1]), .sv (.one (.ptr 5 0)), .tup []], [⟨.box [I t.fLetters, I t.fStart, LS (lsT St46.ty) t.fNext, LS intT t.fMark] 45 false, none, none, none⟩, ⟨.gone, none, none, none⟩, ⟨.gone, none, none, none⟩, ⟨.gone, none, none, none⟩, ⟨rowI 3 intT (([([t.fLetters] : (List Int)), w, ([(wr (t.fLetters + 1))] : (List Int))] : (List (List Int))).flatten), none, none, none⟩, ⟨.box [I 0, I 0] 46 false, some 11, none, some (12, .box [I e_3.fE0, I e_3.fE1] 46 false)⟩]⟩ ⟨[(2, .sv (.one (.ptr 0 0))), (5, .sv (.one (I x5))), (9, .sv (.one (.own 4))), (10, .sv (.one (I x10))), (12, .sv (.one (.ptr 5 0)))], [.box [I t.fLetters, I t.fStart, LS (lsT St46.ty) t.fNext, LS intT t.fMark] 45 false, .gone, .gone, .gone, rowI 3 intT (([([t.fLetters] : (List Int)), w, ([(wr (t.fLetters + 1))] : (List Int))] : (List (List Int))).flatten), .box [I e_3.fE0, I e_3.fE1] 46 false]⟩ (by kernel_rfl) hn (by kernel_rfl) (by rfl) (by kernel_rfl) ?_ (by kernel_rfl) ?_
            · exact ⟨.mt ⟨[(2, .sv (.one (.ptr 0 0)))], []⟩ [] none (by kernel_rfl) (by rfl) (mt_ev ht (by kernel_rfl)) rfl rfl rfl rfl,
    .mt ⟨[(53, .sv (.one (.ptr 0 2)))], [.box [I t.fLetters, I t.fStart, LS (lsT St46.ty) t.fNext, LS intT t.fMark] 45 false]⟩ [] none (by kernel_rfl) (by rfl) (mt_ev ht (by kernel_rfl)) rfl rfl rfl rfl,
    .mt ⟨[(11, .sv (.one (I x11)))], []⟩ [] none (by kernel_rfl) (by rfl) (mt_ev ht (by kernel_rfl)) rfl rfl rfl rfl,
    .mt ⟨[(54, .sv (.one (LS (lsT St46.ty) t.fNext))), (55, .sv (.one (I x11)))], []⟩ [] none (by kernel_rfl) (by rfl) (mt_val (val_index (T := (lsT St46.ty)) (l := t.fNext) (i := x11) ht rfl (by rfl) (by rfl) (by rfl) (by rfl) (by rfl) (by rfl) he)) rfl rfl rfl rfl,
    .mt ⟨[(56, .sv (.one (.pe (svR (.one (LS St46.ty e))) 1)))], []⟩ [] none (by kernel_rfl) (by rfl) (mt_val (val_load (s := .one (LS St46.ty e)) ht rfl (by rfl) (by rfl) (by rfl) (by rfl) (by rfl))) rfl rfl rfl rfl,
    .mt ⟨[(9, .sv (.one (.own 4)))], []⟩ [] none (by kernel_rfl) (by rfl) (mt_ev ht (by kernel_rfl)) rfl rfl rfl rfl,
    .mt ⟨[(10, .sv (.one (I x10)))], []⟩ [] none (by kernel_rfl) (by rfl) (mt_ev ht (by kernel_rfl)) rfl rfl rfl rfl,
    .mt ⟨[(58, .sv (.one (.own 4))), (59, .sv (.one (I x10)))], [.gone, .gone, .gone, .gone, rowI 3 intT (([([t.fLetters] : (List Int)), w, ([(wr (t.fLetters + 1))] : (List Int))] : (List (List Int))).flatten)]⟩ [] none (by kernel_rfl) (by rfl) (mt_val (val_indexO (T := intT) (l := (([([t.fLetters] : (List Int)), w, ([(wr (t.fLetters + 1))] : (List Int))] : (List (List Int))).flatten)) (k := x10) ht rfl (by rfl) (by rfl) (by rfl) (by rfl) (by decide) (by rfl) (by rfl) (by rfl) he_2)) rfl rfl rfl rfl,
    .mt ⟨[(60, .sv (.one (.oe 4 ((x10).toNat) 1)))], [.gone, .gone, .gone, .gone, rowI 3 intT (([([t.fLetters] : (List Int)), w, ([(wr (t.fLetters + 1))] : (List Int))] : (List (List Int))).flatten)]⟩ [] none (by kernel_rfl) (by rfl) (mt_val (val_loadO (T := intT) (l := (([([t.fLetters] : (List Int)), w, ([(wr (t.fLetters + 1))] : (List Int))] : (List (List Int))).flatten)) (y := e_2) ht rfl (by rfl) (by rfl) (by rfl) (by rfl) (by rfl) (idx_some he_2).2.2 (by rfl))) rfl rfl rfl rfl,
    .mt ⟨[(57, .sv (.one (LS St46.ty e))), (61, .sv (.one (I e_2)))], []⟩ [] none (by kernel_rfl) (by rfl) (mt_val (val_index (T := St46.ty) (l := e) (i := e_2) ht rfl (by rfl) (by rfl) (by rfl) (by rfl) (by rfl) (by rfl) he_3)) rfl rfl rfl rfl,
    .mt ⟨[(62, .sv (.one (.pe (svR (.agg [I e_3.fE0, I e_3.fE1])) 2)))], []⟩ [] none (by kernel_rfl) (by rfl) (mt_val (val_load (s := .agg [I e_3.fE0, I e_3.fE1]) ht rfl (by rfl) (by rfl) (by rfl) (by rfl) (by rfl))) rfl rfl rfl rfl,
    .mt ⟨[], []⟩ [] (some 5) (by kernel_rfl) (by rfl) (mt_alloc2 5 46 ht rfl (by rfl) (by rfl)) rfl rfl rfl rfl,
    .mu ⟨[(12, .sv (.one (.ptr 5 0))), (63, .sv (.agg [I e_3.fE0, I e_3.fE1]))], [.gone, .gone, .gone, .gone, .gone, .box [I 0, I 0] 46 false]⟩ 5 _ _ rfl rfl (by kernel_rfl) (by rfl) (mu_store2 ht rfl (by rfl) (by rfl) (by rfl) (by rfl) (fun h => by cases h) (by rfl) (by rfl)) rfl rfl rfl rfl rfl rfl rfl,
    trivial⟩
            · refine En.seq ?_
              refine En.regionS (by kernel_rfl) (by kernel_rfl) ?_
              refine SL.val hn (by rfl) (val_indexP (k := 0) 5 0 0 ht rfl Try.underlying46 (by rfl) (by rfl) (by rfl) (by rfl) (by decide) (by rfl)) (by rfl) ?_
              refine SL.run ht hn 2 ⟨[(2, .sv (.one (.ptr 0 0))), (5, .sv (.one (I x5))), (9, .sv (.one (.own 4))), (10, .sv (.one (I x10))), (12, .sv (.one (.ptr 5 0))), (64, .sv (.one (.ptr 5 0))), (65, .sv (.one (I e_3.fE0))), (66, .sv (.one (I x10)))], [.box [I t.fLetters, I t.fStart, LS (lsT St46.ty) t.fNext, LS intT t.fMark] 45 false, .gone, .gone, .gone, rowI 3 intT (([([t.fLetters] : (List Int)), w, ([(wr (t.fLetters + 1))] : (List Int))] : (List (List Int))).flatten), .box [I e_3.fE0, I e_3.fE1] 46 false]⟩ (by kernel_rfl) ?_
              refine SL.val hn (by rfl) (val_indexP (k := 1) 5 0 1 ht rfl Try.underlying46 (by rfl) (by rfl) (by rfl) (by rfl) (by decide) (by rfl)) (by rfl) ?_
              refine SL.run ht hn 4 ⟨[(2, .sv (.one (.ptr 0 0))), (5, .sv (.one (I x5))), (9, .sv (.one (.own 4))), (10, .sv (.one (I (wr (x10 + e_3.fE1))))), (11, .sv (.one (I e_3.fE0))), (12, .sv (.one (.ptr 5 0))), (64, .sv (.one (.ptr 5 0))), (65, .sv (.one (I e_3.fE0))), (66, .sv (.one (I x10))), (67, .sv (.one (.ptr 5 1))), (68, .sv (.one (I e_3.fE1))), (69, .sv (.one (I (wr (x10 + e_3.fE1)))))], [.box [I t.fLetters, I t.fStart, LS (lsT St46.ty) t.fNext, LS intT t.fMark] 45 false, .gone, .gone, .gone, rowI 3 intT (([([t.fLetters] : (List Int)), w, ([(wr (t.fLetters + 1))] : (List Int))] : (List (List Int))).flatten), .box [I e_3.fE0, I e_3.fE1] 46 false]⟩ (by kernel_rfl) ?_
              refine SL.nil ⟨by kernel_rfl, ?_⟩
              refine En.region ?_
              refine WL.run ht hn 3 ⟨[(2, .sv (.one (.ptr 0 0))), (5, .sv (.one (I (wr (x5 + 1))))), (9, .sv (.one (.own 4))), (10, .sv (.one (I (wr (x10 + e_3.fE1))))), (11, .sv (.one (I e_3.fE0)))], [.box [I t.fLetters, I t.fStart, LS (lsT St46.ty) t.fNext, LS intT t.fMark] 45 false, .gone, .gone, .gone, rowI 3 intT (([([t.fLetters] : (List Int)), w, ([(wr (t.fLetters + 1))] : (List Int))] : (List (List Int))).flatten), .gone]⟩ (by kernel_rfl) ?_
              refine WL.nil ?_
              exact En.at (I := fun zz => Inv zz.1 zz.2.1 zz.2.2 ∧ mu zz.1 zz.2.1 zz.2.2 < mu x5 x10 x11) (T := fun zz => ⟨[(2, .sv (.one (.ptr 0 0))), (5, .sv (.one (I zz.1))), (9, .sv (.one (.own 4))), (10, .sv (.one (I zz.2.1))), (11, .sv (.one (I zz.2.2)))], [.box [I t.fLetters, I t.fStart, LS (lsT St46.ty) t.fNext, LS intT t.fMark] 45 false, .gone, .gone, .gone, rowI 3 intT (([([t.fLetters] : (List Int)), w, ([(wr (t.fLetters + 1))] : (List Int))] : (List (List Int))).flatten)]⟩) ((wr (x5 + 1)), (wr (x10 + e_3.fE1)), e_3.fE0) h (by kernel_rfl)
        · replace h := h.2 hb
          refine En.exit rfl ?_
          obtain ⟨J, h, hJ⟩ := h
          refine En.seqJ (σ := Bool) (fun zz => J zz) (fun zz => ⟨[(4, .sv (.one (B zz))), (5, .sv (.one (I x5))), (6, .sv (.one (I 0)))], [.gone, .gone, .gone, .gone, .gone]⟩) ?_ ?_
          · refine En.region ?_
            refine WL.run ht hn 3 ⟨[(2, .sv (.one (.ptr 0 0))), (5, .sv (.one (I x5))), (11, .sv (.one (I x11))), (74, .sv (.one (B (decide (x10 > 0)))))], [.box [I t.fLetters, I t.fStart, LS (lsT St46.ty) t.fNext, LS intT t.fMark] 45 false, .gone, .gone, .gone, .gone]⟩ (by kernel_rfl) ?_
            refine splitB (decide (x10 > 0)) (fun hb => ?_) (fun hb => ?_)
            · replace h := h.1 hb
              refine WL.setB 74 hb (by kernel_rfl) ?_
              refine WL.run ht hn 3 ⟨[(5, .sv (.one (I x5))), (74, .sv (.one (B true))), (76, .sv (.one (LS intT t.fMark))), (77, .sv (.one (I x11)))], [.gone, .gone, .gone, .gone, .gone]⟩ (by kernel_rfl) ?_
              obtain ⟨e_4, he_4, h⟩ := h
              refine WL.val hn (by rfl) (val_index (T := intT) (l := t.fMark) (i := x11) ht rfl (by rfl) (by rfl) (by rfl) (by rfl) (by rfl) (by rfl) he_4) (by rfl) ?_
              refine WL.val hn (by rfl) (val_load (s := .one (I e_4)) ht rfl (by rfl) (by rfl) (by rfl) (by rfl) (by rfl)) (by rfl) ?_
              refine WL.run ht hn 6 ⟨[(4, .sv (.one (B (e_4 == 1)))), (5, .sv (.one (I x5))), (6, .sv (.one (I 0)))], [.gone, .gone, .gone, .gone, .gone]⟩ (by kernel_rfl) ?_
              refine WL.nil ?_
              exact En.at (I := fun zz => J zz) (T := fun zz => ⟨[(4, .sv (.one (B zz))), (5, .sv (.one (I x5))), (6, .sv (.one (I 0)))], [.gone, .gone, .gone, .gone, .gone]⟩) (e_4 == 1) h (by kernel_rfl)
            · replace h := h.2 hb
              refine WL.setB 74 hb (by kernel_rfl) ?_
              refine WL.run ht hn 11 ⟨[(4, .sv (.one (B false))), (5, .sv (.one (I x5))), (6, .sv (.one (I 0)))], [.gone, .gone, .gone, .gone, .gone]⟩ (by kernel_rfl) ?_
              refine WL.nil ?_
              exact En.at (I := fun zz => J zz) (T := fun zz => ⟨[(4, .sv (.one (B zz))), (5, .sv (.one (I x5))), (6, .sv (.one (I 0)))], [.gone, .gone, .gone, .gone, .gone]⟩) false h (by kernel_rfl)
          · intro x4 h
            replace h := hJ _ h
            show En c ⟨[(4, .sv (.one (B x4))), (5, .sv (.one (I x5))), (6, .sv (.one (I 0)))], [.gone, .gone, .gone, .gone, .gone]⟩ _
            refine En.ret ?_
            exact En.back ht (x4, x5, 0) h (by kernel_rfl) rfl
theorem en25 : ∀ args w, (callFunc 25 args).run Try.prog w = .ok (.enter 25 args) w := enters_of Try.func25 (by kernel_rfl) rfl
theorem twoRun_ct (t : ApiTwoWay) (w : (List Int))  : Ct 25 [.sv (.agg [I t.fLetters, I t.fStart, LS (lsT St46.ty) t.fNext, LS intT t.fMark]), .sv (.one (LS intT w))] [] (fun (_ : Unit) => True) (fun _ => .tup [.one (B (runR t w).1), .one (I (runR t w).2.1), .one (I (runR t w).2.2)]) := by
  refine (twoRun_walk t w (fun res_ => res_ = (runR t w)) ?_).fun
  intro _ _ _
  refine ⟨fun h => ?_, fun h => ⟨fun h2 => ?_, fun h2 => ?_⟩⟩
  · show _ = runR t w
    unfold runR
    rw [if_neg (by simpa using h)]
  · show _ = runR t w
    unfold runR
    rw [if_pos (by simpa using h), if_neg (by simpa using h2)]
  have h : twErr t = 0 := by simpa using h
  have h2 : mayE t.fLetters w = 0 := by simpa using h2
  have ht := twErr_ok h
  obtain ⟨hwl, hw⟩ := mayE_ok h2
  have hlet := ht.letters
  have hT : ([([t.fLetters] : (List Int)), w, ([(wr (t.fLetters + 1))] : (List Int))] : (List (List Int))).flatten = tape t w := by
    rw [wr_in (by omega) (by omega)]
    simp [tape]
  have hTl : (tape t w).length ≤ 62 := by simp [tape]; omega
  have hTin := tape_in ht hw
  have hR : runR t w = runF t (tape t w) ((tape t w).length * t.fNext.length + 2) 0 0 t.fStart := by
    unfold runR
    rw [if_pos h, if_pos h2]
  rw [hT]
  rw [hR]
  generalize tape t w = T at hTl hTin
  clear hR hT
  have hsz := ht.size
  have hN : T.length * t.fNext.length ≤ 62 * 4 := Nat.mul_le_mul hTl hsz.2
  refine ⟨⟨by simp, by omega⟩, fun s a q => ∃ k : Nat, s = k ∧ k ≤ T.length * t.fNext.length + 1 ∧ (-1 ≤ a ∧ a ≤ (T.length : Int)) ∧ (0 ≤ q ∧ q < (t.fNext.length : Int)) ∧ runF t T (T.length * t.fNext.length + 2 - k) k a q = runF t T (T.length * t.fNext.length + 2) 0 0 t.fStart, fun s _ _ => T.length * t.fNext.length + 2 - s.toNat, ⟨0, rfl, by omega, by omega, ht.start, rfl⟩, ?_⟩
  rintro s a q ⟨k, rfl, hk, ha, hq, he⟩
  rw [show T.length * t.fNext.length + 2 - k = (T.length * t.fNext.length + 1 - k) + 1 by omega, runF] at he
  have hNc : wr ((T.length : Int) * (t.fNext.length : Int)) = ((T.length * t.fNext.length : Nat) : Int) := by
    rw [← Int.natCast_mul, wr_in (by omega) (by omega)]
  rw [hNc]
  refine ⟨fun hb => ?_, fun hb => ?_⟩
  · simp only [Bool.and_eq_true, decide_eq_true_eq] at hb
    rw [if_pos (by omega)] at he
    refine ⟨fun hs => ?_, fun hs => ?_⟩
    · rw [if_pos (by have := of_decide_eq_true hs; rw [← Int.natCast_mul]; omega)] at he
      exact he
    · have hs := of_decide_eq_false hs
      rw [if_neg (by rw [← Int.natCast_mul]; omega)] at he
      have hTa := hTin _ (getD_mem (l := T) (i := a.toNat) (z := 0) (by omega))
      obtain ⟨c1, c2, c3⟩ := cel_in ht hq hTa
      have hw1 : wr (a + (cel t q (T.getD a.toNat 0)).fE1) = a + (cel t q (T.getD a.toNat 0)).fE1 := wr_in (by omega) (by omega)
      refine ⟨_, idx_of [] hq.1 hq.2, _, idx_of 0 (by omega) (by omega), _, idx_of (⟨0, 1⟩ : St46) hTa.1 c1, ⟨k + 1, wsucc (by omega), by omega, ?_, c2, ?_⟩, ?_⟩
      · show -1 ≤ wr (a + (cel t q (T.getD a.toNat 0)).fE1) ∧ wr (a + (cel t q (T.getD a.toNat 0)).fE1) ≤ _
        rw [hw1]
        omega
      · show runF t T _ _ (wr (a + (cel t q (T.getD a.toNat 0)).fE1)) (cel t q (T.getD a.toNat 0)).fE0 = _
        rw [hw1, show T.length * t.fNext.length + 2 - (k + 1) = T.length * t.fNext.length + 1 - k by omega]
        exact he
      · show T.length * t.fNext.length + 2 - (wr ((k : Int) + 1)).toNat < T.length * t.fNext.length + 2 - (k : Int).toNat
        rw [wsucc (by omega)]
        omega
  · have hb' : ¬ (0 ≤ a ∧ a < (T.length : Int)) := fun h => by
      simp only [Bool.and_eq_false_iff, decide_eq_false_iff_not] at hb
      omega
    rw [if_neg hb'] at he
    refine ⟨fun b => b = (if a > 0 then (t.fMark.getD q.toNat 0 == 1) else false), ⟨fun h => ⟨_, idx_of 0 hq.1 (by rw [ht.marks]; exact hq.2), ?_⟩, fun h => ?_⟩, ?_⟩
    · show _ = _
      rw [if_pos (of_decide_eq_true h)]
    · show _ = _
      rw [if_neg (of_decide_eq_false h)]
    · rintro b rfl
      exact he
def leaves_vc (s : TwoTable) (first : Bool) (q : Int) (letter : Int) (n : Int) (t : ApiTwoWay) (Q : Int → Prop) : Prop :=
  ∃ (Inv : Int → Int → Prop) (mu : Int → Int → Nat), Inv q 0 ∧
  ∀ (x2 : Int) (x14 : Int) , Inv x2 x14 → (IfP (decide (x14 < (wr (n + 1)))) (∃ e, idx t.fNext x2 = some e ∧
  ∃ e_2, idx e letter = some e_2 ∧
  IfP (e_2.fE1 == 1) (Q e_2.fE0) (IfP first (Q (-1)) ((0 ≤ e_2.fE0 ∧ e_2.fE0 < 5) ∧
  IfP (decide ((arrG ([s.fE0, s.fE1, s.fE2, s.fE3, s.fE4] : List Int) e_2.fE0) < 0)) (Q (-1)) ((Inv (arrG ([s.fE0, s.fE1, s.fE2, s.fE3, s.fE4] : List Int) e_2.fE0) (wr (x14 + 1)) ∧ mu (arrG ([s.fE0, s.fE1, s.fE2, s.fE3, s.fE4] : List Int) e_2.fE0) (wr (x14 + 1)) < mu x2 x14))))) (Q (-1)))
theorem leaves_walk (s : TwoTable) (first : Bool) (q : Int) (letter : Int) (n : Int) (t : ApiTwoWay) (Q : Int → Prop) (h : leaves_vc s first q letter n t Q) : Ct 69 [.sv (.agg [I s.fE0, I s.fE1, I s.fE2, I s.fE3, I s.fE4]), .sv (.one (B first)), .sv (.one (I q)), .sv (.one (I letter)), .sv (.one (.ptr 0 0)), .sv (.one (.ptr 1 0))] [.box [I n] 3 true, .box [I t.fLetters, I t.fStart, LS (lsT St46.ty) t.fNext, LS intT t.fMark] 45 true] Q (fun (r : Int) => .sv (.one (I r))) := by
  have ht := tab_ok
  refine Ct.body Try.func69 rfl rfl rfl rfl (fun c hn => ?_)
  unfold leaves_vc at h
  refine En.seq ?_
  refine En.region ?_
  refine WL.run ht hn 2 ⟨[(1, .sv (.one (B first))), (2, .sv (.one (I q))), (3, .sv (.one (I letter))), (4, .sv (.one (.ptr 0 0))), (5, .sv (.one (.ptr 1 0))), (6, .sv (.one (.ptr 2 0)))], [.box [I n] 3 true, .box [I t.fLetters, I t.fStart, LS (lsT St46.ty) t.fNext, LS intT t.fMark] 45 true, .box [I s.fE0, I s.fE1, I s.fE2, I s.fE3, I s.fE4] 120 false]⟩ (by kernel_rfl) ?_
  refine WL.nil ?_
  refine En.seq ?_
  refine En.seq ?_
  refine En.region ?_
  refine WL.run ht hn 3 ⟨[(1, .sv (.one (B first))), (2, .sv (.one (I q))), (3, .sv (.one (I letter))), (5, .sv (.one (.ptr 1 0))), (6, .sv (.one (.ptr 2 0))), (13, .sv (.one (I (wr (n + 1))))), (14, .sv (.one (I 0)))], [.gone, .box [I t.fLetters, I t.fStart, LS (lsT St46.ty) t.fNext, LS intT t.fMark] 45 true, .box [I s.fE0, I s.fE1, I s.fE2, I s.fE3, I s.fE4] 120 false]⟩ (by kernel_rfl) ?_
  refine WL.nil ?_
  refine En.block ?_
  obtain ⟨Inv, mu, h0, hI⟩ := h
  refine En.loop (σ := Int × Int) (fun zz => Inv zz.1 zz.2) (fun zz => mu zz.1 zz.2) (fun zz => ⟨[(1, .sv (.one (B first))), (2, .sv (.one (I zz.1))), (3, .sv (.one (I letter))), (5, .sv (.one (.ptr 1 0))), (6, .sv (.one (.ptr 2 0))), (13, .sv (.one (I (wr (n + 1))))), (14, .sv (.one (I zz.2)))], [.gone, .box [I t.fLetters, I t.fStart, LS (lsT St46.ty) t.fNext, LS intT t.fMark] 45 true, .box [I s.fE0, I s.fE1, I s.fE2, I s.fE3, I s.fE4] 120 false]⟩) (q, 0) h0 (sub_ok (by kernel_rfl)) ?_
  rintro ⟨x2, x14⟩ h
  replace h := hI _ _ h
  show En c ⟨[(1, .sv (.one (B first))), (2, .sv (.one (I x2))), (3, .sv (.one (I letter))), (5, .sv (.one (.ptr 1 0))), (6, .sv (.one (.ptr 2 0))), (13, .sv (.one (I (wr (n + 1))))), (14, .sv (.one (I x14)))], [.gone, .box [I t.fLetters, I t.fStart, LS (lsT St46.ty) t.fNext, LS intT t.fMark] 45 true, .box [I s.fE0, I s.fE1, I s.fE2, I s.fE3, I s.fE4] 120 false]⟩ _
  refine En.seq ?_
  refine En.region ?_
  refine WL.run ht hn 1 ⟨[(1, .sv (.one (B first))), (2, .sv (.one (I x2))), (3, .sv (.one (I letter))), (5, .sv (.one (.ptr 1 0))), (6, .sv (.one (.ptr 2 0))), (13, .sv (.one (I (wr (n + 1))))), (14, .sv (.one (I x14))), (15, .sv (.one (B (decide (x14 < (wr (n + 1)))))))], [.gone, .box [I t.fLetters, I t.fStart, LS (lsT St46.ty) t.fNext, LS intT t.fMark] 45 true, .box [I s.fE0, I s.fE1, I s.fE2, I s.fE3, I s.fE4] 120 false]⟩ (by kernel_rfl) ?_
  refine WL.nil ?_
  refine En.seq ?_
  refine En.cond (b := (decide (x14 < (wr (n + 1))))) (by kernel_rfl) (fun hb => ?_) (fun hb => ?_)
  · replace h := h.1 hb
    refine En.skip ?_
    refine En.seq ?_
    refine En.block ?_
    refine En.seq ?_
    refine En.region ?_
    refine WL.run ht hn 3 ⟨[(1, .sv (.one (B first))), (3, .sv (.one (I letter))), (5, .sv (.one (.ptr 1 0))), (6, .sv (.one (.ptr 2 0))), (13, .sv (.one (I (wr (n + 1))))), (14, .sv (.one (I x14))), (17, .sv (.one (LS (lsT St46.ty) t.fNext))), (18, .sv (.one (I x2)))], [.gone, .box [I t.fLetters, I t.fStart, LS (lsT St46.ty) t.fNext, LS intT t.fMark] 45 true, .box [I s.fE0, I s.fE1, I s.fE2, I s.fE3, I s.fE4] 120 false]⟩ (by kernel_rfl) ?_
    obtain ⟨e, he, h⟩ := h
    refine WL.val hn (by rfl) (val_index (T := (lsT St46.ty)) (l := t.fNext) (i := x2) ht rfl (by rfl) (by rfl) (by rfl) (by rfl) (by rfl) (by rfl) he) (by rfl) ?_
    refine WL.val hn (by rfl) (val_load (s := .one (LS St46.ty e)) ht rfl (by rfl) (by rfl) (by rfl) (by rfl) (by rfl)) (by rfl) ?_
    refine WL.run ht hn 1 ⟨[(1, .sv (.one (B first))), (3, .sv (.one (I letter))), (5, .sv (.one (.ptr 1 0))), (6, .sv (.one (.ptr 2 0))), (13, .sv (.one (I (wr (n + 1))))), (14, .sv (.one (I x14))), (20, .sv (.one (LS St46.ty e))), (21, .sv (.one (I letter)))], [.gone, .box [I t.fLetters, I t.fStart, LS (lsT St46.ty) t.fNext, LS intT t.fMark] 45 true, .box [I s.fE0, I s.fE1, I s.fE2, I s.fE3, I s.fE4] 120 false]⟩ (by kernel_rfl) ?_
    obtain ⟨e_2, he_2, h⟩ := h
    refine WL.val hn (by rfl) (val_index (T := St46.ty) (l := e) (i := letter) ht rfl (by rfl) (by rfl) (by rfl) (by rfl) (by rfl) (by rfl) he_2) (by rfl) ?_
    refine WL.val hn (by rfl) (val_load (s := .agg [I e_2.fE0, I e_2.fE1]) ht rfl (by rfl) (by rfl) (by rfl) (by rfl) (by rfl)) (by rfl) ?_
    refine WL.run ht hn 2 ⟨[(1, .sv (.one (B first))), (3, .sv (.one (I letter))), (5, .sv (.one (.ptr 1 0))), (6, .sv (.one (.ptr 2 0))), (11, .sv (.one (.ptr 3 0))), (13, .sv (.one (I (wr (n + 1))))), (14, .sv (.one (I x14)))], [.gone, .box [I t.fLetters, I t.fStart, LS (lsT St46.ty) t.fNext, LS intT t.fMark] 45 true, .box [I s.fE0, I s.fE1, I s.fE2, I s.fE3, I s.fE4] 120 false, .box [I e_2.fE0, I e_2.fE1] 46 false]⟩ (by kernel_rfl) ?_
    refine WL.nil ?_
    refine En.seq ?_
    refine En.seq ?_
    refine En.region ?_
    refine WL.val hn (by rfl) (val_indexP (k := 1) 3 0 1 ht rfl Try.underlying46 (by rfl) (by rfl) (by rfl) (by rfl) (by decide) (by rfl)) (by rfl) ?_
    refine WL.run ht hn 2 ⟨[(1, .sv (.one (B first))), (3, .sv (.one (I letter))), (5, .sv (.one (.ptr 1 0))), (6, .sv (.one (.ptr 2 0))), (11, .sv (.one (.ptr 3 0))), (13, .sv (.one (I (wr (n + 1))))), (14, .sv (.one (I x14))), (26, .sv (.one (B (e_2.fE1 == 1))))], [.gone, .box [I t.fLetters, I t.fStart, LS (lsT St46.ty) t.fNext, LS intT t.fMark] 45 true, .box [I s.fE0, I s.fE1, I s.fE2, I s.fE3, I s.fE4] 120 false, .box [I e_2.fE0, I e_2.fE1] 46 false]⟩ (by kernel_rfl) ?_
    refine WL.nil ?_
    refine En.cond (b := (e_2.fE1 == 1)) (by kernel_rfl) (fun hb => ?_) (fun hb => ?_)
    · replace h := h.1 hb
      refine En.seq ?_
      refine En.region ?_
      refine WL.val hn (by rfl) (val_indexP (k := 0) 3 0 0 ht rfl Try.underlying46 (by rfl) (by rfl) (by rfl) (by rfl) (by decide) (by rfl)) (by rfl) ?_
      refine WL.run ht hn 2 ⟨[(10, .sv (.one (I e_2.fE0)))], [.gone, .gone, .gone, .gone]⟩ (by kernel_rfl) ?_
      refine WL.nil ?_
      refine En.ret ?_
      exact En.back ht e_2.fE0 h (by kernel_rfl) rfl
    · replace h := h.2 hb
      refine En.skip ?_
      refine En.seq ?_
      refine En.seq ?_
      refine En.region ?_
      refine WL.run ht hn 1 ⟨[(1, .sv (.one (B first))), (3, .sv (.one (I letter))), (5, .sv (.one (.ptr 1 0))), (6, .sv (.one (.ptr 2 0))), (11, .sv (.one (.ptr 3 0))), (13, .sv (.one (I (wr (n + 1))))), (14, .sv (.one (I x14))), (29, .sv (.one (B first)))], [.gone, .box [I t.fLetters, I t.fStart, LS (lsT St46.ty) t.fNext, LS intT t.fMark] 45 true, .box [I s.fE0, I s.fE1, I s.fE2, I s.fE3, I s.fE4] 120 false, .box [I e_2.fE0, I e_2.fE1] 46 false]⟩ (by kernel_rfl) ?_
      refine WL.nil ?_
      refine En.cond (b := first) (by kernel_rfl) (fun hb => ?_) (fun hb => ?_)
      · replace h := h.1 hb
        refine En.seq ?_
        refine En.region ?_
        refine WL.run ht hn 1 ⟨[(10, .sv (.one (I (-1))))], [.gone, .gone, .gone, .gone]⟩ (by kernel_rfl) ?_
        refine WL.nil ?_
        refine En.ret ?_
        exact En.back ht (-1) h (by kernel_rfl) rfl
      · replace h := h.2 hb
        refine En.skip ?_
        refine En.seq ?_
        refine En.region ?_
        refine WL.val hn (by rfl) (val_indexP (k := 0) 3 0 0 ht rfl Try.underlying46 (by rfl) (by rfl) (by rfl) (by rfl) (by decide) (by rfl)) (by rfl) ?_
        refine WL.run ht hn 1 ⟨[(1, .sv (.one (B first))), (3, .sv (.one (I letter))), (5, .sv (.one (.ptr 1 0))), (6, .sv (.one (.ptr 2 0))), (13, .sv (.one (I (wr (n + 1))))), (14, .sv (.one (I x14))), (31, .sv (.one (I e_2.fE0)))], [.gone, .box [I t.fLetters, I t.fStart, LS (lsT St46.ty) t.fNext, LS intT t.fMark] 45 true, .box [I s.fE0, I s.fE1, I s.fE2, I s.fE3, I s.fE4] 120 false, .gone]⟩ (by kernel_rfl) ?_
        have hk := h.1
        replace h := h.2
        refine WL.val hn (by rfl) (val_indexP (k := e_2.fE0) 2 0 ((e_2.fE0 : Int).toNat) ht rfl Try.underlying120 (by rfl) (by rfl) (by rfl) (by rfl) hk (by simp)) (by rfl) ?_
        refine WL.val hn (by rfl) (val_loadPV ([s.fE0, s.fE1, s.fE2, s.fE3, s.fE4] : List Int) (k := e_2.fE0) ht rfl (by rfl) (by rfl) (by rfl) (by rfl) (by rfl) (by rfl) hk) (by rfl) ?_
        refine WL.run ht hn 1 ⟨[(1, .sv (.one (B first))), (2, .sv (.one (I (arrG ([s.fE0, s.fE1, s.fE2, s.fE3, s.fE4] : List Int) e_2.fE0)))), (3, .sv (.one (I letter))), (5, .sv (.one (.ptr 1 0))), (6, .sv (.one (.ptr 2 0))), (13, .sv (.one (I (wr (n + 1))))), (14, .sv (.one (I x14)))], [.gone, .box [I t.fLetters, I t.fStart, LS (lsT St46.ty) t.fNext, LS intT t.fMark] 45 true, .box [I s.fE0, I s.fE1, I s.fE2, I s.fE3, I s.fE4] 120 false, .gone]⟩ (by kernel_rfl) ?_
        refine WL.nil ?_
        refine En.seq ?_
        refine En.region ?_
        refine WL.run ht hn 2 ⟨[(1, .sv (.one (B first))), (2, .sv (.one (I (arrG ([s.fE0, s.fE1, s.fE2, s.fE3, s.fE4] : List Int) e_2.fE0)))), (3, .sv (.one (I letter))), (5, .sv (.one (.ptr 1 0))), (6, .sv (.one (.ptr 2 0))), (13, .sv (.one (I (wr (n + 1))))), (14, .sv (.one (I x14))), (35, .sv (.one (B (decide ((arrG ([s.fE0, s.fE1, s.fE2, s.fE3, s.fE4] : List Int) e_2.fE0) < 0)))))], [.gone, .box [I t.fLetters, I t.fStart, LS (lsT St46.ty) t.fNext, LS intT t.fMark] 45 true, .box [I s.fE0, I s.fE1, I s.fE2, I s.fE3, I s.fE4] 120 false, .gone]⟩ (by kernel_rfl) ?_
        refine WL.nil ?_
        refine En.cond (b := (decide ((arrG ([s.fE0, s.fE1, s.fE2, s.fE3, s.fE4] : List Int) e_2.fE0) < 0))) (by kernel_rfl) (fun hb => ?_) (fun hb => ?_)
        · replace h := h.1 hb
          refine En.seq ?_
          refine En.region ?_
          refine WL.run ht hn 1 ⟨[(10, .sv (.one (I (-1))))], [.gone, .gone, .gone, .gone]⟩ (by kernel_rfl) ?_
          refine WL.nil ?_
          refine En.ret ?_
          exact En.back ht (-1) h (by kernel_rfl) rfl
        · replace h := h.2 hb
          refine En.skip ?_
          refine En.region ?_
          refine WL.run ht hn 2 ⟨[(1, .sv (.one (B first))), (2, .sv (.one (I (arrG ([s.fE0, s.fE1, s.fE2, s.fE3, s.fE4] : List Int) e_2.fE0)))), (3, .sv (.one (I letter))), (5, .sv (.one (.ptr 1 0))), (6, .sv (.one (.ptr 2 0))), (13, .sv (.one (I (wr (n + 1))))), (14, .sv (.one (I (wr (x14 + 1)))))], [.gone, .box [I t.fLetters, I t.fStart, LS (lsT St46.ty) t.fNext, LS intT t.fMark] 45 true, .box [I s.fE0, I s.fE1, I s.fE2, I s.fE3, I s.fE4] 120 false, .gone]⟩ (by kernel_rfl) ?_
          refine WL.nil ?_
          exact En.at (I := fun zz => Inv zz.1 zz.2 ∧ mu zz.1 zz.2 < mu x2 x14) (T := fun zz => ⟨[(1, .sv (.one (B first))), (2, .sv (.one (I zz.1))), (3, .sv (.one (I letter))), (5, .sv (.one (.ptr 1 0))), (6, .sv (.one (.ptr 2 0))), (13, .sv (.one (I (wr (n + 1))))), (14, .sv (.one (I zz.2)))], [.gone, .box [I t.fLetters, I t.fStart, LS (lsT St46.ty) t.fNext, LS intT t.fMark] 45 true, .box [I s.fE0, I s.fE1, I s.fE2, I s.fE3, I s.fE4] 120 false]⟩) ((arrG ([s.fE0, s.fE1, s.fE2, s.fE3, s.fE4] : List Int) e_2.fE0), (wr (x14 + 1))) h (by kernel_rfl)
  · replace h := h.2 hb
    refine En.exit rfl ?_
    refine En.seq ?_
    refine En.region ?_
    refine WL.run ht hn 1 ⟨[(10, .sv (.one (I (-1))))], [.gone, .gone, .gone]⟩ (by kernel_rfl) ?_
    refine WL.nil ?_
    refine En.ret ?_
    exact En.back ht (-1) h (by kernel_rfl) rfl
theorem en69 : ∀ args w, (callFunc 69 args).run Try.prog w = .ok (.enter 69 args) w := enters_of Try.func69 (by kernel_rfl) rfl
def tabC (s : TwoTable) : List Int := [s.fE0, s.fE1, s.fE2, s.fE3, s.fE4]
def tabF (s : TwoTable) (k : Int) : Int := arrG (tabC s) k
def TabIn (n : Nat) (s : TwoTable) : Prop := ∀ k : Int, 0 ≤ k ∧ k < 5 → -1 ≤ tabF s k ∧ tabF s k < (n : Int)
def lvR (t : ApiTwoWay) (s : TwoTable) (first : Bool) (q a : Int) : Int := if first = true then (if (cel t q a).fE1 == 1 then (cel t q a).fE0 else -1) else lvt (tabF s) (fun q => (cel t q a).fE1 == 1) (fun q => (cel t q a).fE0) (t.fNext.length + 1) q
def lvF (t : ApiTwoWay) (z : TwoTable × Bool × Int × Int) : Int := lvR t z.1 z.2.1 z.2.2.1 z.2.2.2
def LvPre (t : ApiTwoWay) (n : Int) (s : TwoTable) (first : Bool) (q a : Int) : Prop := TwOk t ∧ n = (t.fNext.length : Int) ∧ (0 ≤ q ∧ q < n) ∧ (0 ≤ a ∧ a < t.fLetters + 2) ∧ (first = false → TabIn t.fNext.length s)
def lvDom (t : ApiTwoWay) (n : Int) (z : TwoTable × Bool × Int × Int) : Prop := LvPre t n z.1 z.2.1 z.2.2.1 z.2.2.2
theorem leaves_ct (s : TwoTable) (first : Bool) (q : Int) (letter : Int) (n : Int) (t : ApiTwoWay) (hd : LvPre t n s first q letter) : Ct 69 [.sv (.agg [I s.fE0, I s.fE1, I s.fE2, I s.fE3, I s.fE4]), .sv (.one (B first)), .sv (.one (I q)), .sv (.one (I letter)), .sv (.one (.ptr 0 0)), .sv (.one (.ptr 1 0))] [.box [I n] 3 true, .box [I t.fLetters, I t.fStart, LS (lsT St46.ty) t.fNext, LS intT t.fMark] 45 true] (fun (_ : Unit) => True) (fun _ => .sv (.one (I (lvR t s first q letter)))) := by
  refine (leaves_walk s first q letter n t (fun res_ => res_ = (lvR t s first q letter)) ?_).fun
  obtain ⟨ht, rfl, hq, ha, htab⟩ := hd
  have hsz := ht.size
  have hw : wr ((t.fNext.length : Int) + 1) = ((t.fNext.length + 1 : Nat) : Int) := wsucc (by omega)
  unfold leaves_vc
  rw [hw]
  cases first with
  | true =>
    obtain ⟨c1, c2, c3⟩ := cel_in ht hq ha
    refine ⟨fun p i => p = q ∧ i = 0, fun _ _ => 0, ⟨rfl, rfl⟩, ?_⟩
    rintro p i ⟨rfl, rfl⟩
    refine ⟨fun _ => ⟨_, idx_of [] hq.1 hq.2, _, idx_of (⟨0, 1⟩ : St46) ha.1 c1, fun h => ?_, fun h => ⟨fun _ => ?_, fun h => by cases h⟩⟩, fun h => absurd (of_decide_eq_false h) (by omega)⟩
    · show _ = lvR t s true p letter
      unfold lvR
      rw [if_pos rfl, if_pos (show ((cel t p letter).fE1 == 1) = true from h)]
      rfl
    · show _ = lvR t s true p letter
      unfold lvR
      rw [if_pos rfl, if_neg (by rw [show ((cel t p letter).fE1 == 1) = false from h]; decide)]
  | false =>
    have htab := htab rfl
    refine ⟨fun p i => ∃ k : Nat, i = k ∧ k ≤ t.fNext.length + 1 ∧ (0 ≤ p ∧ p < (t.fNext.length : Int)) ∧ lvt (tabF s) (fun q => (cel t q letter).fE1 == 1) (fun q => (cel t q letter).fE0) (t.fNext.length + 1 - k) p = lvR t s false q letter, fun _ i => t.fNext.length + 1 - i.toNat, ⟨0, rfl, by omega, hq, rfl⟩, ?_⟩
    rintro p i ⟨k, rfl, hk, hp, he⟩
    obtain ⟨c1, c2, c3⟩ := cel_in ht hp ha
    refine ⟨fun hb => ?_, fun hb => ?_⟩
    · have hlt := dlt hb
      rw [show t.fNext.length + 1 - k = (t.fNext.length - k) + 1 by omega, lvt] at he
      refine ⟨_, idx_of [] hp.1 hp.2, _, idx_of (⟨0, 1⟩ : St46) ha.1 c1, fun h => ?_, fun h => ⟨(fun h => by cases h), fun _ => ⟨⟨c2.1, by show (cel t p letter).fE0 < 5; omega⟩, fun h2 => ?_, fun h2 => ?_⟩⟩⟩
      · rw [if_pos (show ((cel t p letter).fE1 == 1) = true from h)] at he
        exact he
      · rw [if_neg (by rw [show ((cel t p letter).fE1 == 1) = false from h]; decide), if_pos (show tabF s (cel t p letter).fE0 < 0 from of_decide_eq_true h2)] at he
        exact he
      · have h2 : ¬ tabF s (cel t p letter).fE0 < 0 := of_decide_eq_false h2
        rw [if_neg (by rw [show ((cel t p letter).fE1 == 1) = false from h]; decide), if_neg h2] at he
        have := htab (cel t p letter).fE0 ⟨c2.1, by omega⟩
        refine ⟨⟨k + 1, wsucc (by omega), by omega, ⟨by show 0 ≤ tabF s (cel t p letter).fE0; omega, this.2⟩, ?_⟩, ?_⟩
        · rw [show t.fNext.length + 1 - (k + 1) = t.fNext.length - k by omega]
          exact he
        · show t.fNext.length + 1 - (wr ((k : Int) + 1)).toNat < t.fNext.length + 1 - (k : Int).toNat
          rw [wsucc (by omega)]
          omega
    · have : k = t.fNext.length + 1 := by have := dge hb; omega
      subst this
      rw [Nat.sub_self] at he
      exact he
def twoGo_vc (s : TwoTable) (letter : Int) (n : Int) (domleaves : ((TwoTable × Bool × Int × Int) → Prop)) (leaves : ((TwoTable × Bool × Int × Int) → Int)) (Q : TwoTable → Prop) : Prop :=
  ∃ (Inv : Int → TwoTable → Prop) (mu : Int → TwoTable → Nat), Inv 0 (TwoTable.mk (-1) (-1) (-1) (-1) (-1)) ∧
  ∀ (x11 : Int) (y4 : TwoTable) , Inv x11 y4 → (IfP (decide (x11 < n)) ((domleaves (s, false, x11, letter)) ∧
  (0 ≤ x11 ∧ x11 < 5) ∧
  (Inv (wr (x11 + 1)) (TwoTable.mk (setE x11 0 (leaves (s, false, x11, letter)) y4.fE0) (setE x11 1 (leaves (s, false, x11, letter)) y4.fE1) (setE x11 2 (leaves (s, false, x11, letter)) y4.fE2) (setE x11 3 (leaves (s, false, x11, letter)) y4.fE3) (setE x11 4 (leaves (s, false, x11, letter)) y4.fE4)) ∧ mu (wr (x11 + 1)) (TwoTable.mk (setE x11 0 (leaves (s, false, x11, letter)) y4.fE0) (setE x11 1 (leaves (s, false, x11, letter)) y4.fE1) (setE x11 2 (leaves (s, false, x11, letter)) y4.fE2) (setE x11 3 (leaves (s, false, x11, letter)) y4.fE3) (setE x11 4 (leaves (s, false, x11, letter)) y4.fE4)) < mu x11 y4)) (∃ J : Int → Prop, (IfP (decide (s.fE4 ≥ 0)) ((domleaves (s, false, s.fE4, letter)) ∧
  J (leaves (s, false, s.fE4, letter))) (J y4.fE4)) ∧
  (∀ (y44 : Int), J y44 → Q (TwoTable.mk y4.fE0 y4.fE1 y4.fE2 y4.fE3 y44))))
theorem twoGo_walk (s : TwoTable) (letter : Int) (n : Int) (domleaves : ((TwoTable × Bool × Int × Int) → Prop)) (leaves : ((TwoTable × Bool × Int × Int) → Int)) (Q : TwoTable → Prop) (h : twoGo_vc s letter n domleaves leaves Q) : Ct 71 [.sv (.agg [I s.fE0, I s.fE1, I s.fE2, I s.fE3, I s.fE4]), .sv (.one (I letter)), .sv (.one (.ptr 0 0)), .sv (.one (.ptr 1 0))] [.box [I n] 3 true, .box [.rd (fvR (fun (x : (TwoTable × Bool × Int × Int)) => [.sv (.agg [I x.1.fE0, I x.1.fE1, I x.1.fE2, I x.1.fE3, I x.1.fE4]), .sv (.one (B x.2.1)), .sv (.one (I x.2.2.1)), .sv (.one (I x.2.2.2))]) (fun (r : Int) => .sv (.one (I r))) domleaves leaves)] 121 true] Q (fun (r : TwoTable) => .sv (.agg [I r.fE0, I r.fE1, I r.fE2, I r.fE3, I r.fE4])) := by
  have ht := tab_ok
  refine Ct.body Try.func71 rfl rfl rfl rfl (fun c hn => ?_)
  unfold twoGo_vc at h
  refine En.seq ?_
  refine En.region ?_
  refine WL.run ht hn 2 ⟨[(1, .sv (.one (I letter))), (2, .sv (.one (.ptr 0 0))), (3, .sv (.one (.ptr 1 0))), (4, .sv (.one (.ptr 2 0))), (6, .sv (.one (.ptr 3 0)))], [.box [I n] 3 true, .box [.rd (fvR (fun (x : (TwoTable × Bool × Int × Int)) => [.sv (.agg [I x.1.fE0, I x.1.fE1, I x.1.fE2, I x.1.fE3, I x.1.fE4]), .sv (.one (B x.2.1)), .sv (.one (I x.2.2.1)), .sv (.one (I x.2.2.2))]) (fun (r : Int) => .sv (.one (I r))) domleaves leaves)] 121 true, .box [I s.fE0, I s.fE1, I s.fE2, I s.fE3, I s.fE4] 120 false, .box [I 0, I 0, I 0, I 0, I 0] 120 false]⟩ (by kernel_rfl) ?_
  refine WL.nil ?_
  refine En.seq ?_
  refine En.region ?_
  refine WL.run ht hn 3 ⟨[(1, .sv (.one (I letter))), (2, .sv (.one (.ptr 0 0))), (3, .sv (.one (.ptr 1 0))), (4, .sv (.one (.ptr 2 0))), (6, .sv (.one (.ptr 3 0))), (7, .sv (.one (.ptr 4 0)))], [.box [I n] 3 true, .box [.rd (fvR (fun (x : (TwoTable × Bool × Int × Int)) => [.sv (.agg [I x.1.fE0, I x.1.fE1, I x.1.fE2, I x.1.fE3, I x.1.fE4]), .sv (.one (B x.2.1)), .sv (.one (I x.2.2.1)), .sv (.one (I x.2.2.2))]) (fun (r : Int) => .sv (.one (I r))) domleaves leaves)] 121 true, .box [I s.fE0, I s.fE1, I s.fE2, I s.fE3, I s.fE4] 120 false, .box [I 0, I 0, I 0, I 0, I 0] 120 false, .box [I (-1), I (-1), I (-1), I (-1), I (-1)] 120 false]⟩ (by kernel_rfl) ?_
  refine WL.nil ?_
  refine En.seq ?_
  refine En.seq ?_
  refine En.region ?_
  refine WL.run ht hn 2 ⟨[(1, .sv (.one (I letter))), (3, .sv (.one (.ptr 1 0))), (4, .sv (.one (.ptr 2 0))), (6, .sv (.one (.ptr 3 0))), (7, .sv (.one (.ptr 4 0))), (10, .sv (.one (I n))), (11, .sv (.one (I 0)))], [.gone, .box [.rd (fvR (fun (x : (TwoTable × Bool × Int × Int)) => [.sv (.agg [I x.1.fE0, I x.1.fE1, I x.1.fE2, I x.1.fE3, I x.1.fE4]), .sv (.one (B x.2.1)), .sv (.one (I x.2.2.1)), .sv (.one (I x.2.2.2))]) (fun (r : Int) => .sv (.one (I r))) domleaves leaves)] 121 true, .box [I s.fE0, I s.fE1, I s.fE2, I s.fE3, I s.fE4] 120 false, .box [I 0, I 0, I 0, I 0, I 0] 120 false, .box [I (-1), I (-1), I (-1), I (-1), I (-1)] 120 false]⟩ (by kernel_rfl) ?_
  refine WL.nil ?_
  refine En.block ?_
  obtain ⟨Inv, mu, h0, hI⟩ := h
  refine En.loop (σ := Int × TwoTable) (fun zz => Inv zz.1 zz.2) (fun zz => mu zz.1 zz.2) (fun zz => ⟨[(1, .sv (.one (I letter))), (3, .sv (.one (.ptr 1 0))), (4, .sv (.one (.ptr 2 0))), (6, .sv (.one (.ptr 3 0))), (7, .sv (.one (.ptr 4 0))), (10, .sv (.one (I n))), (11, .sv (.one (I zz.1)))], [.gone, .box [.rd (fvR (fun (x : (TwoTable × Bool × Int × Int)) => [.sv (.agg [I x.1.fE0, I x.1.fE1, I x.1.fE2, I x.1.fE3, I x.1.fE4]), .sv (.one (B x.2.1)), .sv (.one (I x.2.2.1)), .sv (.one (I x.2.2.2))]) (fun (r : Int) => .sv (.one (I r))) domleaves leaves)] 121 true, .box [I s.fE0, I s.fE1, I s.fE2, I s.fE3, I s.fE4] 120 false, .box [I 0, I 0, I 0, I 0, I 0] 120 false, .box [I zz.2.fE0, I zz.2.fE1, I zz.2.fE2, I zz.2.fE3, I zz.2.fE4] 120 false]⟩) (0, (TwoTable.mk (-1) (-1) (-1) (-1) (-1))) h0 (sub_ok (by kernel_rfl)) ?_
  rintro ⟨x11, y4⟩ h
  replace h := hI _ _ h
  show En c ⟨[(1, .sv (.one (I letter))), (3, .sv (.one (.ptr 1 0))), (4, .sv (.one (.ptr 2 0))), (6, .sv (.one (.ptr 3 0))), (7, .sv (.one (.ptr 4 0))), (10, .sv (.one (I n))), (11, .sv (.one (I x11)))], [.gone, .box [.rd (fvR (fun (x : (TwoTable × Bool × Int × Int)) => [.sv (.agg [I x.1.fE0, I x.1.fE1, I x.1.fE2, I x.1.fE3, I x.1.fE4]), .sv (.one (B x.2.1)), .sv (.one (I x.2.2.1)), .sv (.one (I x.2.2.2))]) (fun (r : Int) => .sv (.one (I r))) domleaves leaves)] 121 true, .box [I s.fE0, I s.fE1, I s.fE2, I s.fE3, I s.fE4] 120 false, .box [I 0, I 0, I 0, I 0, I 0] 120 false, .box [I y4.fE0, I y4.fE1, I y4.fE2, I y4.fE3, I y4.fE4] 120 false]⟩ _
  refine En.seq ?_
  refine En.region ?_
  refine WL.run ht hn 1 ⟨[(1, .sv (.one (I letter))), (3, .sv (.one (.ptr 1 0))), (4, .sv (.one (.ptr 2 0))), (6, .sv (.one (.ptr 3 0))), (7, .sv (.one (.ptr 4 0))), (10, .sv (.one (I n))), (11, .sv (.one (I x11))), (12, .sv (.one (B (decide (x11 < n)))))], [.gone, .box [.rd (fvR (fun (x : (TwoTable × Bool × Int × Int)) => [.sv (.agg [I x.1.fE0, I x.1.fE1, I x.1.fE2, I x.1.fE3, I x.1.fE4]), .sv (.one (B x.2.1)), .sv (.one (I x.2.2.1)), .sv (.one (I x.2.2.2))]) (fun (r : Int) => .sv (.one (I r))) domleaves leaves)] 121 true, .box [I s.fE0, I s.fE1, I s.fE2, I s.fE3, I s.fE4] 120 false, .box [I 0, I 0, I 0, I 0, I 0] 120 false, .box [I y4.fE0, I y4.fE1, I y4.fE2, I y4.fE3, I y4.fE4] 120 false]⟩ (by kernel_rfl) ?_
  refine WL.nil ?_
  refine En.seq ?_
  refine En.cond (b := (decide (x11 < n))) (by kernel_rfl) (fun hb => ?_) (fun hb => ?_)
  · replace h := h.1 hb
    refine En.skip ?_
    refine En.seq ?_
    refine En.block ?_
    refine En.seq ?_
    refine En.region ?_
    refine WL.run ht hn 2 ⟨[(1, .sv (.one (I letter))), (3, .sv (.one (.ptr 1 0))), (4, .sv (.one (.ptr 2 0))), (6, .sv (.one (.ptr 3 0))), (7, .sv (.one (.ptr 4 0))), (8, .sv (.one (I x11))), (10, .sv (.one (I n))), (11, .sv (.one (I x11)))], [.gone, .box [.rd (fvR (fun (x : (TwoTable × Bool × Int × Int)) => [.sv (.agg [I x.1.fE0, I x.1.fE1, I x.1.fE2, I x.1.fE3, I x.1.fE4]), .sv (.one (B x.2.1)), .sv (.one (I x.2.2.1)), .sv (.one (I x.2.2.2))]) (fun (r : Int) => .sv (.one (I r))) domleaves leaves)] 121 true, .box [I s.fE0, I s.fE1, I s.fE2, I s.fE3, I s.fE4] 120 false, .box [I 0, I 0, I 0, I 0, I 0] 120 false, .box [I y4.fE0, I y4.fE1, I y4.fE2, I y4.fE3, I y4.fE4] 120 false]⟩ (by kernel_rfl) ?_
    refine WL.nil ?_
    refine En.region ?_
    refine WL.run ht hn 5 ⟨[(1, .sv (.one (I letter))), (3, .sv (.one (.ptr 1 0))), (4, .sv (.one (.ptr 2 0))), (6, .sv (.one (.ptr 3 0))), (7, .sv (.one (.ptr 4 0))), (10, .sv (.one (I n))), (11, .sv (.one (I x11))), (14, .sv (.one (I x11))), (15, .sv (.one (.rd (fvR (fun (x : (TwoTable × Bool × Int × Int)) => [.sv (.agg [I x.1.fE0, I x.1.fE1, I x.1.fE2, I x.1.fE3, I x.1.fE4]), .sv (.one (B x.2.1)), .sv (.one (I x.2.2.1)), .sv (.one (I x.2.2.2))]) (fun (r : Int) => .sv (.one (I r))) domleaves leaves)))), (16, .sv (.agg [I s.fE0, I s.fE1, I s.fE2, I s.fE3, I s.fE4])), (17, .sv (.one (I x11))), (18, .sv (.one (I letter)))], [.gone, .box [.rd (fvR (fun (x : (TwoTable × Bool × Int × Int)) => [.sv (.agg [I x.1.fE0, I x.1.fE1, I x.1.fE2, I x.1.fE3, I x.1.fE4]), .sv (.one (B x.2.1)), .sv (.one (I x.2.2.1)), .sv (.one (I x.2.2.2))]) (fun (r : Int) => .sv (.one (I r))) domleaves leaves)] 121 true, .box [I s.fE0, I s.fE1, I s.fE2, I s.fE3, I s.fE4] 120 false, .box [I 0, I 0, I 0, I 0, I 0] 120 false, .box [I y4.fE0, I y4.fE1, I y4.fE2, I y4.fE3, I y4.fE4] 120 false]⟩ (by kernel_rfl) ?_
    have hp := h.1
    replace h := h.2
    refine WL.mt0 (K := []) (p := none) hn (by rfl) (mt_callv (s, false, x11, letter) hp rfl (by rfl) (by rfl) (by rfl) (by rfl)) (by rfl) (by rfl) (by rfl) ?_
    have hk := h.1
    replace h := h.2
    refine WL.val hn (by rfl) (val_indexP (k := x11) 4 0 ((x11 : Int).toNat) ht rfl Try.underlying120 (by rfl) (by rfl) (by rfl) (by rfl) hk (by simp)) (by rfl) ?_
    refine WL.storePV ([y4.fE0, y4.fE1, y4.fE2, y4.fE3, y4.fE4] : List Int) (k := x11) (v := (leaves (s, false, x11, letter))) ht hn (by rfl) rfl (by rfl) (by rfl) (by rfl) (by rfl) (by rfl) (by rfl) hk (by rfl) (by rfl) ?_
    refine WL.nil ?_
    refine En.region ?_
    refine WL.run ht hn 2 ⟨[(1, .sv (.one (I letter))), (3, .sv (.one (.ptr 1 0))), (4, .sv (.one (.ptr 2 0))), (6, .sv (.one (.ptr 3 0))), (7, .sv (.one (.ptr 4 0))), (10, .sv (.one (I n))), (11, .sv (.one (I (wr (x11 + 1)))))], [.gone, .box [.rd (fvR (fun (x : (TwoTable × Bool × Int × Int)) => [.sv (.agg [I x.1.fE0, I x.1.fE1, I x.1.fE2, I x.1.fE3, I x.1.fE4]), .sv (.one (B x.2.1)), .sv (.one (I x.2.2.1)), .sv (.one (I x.2.2.2))]) (fun (r : Int) => .sv (.one (I r))) domleaves leaves)] 121 true, .box [I s.fE0, I s.fE1, I s.fE2, I s.fE3, I s.fE4] 120 false, .box [I 0, I 0, I 0, I 0, I 0] 120 false, .box [I (setE x11 0 (leaves (s, false, x11, letter)) y4.fE0), I (setE x11 1 (leaves (s, false, x11, letter)) y4.fE1), I (setE x11 2 (leaves (s, false, x11, letter)) y4.fE2), I (setE x11 3 (leaves (s, false, x11, letter)) y4.fE3), I (setE x11 4 (leaves (s, false, x11, letter)) y4.fE4)] 120 false]⟩ (by kernel_rfl) ?_
    refine WL.nil ?_
    exact En.at (I := fun zz => Inv zz.1 zz.2 ∧ mu zz.1 zz.2 < mu x11 y4) (T := fun zz => ⟨[(1, .sv (.one (I letter))), (3, .sv (.one (.ptr 1 0))), (4, .sv (.one (.ptr 2 0))), (6, .sv (.one (.ptr 3 0))), (7, .sv (.one (.ptr 4 0))), (10, .sv (.one (I n))), (11, .sv (.one (I zz.1)))], [.gone, .box [.rd (fvR (fun (x : (TwoTable × Bool × Int × Int)) => [.sv (.agg [I x.1.fE0, I x.1.fE1, I x.1.fE2, I x.1.fE3, I x.1.fE4]), .sv (.one (B x.2.1)), .sv (.one (I x.2.2.1)), .sv (.one (I x.2.2.2))]) (fun (r : Int) => .sv (.one (I r))) domleaves leaves)] 121 true, .box [I s.fE0, I s.fE1, I s.fE2, I s.fE3, I s.fE4] 120 false, .box [I 0, I 0, I 0, I 0, I 0] 120 false, .box [I zz.2.fE0, I zz.2.fE1, I zz.2.fE2, I zz.2.fE3, I zz.2.fE4] 120 false]⟩) ((wr (x11 + 1)), (TwoTable.mk (setE x11 0 (leaves (s, false, x11, letter)) y4.fE0) (setE x11 1 (leaves (s, false, x11, letter)) y4.fE1) (setE x11 2 (leaves (s, false, x11, letter)) y4.fE2) (setE x11 3 (leaves (s, false, x11, letter)) y4.fE3) (setE x11 4 (leaves (s, false, x11, letter)) y4.fE4))) h (by kernel_rfl)
  · replace h := h.2 hb
    refine En.exit rfl ?_
    obtain ⟨J, h, hJ⟩ := h
    refine En.seqJ (σ := Int) (fun zz => J zz) (fun zz => ⟨[(6, .sv (.one (.ptr 3 0))), (7, .sv (.one (.ptr 4 0)))], [.gone, .gone, .gone, .box [I 0, I 0, I 0, I 0, I 0] 120 false, .box [I y4.fE0, I y4.fE1, I y4.fE2, I y4.fE3, I zz] 120 false]⟩) ?_ ?_
    · refine En.seq ?_
      refine En.region ?_
      refine WL.val hn (by rfl) (val_indexP (k := 4) 2 0 4 ht rfl Try.underlying120 (by rfl) (by rfl) (by rfl) (by rfl) (by decide) (by rfl)) (by rfl) ?_
      refine WL.run ht hn 2 ⟨[(1, .sv (.one (I letter))), (3, .sv (.one (.ptr 1 0))), (4, .sv (.one (.ptr 2 0))), (6, .sv (.one (.ptr 3 0))), (7, .sv (.one (.ptr 4 0))), (24, .sv (.one (B (decide (s.fE4 ≥ 0)))))], [.gone, .box [.rd (fvR (fun (x : (TwoTable × Bool × Int × Int)) => [.sv (.agg [I x.1.fE0, I x.1.fE1, I x.1.fE2, I x.1.fE3, I x.1.fE4]), .sv (.one (B x.2.1)), .sv (.one (I x.2.2.1)), .sv (.one (I x.2.2.2))]) (fun (r : Int) => .sv (.one (I r))) domleaves leaves)] 121 true, .box [I s.fE0, I s.fE1, I s.fE2, I s.fE3, I s.fE4] 120 false, .box [I 0, I 0, I 0, I 0, I 0] 120 false, .box [I y4.fE0, I y4.fE1, I y4.fE2, I y4.fE3, I y4.fE4] 120 false]⟩ (by kernel_rfl) ?_
      refine WL.nil ?_
      refine En.cond (b := (decide (s.fE4 ≥ 0))) (by kernel_rfl) (fun hb => ?_) (fun hb => ?_)
      · replace h := h.1 hb
        refine En.region ?_
        refine WL.run ht hn 2 ⟨[(1, .sv (.one (I letter))), (4, .sv (.one (.ptr 2 0))), (6, .sv (.one (.ptr 3 0))), (7, .sv (.one (.ptr 4 0))), (25, .sv (.one (.rd (fvR (fun (x : (TwoTable × Bool × Int × Int)) => [.sv (.agg [I x.1.fE0, I x.1.fE1, I x.1.fE2, I x.1.fE3, I x.1.fE4]), .sv (.one (B x.2.1)), .sv (.one (I x.2.2.1)), .sv (.one (I x.2.2.2))]) (fun (r : Int) => .sv (.one (I r))) domleaves leaves)))), (26, .sv (.agg [I s.fE0, I s.fE1, I s.fE2, I s.fE3, I s.fE4]))], [.gone, .gone, .box [I s.fE0, I s.fE1, I s.fE2, I s.fE3, I s.fE4] 120 false, .box [I 0, I 0, I 0, I 0, I 0] 120 false, .box [I y4.fE0, I y4.fE1, I y4.fE2, I y4.fE3, I y4.fE4] 120 false]⟩ (by kernel_rfl) ?_
        refine WL.val hn (by rfl) (val_indexP (k := 4) 2 0 4 ht rfl Try.underlying120 (by rfl) (by rfl) (by rfl) (by rfl) (by decide) (by rfl)) (by rfl) ?_
        refine WL.run ht hn 2 ⟨[(6, .sv (.one (.ptr 3 0))), (7, .sv (.one (.ptr 4 0))), (25, .sv (.one (.rd (fvR (fun (x : (TwoTable × Bool × Int × Int)) => [.sv (.agg [I x.1.fE0, I x.1.fE1, I x.1.fE2, I x.1.fE3, I x.1.fE4]), .sv (.one (B x.2.1)), .sv (.one (I x.2.2.1)), .sv (.one (I x.2.2.2))]) (fun (r : Int) => .sv (.one (I r))) domleaves leaves)))), (26, .sv (.agg [I s.fE0, I s.fE1, I s.fE2, I s.fE3, I s.fE4])), (28, .sv (.one (I s.fE4))), (29, .sv (.one (I letter)))], [.gone, .gone, .gone, .box [I 0, I 0, I 0, I 0, I 0] 120 false, .box [I y4.fE0, I y4.fE1, I y4.fE2, I y4.fE3, I y4.fE4] 120 false]⟩ (by kernel_rfl) ?_
        have hp := h.1
        replace h := h.2
        refine WL.mt0 (K := []) (p := none) hn (by rfl) (mt_callv (s, false, s.fE4, letter) hp rfl (by rfl) (by rfl) (by rfl) (by rfl)) (by rfl) (by rfl) (by rfl) ?_
        refine WL.val hn (by rfl) (val_indexP (k := 4) 4 0 4 ht rfl Try.underlying120 (by rfl) (by rfl) (by rfl) (by rfl) (by decide) (by rfl)) (by rfl) ?_
        refine WL.run ht hn 1 ⟨[(6, .sv (.one (.ptr 3 0))), (7, .sv (.one (.ptr 4 0)))], [.gone, .gone, .gone, .box [I 0, I 0, I 0, I 0, I 0] 120 false, .box [I y4.fE0, I y4.fE1, I y4.fE2, I y4.fE3, I (leaves (s, false, s.fE4, letter))] 120 false]⟩ (by kernel_rfl) ?_
        refine WL.nil ?_
        exact En.at (I := fun zz => J zz) (T := fun zz => ⟨[(6, .sv (.one (.ptr 3 0))), (7, .sv (.one (.ptr 4 0)))], [.gone, .gone, .gone, .box [I 0, I 0, I 0, I 0, I 0] 120 false, .box [I y4.fE0, I y4.fE1, I y4.fE2, I y4.fE3, I zz] 120 false]⟩) (leaves (s, false, s.fE4, letter)) h (by kernel_rfl)
      · replace h := h.2 hb
        refine En.skip ?_
        exact En.at (I := fun zz => J zz) (T := fun zz => ⟨[(6, .sv (.one (.ptr 3 0))), (7, .sv (.one (.ptr 4 0)))], [.gone, .gone, .gone, .box [I 0, I 0, I 0, I 0, I 0] 120 false, .box [I y4.fE0, I y4.fE1, I y4.fE2, I y4.fE3, I zz] 120 false]⟩) y4.fE4 h (by kernel_rfl)
    · intro y44 h
      replace h := hJ _ h
      show En c ⟨[(6, .sv (.one (.ptr 3 0))), (7, .sv (.one (.ptr 4 0)))], [.gone, .gone, .gone, .box [I 0, I 0, I 0, I 0, I 0] 120 false, .box [I y4.fE0, I y4.fE1, I y4.fE2, I y4.fE3, I y44] 120 false]⟩ _
      refine En.seq ?_
      refine En.region ?_
      refine WL.run ht hn 2 ⟨[(6, .sv (.one (.ptr 3 0)))], [.gone, .gone, .gone, .box [I y4.fE0, I y4.fE1, I y4.fE2, I y4.fE3, I y44] 120 false, .gone]⟩ (by kernel_rfl) ?_
      refine WL.nil ?_
      refine En.ret ?_
      exact En.back ht (TwoTable.mk y4.fE0 y4.fE1 y4.fE2 y4.fE3 y44) h (by kernel_rfl) rfl
theorem en71 : ∀ args w, (callFunc 71 args).run Try.prog w = .ok (.enter 71 args) w := enters_of Try.func71 (by kernel_rfl) rfl
def newTab (n : Int) (F : Int → Int) (x : Int) : TwoTable := ⟨if 0 < n then F 0 else -1, if 1 < n then F 1 else -1, if 2 < n then F 2 else -1, if 3 < n then F 3 else -1, x⟩
def goTab (n : Int) (lv : TwoTable × Bool × Int × Int → Int) (s : TwoTable) (a : Int) : TwoTable := newTab n (fun q => lv (s, false, q, a)) (if s.fE4 ≥ 0 then lv (s, false, s.fE4, a) else -1)
def goF (n : Int) (lv : TwoTable × Bool × Int × Int → Int) (z : TwoTable × Int) : TwoTable := goTab n lv z.1 z.2
def goDom (n : Int) (dom : TwoTable × Bool × Int × Int → Prop) (z : TwoTable × Int) : Prop := (0 ≤ n ∧ n ≤ 4) ∧ (∀ q, 0 ≤ q ∧ q < n → dom (z.1, false, q, z.2)) ∧ (z.1.fE4 ≥ 0 → dom (z.1, false, z.1.fE4, z.2))
theorem newTab_set {k : Nat} {F : Int → Int} (h : k < 4) : TwoTable.mk (setE k 0 (F k) (newTab k F (-1)).fE0) (setE k 1 (F k) (newTab k F (-1)).fE1) (setE k 2 (F k) (newTab k F (-1)).fE2) (setE k 3 (F k) (newTab k F (-1)).fE3) (setE k 4 (F k) (newTab k F (-1)).fE4) = newTab ((k + 1 : Nat) : Int) F (-1) := by
  have : k = 0 ∨ k = 1 ∨ k = 2 ∨ k = 3 := by omega
  rcases this with rfl | rfl | rfl | rfl <;> simp [newTab, setE]
theorem twoGo_ct (s : TwoTable) (letter : Int) (n : Int) (domleaves : ((TwoTable × Bool × Int × Int) → Prop)) (leaves : ((TwoTable × Bool × Int × Int) → Int)) (hd : (0 ≤ n ∧ n ≤ 4) ∧ (∀ q, 0 ≤ q ∧ q < n → domleaves (s, false, q, letter)) ∧ (s.fE4 ≥ 0 → domleaves (s, false, s.fE4, letter))) : Ct 71 [.sv (.agg [I s.fE0, I s.fE1, I s.fE2, I s.fE3, I s.fE4]), .sv (.one (I letter)), .sv (.one (.ptr 0 0)), .sv (.one (.ptr 1 0))] [.box [I n] 3 true, .box [.rd (fvR (fun (x : (TwoTable × Bool × Int × Int)) => [.sv (.agg [I x.1.fE0, I x.1.fE1, I x.1.fE2, I x.1.fE3, I x.1.fE4]), .sv (.one (B x.2.1)), .sv (.one (I x.2.2.1)), .sv (.one (I x.2.2.2))]) (fun (r : Int) => .sv (.one (I r))) domleaves leaves)] 121 true] (fun (_ : Unit) => True) (fun _ => .sv (.agg [I (goTab n leaves s letter).fE0, I (goTab n leaves s letter).fE1, I (goTab n leaves s letter).fE2, I (goTab n leaves s letter).fE3, I (goTab n leaves s letter).fE4])) := by
  refine (twoGo_walk s letter n domleaves leaves (fun res_ => res_ = (goTab n leaves s letter)) ?_).fun
  obtain ⟨hn, h1, h2⟩ := hd
  obtain ⟨N, rfl⟩ := Int.eq_ofNat_of_zero_le hn.1
  refine ⟨fun i y => ∃ k : Nat, i = k ∧ k ≤ N ∧ y = newTab k (fun q => leaves (s, false, q, letter)) (-1), fun i _ => N - i.toNat, ⟨0, rfl, Nat.zero_le _, by simp [newTab]⟩, ?_⟩
  rintro i y ⟨k, rfl, hk, rfl⟩
  refine ⟨fun hb => ?_, fun hb => ?_⟩
  · have hlt := dlt hb
    exact ⟨h1 _ ⟨by omega, by omega⟩, ⟨by omega, by omega⟩, ⟨k + 1, wsucc (by omega), hlt, newTab_set (F := fun q => leaves (s, false, q, letter)) (by omega)⟩, mu_up hlt (by omega)⟩
  · have : k = N := by have := dge hb; omega
    subst this
    refine ⟨fun x => x = (if s.fE4 ≥ 0 then leaves (s, false, s.fE4, letter) else -1), ⟨fun h => ⟨h2 (of_decide_eq_true h), ?_⟩, fun h => ?_⟩, ?_⟩
    · show _ = _
      rw [if_pos (of_decide_eq_true h)]
    · show _ = _
      rw [if_neg (of_decide_eq_false h)]
      rfl
    · rintro x rfl
      rfl
def twoMark_vc (s : TwoTable) (domleaves : ((TwoTable × Bool × Int × Int) → Prop)) (leaves : ((TwoTable × Bool × Int × Int) → Int)) (t : ApiTwoWay) (Q : Int → Prop) : Prop :=
  IfP (decide (s.fE4 < 0)) (Q 0) ((domleaves (s, false, s.fE4, (wr (t.fLetters + 1)))) ∧
  IfP (decide ((leaves (s, false, s.fE4, (wr (t.fLetters + 1)))) ≥ 0)) (∃ e, idx t.fMark (leaves (s, false, s.fE4, (wr (t.fLetters + 1)))) = some e ∧
  Q e) (Q 0))
theorem twoMark_walk (s : TwoTable) (domleaves : ((TwoTable × Bool × Int × Int) → Prop)) (leaves : ((TwoTable × Bool × Int × Int) → Int)) (t : ApiTwoWay) (Q : Int → Prop) (h : twoMark_vc s domleaves leaves t Q) : Ct 72 [.sv (.agg [I s.fE0, I s.fE1, I s.fE2, I s.fE3, I s.fE4]), .sv (.one (.ptr 0 0)), .sv (.one (.ptr 1 0))] [.box [.rd (fvR (fun (x : (TwoTable × Bool × Int × Int)) => [.sv (.agg [I x.1.fE0, I x.1.fE1, I x.1.fE2, I x.1.fE3, I x.1.fE4]), .sv (.one (B x.2.1)), .sv (.one (I x.2.2.1)), .sv (.one (I x.2.2.2))]) (fun (r : Int) => .sv (.one (I r))) domleaves leaves)] 121 true, .box [I t.fLetters, I t.fStart, LS (lsT St46.ty) t.fNext, LS intT t.fMark] 45 true] Q (fun (r : Int) => .sv (.one (I r))) := by
  have ht := tab_ok
  refine Ct.body Try.func72 rfl rfl rfl rfl (fun c hn => ?_)
  unfold twoMark_vc at h
  refine En.seq ?_
  refine En.region ?_
  refine WL.run ht hn 2 ⟨[(1, .sv (.one (.ptr 0 0))), (2, .sv (.one (.ptr 1 0))), (3, .sv (.one (.ptr 2 0)))], [.box [.rd (fvR (fun (x : (TwoTable × Bool × Int × Int)) => [.sv (.agg [I x.1.fE0, I x.1.fE1, I x.1.fE2, I x.1.fE3, I x.1.fE4]), .sv (.one (B x.2.1)), .sv (.one (I x.2.2.1)), .sv (.one (I x.2.2.2))]) (fun (r : Int) => .sv (.one (I r))) domleaves leaves)] 121 true, .box [I t.fLetters, I t.fStart, LS (lsT St46.ty) t.fNext, LS intT t.fMark] 45 true, .box [I s.fE0, I s.fE1, I s.fE2, I s.fE3, I s.fE4] 120 false]⟩ (by kernel_rfl) ?_
  refine WL.nil ?_
  refine En.seq ?_
  refine En.seq ?_
  refine En.region ?_
  refine WL.val hn (by rfl) (val_indexP (k := 4) 2 0 4 ht rfl Try.underlying120 (by rfl) (by rfl) (by rfl) (by rfl) (by decide) (by rfl)) (by rfl) ?_
  refine WL.run ht hn 2 ⟨[(1, .sv (.one (.ptr 0 0))), (2, .sv (.one (.ptr 1 0))), (3, .sv (.one (.ptr 2 0))), (8, .sv (.one (B (decide (s.fE4 < 0)))))], [.box [.rd (fvR (fun (x : (TwoTable × Bool × Int × Int)) => [.sv (.agg [I x.1.fE0, I x.1.fE1, I x.1.fE2, I x.1.fE3, I x.1.fE4]), .sv (.one (B x.2.1)), .sv (.one (I x.2.2.1)), .sv (.one (I x.2.2.2))]) (fun (r : Int) => .sv (.one (I r))) domleaves leaves)] 121 true, .box [I t.fLetters, I t.fStart, LS (lsT St46.ty) t.fNext, LS intT t.fMark] 45 true, .box [I s.fE0, I s.fE1, I s.fE2, I s.fE3, I s.fE4] 120 false]⟩ (by kernel_rfl) ?_
  refine WL.nil ?_
  refine En.cond (b := (decide (s.fE4 < 0))) (by kernel_rfl) (fun hb => ?_) (fun hb => ?_)
  · replace h := h.1 hb
    refine En.seq ?_
    refine En.region ?_
    refine WL.run ht hn 1 ⟨[(4, .sv (.one (I 0)))], [.gone, .gone, .gone]⟩ (by kernel_rfl) ?_
    refine WL.nil ?_
    refine En.ret ?_
    exact En.back ht 0 h (by kernel_rfl) rfl
  · replace h := h.2 hb
    refine En.skip ?_
    refine En.seq ?_
    refine En.seq ?_
    refine En.region ?_
    refine WL.run ht hn 2 ⟨[(2, .sv (.one (.ptr 1 0))), (3, .sv (.one (.ptr 2 0))), (9, .sv (.one (.rd (fvR (fun (x : (TwoTable × Bool × Int × Int)) => [.sv (.agg [I x.1.fE0, I x.1.fE1, I x.1.fE2, I x.1.fE3, I x.1.fE4]), .sv (.one (B x.2.1)), .sv (.one (I x.2.2.1)), .sv (.one (I x.2.2.2))]) (fun (r : Int) => .sv (.one (I r))) domleaves leaves)))), (10, .sv (.agg [I s.fE0, I s.fE1, I s.fE2, I s.fE3, I s.fE4]))], [.gone, .box [I t.fLetters, I t.fStart, LS (lsT St46.ty) t.fNext, LS intT t.fMark] 45 true, .box [I s.fE0, I s.fE1, I s.fE2, I s.fE3, I s.fE4] 120 false]⟩ (by kernel_rfl) ?_
    refine WL.val hn (by rfl) (val_indexP (k := 4) 2 0 4 ht rfl Try.underlying120 (by rfl) (by rfl) (by rfl) (by rfl) (by decide) (by rfl)) (by rfl) ?_
    refine WL.run ht hn 4 ⟨[(2, .sv (.one (.ptr 1 0))), (9, .sv (.one (.rd (fvR (fun (x : (TwoTable × Bool × Int × Int)) => [.sv (.agg [I x.1.fE0, I x.1.fE1, I x.1.fE2, I x.1.fE3, I x.1.fE4]), .sv (.one (B x.2.1)), .sv (.one (I x.2.2.1)), .sv (.one (I x.2.2.2))]) (fun (r : Int) => .sv (.one (I r))) domleaves leaves)))), (10, .sv (.agg [I s.fE0, I s.fE1, I s.fE2, I s.fE3, I s.fE4])), (12, .sv (.one (I s.fE4))), (15, .sv (.one (I (wr (t.fLetters + 1)))))], [.gone, .box [I t.fLetters, I t.fStart, LS (lsT St46.ty) t.fNext, LS intT t.fMark] 45 true, .gone]⟩ (by kernel_rfl) ?_
    have hp := h.1
    replace h := h.2
    refine WL.mt0 (K := []) (p := none) hn (by rfl) (mt_callv (s, false, s.fE4, (wr (t.fLetters + 1))) hp rfl (by rfl) (by rfl) (by rfl) (by rfl)) (by rfl) (by rfl) (by rfl) ?_
    refine WL.run ht hn 1 ⟨[(2, .sv (.one (.ptr 1 0))), (5, .sv (.one (I (leaves (s, false, s.fE4, (wr (t.fLetters + 1)))))))], [.gone, .box [I t.fLetters, I t.fStart, LS (lsT St46.ty) t.fNext, LS intT t.fMark] 45 true, .gone]⟩ (by kernel_rfl) ?_
    refine WL.nil ?_
    refine En.seq ?_
    refine En.region ?_
    refine WL.run ht hn 2 ⟨[(2, .sv (.one (.ptr 1 0))), (5, .sv (.one (I (leaves (s, false, s.fE4, (wr (t.fLetters + 1))))))), (18, .sv (.one (B (decide ((leaves (s, false, s.fE4, (wr (t.fLetters + 1)))) ≥ 0)))))], [.gone, .box [I t.fLetters, I t.fStart, LS (lsT St46.ty) t.fNext, LS intT t.fMark] 45 true, .gone]⟩ (by kernel_rfl) ?_
    refine WL.nil ?_
    refine En.cond (b := (decide ((leaves (s, false, s.fE4, (wr (t.fLetters + 1)))) ≥ 0))) (by kernel_rfl) (fun hb => ?_) (fun hb => ?_)
    · replace h := h.1 hb
      refine En.seq ?_
      refine En.region ?_
      refine WL.run ht hn 3 ⟨[(20, .sv (.one (LS intT t.fMark))), (21, .sv (.one (I (leaves (s, false, s.fE4, (wr (t.fLetters + 1)))))))], [.gone, .gone, .gone]⟩ (by kernel_rfl) ?_
      obtain ⟨e, he, h⟩ := h
      refine WL.val hn (by rfl) (val_index (T := intT) (l := t.fMark) (i := (leaves (s, false, s.fE4, (wr (t.fLetters + 1))))) ht rfl (by rfl) (by rfl) (by rfl) (by rfl) (by rfl) (by rfl) he) (by rfl) ?_
      refine WL.val hn (by rfl) (val_load (s := .one (I e)) ht rfl (by rfl) (by rfl) (by rfl) (by rfl) (by rfl)) (by rfl) ?_
      refine WL.run ht hn 1 ⟨[(4, .sv (.one (I e)))], [.gone, .gone, .gone]⟩ (by kernel_rfl) ?_
      refine WL.nil ?_
      refine En.ret ?_
      exact En.back ht e h (by kernel_rfl) rfl
    · replace h := h.2 hb
      refine En.skip ?_
      refine En.seq ?_
      refine En.region ?_
      refine WL.run ht hn 1 ⟨[(4, .sv (.one (I 0)))], [.gone, .gone, .gone]⟩ (by kernel_rfl) ?_
      refine WL.nil ?_
      refine En.ret ?_
      exact En.back ht 0 h (by kernel_rfl) rfl
theorem en72 : ∀ args w, (callFunc 72 args).run Try.prog w = .ok (.enter 72 args) w := enters_of Try.func72 (by kernel_rfl) rfl
def markTab (t : ApiTwoWay) (lv : TwoTable × Bool × Int × Int → Int) (s : TwoTable) : Int := if s.fE4 < 0 then 0 else if lv (s, false, s.fE4, t.fLetters + 1) ≥ 0 then t.fMark.getD (lv (s, false, s.fE4, t.fLetters + 1)).toNat 0 else 0
def markDom (t : ApiTwoWay) (dom : TwoTable × Bool × Int × Int → Prop) (lv : TwoTable × Bool × Int × Int → Int) (s : TwoTable) : Prop := (1 ≤ t.fLetters ∧ t.fLetters ≤ 4) ∧ (s.fE4 ≥ 0 → dom (s, false, s.fE4, t.fLetters + 1) ∧ lv (s, false, s.fE4, t.fLetters + 1) < (t.fMark.length : Int))
theorem twoMark_ct (s : TwoTable) (domleaves : ((TwoTable × Bool × Int × Int) → Prop)) (leaves : ((TwoTable × Bool × Int × Int) → Int)) (t : ApiTwoWay) (hd : (1 ≤ t.fLetters ∧ t.fLetters ≤ 4) ∧ (s.fE4 ≥ 0 → domleaves (s, false, s.fE4, t.fLetters + 1) ∧ leaves (s, false, s.fE4, t.fLetters + 1) < (t.fMark.length : Int))) : Ct 72 [.sv (.agg [I s.fE0, I s.fE1, I s.fE2, I s.fE3, I s.fE4]), .sv (.one (.ptr 0 0)), .sv (.one (.ptr 1 0))] [.box [.rd (fvR (fun (x : (TwoTable × Bool × Int × Int)) => [.sv (.agg [I x.1.fE0, I x.1.fE1, I x.1.fE2, I x.1.fE3, I x.1.fE4]), .sv (.one (B x.2.1)), .sv (.one (I x.2.2.1)), .sv (.one (I x.2.2.2))]) (fun (r : Int) => .sv (.one (I r))) domleaves leaves)] 121 true, .box [I t.fLetters, I t.fStart, LS (lsT St46.ty) t.fNext, LS intT t.fMark] 45 true] (fun (_ : Unit) => True) (fun _ => .sv (.one (I (markTab t leaves s)))) := by
  refine (twoMark_walk s domleaves leaves t (fun res_ => res_ = (markTab t leaves s)) ?_).fun
  obtain ⟨hl, hm⟩ := hd
  unfold twoMark_vc
  rw [show wr (t.fLetters + 1) = t.fLetters + 1 from wr_in (by omega) (by omega)]
  refine ⟨fun h => ?_, fun h => ?_⟩
  · show _ = markTab t leaves s
    unfold markTab
    rw [if_pos (of_decide_eq_true h)]
  have h := of_decide_eq_false h
  refine ⟨(hm (by omega)).1, fun h2 => ⟨_, idx_of 0 (of_decide_eq_true h2) (hm (by omega)).2, ?_⟩, fun h2 => ?_⟩
  · show _ = markTab t leaves s
    unfold markTab
    rw [if_neg h, if_pos (of_decide_eq_true h2)]
  · show _ = markTab t leaves s
    unfold markTab
    rw [if_neg h, if_neg (of_decide_eq_false h2)]
end Go.Proofs.Ytiinkohfldopbaa

/- The contract of two.Det, and the plain law of TwoOne. No condition. -/
namespace Go.Proofs.Ytiinkohfldopbaa
open Go.RowKit Go.MapKept
set_option linter.unusedSimpArgs false
set_option linter.unusedVariables false
set_option maxRecDepth 100000

def lvB (t : ApiTwoWay) (q : Int) : Int := if (cel t q t.fLetters).fE1 == 1 then (cel t q t.fLetters).fE0 else -1
def begT (t : ApiTwoWay) : TwoTable := newTab (t.fNext.length : Int) (lvB t) (lvB t t.fStart)
/-- the table as it is made -/
def begK (t : ApiTwoWay) (k : Nat) : TwoTable := ⟨if 0 < k then (if 0 < t.fNext.length then lvB t 0 else -1) else 0, if 1 < k then (if 1 < t.fNext.length then lvB t 1 else -1) else 0, if 2 < k then (if 2 < t.fNext.length then lvB t 2 else -1) else 0, if 3 < k then (if 3 < t.fNext.length then lvB t 3 else -1) else 0, 0⟩
theorem lvF_true {t : ApiTwoWay} {s : TwoTable} {q : Int} : lvF t (s, true, q, t.fLetters) = lvB t q := by
  show lvR t s true q t.fLetters = _
  unfold lvR
  rw [if_pos rfl]
  rfl
theorem begK_new {t : ApiTwoWay} {k : Nat} (hk : k < 4) (h : k < t.fNext.length) {s : TwoTable} : TwoTable.mk (setE k 0 (lvF t (s, true, k, t.fLetters)) (setE k 0 (-1) (begK t k).fE0)) (setE k 1 (lvF t (s, true, k, t.fLetters)) (setE k 1 (-1) (begK t k).fE1)) (setE k 2 (lvF t (s, true, k, t.fLetters)) (setE k 2 (-1) (begK t k).fE2)) (setE k 3 (lvF t (s, true, k, t.fLetters)) (setE k 3 (-1) (begK t k).fE3)) (setE k 4 (lvF t (s, true, k, t.fLetters)) (setE k 4 (-1) (begK t k).fE4)) = begK t (k + 1) := by
  rw [lvF_true]
  have : k = 0 ∨ k = 1 ∨ k = 2 ∨ k = 3 := by omega
  rcases this with rfl | rfl | rfl | rfl <;> simp [begK, setE, h]
theorem begK_old {t : ApiTwoWay} {k : Nat} (hk : k < 4) (h : t.fNext.length ≤ k) : TwoTable.mk (setE k 0 (-1) (begK t k).fE0) (setE k 1 (-1) (begK t k).fE1) (setE k 2 (-1) (begK t k).fE2) (setE k 3 (-1) (begK t k).fE3) (setE k 4 (-1) (begK t k).fE4) = begK t (k + 1) := by
  have : k = 0 ∨ k = 1 ∨ k = 2 ∨ k = 3 := by omega
  rcases this with rfl | rfl | rfl | rfl <;> simp [begK, setE] <;> omega
theorem begK_end {t : ApiTwoWay} : TwoTable.mk (begK t 4).fE0 (begK t 4).fE1 (begK t 4).fE2 (begK t 4).fE3 (lvF t (begK t 4, true, t.fStart, t.fLetters)) = begT t := by
  rw [lvF_true]
  unfold begT newTab begK
  have h0 : ((0 : Int) < (t.fNext.length : Int)) = (0 < t.fNext.length) := by apply propext; omega
  have h1 : ((1 : Int) < (t.fNext.length : Int)) = (1 < t.fNext.length) := by apply propext; omega
  have h2 : ((2 : Int) < (t.fNext.length : Int)) = (2 < t.fNext.length) := by apply propext; omega
  have h3 : ((3 : Int) < (t.fNext.length : Int)) = (3 < t.fNext.length) := by apply propext; omega
  simp only [h0, h1, h2, h3]
  rfl
def InV (n : Nat) (x : Int) : Prop := -1 ≤ x ∧ x < (n : Int)
theorem tabF_cases {s : TwoTable} {k : Int} (h : 0 ≤ k ∧ k < 5) : (k = 0 ∧ tabF s k = s.fE0) ∨ (k = 1 ∧ tabF s k = s.fE1) ∨ (k = 2 ∧ tabF s k = s.fE2) ∨ (k = 3 ∧ tabF s k = s.fE3) ∨ (k = 4 ∧ tabF s k = s.fE4) := by
  have : k = 0 ∨ k = 1 ∨ k = 2 ∨ k = 3 ∨ k = 4 := by omega
  rcases this with rfl | rfl | rfl | rfl | rfl
  · exact .inl ⟨rfl, rfl⟩
  · exact .inr (.inl ⟨rfl, rfl⟩)
  · exact .inr (.inr (.inl ⟨rfl, rfl⟩))
  · exact .inr (.inr (.inr (.inl ⟨rfl, rfl⟩)))
  · exact .inr (.inr (.inr (.inr ⟨rfl, rfl⟩)))
theorem tabIn_iff {n : Nat} {s : TwoTable} : TabIn n s ↔ InV n s.fE0 ∧ InV n s.fE1 ∧ InV n s.fE2 ∧ InV n s.fE3 ∧ InV n s.fE4 := by
  constructor
  · intro h
    exact ⟨h 0 (by decide), h 1 (by decide), h 2 (by decide), h 3 (by decide), h 4 (by decide)⟩
  · rintro ⟨h0, h1, h2, h3, h4⟩ k hk
    rcases tabF_cases (s := s) hk with ⟨_, e⟩ | ⟨_, e⟩ | ⟨_, e⟩ | ⟨_, e⟩ | ⟨_, e⟩ <;> rw [e] <;> assumption
theorem tabF_new {n : Nat} {F : Int → Int} {x : Int} (h4 : n ≤ 4) {q : Int} (hq : 0 ≤ q ∧ q < (n : Int)) : tabF (newTab n F x) q = F q := by
  rcases tabF_cases (s := newTab n F x) (k := q) ⟨hq.1, by omega⟩ with ⟨e, h⟩ | ⟨e, h⟩ | ⟨e, h⟩ | ⟨e, h⟩ | ⟨e, h⟩
  · rw [h, e]; exact if_pos (by omega)
  · rw [h, e]; exact if_pos (by omega)
  · rw [h, e]; exact if_pos (by omega)
  · rw [h, e]; exact if_pos (by omega)
  · omega
theorem tabIn_new {n : Nat} {F : Int → Int} {x : Int} (hF : ∀ q, 0 ≤ q ∧ q < (n : Int) → InV n (F q)) (hx : InV n x) : TabIn n (newTab n F x) := by
  have hm : InV n (-1) := ⟨Int.le_refl _, by omega⟩
  refine tabIn_iff.2 ⟨?_, ?_, ?_, ?_, hx⟩
  · show InV n (if (0 : Int) < n then F 0 else -1)
    split
    · exact hF _ (by omega)
    · exact hm
  · show InV n (if (1 : Int) < n then F 1 else -1)
    split
    · exact hF _ (by omega)
    · exact hm
  · show InV n (if (2 : Int) < n then F 2 else -1)
    split
    · exact hF _ (by omega)
    · exact hm
  · show InV n (if (3 : Int) < n then F 3 else -1)
    split
    · exact hF _ (by omega)
    · exact hm
theorem lvt_in {f : Int → Int} {r : Int → Bool} {g : Int → Int} {n : Nat} (hg : ∀ q, 0 ≤ q ∧ q < (n : Int) → 0 ≤ g q ∧ g q < (n : Int)) (hf : ∀ q, 0 ≤ q ∧ q < (n : Int) → f q < (n : Int)) : ∀ (m : Nat) (q : Int), 0 ≤ q ∧ q < (n : Int) → InV n (lvt f r g m q)
  | 0, _, _ => ⟨Int.le_refl _, by show (-1 : Int) < n; omega⟩
  | m + 1, q, hq => by
    have h1 := hg q hq
    unfold lvt
    split
    · exact ⟨by omega, h1.2⟩
    · split
      · exact ⟨Int.le_refl _, by omega⟩
      · exact lvt_in hg hf m _ ⟨by omega, hf _ h1⟩
theorem lvB_in {t : ApiTwoWay} (h : TwOk t) {q : Int} (hq : 0 ≤ q ∧ q < (t.fNext.length : Int)) : InV t.fNext.length (lvB t q) := by
  have hl := h.letters
  have := (cel_in h hq (a := t.fLetters) (by omega)).2.1
  unfold lvB
  split
  · exact ⟨by omega, this.2⟩
  · exact ⟨Int.le_refl _, by omega⟩
theorem TabIn.small {t : ApiTwoWay} (h : TwOk t) {s : TwoTable} (hs : TabIn t.fNext.length s) (q : Int) (hq : 0 ≤ q ∧ q < (t.fNext.length : Int)) : tabF s q < (t.fNext.length : Int) := (hs q ⟨hq.1, by have := h.size; omega⟩).2
theorem lvF_in {t : ApiTwoWay} (h : TwOk t) {s : TwoTable} (hs : TabIn t.fNext.length s) {q a : Int} (hq : 0 ≤ q ∧ q < (t.fNext.length : Int)) (ha : 0 ≤ a ∧ a < t.fLetters + 2) : InV t.fNext.length (lvF t (s, false, q, a)) := by
  show InV _ (lvR t s false q a)
  unfold lvR
  rw [if_neg (by decide)]
  exact lvt_in (fun q hq => (cel_in h hq ha).2.1) (hs.small h) _ q hq
theorem goF_in {t : ApiTwoWay} (h : TwOk t) {s : TwoTable} (hs : TabIn t.fNext.length s) {a : Int} (ha : 0 ≤ a ∧ a < t.fLetters + 2) : TabIn t.fNext.length (goF (t.fNext.length : Int) (lvF t) (s, a)) := by
  have h4 := (tabIn_iff.1 hs).2.2.2.2
  refine tabIn_new (fun q hq => lvF_in h hs hq ha) ?_
  split
  · exact lvF_in h hs ⟨by assumption, h4.2⟩ ha
  · exact ⟨Int.le_refl _, by omega⟩
theorem begT_in {t : ApiTwoWay} (h : TwOk t) : TabIn t.fNext.length (begT t) := tabIn_new (fun q hq => lvB_in h hq) (lvB_in h h.start)
theorem goDom_in {t : ApiTwoWay} (h : TwOk t) {s : TwoTable} (hs : TabIn t.fNext.length s) {a : Int} (ha : 0 ≤ a ∧ a < t.fLetters + 2) : goDom (t.fNext.length : Int) (lvDom t (t.fNext.length : Int)) (s, a) := by
  have h4 := (tabIn_iff.1 hs).2.2.2.2
  have hsz := h.size
  exact ⟨by omega, fun q hq => ⟨h, rfl, hq, ha, fun _ => hs⟩, fun h5 => ⟨h, rfl, ⟨h5, h4.2⟩, ha, fun _ => hs⟩⟩
theorem markDom_in {t : ApiTwoWay} (h : TwOk t) {s : TwoTable} (hs : TabIn t.fNext.length s) : markDom t (lvDom t (t.fNext.length : Int)) (lvF t) s := by
  have h4 := (tabIn_iff.1 hs).2.2.2.2
  have hl := h.letters
  refine ⟨hl, fun h5 => ⟨⟨h, rfl, ⟨h5, h4.2⟩, ?_, fun _ => hs⟩, ?_⟩⟩
  · show 0 ≤ t.fLetters + 1 ∧ t.fLetters + 1 < t.fLetters + 2
    omega
  · rw [h.marks]
    exact (lvF_in h hs ⟨h5, h4.2⟩ (by omega)).2
theorem mark_01 {t : ApiTwoWay} (h : TwOk t) {s : TwoTable} (hs : TabIn t.fNext.length s) : markTab t (lvF t) s = 0 ∨ markTab t (lvF t) s = 1 := by
  unfold markTab
  split
  · exact .inl rfl
  · split
    · have := (markDom_in h hs).2 (by omega)
      exact h.mark _ (getD_mem (by omega))
    · exact .inl rfl
/-- all tables -/
def tabAll (n : Nat) : List TwoTable := (-1 :: upto n).flatMap fun a => (-1 :: upto n).flatMap fun b => (-1 :: upto n).flatMap fun c => (-1 :: upto n).flatMap fun d => (-1 :: upto n).map fun e => ⟨a, b, c, d, e⟩
theorem inV_mem {n : Nat} {x : Int} : InV n x ↔ x ∈ -1 :: upto n := by
  rw [List.mem_cons, mem_upto]
  unfold InV
  omega
theorem mem_tabs {n : Nat} {s : TwoTable} : TabIn n s ↔ s ∈ tabAll n := by
  rw [tabIn_iff]
  unfold tabAll
  simp only [List.mem_flatMap, List.mem_map, inV_mem]
  constructor
  · rintro ⟨h0, h1, h2, h3, h4⟩
    exact ⟨_, h0, _, h1, _, h2, _, h3, _, h4, rfl⟩
  · rintro ⟨_, h0, _, h1, _, h2, _, h3, _, h4, rfl⟩
    exact ⟨h0, h1, h2, h3, h4⟩
theorem flatMap_len {α β : Type} (l : List α) (f : α → List β) (n : Nat) (h : ∀ a, (f a).length = n) : (l.flatMap f).length = l.length * n := by
  rw [List.length_flatMap, List.map_congr_left (g := fun _ => n) fun a _ => h a, List.map_const', List.sum_replicate_nat]
theorem len_tabs {n : Nat} : (tabAll n).length = (n + 1) * ((n + 1) * ((n + 1) * ((n + 1) * (n + 1)))) := by
  have hl : (-1 :: upto n).length = n + 1 := by rw [List.length_cons, len_upto]
  unfold tabAll
  rw [flatMap_len _ _ ((n + 1) * ((n + 1) * ((n + 1) * (n + 1)))), hl]
  intro a
  rw [flatMap_len _ _ ((n + 1) * ((n + 1) * (n + 1))), hl]
  intro b
  rw [flatMap_len _ _ ((n + 1) * (n + 1)), hl]
  intro c
  rw [flatMap_len _ _ (n + 1), hl]
  intro d
  rw [List.length_map, hl]
theorem len_tabs4 {n : Nat} (h : n ≤ 4) : (tabAll n).length ≤ 3125 := by
  rw [len_tabs]
  have : n = 0 ∨ n = 1 ∨ n = 2 ∨ n = 3 ∨ n = 4 := by omega
  rcases this with rfl | rfl | rfl | rfl | rfl <;> decide
def twoGoN (t : ApiTwoWay) (s : TwoTable) (a : Nat) : TwoTable := goF (t.fNext.length : Int) (lvF t) (s, (a : Int))
def twoLang (t : ApiTwoWay) : Lang := langK (twoGoN t) (markTab t (lvF t)) (begT t)
noncomputable def twoDetC (t : ApiTwoWay) : ApiDet := canon t.fLetters.toNat (twoLang t)
noncomputable def twoDetR (t : ApiTwoWay) : ApiDet × Int := if twErr t = 0 then (if (twoDetC t).fNext.length > 3000 then (⟨0, 0, [], []⟩, 7) else (twoDetC t, 0)) else (⟨0, 0, [], []⟩, twErr t)
def twoDet_vc (t : ApiTwoWay) (Q : (ApiDet × Int) → Prop) : Prop :=
  t.fNext.length ≤ 9223372036854775807 →
  t.fMark.length ≤ 9223372036854775807 →
  (IfP ((twErr t) != 0) (Q ((ApiDet.mk 0 0 [] []), (twErr t))) (∃ (Inv : Int → TwoTable → Prop) (mu : Int → TwoTable → Nat), Inv 0 (TwoTable.mk 0 0 0 0 0) ∧
  ∀ (x22 : Int) (y4 : TwoTable) , Inv x22 y4 → (IfP (decide (x22 < 4)) (∃ J : TwoTable → Prop, ((0 ≤ x22 ∧ x22 < 5) ∧
  IfP (decide (x22 < (t.fNext.length : Int))) (((lvDom t (t.fNext.length : Int)) ((TwoTable.mk (setE x22 0 (-1) y4.fE0) (setE x22 1 (-1) y4.fE1) (setE x22 2 (-1) y4.fE2) (setE x22 3 (-1) y4.fE3) (setE x22 4 (-1) y4.fE4)), true, x22, t.fLetters)) ∧
  (0 ≤ x22 ∧ x22 < 5) ∧
  J (TwoTable.mk (setE x22 0 ((lvF t) ((TwoTable.mk (setE x22 0 (-1) y4.fE0) (setE x22 1 (-1) y4.fE1) (setE x22 2 (-1) y4.fE2) (setE x22 3 (-1) y4.fE3) (setE x22 4 (-1) y4.fE4)), true, x22, t.fLetters)) (setE x22 0 (-1) y4.fE0)) (setE x22 1 ((lvF t) ((TwoTable.mk (setE x22 0 (-1) y4.fE0) (setE x22 1 (-1) y4.fE1) (setE x22 2 (-1) y4.fE2) (setE x22 3 (-1) y4.fE3) (setE x22 4 (-1) y4.fE4)), true, x22, t.fLetters)) (setE x22 1 (-1) y4.fE1)) (setE x22 2 ((lvF t) ((TwoTable.mk (setE x22 0 (-1) y4.fE0) (setE x22 1 (-1) y4.fE1) (setE x22 2 (-1) y4.fE2) (setE x22 3 (-1) y4.fE3) (setE x22 4 (-1) y4.fE4)), true, x22, t.fLetters)) (setE x22 2 (-1) y4.fE2)) (setE x22 3 ((lvF t) ((TwoTable.mk (setE x22 0 (-1) y4.fE0) (setE x22 1 (-1) y4.fE1) (setE x22 2 (-1) y4.fE2) (setE x22 3 (-1) y4.fE3) (setE x22 4 (-1) y4.fE4)), true, x22, t.fLetters)) (setE x22 3 (-1) y4.fE3)) (setE x22 4 ((lvF t) ((TwoTable.mk (setE x22 0 (-1) y4.fE0) (setE x22 1 (-1) y4.fE1) (setE x22 2 (-1) y4.fE2) (setE x22 3 (-1) y4.fE3) (setE x22 4 (-1) y4.fE4)), true, x22, t.fLetters)) (setE x22 4 (-1) y4.fE4)))) (J (TwoTable.mk (setE x22 0 (-1) y4.fE0) (setE x22 1 (-1) y4.fE1) (setE x22 2 (-1) y4.fE2) (setE x22 3 (-1) y4.fE3) (setE x22 4 (-1) y4.fE4)))) ∧
  (∀ (y4_2 : TwoTable), J y4_2 → (Inv (wr (x22 + 1)) y4_2 ∧ mu (wr (x22 + 1)) y4_2 < mu x22 y4))) (((lvDom t (t.fNext.length : Int)) (y4, true, t.fStart, t.fLetters)) ∧
  (ExplPre t.fLetters (TwoTable.mk y4.fE0 y4.fE1 y4.fE2 y4.fE3 ((lvF t) (y4, true, t.fStart, t.fLetters))) (goDom (t.fNext.length : Int) (lvDom t (t.fNext.length : Int))) (goF (t.fNext.length : Int) (lvF t)) (markDom t (lvDom t (t.fNext.length : Int)) (lvF t)) 1048576) ∧
  (ClsOk (explR (fun k (a : Nat) => (goF (t.fNext.length : Int) (lvF t)) (k, (a : Int))) (markTab t (lvF t)) (t.fLetters).toNat (TwoTable.mk y4.fE0 y4.fE1 y4.fE2 y4.fE3 ((lvF t) (y4, true, t.fStart, t.fLetters))) 1048576).1) ∧
  IfP ((!(explR (fun k (a : Nat) => (goF (t.fNext.length : Int) (lvF t)) (k, (a : Int))) (markTab t (lvF t)) (t.fLetters).toNat (TwoTable.mk y4.fE0 y4.fE1 y4.fE2 y4.fE3 ((lvF t) (y4, true, t.fStart, t.fLetters))) 1048576).2) || (decide (((canon ((explR (fun k (a : Nat) => (goF (t.fNext.length : Int) (lvF t)) (k, (a : Int))) (markTab t (lvF t)) (t.fLetters).toNat (TwoTable.mk y4.fE0 y4.fE1 y4.fE2 y4.fE3 ((lvF t) (y4, true, t.fStart, t.fLetters))) 1048576).1).fLetters.toNat (langD (explR (fun k (a : Nat) => (goF (t.fNext.length : Int) (lvF t)) (k, (a : Int))) (markTab t (lvF t)) (t.fLetters).toNat (TwoTable.mk y4.fE0 y4.fE1 y4.fE2 y4.fE3 ((lvF t) (y4, true, t.fStart, t.fLetters))) 1048576).1 ((explR (fun k (a : Nat) => (goF (t.fNext.length : Int) (lvF t)) (k, (a : Int))) (markTab t (lvF t)) (t.fLetters).toNat (TwoTable.mk y4.fE0 y4.fE1 y4.fE2 y4.fE3 ((lvF t) (y4, true, t.fStart, t.fLetters))) 1048576).1).fStart.toNat)).fNext.length : Int) > 3000))) (Q ((ApiDet.mk 0 0 [] []), 7)) (Q ((canon ((explR (fun k (a : Nat) => (goF (t.fNext.length : Int) (lvF t)) (k, (a : Int))) (markTab t (lvF t)) (t.fLetters).toNat (TwoTable.mk y4.fE0 y4.fE1 y4.fE2 y4.fE3 ((lvF t) (y4, true, t.fStart, t.fLetters))) 1048576).1).fLetters.toNat (langD (explR (fun k (a : Nat) => (goF (t.fNext.length : Int) (lvF t)) (k, (a : Int))) (markTab t (lvF t)) (t.fLetters).toNat (TwoTable.mk y4.fE0 y4.fE1 y4.fE2 y4.fE3 ((lvF t) (y4, true, t.fStart, t.fLetters))) 1048576).1 ((explR (fun k (a : Nat) => (goF (t.fNext.length : Int) (lvF t)) (k, (a : Int))) (markTab t (lvF t)) (t.fLetters).toNat (TwoTable.mk y4.fE0 y4.fE1 y4.fE2 y4.fE3 ((lvF t) (y4, true, t.fStart, t.fLetters))) 1048576).1).fStart.toNat)), 0))))))
theorem twoDet_walk (t : ApiTwoWay) (Q : (ApiDet × Int) → Prop) (h : twoDet_vc t Q) : Ct 24 [.sv (.agg [I t.fLetters, I t.fStart, LS (lsT St46.ty) t.fNext, LS intT t.fMark])] [] Q (fun (r : (ApiDet × Int)) => .tup [.agg [I r.1.fLetters, I r.1.fStart, LS (lsT intT) r.1.fNext, LS intT r.1.fMark], .one (I r.2)]) := by
  have ht := tab_ok
  refine Ct.body Try.func24 rfl rfl rfl rfl (fun c hn => ?_)
  unfold twoDet_vc at h
  refine En.lenA 0 2 (by rfl) (by rfl) (fun hl => ?_)
  replace h := h hl
  clear hl
  refine En.lenA 0 3 (by rfl) (by rfl) (fun hl => ?_)
  replace h := h hl
  clear hl
  refine En.seq ?_
  refine En.region ?_
  refine WL.run ht hn 3 ⟨[(1, .sv (.one (.ptr 0 0))), (2, .sv (.one (.ptr 1 0)))], [.box [I t.fLetters, I t.fStart, LS (lsT St46.ty) t.fNext, LS intT t.fMark] 45 false, .box [I 0, I 0, .v (.slice none 0 0), .v (.slice none 0 0)] 25 false]⟩ (by kernel_rfl) ?_
  refine WL.nil ?_
  refine En.seq ?_
  refine En.seq ?_
  refine En.region ?_
  refine WL.run ht hn 1 ⟨[(1, .sv (.one (.ptr 0 0))), (2, .sv (.one (.ptr 1 0))), (11, .sv (.agg [I t.fLetters, I t.fStart, LS (lsT St46.ty) t.fNext, LS intT t.fMark]))], [.box [I t.fLetters, I t.fStart, LS (lsT St46.ty) t.fNext, LS intT t.fMark] 45 false, .box [I 0, I 0, .v (.slice none 0 0), .v (.slice none 0 0)] 25 false]⟩ (by kernel_rfl) ?_
  refine WL.mt0 (K := []) (p := none) hn (by rfl) (mt_call (twoCheck_ct t) en68 (caps := []) [] rfl (by rfl) (by kernel_rfl) (by kernel_rfl) (by rfl) (by rfl) (by rfl)) (by rfl) (by rfl) (by rfl) ?_
  refine WL.run ht hn 1 ⟨[(1, .sv (.one (.ptr 0 0))), (2, .sv (.one (.ptr 1 0))), (4, .sv (.one (I (twErr t))))], [.box [I t.fLetters, I t.fStart, LS (lsT St46.ty) t.fNext, LS intT t.fMark] 45 false, .box [I 0, I 0, .v (.slice none 0 0), .v (.slice none 0 0)] 25 false]⟩ (by kernel_rfl) ?_
  refine WL.nil ?_
  refine En.seq ?_
  refine En.region ?_
  refine WL.run ht hn 2 ⟨[(1, .sv (.one (.ptr 0 0))), (2, .sv (.one (.ptr 1 0))), (4, .sv (.one (I (twErr t)))), (14, .sv (.one (B ((twErr t) != 0))))], [.box [I t.fLetters, I t.fStart, LS (lsT St46.ty) t.fNext, LS intT t.fMark] 45 false, .box [I 0, I 0, .v (.slice none 0 0), .v (.slice none 0 0)] 25 false]⟩ (by kernel_rfl) ?_
  refine WL.nil ?_
  refine En.cond (b := ((twErr t) != 0)) (by kernel_rfl) (fun hb => ?_) (fun hb => ?_)
  · replace h := h.1 hb
    refine En.seq ?_
    refine En.region ?_
    refine WL.run ht hn 4 ⟨[(2, .sv (.one (.ptr 1 0))), (3, .sv (.one (I (twErr t))))], [.gone, .box [I 0, I 0, .v (.slice none 0 0), .v (.slice none 0 0)] 25 false]⟩ (by kernel_rfl) ?_
    refine WL.nil ?_
    refine En.ret ?_
    refine En.nilBox (T := (lsT intT)) 1 2 (by rfl) (by rfl) ?_
    refine En.nilBox (T := intT) 1 3 (by rfl) (by rfl) ?_
    exact En.back ht ((ApiDet.mk 0 0 [] []), (twErr t)) h (by kernel_rfl) rfl
  · replace h := h.2 hb
    refine En.skip ?_
    refine En.seq ?_
    refine En.region ?_
    refine WL.run ht hn 5 ⟨[(1, .sv (.one (.ptr 0 0))), (2, .sv (.one (.ptr 1 0))), (5, .sv (.one (.ptr 2 0)))], [.box [I t.fLetters, I t.fStart, LS (lsT St46.ty) t.fNext, LS intT t.fMark] 45 false, .box [I 0, I 0, .v (.slice none 0 0), .v (.slice none 0 0)] 25 false, .box [I (t.fNext.length : Int)] 3 false]⟩ (by kernel_rfl) ?_
    refine WL.nil ?_
    refine En.seq ?_
    refine En.region ?_
    refine WL.run ht hn 3 ⟨[(1, .sv (.one (.ptr 0 0))), (2, .sv (.one (.ptr 1 0))), (5, .sv (.one (.ptr 2 0))), (6, .sv (.one (.ptr 3 0)))], [.box [I t.fLetters, I t.fStart, LS (lsT St46.ty) t.fNext, LS intT t.fMark] 45 false, .box [I 0, I 0, .v (.slice none 0 0), .v (.slice none 0 0)] 25 false, .box [I (t.fNext.length : Int)] 3 false, .box [.fn 69 [2, 0]] 121 false]⟩ (by kernel_rfl) ?_
    refine WL.nil ?_
    refine En.seq ?_
    refine En.region ?_
    refine WL.run ht hn 3 ⟨[(1, .sv (.one (.ptr 0 0))), (2, .sv (.one (.ptr 1 0))), (5, .sv (.one (.ptr 2 0))), (6, .sv (.one (.ptr 3 0))), (7, .sv (.one (.ptr 4 0)))], [.box [I t.fLetters, I t.fStart, LS (lsT St46.ty) t.fNext, LS intT t.fMark] 45 false, .box [I 0, I 0, .v (.slice none 0 0), .v (.slice none 0 0)] 25 false, .box [I (t.fNext.length : Int)] 3 false, .box [.fn 69 [2, 0]] 121 false, .box [I 0, I 0, I 0, I 0, I 0] 120 false]⟩ (by kernel_rfl) ?_
    refine WL.nil ?_
    refine En.seq ?_
    refine En.seq ?_
    refine En.region ?_
    refine WL.run ht hn 1 ⟨[(1, .sv (.one (.ptr 0 0))), (2, .sv (.one (.ptr 1 0))), (5, .sv (.one (.ptr 2 0))), (6, .sv (.one (.ptr 3 0))), (7, .sv (.one (.ptr 4 0))), (22, .sv (.one (I 0)))], [.box [I t.fLetters, I t.fStart, LS (lsT St46.ty) t.fNext, LS intT t.fMark] 45 false, .box [I 0, I 0, .v (.slice none 0 0), .v (.slice none 0 0)] 25 false, .box [I (t.fNext.length : Int)] 3 false, .box [.fn 69 [2, 0]] 121 false, .box [I 0, I 0, I 0, I 0, I 0] 120 false]⟩ (by kernel_rfl) ?_
    refine WL.nil ?_
    refine En.block ?_
    refine En.freeze [0] (by rfl) ?_
    refine En.freeze [2] (by rfl) ?_
    obtain ⟨Inv, mu, h0, hI⟩ := h
    refine En.loop (σ := Int × TwoTable) (fun zz => Inv zz.1 zz.2) (fun zz => mu zz.1 zz.2) (fun zz => ⟨[(1, .sv (.one (.ptr 0 0))), (2, .sv (.one (.ptr 1 0))), (5, .sv (.one (.ptr 2 0))), (6, .sv (.one (.ptr 3 0))), (7, .sv (.one (.ptr 4 0))), (22, .sv (.one (I zz.1)))], [.box [I t.fLetters, I t.fStart, LS (lsT St46.ty) t.fNext, LS intT t.fMark] 45 true, .box [I 0, I 0, .v (.slice none 0 0), .v (.slice none 0 0)] 25 false, .box [I (t.fNext.length : Int)] 3 true, .box [.fn 69 [2, 0]] 121 false, .box [I zz.2.fE0, I zz.2.fE1, I zz.2.fE2, I zz.2.fE3, I zz.2.fE4] 120 false]⟩) (0, (TwoTable.mk 0 0 0 0 0)) h0 (sub_ok (by kernel_rfl)) ?_
    rintro ⟨x22, y4⟩ h
    replace h := hI _ _ h
    show En c ⟨[(1, .sv (.one (.ptr 0 0))), (2, .sv (.one (.ptr 1 0))), (5, .sv (.one (.ptr 2 0))), (6, .sv (.one (.ptr 3 0))), (7, .sv (.one (.ptr 4 0))), (22, .sv (.one (I x22)))], [.box [I t.fLetters, I t.fStart, LS (lsT St46.ty) t.fNext, LS intT t.fMark] 45 true, .box [I 0, I 0, .v (.slice none 0 0), .v (.slice none 0 0)] 25 false, .box [I (t.fNext.length : Int)] 3 true, .box [.fn 69 [2, 0]] 121 false, .box [I y4.fE0, I y4.fE1, I y4.fE2, I y4.fE3, I y4.fE4] 120 false]⟩ _
    refine En.seq ?_
    refine En.region ?_
    refine WL.run ht hn 1 ⟨[(1, .sv (.one (.ptr 0 0))), (2, .sv (.one (.ptr 1 0))), (5, .sv (.one (.ptr 2 0))), (6, .sv (.one (.ptr 3 0))), (7, .sv (.one (.ptr 4 0))), (22, .sv (.one (I x22))), (23, .sv (.one (B (decide (x22 < 4)))))], [.box [I t.fLetters, I t.fStart, LS (lsT St46.ty) t.fNext, LS intT t.fMark] 45 true, .box [I 0, I 0, .v (.slice none 0 0), .v (.slice none 0 0)] 25 false, .box [I (t.fNext.length : Int)] 3 true, .box [.fn 69 [2, 0]] 121 false, .box [I y4.fE0, I y4.fE1, I y4.fE2, I y4.fE3, I y4.fE4] 120 false]⟩ (by kernel_rfl) ?_
    refine WL.nil ?_
    refine En.seq ?_
    refine En.cond (b := (decide (x22 < 4))) (by kernel_rfl) (fun hb => ?_) (fun hb => ?_)
    · replace h := h.1 hb
      refine En.skip ?_
      obtain ⟨J, h, hJ⟩ := h
      refine En.seqJ (σ := TwoTable) (fun zz => J zz) (fun zz => ⟨[(1, .sv (.one (.ptr 0 0))), (2, .sv (.one (.ptr 1 0))), (5, .sv (.one (.ptr 2 0))), (6, .sv (.one (.ptr 3 0))), (7, .sv (.one (.ptr 4 0))), (22, .sv (.one (I x22)))], [.box [I t.fLetters, I t.fStart, LS (lsT St46.ty) t.fNext, LS intT t.fMark] 45 true, .box [I 0, I 0, .v (.slice none 0 0), .v (.slice none 0 0)] 25 false, .box [I (t.fNext.length : Int)] 3 true, .box [.fn 69 [2, 0]] 121 false, .box [I zz.fE0, I zz.fE1, I zz.fE2, I zz.fE3, I zz.fE4] 120 false]⟩) ?_ ?_
      · refine En.block ?_
        refine En.seq ?_
        refine En.region ?_
        refine WL.run ht hn 2 ⟨[(1, .sv (.one (.ptr 0 0))), (2, .sv (.one (.ptr 1 0))), (5, .sv (.one (.ptr 2 0))), (6, .sv (.one (.ptr 3 0))), (7, .sv (.one (.ptr 4 0))), (8, .sv (.one (I x22))), (22, .sv (.one (I x22)))], [.box [I t.fLetters, I t.fStart, LS (lsT St46.ty) t.fNext, LS intT t.fMark] 45 true, .box [I 0, I 0, .v (.slice none 0 0), .v (.slice none 0 0)] 25 false, .box [I (t.fNext.length : Int)] 3 true, .box [.fn 69 [2, 0]] 121 false, .box [I y4.fE0, I y4.fE1, I y4.fE2, I y4.fE3, I y4.fE4] 120 false]⟩ (by kernel_rfl) ?_
        refine WL.nil ?_
        refine En.seq ?_
        refine En.region ?_
        refine WL.run ht hn 1 ⟨[(1, .sv (.one (.ptr 0 0))), (2, .sv (.one (.ptr 1 0))), (5, .sv (.one (.ptr 2 0))), (6, .sv (.one (.ptr 3 0))), (7, .sv (.one (.ptr 4 0))), (8, .sv (.one (I x22))), (22, .sv (.one (I x22))), (25, .sv (.one (I x22)))], [.box [I t.fLetters, I t.fStart, LS (lsT St46.ty) t.fNext, LS intT t.fMark] 45 true, .box [I 0, I 0, .v (.slice none 0 0), .v (.slice none 0 0)] 25 false, .box [I (t.fNext.length : Int)] 3 true, .box [.fn 69 [2, 0]] 121 false, .box [I y4.fE0, I y4.fE1, I y4.fE2, I y4.fE3, I y4.fE4] 120 false]⟩ (by kernel_rfl) ?_
        have hk := h.1
        replace h := h.2
        refine WL.val hn (by rfl) (val_indexP (k := x22) 4 0 ((x22 : Int).toNat) ht rfl Try.underlying120 (by rfl) (by rfl) (by rfl) (by rfl) hk (by simp)) (by rfl) ?_
        refine WL.storePV ([y4.fE0, y4.fE1, y4.fE2, y4.fE3, y4.fE4] : List Int) (k := x22) (v := (-1)) ht hn (by rfl) rfl (by rfl) (by rfl) (by rfl) (by rfl) (by rfl) (by rfl) hk (by rfl) (by rfl) ?_
        refine WL.nil ?_
        refine En.seq ?_
        refine En.region ?_
        refine WL.run ht hn 3 ⟨[(1, .sv (.one (.ptr 0 0))), (2, .sv (.one (.ptr 1 0))), (5, .sv (.one (.ptr 2 0))), (6, .sv (.one (.ptr 3 0))), (7, .sv (.one (.ptr 4 0))), (8, .sv (.one (I x22))), (22, .sv (.one (I x22))), (29, .sv (.one (B (decide (x22 < (t.fNext.length : Int))))))], [.box [I t.fLetters, I t.fStart, LS (lsT St46.ty) t.fNext, LS intT t.fMark] 45 true, .box [I 0, I 0, .v (.slice none 0 0), .v (.slice none 0 0)] 25 false, .box [I (t.fNext.length : Int)] 3 true, .box [.fn 69 [2, 0]] 121 false, .box [I (setE x22 0 (-1) y4.fE0), I (setE x22 1 (-1) y4.fE1), I (setE x22 2 (-1) y4.fE2), I (setE x22 3 (-1) y4.fE3), I (setE x22 4 (-1) y4.fE4)] 120 false]⟩ (by kernel_rfl) ?_
        refine WL.nil ?_
        refine En.cond (b := (decide (x22 < (t.fNext.length : Int)))) (by kernel_rfl) (fun hb => ?_) (fun hb => ?_)
        · replace h := h.1 hb
          refine En.region ?_
          refine WL.run ht hn 6 ⟨[(1, .sv (.one (.ptr 0 0))), (2, .sv (.one (.ptr 1 0))), (5, .sv (.one (.ptr 2 0))), (6, .sv (.one (.ptr 3 0))), (7, .sv (.one (.ptr 4 0))), (22, .sv (.one (I x22))), (30, .sv (.one (I x22))), (31, .sv (.one (.fn 69 [2, 0]))), (32, .sv (.agg [I (setE x22 0 (-1) y4.fE0), I (setE x22 1 (-1) y4.fE1), I (setE x22 2 (-1) y4.fE2), I (setE x22 3 (-1) y4.fE3), I (setE x22 4 (-1) y4.fE4)])), (33, .sv (.one (I x22))), (35, .sv (.one (I t.fLetters)))], [.box [I t.fLetters, I t.fStart, LS (lsT St46.ty) t.fNext, LS intT t.fMark] 45 true, .box [I 0, I 0, .v (.slice none 0 0), .v (.slice none 0 0)] 25 false, .box [I (t.fNext.length : Int)] 3 true, .box [.fn 69 [2, 0]] 121 false, .box [I (setE x22 0 (-1) y4.fE0), I (setE x22 1 (-1) y4.fE1), I (setE x22 2 (-1) y4.fE2), I (setE x22 3 (-1) y4.fE3), I (setE x22 4 (-1) y4.fE4)] 120 false]⟩ (by kernel_rfl) ?_
          refine WL.ghost 31 (.sv (.one (.rd (fvR (fun (x_ : (TwoTable × Bool × Int × Int)) => [.sv (.agg [I x_.1.fE0, I x_.1.fE1, I x_.1.fE2, I x_.1.fE3, I x_.1.fE4]), .sv (.one (B x_.2.1)), .sv (.one (I x_.2.2.1)), .sv (.one (I x_.2.2.2))]) (fun (r : Int) => .sv (.one (I r))) (lvDom t (t.fNext.length : Int)) (lvF t))))) (by rfl) (fv_of (M := [.box [I (t.fNext.length : Int)] 3 true, .box [I t.fLetters, I t.fStart, LS (lsT St46.ty) t.fNext, LS intT t.fMark] 45 true]) (caps := [2, 0]) (fun x_ hx => leaves_ct x_.1 x_.2.1 x_.2.2.1 x_.2.2.2 (t.fNext.length : Int) t hx) en69 rfl (by kernel_rfl) (by rfl) (fun _ => rfl)) ?_
          have hp := h.1
          replace h := h.2
          refine WL.mt0 (K := []) (p := none) hn (by rfl) (mt_callv ((TwoTable.mk (setE x22 0 (-1) y4.fE0) (setE x22 1 (-1) y4.fE1) (setE x22 2 (-1) y4.fE2) (setE x22 3 (-1) y4.fE3) (setE x22 4 (-1) y4.fE4)), true, x22, t.fLetters) hp rfl (by rfl) (by rfl) (by rfl) (by rfl)) (by rfl) (by rfl) (by rfl) ?_
          have hk_2 := h.1
          replace h := h.2
          refine WL.val hn (by rfl) (val_indexP (k := x22) 4 0 ((x22 : Int).toNat) ht rfl Try.underlying120 (by rfl) (by rfl) (by rfl) (by rfl) hk_2 (by simp)) (by rfl) ?_
          refine WL.storePV ([(setE x22 0 (-1) y4.fE0), (setE x22 1 (-1) y4.fE1), (setE x22 2 (-1) y4.fE2), (setE x22 3 (-1) y4.fE3), (setE x22 4 (-1) y4.fE4)] : List Int) (k := x22) (v := ((lvF t) ((TwoTable.mk (setE x22 0 (-1) y4.fE0) (setE x22 1 (-1) y4.fE1) (setE x22 2 (-1) y4.fE2) (setE x22 3 (-1) y4.fE3) (setE x22 4 (-1) y4.fE4)), true, x22, t.fLetters))) ht hn (by rfl) rfl (by rfl) (by rfl) (by rfl) (by rfl) (by rfl) (by rfl) hk_2 (by rfl) (by rfl) ?_
          refine WL.nil ?_
          exact En.at (I := fun zz => J zz) (T := fun zz => ⟨[(1, .sv (.one (.ptr 0 0))), (2, .sv (.one (.ptr 1 0))), (5, .sv (.one (.ptr 2 0))), (6, .sv (.one (.ptr 3 0))), (7, .sv (.one (.ptr 4 0))), (22, .sv (.one (I x22)))], [.box [I t.fLetters, I t.fStart, LS (lsT St46.ty) t.fNext, LS intT t.fMark] 45 true, .box [I 0, I 0, .v (.slice none 0 0), .v (.slice none 0 0)] 25 false, .box [I (t.fNext.length : Int)] 3 true, .box [.fn 69 [2, 0]] 121 false, .box [I zz.fE0, I zz.fE1, I zz.fE2, I zz.fE3, I zz.fE4] 120 false]⟩) (TwoTable.mk (setE x22 0 ((lvF t) ((TwoTable.mk (setE x22 0 (-1) y4.fE0) (setE x22 1 (-1) y4.fE1) (setE x22 2 (-1) y4.fE2) (setE x22 3 (-1) y4.fE3) (setE x22 4 (-1) y4.fE4)), true, x22, t.fLetters)) (setE x22 0 (-1) y4.fE0)) (setE x22 1 ((lvF t) ((TwoTable.mk (setE x22 0 (-1) y4.fE0) (setE x22 1 (-1) y4.fE1) (setE x22 2 (-1) y4.fE2) (setE x22 3 (-1) y4.fE3) (setE x22 4 (-1) y4.fE4)), true, x22, t.fLetters)) (setE x22 1 (-1) y4.fE1)) (setE x22 2 ((lvF t) ((TwoTable.mk (setE x22 0 (-1) y4.fE0) (setE x22 1 (-1) y4.fE1) (setE x22 2 (-1) y4.fE2) (setE x22 3 (-1) y4.fE3) (setE x22 4 (-1) y4.fE4)), true, x22, t.fLetters)) (setE x22 2 (-1) y4.fE2)) (setE x22 3 ((lvF t) ((TwoTable.mk (setE x22 0 (-1) y4.fE0) (setE x22 1 (-1) y4.fE1) (setE x22 2 (-1) y4.fE2) (setE x22 3 (-1) y4.fE3) (setE x22 4 (-1) y4.fE4)), true, x22, t.fLetters)) (setE x22 3 (-1) y4.fE3)) (setE x22 4 ((lvF t) ((TwoTable.mk (setE x22 0 (-1) y4.fE0) (setE x22 1 (-1) y4.fE1) (setE x22 2 (-1) y4.fE2) (setE x22 3 (-1) y4.fE3) (setE x22 4 (-1) y4.fE4)), true, x22, t.fLetters)) (setE x22 4 (-1) y4.fE4))) h (by kernel_rfl)
        · replace h := h.2 hb
          refine En.skip ?_
          exact En.at (I := fun zz => J zz) (T := fun zz => ⟨[(1, .sv (.one (.ptr 0 0))), (2, .sv (.one (.ptr 1 0))), (5, .sv (.one (.ptr 2 0))), (6, .sv (.one (.ptr 3 0))), (7, .sv (.one (.ptr 4 0))), (22, .sv (.one (I x22)))], [.box [I t.fLetters, I t.fStart, LS (lsT St46.ty) t.fNext, LS intT t.fMark] 45 true, .box [I 0, I 0, .v (.slice none 0 0), .v (.slice none 0 0)] 25 false, .box [I (t.fNext.length : Int)] 3 true, .box [.fn 69 [2, 0]] 121 false, .box [I zz.fE0, I zz.fE1, I zz.fE2, I zz.fE3, I zz.fE4] 120 false]⟩) (TwoTable.mk (setE x22 0 (-1) y4.fE0) (setE x22 1 (-1) y4.fE1) (setE x22 2 (-1) y4.fE2) (setE x22 3 (-1) y4.fE3) (setE x22 4 (-1) y4.fE4)) h (by kernel_rfl)
      · intro y4_2 h
        replace h := hJ _ h
        show En c ⟨[(1, .sv (.one (.ptr 0 0))), (2, .sv (.one (.ptr 1 0))), (5, .sv (.one (.ptr 2 0))), (6, .sv (.one (.ptr 3 0))), (7, .sv (.one (.ptr 4 0))), (22, .sv (.one (I x22)))], [.box [I t.fLetters, I t.fStart, LS (lsT St46.ty) t.fNext, LS intT t.fMark] 45 true, .box [I 0, I 0, .v (.slice none 0 0), .v (.slice none 0 0)] 25 false, .box [I (t.fNext.length : Int)] 3 true, .box [.fn 69 [2, 0]] 121 false, .box [I y4_2.fE0, I y4_2.fE1, I y4_2.fE2, I y4_2.fE3, I y4_2.fE4] 120 false]⟩ _
        refine En.region ?_
        refine WL.run ht hn 2 ⟨[(1, .sv (.one (.ptr 0 0))), (2, .sv (.one (.ptr 1 0))), (5, .sv (.one (.ptr 2 0))), (6, .sv (.one (.ptr 3 0))), (7, .sv (.one (.ptr 4 0))), (22, .sv (.one (I (wr (x22 + 1)))))], [.box [I t.fLetters, I t.fStart, LS (lsT St46.ty) t.fNext, LS intT t.fMark] 45 true, .box [I 0, I 0, .v (.slice none 0 0), .v (.slice none 0 0)] 25 false, .box [I (t.fNext.length : Int)] 3 true, .box [.fn 69 [2, 0]] 121 false, .box [I y4_2.fE0, I y4_2.fE1, I y4_2.fE2, I y4_2.fE3, I y4_2.fE4] 120 false]⟩ (by kernel_rfl) ?_
        refine WL.nil ?_
        exact En.at (I := fun zz => Inv zz.1 zz.2 ∧ mu zz.1 zz.2 < mu x22 y4) (T := fun zz => ⟨[(1, .sv (.one (.ptr 0 0))), (2, .sv (.one (.ptr 1 0))), (5, .sv (.one (.ptr 2 0))), (6, .sv (.one (.ptr 3 0))), (7, .sv (.one (.ptr 4 0))), (22, .sv (.one (I zz.1)))], [.box [I t.fLetters, I t.fStart, LS (lsT St46.ty) t.fNext, LS intT t.fMark] 45 true, .box [I 0, I 0, .v (.slice none 0 0), .v (.slice none 0 0)] 25 false, .box [I (t.fNext.length : Int)] 3 true, .box [.fn 69 [2, 0]] 121 false, .box [I zz.2.fE0, I zz.2.fE1, I zz.2.fE2, I zz.2.fE3, I zz.2.fE4] 120 false]⟩) ((wr (x22 + 1)), y4_2) h (by kernel_rfl)
    · replace h := h.2 hb
      refine En.exit rfl ?_
      refine En.seq ?_
      refine En.region ?_
      refine WL.run ht hn 6 ⟨[(1, .sv (.one (.ptr 0 0))), (2, .sv (.one (.ptr 1 0))), (5, .sv (.one (.ptr 2 0))), (6, .sv (.one (.ptr 3 0))), (7, .sv (.one (.ptr 4 0))), (39, .sv (.one (.fn 69 [2, 0]))), (40, .sv (.agg [I y4.fE0, I y4.fE1, I y4.fE2, I y4.fE3, I y4.fE4])), (42, .sv (.one (I t.fStart))), (44, .sv (.one (I t.fLetters)))], [.box [I t.fLetters, I t.fStart, LS (lsT St46.ty) t.fNext, LS intT t.fMark] 45 true, .box [I 0, I 0, .v (.slice none 0 0), .v (.slice none 0 0)] 25 false, .box [I (t.fNext.length : Int)] 3 true, .box [.fn 69 [2, 0]] 121 false, .box [I y4.fE0, I y4.fE1, I y4.fE2, I y4.fE3, I y4.fE4] 120 false]⟩ (by kernel_rfl) ?_
      refine WL.ghost 39 (.sv (.one (.rd (fvR (fun (x_ : (TwoTable × Bool × Int × Int)) => [.sv (.agg [I x_.1.fE0, I x_.1.fE1, I x_.1.fE2, I x_.1.fE3, I x_.1.fE4]), .sv (.one (B x_.2.1)), .sv (.one (I x_.2.2.1)), .sv (.one (I x_.2.2.2))]) (fun (r : Int) => .sv (.one (I r))) (lvDom t (t.fNext.length : Int)) (lvF t))))) (by rfl) (fv_of (M := [.box [I (t.fNext.length : Int)] 3 true, .box [I t.fLetters, I t.fStart, LS (lsT St46.ty) t.fNext, LS intT t.fMark] 45 true]) (caps := [2, 0]) (fun x_ hx => leaves_ct x_.1 x_.2.1 x_.2.2.1 x_.2.2.2 (t.fNext.length : Int) t hx) en69 rfl (by kernel_rfl) (by rfl) (fun _ => rfl)) ?_
      have hp := h.1
      replace h := h.2
      refine WL.mt0 (K := []) (p := none) hn (by rfl) (mt_callv (y4, true, t.fStart, t.fLetters) hp rfl (by rfl) (by rfl) (by rfl) (by rfl)) (by rfl) (by rfl) (by rfl) ?_
      refine WL.val hn (by rfl) (val_indexP (k := 4) 4 0 4 ht rfl Try.underlying120 (by rfl) (by rfl) (by rfl) (by rfl) (by decide) (by rfl)) (by rfl) ?_
      refine WL.run ht hn 1 ⟨[(1, .sv (.one (.ptr 0 0))), (2, .sv (.one (.ptr 1 0))), (5, .sv (.one (.ptr 2 0))), (6, .sv (.one (.ptr 3 0))), (7, .sv (.one (.ptr 4 0)))], [.box [I t.fLetters, I t.fStart, LS (lsT St46.ty) t.fNext, LS intT t.fMark] 45 true, .box [I 0, I 0, .v (.slice none 0 0), .v (.slice none 0 0)] 25 false, .box [I (t.fNext.length : Int)] 3 true, .box [.fn 69 [2, 0]] 121 false, .box [I y4.fE0, I y4.fE1, I y4.fE2, I y4.fE3, I ((lvF t) (y4, true, t.fStart, t.fLetters))] 120 false]⟩ (by kernel_rfl) ?_
      refine WL.nil ?_
      refine En.seq ?_
      refine En.region ?_
      refine WL.run ht hn 5 ⟨[(2, .sv (.one (.ptr 1 0))), (49, .sv (.one (I t.fLetters))), (50, .sv (.agg [I y4.fE0, I y4.fE1, I y4.fE2, I y4.fE3, I ((lvF t) (y4, true, t.fStart, t.fLetters))])), (51, .sv (.one (.fn 71 [2, 3]))), (52, .sv (.one (.fn 72 [3, 0])))], [.box [I t.fLetters, I t.fStart, LS (lsT St46.ty) t.fNext, LS intT t.fMark] 45 true, .box [I 0, I 0, .v (.slice none 0 0), .v (.slice none 0 0)] 25 false, .box [I (t.fNext.length : Int)] 3 true, .box [.fn 69 [2, 0]] 121 false, .gone]⟩ (by kernel_rfl) ?_
      refine WL.boxTurn (.rd (fvR (fun (x_ : (TwoTable × Bool × Int × Int)) => [.sv (.agg [I x_.1.fE0, I x_.1.fE1, I x_.1.fE2, I x_.1.fE3, I x_.1.fE4]), .sv (.one (B x_.2.1)), .sv (.one (I x_.2.2.1)), .sv (.one (I x_.2.2.2))]) (fun (r : Int) => .sv (.one (I r))) (lvDom t (t.fNext.length : Int)) (lvF t))) 3 0 (by rfl) (by rfl) (fv_at (fv_of (M := [.box [I (t.fNext.length : Int)] 3 true, .box [I t.fLetters, I t.fStart, LS (lsT St46.ty) t.fNext, LS intT t.fMark] 45 true]) (caps := [2, 0]) (fun x_ hx => leaves_ct x_.1 x_.2.1 x_.2.2.1 x_.2.2.2 (t.fNext.length : Int) t hx) en69 rfl (by kernel_rfl) (by rfl) (fun _ => rfl))) ?_
      refine WL.freeze [3] (by rfl) ?_
      refine WL.ghost 51 (.sv (.one (.rd (fvR (fun (x_ : (TwoTable × Int)) => [.sv (.agg [I x_.1.fE0, I x_.1.fE1, I x_.1.fE2, I x_.1.fE3, I x_.1.fE4]), .sv (.one (I x_.2))]) (fun (r : TwoTable) => .sv (.agg [I r.fE0, I r.fE1, I r.fE2, I r.fE3, I r.fE4])) (goDom (t.fNext.length : Int) (lvDom t (t.fNext.length : Int))) (goF (t.fNext.length : Int) (lvF t)))))) (by rfl) (fv_of (M := [.box [I (t.fNext.length : Int)] 3 true, .box [.rd (fvR (fun (x_ : (TwoTable × Bool × Int × Int)) => [.sv (.agg [I x_.1.fE0, I x_.1.fE1, I x_.1.fE2, I x_.1.fE3, I x_.1.fE4]), .sv (.one (B x_.2.1)), .sv (.one (I x_.2.2.1)), .sv (.one (I x_.2.2.2))]) (fun (r : Int) => .sv (.one (I r))) (lvDom t (t.fNext.length : Int)) (lvF t))] 121 true]) (caps := [2, 3]) (fun x_ hx => twoGo_ct x_.1 x_.2 (t.fNext.length : Int) (lvDom t (t.fNext.length : Int)) (lvF t) hx) en71 rfl (by kernel_rfl) (by rfl) (fun _ => rfl)) ?_
      refine WL.ghost 52 (.sv (.one (.rd (fvR (fun (x_ : TwoTable) => [.sv (.agg [I x_.fE0, I x_.fE1, I x_.fE2, I x_.fE3, I x_.fE4])]) (fun (r : Int) => .sv (.one (I r))) (markDom t (lvDom t (t.fNext.length : Int)) (lvF t)) (markTab t (lvF t)))))) (by rfl) (fv_of (M := [.box [.rd (fvR (fun (x_ : (TwoTable × Bool × Int × Int)) => [.sv (.agg [I x_.1.fE0, I x_.1.fE1, I x_.1.fE2, I x_.1.fE3, I x_.1.fE4]), .sv (.one (B x_.2.1)), .sv (.one (I x_.2.2.1)), .sv (.one (I x_.2.2.2))]) (fun (r : Int) => .sv (.one (I r))) (lvDom t (t.fNext.length : Int)) (lvF t))] 121 true, .box [I t.fLetters, I t.fStart, LS (lsT St46.ty) t.fNext, LS intT t.fMark] 45 true]) (caps := [3, 0]) (fun x_ hx => twoMark_ct x_ (lvDom t (t.fNext.length : Int)) (lvF t) t hx) en72 rfl (by kernel_rfl) (by rfl) (fun _ => rfl)) ?_
      have hp := h.1
      replace h := h.2
      refine WL.mt0 (K := []) (p := none) hn (by rfl) (mt_call (exploreTwoTable_ct t.fLetters (TwoTable.mk y4.fE0 y4.fE1 y4.fE2 y4.fE3 ((lvF t) (y4, true, t.fStart, t.fLetters))) (goDom (t.fNext.length : Int) (lvDom t (t.fNext.length : Int))) (goF (t.fNext.length : Int) (lvF t)) (markDom t (lvDom t (t.fNext.length : Int)) (lvF t)) (markTab t (lvF t)) 1048576 hp) en70 (caps := []) [] rfl (by rfl) (by kernel_rfl) (by kernel_rfl) (by rfl) (by rfl) (by rfl)) (by rfl) (by rfl) (by rfl) ?_
      refine WL.run ht hn 6 ⟨[(2, .sv (.one (.ptr 1 0))), (9, .sv (.one (.ptr 5 0))), (10, .sv (.one (B (explR (fun k (a : Nat) => (goF (t.fNext.length : Int) (lvF t)) (k, (a : Int))) (markTab t (lvF t)) (t.fLetters).toNat (TwoTable.mk y4.fE0 y4.fE1 y4.fE2 y4.fE3 ((lvF t) (y4, true, t.fStart, t.fLetters))) 1048576).2)))], [.gone, .box [I 0, I 0, .v (.slice none 0 0), .v (.slice none 0 0)] 25 false, .gone, .gone, .gone, .box [I (explR (fun k (a : Nat) => (goF (t.fNext.length : Int) (lvF t)) (k, (a : Int))) (markTab t (lvF t)) (t.fLetters).toNat (TwoTable.mk y4.fE0 y4.fE1 y4.fE2 y4.fE3 ((lvF t) (y4, true, t.fStart, t.fLetters))) 1048576).1.fLetters, I (explR (fun k (a : Nat) => (goF (t.fNext.length : Int) (lvF t)) (k, (a : Int))) (markTab t (lvF t)) (t.fLetters).toNat (TwoTable.mk y4.fE0 y4.fE1 y4.fE2 y4.fE3 ((lvF t) (y4, true, t.fStart, t.fLetters))) 1048576).1.fStart, LS (lsT intT) (explR (fun k (a : Nat) => (goF (t.fNext.length : Int) (lvF t)) (k, (a : Int))) (markTab t (lvF t)) (t.fLetters).toNat (TwoTable.mk y4.fE0 y4.fE1 y4.fE2 y4.fE3 ((lvF t) (y4, true, t.fStart, t.fLetters))) 1048576).1.fNext, LS intT (explR (fun k (a : Nat) => (goF (t.fNext.length : Int) (lvF t)) (k, (a : Int))) (markTab t (lvF t)) (t.fLetters).toNat (TwoTable.mk y4.fE0 y4.fE1 y4.fE2 y4.fE3 ((lvF t) (y4, true, t.fStart, t.fLetters))) 1048576).1.fMark] 25 false]⟩ (by kernel_rfl) ?_
      refine WL.nil ?_
      refine En.seq ?_
      refine En.seq ?_
      refine En.region ?_
      refine WL.run ht hn 1 ⟨[(2, .sv (.one (.ptr 1 0))), (9, .sv (.one (.ptr 5 0))), (10, .sv (.one (B (explR (fun k (a : Nat) => (goF (t.fNext.length : Int) (lvF t)) (k, (a : Int))) (markTab t (lvF t)) (t.fLetters).toNat (TwoTable.mk y4.fE0 y4.fE1 y4.fE2 y4.fE3 ((lvF t) (y4, true, t.fStart, t.fLetters))) 1048576).2))), (56, .sv (.agg [I (explR (fun k (a : Nat) => (goF (t.fNext.length : Int) (lvF t)) (k, (a : Int))) (markTab t (lvF t)) (t.fLetters).toNat (TwoTable.mk y4.fE0 y4.fE1 y4.fE2 y4.fE3 ((lvF t) (y4, true, t.fStart, t.fLetters))) 1048576).1.fLetters, I (explR (fun k (a : Nat) => (goF (t.fNext.length : Int) (lvF t)) (k, (a : Int))) (markTab t (lvF t)) (t.fLetters).toNat (TwoTable.mk y4.fE0 y4.fE1 y4.fE2 y4.fE3 ((lvF t) (y4, true, t.fStart, t.fLetters))) 1048576).1.fStart, LS (lsT intT) (explR (fun k (a : Nat) => (goF (t.fNext.length : Int) (lvF t)) (k, (a : Int))) (markTab t (lvF t)) (t.fLetters).toNat (TwoTable.mk y4.fE0 y4.fE1 y4.fE2 y4.fE3 ((lvF t) (y4, true, t.fStart, t.fLetters))) 1048576).1.fNext, LS intT (explR (fun k (a : Nat) => (goF (t.fNext.length : Int) (lvF t)) (k, (a : Int))) (markTab t (lvF t)) (t.fLetters).toNat (TwoTable.mk y4.fE0 y4.fE1 y4.fE2 y4.fE3 ((lvF t) (y4, true, t.fStart, t.fLetters))) 1048576).1.fMark]))], [.gone, .box [I 0, I 0, .v (.slice none 0 0), .v (.slice none 0 0)] 25 false, .gone, .gone, .gone, .box [I (explR (fun k (a : Nat) => (goF (t.fNext.length : Int) (lvF t)) (k, (a : Int))) (markTab t (lvF t)) (t.fLetters).toNat (TwoTable.mk y4.fE0 y4.fE1 y4.fE2 y4.fE3 ((lvF t) (y4, true, t.fStart, t.fLetters))) 1048576).1.fLetters, I (explR (fun k (a : Nat) => (goF (t.fNext.length : Int) (lvF t)) (k, (a : Int))) (markTab t (lvF t)) (t.fLetters).toNat (TwoTable.mk y4.fE0 y4.fE1 y4.fE2 y4.fE3 ((lvF t) (y4, true, t.fStart, t.fLetters))) 1048576).1.fStart, LS (lsT intT) (explR (fun k (a : Nat) => (goF (t.fNext.length : Int) (lvF t)) (k, (a : Int))) (markTab t (lvF t)) (t.fLetters).toNat (TwoTable.mk y4.fE0 y4.fE1 y4.fE2 y4.fE3 ((lvF t) (y4, true, t.fStart, t.fLetters))) 1048576).1.fNext, LS intT (explR (fun k (a : Nat) => (goF (t.fNext.length : Int) (lvF t)) (k, (a : Int))) (markTab t (lvF t)) (t.fLetters).toNat (TwoTable.mk y4.fE0 y4.fE1 y4.fE2 y4.fE3 ((lvF t) (y4, true, t.fStart, t.fLetters))) 1048576).1.fMark] 25 false]⟩ (by kernel_rfl) ?_
      have hp := h.1
      replace h := h.2
      refine WL.mt0 (K := []) (p := none) hn (by rfl) (mt_call (smallest_ct (explR (fun k (a : Nat) => (goF (t.fNext.length : Int) (lvF t)) (k, (a : Int))) (markTab t (lvF t)) (t.fLetters).toNat (TwoTable.mk y4.fE0 y4.fE1 y4.fE2 y4.fE3 ((lvF t) (y4, true, t.fStart, t.fLetters))) 1048576).1 hp) en45 (caps := []) [] rfl (by rfl) (by kernel_rfl) (by kernel_rfl) (by rfl) (by rfl) (by rfl)) (by rfl) (by rfl) (by rfl) ?_
      refine WL.run ht hn 1 ⟨[(2, .sv (.one (.ptr 1 0))), (9, .sv (.one (.ptr 5 0))), (10, .sv (.one (B (explR (fun k (a : Nat) => (goF (t.fNext.length : Int) (lvF t)) (k, (a : Int))) (markTab t (lvF t)) (t.fLetters).toNat (TwoTable.mk y4.fE0 y4.fE1 y4.fE2 y4.fE3 ((lvF t) (y4, true, t.fStart, t.fLetters))) 1048576).2)))], [.gone, .box [I 0, I 0, .v (.slice none 0 0), .v (.slice none 0 0)] 25 false, .gone, .gone, .gone, .box [I (canon ((explR (fun k (a : Nat) => (goF (t.fNext.length : Int) (lvF t)) (k, (a : Int))) (markTab t (lvF t)) (t.fLetters).toNat (TwoTable.mk y4.fE0 y4.fE1 y4.fE2 y4.fE3 ((lvF t) (y4, true, t.fStart, t.fLetters))) 1048576).1).fLetters.toNat (langD (explR (fun k (a : Nat) => (goF (t.fNext.length : Int) (lvF t)) (k, (a : Int))) (markTab t (lvF t)) (t.fLetters).toNat (TwoTable.mk y4.fE0 y4.fE1 y4.fE2 y4.fE3 ((lvF t) (y4, true, t.fStart, t.fLetters))) 1048576).1 ((explR (fun k (a : Nat) => (goF (t.fNext.length : Int) (lvF t)) (k, (a : Int))) (markTab t (lvF t)) (t.fLetters).toNat (TwoTable.mk y4.fE0 y4.fE1 y4.fE2 y4.fE3 ((lvF t) (y4, true, t.fStart, t.fLetters))) 1048576).1).fStart.toNat)).fLetters, I (canon ((explR (fun k (a : Nat) => (goF (t.fNext.length : Int) (lvF t)) (k, (a : Int))) (markTab t (lvF t)) (t.fLetters).toNat (TwoTable.mk y4.fE0 y4.fE1 y4.fE2 y4.fE3 ((lvF t) (y4, true, t.fStart, t.fLetters))) 1048576).1).fLetters.toNat (langD (explR (fun k (a : Nat) => (goF (t.fNext.length : Int) (lvF t)) (k, (a : Int))) (markTab t (lvF t)) (t.fLetters).toNat (TwoTable.mk y4.fE0 y4.fE1 y4.fE2 y4.fE3 ((lvF t) (y4, true, t.fStart, t.fLetters))) 1048576).1 ((explR (fun k (a : Nat) => (goF (t.fNext.length : Int) (lvF t)) (k, (a : Int))) (markTab t (lvF t)) (t.fLetters).toNat (TwoTable.mk y4.fE0 y4.fE1 y4.fE2 y4.fE3 ((lvF t) (y4, true, t.fStart, t.fLetters))) 1048576).1).fStart.toNat)).fStart, LS (lsT intT) (canon ((explR (fun k (a : Nat) => (goF (t.fNext.length : Int) (lvF t)) (k, (a : Int))) (markTab t (lvF t)) (t.fLetters).toNat (TwoTable.mk y4.fE0 y4.fE1 y4.fE2 y4.fE3 ((lvF t) (y4, true, t.fStart, t.fLetters))) 1048576).1).fLetters.toNat (langD (explR (fun k (a : Nat) => (goF (t.fNext.length : Int) (lvF t)) (k, (a : Int))) (markTab t (lvF t)) (t.fLetters).toNat (TwoTable.mk y4.fE0 y4.fE1 y4.fE2 y4.fE3 ((lvF t) (y4, true, t.fStart, t.fLetters))) 1048576).1 ((explR (fun k (a : Nat) => (goF (t.fNext.length : Int) (lvF t)) (k, (a : Int))) (markTab t (lvF t)) (t.fLetters).toNat (TwoTable.mk y4.fE0 y4.fE1 y4.fE2 y4.fE3 ((lvF t) (y4, true, t.fStart, t.fLetters))) 1048576).1).fStart.toNat)).fNext, LS intT (canon ((explR (fun k (a : Nat) => (goF (t.fNext.length : Int) (lvF t)) (k, (a : Int))) (markTab t (lvF t)) (t.fLetters).toNat (TwoTable.mk y4.fE0 y4.fE1 y4.fE2 y4.fE3 ((lvF t) (y4, true, t.fStart, t.fLetters))) 1048576).1).fLetters.toNat (langD (explR (fun k (a : Nat) => (goF (t.fNext.length : Int) (lvF t)) (k, (a : Int))) (markTab t (lvF t)) (t.fLetters).toNat (TwoTable.mk y4.fE0 y4.fE1 y4.fE2 y4.fE3 ((lvF t) (y4, true, t.fStart, t.fLetters))) 1048576).1 ((explR (fun k (a : Nat) => (goF (t.fNext.length : Int) (lvF t)) (k, (a : Int))) (markTab t (lvF t)) (t.fLetters).toNat (TwoTable.mk y4.fE0 y4.fE1 y4.fE2 y4.fE3 ((lvF t) (y4, true, t.fStart, t.fLetters))) 1048576).1).fStart.toNat)).fMark] 25 false]⟩ (by kernel_rfl) ?_
      refine WL.nil ?_
      refine En.seq ?_
      refine En.region ?_
      refine WL.run ht hn 3 ⟨[(2, .sv (.one (.ptr 1 0))), (9, .sv (.one (.ptr 5 0))), (60, .sv (.one (B (!(explR (fun k (a : Nat) => (goF (t.fNext.length : Int) (lvF t)) (k, (a : Int))) (markTab t (lvF t)) (t.fLetters).toNat (TwoTable.mk y4.fE0 y4.fE1 y4.fE2 y4.fE3 ((lvF t) (y4, true, t.fStart, t.fLetters))) 1048576).2))))], [.gone, .box [I 0, I 0, .v (.slice none 0 0), .v (.slice none 0 0)] 25 false, .gone, .gone, .gone, .box [I (canon ((explR (fun k (a : Nat) => (goF (t.fNext.length : Int) (lvF t)) (k, (a : Int))) (markTab t (lvF t)) (t.fLetters).toNat (TwoTable.mk y4.fE0 y4.fE1 y4.fE2 y4.fE3 ((lvF t) (y4, true, t.fStart, t.fLetters))) 1048576).1).fLetters.toNat (langD (explR (fun k (a : Nat) => (goF (t.fNext.length : Int) (lvF t)) (k, (a : Int))) (markTab t (lvF t)) (t.fLetters).toNat (TwoTable.mk y4.fE0 y4.fE1 y4.fE2 y4.fE3 ((lvF t) (y4, true, t.fStart, t.fLetters))) 1048576).1 ((explR (fun k (a : Nat) => (goF (t.fNext.length : Int) (lvF t)) (k, (a : Int))) (markTab t (lvF t)) (t.fLetters).toNat (TwoTable.mk y4.fE0 y4.fE1 y4.fE2 y4.fE3 ((lvF t) (y4, true, t.fStart, t.fLetters))) 1048576).1).fStart.toNat)).fLetters, I (canon ((explR (fun k (a : Nat) => (goF (t.fNext.length : Int) (lvF t)) (k, (a : Int))) (markTab t (lvF t)) (t.fLetters).toNat (TwoTable.mk y4.fE0 y4.fE1 y4.fE2 y4.fE3 ((lvF t) (y4, true, t.fStart, t.fLetters))) 1048576).1).fLetters.toNat (langD (explR (fun k (a : Nat) => (goF (t.fNext.length : Int) (lvF t)) (k, (a : Int))) (markTab t (lvF t)) (t.fLetters).toNat (TwoTable.mk y4.fE0 y4.fE1 y4.fE2 y4.fE3 ((lvF t) (y4, true, t.fStart, t.fLetters))) 1048576).1 ((explR (fun k (a : Nat) => (goF (t.fNext.length : Int) (lvF t)) (k, (a : Int))) (markTab t (lvF t)) (t.fLetters).toNat (TwoTable.mk y4.fE0 y4.fE1 y4.fE2 y4.fE3 ((lvF t) (y4, true, t.fStart, t.fLetters))) 1048576).1).fStart.toNat)).fStart, LS (lsT intT) (canon ((explR (fun k (a : Nat) => (goF (t.fNext.length : Int) (lvF t)) (k, (a : Int))) (markTab t (lvF t)) (t.fLetters).toNat (TwoTable.mk y4.fE0 y4.fE1 y4.fE2 y4.fE3 ((lvF t) (y4, true, t.fStart, t.fLetters))) 1048576).1).fLetters.toNat (langD (explR (fun k (a : Nat) => (goF (t.fNext.length : Int) (lvF t)) (k, (a : Int))) (markTab t (lvF t)) (t.fLetters).toNat (TwoTable.mk y4.fE0 y4.fE1 y4.fE2 y4.fE3 ((lvF t) (y4, true, t.fStart, t.fLetters))) 1048576).1 ((explR (fun k (a : Nat) => (goF (t.fNext.length : Int) (lvF t)) (k, (a : Int))) (markTab t (lvF t)) (t.fLetters).toNat (TwoTable.mk y4.fE0 y4.fE1 y4.fE2 y4.fE3 ((lvF t) (y4, true, t.fStart, t.fLetters))) 1048576).1).fStart.toNat)).fNext, LS intT (canon ((explR (fun k (a : Nat) => (goF (t.fNext.length : Int) (lvF t)) (k, (a : Int))) (markTab t (lvF t)) (t.fLetters).toNat (TwoTable.mk y4.fE0 y4.fE1 y4.fE2 y4.fE3 ((lvF t) (y4, true, t.fStart, t.fLetters))) 1048576).1).fLetters.toNat (langD (explR (fun k (a : Nat) => (goF (t.fNext.length : Int) (lvF t)) (k, (a : Int))) (markTab t (lvF t)) (t.fLetters).toNat (TwoTable.mk y4.fE0 y4.fE1 y4.fE2 y4.fE3 ((lvF t) (y4, true, t.fStart, t.fLetters))) 1048576).1 ((explR (fun k (a : Nat) => (goF (t.fNext.length : Int) (lvF t)) (k, (a : Int))) (markTab t (lvF t)) (t.fLetters).toNat (TwoTable.mk y4.fE0 y4.fE1 y4.fE2 y4.fE3 ((lvF t) (y4, true, t.fStart, t.fLetters))) 1048576).1).fStart.toNat)).fMark] 25 false]⟩ (by kernel_rfl) ?_
      refine WL.thru ⟨[(2, .sv (.one (.ptr 1 0))), (9, .sv (.one (.ptr 5 0))), (65, .sv (.one (B ((!(explR (fun k (a : Nat) => (goF (t.fNext.length : Int) (lvF t)) (k, (a : Int))) (markTab t (lvF t)) (t.fLetters).toNat (TwoTable.mk y4.fE0 y4.fE1 y4.fE2 y4.fE3 ((lvF t) (y4, true, t.fStart, t.fLetters))) 1048576).2) || (decide (((canon ((explR (fun k (a : Nat) => (goF (t.fNext.length : Int) (lvF t)) (k, (a : Int))) (markTab t (lvF t)) (t.fLetters).toNat (TwoTable.mk y4.fE0 y4.fE1 y4.fE2 y4.fE3 ((lvF t) (y4, true, t.fStart, t.fLetters))) 1048576).1).fLetters.toNat (langD (explR (fun k (a : Nat) => (goF (t.fNext.length : Int) (lvF t)) (k, (a : Int))) (markTab t (lvF t)) (t.fLetters).toNat (TwoTable.mk y4.fE0 y4.fE1 y4.fE2 y4.fE3 ((lvF t) (y4, true, t.fStart, t.fLetters))) 1048576).1 ((explR (fun k (a : Nat) => (goF (t.fNext.length : Int) (lvF t)) (k, (a : Int))) (markTab t (lvF t)) (t.fLetters).toNat (TwoTable.mk y4.fE0 y4.fE1 y4.fE2 y4.fE3 ((lvF t) (y4, true, t.fStart, t.fLetters))) 1048576).1).fStart.toNat)).fNext.length : Int) > 3000))))))], [.gone, .box [I 0, I 0, .v (.slice none 0 0), .v (.slice none 0 0)] 25 false, .gone, .gone, .gone, .box [I (canon ((explR (fun k (a : Nat) => (goF (t.fNext.length : Int) (lvF t)) (k, (a : Int))) (markTab t (lvF t)) (t.fLetters).toNat (TwoTable.mk y4.fE0 y4.fE1 y4.fE2 y4.fE3 ((lvF t) (y4, true, t.fStart, t.fLetters))) 1048576).1).fLetters.toNat (langD (explR (fun k (a : Nat) => (goF (t.fNext.length : Int) (lvF t)) (k, (a : Int))) (markTab t (lvF t)) (t.fLetters).toNat (TwoTable.mk y4.fE0 y4.fE1 y4.fE2 y4.fE3 ((lvF t) (y4, true, t.fStart, t.fLetters))) 1048576).1 ((explR (fun k (a : Nat) => (goF (t.fNext.length : Int) (lvF t)) (k, (a : Int))) (markTab t (lvF t)) (t.fLetters).toNat (TwoTable.mk y4.fE0 y4.fE1 y4.fE2 y4.fE3 ((lvF t) (y4, true, t.fStart, t.fLetters))) 1048576).1).fStart.toNat)).fLetters, I (canon ((explR (fun k (a : Nat) => (goF (t.fNext.length : Int) (lvF t)) (k, (a : Int))) (markTab t (lvF t)) (t.fLetters).toNat (TwoTable.mk y4.fE0 y4.fE1 y4.fE2 y4.fE3 ((lvF t) (y4, true, t.fStart, t.fLetters))) 1048576).1).fLetters.toNat (langD (explR (fun k (a : Nat) => (goF (t.fNext.length : Int) (lvF t)) (k, (a : Int))) (markTab t (lvF t)) (t.fLetters).toNat (TwoTable.mk y4.fE0 y4.fE1 y4.fE2 y4.fE3 ((lvF t) (y4, true, t.fStart, t.fLetters))) 1048576).1 ((explR (fun k (a : Nat) => (goF (t.fNext.length : Int) (lvF t)) (k, (a : Int))) (markTab t (lvF t)) (t.fLetters).toNat (TwoTable.mk y4.fE0 y4.fE1 y4.fE2 y4.fE3 ((lvF t) (y4, true, t.fStart, t.fLetters))) 1048576).1).fStart.toNat)).fStart, LS (lsT intT) (canon ((explR (fun k (a : Nat) => (goF (t.fNext.length : Int) (lvF t)) (k, (a : Int))) (markTab t (lvF t)) (t.fLetters).toNat (TwoTable.mk y4.fE0 y4.fE1 y4.fE2 y4.fE3 ((lvF t) (y4, true, t.fStart, t.fLetters))) 1048576).1).fLetters.toNat (langD (explR (fun k (a : Nat) => (goF (t.fNext.length : Int) (lvF t)) (k, (a : Int))) (markTab t (lvF t)) (t.fLetters).toNat (TwoTable.mk y4.fE0 y4.fE1 y4.fE2 y4.fE3 ((lvF t) (y4, true, t.fStart, t.fLetters))) 1048576).1 ((explR (fun k (a : Nat) => (goF (t.fNext.length : Int) (lvF t)) (k, (a : Int))) (markTab t (lvF t)) (t.fLetters).toNat (TwoTable.mk y4.fE0 y4.fE1 y4.fE2 y4.fE3 ((lvF t) (y4, true, t.fStart, t.fLetters))) 1048576).1).fStart.toNat)).fNext, LS intT (canon ((explR (fun k (a : Nat) => (goF (t.fNext.length : Int) (lvF t)) (k, (a : Int))) (markTab t (lvF t)) (t.fLetters).toNat (TwoTable.mk y4.fE0 y4.fE1 y4.fE2 y4.fE3 ((lvF t) (y4, true, t.fStart, t.fLetters))) 1048576).1).fLetters.toNat (langD (explR (fun k (a : Nat) => (goF (t.fNext.length : Int) (lvF t)) (k, (a : Int))) (markTab t (lvF t)) (t.fLetters).toNat (TwoTable.mk y4.fE0 y4.fE1 y4.fE2 y4.fE3 ((lvF t) (y4, true, t.fStart, t.fLetters))) 1048576).1 ((explR (fun k (a : Nat) => (goF (t.fNext.length : Int) (lvF t)) (k, (a : Int))) (markTab t (lvF t)) (t.fLetters).toNat (TwoTable.mk y4.fE0 y4.fE1 y4.fE2 y4.fE3 ((lvF t) (y4, true, t.fStart, t.fLetters))) 1048576).1).fStart.toNat)).fMark] 25 false]⟩ ?_ ?_
      · refine splitB (!(explR (fun k (a : Nat) => (goF (t.fNext.length : Int) (lvF t)) (k, (a : Int))) (markTab t (lvF t)) (t.fLetters).toNat (TwoTable.mk y4.fE0 y4.fE1 y4.fE2 y4.fE3 ((lvF t) (y4, true, t.fStart, t.fLetters))) 1048576).2) (fun hb0 => ?_) (fun hb0 => ?_)
        · refine WL.setB 60 hb0 (by kernel_rfl) ?_
          refine WL.run ht hn 5 ⟨[(2, .sv (.one (.ptr 1 0))), (9, .sv (.one (.ptr 5 0))), (65, .sv (.one (B true)))], [.gone, .box [I 0, I 0, .v (.slice none 0 0), .v (.slice none 0 0)] 25 false, .gone, .gone, .gone, .box [I (canon ((explR (fun k (a : Nat) => (goF (t.fNext.length : Int) (lvF t)) (k, (a : Int))) (markTab t (lvF t)) (t.fLetters).toNat (TwoTable.mk y4.fE0 y4.fE1 y4.fE2 y4.fE3 ((lvF t) (y4, true, t.fStart, t.fLetters))) 1048576).1).fLetters.toNat (langD (explR (fun k (a : Nat) => (goF (t.fNext.length : Int) (lvF t)) (k, (a : Int))) (markTab t (lvF t)) (t.fLetters).toNat (TwoTable.mk y4.fE0 y4.fE1 y4.fE2 y4.fE3 ((lvF t) (y4, true, t.fStart, t.fLetters))) 1048576).1 ((explR (fun k (a : Nat) => (goF (t.fNext.length : Int) (lvF t)) (k, (a : Int))) (markTab t (lvF t)) (t.fLetters).toNat (TwoTable.mk y4.fE0 y4.fE1 y4.fE2 y4.fE3 ((lvF t) (y4, true, t.fStart, t.fLetters))) 1048576).1).fStart.toNat)).fLetters, I (canon ((explR (fun k (a : Nat) => (goF (t.fNext.length : Int) (lvF t)) (k, (a : Int))) (markTab t (lvF t)) (t.fLetters).toNat (TwoTable.mk y4.fE0 y4.fE1 y4.fE2 y4.fE3 ((lvF t) (y4, true, t.fStart, t.fLetters))) 1048576).1).fLetters.toNat (langD (explR (fun k (a : Nat) => (goF (t.fNext.length : Int) (lvF t)) (k, (a : Int))) (markTab t (lvF t)) (t.fLetters).toNat (TwoTable.mk y4.fE0 y4.fE1 y4.fE2 y4.fE3 ((lvF t) (y4, true, t.fStart, t.fLetters))) 1048576).1 ((explR (fun k (a : Nat) => (goF (t.fNext.length : Int) (lvF t)) (k, (a : Int))) (markTab t (lvF t)) (t.fLetters).toNat (TwoTable.mk y4.fE0 y4.fE1 y4.fE2 y4.fE3 ((lvF t) (y4, true, t.fStart, t.fLetters))) 1048576).1).fStart.toNat)).fStart, LS (lsT intT) (canon ((explR (fun k (a : Nat) => (goF (t.fNext.length : Int) (lvF t)) (k, (a : Int))) (markTab t (lvF t)) (t.fLetters).toNat (TwoTable.mk y4.fE0 y4.fE1 y4.fE2 y4.fE3 ((lvF t) (y4, true, t.fStart, t.fLetters))) 1048576).1).fLetters.toNat (langD (explR (fun k (a : Nat) => (goF (t.fNext.length : Int) (lvF t)) (k, (a : Int))) (markTab t (lvF t)) (t.fLetters).toNat (TwoTable.mk y4.fE0 y4.fE1 y4.fE2 y4.fE3 ((lvF t) (y4, true, t.fStart, t.fLetters))) 1048576).1 ((explR (fun k (a : Nat) => (goF (t.fNext.length : Int) (lvF t)) (k, (a : Int))) (markTab t (lvF t)) (t.fLetters).toNat (TwoTable.mk y4.fE0 y4.fE1 y4.fE2 y4.fE3 ((lvF t) (y4, true, t.fStart, t.fLetters))) 1048576).1).fStart.toNat)).fNext, LS intT (canon ((explR (fun k (a : Nat) => (goF (t.fNext.length : Int) (lvF t)) (k, (a : Int))) (markTab t (lvF t)) (t.fLetters).toNat (TwoTable.mk y4.fE0 y4.fE1 y4.fE2 y4.fE3 ((lvF t) (y4, true, t.fStart, t.fLetters))) 1048576).1).fLetters.toNat (langD (explR (fun k (a : Nat) => (goF (t.fNext.length : Int) (lvF t)) (k, (a : Int))) (markTab t (lvF t)) (t.fLetters).toNat (TwoTable.mk y4.fE0 y4.fE1 y4.fE2 y4.fE3 ((lvF t) (y4, true, t.fStart, t.fLetters))) 1048576).1 ((explR (fun k (a : Nat) => (goF (t.fNext.length : Int) (lvF t)) (k, (a : Int))) (markTab t (lvF t)) (t.fLetters).toNat (TwoTable.mk y4.fE0 y4.fE1 y4.fE2 y4.fE3 ((lvF t) (y4, true, t.fStart, t.fLetters))) 1048576).1).fStart.toNat)).fMark] 25 false]⟩ (by kernel_rfl) ?_
          exact WL.nil (sub_ok (by simp only [hb0]; kernel_rfl))
        · refine WL.setB 60 hb0 (by kernel_rfl) ?_
          refine WL.run ht hn 5 ⟨[(2, .sv (.one (.ptr 1 0))), (9, .sv (.one (.ptr 5 0))), (65, .sv (.one (B (decide (((canon ((explR (fun k (a : Nat) => (goF (t.fNext.length : Int) (lvF t)) (k, (a : Int))) (markTab t (lvF t)) (t.fLetters).toNat (TwoTable.mk y4.fE0 y4.fE1 y4.fE2 y4.fE3 ((lvF t) (y4, true, t.fStart, t.fLetters))) 1048576).1).fLetters.toNat (langD (explR (fun k (a : Nat) => (goF (t.fNext.length : Int) (lvF t)) (k, (a : Int))) (markTab t (lvF t)) (t.fLetters).toNat (TwoTable.mk y4.fE0 y4.fE1 y4.fE2 y4.fE3 ((lvF t) (y4, true, t.fStart, t.fLetters))) 1048576).1 ((explR (fun k (a : Nat) => (goF (t.fNext.length : Int) (lvF t)) (k, (a : Int))) (markTab t (lvF t)) (t.fLetters).toNat (TwoTable.mk y4.fE0 y4.fE1 y4.fE2 y4.fE3 ((lvF t) (y4, true, t.fStart, t.fLetters))) 1048576).1).fStart.toNat)).fNext.length : Int) > 3000)))))], [.gone, .box [I 0, I 0, .v (.slice none 0 0), .v (.slice none 0 0)] 25 false, .gone, .gone, .gone, .box [I (canon ((explR (fun k (a : Nat) => (goF (t.fNext.length : Int) (lvF t)) (k, (a : Int))) (markTab t (lvF t)) (t.fLetters).toNat (TwoTable.mk y4.fE0 y4.fE1 y4.fE2 y4.fE3 ((lvF t) (y4, true, t.fStart, t.fLetters))) 1048576).1).fLetters.toNat (langD (explR (fun k (a : Nat) => (goF (t.fNext.length : Int) (lvF t)) (k, (a : Int))) (markTab t (lvF t)) (t.fLetters).toNat (TwoTable.mk y4.fE0 y4.fE1 y4.fE2 y4.fE3 ((lvF t) (y4, true, t.fStart, t.fLetters))) 1048576).1 ((explR (fun k (a : Nat) => (goF (t.fNext.length : Int) (lvF t)) (k, (a : Int))) (markTab t (lvF t)) (t.fLetters).toNat (TwoTable.mk y4.fE0 y4.fE1 y4.fE2 y4.fE3 ((lvF t) (y4, true, t.fStart, t.fLetters))) 1048576).1).fStart.toNat)).fLetters, I (canon ((explR (fun k (a : Nat) => (goF (t.fNext.length : Int) (lvF t)) (k, (a : Int))) (markTab t (lvF t)) (t.fLetters).toNat (TwoTable.mk y4.fE0 y4.fE1 y4.fE2 y4.fE3 ((lvF t) (y4, true, t.fStart, t.fLetters))) 1048576).1).fLetters.toNat (langD (explR (fun k (a : Nat) => (goF (t.fNext.length : Int) (lvF t)) (k, (a : Int))) (markTab t (lvF t)) (t.fLetters).toNat (TwoTable.mk y4.fE0 y4.fE1 y4.fE2 y4.fE3 ((lvF t) (y4, true, t.fStart, t.fLetters))) 1048576).1 ((explR (fun k (a : Nat) => (goF (t.fNext.length : Int) (lvF t)) (k, (a : Int))) (markTab t (lvF t)) (t.fLetters).toNat (TwoTable.mk y4.fE0 y4.fE1 y4.fE2 y4.fE3 ((lvF t) (y4, true, t.fStart, t.fLetters))) 1048576).1).fStart.toNat)).fStart, LS (lsT intT) (canon ((explR (fun k (a : Nat) => (goF (t.fNext.length : Int) (lvF t)) (k, (a : Int))) (markTab t (lvF t)) (t.fLetters).toNat (TwoTable.mk y4.fE0 y4.fE1 y4.fE2 y4.fE3 ((lvF t) (y4, true, t.fStart, t.fLetters))) 1048576).1).fLetters.toNat (langD (explR (fun k (a : Nat) => (goF (t.fNext.length : Int) (lvF t)) (k, (a : Int))) (markTab t (lvF t)) (t.fLetters).toNat (TwoTable.mk y4.fE0 y4.fE1 y4.fE2 y4.fE3 ((lvF t) (y4, true, t.fStart, t.fLetters))) 1048576).1 ((explR (fun k (a : Nat) => (goF (t.fNext.length : Int) (lvF t)) (k, (a : Int))) (markTab t (lvF t)) (t.fLetters).toNat (TwoTable.mk y4.fE0 y4.fE1 y4.fE2 y4.fE3 ((lvF t) (y4, true, t.fStart, t.fLetters))) 1048576).1).fStart.toNat)).fNext, LS intT (canon ((explR (fun k (a : Nat) => (goF (t.fNext.length : Int) (lvF t)) (k, (a : Int))) (markTab t (lvF t)) (t.fLetters).toNat (TwoTable.mk y4.fE0 y4.fE1 y4.fE2 y4.fE3 ((lvF t) (y4, true, t.fStart, t.fLetters))) 1048576).1).fLetters.toNat (langD (explR (fun k (a : Nat) => (goF (t.fNext.length : Int) (lvF t)) (k, (a : Int))) (markTab t (lvF t)) (t.fLetters).toNat (TwoTable.mk y4.fE0 y4.fE1 y4.fE2 y4.fE3 ((lvF t) (y4, true, t.fStart, t.fLetters))) 1048576).1 ((explR (fun k (a : Nat) => (goF (t.fNext.length : Int) (lvF t)) (k, (a : Int))) (markTab t (lvF t)) (t.fLetters).toNat (TwoTable.mk y4.fE0 y4.fE1 y4.fE2 y4.fE3 ((lvF t) (y4, true, t.fStart, t.fLetters))) 1048576).1).fStart.toNat)).fMark] 25 false]⟩ (by kernel_rfl) ?_
          exact WL.nil (sub_ok (by simp only [hb0]; kernel_rfl))
      · refine En.cond (b := ((!(explR (fun k (a : Nat) => (goF (t.fNext.length : Int) (lvF t)) (k, (a : Int))) (markTab t (lvF t)) (t.fLetters).toNat (TwoTable.mk y4.fE0 y4.fE1 y4.fE2 y4.fE3 ((lvF t) (y4, true, t.fStart, t.fLetters))) 1048576).2) || (decide (((canon ((explR (fun k (a : Nat) => (goF (t.fNext.length : Int) (lvF t)) (k, (a : Int))) (markTab t (lvF t)) (t.fLetters).toNat (TwoTable.mk y4.fE0 y4.fE1 y4.fE2 y4.fE3 ((lvF t) (y4, true, t.fStart, t.fLetters))) 1048576).1).fLetters.toNat (langD (explR (fun k (a : Nat) => (goF (t.fNext.length : Int) (lvF t)) (k, (a : Int))) (markTab t (lvF t)) (t.fLetters).toNat (TwoTable.mk y4.fE0 y4.fE1 y4.fE2 y4.fE3 ((lvF t) (y4, true, t.fStart, t.fLetters))) 1048576).1 ((explR (fun k (a : Nat) => (goF (t.fNext.length : Int) (lvF t)) (k, (a : Int))) (markTab t (lvF t)) (t.fLetters).toNat (TwoTable.mk y4.fE0 y4.fE1 y4.fE2 y4.fE3 ((lvF t) (y4, true, t.fStart, t.fLetters))) 1048576).1).fStart.toNat)).fNext.length : Int) > 3000)))) (by kernel_rfl) (fun hb => ?_) (fun hb => ?_)
        · replace h := h.1 hb
          refine En.seq ?_
          refine En.region ?_
          refine WL.run ht hn 3 ⟨[(2, .sv (.one (.ptr 1 0))), (3, .sv (.one (I 7)))], [.gone, .box [I 0, I 0, .v (.slice none 0 0), .v (.slice none 0 0)] 25 false, .gone, .gone, .gone, .gone]⟩ (by kernel_rfl) ?_
          refine WL.nil ?_
          refine En.ret ?_
          refine En.nilBox (T := (lsT intT)) 1 2 (by rfl) (by rfl) ?_
          refine En.nilBox (T := intT) 1 3 (by rfl) (by rfl) ?_
          exact En.back ht ((ApiDet.mk 0 0 [] []), 7) h (by kernel_rfl) rfl
        · replace h := h.2 hb
          refine En.skip ?_
          refine En.seq ?_
          refine En.region ?_
          refine WL.run ht hn 3 ⟨[(2, .sv (.one (.ptr 1 0))), (3, .sv (.one (I 0)))], [.gone, .box [I (canon ((explR (fun k (a : Nat) => (goF (t.fNext.length : Int) (lvF t)) (k, (a : Int))) (markTab t (lvF t)) (t.fLetters).toNat (TwoTable.mk y4.fE0 y4.fE1 y4.fE2 y4.fE3 ((lvF t) (y4, true, t.fStart, t.fLetters))) 1048576).1).fLetters.toNat (langD (explR (fun k (a : Nat) => (goF (t.fNext.length : Int) (lvF t)) (k, (a : Int))) (markTab t (lvF t)) (t.fLetters).toNat (TwoTable.mk y4.fE0 y4.fE1 y4.fE2 y4.fE3 ((lvF t) (y4, true, t.fStart, t.fLetters))) 1048576).1 ((explR (fun k (a : Nat) => (goF (t.fNext.length : Int) (lvF t)) (k, (a : Int))) (markTab t (lvF t)) (t.fLetters).toNat (TwoTable.mk y4.fE0 y4.fE1 y4.fE2 y4.fE3 ((lvF t) (y4, true, t.fStart, t.fLetters))) 1048576).1).fStart.toNat)).fLetters, I (canon ((explR (fun k (a : Nat) => (goF (t.fNext.length : Int) (lvF t)) (k, (a : Int))) (markTab t (lvF t)) (t.fLetters).toNat (TwoTable.mk y4.fE0 y4.fE1 y4.fE2 y4.fE3 ((lvF t) (y4, true, t.fStart, t.fLetters))) 1048576).1).fLetters.toNat (langD (explR (fun k (a : Nat) => (goF (t.fNext.length : Int) (lvF t)) (k, (a : Int))) (markTab t (lvF t)) (t.fLetters).toNat (TwoTable.mk y4.fE0 y4.fE1 y4.fE2 y4.fE3 ((lvF t) (y4, true, t.fStart, t.fLetters))) 1048576).1 ((explR (fun k (a : Nat) => (goF (t.fNext.length : Int) (lvF t)) (k, (a : Int))) (markTab t (lvF t)) (t.fLetters).toNat (TwoTable.mk y4.fE0 y4.fE1 y4.fE2 y4.fE3 ((lvF t) (y4, true, t.fStart, t.fLetters))) 1048576).1).fStart.toNat)).fStart, LS (lsT intT) (canon ((explR (fun k (a : Nat) => (goF (t.fNext.length : Int) (lvF t)) (k, (a : Int))) (markTab t (lvF t)) (t.fLetters).toNat (TwoTable.mk y4.fE0 y4.fE1 y4.fE2 y4.fE3 ((lvF t) (y4, true, t.fStart, t.fLetters))) 1048576).1).fLetters.toNat (langD (explR (fun k (a : Nat) => (goF (t.fNext.length : Int) (lvF t)) (k, (a : Int))) (markTab t (lvF t)) (t.fLetters).toNat (TwoTable.mk y4.fE0 y4.fE1 y4.fE2 y4.fE3 ((lvF t) (y4, true, t.fStart, t.fLetters))) 1048576).1 ((explR (fun k (a : Nat) => (goF (t.fNext.length : Int) (lvF t)) (k, (a : Int))) (markTab t (lvF t)) (t.fLetters).toNat (TwoTable.mk y4.fE0 y4.fE1 y4.fE2 y4.fE3 ((lvF t) (y4, true, t.fStart, t.fLetters))) 1048576).1).fStart.toNat)).fNext, LS intT (canon ((explR (fun k (a : Nat) => (goF (t.fNext.length : Int) (lvF t)) (k, (a : Int))) (markTab t (lvF t)) (t.fLetters).toNat (TwoTable.mk y4.fE0 y4.fE1 y4.fE2 y4.fE3 ((lvF t) (y4, true, t.fStart, t.fLetters))) 1048576).1).fLetters.toNat (langD (explR (fun k (a : Nat) => (goF (t.fNext.length : Int) (lvF t)) (k, (a : Int))) (markTab t (lvF t)) (t.fLetters).toNat (TwoTable.mk y4.fE0 y4.fE1 y4.fE2 y4.fE3 ((lvF t) (y4, true, t.fStart, t.fLetters))) 1048576).1 ((explR (fun k (a : Nat) => (goF (t.fNext.length : Int) (lvF t)) (k, (a : Int))) (markTab t (lvF t)) (t.fLetters).toNat (TwoTable.mk y4.fE0 y4.fE1 y4.fE2 y4.fE3 ((lvF t) (y4, true, t.fStart, t.fLetters))) 1048576).1).fStart.toNat)).fMark] 25 false, .gone, .gone, .gone, .gone]⟩ (by kernel_rfl) ?_
          refine WL.nil ?_
          refine En.ret ?_
          exact En.back ht ((canon ((explR (fun k (a : Nat) => (goF (t.fNext.length : Int) (lvF t)) (k, (a : Int))) (markTab t (lvF t)) (t.fLetters).toNat (TwoTable.mk y4.fE0 y4.fE1 y4.fE2 y4.fE3 ((lvF t) (y4, true, t.fStart, t.fLetters))) 1048576).1).fLetters.toNat (langD (explR (fun k (a : Nat) => (goF (t.fNext.length : Int) (lvF t)) (k, (a : Int))) (markTab t (lvF t)) (t.fLetters).toNat (TwoTable.mk y4.fE0 y4.fE1 y4.fE2 y4.fE3 ((lvF t) (y4, true, t.fStart, t.fLetters))) 1048576).1 ((explR (fun k (a : Nat) => (goF (t.fNext.length : Int) (lvF t)) (k, (a : Int))) (markTab t (lvF t)) (t.fLetters).toNat (TwoTable.mk y4.fE0 y4.fE1 y4.fE2 y4.fE3 ((lvF t) (y4, true, t.fStart, t.fLetters))) 1048576).1).fStart.toNat)), 0) h (by kernel_rfl) rfl
theorem en24 : ∀ args w, (callFunc 24 args).run Try.prog w = .ok (.enter 24 args) w := enters_of Try.func24 (by kernel_rfl) rfl
theorem twoDet_ct (t : ApiTwoWay)  : Ct 24 [.sv (.agg [I t.fLetters, I t.fStart, LS (lsT St46.ty) t.fNext, LS intT t.fMark])] [] (fun (_ : Unit) => True) (fun _ => .tup [.agg [I (twoDetR t).1.fLetters, I (twoDetR t).1.fStart, LS (lsT intT) (twoDetR t).1.fNext, LS intT (twoDetR t).1.fMark], .one (I (twoDetR t).2)]) := by
  refine (twoDet_walk t (fun res_ => res_ = (twoDetR t)) ?_).fun
  intro _ _
  refine ⟨fun h => ?_, fun h => ?_⟩
  · show _ = twoDetR t
    unfold twoDetR
    rw [if_neg (by simpa using h)]
  have h0 : twErr t = 0 := by simpa using h
  have ht := twErr_ok h0
  have hsz := ht.size
  have hlet := ht.letters
  refine ⟨fun i y => ∃ k : Nat, i = k ∧ k ≤ 4 ∧ y = begK t k, fun i _ => 4 - i.toNat, ⟨0, rfl, by omega, by simp [begK]⟩, ?_⟩
  rintro i y ⟨k, rfl, hk, rfl⟩
  refine ⟨fun hb => ?_, fun hb => ?_⟩
  · have hlt : k < 4 := by have := of_decide_eq_true hb; omega
    refine ⟨fun y => y = begK t (k + 1), ⟨⟨by omega, by omega⟩, fun h => ?_, fun h => ?_⟩, ?_⟩
    · have hn := dlt h
      refine ⟨⟨ht, rfl, ⟨by show (0 : Int) ≤ (k : Int); omega, by show (k : Int) < _; omega⟩, ⟨by show (0 : Int) ≤ t.fLetters; omega, by show t.fLetters < t.fLetters + 2; omega⟩, fun h => by cases h⟩, ⟨by omega, by omega⟩, begK_new hlt hn⟩
    · exact begK_old hlt (dge h)
    · rintro y rfl
      refine ⟨⟨k + 1, wsucc (by omega), hlt, rfl⟩, ?_⟩
      show 4 - (wr ((k : Int) + 1)).toNat < 4 - (k : Int).toNat
      rw [wsucc (by omega)]
      omega
  have : k = 4 := by have := of_decide_eq_false hb; omega
  subst this
  rw [begK_end]
  have h0m : begT t ∈ tabAll t.fNext.length := mem_tabs.1 (begT_in ht)
  have hP : ∀ s a, s ∈ tabAll t.fNext.length → a < t.fLetters.toNat → twoGoN t s a ∈ tabAll t.fNext.length := fun s a hs ha => mem_tabs.1 (goF_in ht (mem_tabs.2 hs) (by omega))
  have hml := len_tabs4 hsz.2
  refine ⟨⟨ht, rfl, ht.start, ⟨by show (0 : Int) ≤ t.fLetters; omega, by show t.fLetters < t.fLetters + 2; omega⟩, fun h => by cases h⟩, ⟨by omega, by decide, TabIn t.fNext.length, begT_in ht, fun s a hs ha => ⟨goDom_in ht hs (by omega), goF_in ht hs (by omega)⟩, fun s hs => markDom_in ht hs⟩, ?_⟩
  have key : ∀ E : ApiDet × Bool, E = (explD (twoGoN t) (markTab t (lvF t)) t.fLetters.toNat (begT t), true) → ClsOk E.1 ∧ E.2 = true ∧ (canon (E.1).fLetters.toNat (langD E.1 (E.1).fStart.toNat)) = twoDetC t := by
    rintro E rfl
    have hcount := explD_count (mark := markTab t (lvF t)) h0m hP
    refine ⟨⟨explD_wf h0m hP, Nat.le_trans hcount (by omega), ?_, explD_marks h0m hP fun k hk => by rcases mark_01 ht (mem_tabs.2 hk) with h | h <;> rw [h] <;> decide⟩, rfl, canon_congr fun w hw => explD_lang h0m hP hw⟩
    show ((t.fLetters.toNat : Nat) : Int) ≤ 1000
    omega
  obtain ⟨k1, k2, k3⟩ := key _ (explR_ends (limit := 1048576) h0m hP (by omega))
  refine ⟨k1, fun h => ?_, fun h => ?_⟩
  · show _ = twoDetR t
    unfold twoDetR
    rw [if_pos h0]
    rw [Bool.or_eq_true] at h
    rcases h with h | h
    · have h : (!(explR (twoGoN t) (markTab t (lvF t)) t.fLetters.toNat (begT t) 1048576).2) = true := h
      rw [k2] at h
      cases h
    · have h : ((twoDetC t).fNext.length : Int) > 3000 := by rw [← k3]; exact of_decide_eq_true h
      rw [if_pos (by omega)]
  · show _ = twoDetR t
    unfold twoDetR
    rw [if_pos h0]
    rw [Bool.or_eq_false_iff] at h
    have h2 : ¬ ((twoDetC t).fNext.length : Int) > 3000 := by rw [← k3]; exact of_decide_eq_false h.2
    rw [if_neg (by omega), ← k3]
    rfl
end Go.Proofs.Ytiinkohfldopbaa

/- The contract of TwoOne. No condition. -/
namespace Go.Proofs.Ytiinkohfldopbaa
open Go.RowKit Go.MapKept
set_option linter.unusedSimpArgs false
set_option linter.unusedVariables false
set_option maxRecDepth 100000

section
variable {t : ApiTwoWay} {w : List Int}
/-- the walker's states and turns at the places of a tape -/
def nxT (t : ApiTwoWay) (w : List Int) (k : Nat) (q : Int) : Int := (cel t q ((tape t w).getD k 0)).fE0
def rtT (t : ApiTwoWay) (w : List Int) (k : Nat) (q : Int) : Bool := (cel t q ((tape t w).getD k 0)).fE1 == 1
theorem tape_at (h : TwOk t) (hw : ∀ a ∈ w, 0 ≤ a ∧ a < t.fLetters) (k : Nat) : 0 ≤ (tape t w).getD k 0 ∧ (tape t w).getD k 0 < t.fLetters + 2 := by
  by_cases hk : k < (tape t w).length
  · exact tape_in h hw _ (getD_mem hk)
  · have := h.letters
    rw [List.getD_eq_getElem?_getD, List.getElem?_eq_none (by omega)]
    show (0 : Int) ≤ 0 ∧ (0 : Int) < t.fLetters + 2
    omega
theorem nx_in (h : TwOk t) (hw : ∀ a ∈ w, 0 ≤ a ∧ a < t.fLetters) (k : Nat) (q : Int) (hq : 0 ≤ q ∧ q < (t.fNext.length : Int)) : 0 ≤ nxT t w k q ∧ nxT t w k q < (t.fNext.length : Int) := (cel_in h hq (tape_at h hw k)).2.1
theorem tape_len : (tape t w).length = w.length + 2 := by simp [tape]
theorem tape_mid {k : Nat} (hk : k < w.length) : (tape t w).getD (k + 1) 0 = w[k] := by
  unfold tape
  rw [List.getD_eq_getElem?_getD, List.getElem?_append_left (by simp; omega)]
  show (w[k]?).getD 0 = w[k]
  rw [List.getElem?_eq_getElem hk]
  rfl
theorem tape_end : (tape t w).getD (w.length + 1) 0 = t.fLetters + 1 := by
  unfold tape
  rw [List.getD_eq_getElem?_getD, List.getElem?_append_right (by simp)]
  simp
/-- what runs to and fro tells: does one leave the tape's end in a state that counts? -/
def Leaves (t : ApiTwoWay) (w : List Int) : Prop := ∃ q, E0 (nxT t w) (rtT t w) t.fStart (w.length + 1) q ∧ t.fMark.getD q.toNat 0 = 1
theorem stp_eq (h : TwOk t) (hw : ∀ a ∈ w, 0 ≤ a ∧ a < t.fLetters) {c : Int × Int} (hq : 0 ≤ c.2 ∧ c.2 < (t.fNext.length : Int)) : stp (nxT t w) (rtT t w) c = (c.1 + (cel t c.2 ((tape t w).getD c.1.toNat 0)).fE1, (cel t c.2 ((tape t w).getD c.1.toNat 0)).fE0) := by
  have h1 := (cel_in h hq (tape_at h hw c.1.toNat)).2.2
  unfold stp
  rcases h1 with e | e
  · rw [if_pos (by unfold rtT; rw [e]; decide), e]
    rfl
  · rw [if_neg (by unfold rtT; rw [e]; decide), e]
    rfl
theorem conf_in (h : TwOk t) (hw : ∀ a ∈ w, 0 ≤ a ∧ a < t.fLetters) (i : Nat) : 0 ≤ (itr (nxT t w) (rtT t w) i (0, t.fStart)).2 ∧ (itr (nxT t w) (rtT t w) i (0, t.fStart)).2 < (t.fNext.length : Int) := by
  induction i with
  | zero => exact h.start
  | succ i ih =>
    rw [itr_succ]
    unfold stp
    split <;> exact nx_in h hw _ _ ih
def Ends (t : ApiTwoWay) (w : List Int) (j : Nat) : Prop := ∃ m q, j ≤ m ∧ Way (nxT t w) (rtT t w) m (0, t.fStart) (w.length + 1) q ∧ t.fMark.getD q.toNat 0 = 1
theorem ends_zero : Ends t w 0 ↔ Leaves t w := by
  constructor
  · rintro ⟨m, q, _, h, e⟩
    exact ⟨q, way_e0 _ _ _ h, e⟩
  · rintro ⟨q, h, e⟩
    obtain ⟨m, h⟩ := h.way
    exact ⟨m, q, Nat.zero_le _, h, e⟩
theorem run_ends (h : TwOk t) (hw : ∀ a ∈ w, 0 ≤ a ∧ a < t.fLetters) : ∀ (fuel j : Nat), fuel + j = (tape t w).length * t.fNext.length + 2 → (∀ i, i < j → 0 ≤ (itr (nxT t w) (rtT t w) i (0, t.fStart)).1 ∧ (itr (nxT t w) (rtT t w) i (0, t.fStart)).1 < ((tape t w).length : Int)) →
    ((runF t (tape t w) fuel j (itr (nxT t w) (rtT t w) j (0, t.fStart)).1 (itr (nxT t w) (rtT t w) j (0, t.fStart)).2).1 = true ↔ Ends t w j) := by
  have hshort : ∀ m q, Way (nxT t w) (rtT t w) m (0, t.fStart) (w.length + 1) q → m ≤ (tape t w).length * t.fNext.length := fun m q hW => by
    have := way_short h.start (fun k q hq => nx_in h hw k q hq) hW
    rw [tape_len]
    exact this
  intro fuel
  induction fuel with
  | zero =>
    intro j hj _
    constructor
    · intro e; cases e
    · rintro ⟨m, q, hm, hW, _⟩
      have := hshort m q hW
      omega
  | succ fuel ih =>
    intro j hj hin
    rw [runF]
    by_cases hb : 0 ≤ (itr (nxT t w) (rtT t w) j (0, t.fStart)).1 ∧ (itr (nxT t w) (rtT t w) j (0, t.fStart)).1 < ((tape t w).length : Int)
    · rw [if_pos hb]
      by_cases hs : (j : Int) > ((tape t w).length : Int) * (t.fNext.length : Int)
      · rw [if_pos hs]
        rw [← Int.natCast_mul] at hs
        constructor
        · intro e; cases e
        · rintro ⟨m, q, hm, hW, _⟩
          have := hshort m q hW
          omega
      · rw [if_neg hs]
        have hst := stp_eq h hw (conf_in h hw j)
        rw [← itr_succ] at hst
        have e1 := congrArg Prod.fst hst
        have e2 := congrArg Prod.snd hst
        simp only at e1 e2
        rw [← e1, ← e2]
        have := ih (j + 1) (by omega) fun i hi => by
          by_cases e : i = j
          · subst e; exact hb
          · exact hin i (by omega)
        rw [show ((j : Int) + 1) = ((j + 1 : Nat) : Int) by omega]
        refine this.trans ⟨?_, ?_⟩
        · rintro ⟨m, q, hm, hW⟩
          exact ⟨m, q, by omega, hW⟩
        · rintro ⟨m, q, hm, hW, hq⟩
          refine ⟨m, q, ?_, hW, hq⟩
          refine Decidable.byContradiction fun hlt => ?_
          have : m = j := by omega
          subst this
          rw [hW.1, tape_len] at hb
          simp only at hb
          omega
    · rw [if_neg hb]
      constructor
      · intro e
        by_cases hp : (itr (nxT t w) (rtT t w) j (0, t.fStart)).1 > 0
        · have e : (if (itr (nxT t w) (rtT t w) j (0, t.fStart)).1 > 0 then (t.fMark.getD (itr (nxT t w) (rtT t w) j (0, t.fStart)).2.toNat 0 == 1) else false) = true := e
          rw [if_pos hp] at e
          have hle : (itr (nxT t w) (rtT t w) j (0, t.fStart)).1 ≤ ((tape t w).length : Int) := by
            cases j with
            | zero =>
              exfalso
              have : (0 : Int) > 0 := hp
              omega
            | succ j =>
              have h1 := (hin j (by omega)).2
              have h2 := stp_le (nx := nxT t w) (rt := rtT t w) (itr (nxT t w) (rtT t w) j (0, t.fStart))
              rw [← itr_succ] at h2
              omega
          have hl := tape_len (t := t) (w := w)
          refine ⟨j, (itr (nxT t w) (rtT t w) j (0, t.fStart)).2, Nat.le_refl _, ⟨?_, fun i hi => ?_⟩, by simpa using e⟩
          · refine Prod.ext ?_ rfl
            show (itr (nxT t w) (rtT t w) j (0, t.fStart)).1 = ((w.length + 1 : Nat) : Int) + 1
            omega
          · have := hin i hi
            omega
        · have e : (if (itr (nxT t w) (rtT t w) j (0, t.fStart)).1 > 0 then (t.fMark.getD (itr (nxT t w) (rtT t w) j (0, t.fStart)).2.toNat 0 == 1) else false) = true := e
          rw [if_neg hp] at e
          cases e
      · rintro ⟨m, q, hm, hW, hq⟩
        have hl := tape_len (t := t) (w := w)
        have : m = j := by
          refine Decidable.byContradiction fun hne => hb ?_
          have := hW.2 j (by omega)
          omega
        subst this
        show (if (itr (nxT t w) (rtT t w) m (0, t.fStart)).1 > 0 then (t.fMark.getD (itr (nxT t w) (rtT t w) m (0, t.fStart)).2.toNat 0 == 1) else false) = true
        rw [hW.1]
        simp only
        rw [if_pos (by omega), hq]
        rfl
theorem run_leaves (h : TwOk t) (hw : ∀ a ∈ w, 0 ≤ a ∧ a < t.fLetters) : (runF t (tape t w) ((tape t w).length * t.fNext.length + 2) 0 0 t.fStart).1 = true ↔ Leaves t w :=
  (run_ends h hw ((tape t w).length * t.fNext.length + 2) 0 (by omega) fun i hi => absurd hi (Nat.not_lt_zero _)).trans ends_zero
/-- what a table tells -/
structure Tells (t : ApiTwoWay) (w : List Int) (k : Nat) (s : TwoTable) : Prop where
  in_ : TabIn t.fNext.length s
  tab : IsTab (nxT t w) (rtT t w) t.fNext.length k (tabF s)
  first : ∀ x, 0 ≤ x → (s.fE4 = x ↔ E0 (nxT t w) (rtT t w) t.fStart k x)
theorem isTab_congr {nx : Nat → Int → Int} {rt : Nat → Int → Bool} {n k : Nat} {f g : Int → Int} (h : IsTab nx rt n k f) (e : ∀ q, 0 ≤ q ∧ q < (n : Int) → g q = f q) : IsTab nx rt n k g := fun q hq x hx => by
  rw [e q hq]
  exact h q hq x hx
theorem tells_beg (h : TwOk t) : Tells t w 0 (begT t) := by
  have h0 : IsTab (nxT t w) (rtT t w) t.fNext.length 0 (lvB t) := IsTab.zero
  refine ⟨begT_in h, isTab_congr h0 fun q hq => tabF_new h.size.2 hq, fun x hx => ?_⟩
  show lvB t t.fStart = x ↔ _
  rw [h0 t.fStart h.start x hx]
  constructor
  · exact .zero
  · intro h1
    cases h1 with
    | zero h1 => exact h1
theorem e0_iff (h : TwOk t) (hw : ∀ a ∈ w, 0 ≤ a ∧ a < t.fLetters) {k : Nat} {s : TwoTable} (hs : Tells t w k s) {f : Int → Int} (hf : IsTab (nxT t w) (rtT t w) t.fNext.length (k + 1) f) {x : Int} (hx : 0 ≤ x) : (if s.fE4 ≥ 0 then f s.fE4 else -1) = x ↔ E0 (nxT t w) (rtT t w) t.fStart (k + 1) x := by
  have h4 := (tabIn_iff.1 hs.in_).2.2.2.2
  by_cases hp : s.fE4 ≥ 0
  · rw [if_pos hp, hf s.fE4 ⟨hp, h4.2⟩ x hx]
    have h1 := (hs.first s.fE4 hp).1 rfl
    constructor
    · exact fun h2 => .succ h1 h2
    · intro h2
      cases h2 with
      | @succ _ p _ h3 h5 =>
        have : s.fE4 = p := (hs.first p (h3.in_ (fun k q hq => nx_in h hw k q hq) h.start).1).2 h3
        rw [this]
        exact h5
  · rw [if_neg hp]
    constructor
    · intro e; omega
    · intro h2
      cases h2 with
      | @succ _ p _ h3 h5 =>
        have hp0 := (h3.in_ (fun k q hq => nx_in h hw k q hq) h.start).1
        have := (hs.first p hp0).2 h3
        omega
theorem tells_step (h : TwOk t) (hw : ∀ a ∈ w, 0 ≤ a ∧ a < t.fLetters) {k : Nat} {s : TwoTable} (hs : Tells t w k s) {a : Int} (ha : 0 ≤ a ∧ a < t.fLetters + 2) (e : (tape t w).getD (k + 1) 0 = a) : IsTab (nxT t w) (rtT t w) t.fNext.length (k + 1) (fun q => lvF t (s, false, q, a)) := by
  have := hs.tab.step (fun k q hq => nx_in h hw k q hq) (hs.in_.small h)
  refine isTab_congr this fun q _ => ?_
  show lvR t s false q a = _
  unfold lvR
  rw [if_neg (by decide), ← e]
  rfl
theorem tells_go (h : TwOk t) (hw : ∀ a ∈ w, 0 ≤ a ∧ a < t.fLetters) {k : Nat} {s : TwoTable} (hs : Tells t w k s) {a : Int} (ha : 0 ≤ a ∧ a < t.fLetters + 2) (e : (tape t w).getD (k + 1) 0 = a) : Tells t w (k + 1) (goF (t.fNext.length : Int) (lvF t) (s, a)) := by
  have h1 := tells_step h hw hs ha e
  exact ⟨goF_in h hs.in_ ha, isTab_congr h1 fun q hq => tabF_new h.size.2 hq, fun x hx => e0_iff h hw hs h1 hx⟩
theorem tells_word (h : TwOk t) (hw : ∀ a ∈ w, 0 ≤ a ∧ a < t.fLetters) : ∀ k, k ≤ w.length → Tells t w k (((w.take k).map Int.toNat).foldl (twoGoN t) (begT t))
  | 0, _ => tells_beg h
  | k + 1, hk => by
    have ih := tells_word h hw k (by omega)
    have hlt : k < w.length := by omega
    have ha := hw _ (List.getElem_mem hlt)
    rw [List.take_add_one, List.map_append, List.foldl_append, List.getElem?_eq_getElem hlt]
    have := tells_go h hw ih (a := w[k]) (by omega) (tape_mid hlt)
    show Tells t w (k + 1) (goF _ _ (_, ((w[k].toNat : Nat) : Int)))
    rw [show ((w[k].toNat : Nat) : Int) = w[k] by omega]
    exact this
theorem lang_leaves (h : TwOk t) (hw : ∀ a ∈ w, 0 ≤ a ∧ a < t.fLetters) : twoLang t (w.map Int.toNat) = 1 ↔ Leaves t w := by
  have hs := tells_word h hw w.length (Nat.le_refl _)
  rw [List.take_length] at hs
  show markTab t (lvF t) ((w.map Int.toNat).foldl (twoGoN t) (begT t)) = 1 ↔ _
  generalize (w.map Int.toNat).foldl (twoGoN t) (begT t) = s at hs
  have hlet := h.letters
  have h1 := tells_step h hw hs (a := t.fLetters + 1) (by omega) tape_end
  have h2 := fun x hx => e0_iff h hw hs h1 (x := x) hx
  unfold markTab Leaves
  by_cases h5 : s.fE4 < 0
  · rw [if_pos h5]
    constructor
    · intro e; cases e
    · rintro ⟨q, hq, _⟩
      exfalso
      have hq0 := (hq.in_ (fun k q hq => nx_in h hw k q hq) h.start).1
      have := (h2 q hq0).2 hq
      rw [if_neg (by omega)] at this
      omega
  · rw [if_neg h5]
    by_cases h6 : lvF t (s, false, s.fE4, t.fLetters + 1) ≥ 0
    · rw [if_pos h6]
      have h7 := (h2 _ h6).1 (by rw [if_pos (by omega)])
      constructor
      · exact fun e => ⟨_, h7, e⟩
      · rintro ⟨q, hq, e⟩
        have hq0 := (hq.in_ (fun k q hq => nx_in h hw k q hq) h.start).1
        have := (h2 q hq0).2 hq
        rw [if_pos (by omega)] at this
        rw [this]
        exact e
    · rw [if_neg h6]
      constructor
      · intro e; cases e
      · rintro ⟨q, hq, _⟩
        exfalso
        have hq0 := (hq.in_ (fun k q hq => nx_in h hw k q hq) h.start).1
        have := (h2 q hq0).2 hq
        rw [if_pos (by omega)] at this
        omega
end
theorem twoLang_ok {t : ApiTwoWay} (h : TwOk t) : CanonOk t.fLetters.toNat (twoLang t) 3125 := by
  have := canonOk_keys (go := twoGoN t) (mark := markTab t (lvF t)) (L := t.fLetters.toNat) (k0 := begT t) (m := tabAll t.fNext.length) (mem_tabs.1 (begT_in h)) fun s a hs ha => mem_tabs.1 (goF_in h (mem_tabs.2 hs) (by omega))
  exact this.mono (len_tabs4 h.size.2)
theorem mark_01' {t : ApiTwoWay} (h : TwOk t) (s : TwoTable) : markTab t (lvF t) s = 0 ∨ markTab t (lvF t) s = 1 := by
  unfold markTab
  split
  · exact .inl rfl
  · split
    · by_cases hi : (lvF t (s, false, s.fE4, t.fLetters + 1)).toNat < t.fMark.length
      · exact h.mark _ (getD_mem hi)
      · left
        rw [List.getD_eq_getElem?_getD, List.getElem?_eq_none (by omega)]
        rfl
    · exact .inl rfl
theorem twoDet_ok {t : ApiTwoWay} (h : TwOk t) (hs : ¬ (twoDetC t).fNext.length > 3000) : DetOk (twoDetC t) := by
  have ho := twoLang_ok h
  have hl := h.letters
  exact CanonOk.det (n := 3000) ⟨ho.wf, ho.letters, ho.start, by show (twoDetC t).fNext.length ≤ 3000; omega, ho.lang, ho.marks⟩ (by omega) (by omega) fun w => mark_01' h _
theorem runF_err {t : ApiTwoWay} {T : List Int} : ∀ (k : Nat) (s a q : Int), (runF t T k s a q).2.2 = 0
  | 0, _, _, _ => rfl
  | k + 1, s, a, q => by
    unfold runF
    split
    · split
      · rfl
      · exact runF_err k _ _ _
    · rfl
theorem acc_leaves {t : ApiTwoWay} {w : List Int} (h : TwOk t) (hs : ¬ (twoDetC t).fNext.length > 3000) (he : mayE t.fLetters w = 0) : (accR (twoDetC t) w).2 = 0 ∧ ((accR (twoDetC t) w).1 = true ↔ Leaves t w) := by
  have ho := twoLang_ok h
  have hd := twoDet_ok h hs
  have hl := h.letters
  have hL : (twoDetC t).fLetters = t.fLetters := by
    show (canon _ _).fLetters = _
    rw [ho.letters]
    omega
  have hw := (mayE_ok he).2
  have hS : (twoDetC t).fStart = 0 := ho.start
  have hin := aft_in hd w (twoDetC t).fStart (by rw [hL]; exact hw) hd.start
  unfold accR
  rw [if_pos ((detErr_iff _).2 hd), hL, if_pos he]
  refine ⟨rfl, ?_⟩
  rw [← lang_leaves h hw, hin.2.2, hS]
  have := ho.lang (w.map Int.toNat) fun a ha => by
    obtain ⟨b, hb, rfl⟩ := List.mem_map.1 ha
    have := hw b hb
    omega
  rw [← this]
  show ((twoDetC t).fMark.getD _ 0 == 1) = true ↔ _
  rw [beq_iff_eq]
  rfl
def twoTiny : ApiTwoWay := ⟨1, 0, [[⟨0, 1⟩, ⟨0, 1⟩, ⟨0, 1⟩]], [1]⟩
theorem tiny_two : twoDetR twoTiny = (⟨1, 0, [[0]], [1]⟩, 0) := by
  have h : twoDetC twoTiny = ⟨1, 0, [[0]], [1]⟩ := by
    refine (canon_congr (s := fun _ => 1) fun w hw => ?_).trans canon_const
    have : ∀ w : List Nat, (∀ a ∈ w, a < 1) → w.foldl (twoGoN twoTiny) (begT twoTiny) = ⟨0, -1, -1, -1, 0⟩ := by
      intro w
      have hb : begT twoTiny = ⟨0, -1, -1, -1, 0⟩ := by decide
      rw [hb]
      induction w with
      | nil => intro _; rfl
      | cons a w ih =>
        intro hw
        have ha : a = 0 := by have := hw a List.mem_cons_self; omega
        subst ha
        have hs : twoGoN twoTiny ⟨0, -1, -1, -1, 0⟩ 0 = ⟨0, -1, -1, -1, 0⟩ := by decide
        rw [List.foldl_cons, hs]
        exact ih fun b hb => hw b (List.mem_cons_of_mem _ hb)
    show markTab _ _ (w.foldl (twoGoN twoTiny) (begT twoTiny)) = 1
    rw [this w hw]
    decide
  unfold twoDetR
  rw [if_pos (by decide), h]
  rfl
def twoOne_vc (t : ApiTwoWay) (w : (List Int)) (Q : Bool → Prop) : Prop :=
  t.fNext.length ≤ 9223372036854775807 →
  t.fMark.length ≤ 9223372036854775807 →
  w.length ≤ 9223372036854775807 →
  (IfP (((twoDetR (ApiTwoWay.mk 1 0 ([([(St46.mk 0 1), (St46.mk 0 1), (St46.mk 0 1)] : (List St46))] : (List (List St46))) ([1] : (List Int)))).2 != 0) || (((twoDetR (ApiTwoWay.mk 1 0 ([([(St46.mk 0 1), (St46.mk 0 1), (St46.mk 0 1)] : (List St46))] : (List (List St46))) ([1] : (List Int)))).1.fNext.length : Int) != 1)) (Q false) (IfP ((twoDetR t).2 != 0) (Q true) (∃ J : Bool → Prop, (IfP ((runR t w).2.2 == (accR (twoDetR t).1 w).2) (J ((runR t w).1 == (accR (twoDetR t).1 w).1)) (J false)) ∧
  (∀ (x4 : Bool), J x4 → Q x4))))
theorem twoOne_walk (t : ApiTwoWay) (w : (List Int)) (Q : Bool → Prop) (h : twoOne_vc t w Q) : Ct 6 [.sv (.agg [I t.fLetters, I t.fStart, LS (lsT St46.ty) t.fNext, LS intT t.fMark]), .sv (.one (LS intT w))] [] Q (fun (r : Bool) => .sv (.one (B r))) := by
  have ht := tab_ok
  refine Ct.body Try.func6 rfl rfl rfl rfl (fun c hn => ?_)
  unfold twoOne_vc at h
  refine En.lenA 0 2 (by rfl) (by rfl) (fun hl => ?_)
  replace h := h hl
  clear hl
  refine En.lenA 0 3 (by rfl) (by rfl) (fun hl => ?_)
  replace h := h hl
  clear hl
  refine En.lenL 1 (by rfl) (fun hl => ?_)
  replace h := h hl
  clear hl
  refine En.seq ?_
  refine En.region ?_
  refine WL.run ht hn 2 ⟨[(1, .sv (.one (LS intT w))), (2, .sv (.one (.ptr 0 0)))], [.box [I t.fLetters, I t.fStart, LS (lsT St46.ty) t.fNext, LS intT t.fMark] 45 false]⟩ (by kernel_rfl) ?_
  refine WL.nil ?_
  refine En.seq ?_
  refine En.region ?_
  refine WL.run ht hn 3 ⟨[(1, .sv (.one (LS intT w))), (2, .sv (.one (.ptr 0 0))), (13, .sv (.agg [I 0, I 1])), (14, .sv (.agg [I 0, I 1])), (15, .sv (.agg [I 0, I 1]))], [.box [I t.fLetters, I t.fStart, LS (lsT St46.ty) t.fNext, LS intT t.fMark] 45 false]⟩ (by kernel_rfl) ?_
  refine WL.mt0 (K := []) (p := some (1, rowI 46 St46.ty ([(St46.mk 0 1), (St46.mk 0 1), (St46.mk 0 1)] : (List St46)))) hn (by rfl) (mt_lit (T := St46.ty) ([(St46.mk 0 1), (St46.mk 0 1), (St46.mk 0 1)] : (List St46)) (mt_bsl 1 (r := cellsOf St46.ty ([(St46.mk 0 1), (St46.mk 0 1), (St46.mk 0 1)] : (List St46))) ht rfl (by rfl) (by rfl) (by rfl) (by kernel_rfl) (by rfl)) (fun _ h => by cases h) (fun _ => rfl) (fun _ => rfl) (by rfl) (Nat.le_of_ble_eq_true rfl)) (by rfl) (by rfl) (by rfl) ?_
  refine WL.seal (T := St46.ty) (l := ([(St46.mk 0 1), (St46.mk 0 1), (St46.mk 0 1)] : (List St46))) (e := 46) 1 rfl ?_
  refine WL.run ht hn 0 ⟨[(1, .sv (.one (LS intT w))), (2, .sv (.one (.ptr 0 0))), (13, .sv (.agg [I 0, I 1])), (14, .sv (.agg [I 0, I 1])), (15, .sv (.agg [I 0, I 1])), (16, .sv (.one (LS St46.ty ([(St46.mk 0 1), (St46.mk 0 1), (St46.mk 0 1)] : (List St46)))))], [.box [I t.fLetters, I t.fStart, LS (lsT St46.ty) t.fNext, LS intT t.fMark] 45 false, .gone]⟩ (by kernel_rfl) ?_
  refine WL.mt0 (K := []) (p := some (2, rowI 47 (lsT St46.ty) ([([(St46.mk 0 1), (St46.mk 0 1), (St46.mk 0 1)] : (List St46))] : (List (List St46))))) hn (by rfl) (mt_lit (T := (lsT St46.ty)) ([([(St46.mk 0 1), (St46.mk 0 1), (St46.mk 0 1)] : (List St46))] : (List (List St46))) (mt_bsl 2 (r := cellsOf (lsT St46.ty) ([([(St46.mk 0 1), (St46.mk 0 1), (St46.mk 0 1)] : (List St46))] : (List (List St46)))) ht rfl (by rfl) (by rfl) (by rfl) (by kernel_rfl) (by rfl)) (fun _ h => by cases h) (fun _ => rfl) (fun _ => rfl) (by rfl) (Nat.le_of_ble_eq_true rfl)) (by rfl) (by rfl) (by rfl) ?_
  refine WL.mt0 (K := []) (p := some (3, rowI 3 intT ([1] : (List Int)))) hn (by rfl) (mt_lit (T := intT) ([1] : (List Int)) (mt_bsl 3 (r := cellsOf intT ([1] : (List Int))) ht rfl (by rfl) (by rfl) (by rfl) (by kernel_rfl) (by rfl)) (fun _ h => by cases h) (fun _ => rfl) (fun _ => rfl) (by rfl) (Nat.le_of_ble_eq_true rfl)) (by rfl) (by rfl) (by rfl) ?_
  refine WL.run ht hn 3 ⟨[(1, .sv (.one (LS intT w))), (2, .sv (.one (.ptr 0 0))), (5, .sv (.one (.ptr 4 0)))], [.box [I t.fLetters, I t.fStart, LS (lsT St46.ty) t.fNext, LS intT t.fMark] 45 false, .gone, rowI 47 (lsT St46.ty) ([([(St46.mk 0 1), (St46.mk 0 1), (St46.mk 0 1)] : (List St46))] : (List (List St46))), rowI 3 intT ([1] : (List Int)), .box [I 1, I 0, .own 2, .own 3] 45 false]⟩ (by kernel_rfl) ?_
  refine WL.nil ?_
  refine En.seq ?_
  refine En.region ?_
  refine WL.run ht hn 1 ⟨[(1, .sv (.one (LS intT w))), (2, .sv (.one (.ptr 0 0))), (21, .sv (.agg [I 1, I 0, .own 2, .own 3]))], [.box [I t.fLetters, I t.fStart, LS (lsT St46.ty) t.fNext, LS intT t.fMark] 45 false, .gone, rowI 47 (lsT St46.ty) ([([(St46.mk 0 1), (St46.mk 0 1), (St46.mk 0 1)] : (List St46))] : (List (List St46))), rowI 3 intT ([1] : (List Int)), .gone]⟩ (by kernel_rfl) ?_
  refine WL.seal (T := (lsT St46.ty)) (l := ([([(St46.mk 0 1), (St46.mk 0 1), (St46.mk 0 1)] : (List St46))] : (List (List St46)))) (e := 47) 2 rfl ?_
  refine WL.run ht hn 0 ⟨[(1, .sv (.one (LS intT w))), (2, .sv (.one (.ptr 0 0))), (21, .sv (.agg [I 1, I 0, LS (lsT St46.ty) ([([(St46.mk 0 1), (St46.mk 0 1), (St46.mk 0 1)] : (List St46))] : (List (List St46))), .own 3]))], [.box [I t.fLetters, I t.fStart, LS (lsT St46.ty) t.fNext, LS intT t.fMark] 45 false, .gone, .gone, rowI 3 intT ([1] : (List Int)), .gone]⟩ (by kernel_rfl) ?_
  refine WL.seal (T := intT) (l := ([1] : (List Int))) (e := 3) 3 rfl ?_
  refine WL.run ht hn 0 ⟨[(1, .sv (.one (LS intT w))), (2, .sv (.one (.ptr 0 0))), (21, .sv (.agg [I 1, I 0, LS (lsT St46.ty) ([([(St46.mk 0 1), (St46.mk 0 1), (St46.mk 0 1)] : (List St46))] : (List (List St46))), LS intT ([1] : (List Int))]))], [.box [I t.fLetters, I t.fStart, LS (lsT St46.ty) t.fNext, LS intT t.fMark] 45 false, .gone, .gone, .gone, .gone]⟩ (by kernel_rfl) ?_
  refine WL.mt0 (K := []) (p := none) hn (by rfl) (mt_call (twoDet_ct (ApiTwoWay.mk 1 0 ([([(St46.mk 0 1), (St46.mk 0 1), (St46.mk 0 1)] : (List St46))] : (List (List St46))) ([1] : (List Int)))) en24 (caps := []) [] rfl (by rfl) (by kernel_rfl) (by kernel_rfl) (by rfl) (by rfl) (by rfl)) (by rfl) (by rfl) (by rfl) ?_
  refine WL.run ht hn 6 ⟨[(1, .sv (.one (LS intT w))), (2, .sv (.one (.ptr 0 0))), (6, .sv (.one (.ptr 5 0))), (7, .sv (.one (I (twoDetR (ApiTwoWay.mk 1 0 ([([(St46.mk 0 1), (St46.mk 0 1), (St46.mk 0 1)] : (List St46))] : (List (List St46))) ([1] : (List Int)))).2)))], [.box [I t.fLetters, I t.fStart, LS (lsT St46.ty) t.fNext, LS intT t.fMark] 45 false, .gone, .gone, .gone, .gone, .box [I (twoDetR (ApiTwoWay.mk 1 0 ([([(St46.mk 0 1), (St46.mk 0 1), (St46.mk 0 1)] : (List St46))] : (List (List St46))) ([1] : (List Int)))).1.fLetters, I (twoDetR (ApiTwoWay.mk 1 0 ([([(St46.mk 0 1), (St46.mk 0 1), (St46.mk 0 1)] : (List St46))] : (List (List St46))) ([1] : (List Int)))).1.fStart, LS (lsT intT) (twoDetR (ApiTwoWay.mk 1 0 ([([(St46.mk 0 1), (St46.mk 0 1), (St46.mk 0 1)] : (List St46))] : (List (List St46))) ([1] : (List Int)))).1.fNext, LS intT (twoDetR (ApiTwoWay.mk 1 0 ([([(St46.mk 0 1), (St46.mk 0 1), (St46.mk 0 1)] : (List St46))] : (List (List St46))) ([1] : (List Int)))).1.fMark] 25 false]⟩ (by kernel_rfl) ?_
  refine WL.nil ?_
  refine En.seq ?_
  refine En.seq ?_
  refine En.region ?_
  refine WL.run ht hn 3 ⟨[(1, .sv (.one (LS intT w))), (2, .sv (.one (.ptr 0 0))), (6, .sv (.one (.ptr 5 0))), (27, .sv (.one (B ((twoDetR (ApiTwoWay.mk 1 0 ([([(St46.mk 0 1), (St46.mk 0 1), (St46.mk 0 1)] : (List St46))] : (List (List St46))) ([1] : (List Int)))).2 != 0))))], [.box [I t.fLetters, I t.fStart, LS (lsT St46.ty) t.fNext, LS intT t.fMark] 45 false, .gone, .gone, .gone, .gone, .box [I (twoDetR (ApiTwoWay.mk 1 0 ([([(St46.mk 0 1), (St46.mk 0 1), (St46.mk 0 1)] : (List St46))] : (List (List St46))) ([1] : (List Int)))).1.fLetters, I (twoDetR (ApiTwoWay.mk 1 0 ([([(St46.mk 0 1), (St46.mk 0 1), (St46.mk 0 1)] : (List St46))] : (List (List St46))) ([1] : (List Int)))).1.fStart, LS (lsT intT) (twoDetR (ApiTwoWay.mk 1 0 ([([(St46.mk 0 1), (St46.mk 0 1), (St46.mk 0 1)] : (List St46))] : (List (List St46))) ([1] : (List Int)))).1.fNext, LS intT (twoDetR (ApiTwoWay.mk 1 0 ([([(St46.mk 0 1), (St46.mk 0 1), (St46.mk 0 1)] : (List St46))] : (List (List St46))) ([1] : (List Int)))).1.fMark] 25 false]⟩ (by kernel_rfl) ?_
  refine WL.thru ⟨[(1, .sv (.one (LS intT w))), (2, .sv (.one (.ptr 0 0))), (6, .sv (.one (.ptr 5 0))), (32, .sv (.one (B (((twoDetR (ApiTwoWay.mk 1 0 ([([(St46.mk 0 1), (St46.mk 0 1), (St46.mk 0 1)] : (List St46))] : (List (List St46))) ([1] : (List Int)))).2 != 0) || (((twoDetR (ApiTwoWay.mk 1 0 ([([(St46.mk 0 1), (St46.mk 0 1), (St46.mk 0 1)] : (List St46))] : (List (List St46))) ([1] : (List Int)))).1.fNext.length : Int) != 1)))))], [.box [I t.fLetters, I t.fStart, LS (lsT St46.ty) t.fNext, LS intT t.fMark] 45 false, .gone, .gone, .gone, .gone, .box [I (twoDetR (ApiTwoWay.mk 1 0 ([([(St46.mk 0 1), (St46.mk 0 1), (St46.mk 0 1)] : (List St46))] : (List (List St46))) ([1] : (List Int)))).1.fLetters, I (twoDetR (ApiTwoWay.mk 1 0 ([([(St46.mk 0 1), (St46.mk 0 1), (St46.mk 0 1)] : (List St46))] : (List (List St46))) ([1] : (List Int)))).1.fStart, LS (lsT intT) (twoDetR (ApiTwoWay.mk 1 0 ([([(St46.mk 0 1), (St46.mk 0 1), (St46.mk 0 1)] : (List St46))] : (List (List St46))) ([1] : (List Int)))).1.fNext, LS intT (twoDetR (ApiTwoWay.mk 1 0 ([([(St46.mk 0 1), (St46.mk 0 1), (St46.mk 0 1)] : (List St46))] : (List (List St46))) ([1] : (List Int)))).1.fMark] 25 false]⟩ ?_ ?_
  · refine splitB ((twoDetR (ApiTwoWay.mk 1 0 ([([(St46.mk 0 1), (St46.mk 0 1), (St46.mk 0 1)] : (List St46))] : (List (List St46))) ([1] : (List Int)))).2 != 0) (fun hb0 => ?_) (fun hb0 => ?_)
    · refine WL.setB 27 hb0 (by kernel_rfl) ?_
      refine WL.run ht hn 5 ⟨[(1, .sv (.one (LS intT w))), (2, .sv (.one (.ptr 0 0))), (6, .sv (.one (.ptr 5 0))), (32, .sv (.one (B true)))], [.box [I t.fLetters, I t.fStart, LS (lsT St46.ty) t.fNext, LS intT t.fMark] 45 false, .gone, .gone, .gone, .gone, .box [I (twoDetR (ApiTwoWay.mk 1 0 ([([(St46.mk 0 1), (St46.mk 0 1), (St46.mk 0 1)] : (List St46))] : (List (List St46))) ([1] : (List Int)))).1.fLetters, I (twoDetR (ApiTwoWay.mk 1 0 ([([(St46.mk 0 1), (St46.mk 0 1), (St46.mk 0 1)] : (List St46))] : (List (List St46))) ([1] : (List Int)))).1.fStart, LS (lsT intT) (twoDetR (ApiTwoWay.mk 1 0 ([([(St46.mk 0 1), (St46.mk 0 1), (St46.mk 0 1)] : (List St46))] : (List (List St46))) ([1] : (List Int)))).1.fNext, LS intT (twoDetR (ApiTwoWay.mk 1 0 ([([(St46.mk 0 1), (St46.mk 0 1), (St46.mk 0 1)] : (List St46))] : (List (List St46))) ([1] : (List Int)))).1.fMark] 25 false]⟩ (by kernel_rfl) ?_
      exact WL.nil (sub_ok (by simp only [hb0]; kernel_rfl))
    · refine WL.setB 27 hb0 (by kernel_rfl) ?_
      refine WL.run ht hn 5 ⟨[(1, .sv (.one (LS intT w))), (2, .sv (.one (.ptr 0 0))), (6, .sv (.one (.ptr 5 0))), (32, .sv (.one (B (((twoDetR (ApiTwoWay.mk 1 0 ([([(St46.mk 0 1), (St46.mk 0 1), (St46.mk 0 1)] : (List St46))] : (List (List St46))) ([1] : (List Int)))).1.fNext.length : Int) != 1))))], [.box [I t.fLetters, I t.fStart, LS (lsT St46.ty) t.fNext, LS intT t.fMark] 45 false, .gone, .gone, .gone, .gone, .box [I (twoDetR (ApiTwoWay.mk 1 0 ([([(St46.mk 0 1), (St46.mk 0 1), (St46.mk 0 1)] : (List St46))] : (List (List St46))) ([1] : (List Int)))).1.fLetters, I (twoDetR (ApiTwoWay.mk 1 0 ([([(St46.mk 0 1), (St46.mk 0 1), (St46.mk 0 1)] : (List St46))] : (List (List St46))) ([1] : (List Int)))).1.fStart, LS (lsT intT) (twoDetR (ApiTwoWay.mk 1 0 ([([(St46.mk 0 1), (St46.mk 0 1), (St46.mk 0 1)] : (List St46))] : (List (List St46))) ([1] : (List Int)))).1.fNext, LS intT (twoDetR (ApiTwoWay.mk 1 0 ([([(St46.mk 0 1), (St46.mk 0 1), (St46.mk 0 1)] : (List St46))] : (List (List St46))) ([1] : (List Int)))).1.fMark] 25 false]⟩ (by kernel_rfl) ?_
      exact WL.nil (sub_ok (by simp only [hb0]; kernel_rfl))
  · refine En.cond (b := (((twoDetR (ApiTwoWay.mk 1 0 ([([(St46.mk 0 1), (St46.mk 0 1), (St46.mk 0 1)] : (List St46))] : (List (List St46))) ([1] : (List Int)))).2 != 0) || (((twoDetR (ApiTwoWay.mk 1 0 ([([(St46.mk 0 1), (St46.mk 0 1), (St46.mk 0 1)] : (List St46))] : (List (List St46))) ([1] : (List Int)))).1.fNext.length : Int) != 1))) (by kernel_rfl) (fun hb => ?_) (fun hb => ?_)
    · replace h := h.1 hb
      refine En.seq ?_
      refine En.region ?_
      refine WL.run ht hn 1 ⟨[(4, .sv (.one (B false)))], [.gone, .gone, .gone, .gone, .gone, .gone]⟩ (by kernel_rfl) ?_
      refine WL.nil ?_
      refine En.ret ?_
      exact En.back ht false h (by kernel_rfl) rfl
    · replace h := h.2 hb
      refine En.skip ?_
      refine En.seq ?_
      refine En.region ?_
      refine WL.run ht hn 1 ⟨[(1, .sv (.one (LS intT w))), (2, .sv (.one (.ptr 0 0))), (6, .sv (.one (.ptr 5 0))), (34, .sv (.agg [I t.fLetters, I t.fStart, LS (lsT St46.ty) t.fNext, LS intT t.fMark]))], [.box [I t.fLetters, I t.fStart, LS (lsT St46.ty) t.fNext, LS intT t.fMark] 45 false, .gone, .gone, .gone, .gone, .box [I (twoDetR (ApiTwoWay.mk 1 0 ([([(St46.mk 0 1), (St46.mk 0 1), (St46.mk 0 1)] : (List St46))] : (List (List St46))) ([1] : (List Int)))).1.fLetters, I (twoDetR (ApiTwoWay.mk 1 0 ([([(St46.mk 0 1), (St46.mk 0 1), (St46.mk 0 1)] : (List St46))] : (List (List St46))) ([1] : (List Int)))).1.fStart, LS (lsT intT) (twoDetR (ApiTwoWay.mk 1 0 ([([(St46.mk 0 1), (St46.mk 0 1), (St46.mk 0 1)] : (List St46))] : (List (List St46))) ([1] : (List Int)))).1.fNext, LS intT (twoDetR (ApiTwoWay.mk 1 0 ([([(St46.mk 0 1), (St46.mk 0 1), (St46.mk 0 1)] : (List St46))] : (List (List St46))) ([1] : (List Int)))).1.fMark] 25 false]⟩ (by kernel_rfl) ?_
      refine WL.mt0 (K := []) (p := none) hn (by rfl) (mt_call (twoDet_ct t) en24 (caps := []) [] rfl (by rfl) (by kernel_rfl) (by kernel_rfl) (by rfl) (by rfl) (by rfl)) (by rfl) (by rfl) (by rfl) ?_
      refine WL.run ht hn 5 ⟨[(1, .sv (.one (LS intT w))), (2, .sv (.one (.ptr 0 0))), (6, .sv (.one (.ptr 5 0))), (7, .sv (.one (I (twoDetR t).2)))], [.box [I t.fLetters, I t.fStart, LS (lsT St46.ty) t.fNext, LS intT t.fMark] 45 false, .gone, .gone, .gone, .gone, .box [I (twoDetR t).1.fLetters, I (twoDetR t).1.fStart, LS (lsT intT) (twoDetR t).1.fNext, LS intT (twoDetR t).1.fMark] 25 false]⟩ (by kernel_rfl) ?_
      refine WL.nil ?_
      refine En.seq ?_
      refine En.seq ?_
      refine En.region ?_
      refine WL.run ht hn 2 ⟨[(1, .sv (.one (LS intT w))), (2, .sv (.one (.ptr 0 0))), (6, .sv (.one (.ptr 5 0))), (39, .sv (.one (B ((twoDetR t).2 != 0))))], [.box [I t.fLetters, I t.fStart, LS (lsT St46.ty) t.fNext, LS intT t.fMark] 45 false, .gone, .gone, .gone, .gone, .box [I (twoDetR t).1.fLetters, I (twoDetR t).1.fStart, LS (lsT intT) (twoDetR t).1.fNext, LS intT (twoDetR t).1.fMark] 25 false]⟩ (by kernel_rfl) ?_
      refine WL.nil ?_
      refine En.cond (b := ((twoDetR t).2 != 0)) (by kernel_rfl) (fun hb => ?_) (fun hb => ?_)
      · replace h := h.1 hb
        refine En.seq ?_
        refine En.region ?_
        refine WL.run ht hn 1 ⟨[(4, .sv (.one (B true)))], [.gone, .gone, .gone, .gone, .gone, .gone]⟩ (by kernel_rfl) ?_
        refine WL.nil ?_
        refine En.ret ?_
        exact En.back ht true h (by kernel_rfl) rfl
      · replace h := h.2 hb
        refine En.skip ?_
        refine En.seq ?_
        refine En.region ?_
        refine WL.run ht hn 2 ⟨[(1, .sv (.one (LS intT w))), (6, .sv (.one (.ptr 5 0))), (41, .sv (.agg [I t.fLetters, I t.fStart, LS (lsT St46.ty) t.fNext, LS intT t.fMark])), (42, .sv (.one (LS intT w)))], [.gone, .gone, .gone, .gone, .gone, .box [I (twoDetR t).1.fLetters, I (twoDetR t).1.fStart, LS (lsT intT) (twoDetR t).1.fNext, LS intT (twoDetR t).1.fMark] 25 false]⟩ (by kernel_rfl) ?_
        refine WL.mt0 (K := []) (p := none) hn (by rfl) (mt_call (twoRun_ct t w) en25 (caps := []) [] rfl (by rfl) (by kernel_rfl) (by kernel_rfl) (by rfl) (by rfl) (by rfl)) (by rfl) (by rfl) (by rfl) ?_
        refine WL.run ht hn 7 ⟨[(1, .sv (.one (LS intT w))), (6, .sv (.one (.ptr 5 0))), (8, .sv (.one (B (runR t w).1))), (10, .sv (.one (I (runR t w).2.2)))], [.gone, .gone, .gone, .gone, .gone, .box [I (twoDetR t).1.fLetters, I (twoDetR t).1.fStart, LS (lsT intT) (twoDetR t).1.fNext, LS intT (twoDetR t).1.fMark] 25 false]⟩ (by kernel_rfl) ?_
        refine WL.nil ?_
        refine En.seq ?_
        refine En.region ?_
        refine WL.run ht hn 2 ⟨[(8, .sv (.one (B (runR t w).1))), (10, .sv (.one (I (runR t w).2.2))), (48, .sv (.agg [I (twoDetR t).1.fLetters, I (twoDetR t).1.fStart, LS (lsT intT) (twoDetR t).1.fNext, LS intT (twoDetR t).1.fMark])), (49, .sv (.one (LS intT w)))], [.gone, .gone, .gone, .gone, .gone, .gone]⟩ (by kernel_rfl) ?_
        refine WL.mt0 (K := []) (p := none) hn (by rfl) (mt_call (acceptsD_ct (twoDetR t).1 w) en26 (caps := []) [] rfl (by rfl) (by kernel_rfl) (by kernel_rfl) (by rfl) (by rfl) (by rfl)) (by rfl) (by rfl) (by rfl) ?_
        refine WL.run ht hn 5 ⟨[(8, .sv (.one (B (runR t w).1))), (10, .sv (.one (I (runR t w).2.2))), (11, .sv (.one (B (accR (twoDetR t).1 w).1))), (12, .sv (.one (I (accR (twoDetR t).1 w).2)))], [.gone, .gone, .gone, .gone, .gone, .gone]⟩ (by kernel_rfl) ?_
        refine WL.nil ?_
        obtain ⟨J, h, hJ⟩ := h
        refine En.seqJ (σ := Bool) (fun zz => J zz) (fun zz => ⟨[(4, .sv (.one (B zz)))], [.gone, .gone, .gone, .gone, .gone, .gone]⟩) ?_ ?_
        · refine En.region ?_
          refine WL.run ht hn 4 ⟨[(8, .sv (.one (B (runR t w).1))), (11, .sv (.one (B (accR (twoDetR t).1 w).1))), (56, .sv (.one (B ((runR t w).2.2 == (accR (twoDetR t).1 w).2))))], [.gone, .gone, .gone, .gone, .gone, .gone]⟩ (by kernel_rfl) ?_
          refine splitB ((runR t w).2.2 == (accR (twoDetR t).1 w).2) (fun hb => ?_) (fun hb => ?_)
          · replace h := h.1 hb
            refine WL.setB 56 hb (by kernel_rfl) ?_
            refine WL.run ht hn 2 ⟨[(56, .sv (.one (B true))), (57, .sv (.one (B (runR t w).1))), (58, .sv (.one (B (accR (twoDetR t).1 w).1)))], [.gone, .gone, .gone, .gone, .gone, .gone]⟩ (by kernel_rfl) ?_
            refine WL.val hn (by rfl) (val_eqB (u := (runR t w).1) (v := (accR (twoDetR t).1 w).1) rfl Try.underlying4 (by rfl) (by rfl) (.inl ⟨rfl, rfl⟩)) (by rfl) ?_
            refine WL.run ht hn 2 ⟨[(4, .sv (.one (B ((runR t w).1 == (accR (twoDetR t).1 w).1))))], [.gone, .gone, .gone, .gone, .gone, .gone]⟩ (by kernel_rfl) ?_
            refine WL.nil ?_
            exact En.at (I := fun zz => J zz) (T := fun zz => ⟨[(4, .sv (.one (B zz)))], [.gone, .gone, .gone, .gone, .gone, .gone]⟩) ((runR t w).1 == (accR (twoDetR t).1 w).1) h (by kernel_rfl)
          · replace h := h.2 hb
            refine WL.setB 56 hb (by kernel_rfl) ?_
            refine WL.run ht hn 5 ⟨[(4, .sv (.one (B false)))], [.gone, .gone, .gone, .gone, .gone, .gone]⟩ (by kernel_rfl) ?_
            refine WL.nil ?_
            exact En.at (I := fun zz => J zz) (T := fun zz => ⟨[(4, .sv (.one (B zz)))], [.gone, .gone, .gone, .gone, .gone, .gone]⟩) false h (by kernel_rfl)
        · intro x4 h
          replace h := hJ _ h
          show En c ⟨[(4, .sv (.one (B x4)))], [.gone, .gone, .gone, .gone, .gone, .gone]⟩ _
          refine En.ret ?_
          exact En.back ht x4 h (by kernel_rfl) rfl
theorem twoOne_ct (t : ApiTwoWay) (w : (List Int))  : Ct 6 [.sv (.agg [I t.fLetters, I t.fStart, LS (lsT St46.ty) t.fNext, LS intT t.fMark]), .sv (.one (LS intT w))] [] (fun (_ : Unit) => True) (fun _ => .sv (.one (B (true)))) := by
  refine (twoOne_walk t w (fun res_ => res_ = (true)) ?_).fun
  intro _ _ _
  rw [show (ApiTwoWay.mk 1 0 ([([(St46.mk 0 1), (St46.mk 0 1), (St46.mk 0 1)] : (List St46))] : (List (List St46))) ([1] : (List Int))) = twoTiny from rfl, tiny_two]
  refine ⟨(fun h => by cases h), fun _ => ⟨fun _ => rfl, fun h => ?_⟩⟩
  have h : (twoDetR t).2 = 0 := by simpa using h
  have he : twErr t = 0 := by
    refine Decidable.byContradiction fun hne => ?_
    unfold twoDetR at h
    rw [if_neg hne] at h
    exact hne h
  have hs : ¬ (twoDetC t).fNext.length > 3000 := fun hs => by
    unfold twoDetR at h
    rw [if_pos he, if_pos hs] at h
    cases h
  have hR : twoDetR t = (twoDetC t, 0) := by
    unfold twoDetR
    rw [if_pos he, if_neg hs]
  have ht := twErr_ok he
  rw [hR]
  simp only
  refine ⟨fun b => b = true, ?_, fun b hb => hb⟩
  by_cases hm : mayE t.fLetters w = 0
  · obtain ⟨a1, a2⟩ := acc_leaves ht hs hm
    have hr : runR t w = runF t (tape t w) ((tape t w).length * t.fNext.length + 2) 0 0 t.fStart := by
      unfold runR
      rw [if_pos he, if_pos hm]
    have r1 := run_leaves ht (mayE_ok hm).2
    rw [hr, a1, runF_err]
    refine ⟨fun _ => ?_, fun h => absurd h (by decide)⟩
    show ((runF t (tape t w) ((tape t w).length * t.fNext.length + 2) 0 0 t.fStart).1 == (accR (twoDetC t) w).1) = true
    rw [beq_iff_eq, Bool.eq_iff_iff, r1, a2]
  · have hr : runR t w = (false, 0, mayE t.fLetters w) := by
      unfold runR
      rw [if_pos he, if_neg hm]
    have hL : (twoDetC t).fLetters = t.fLetters := by
      show (canon _ _).fLetters = _
      rw [(twoLang_ok ht).letters]
      have := ht.letters
      omega
    have ha : accR (twoDetC t) w = (false, mayE t.fLetters w) := by
      unfold accR
      rw [if_pos ((detErr_iff _).2 (twoDet_ok ht hs)), hL, if_neg hm]
    rw [hr, ha]
    exact ⟨fun _ => rfl, fun h => absurd h (by simp)⟩
end Go.Proofs.Ytiinkohfldopbaa

