/- The mirrors of package timed: what is asked. No condition. -/
import Derived.Test.YtfpdnigihjmohaaMirT
import Derived.Test.YtfpdnigihjmohaaFunc
namespace Go.Proofs.Ytfpdnigihjmohaa
open Go.RowKit Go.MapKept
set_option linter.unusedSimpArgs false
set_option linter.unusedVariables false
set_option maxRecDepth 100000

theorem index_plain {α : Type} [Inhabited α] (l : List α) (dom : α → Prop) (φ : α → Bool) (hd : ∀ x ∈ l, dom x) : l.length ≤ 9223372036854775807 → (∃ (Inv : Int → Prop) (mu : Int → Nat), Inv 0 ∧
  ∀ (x8 : Int), Inv x8 → (IfP (decide (x8 < (l.length : Int))) (∃ e, idx l x8 = some e ∧ dom e ∧ IfP (φ e) (x8 = idxTo φ l) (Inv (wr (x8 + 1)) ∧ mu (wr (x8 + 1)) < mu x8)) (-1 = idxTo φ l))) := by
  intro hl
  refine ⟨fun x => ∃ k : Nat, x = k ∧ k ≤ l.length ∧ ∀ j e, j < k → l[j]? = some e → φ e = false, fun x => l.length - x.toNat, ⟨0, rfl, Nat.zero_le _, fun j e hj => absurd hj (Nat.not_lt_zero _)⟩, ?_⟩
  rintro x ⟨k, rfl, hk, hp⟩
  refine ⟨fun hb => ?_, fun hb => ?_⟩
  · have hlt : k < l.length := by simpa using hb
    refine ⟨l[k], by simp [idx, hlt], hd _ (List.getElem_mem hlt), fun h1 => ?_, fun h1 => ?_⟩
    · exact (idxTo_hit l[k] hlt (by simpa [hlt] using h1) (fun j hj => by
        have hjl : j < l.length := by omega
        simpa [hjl] using hp j _ hj (List.getElem?_eq_getElem hjl))).symm
    · rw [wr_in (by omega) (by omega)]
      refine ⟨⟨k + 1, by omega, by omega, fun j e hj he => ?_⟩, by simp only; omega⟩
      by_cases ej : j = k
      · subst ej
        simp [hlt] at he
        subst he
        exact h1
      · exact hp j e (by omega) he
  · have e : k = l.length := by simp at hb; omega
    by_cases h0 : l = []
    · subst h0; rfl
    · have h1 : 0 < l.length := List.length_pos_iff.2 h0
      exact (idxTo_miss (l[0]) fun j hj => by simpa [hj] using hp j _ (by omega) (List.getElem?_eq_getElem hj)).symm
def indexInt_vc (l : (List Int)) (dom : (Int → Prop)) (φ : (Int → Bool)) (Q : Int → Prop) : Prop :=
  l.length ≤ 9223372036854775807 →
  (∃ (Inv : Int → Prop) (mu : Int → Nat), Inv 0 ∧
  ∀ (x8 : Int) , Inv x8 → (IfP (decide (x8 < (l.length : Int))) (∃ e, idx l x8 = some e ∧
  (dom e) ∧
  IfP (φ e) (Q x8) ((Inv (wr (x8 + 1)) ∧ mu (wr (x8 + 1)) < mu x8))) (Q (-1))))
theorem indexInt_walk (l : (List Int)) (dom : (Int → Prop)) (φ : (Int → Bool)) (Q : Int → Prop) (h : indexInt_vc l dom φ Q) : Ct 135 [.sv (.one (LS intT l)), .sv (.one (.rd (fvR (fun x => [.sv (.one (I x))]) (fun b => .sv (.one (B b))) dom φ)))] [] Q (fun (r : Int) => .sv (.one (I r))) := by
  have ht := tab_ok
  refine Ct.body Try.func135 rfl rfl rfl rfl (fun c hn => ?_)
  unfold indexInt_vc at h
  refine En.lenL 0 (by rfl) (fun hl => ?_)
  replace h := h hl
  clear hl
  refine En.seq ?_
  refine En.region ?_
  refine WL.run ht hn 1 ⟨[(0, .sv (.one (LS intT l))), (1, .sv (.one (.rd (fvR (fun x => [.sv (.one (I x))]) (fun b => .sv (.one (B b))) dom φ))))], []⟩ (by kernel_rfl) ?_
  refine WL.nil ?_
  refine En.seq ?_
  refine En.seq ?_
  refine En.region ?_
  refine WL.run ht hn 3 ⟨[(0, .sv (.one (LS intT l))), (1, .sv (.one (.rd (fvR (fun x => [.sv (.one (I x))]) (fun b => .sv (.one (B b))) dom φ)))), (7, .sv (.one (I (l.length : Int)))), (8, .sv (.one (I 0)))], []⟩ (by kernel_rfl) ?_
  refine WL.nil ?_
  refine En.block ?_
  obtain ⟨Inv, mu, h0, hI⟩ := h
  refine En.loop (σ := Int) (fun zz => Inv zz) (fun zz => mu zz) (fun zz => ⟨[(0, .sv (.one (LS intT l))), (1, .sv (.one (.rd (fvR (fun x => [.sv (.one (I x))]) (fun b => .sv (.one (B b))) dom φ)))), (7, .sv (.one (I (l.length : Int)))), (8, .sv (.one (I zz)))], []⟩) 0 h0 (sub_ok (by kernel_rfl)) ?_
  intro x8 h
  replace h := hI _ h
  show En c ⟨[(0, .sv (.one (LS intT l))), (1, .sv (.one (.rd (fvR (fun x => [.sv (.one (I x))]) (fun b => .sv (.one (B b))) dom φ)))), (7, .sv (.one (I (l.length : Int)))), (8, .sv (.one (I x8)))], []⟩ _
  refine En.seq ?_
  refine En.region ?_
  refine WL.run ht hn 1 ⟨[(0, .sv (.one (LS intT l))), (1, .sv (.one (.rd (fvR (fun x => [.sv (.one (I x))]) (fun b => .sv (.one (B b))) dom φ)))), (7, .sv (.one (I (l.length : Int)))), (8, .sv (.one (I x8))), (9, .sv (.one (B (decide (x8 < (l.length : Int))))))], []⟩ (by kernel_rfl) ?_
  refine WL.nil ?_
  refine En.seq ?_
  refine En.cond (b := (decide (x8 < (l.length : Int)))) (by kernel_rfl) (fun hb => ?_) (fun hb => ?_)
  · replace h := h.1 hb
    refine En.skip ?_
    refine En.seq ?_
    refine En.block ?_
    refine En.seq ?_
    refine En.region ?_
    refine WL.run ht hn 2 ⟨[(0, .sv (.one (LS intT l))), (1, .sv (.one (.rd (fvR (fun x => [.sv (.one (I x))]) (fun b => .sv (.one (B b))) dom φ)))), (5, .sv (.one (I x8))), (7, .sv (.one (I (l.length : Int)))), (8, .sv (.one (I x8)))], []⟩ (by kernel_rfl) ?_
    refine WL.nil ?_
    refine En.seq ?_
    refine En.region ?_
    refine WL.run ht hn 3 ⟨[(0, .sv (.one (LS intT l))), (1, .sv (.one (.rd (fvR (fun x => [.sv (.one (I x))]) (fun b => .sv (.one (B b))) dom φ)))), (5, .sv (.one (I x8))), (7, .sv (.one (I (l.length : Int)))), (8, .sv (.one (I x8))), (11, .sv (.one (.rd (fvR (fun x => [.sv (.one (I x))]) (fun b => .sv (.one (B b))) dom φ)))), (12, .sv (.one (LS intT l))), (13, .sv (.one (I x8)))], []⟩ (by kernel_rfl) ?_
    obtain ⟨e, he, h⟩ := h
    refine WL.val hn (by rfl) (val_index (T := intT) (l := l) (i := x8) ht rfl (by rfl) (by rfl) (by rfl) (by rfl) (by rfl) (by rfl) he) (by rfl) ?_
    refine WL.val hn (by rfl) (val_load (s := .one (I e)) ht rfl (by rfl) (by rfl) (by rfl) (by rfl) (by rfl)) (by rfl) ?_
    have hp := h.1
    replace h := h.2
    refine WL.mt0 (K := []) (p := none) hn (by rfl) (mt_callv e hp rfl (by rfl) (by rfl) (by rfl) (by rfl)) (by rfl) (by rfl) (by rfl) ?_
    refine WL.nil ?_
    refine En.cond (b := (φ e)) (by kernel_rfl) (fun hb => ?_) (fun hb => ?_)
    · replace h := h.1 hb
      refine En.seq ?_
      refine En.region ?_
      refine WL.run ht hn 2 ⟨[(4, .sv (.one (I x8)))], []⟩ (by kernel_rfl) ?_
      refine WL.nil ?_
      refine En.ret ?_
      exact En.back ht x8 h (by kernel_rfl) rfl
    · replace h := h.2 hb
      refine En.skip ?_
      refine En.region ?_
      refine WL.run ht hn 2 ⟨[(0, .sv (.one (LS intT l))), (1, .sv (.one (.rd (fvR (fun x => [.sv (.one (I x))]) (fun b => .sv (.one (B b))) dom φ)))), (7, .sv (.one (I (l.length : Int)))), (8, .sv (.one (I (wr (x8 + 1)))))], []⟩ (by kernel_rfl) ?_
      refine WL.nil ?_
      exact En.at (I := fun zz => Inv zz ∧ mu zz < mu x8) (T := fun zz => ⟨[(0, .sv (.one (LS intT l))), (1, .sv (.one (.rd (fvR (fun x => [.sv (.one (I x))]) (fun b => .sv (.one (B b))) dom φ)))), (7, .sv (.one (I (l.length : Int)))), (8, .sv (.one (I zz)))], []⟩) (wr (x8 + 1)) h (by kernel_rfl)
  · replace h := h.2 hb
    refine En.exit rfl ?_
    refine En.seq ?_
    refine En.region ?_
    refine WL.run ht hn 1 ⟨[(4, .sv (.one (I (-1))))], []⟩ (by kernel_rfl) ?_
    refine WL.nil ?_
    refine En.ret ?_
    exact En.back ht (-1) h (by kernel_rfl) rfl
theorem en135 : ∀ args w, (callFunc 135 args).run Try.prog w = .ok (.enter 135 args) w := enters_of Try.func135 (by kernel_rfl) rfl
theorem indexInt_ct (l : List Int) (dom : Int → Prop) (φ : Int → Bool) (hd : ∀ x ∈ l, dom x) : Ct 135 [.sv (.one (LS intT l)), .sv (.one (.rd (fvR (fun x => [.sv (.one (I x))]) (fun b => .sv (.one (B b))) dom φ)))] [] (fun (_ : Unit) => True) (fun _ => .sv (.one (I (idxTo φ l)))) := by
  refine (indexInt_walk l dom φ (fun r => r = idxTo φ l) ?_).fun
  unfold indexInt_vc
  exact index_plain l dom φ hd
def anyInt_vc (l : (List Int)) (dom : (Int → Prop)) (φ : (Int → Bool)) (Q : Bool → Prop) : Prop :=
  l.length ≤ 9223372036854775807 →
  ((∀ x ∈ l, dom x) ∧
  Q (decide ((idxTo φ l) ≥ 0)))
theorem anyInt_walk (l : (List Int)) (dom : (Int → Prop)) (φ : (Int → Bool)) (Q : Bool → Prop) (h : anyInt_vc l dom φ Q) : Ct 79 [.sv (.one (LS intT l)), .sv (.one (.rd (fvR (fun x => [.sv (.one (I x))]) (fun b => .sv (.one (B b))) dom φ)))] [] Q (fun (r : Bool) => .sv (.one (B r))) := by
  have ht := tab_ok
  refine Ct.body Try.func79 rfl rfl rfl rfl (fun c hn => ?_)
  unfold anyInt_vc at h
  refine En.lenL 0 (by rfl) (fun hl => ?_)
  replace h := h hl
  clear hl
  refine En.seq ?_
  refine En.region ?_
  refine WL.run ht hn 1 ⟨[(0, .sv (.one (LS intT l))), (1, .sv (.one (.rd (fvR (fun x => [.sv (.one (I x))]) (fun b => .sv (.one (B b))) dom φ))))], []⟩ (by kernel_rfl) ?_
  refine WL.nil ?_
  refine En.seq ?_
  refine En.region ?_
  refine WL.run ht hn 2 ⟨[(5, .sv (.one (LS intT l))), (6, .sv (.one (.rd (fvR (fun x => [.sv (.one (I x))]) (fun b => .sv (.one (B b))) dom φ))))], []⟩ (by kernel_rfl) ?_
  have hp := h.1
  replace h := h.2
  refine WL.mt0 (K := []) (p := none) hn (by rfl) (mt_call (indexInt_ct l dom φ hp) en135 (caps := []) [] rfl (by rfl) (by kernel_rfl) (by kernel_rfl) (by rfl) (by rfl) (by rfl)) (by rfl) (by rfl) (by rfl) ?_
  refine WL.run ht hn 2 ⟨[(4, .sv (.one (B (decide ((idxTo φ l) ≥ 0)))))], []⟩ (by kernel_rfl) ?_
  refine WL.nil ?_
  refine En.ret ?_
  exact En.back ht (decide ((idxTo φ l) ≥ 0)) h (by kernel_rfl) rfl
theorem en79 : ∀ args w, (callFunc 79 args).run Try.prog w = .ok (.enter 79 args) w := enters_of Try.func79 (by kernel_rfl) rfl
theorem anyInt_ct (l : List Int) (dom : Int → Prop) (φ : Int → Bool) (hd : ∀ x ∈ l, dom x) : Ct 79 [.sv (.one (LS intT l)), .sv (.one (.rd (fvR (fun x => [.sv (.one (I x))]) (fun b => .sv (.one (B b))) dom φ)))] [] (fun (_ : Unit) => True) (fun _ => .sv (.one (B (l.any φ)))) := by
  refine (anyInt_walk l dom φ (fun r => r = l.any φ) ?_).fun
  unfold anyInt_vc
  exact fun _ => ⟨hd, by rw [← idxTo_nonneg φ l]⟩
def indexEdge_vc (l : (List ApiEdge)) (dom : (ApiEdge → Prop)) (φ : (ApiEdge → Bool)) (Q : Int → Prop) : Prop :=
  l.length ≤ 9223372036854775807 →
  (∃ (Inv : Int → Prop) (mu : Int → Nat), Inv 0 ∧
  ∀ (x8 : Int) , Inv x8 → (IfP (decide (x8 < (l.length : Int))) (∃ e, idx l x8 = some e ∧
  (dom e) ∧
  IfP (φ e) (Q x8) ((Inv (wr (x8 + 1)) ∧ mu (wr (x8 + 1)) < mu x8))) (Q (-1))))
theorem indexEdge_walk (l : (List ApiEdge)) (dom : (ApiEdge → Prop)) (φ : (ApiEdge → Bool)) (Q : Int → Prop) (h : indexEdge_vc l dom φ Q) : Ct 155 [.sv (.one (LS ApiEdge.ty l)), .sv (.one (.rd (fvR (fun x => [.sv (.agg [I x.fFrom, I x.fTo, I x.fLow, I x.fHigh, I x.fOpen, I x.fReset])]) (fun b => .sv (.one (B b))) dom φ)))] [] Q (fun (r : Int) => .sv (.one (I r))) := by
  have ht := tab_ok
  refine Ct.body Try.func155 rfl rfl rfl rfl (fun c hn => ?_)
  unfold indexEdge_vc at h
  refine En.lenL 0 (by rfl) (fun hl => ?_)
  replace h := h hl
  clear hl
  refine En.seq ?_
  refine En.region ?_
  refine WL.run ht hn 1 ⟨[(0, .sv (.one (LS ApiEdge.ty l))), (1, .sv (.one (.rd (fvR (fun x => [.sv (.agg [I x.fFrom, I x.fTo, I x.fLow, I x.fHigh, I x.fOpen, I x.fReset])]) (fun b => .sv (.one (B b))) dom φ))))], []⟩ (by kernel_rfl) ?_
  refine WL.nil ?_
  refine En.seq ?_
  refine En.seq ?_
  refine En.region ?_
  refine WL.run ht hn 3 ⟨[(0, .sv (.one (LS ApiEdge.ty l))), (1, .sv (.one (.rd (fvR (fun x => [.sv (.agg [I x.fFrom, I x.fTo, I x.fLow, I x.fHigh, I x.fOpen, I x.fReset])]) (fun b => .sv (.one (B b))) dom φ)))), (7, .sv (.one (I (l.length : Int)))), (8, .sv (.one (I 0)))], []⟩ (by kernel_rfl) ?_
  refine WL.nil ?_
  refine En.block ?_
  obtain ⟨Inv, mu, h0, hI⟩ := h
  refine En.loop (σ := Int) (fun zz => Inv zz) (fun zz => mu zz) (fun zz => ⟨[(0, .sv (.one (LS ApiEdge.ty l))), (1, .sv (.one (.rd (fvR (fun x => [.sv (.agg [I x.fFrom, I x.fTo, I x.fLow, I x.fHigh, I x.fOpen, I x.fReset])]) (fun b => .sv (.one (B b))) dom φ)))), (7, .sv (.one (I (l.length : Int)))), (8, .sv (.one (I zz)))], []⟩) 0 h0 (sub_ok (by kernel_rfl)) ?_
  intro x8 h
  replace h := hI _ h
  show En c ⟨[(0, .sv (.one (LS ApiEdge.ty l))), (1, .sv (.one (.rd (fvR (fun x => [.sv (.agg [I x.fFrom, I x.fTo, I x.fLow, I x.fHigh, I x.fOpen, I x.fReset])]) (fun b => .sv (.one (B b))) dom φ)))), (7, .sv (.one (I (l.length : Int)))), (8, .sv (.one (I x8)))], []⟩ _
  refine En.seq ?_
  refine En.region ?_
  refine WL.run ht hn 1 ⟨[(0, .sv (.one (LS ApiEdge.ty l))), (1, .sv (.one (.rd (fvR (fun x => [.sv (.agg [I x.fFrom, I x.fTo, I x.fLow, I x.fHigh, I x.fOpen, I x.fReset])]) (fun b => .sv (.one (B b))) dom φ)))), (7, .sv (.one (I (l.length : Int)))), (8, .sv (.one (I x8))), (9, .sv (.one (B (decide (x8 < (l.length : Int))))))], []⟩ (by kernel_rfl) ?_
  refine WL.nil ?_
  refine En.seq ?_
  refine En.cond (b := (decide (x8 < (l.length : Int)))) (by kernel_rfl) (fun hb => ?_) (fun hb => ?_)
  · replace h := h.1 hb
    refine En.skip ?_
    refine En.seq ?_
    refine En.block ?_
    refine En.seq ?_
    refine En.region ?_
    refine WL.run ht hn 2 ⟨[(0, .sv (.one (LS ApiEdge.ty l))), (1, .sv (.one (.rd (fvR (fun x => [.sv (.agg [I x.fFrom, I x.fTo, I x.fLow, I x.fHigh, I x.fOpen, I x.fReset])]) (fun b => .sv (.one (B b))) dom φ)))), (5, .sv (.one (I x8))), (7, .sv (.one (I (l.length : Int)))), (8, .sv (.one (I x8)))], []⟩ (by kernel_rfl) ?_
    refine WL.nil ?_
    refine En.seq ?_
    refine En.region ?_
    refine WL.run ht hn 3 ⟨[(0, .sv (.one (LS ApiEdge.ty l))), (1, .sv (.one (.rd (fvR (fun x => [.sv (.agg [I x.fFrom, I x.fTo, I x.fLow, I x.fHigh, I x.fOpen, I x.fReset])]) (fun b => .sv (.one (B b))) dom φ)))), (5, .sv (.one (I x8))), (7, .sv (.one (I (l.length : Int)))), (8, .sv (.one (I x8))), (11, .sv (.one (.rd (fvR (fun x => [.sv (.agg [I x.fFrom, I x.fTo, I x.fLow, I x.fHigh, I x.fOpen, I x.fReset])]) (fun b => .sv (.one (B b))) dom φ)))), (12, .sv (.one (LS ApiEdge.ty l))), (13, .sv (.one (I x8)))], []⟩ (by kernel_rfl) ?_
    obtain ⟨e, he, h⟩ := h
    refine WL.val hn (by rfl) (val_index (T := ApiEdge.ty) (l := l) (i := x8) ht rfl (by rfl) (by rfl) (by rfl) (by rfl) (by rfl) (by rfl) he) (by rfl) ?_
    refine WL.val hn (by rfl) (val_load (s := .agg [I e.fFrom, I e.fTo, I e.fLow, I e.fHigh, I e.fOpen, I e.fReset]) ht rfl (by rfl) (by rfl) (by rfl) (by rfl) (by rfl)) (by rfl) ?_
    have hp := h.1
    replace h := h.2
    refine WL.mt0 (K := []) (p := none) hn (by rfl) (mt_callv e hp rfl (by rfl) (by rfl) (by rfl) (by rfl)) (by rfl) (by rfl) (by rfl) ?_
    refine WL.nil ?_
    refine En.cond (b := (φ e)) (by kernel_rfl) (fun hb => ?_) (fun hb => ?_)
    · replace h := h.1 hb
      refine En.seq ?_
      refine En.region ?_
      refine WL.run ht hn 2 ⟨[(4, .sv (.one (I x8)))], []⟩ (by kernel_rfl) ?_
      refine WL.nil ?_
      refine En.ret ?_
      exact En.back ht x8 h (by kernel_rfl) rfl
    · replace h := h.2 hb
      refine En.skip ?_
      refine En.region ?_
      refine WL.run ht hn 2 ⟨[(0, .sv (.one (LS ApiEdge.ty l))), (1, .sv (.one (.rd (fvR (fun x => [.sv (.agg [I x.fFrom, I x.fTo, I x.fLow, I x.fHigh, I x.fOpen, I x.fReset])]) (fun b => .sv (.one (B b))) dom φ)))), (7, .sv (.one (I (l.length : Int)))), (8, .sv (.one (I (wr (x8 + 1)))))], []⟩ (by kernel_rfl) ?_
      refine WL.nil ?_
      exact En.at (I := fun zz => Inv zz ∧ mu zz < mu x8) (T := fun zz => ⟨[(0, .sv (.one (LS ApiEdge.ty l))), (1, .sv (.one (.rd (fvR (fun x => [.sv (.agg [I x.fFrom, I x.fTo, I x.fLow, I x.fHigh, I x.fOpen, I x.fReset])]) (fun b => .sv (.one (B b))) dom φ)))), (7, .sv (.one (I (l.length : Int)))), (8, .sv (.one (I zz)))], []⟩) (wr (x8 + 1)) h (by kernel_rfl)
  · replace h := h.2 hb
    refine En.exit rfl ?_
    refine En.seq ?_
    refine En.region ?_
    refine WL.run ht hn 1 ⟨[(4, .sv (.one (I (-1))))], []⟩ (by kernel_rfl) ?_
    refine WL.nil ?_
    refine En.ret ?_
    exact En.back ht (-1) h (by kernel_rfl) rfl
theorem en155 : ∀ args w, (callFunc 155 args).run Try.prog w = .ok (.enter 155 args) w := enters_of Try.func155 (by kernel_rfl) rfl
theorem indexEdge_ct (l : List ApiEdge) (dom : ApiEdge → Prop) (φ : ApiEdge → Bool) (hd : ∀ x ∈ l, dom x) : Ct 155 [.sv (.one (LS ApiEdge.ty l)), .sv (.one (.rd (fvR (fun x => [.sv (.agg [I x.fFrom, I x.fTo, I x.fLow, I x.fHigh, I x.fOpen, I x.fReset])]) (fun b => .sv (.one (B b))) dom φ)))] [] (fun (_ : Unit) => True) (fun _ => .sv (.one (I (idxTo φ l)))) := by
  refine (indexEdge_walk l dom φ (fun r => r = idxTo φ l) ?_).fun
  unfold indexEdge_vc
  exact index_plain l dom φ hd
def anyEdge_vc (l : (List ApiEdge)) (dom : (ApiEdge → Prop)) (φ : (ApiEdge → Bool)) (Q : Bool → Prop) : Prop :=
  l.length ≤ 9223372036854775807 →
  ((∀ x ∈ l, dom x) ∧
  Q (decide ((idxTo φ l) ≥ 0)))
theorem anyEdge_walk (l : (List ApiEdge)) (dom : (ApiEdge → Prop)) (φ : (ApiEdge → Bool)) (Q : Bool → Prop) (h : anyEdge_vc l dom φ Q) : Ct 103 [.sv (.one (LS ApiEdge.ty l)), .sv (.one (.rd (fvR (fun x => [.sv (.agg [I x.fFrom, I x.fTo, I x.fLow, I x.fHigh, I x.fOpen, I x.fReset])]) (fun b => .sv (.one (B b))) dom φ)))] [] Q (fun (r : Bool) => .sv (.one (B r))) := by
  have ht := tab_ok
  refine Ct.body Try.func103 rfl rfl rfl rfl (fun c hn => ?_)
  unfold anyEdge_vc at h
  refine En.lenL 0 (by rfl) (fun hl => ?_)
  replace h := h hl
  clear hl
  refine En.seq ?_
  refine En.region ?_
  refine WL.run ht hn 1 ⟨[(0, .sv (.one (LS ApiEdge.ty l))), (1, .sv (.one (.rd (fvR (fun x => [.sv (.agg [I x.fFrom, I x.fTo, I x.fLow, I x.fHigh, I x.fOpen, I x.fReset])]) (fun b => .sv (.one (B b))) dom φ))))], []⟩ (by kernel_rfl) ?_
  refine WL.nil ?_
  refine En.seq ?_
  refine En.region ?_
  refine WL.run ht hn 2 ⟨[(5, .sv (.one (LS ApiEdge.ty l))), (6, .sv (.one (.rd (fvR (fun x => [.sv (.agg [I x.fFrom, I x.fTo, I x.fLow, I x.fHigh, I x.fOpen, I x.fReset])]) (fun b => .sv (.one (B b))) dom φ))))], []⟩ (by kernel_rfl) ?_
  have hp := h.1
  replace h := h.2
  refine WL.mt0 (K := []) (p := none) hn (by rfl) (mt_call (indexEdge_ct l dom φ hp) en155 (caps := []) [] rfl (by rfl) (by kernel_rfl) (by kernel_rfl) (by rfl) (by rfl) (by rfl)) (by rfl) (by rfl) (by rfl) ?_
  refine WL.run ht hn 2 ⟨[(4, .sv (.one (B (decide ((idxTo φ l) ≥ 0)))))], []⟩ (by kernel_rfl) ?_
  refine WL.nil ?_
  refine En.ret ?_
  exact En.back ht (decide ((idxTo φ l) ≥ 0)) h (by kernel_rfl) rfl
theorem en103 : ∀ args w, (callFunc 103 args).run Try.prog w = .ok (.enter 103 args) w := enters_of Try.func103 (by kernel_rfl) rfl
theorem anyEdge_ct (l : List ApiEdge) (dom : ApiEdge → Prop) (φ : ApiEdge → Bool) (hd : ∀ x ∈ l, dom x) : Ct 103 [.sv (.one (LS ApiEdge.ty l)), .sv (.one (.rd (fvR (fun x => [.sv (.agg [I x.fFrom, I x.fTo, I x.fLow, I x.fHigh, I x.fOpen, I x.fReset])]) (fun b => .sv (.one (B b))) dom φ)))] [] (fun (_ : Unit) => True) (fun _ => .sv (.one (B (l.any φ)))) := by
  refine (anyEdge_walk l dom φ (fun r => r = l.any φ) ?_).fun
  unfold anyEdge_vc
  exact fun _ => ⟨hd, by rw [← idxTo_nonneg φ l]⟩
def within_vc (x : Int) (lo : Int) (hi : Int) (Q : Bool → Prop) : Prop :=
  Q ((decide (x ≥ lo)) && (decide (x ≤ hi)))
theorem within_walk (x : Int) (lo : Int) (hi : Int) (Q : Bool → Prop) (h : within_vc x lo hi Q) : Ct 101 [.sv (.one (I x)), .sv (.one (I lo)), .sv (.one (I hi))] [] Q (fun (r : Bool) => .sv (.one (B r))) := by
  have ht := tab_ok
  refine Ct.body Try.func101 rfl rfl rfl rfl (fun c hn => ?_)
  unfold within_vc at h
  refine En.seq ?_
  refine En.region ?_
  refine WL.run ht hn 1 ⟨[(0, .sv (.one (I x))), (1, .sv (.one (I lo))), (2, .sv (.one (I hi)))], []⟩ (by kernel_rfl) ?_
  refine WL.nil ?_
  refine En.seq ?_
  refine En.region ?_
  refine WL.run ht hn 4 ⟨[(0, .sv (.one (I x))), (2, .sv (.one (I hi))), (10, .sv (.one (B (decide (x ≥ lo)))))], []⟩ (by kernel_rfl) ?_
  refine WL.thru ⟨[(6, .sv (.one (B ((decide (x ≥ lo)) && (decide (x ≤ hi))))))], []⟩ ?_ ?_
  · refine splitB (decide (x ≥ lo)) (fun hb0 => ?_) (fun hb0 => ?_)
    · refine WL.setB 10 hb0 (by kernel_rfl) ?_
      refine WL.run ht hn 5 ⟨[(6, .sv (.one (B (decide (x ≤ hi)))))], []⟩ (by kernel_rfl) ?_
      exact WL.nil (sub_ok (by simp only [hb0]; kernel_rfl))
    · refine WL.setB 10 hb0 (by kernel_rfl) ?_
      refine WL.run ht hn 5 ⟨[(6, .sv (.one (B false)))], []⟩ (by kernel_rfl) ?_
      exact WL.nil (sub_ok (by simp only [hb0]; kernel_rfl))
  · refine En.ret ?_
    exact En.back ht ((decide (x ≥ lo)) && (decide (x ≤ hi))) h (by kernel_rfl) rfl
theorem en101 : ∀ args w, (callFunc 101 args).run Try.prog w = .ok (.enter 101 args) w := enters_of Try.func101 (by kernel_rfl) rfl
def inS (lo hi x : Int) : Bool := decide (lo ≤ x) && decide (x ≤ hi)
theorem within_ct (x lo hi : Int) : Ct 101 [.sv (.one (I x)), .sv (.one (I lo)), .sv (.one (I hi))] [] (fun (_ : Unit) => True) (fun _ => .sv (.one (B (inS lo hi x)))) :=
  (within_walk x lo hi (fun r => r = inS lo hi x) (by unfold within_vc inS; rfl)).fun
def check2_vc (x : Int) (Q : Bool → Prop) : Prop :=
  Q (!(inS (-1) 6 x))
theorem check2_walk (x : Int) (Q : Bool → Prop) (h : check2_vc x Q) : Ct 102 [.sv (.one (I x)), .sv (.one (.ptr 0 0))] [.box [.fn 101 []] 198 true] Q (fun (r : Bool) => .sv (.one (B r))) := by
  have ht := tab_ok
  refine Ct.body Try.func102 rfl rfl rfl rfl (fun c hn => ?_)
  unfold check2_vc at h
  refine En.seq ?_
  refine En.region ?_
  refine WL.run ht hn 1 ⟨[(0, .sv (.one (I x))), (1, .sv (.one (.ptr 0 0)))], [.box [.fn 101 []] 198 true]⟩ (by kernel_rfl) ?_
  refine WL.nil ?_
  refine En.seq ?_
  refine En.region ?_
  refine WL.run ht hn 2 ⟨[(4, .sv (.one (.fn 101 []))), (5, .sv (.one (I x)))], [.gone]⟩ (by kernel_rfl) ?_
  refine WL.mt0 (K := []) (p := none) hn (by rfl) (mt_call (within_ct x (-1) 6) en101 (caps := []) [] rfl (by rfl) (by kernel_rfl) (by kernel_rfl) (by rfl) (by rfl) (by rfl)) (by rfl) (by rfl) (by rfl) ?_
  refine WL.run ht hn 2 ⟨[(3, .sv (.one (B (!(inS (-1) 6 x)))))], [.gone]⟩ (by kernel_rfl) ?_
  refine WL.nil ?_
  refine En.ret ?_
  exact En.back ht (!(inS (-1) 6 x)) h (by kernel_rfl) rfl
theorem en102 : ∀ args w, (callFunc 102 args).run Try.prog w = .ok (.enter 102 args) w := enters_of Try.func102 (by kernel_rfl) rfl
def check3_vc (e : ApiEdge) (n : Int) (Q : Bool → Prop) : Prop :=
  ∃ J : Bool → Prop, (IfP (!(inS 0 (wr (n - 1)) e.fFrom)) (J true) (IfP (!(inS 0 (wr (n - 1)) e.fTo)) (J true) (IfP (!(inS 0 6 e.fLow)) (J true) (IfP (!(inS 0 6 e.fHigh)) (J true) (IfP (!(inS 0 1 e.fOpen)) (J true) (J (!(inS 0 1 e.fReset)))))))) ∧
  (∀ (x4 : Bool), J x4 → Q x4)
theorem check3_walk (e : ApiEdge) (n : Int) (Q : Bool → Prop) (h : check3_vc e n Q) : Ct 104 [.sv (.agg [I e.fFrom, I e.fTo, I e.fLow, I e.fHigh, I e.fOpen, I e.fReset]), .sv (.one (.ptr 0 0)), .sv (.one (.ptr 1 0))] [.box [.fn 101 []] 198 true, .box [I n] 3 true] Q (fun (r : Bool) => .sv (.one (B r))) := by
  have ht := tab_ok
  refine Ct.body Try.func104 rfl rfl rfl rfl (fun c hn => ?_)
  unfold check3_vc at h
  refine En.seq ?_
  refine En.region ?_
  refine WL.run ht hn 2 ⟨[(1, .sv (.one (.ptr 0 0))), (2, .sv (.one (.ptr 1 0))), (3, .sv (.one (.ptr 2 0)))], [.box [.fn 101 []] 198 true, .box [I n] 3 true, .box [I e.fFrom, I e.fTo, I e.fLow, I e.fHigh, I e.fOpen, I e.fReset] 27 false]⟩ (by kernel_rfl) ?_
  refine WL.nil ?_
  obtain ⟨J, h, hJ⟩ := h
  refine En.seqJ (σ := Bool) (fun zz => J zz) (fun zz => ⟨[(4, .sv (.one (B zz)))], [.gone, .gone, .gone]⟩) ?_ ?_
  · refine En.region ?_
    refine WL.run ht hn 5 ⟨[(1, .sv (.one (.ptr 0 0))), (2, .sv (.one (.ptr 1 0))), (3, .sv (.one (.ptr 2 0))), (5, .sv (.one (.fn 101 []))), (7, .sv (.one (I e.fFrom))), (9, .sv (.one (I (wr (n - 1)))))], [.box [.fn 101 []] 198 true, .box [I n] 3 true, .box [I e.fFrom, I e.fTo, I e.fLow, I e.fHigh, I e.fOpen, I e.fReset] 27 false]⟩ (by kernel_rfl) ?_
    refine WL.mt0 (K := []) (p := none) hn (by rfl) (mt_call (within_ct e.fFrom 0 (wr (n - 1))) en101 (caps := []) [] rfl (by rfl) (by kernel_rfl) (by kernel_rfl) (by rfl) (by rfl) (by rfl)) (by rfl) (by rfl) (by rfl) ?_
    refine WL.run ht hn 2 ⟨[(1, .sv (.one (.ptr 0 0))), (2, .sv (.one (.ptr 1 0))), (3, .sv (.one (.ptr 2 0))), (12, .sv (.one (B (!(inS 0 (wr (n - 1)) e.fFrom)))))], [.box [.fn 101 []] 198 true, .box [I n] 3 true, .box [I e.fFrom, I e.fTo, I e.fLow, I e.fHigh, I e.fOpen, I e.fReset] 27 false]⟩ (by kernel_rfl) ?_
    refine splitB (!(inS 0 (wr (n - 1)) e.fFrom)) (fun hb => ?_) (fun hb => ?_)
    · replace h := h.1 hb
      refine WL.setB 12 hb (by kernel_rfl) ?_
      refine WL.run ht hn 37 ⟨[(4, .sv (.one (B true)))], [.gone, .gone, .gone]⟩ (by kernel_rfl) ?_
      refine WL.nil ?_
      exact En.at (I := fun zz => J zz) (T := fun zz => ⟨[(4, .sv (.one (B zz)))], [.gone, .gone, .gone]⟩) true h (by kernel_rfl)
    · replace h := h.2 hb
      refine WL.setB 12 hb (by kernel_rfl) ?_
      refine WL.run ht hn 5 ⟨[(1, .sv (.one (.ptr 0 0))), (3, .sv (.one (.ptr 2 0))), (12, .sv (.one (B false))), (13, .sv (.one (.fn 101 []))), (15, .sv (.one (I e.fTo))), (17, .sv (.one (I (wr (n - 1)))))], [.box [.fn 101 []] 198 true, .gone, .box [I e.fFrom, I e.fTo, I e.fLow, I e.fHigh, I e.fOpen, I e.fReset] 27 false]⟩ (by kernel_rfl) ?_
      refine WL.mt0 (K := []) (p := none) hn (by rfl) (mt_call (within_ct e.fTo 0 (wr (n - 1))) en101 (caps := []) [] rfl (by rfl) (by kernel_rfl) (by kernel_rfl) (by rfl) (by rfl) (by rfl)) (by rfl) (by rfl) (by rfl) ?_
      refine WL.run ht hn 3 ⟨[(1, .sv (.one (.ptr 0 0))), (3, .sv (.one (.ptr 2 0))), (21, .sv (.one (B (!(inS 0 (wr (n - 1)) e.fTo)))))], [.box [.fn 101 []] 198 true, .gone, .box [I e.fFrom, I e.fTo, I e.fLow, I e.fHigh, I e.fOpen, I e.fReset] 27 false]⟩ (by kernel_rfl) ?_
      refine splitB (!(inS 0 (wr (n - 1)) e.fTo)) (fun hb => ?_) (fun hb => ?_)
      · replace h := h.1 hb
        refine WL.setB 21 hb (by kernel_rfl) ?_
        refine WL.run ht hn 28 ⟨[(4, .sv (.one (B true)))], [.gone, .gone, .gone]⟩ (by kernel_rfl) ?_
        refine WL.nil ?_
        exact En.at (I := fun zz => J zz) (T := fun zz => ⟨[(4, .sv (.one (B zz)))], [.gone, .gone, .gone]⟩) true h (by kernel_rfl)
      · replace h := h.2 hb
        refine WL.setB 21 hb (by kernel_rfl) ?_
        refine WL.run ht hn 3 ⟨[(1, .sv (.one (.ptr 0 0))), (3, .sv (.one (.ptr 2 0))), (21, .sv (.one (B false))), (22, .sv (.one (.fn 101 []))), (24, .sv (.one (I e.fLow)))], [.box [.fn 101 []] 198 true, .gone, .box [I e.fFrom, I e.fTo, I e.fLow, I e.fHigh, I e.fOpen, I e.fReset] 27 false]⟩ (by kernel_rfl) ?_
        refine WL.mt0 (K := []) (p := none) hn (by rfl) (mt_call (within_ct e.fLow 0 6) en101 (caps := []) [] rfl (by rfl) (by kernel_rfl) (by kernel_rfl) (by rfl) (by rfl) (by rfl)) (by rfl) (by rfl) (by rfl) ?_
        refine WL.run ht hn 3 ⟨[(1, .sv (.one (.ptr 0 0))), (3, .sv (.one (.ptr 2 0))), (28, .sv (.one (B (!(inS 0 6 e.fLow)))))], [.box [.fn 101 []] 198 true, .gone, .box [I e.fFrom, I e.fTo, I e.fLow, I e.fHigh, I e.fOpen, I e.fReset] 27 false]⟩ (by kernel_rfl) ?_
        refine splitB (!(inS 0 6 e.fLow)) (fun hb => ?_) (fun hb => ?_)
        · replace h := h.1 hb
          refine WL.setB 28 hb (by kernel_rfl) ?_
          refine WL.run ht hn 21 ⟨[(4, .sv (.one (B true)))], [.gone, .gone, .gone]⟩ (by kernel_rfl) ?_
          refine WL.nil ?_
          exact En.at (I := fun zz => J zz) (T := fun zz => ⟨[(4, .sv (.one (B zz)))], [.gone, .gone, .gone]⟩) true h (by kernel_rfl)
        · replace h := h.2 hb
          refine WL.setB 28 hb (by kernel_rfl) ?_
          refine WL.run ht hn 3 ⟨[(1, .sv (.one (.ptr 0 0))), (3, .sv (.one (.ptr 2 0))), (28, .sv (.one (B false))), (29, .sv (.one (.fn 101 []))), (31, .sv (.one (I e.fHigh)))], [.box [.fn 101 []] 198 true, .gone, .box [I e.fFrom, I e.fTo, I e.fLow, I e.fHigh, I e.fOpen, I e.fReset] 27 false]⟩ (by kernel_rfl) ?_
          refine WL.mt0 (K := []) (p := none) hn (by rfl) (mt_call (within_ct e.fHigh 0 6) en101 (caps := []) [] rfl (by rfl) (by kernel_rfl) (by kernel_rfl) (by rfl) (by rfl) (by rfl)) (by rfl) (by rfl) (by rfl) ?_
          refine WL.run ht hn 3 ⟨[(1, .sv (.one (.ptr 0 0))), (3, .sv (.one (.ptr 2 0))), (35, .sv (.one (B (!(inS 0 6 e.fHigh)))))], [.box [.fn 101 []] 198 true, .gone, .box [I e.fFrom, I e.fTo, I e.fLow, I e.fHigh, I e.fOpen, I e.fReset] 27 false]⟩ (by kernel_rfl) ?_
          refine splitB (!(inS 0 6 e.fHigh)) (fun hb => ?_) (fun hb => ?_)
          · replace h := h.1 hb
            refine WL.setB 35 hb (by kernel_rfl) ?_
            refine WL.run ht hn 14 ⟨[(4, .sv (.one (B true)))], [.gone, .gone, .gone]⟩ (by kernel_rfl) ?_
            refine WL.nil ?_
            exact En.at (I := fun zz => J zz) (T := fun zz => ⟨[(4, .sv (.one (B zz)))], [.gone, .gone, .gone]⟩) true h (by kernel_rfl)
          · replace h := h.2 hb
            refine WL.setB 35 hb (by kernel_rfl) ?_
            refine WL.run ht hn 3 ⟨[(1, .sv (.one (.ptr 0 0))), (3, .sv (.one (.ptr 2 0))), (35, .sv (.one (B false))), (36, .sv (.one (.fn 101 []))), (38, .sv (.one (I e.fOpen)))], [.box [.fn 101 []] 198 true, .gone, .box [I e.fFrom, I e.fTo, I e.fLow, I e.fHigh, I e.fOpen, I e.fReset] 27 false]⟩ (by kernel_rfl) ?_
            refine WL.mt0 (K := []) (p := none) hn (by rfl) (mt_call (within_ct e.fOpen 0 1) en101 (caps := []) [] rfl (by rfl) (by kernel_rfl) (by kernel_rfl) (by rfl) (by rfl) (by rfl)) (by rfl) (by rfl) (by rfl) ?_
            refine WL.run ht hn 3 ⟨[(1, .sv (.one (.ptr 0 0))), (3, .sv (.one (.ptr 2 0))), (42, .sv (.one (B (!(inS 0 1 e.fOpen)))))], [.box [.fn 101 []] 198 true, .gone, .box [I e.fFrom, I e.fTo, I e.fLow, I e.fHigh, I e.fOpen, I e.fReset] 27 false]⟩ (by kernel_rfl) ?_
            refine splitB (!(inS 0 1 e.fOpen)) (fun hb => ?_) (fun hb => ?_)
            · replace h := h.1 hb
              refine WL.setB 42 hb (by kernel_rfl) ?_
              refine WL.run ht hn 7 ⟨[(4, .sv (.one (B true)))], [.gone, .gone, .gone]⟩ (by kernel_rfl) ?_
              refine WL.nil ?_
              exact En.at (I := fun zz => J zz) (T := fun zz => ⟨[(4, .sv (.one (B zz)))], [.gone, .gone, .gone]⟩) true h (by kernel_rfl)
            · replace h := h.2 hb
              refine WL.setB 42 hb (by kernel_rfl) ?_
              refine WL.run ht hn 3 ⟨[(42, .sv (.one (B false))), (43, .sv (.one (.fn 101 []))), (45, .sv (.one (I e.fReset)))], [.gone, .gone, .gone]⟩ (by kernel_rfl) ?_
              refine WL.mt0 (K := []) (p := none) hn (by rfl) (mt_call (within_ct e.fReset 0 1) en101 (caps := []) [] rfl (by rfl) (by kernel_rfl) (by kernel_rfl) (by rfl) (by rfl) (by rfl)) (by rfl) (by rfl) (by rfl) ?_
              refine WL.run ht hn 3 ⟨[(4, .sv (.one (B (!(inS 0 1 e.fReset)))))], [.gone, .gone, .gone]⟩ (by kernel_rfl) ?_
              refine WL.nil ?_
              exact En.at (I := fun zz => J zz) (T := fun zz => ⟨[(4, .sv (.one (B zz)))], [.gone, .gone, .gone]⟩) (!(inS 0 1 e.fReset)) h (by kernel_rfl)
  · intro x4 h
    replace h := hJ _ h
    show En c ⟨[(4, .sv (.one (B x4)))], [.gone, .gone, .gone]⟩ _
    refine En.ret ?_
    exact En.back ht x4 h (by kernel_rfl) rfl
theorem en104 : ∀ args w, (callFunc 104 args).run Try.prog w = .ok (.enter 104 args) w := enters_of Try.func104 (by kernel_rfl) rfl
theorem check2_ct (x : Int) : Ct 102 [.sv (.one (I x)), .sv (.one (.ptr 0 0))] [.box [.fn 101 []] 198 true] (fun (_ : Unit) => True) (fun _ => .sv (.one (B (!inS (-1) 6 x)))) :=
  (check2_walk x (fun r => r = !inS (-1) 6 x) (by unfold check2_vc; rfl)).fun
def edgeOk (n : Int) (e : ApiEdge) : Bool := inS 0 (wr (n - 1)) e.fFrom && inS 0 (wr (n - 1)) e.fTo && inS 0 6 e.fLow && inS 0 6 e.fHigh && inS 0 1 e.fOpen && inS 0 1 e.fReset
theorem check3_ct (e : ApiEdge) (n : Int) : Ct 104 [.sv (.agg [I e.fFrom, I e.fTo, I e.fLow, I e.fHigh, I e.fOpen, I e.fReset]), .sv (.one (.ptr 0 0)), .sv (.one (.ptr 1 0))] [.box [.fn 101 []] 198 true, .box [I n] 3 true] (fun (_ : Unit) => True) (fun _ => .sv (.one (B (!edgeOk n e)))) := by
  refine (check3_walk e n (fun r => r = !edgeOk n e) ?_).fun
  unfold check3_vc
  refine ⟨fun r => r = !edgeOk n e, ?_, fun _ h => h⟩
  unfold edgeOk
  simp only [ifP_iff]
  cases inS 0 (wr (n - 1)) e.fFrom <;> cases inS 0 (wr (n - 1)) e.fTo <;> cases inS 0 6 e.fLow <;> cases inS 0 6 e.fHigh <;> cases inS 0 1 e.fOpen <;> simp
def check_vc (t : ApiTimed) (Q : Int → Prop) : Prop :=
  t.fStay.length ≤ 9223372036854775807 →
  t.fEdges.length ≤ 9223372036854775807 →
  (IfP (((decide ((t.fStay.length : Int) < 1)) || (decide ((t.fStay.length : Int) > 8))) || (decide ((t.fEdges.length : Int) > 16))) (Q 1) (∃ J : Bool → Prop, ((∀ x ∈ t.fStay, (fun _ => True) x) ∧
  IfP (t.fStay.any (fun x => !inS (-1) 6 x)) (J true) ((∀ x ∈ t.fEdges, (fun _ => True) x) ∧
  IfP (t.fEdges.any (fun e => !edgeOk (t.fStay.length : Int) e)) (J true) (J (!(inS 0 (wr ((t.fStay.length : Int) - 1)) t.fGoal))))) ∧
  (∀ (x38 : Bool), J x38 → IfP x38 (Q 2) (Q 0))))
theorem check_walk (t : ApiTimed) (Q : Int → Prop) (h : check_vc t Q) : Ct 43 [.sv (.agg [LS intT t.fStay, LS ApiEdge.ty t.fEdges, I t.fGoal])] [] Q (fun (r : Int) => .sv (.one (I r))) := by
  have ht := tab_ok
  refine Ct.body Try.func43 rfl rfl rfl rfl (fun c hn => ?_)
  unfold check_vc at h
  refine En.lenA 0 0 (by rfl) (by rfl) (fun hl => ?_)
  replace h := h hl
  clear hl
  refine En.lenA 0 1 (by rfl) (by rfl) (fun hl => ?_)
  replace h := h hl
  clear hl
  refine En.seq ?_
  refine En.region ?_
  refine WL.run ht hn 2 ⟨[(1, .sv (.one (.ptr 0 0)))], [.box [LS intT t.fStay, LS ApiEdge.ty t.fEdges, I t.fGoal] 25 false]⟩ (by kernel_rfl) ?_
  refine WL.nil ?_
  refine En.seq ?_
  refine En.region ?_
  refine WL.run ht hn 5 ⟨[(1, .sv (.one (.ptr 0 0))), (3, .sv (.one (.ptr 1 0)))], [.box [LS intT t.fStay, LS ApiEdge.ty t.fEdges, I t.fGoal] 25 false, .box [I (t.fStay.length : Int)] 3 false]⟩ (by kernel_rfl) ?_
  refine WL.nil ?_
  refine En.seq ?_
  refine En.seq ?_
  refine En.region ?_
  refine WL.run ht hn 3 ⟨[(1, .sv (.one (.ptr 0 0))), (3, .sv (.one (.ptr 1 0))), (10, .sv (.one (B (decide ((t.fStay.length : Int) < 1)))))], [.box [LS intT t.fStay, LS ApiEdge.ty t.fEdges, I t.fGoal] 25 false, .box [I (t.fStay.length : Int)] 3 false]⟩ (by kernel_rfl) ?_
  refine WL.thru ⟨[(1, .sv (.one (.ptr 0 0))), (3, .sv (.one (.ptr 1 0))), (19, .sv (.one (B (((decide ((t.fStay.length : Int) < 1)) || (decide ((t.fStay.length : Int) > 8))) || (decide ((t.fEdges.length : Int) > 16))))))], [.box [LS intT t.fStay, LS ApiEdge.ty t.fEdges, I t.fGoal] 25 false, .box [I (t.fStay.length : Int)] 3 false]⟩ ?_ ?_
  · refine splitB (decide ((t.fStay.length : Int) < 1)) (fun hb0 => ?_) (fun hb0 => ?_)
    · refine WL.setB 10 hb0 (by kernel_rfl) ?_
      refine WL.run ht hn 9 ⟨[(1, .sv (.one (.ptr 0 0))), (3, .sv (.one (.ptr 1 0))), (19, .sv (.one (B true)))], [.box [LS intT t.fStay, LS ApiEdge.ty t.fEdges, I t.fGoal] 25 false, .box [I (t.fStay.length : Int)] 3 false]⟩ (by kernel_rfl) ?_
      exact WL.nil (sub_ok (by simp only [hb0]; kernel_rfl))
    · refine WL.setB 10 hb0 (by kernel_rfl) ?_
      refine WL.run ht hn 4 ⟨[(1, .sv (.one (.ptr 0 0))), (3, .sv (.one (.ptr 1 0))), (14, .sv (.one (B (decide ((t.fStay.length : Int) > 8)))))], [.box [LS intT t.fStay, LS ApiEdge.ty t.fEdges, I t.fGoal] 25 false, .box [I (t.fStay.length : Int)] 3 false]⟩ (by kernel_rfl) ?_
      refine splitB (decide ((t.fStay.length : Int) > 8)) (fun hb1 => ?_) (fun hb1 => ?_)
      · refine WL.setB 14 hb1 (by kernel_rfl) ?_
        refine WL.run ht hn 5 ⟨[(1, .sv (.one (.ptr 0 0))), (3, .sv (.one (.ptr 1 0))), (19, .sv (.one (B true)))], [.box [LS intT t.fStay, LS ApiEdge.ty t.fEdges, I t.fGoal] 25 false, .box [I (t.fStay.length : Int)] 3 false]⟩ (by kernel_rfl) ?_
        exact WL.nil (sub_ok (by simp only [hb0, hb1]; kernel_rfl))
      · refine WL.setB 14 hb1 (by kernel_rfl) ?_
        refine WL.run ht hn 5 ⟨[(1, .sv (.one (.ptr 0 0))), (3, .sv (.one (.ptr 1 0))), (19, .sv (.one (B (decide ((t.fEdges.length : Int) > 16)))))], [.box [LS intT t.fStay, LS ApiEdge.ty t.fEdges, I t.fGoal] 25 false, .box [I (t.fStay.length : Int)] 3 false]⟩ (by kernel_rfl) ?_
        exact WL.nil (sub_ok (by simp only [hb0, hb1]; kernel_rfl))
  · refine En.cond (b := (((decide ((t.fStay.length : Int) < 1)) || (decide ((t.fStay.length : Int) > 8))) || (decide ((t.fEdges.length : Int) > 16)))) (by kernel_rfl) (fun hb => ?_) (fun hb => ?_)
    · replace h := h.1 hb
      refine En.seq ?_
      refine En.region ?_
      refine WL.run ht hn 1 ⟨[(2, .sv (.one (I 1)))], [.gone, .gone]⟩ (by kernel_rfl) ?_
      refine WL.nil ?_
      refine En.ret ?_
      exact En.back ht 1 h (by kernel_rfl) rfl
    · replace h := h.2 hb
      refine En.skip ?_
      refine En.seq ?_
      refine En.region ?_
      refine WL.run ht hn 2 ⟨[(1, .sv (.one (.ptr 0 0))), (3, .sv (.one (.ptr 1 0))), (4, .sv (.one (.ptr 2 0)))], [.box [LS intT t.fStay, LS ApiEdge.ty t.fEdges, I t.fGoal] 25 false, .box [I (t.fStay.length : Int)] 3 false, .box [.fn 101 []] 198 false]⟩ (by kernel_rfl) ?_
      refine WL.nil ?_
      refine En.seq ?_
      obtain ⟨J, h, hJ⟩ := h
      refine En.seqJ (σ := Bool) (fun zz => J zz) (fun zz => ⟨[(38, .sv (.one (B zz)))], [.gone, .gone, .gone]⟩) ?_ ?_
      · refine En.region ?_
        refine WL.run ht hn 3 ⟨[(1, .sv (.one (.ptr 0 0))), (3, .sv (.one (.ptr 1 0))), (4, .sv (.one (.ptr 2 0))), (21, .sv (.one (LS intT t.fStay))), (22, .sv (.one (.fn 102 [2])))], [.box [LS intT t.fStay, LS ApiEdge.ty t.fEdges, I t.fGoal] 25 false, .box [I (t.fStay.length : Int)] 3 false, .box [.fn 101 []] 198 false]⟩ (by kernel_rfl) ?_
        refine WL.freeze [2] (by rfl) ?_
        refine WL.ghost 22 (.sv (.one (.rd (fvR (fun x => [.sv (.one (I x))]) (fun b => .sv (.one (B b))) (fun _ => True) (fun x => !inS (-1) 6 x))))) (by rfl) (fv_of (M := [.box [.fn 101 []] 198 true]) (fun x _ => check2_ct x) en102 rfl (by kernel_rfl) (by rfl) (fun _ => rfl)) ?_
        have hp := h.1
        replace h := h.2
        refine WL.mt0 (K := []) (p := none) hn (by rfl) (mt_call (anyInt_ct t.fStay (fun _ => True) (fun x => !inS (-1) 6 x) hp) en79 (caps := []) [] rfl (by rfl) (by kernel_rfl) (by kernel_rfl) (by rfl) (by rfl) (by rfl)) (by rfl) (by rfl) (by rfl) ?_
        refine WL.run ht hn 1 ⟨[(1, .sv (.one (.ptr 0 0))), (3, .sv (.one (.ptr 1 0))), (4, .sv (.one (.ptr 2 0))), (24, .sv (.one (B (t.fStay.any (fun x => !inS (-1) 6 x)))))], [.box [LS intT t.fStay, LS ApiEdge.ty t.fEdges, I t.fGoal] 25 false, .box [I (t.fStay.length : Int)] 3 false, .box [.fn 101 []] 198 true]⟩ (by kernel_rfl) ?_
        refine splitB (t.fStay.any (fun x => !inS (-1) 6 x)) (fun hb => ?_) (fun hb => ?_)
        · replace h := h.1 hb
          refine WL.setB 24 hb (by kernel_rfl) ?_
          refine WL.run ht hn 14 ⟨[(38, .sv (.one (B true)))], [.gone, .gone, .gone]⟩ (by kernel_rfl) ?_
          refine WL.nil ?_
          exact En.at (I := fun zz => J zz) (T := fun zz => ⟨[(38, .sv (.one (B zz)))], [.gone, .gone, .gone]⟩) true h (by kernel_rfl)
        · replace h := h.2 hb
          refine WL.setB 24 hb (by kernel_rfl) ?_
          refine WL.run ht hn 3 ⟨[(1, .sv (.one (.ptr 0 0))), (3, .sv (.one (.ptr 1 0))), (4, .sv (.one (.ptr 2 0))), (24, .sv (.one (B false))), (26, .sv (.one (LS ApiEdge.ty t.fEdges))), (27, .sv (.one (.fn 104 [2, 1])))], [.box [LS intT t.fStay, LS ApiEdge.ty t.fEdges, I t.fGoal] 25 false, .box [I (t.fStay.length : Int)] 3 false, .box [.fn 101 []] 198 true]⟩ (by kernel_rfl) ?_
          refine WL.freeze [1] (by rfl) ?_
          refine WL.ghost 27 (.sv (.one (.rd (fvR (fun x => [.sv (.agg [I x.fFrom, I x.fTo, I x.fLow, I x.fHigh, I x.fOpen, I x.fReset])]) (fun b => .sv (.one (B b))) (fun _ => True) (fun e => !edgeOk (t.fStay.length : Int) e))))) (by rfl) (fv_of (M := [.box [.fn 101 []] 198 true, .box [I (t.fStay.length : Int)] 3 true]) (fun x _ => check3_ct x (t.fStay.length : Int)) en104 rfl (by kernel_rfl) (by rfl) (fun _ => rfl)) ?_
          have hp := h.1
          replace h := h.2
          refine WL.mt0 (K := []) (p := none) hn (by rfl) (mt_call (anyEdge_ct t.fEdges (fun _ => True) (fun e => !edgeOk (t.fStay.length : Int) e) hp) en103 (caps := []) [] rfl (by rfl) (by kernel_rfl) (by kernel_rfl) (by rfl) (by rfl) (by rfl)) (by rfl) (by rfl) (by rfl) ?_
          refine WL.run ht hn 2 ⟨[(1, .sv (.one (.ptr 0 0))), (3, .sv (.one (.ptr 1 0))), (4, .sv (.one (.ptr 2 0))), (30, .sv (.one (B (t.fEdges.any (fun e => !edgeOk (t.fStay.length : Int) e)))))], [.box [LS intT t.fStay, LS ApiEdge.ty t.fEdges, I t.fGoal] 25 false, .box [I (t.fStay.length : Int)] 3 true, .box [.fn 101 []] 198 true]⟩ (by kernel_rfl) ?_
          refine splitB (t.fEdges.any (fun e => !edgeOk (t.fStay.length : Int) e)) (fun hb => ?_) (fun hb => ?_)
          · replace h := h.1 hb
            refine WL.setB 30 hb (by kernel_rfl) ?_
            refine WL.run ht hn 8 ⟨[(38, .sv (.one (B true)))], [.gone, .gone, .gone]⟩ (by kernel_rfl) ?_
            refine WL.nil ?_
            exact En.at (I := fun zz => J zz) (T := fun zz => ⟨[(38, .sv (.one (B zz)))], [.gone, .gone, .gone]⟩) true h (by kernel_rfl)
          · replace h := h.2 hb
            refine WL.setB 30 hb (by kernel_rfl) ?_
            refine WL.run ht hn 5 ⟨[(30, .sv (.one (B false))), (31, .sv (.one (.fn 101 []))), (33, .sv (.one (I t.fGoal))), (35, .sv (.one (I (wr ((t.fStay.length : Int) - 1)))))], [.gone, .gone, .gone]⟩ (by kernel_rfl) ?_
            refine WL.mt0 (K := []) (p := none) hn (by rfl) (mt_call (within_ct t.fGoal 0 (wr ((t.fStay.length : Int) - 1))) en101 (caps := []) [] rfl (by rfl) (by kernel_rfl) (by kernel_rfl) (by rfl) (by rfl) (by rfl)) (by rfl) (by rfl) (by rfl) ?_
            refine WL.run ht hn 2 ⟨[(38, .sv (.one (B (!(inS 0 (wr ((t.fStay.length : Int) - 1)) t.fGoal)))))], [.gone, .gone, .gone]⟩ (by kernel_rfl) ?_
            refine WL.nil ?_
            exact En.at (I := fun zz => J zz) (T := fun zz => ⟨[(38, .sv (.one (B zz)))], [.gone, .gone, .gone]⟩) (!(inS 0 (wr ((t.fStay.length : Int) - 1)) t.fGoal)) h (by kernel_rfl)
      · intro x38 h
        replace h := hJ _ h
        show En c ⟨[(38, .sv (.one (B x38)))], [.gone, .gone, .gone]⟩ _
        refine En.cond (b := x38) (by kernel_rfl) (fun hb => ?_) (fun hb => ?_)
        · replace h := h.1 hb
          refine En.seq ?_
          refine En.region ?_
          refine WL.run ht hn 1 ⟨[(2, .sv (.one (I 2)))], [.gone, .gone, .gone]⟩ (by kernel_rfl) ?_
          refine WL.nil ?_
          refine En.ret ?_
          exact En.back ht 2 h (by kernel_rfl) rfl
        · replace h := h.2 hb
          refine En.skip ?_
          refine En.seq ?_
          refine En.region ?_
          refine WL.run ht hn 1 ⟨[(2, .sv (.one (I 0)))], [.gone, .gone, .gone]⟩ (by kernel_rfl) ?_
          refine WL.nil ?_
          refine En.ret ?_
          exact En.back ht 0 h (by kernel_rfl) rfl
theorem en43 : ∀ args w, (callFunc 43 args).run Try.prog w = .ok (.enter 43 args) w := enters_of Try.func43 (by kernel_rfl) rfl
def may_vc (s : TimedSpot) (t : ApiTimed) (Q : Bool → Prop) : Prop :=
  t.fStay.length ≤ 9223372036854775807 →
  t.fEdges.length ≤ 9223372036854775807 →
  (∃ J : Bool → Prop, (∃ e, idx t.fStay s.fPlace = some e ∧
  IfP (decide (e < 0)) (J true) (∃ e_2, idx t.fStay s.fPlace = some e_2 ∧
  J (decide (s.fClock ≤ (wr (2 * e_2)))))) ∧
  (∀ (x4 : Bool), J x4 → Q x4))
theorem may_walk (s : TimedSpot) (t : ApiTimed) (Q : Bool → Prop) (h : may_vc s t Q) : Ct 156 [.sv (.agg [I s.fPlace, I s.fClock]), .sv (.agg [LS intT t.fStay, LS ApiEdge.ty t.fEdges, I t.fGoal])] [] Q (fun (r : Bool) => .sv (.one (B r))) := by
  have ht := tab_ok
  refine Ct.body Try.func156 rfl rfl rfl rfl (fun c hn => ?_)
  unfold may_vc at h
  refine En.lenA 1 0 (by rfl) (by rfl) (fun hl => ?_)
  replace h := h hl
  clear hl
  refine En.lenA 1 1 (by rfl) (by rfl) (fun hl => ?_)
  replace h := h hl
  clear hl
  refine En.seq ?_
  refine En.region ?_
  refine WL.run ht hn 3 ⟨[(2, .sv (.one (.ptr 0 0))), (3, .sv (.one (.ptr 1 0)))], [.box [I s.fPlace, I s.fClock] 204 false, .box [LS intT t.fStay, LS ApiEdge.ty t.fEdges, I t.fGoal] 25 false]⟩ (by kernel_rfl) ?_
  refine WL.nil ?_
  obtain ⟨J, h, hJ⟩ := h
  refine En.seqJ (σ := Bool) (fun zz => J zz) (fun zz => ⟨[(4, .sv (.one (B zz)))], [.gone, .gone]⟩) ?_ ?_
  · refine En.regionS (by kernel_rfl) (by kernel_rfl) ?_
    refine SL.run ht hn 4 ⟨[(2, .sv (.one (.ptr 0 0))), (3, .sv (.one (.ptr 1 0))), (5, .sv (.one (.ptr 1 0))), (6, .sv (.one (LS intT t.fStay))), (7, .sv (.one (.ptr 0 0))), (8, .sv (.one (I s.fPlace)))], [.box [I s.fPlace, I s.fClock] 204 false, .box [LS intT t.fStay, LS ApiEdge.ty t.fEdges, I t.fGoal] 25 false]⟩ (by kernel_rfl) ?_
    obtain ⟨e, he, h⟩ := h
    refine SL.val hn (by rfl) (val_index (T := intT) (l := t.fStay) (i := s.fPlace) ht rfl (by rfl) (by rfl) (by rfl) (by rfl) (by rfl) (by rfl) he) (by rfl) ?_
    refine SL.val hn (by rfl) (val_load (s := .one (I e)) ht rfl (by rfl) (by rfl) (by rfl) (by rfl) (by rfl)) (by rfl) ?_
    refine SL.run ht hn 2 ⟨[(2, .sv (.one (.ptr 0 0))), (3, .sv (.one (.ptr 1 0))), (5, .sv (.one (.ptr 1 0))), (6, .sv (.one (LS intT t.fStay))), (7, .sv (.one (.ptr 0 0))), (8, .sv (.one (I s.fPlace))), (9, .sv (.one (.pe (svR (.one (I e))) 1))), (10, .sv (.one (I e))), (11, .sv (.one (B (decide (e < 0))))), (12, .sv (.one (B (decide (e < 0)))))], [.box [I s.fPlace, I s.fClock] 204 false, .box [LS intT t.fStay, LS ApiEdge.ty t.fEdges, I t.fGoal] 25 false]⟩ (by kernel_rfl) ?_
    refine splitB (decide (e < 0)) (fun hb => ?_) (fun hb => ?_)
    · replace h := h.1 hb
      refine SL.setB 12 hb (by kernel_rfl) ?_
      refine SL.run ht hn 12 ⟨[(2, .sv (.one (.ptr 0 0))), (3, .sv (.one (.ptr 1 0))), (4, .sv (.one (B true))), (5, .sv (.one (.ptr 1 0))), (6, .sv (.one (LS intT t.fStay))), (7, .sv (.one (.ptr 0 0))), (8, .sv (.one (I s.fPlace))), (9, .sv (.one (.pe (svR (.one (I e))) 1))), (10, .sv (.one (I e))), (11, .sv (.one (B (decide (e < 0))))), (12, .sv (.one (B true))), (13, .tup []), (14, .tup []), (15, .tup []), (16, .tup []), (17, .tup []), (18, .tup []), (19, .tup []), (20, .tup []), (21, .tup []), (22, .tup []), (23, .sv (.one (B true)))], [.box [I s.fPlace, I s.fClock] 204 false, .box [LS intT t.fStay, LS ApiEdge.ty t.fEdges, I t.fGoal] 25 false]⟩ (by kernel_rfl) ?_
      refine SL.nil ⟨by kernel_rfl, ?_⟩
      exact En.at (I := fun zz => J zz) (T := fun zz => ⟨[(4, .sv (.one (B zz)))], [.gone, .gone]⟩) true h (by kernel_rfl)
    · replace h := h.2 hb
      refine SL.setB 12 hb (by kernel_rfl) ?_
      refine SL.run ht hn 6 ⟨[(2, .sv (.one (.ptr 0 0))), (3, .sv (.one (.ptr 1 0))), (5, .sv (.one (.ptr 1 0))), (6, .sv (.one (LS intT t.fStay))), (7, .sv (.one (.ptr 0 0))), (8, .sv (.one (I s.fPlace))), (9, .sv (.one (.pe (svR (.one (I e))) 1))), (10, .sv (.one (I e))), (11, .sv (.one (B (decide (e < 0))))), (12, .sv (.one (B false))), (13, .sv (.one (.ptr 0 1))), (14, .sv (.one (I s.fClock))), (15, .sv (.one (.ptr 1 0))), (16, .sv (.one (LS intT t.fStay))), (17, .sv (.one (.ptr 0 0))), (18, .sv (.one (I s.fPlace)))], [.box [I s.fPlace, I s.fClock] 204 false, .box [LS intT t.fStay, LS ApiEdge.ty t.fEdges, I t.fGoal] 25 false]⟩ (by kernel_rfl) ?_
      obtain ⟨e_2, he_2, h⟩ := h
      refine SL.val hn (by rfl) (val_index (T := intT) (l := t.fStay) (i := s.fPlace) ht rfl (by rfl) (by rfl) (by rfl) (by rfl) (by rfl) (by rfl) he_2) (by rfl) ?_
      refine SL.val hn (by rfl) (val_load (s := .one (I e_2)) ht rfl (by rfl) (by rfl) (by rfl) (by rfl) (by rfl)) (by rfl) ?_
      refine SL.run ht hn 4 ⟨[(2, .sv (.one (.ptr 0 0))), (3, .sv (.one (.ptr 1 0))), (4, .sv (.one (B (decide (s.fClock ≤ (wr (2 * e_2))))))), (5, .sv (.one (.ptr 1 0))), (6, .sv (.one (LS intT t.fStay))), (7, .sv (.one (.ptr 0 0))), (8, .sv (.one (I s.fPlace))), (9, .sv (.one (.pe (svR (.one (I e))) 1))), (10, .sv (.one (I e))), (11, .sv (.one (B (decide (e < 0))))), (12, .sv (.one (B false))), (13, .sv (.one (.ptr 0 1))), (14, .sv (.one (I s.fClock))), (15, .sv (.one (.ptr 1 0))), (16, .sv (.one (LS intT t.fStay))), (17, .sv (.one (.ptr 0 0))), (18, .sv (.one (I s.fPlace))), (19, .sv (.one (.pe (svR (.one (I e_2))) 1))), (20, .sv (.one (I e_2))), (21, .sv (.one (I (wr (2 * e_2))))), (22, .sv (.one (B (decide (s.fClock ≤ (wr (2 * e_2))))))), (23, .sv (.one (B (decide (s.fClock ≤ (wr (2 * e_2)))))))], [.box [I s.fPlace, I s.fClock] 204 false, .box [LS intT t.fStay, LS ApiEdge.ty t.fEdges, I t.fGoal] 25 false]⟩ (by kernel_rfl) ?_
      refine SL.nil ⟨by kernel_rfl, ?_⟩
      exact En.at (I := fun zz => J zz) (T := fun zz => ⟨[(4, .sv (.one (B zz)))], [.gone, .gone]⟩) (decide (s.fClock ≤ (wr (2 * e_2)))) h (by kernel_rfl)
  · intro x4 h
    replace h := hJ _ h
    show En c ⟨[(4, .sv (.one (B x4)))], [.gone, .gone]⟩ _
    refine En.ret ?_
    exact En.back ht x4 h (by kernel_rfl) rfl
theorem en156 : ∀ args w, (callFunc 156 args).run Try.prog w = .ok (.enter 156 args) w := enters_of Try.func156 (by kernel_rfl) rfl
def stayB (S : List Int) (s : TimedSpot) : Bool := decide (S.getD s.fPlace.toNat 0 < 0) || decide (s.fClock ≤ 2 * S.getD s.fPlace.toNat 0)
def mayB (s : TimedSpot) (t : ApiTimed) : Bool := stayB t.fStay s
theorem may_ct (s : TimedSpot) (t : ApiTimed) (hp : (0 ≤ s.fPlace ∧ s.fPlace < (t.fStay.length : Int)) ∧ ∀ x ∈ t.fStay, -1 ≤ x ∧ x ≤ 6) : Ct 156 [.sv (.agg [I s.fPlace, I s.fClock]), .sv (.agg [LS intT t.fStay, LS ApiEdge.ty t.fEdges, I t.fGoal])] [] (fun (_ : Unit) => True) (fun _ => .sv (.one (B (mayB s t)))) := by
  refine (may_walk s t (fun r => r = mayB s t) ?_).fun
  unfold may_vc
  obtain ⟨⟨h0, h1⟩, hS⟩ := hp
  have hl : s.fPlace.toNat < t.fStay.length := by omega
  have hg : t.fStay[s.fPlace.toNat]? = some (t.fStay.getD s.fPlace.toNat 0) := by
    rw [List.getD_eq_getElem?_getD, List.getElem?_eq_getElem hl]
    rfl
  have hx := hS _ (List.mem_of_getElem? hg)
  have hi : idx t.fStay s.fPlace = some (t.fStay.getD s.fPlace.toNat 0) := by
    unfold idx
    rw [if_pos (by omega), hg]
  intro _ _
  refine ⟨fun r => r = mayB s t, ⟨_, hi, fun hb => ?_, fun hb => ⟨_, hi, ?_⟩⟩, fun x h => h⟩
  · unfold mayB stayB
    rw [hb]
    rfl
  · unfold mayB stayB
    rw [hb, wr_in (by omega) (by omega)]
    rfl
end Go.Proofs.Ytfpdnigihjmohaa
