/- Lemmas towards the statement: mirrors of functions, and plain laws. No condition. -/
import Derived.Test.YtiinkohfldopbaaPackCodeMcMillan3

/- Contracts of package code: lists of words, and whether they can be told apart. No condition. -/
namespace Go.Proofs.Ytiinkohfldopbaa
open Go.RowKit Go.MapKept
set_option linter.unusedSimpArgs false
set_option linter.unusedVariables false
set_option maxRecDepth 100000

def indexInt_vc (l : (List Int)) (dom : (Int → Prop)) (φ : (Int → Bool)) (Q : Int → Prop) : Prop :=
  l.length ≤ 9223372036854775807 →
  (∃ (Inv : Int → Prop) (mu : Int → Nat), Inv 0 ∧
  ∀ (x8 : Int) , Inv x8 → (IfP (decide (x8 < (l.length : Int))) (∃ e, idx l x8 = some e ∧
  (dom e) ∧
  IfP (φ e) (Q x8) ((Inv (wr (x8 + 1)) ∧ mu (wr (x8 + 1)) < mu x8))) (Q (-1))))
theorem indexInt_walk (l : (List Int)) (dom : (Int → Prop)) (φ : (Int → Bool)) (Q : Int → Prop) (h : indexInt_vc l dom φ Q) : Ct 138 [.sv (.one (LS intT l)), .sv (.one (.rd (fvR (fun x => [.sv (.one (I x))]) (fun b => .sv (.one (B b))) dom φ)))] [] Q (fun (r : Int) => .sv (.one (I r))) := by
  have ht := tab_ok
  refine Ct.body Try.func138 rfl rfl rfl rfl (fun c hn => ?_)
  unfold indexInt_vc at h
  refine En.lenL 0 (by rfl) (fun hl => ?_)
  replace h := h hl
  clear hl
  refine En.seq ?_
  refine En.region ?_
  refine WL.run ht hn 1 ⟨[(0, .sv (.one (LS intT l))), (1, .sv (.one (.rd (fvR (fun x => [.sv (.one (I x))]) (fun b => .sv (.one (B b))) dom φ))))], []⟩ (by kernel_rfl) ?_
  refine WL.nil ?_
  refine En.seq ?_
  refine En.seq ?_
  refine En.region ?_
  refine WL.run ht hn 3 ⟨[(0, .sv (.one (LS intT l))), (1, .sv (.one (.rd (fvR (fun x => [.sv (.one (I x))]) (fun b => .sv (.one (B b))) dom φ)))), (7, .sv (.one (I (l.length : Int)))), (8, .sv (.one (I 0)))], []⟩ (by kernel_rfl) ?_
  refine WL.nil ?_
  refine En.block ?_
  obtain ⟨Inv, mu, h0, hI⟩ := h
  refine En.loop (σ := Int) (fun zz => Inv zz) (fun zz => mu zz) (fun zz => ⟨[(0, .sv (.one (LS intT l))), (1, .sv (.one (.rd (fvR (fun x => [.sv (.one (I x))]) (fun b => .sv (.one (B b))) dom φ)))), (7, .sv (.one (I (l.length : Int)))), (8, .sv (.one (I zz)))], []⟩) 0 h0 (sub_ok (by kernel_rfl)) ?_
  intro x8 h
  replace h := hI _ h
  show En c ⟨[(0, .sv (.one (LS intT l))), (1, .sv (.one (.rd (fvR (fun x => [.sv (.one (I x))]) (fun b => .sv (.one (B b))) dom φ)))), (7, .sv (.one (I (l.length : Int)))), (8, .sv (.one (I x8)))], []⟩ _
  refine En.seq ?_
  refine En.region ?_
  refine WL.run ht hn 1 ⟨[(0, .sv (.one (LS intT l))), (1, .sv (.one (.rd (fvR (fun x => [.sv (.one (I x))]) (fun b => .sv (.one (B b))) dom φ)))), (7, .sv (.one (I (l.length : Int)))), (8, .sv (.one (I x8))), (9, .sv (.one (B (decide (x8 < (l.length : Int))))))], []⟩ (by kernel_rfl) ?_
  refine WL.nil ?_
  refine En.seq ?_
  refine En.cond (b := (decide (x8 < (l.length : Int)))) (by kernel_rfl) (fun hb => ?_) (fun hb => ?_)
  · replace h := h.1 hb
    refine En.skip ?_
    refine En.seq ?_
    refine En.block ?_
    refine En.seq ?_
    refine En.region ?_
    refine WL.run ht hn 2 ⟨[(0, .sv (.one (LS intT l))), (1, .sv (.one (.rd (fvR (fun x => [.sv (.one (I x))]) (fun b => .sv (.one (B b))) dom φ)))), (5, .sv (.one (I x8))), (7, .sv (.one (I (l.length : Int)))), (8, .sv (.one (I x8)))], []⟩ (by kernel_rfl) ?_
    refine WL.nil ?_
    refine En.seq ?_
    refine En.region ?_
    refine WL.run ht hn 3 ⟨[(0, .sv (.one (LS intT l))), (1, .sv (.one (.rd (fvR (fun x => [.sv (.one (I x))]) (fun b => .sv (.one (B b))) dom φ)))), (5, .sv (.one (I x8))), (7, .sv (.one (I (l.length : Int)))), (8, .sv (.one (I x8))), (11, .sv (.one (.rd (fvR (fun x => [.sv (.one (I x))]) (fun b => .sv (.one (B b))) dom φ)))), (12, .sv (.one (LS intT l))), (13, .sv (.one (I x8)))], []⟩ (by kernel_rfl) ?_
    obtain ⟨e, he, h⟩ := h
    refine WL.val hn (by rfl) (val_index (T := intT) (l := l) (i := x8) ht rfl (by rfl) (by rfl) (by rfl) (by rfl) (by rfl) (by rfl) he) (by rfl) ?_
    refine WL.val hn (by rfl) (val_load (s := .one (I e)) ht rfl (by rfl) (by rfl) (by rfl) (by rfl) (by rfl)) (by rfl) ?_
    have hp := h.1
    replace h := h.2
    refine WL.mt0 (K := []) (p := none) hn (by rfl) (mt_callv e hp rfl (by rfl) (by rfl) (by rfl) (by rfl)) (by rfl) (by rfl) (by rfl) ?_
    refine WL.nil ?_
    refine En.cond (b := (φ e)) (by kernel_rfl) (fun hb => ?_) (fun hb => ?_)
    · replace h := h.1 hb
      refine En.seq ?_
      refine En.region ?_
      refine WL.run ht hn 2 ⟨[(4, .sv (.one (I x8)))], []⟩ (by kernel_rfl) ?_
      refine WL.nil ?_
      refine En.ret ?_
      exact En.back ht x8 h (by kernel_rfl) rfl
    · replace h := h.2 hb
      refine En.skip ?_
      refine En.region ?_
      refine WL.run ht hn 2 ⟨[(0, .sv (.one (LS intT l))), (1, .sv (.one (.rd (fvR (fun x => [.sv (.one (I x))]) (fun b => .sv (.one (B b))) dom φ)))), (7, .sv (.one (I (l.length : Int)))), (8, .sv (.one (I (wr (x8 + 1)))))], []⟩ (by kernel_rfl) ?_
      refine WL.nil ?_
      exact En.at (I := fun zz => Inv zz ∧ mu zz < mu x8) (T := fun zz => ⟨[(0, .sv (.one (LS intT l))), (1, .sv (.one (.rd (fvR (fun x => [.sv (.one (I x))]) (fun b => .sv (.one (B b))) dom φ)))), (7, .sv (.one (I (l.length : Int)))), (8, .sv (.one (I zz)))], []⟩) (wr (x8 + 1)) h (by kernel_rfl)
  · replace h := h.2 hb
    refine En.exit rfl ?_
    refine En.seq ?_
    refine En.region ?_
    refine WL.run ht hn 1 ⟨[(4, .sv (.one (I (-1))))], []⟩ (by kernel_rfl) ?_
    refine WL.nil ?_
    refine En.ret ?_
    exact En.back ht (-1) h (by kernel_rfl) rfl
theorem en138 : ∀ args w, (callFunc 138 args).run Try.prog w = .ok (.enter 138 args) w := enters_of Try.func138 (by kernel_rfl) rfl
theorem indexInt_ct (l : List Int) (dom : Int → Prop) (φ : Int → Bool) (hd : ∀ x ∈ l, dom x) : Ct 138 [.sv (.one (LS intT l)), .sv (.one (.rd (fvR (fun x => [.sv (.one (I x))]) (fun b => .sv (.one (B b))) dom φ)))] [] (fun (_ : Unit) => True) (fun _ => .sv (.one (I (idxTo φ l)))) := by
  refine (indexInt_walk l dom φ (fun r => r = idxTo φ l) ?_).fun
  unfold indexInt_vc
  exact index_plain l dom φ hd
def anyInt_vc (l : (List Int)) (dom : (Int → Prop)) (φ : (Int → Bool)) (Q : Bool → Prop) : Prop :=
  l.length ≤ 9223372036854775807 →
  ((∀ x_ ∈ l, dom x_) ∧
  Q (decide ((idxTo φ l) ≥ 0)))
theorem anyInt_walk (l : (List Int)) (dom : (Int → Prop)) (φ : (Int → Bool)) (Q : Bool → Prop) (h : anyInt_vc l dom φ Q) : Ct 77 [.sv (.one (LS intT l)), .sv (.one (.rd (fvR (fun x => [.sv (.one (I x))]) (fun b => .sv (.one (B b))) dom φ)))] [] Q (fun (r : Bool) => .sv (.one (B r))) := by
  have ht := tab_ok
  refine Ct.body Try.func77 rfl rfl rfl rfl (fun c hn => ?_)
  unfold anyInt_vc at h
  refine En.lenL 0 (by rfl) (fun hl => ?_)
  replace h := h hl
  clear hl
  refine En.seq ?_
  refine En.region ?_
  refine WL.run ht hn 1 ⟨[(0, .sv (.one (LS intT l))), (1, .sv (.one (.rd (fvR (fun x => [.sv (.one (I x))]) (fun b => .sv (.one (B b))) dom φ))))], []⟩ (by kernel_rfl) ?_
  refine WL.nil ?_
  refine En.seq ?_
  refine En.region ?_
  refine WL.run ht hn 2 ⟨[(5, .sv (.one (LS intT l))), (6, .sv (.one (.rd (fvR (fun x => [.sv (.one (I x))]) (fun b => .sv (.one (B b))) dom φ))))], []⟩ (by kernel_rfl) ?_
  have hp := h.1
  replace h := h.2
  refine WL.mt0 (K := []) (p := none) hn (by rfl) (mt_call (indexInt_ct l dom φ hp) en138 (caps := []) [] rfl (by rfl) (by kernel_rfl) (by kernel_rfl) (by rfl) (by rfl) (by rfl)) (by rfl) (by rfl) (by rfl) ?_
  refine WL.run ht hn 2 ⟨[(4, .sv (.one (B (decide ((idxTo φ l) ≥ 0)))))], []⟩ (by kernel_rfl) ?_
  refine WL.nil ?_
  refine En.ret ?_
  exact En.back ht (decide ((idxTo φ l) ≥ 0)) h (by kernel_rfl) rfl
theorem en77 : ∀ args w, (callFunc 77 args).run Try.prog w = .ok (.enter 77 args) w := enters_of Try.func77 (by kernel_rfl) rfl
theorem anyInt_ct (l : List Int) (dom : Int → Prop) (φ : Int → Bool) (hd : ∀ x ∈ l, dom x) : Ct 77 [.sv (.one (LS intT l)), .sv (.one (.rd (fvR (fun x => [.sv (.one (I x))]) (fun b => .sv (.one (B b))) dom φ)))] [] (fun (_ : Unit) => True) (fun _ => .sv (.one (B (l.any φ)))) := by
  refine (anyInt_walk l dom φ (fun r => r = l.any φ) ?_).fun
  unfold anyInt_vc
  exact fun _ => ⟨hd, by rw [← idxTo_nonneg φ l]⟩
def equalI_vc (a : (List Int)) (b : (List Int)) (Q : Bool → Prop) : Prop :=
  a.length ≤ 9223372036854775807 →
  b.length ≤ 9223372036854775807 →
  (IfP ((a.length : Int) != (b.length : Int)) (Q false) (∃ (Inv : Int → Prop) (mu : Int → Nat), Inv 0 ∧
  ∀ (x13 : Int) , Inv x13 → (IfP (decide (x13 < (a.length : Int))) (∃ e, idx a x13 = some e ∧
  ∃ e_2, idx b x13 = some e_2 ∧
  IfP (e != e_2) (Q false) ((Inv (wr (x13 + 1)) ∧ mu (wr (x13 + 1)) < mu x13))) (Q true))))
theorem equalI_walk (a : (List Int)) (b : (List Int)) (Q : Bool → Prop) (h : equalI_vc a b Q) : Ct 60 [.sv (.one (LS intT a)), .sv (.one (LS intT b))] [] Q (fun (r : Bool) => .sv (.one (B r))) := by
  have ht := tab_ok
  refine Ct.body Try.func60 rfl rfl rfl rfl (fun c hn => ?_)
  unfold equalI_vc at h
  refine En.lenL 0 (by rfl) (fun hl => ?_)
  replace h := h hl
  clear hl
  refine En.lenL 1 (by rfl) (fun hl => ?_)
  replace h := h hl
  clear hl
  refine En.seq ?_
  refine En.region ?_
  refine WL.run ht hn 1 ⟨[(0, .sv (.one (LS intT a))), (1, .sv (.one (LS intT b)))], []⟩ (by kernel_rfl) ?_
  refine WL.nil ?_
  refine En.seq ?_
  refine En.seq ?_
  refine En.region ?_
  refine WL.run ht hn 5 ⟨[(0, .sv (.one (LS intT a))), (1, .sv (.one (LS intT b))), (10, .sv (.one (B ((a.length : Int) != (b.length : Int)))))], []⟩ (by kernel_rfl) ?_
  refine WL.nil ?_
  refine En.cond (b := ((a.length : Int) != (b.length : Int))) (by kernel_rfl) (fun hb => ?_) (fun hb => ?_)
  · replace h := h.1 hb
    refine En.seq ?_
    refine En.region ?_
    refine WL.run ht hn 1 ⟨[(4, .sv (.one (B false)))], []⟩ (by kernel_rfl) ?_
    refine WL.nil ?_
    refine En.ret ?_
    exact En.back ht false h (by kernel_rfl) rfl
  · replace h := h.2 hb
    refine En.skip ?_
    refine En.seq ?_
    refine En.seq ?_
    refine En.region ?_
    refine WL.run ht hn 3 ⟨[(0, .sv (.one (LS intT a))), (1, .sv (.one (LS intT b))), (12, .sv (.one (I (a.length : Int)))), (13, .sv (.one (I 0)))], []⟩ (by kernel_rfl) ?_
    refine WL.nil ?_
    refine En.block ?_
    obtain ⟨Inv, mu, h0, hI⟩ := h
    refine En.loop (σ := Int) (fun zz => Inv zz) (fun zz => mu zz) (fun zz => ⟨[(0, .sv (.one (LS intT a))), (1, .sv (.one (LS intT b))), (12, .sv (.one (I (a.length : Int)))), (13, .sv (.one (I zz)))], []⟩) 0 h0 (sub_ok (by kernel_rfl)) ?_
    intro x13 h
    replace h := hI _ h
    show En c ⟨[(0, .sv (.one (LS intT a))), (1, .sv (.one (LS intT b))), (12, .sv (.one (I (a.length : Int)))), (13, .sv (.one (I x13)))], []⟩ _
    refine En.seq ?_
    refine En.region ?_
    refine WL.run ht hn 1 ⟨[(0, .sv (.one (LS intT a))), (1, .sv (.one (LS intT b))), (12, .sv (.one (I (a.length : Int)))), (13, .sv (.one (I x13))), (14, .sv (.one (B (decide (x13 < (a.length : Int))))))], []⟩ (by kernel_rfl) ?_
    refine WL.nil ?_
    refine En.seq ?_
    refine En.cond (b := (decide (x13 < (a.length : Int)))) (by kernel_rfl) (fun hb => ?_) (fun hb => ?_)
    · replace h := h.1 hb
      refine En.skip ?_
      refine En.seq ?_
      refine En.block ?_
      refine En.seq ?_
      refine En.region ?_
      refine WL.run ht hn 2 ⟨[(0, .sv (.one (LS intT a))), (1, .sv (.one (LS intT b))), (5, .sv (.one (I x13))), (12, .sv (.one (I (a.length : Int)))), (13, .sv (.one (I x13)))], []⟩ (by kernel_rfl) ?_
      refine WL.nil ?_
      refine En.seq ?_
      refine En.regionS (by kernel_rfl) (by kernel_rfl) ?_
      refine SL.run ht hn 2 ⟨[(0, .sv (.one (LS intT a))), (1, .sv (.one (LS intT b))), (5, .sv (.one (I x13))), (12, .sv (.one (I (a.length : Int)))), (13, .sv (.one (I x13))), (16, .sv (.one (LS intT a))), (17, .sv (.one (I x13)))], []⟩ (by kernel_rfl) ?_
      obtain ⟨e, he, h⟩ := h
      refine SL.val hn (by rfl) (val_index (T := intT) (l := a) (i := x13) ht rfl (by rfl) (by rfl) (by rfl) (by rfl) (by rfl) (by rfl) he) (by rfl) ?_
      refine SL.val hn (by rfl) (val_load (s := .one (I e)) ht rfl (by rfl) (by rfl) (by rfl) (by rfl) (by rfl)) (by rfl) ?_
      refine SL.run ht hn 2 ⟨[(0, .sv (.one (LS intT a))), (1, .sv (.one (LS intT b))), (5, .sv (.one (I x13))), (12, .sv (.one (I (a.length : Int)))), (13, .sv (.one (I x13))), (16, .sv (.one (LS intT a))), (17, .sv (.one (I x13))), (18, .sv (.one (.pe (svR (.one (I e))) 1))), (19, .sv (.one (I e))), (20, .sv (.one (LS intT b))), (21, .sv (.one (I x13)))], []⟩ (by kernel_rfl) ?_
      obtain ⟨e_2, he_2, h⟩ := h
      refine SL.val hn (by rfl) (val_index (T := intT) (l := b) (i := x13) ht rfl (by rfl) (by rfl) (by rfl) (by rfl) (by rfl) (by rfl) he_2) (by rfl) ?_
      refine SL.val hn (by rfl) (val_load (s := .one (I e_2)) ht rfl (by rfl) (by rfl) (by rfl) (by rfl) (by rfl)) (by rfl) ?_
      refine SL.run ht hn 1 ⟨[(0, .sv (.one (LS intT a))), (1, .sv (.one (LS intT b))), (5, .sv (.one (I x13))), (12, .sv (.one (I (a.length : Int)))), (13, .sv (.one (I x13))), (16, .sv (.one (LS intT a))), (17, .sv (.one (I x13))), (18, .sv (.one (.pe (svR (.one (I e))) 1))), (19, .sv (.one (I e))), (20, .sv (.one (LS intT b))), (21, .sv (.one (I x13))), (22, .sv (.one (.pe (svR (.one (I e_2))) 1))), (23, .sv (.one (I e_2))), (24, .sv (.one (B (e != e_2))))], []⟩ (by kernel_rfl) ?_
      refine SL.nil ⟨by kernel_rfl, ?_⟩
      refine En.cond (b := (e != e_2)) (by kernel_rfl) (fun hb => ?_) (fun hb => ?_)
      · replace h := h.1 hb
        refine En.seq ?_
        refine En.region ?_
        refine WL.run ht hn 1 ⟨[(4, .sv (.one (B false)))], []⟩ (by kernel_rfl) ?_
        refine WL.nil ?_
        refine En.ret ?_
        exact En.back ht false h (by kernel_rfl) rfl
      · replace h := h.2 hb
        refine En.skip ?_
        refine En.region ?_
        refine WL.run ht hn 2 ⟨[(0, .sv (.one (LS intT a))), (1, .sv (.one (LS intT b))), (12, .sv (.one (I (a.length : Int)))), (13, .sv (.one (I (wr (x13 + 1)))))], []⟩ (by kernel_rfl) ?_
        refine WL.nil ?_
        exact En.at (I := fun zz => Inv zz ∧ mu zz < mu x13) (T := fun zz => ⟨[(0, .sv (.one (LS intT a))), (1, .sv (.one (LS intT b))), (12, .sv (.one (I (a.length : Int)))), (13, .sv (.one (I zz)))], []⟩) (wr (x13 + 1)) h (by kernel_rfl)
    · replace h := h.2 hb
      refine En.exit rfl ?_
      refine En.seq ?_
      refine En.region ?_
      refine WL.run ht hn 1 ⟨[(4, .sv (.one (B true)))], []⟩ (by kernel_rfl) ?_
      refine WL.nil ?_
      refine En.ret ?_
      exact En.back ht true h (by kernel_rfl) rfl
theorem en60 : ∀ args w, (callFunc 60 args).run Try.prog w = .ok (.enter 60 args) w := enters_of Try.func60 (by kernel_rfl) rfl
theorem equalI_ct (a : (List Int)) (b : (List Int))  : Ct 60 [.sv (.one (LS intT a)), .sv (.one (LS intT b))] [] (fun (_ : Unit) => True) (fun _ => .sv (.one (B (decide (a = b))))) := by
  refine (equalI_walk a b (fun res_ => res_ = (decide (a = b))) ?_).fun
  intro ha hb
  refine ⟨fun h => ?_, fun h => ?_⟩
  · show false = decide (a = b)
    rw [eq_comm, decide_eq_false_iff_not]
    rintro rfl
    simp at h
  have hl : a.length = b.length := by have := h; simp only [bne_eq_false_iff_eq] at this; omega
  refine ⟨fun i => ∃ k : Nat, i = k ∧ k ≤ a.length ∧ a.take k = b.take k, fun i => a.length - i.toNat, ⟨0, rfl, Nat.zero_le _, by simp⟩, ?_⟩
  rintro i ⟨k, rfl, hk, ht⟩
  refine ⟨fun hb1 => ?_, fun hb1 => ?_⟩
  · have hlt := dlt hb1
    have hlt2 : k < b.length := by omega
    refine ⟨_, idx_at hlt, _, idx_at hlt2, fun hne => ?_, fun he => ⟨⟨k + 1, wsucc (by omega), hlt, ?_⟩, mu_up hlt (by omega)⟩⟩
    · show false = decide (a = b)
      rw [eq_comm, decide_eq_false_iff_not]
      rintro rfl
      simp at hne
    · have he : a[k] = b[k] := by simpa using he
      rw [List.take_add_one, List.take_add_one, ht, List.getElem?_eq_getElem hlt, List.getElem?_eq_getElem hlt2, he]
  · have hge := dge hb1
    rw [List.take_of_length_le hge, List.take_of_length_le (by omega)] at ht
    show true = decide (a = b)
    rw [ht]
    simp
def detKey_vc (l : (List Int)) (Q : ByteArray → Prop) : Prop :=
  l.length ≤ 9223372036854775807 →
  (∃ (Inv : Int → (List Int) → Prop) (mu : Int → (List Int) → Nat), Inv 0 ([] : (List Int)) ∧
  ∀ (x8 : Int) (l1 : (List Int)) , Inv x8 l1 → (IfP (decide (x8 < (l.length : Int))) (∃ e, idx l x8 = some e ∧
  capOk l1.length (([(IntKind.wrap .u8 e), (IntKind.wrap .u8 (Int.fdiv e (2 ^ (min 8 64))))] : (List Int)) : (List Int)).length 1 ∧
  (Inv (wr (x8 + 1)) (l1 ++ ([(IntKind.wrap .u8 e), (IntKind.wrap .u8 (Int.fdiv e (2 ^ (min 8 64))))] : (List Int))) ∧ mu (wr (x8 + 1)) (l1 ++ ([(IntKind.wrap .u8 e), (IntKind.wrap .u8 (Int.fdiv e (2 ^ (min 8 64))))] : (List Int))) < mu x8 l1)) (Q (bytesOf l1))))
theorem detKey_walk (l : (List Int)) (Q : ByteArray → Prop) (h : detKey_vc l Q) : Ct 76 [.sv (.one (LS intT l))] [] Q (fun (r : ByteArray) => .sv (.one (.v (.string r)))) := by
  have ht := tab_ok
  refine Ct.body Try.func76 rfl rfl rfl rfl (fun c hn => ?_)
  unfold detKey_vc at h
  refine En.lenL 0 (by rfl) (fun hl => ?_)
  replace h := h hl
  clear hl
  refine En.seq ?_
  refine En.region ?_
  refine WL.run ht hn 1 ⟨[(0, .sv (.one (LS intT l)))], []⟩ (by kernel_rfl) ?_
  refine WL.nil ?_
  refine En.seq ?_
  refine En.region ?_
  refine WL.run ht hn 1 ⟨[(0, .sv (.one (LS intT l))), (3, .sv (.one (.v (.slice none 0 0))))], []⟩ (by kernel_rfl) ?_
  refine WL.nil ?_
  refine En.seq ?_
  refine En.seq ?_
  refine En.region ?_
  refine WL.run ht hn 3 ⟨[(3, .sv (.one (.v (.slice none 0 0)))), (6, .sv (.one (LS intT l))), (7, .sv (.one (I (l.length : Int)))), (8, .sv (.one (I 0)))], []⟩ (by kernel_rfl) ?_
  refine WL.nil ?_
  refine En.block ?_
  refine En.rowNil 3 1 5 (intKT .u8) (by rfl) (by rfl) ?_
  obtain ⟨Inv, mu, h0, hI⟩ := h
  refine En.loop (σ := Int × (List Int)) (fun zz => Inv zz.1 zz.2) (fun zz => mu zz.1 zz.2) (fun zz => ⟨[(3, .sv (.one (.own 1))), (6, .sv (.one (LS intT l))), (7, .sv (.one (I (l.length : Int)))), (8, .sv (.one (I zz.1)))], [.gone, rowI 5 (intKT .u8) zz.2]⟩) (0, ([] : (List Int))) h0 (sub_ok (by kernel_rfl)) ?_
  rintro ⟨x8, l1⟩ h
  replace h := hI _ _ h
  show En c ⟨[(3, .sv (.one (.own 1))), (6, .sv (.one (LS intT l))), (7, .sv (.one (I (l.length : Int)))), (8, .sv (.one (I x8)))], [.gone, rowI 5 (intKT .u8) l1]⟩ _
  refine En.seq ?_
  refine En.region ?_
  refine WL.run ht hn 1 ⟨[(3, .sv (.one (.own 1))), (6, .sv (.one (LS intT l))), (7, .sv (.one (I (l.length : Int)))), (8, .sv (.one (I x8))), (9, .sv (.one (B (decide (x8 < (l.length : Int))))))], [.gone, rowI 5 (intKT .u8) l1]⟩ (by kernel_rfl) ?_
  refine WL.nil ?_
  refine En.seq ?_
  refine En.cond (b := (decide (x8 < (l.length : Int)))) (by kernel_rfl) (fun hb => ?_) (fun hb => ?_)
  · replace h := h.1 hb
    refine En.skip ?_
    refine En.seq ?_
    refine En.block ?_
    refine En.seq ?_
    refine En.region ?_
    obtain ⟨e, he, h⟩ := h
    refine WL.val hn (by rfl) (val_index (T := intT) (l := l) (i := x8) ht rfl (by rfl) (by rfl) (by rfl) (by rfl) (by rfl) (by rfl) he) (by rfl) ?_
    refine WL.val hn (by rfl) (val_load (s := .one (I e)) ht rfl (by rfl) (by rfl) (by rfl) (by rfl) (by rfl)) (by rfl) ?_
    refine WL.run ht hn 1 ⟨[(3, .sv (.one (.own 1))), (5, .sv (.one (I e))), (6, .sv (.one (LS intT l))), (7, .sv (.one (I (l.length : Int)))), (8, .sv (.one (I x8)))], [.gone, rowI 5 (intKT .u8) l1]⟩ (by kernel_rfl) ?_
    refine WL.nil ?_
    refine En.region ?_
    refine WL.run ht hn 6 ⟨[(6, .sv (.one (LS intT l))), (7, .sv (.one (I (l.length : Int)))), (8, .sv (.one (I x8))), (12, .sv (.one (.own 1))), (14, .sv (.one (.v (.int .u8 (IntKind.wrap .u8 e))))), (17, .sv (.one (.v (.int .u8 (IntKind.wrap .u8 (Int.fdiv e (2 ^ (min 8 64))))))))], [.gone, rowI 5 (intKT .u8) l1]⟩ (by kernel_rfl) ?_
    refine WL.mt0 (K := []) (p := some (2, rowI 5 (intKT .u8) ([(IntKind.wrap .u8 e), (IntKind.wrap .u8 (Int.fdiv e (2 ^ (min 8 64))))] : (List Int)))) hn (by rfl) (mt_lit (T := (intKT .u8)) ([(IntKind.wrap .u8 e), (IntKind.wrap .u8 (Int.fdiv e (2 ^ (min 8 64))))] : (List Int)) (mt_bsl 2 (r := cellsOf (intKT .u8) ([(IntKind.wrap .u8 e), (IntKind.wrap .u8 (Int.fdiv e (2 ^ (min 8 64))))] : (List Int))) ht rfl (by rfl) (by rfl) (by rfl) (by kernel_rfl) (by rfl)) (fun _ h => by cases h) (fun _ => rfl) (fun _ => rfl) (by rfl) (Nat.le_of_ble_eq_true rfl)) (by rfl) (by rfl) (by rfl) ?_
    refine WL.seal (T := (intKT .u8)) (l := ([(IntKind.wrap .u8 e), (IntKind.wrap .u8 (Int.fdiv e (2 ^ (min 8 64))))] : (List Int))) (e := 5) 2 rfl ?_
    refine WL.run ht hn 0 ⟨[(6, .sv (.one (LS intT l))), (7, .sv (.one (I (l.length : Int)))), (8, .sv (.one (I x8))), (12, .sv (.one (.own 1))), (14, .sv (.one (.v (.int .u8 (IntKind.wrap .u8 e))))), (17, .sv (.one (.v (.int .u8 (IntKind.wrap .u8 (Int.fdiv e (2 ^ (min 8 64)))))))), (18, .sv (.one (LS (intKT .u8) ([(IntKind.wrap .u8 e), (IntKind.wrap .u8 (Int.fdiv e (2 ^ (min 8 64))))] : (List Int)))))], [.gone, rowI 5 (intKT .u8) l1, .gone]⟩ (by kernel_rfl) ?_
    have hp := h.1
    replace h := h.2
    refine WL.mt (S2 := ⟨[(6, .sv (.one (LS intT l))), (7, .sv (.one (I (l.length : Int)))), (8, .sv (.one (I x8))), (14, .sv (.one (.v (.int .u8 (IntKind.wrap .u8 e))))), (17, .sv (.one (.v (.int .u8 (IntKind.wrap .u8 (Int.fdiv e (2 ^ (min 8 64)))))))), (18, .sv (.one (LS (intKT .u8) ([(IntKind.wrap .u8 e), (IntKind.wrap .u8 (Int.fdiv e (2 ^ (min 8 64))))] : (List Int)))))], [.gone, rowI 5 (intKT .u8) l1, .gone]⟩) (K := [1]) (p := some (1, rowI 5 (intKT .u8) (l1 ++ ([(IntKind.wrap .u8 e), (IntKind.wrap .u8 (Int.fdiv e (2 ^ (min 8 64))))] : (List Int))))) hn (by rfl) (mt_append (T := (intKT .u8)) (l := l1) (es := ([(IntKind.wrap .u8 e), (IntKind.wrap .u8 (Int.fdiv e (2 ^ (min 8 64))))] : (List Int))) ht rfl (by rfl) (by rfl) (by rfl) (by rfl) (by decide) (by rfl) (by rfl) (srcLS (T := (intKT .u8)) (es := ([(IntKind.wrap .u8 e), (IntKind.wrap .u8 (Int.fdiv e (2 ^ (min 8 64))))] : (List Int))) (fun _ h => by cases h) (by decide) (by rfl)) (by exact hp) (by exact hp.le (by decide))) (by kernel_rfl) (by rfl) (by rfl) (by rfl) ?_
    refine WL.run ht hn 1 ⟨[(3, .sv (.one (.own 1))), (6, .sv (.one (LS intT l))), (7, .sv (.one (I (l.length : Int)))), (8, .sv (.one (I x8)))], [.gone, rowI 5 (intKT .u8) (l1 ++ ([(IntKind.wrap .u8 e), (IntKind.wrap .u8 (Int.fdiv e (2 ^ (min 8 64))))] : (List Int))), .gone]⟩ (by kernel_rfl) ?_
    refine WL.nil ?_
    refine En.region ?_
    refine WL.run ht hn 2 ⟨[(3, .sv (.one (.own 1))), (6, .sv (.one (LS intT l))), (7, .sv (.one (I (l.length : Int)))), (8, .sv (.one (I (wr (x8 + 1)))))], [.gone, rowI 5 (intKT .u8) (l1 ++ ([(IntKind.wrap .u8 e), (IntKind.wrap .u8 (Int.fdiv e (2 ^ (min 8 64))))] : (List Int))), .gone]⟩ (by kernel_rfl) ?_
    refine WL.nil ?_
    exact En.at (I := fun zz => Inv zz.1 zz.2 ∧ mu zz.1 zz.2 < mu x8 l1) (T := fun zz => ⟨[(3, .sv (.one (.own 1))), (6, .sv (.one (LS intT l))), (7, .sv (.one (I (l.length : Int)))), (8, .sv (.one (I zz.1)))], [.gone, rowI 5 (intKT .u8) zz.2]⟩) ((wr (x8 + 1)), (l1 ++ ([(IntKind.wrap .u8 e), (IntKind.wrap .u8 (Int.fdiv e (2 ^ (min 8 64))))] : (List Int)))) h (by kernel_rfl)
  · replace h := h.2 hb
    refine En.exit rfl ?_
    refine En.seq ?_
    refine En.region ?_
    refine WL.run ht hn 1 ⟨[(21, .sv (.one (.own 1)))], [.gone, rowI 5 (intKT .u8) l1]⟩ (by kernel_rfl) ?_
    refine WL.val hn (by rfl) (val_str rfl Try.underlying193 Try.underlying5 Try.underlying9 (srcOwn (T := intKT .u8) (es := l1) (fun _ h => by cases h) (by rfl) (by rfl))) (by rfl) ?_
    refine WL.run ht hn 1 ⟨[(2, .sv (.one (.v (.string (bytesOf l1)))))], [.gone, .gone]⟩ (by kernel_rfl) ?_
    refine WL.nil ?_
    refine En.ret ?_
    exact En.back ht (bytesOf l1) h (by kernel_rfl) rfl
theorem en76 : ∀ args w, (callFunc 76 args).run Try.prog w = .ok (.enter 76 args) w := enters_of Try.func76 (by kernel_rfl) rfl
def keyB (e : Int) : List Int := [IntKind.wrap .u8 e, IntKind.wrap .u8 (Int.fdiv e (2 ^ (min 8 64)))]
def keyR (l : List Int) : ByteArray := bytesOf (l.flatMap keyB)
theorem key_len : ∀ l : List Int, (l.flatMap keyB).length = 2 * l.length
  | [] => rfl
  | e :: l => by
    rw [List.flatMap_cons, List.length_append, key_len l, List.length_cons]
    show 2 + _ = _
    omega
theorem detKey_ct (l : (List Int)) (hp : l.length ≤ 1000)  : Ct 76 [.sv (.one (LS intT l))] [] (fun (_ : Unit) => True) (fun _ => .sv (.one (.v (.string (keyR l))))) := by
  refine (detKey_walk l (fun res_ => res_ = (keyR l)) ?_).fun
  intro _
  refine ⟨fun i r => ∃ k : Nat, i = k ∧ k ≤ l.length ∧ r = (l.take k).flatMap keyB, fun i _ => l.length - i.toNat, ⟨0, rfl, Nat.zero_le _, by simp⟩, ?_⟩
  rintro i r ⟨k, rfl, hk, rfl⟩
  refine ⟨fun hb => ?_, fun hb => ?_⟩
  · have hlt := dlt hb
    refine ⟨_, idx_at hlt, capOk_of ?_, ⟨k + 1, wsucc (by omega), hlt, ?_⟩, mu_up hlt (by omega)⟩
    · rw [key_len, List.length_take]
      simp only [List.length_cons, List.length_nil]
      omega
    · rw [List.take_add_one, List.flatMap_append, List.getElem?_eq_getElem hlt]
      simp [keyB]
  · rw [List.take_of_length_le (dge hb)]
    rfl
def codC1_vc (a : Int) (n : Int) (Q : Bool → Prop) : Prop :=
  Q ((decide (a < 0)) || (decide (a ≥ n)))
theorem codC1_walk (a : Int) (n : Int) (Q : Bool → Prop) (h : codC1_vc a n Q) : Ct 137 [.sv (.one (I a)), .sv (.one (.ptr 0 0))] [.box [I n] 3 true] Q (fun (r : Bool) => .sv (.one (B r))) := by
  have ht := tab_ok
  refine Ct.body Try.func137 rfl rfl rfl rfl (fun c hn => ?_)
  unfold codC1_vc at h
  refine En.seq ?_
  refine En.region ?_
  refine WL.run ht hn 1 ⟨[(0, .sv (.one (I a))), (1, .sv (.one (.ptr 0 0)))], [.box [I n] 3 true]⟩ (by kernel_rfl) ?_
  refine WL.nil ?_
  refine En.seq ?_
  refine En.region ?_
  refine WL.run ht hn 3 ⟨[(0, .sv (.one (I a))), (1, .sv (.one (.ptr 0 0))), (6, .sv (.one (B (decide (a < 0)))))], [.box [I n] 3 true]⟩ (by kernel_rfl) ?_
  refine WL.thru ⟨[(3, .sv (.one (B ((decide (a < 0)) || (decide (a ≥ n))))))], [.gone]⟩ ?_ ?_
  · refine splitB (decide (a < 0)) (fun hb0 => ?_) (fun hb0 => ?_)
    · refine WL.setB 6 hb0 (by kernel_rfl) ?_
      refine WL.run ht hn 5 ⟨[(3, .sv (.one (B true)))], [.gone]⟩ (by kernel_rfl) ?_
      exact WL.nil (sub_ok (by simp only [hb0]; kernel_rfl))
    · refine WL.setB 6 hb0 (by kernel_rfl) ?_
      refine WL.run ht hn 5 ⟨[(3, .sv (.one (B (decide (a ≥ n)))))], [.gone]⟩ (by kernel_rfl) ?_
      exact WL.nil (sub_ok (by simp only [hb0]; kernel_rfl))
  · refine En.ret ?_
    exact En.back ht ((decide (a < 0)) || (decide (a ≥ n))) h (by kernel_rfl) rfl
theorem en137 : ∀ args w, (callFunc 137 args).run Try.prog w = .ok (.enter 137 args) w := enters_of Try.func137 (by kernel_rfl) rfl
def codOff (n a : Int) : Bool := (decide (a < 0)) || (decide (a ≥ n))
theorem codC1_ct (a : Int) (n : Int)  : Ct 137 [.sv (.one (I a)), .sv (.one (.ptr 0 0))] [.box [I n] 3 true] (fun (_ : Unit) => True) (fun _ => .sv (.one (B (codOff n a)))) := by
  refine (codC1_walk a n (fun res_ => res_ = (codOff n a)) ?_).fun
  rfl
def codCheck_vc (n : Int) (l : (List (List Int))) (Q : Int → Prop) : Prop :=
  l.length ≤ 9223372036854775807 →
  (IfP ((decide (n < 1)) || (decide (n > 4))) (Q 2) (IfP ((decide ((l.length : Int) < 1)) || (decide ((l.length : Int) > 10))) (Q 1) (∃ (Inv : Int → Prop) (mu : Int → Nat), Inv 0 ∧
  ∀ (x23 : Int) , Inv x23 → (IfP (decide (x23 < (l.length : Int))) (∃ e, idx l x23 = some e ∧
  IfP ((decide ((e.length : Int) < 1)) || (decide ((e.length : Int) > 10))) (Q 1) ((∀ x_ ∈ e, (fun _ => True) x_) ∧
  IfP (e.any (codOff n)) (Q 2) ((Inv (wr (x23 + 1)) ∧ mu (wr (x23 + 1)) < mu x23)))) (Q 0)))))
theorem codCheck_walk (n : Int) (l : (List (List Int))) (Q : Int → Prop) (h : codCheck_vc n l Q) : Ct 74 [.sv (.one (I n)), .sv (.one (LS (lsT intT) l))] [] Q (fun (r : Int) => .sv (.one (I r))) := by
  have ht := tab_ok
  refine Ct.body Try.func74 rfl rfl rfl rfl (fun c hn => ?_)
  unfold codCheck_vc at h
  refine En.lenL 1 (by rfl) (fun hl => ?_)
  replace h := h hl
  clear hl
  refine En.seq ?_
  refine En.region ?_
  refine WL.run ht hn 2 ⟨[(1, .sv (.one (LS (lsT intT) l))), (2, .sv (.one (.ptr 0 0)))], [.box [I n] 3 false]⟩ (by kernel_rfl) ?_
  refine WL.nil ?_
  refine En.seq ?_
  refine En.seq ?_
  refine En.region ?_
  refine WL.run ht hn 3 ⟨[(1, .sv (.one (LS (lsT intT) l))), (2, .sv (.one (.ptr 0 0))), (9, .sv (.one (B (decide (n < 1)))))], [.box [I n] 3 false]⟩ (by kernel_rfl) ?_
  refine WL.thru ⟨[(1, .sv (.one (LS (lsT intT) l))), (2, .sv (.one (.ptr 0 0))), (12, .sv (.one (B ((decide (n < 1)) || (decide (n > 4))))))], [.box [I n] 3 false]⟩ ?_ ?_
  · refine splitB (decide (n < 1)) (fun hb0 => ?_) (fun hb0 => ?_)
    · refine WL.setB 9 hb0 (by kernel_rfl) ?_
      refine WL.run ht hn 3 ⟨[(1, .sv (.one (LS (lsT intT) l))), (2, .sv (.one (.ptr 0 0))), (12, .sv (.one (B true)))], [.box [I n] 3 false]⟩ (by kernel_rfl) ?_
      exact WL.nil (sub_ok (by simp only [hb0]; kernel_rfl))
    · refine WL.setB 9 hb0 (by kernel_rfl) ?_
      refine WL.run ht hn 3 ⟨[(1, .sv (.one (LS (lsT intT) l))), (2, .sv (.one (.ptr 0 0))), (12, .sv (.one (B (decide (n > 4)))))], [.box [I n] 3 false]⟩ (by kernel_rfl) ?_
      exact WL.nil (sub_ok (by simp only [hb0]; kernel_rfl))
  · refine En.cond (b := ((decide (n < 1)) || (decide (n > 4)))) (by kernel_rfl) (fun hb => ?_) (fun hb => ?_)
    · replace h := h.1 hb
      refine En.seq ?_
      refine En.region ?_
      refine WL.run ht hn 1 ⟨[(4, .sv (.one (I 2)))], [.gone]⟩ (by kernel_rfl) ?_
      refine WL.nil ?_
      refine En.ret ?_
      exact En.back ht 2 h (by kernel_rfl) rfl
    · replace h := h.2 hb
      refine En.skip ?_
      refine En.seq ?_
      refine En.seq ?_
      refine En.region ?_
      refine WL.run ht hn 4 ⟨[(1, .sv (.one (LS (lsT intT) l))), (2, .sv (.one (.ptr 0 0))), (16, .sv (.one (B (decide ((l.length : Int) < 1)))))], [.box [I n] 3 false]⟩ (by kernel_rfl) ?_
      refine WL.thru ⟨[(1, .sv (.one (LS (lsT intT) l))), (2, .sv (.one (.ptr 0 0))), (20, .sv (.one (B ((decide ((l.length : Int) < 1)) || (decide ((l.length : Int) > 10))))))], [.box [I n] 3 false]⟩ ?_ ?_
      · refine splitB (decide ((l.length : Int) < 1)) (fun hb0 => ?_) (fun hb0 => ?_)
        · refine WL.setB 16 hb0 (by kernel_rfl) ?_
          refine WL.run ht hn 4 ⟨[(1, .sv (.one (LS (lsT intT) l))), (2, .sv (.one (.ptr 0 0))), (20, .sv (.one (B true)))], [.box [I n] 3 false]⟩ (by kernel_rfl) ?_
          exact WL.nil (sub_ok (by simp only [hb0]; kernel_rfl))
        · refine WL.setB 16 hb0 (by kernel_rfl) ?_
          refine WL.run ht hn 4 ⟨[(1, .sv (.one (LS (lsT intT) l))), (2, .sv (.one (.ptr 0 0))), (20, .sv (.one (B (decide ((l.length : Int) > 10)))))], [.box [I n] 3 false]⟩ (by kernel_rfl) ?_
          exact WL.nil (sub_ok (by simp only [hb0]; kernel_rfl))
      · refine En.cond (b := ((decide ((l.length : Int) < 1)) || (decide ((l.length : Int) > 10)))) (by kernel_rfl) (fun hb => ?_) (fun hb => ?_)
        · replace h := h.1 hb
          refine En.seq ?_
          refine En.region ?_
          refine WL.run ht hn 1 ⟨[(4, .sv (.one (I 1)))], [.gone]⟩ (by kernel_rfl) ?_
          refine WL.nil ?_
          refine En.ret ?_
          exact En.back ht 1 h (by kernel_rfl) rfl
        · replace h := h.2 hb
          refine En.skip ?_
          refine En.seq ?_
          refine En.seq ?_
          refine En.region ?_
          refine WL.run ht hn 3 ⟨[(2, .sv (.one (.ptr 0 0))), (21, .sv (.one (LS (lsT intT) l))), (22, .sv (.one (I (l.length : Int)))), (23, .sv (.one (I 0)))], [.box [I n] 3 false]⟩ (by kernel_rfl) ?_
          refine WL.nil ?_
          refine En.block ?_
          obtain ⟨Inv, mu, h0, hI⟩ := h
          refine En.loop (σ := Int) (fun zz => Inv zz) (fun zz => mu zz) (fun zz => ⟨[(2, .sv (.one (.ptr 0 0))), (21, .sv (.one (LS (lsT intT) l))), (22, .sv (.one (I (l.length : Int)))), (23, .sv (.one (I zz)))], [.box [I n] 3 false]⟩) 0 h0 (sub_ok (by kernel_rfl)) ?_
          intro x23 h
          replace h := hI _ h
          show En c ⟨[(2, .sv (.one (.ptr 0 0))), (21, .sv (.one (LS (lsT intT) l))), (22, .sv (.one (I (l.length : Int)))), (23, .sv (.one (I x23)))], [.box [I n] 3 false]⟩ _
          refine En.seq ?_
          refine En.region ?_
          refine WL.run ht hn 1 ⟨[(2, .sv (.one (.ptr 0 0))), (21, .sv (.one (LS (lsT intT) l))), (22, .sv (.one (I (l.length : Int)))), (23, .sv (.one (I x23))), (24, .sv (.one (B (decide (x23 < (l.length : Int))))))], [.box [I n] 3 false]⟩ (by kernel_rfl) ?_
          refine WL.nil ?_
          refine En.seq ?_
          refine En.cond (b := (decide (x23 < (l.length : Int)))) (by kernel_rfl) (fun hb => ?_) (fun hb => ?_)
          · replace h := h.1 hb
            refine En.skip ?_
            refine En.seq ?_
            refine En.block ?_
            refine En.seq ?_
            refine En.region ?_
            obtain ⟨e, he, h⟩ := h
            refine WL.val hn (by rfl) (val_index (T := (lsT intT)) (l := l) (i := x23) ht rfl (by rfl) (by rfl) (by rfl) (by rfl) (by rfl) (by rfl) he) (by rfl) ?_
            refine WL.val hn (by rfl) (val_load (s := .one (LS intT e)) ht rfl (by rfl) (by rfl) (by rfl) (by rfl) (by rfl)) (by rfl) ?_
            refine WL.run ht hn 1 ⟨[(2, .sv (.one (.ptr 0 0))), (6, .sv (.one (LS intT e))), (21, .sv (.one (LS (lsT intT) l))), (22, .sv (.one (I (l.length : Int)))), (23, .sv (.one (I x23)))], [.box [I n] 3 false]⟩ (by kernel_rfl) ?_
            refine WL.nil ?_
            refine En.seq ?_
            refine En.seq ?_
            refine En.region ?_
            refine WL.run ht hn 4 ⟨[(2, .sv (.one (.ptr 0 0))), (6, .sv (.one (LS intT e))), (21, .sv (.one (LS (lsT intT) l))), (22, .sv (.one (I (l.length : Int)))), (23, .sv (.one (I x23))), (30, .sv (.one (B (decide ((e.length : Int) < 1)))))], [.box [I n] 3 false]⟩ (by kernel_rfl) ?_
            refine WL.thru ⟨[(2, .sv (.one (.ptr 0 0))), (6, .sv (.one (LS intT e))), (21, .sv (.one (LS (lsT intT) l))), (22, .sv (.one (I (l.length : Int)))), (23, .sv (.one (I x23))), (34, .sv (.one (B ((decide ((e.length : Int) < 1)) || (decide ((e.length : Int) > 10))))))], [.box [I n] 3 false]⟩ ?_ ?_
            · refine splitB (decide ((e.length : Int) < 1)) (fun hb0 => ?_) (fun hb0 => ?_)
              · refine WL.setB 30 hb0 (by kernel_rfl) ?_
                refine WL.run ht hn 4 ⟨[(2, .sv (.one (.ptr 0 0))), (6, .sv (.one (LS intT e))), (21, .sv (.one (LS (lsT intT) l))), (22, .sv (.one (I (l.length : Int)))), (23, .sv (.one (I x23))), (34, .sv (.one (B true)))], [.box [I n] 3 false]⟩ (by kernel_rfl) ?_
                exact WL.nil (sub_ok (by simp only [hb0]; kernel_rfl))
              · refine WL.setB 30 hb0 (by kernel_rfl) ?_
                refine WL.run ht hn 4 ⟨[(2, .sv (.one (.ptr 0 0))), (6, .sv (.one (LS intT e))), (21, .sv (.one (LS (lsT intT) l))), (22, .sv (.one (I (l.length : Int)))), (23, .sv (.one (I x23))), (34, .sv (.one (B (decide ((e.length : Int) > 10)))))], [.box [I n] 3 false]⟩ (by kernel_rfl) ?_
                exact WL.nil (sub_ok (by simp only [hb0]; kernel_rfl))
            · refine En.cond (b := ((decide ((e.length : Int) < 1)) || (decide ((e.length : Int) > 10)))) (by kernel_rfl) (fun hb => ?_) (fun hb => ?_)
              · replace h := h.1 hb
                refine En.seq ?_
                refine En.region ?_
                refine WL.run ht hn 1 ⟨[(4, .sv (.one (I 1)))], [.gone]⟩ (by kernel_rfl) ?_
                refine WL.nil ?_
                refine En.ret ?_
                exact En.back ht 1 h (by kernel_rfl) rfl
              · replace h := h.2 hb
                refine En.skip ?_
                refine En.seq ?_
                refine En.region ?_
                refine WL.run ht hn 2 ⟨[(2, .sv (.one (.ptr 0 0))), (21, .sv (.one (LS (lsT intT) l))), (22, .sv (.one (I (l.length : Int)))), (23, .sv (.one (I x23))), (35, .sv (.one (LS intT e))), (36, .sv (.one (.fn 137 [0])))], [.box [I n] 3 false]⟩ (by kernel_rfl) ?_
                have hp := h.1
                replace h := h.2
                refine WL.mt0 (K := []) (p := none) hn (by rfl) (mt_lendF [0] (by rfl) (by rfl) (mt_ghost 36 (.sv (.one (.rd (fvR (fun (x_ : Int) => [.sv (.one (I x_))]) (fun (r : Bool) => .sv (.one (B r))) (fun _ => True) (codOff n))))) (by rfl) (fv_of (M := [.box [I n] 3 true]) (caps := [0]) (fun x_ _ => codC1_ct x_ n) en137 rfl (by kernel_rfl) (by rfl) (fun _ => rfl)) (mt_call (anyInt_ct e (fun _ => True) (codOff n) hp) en77 (caps := []) [] rfl (by rfl) (by kernel_rfl) (by kernel_rfl) (by rfl) (by rfl) (by rfl)))) (by rfl) (by rfl) (by rfl) ?_
                refine WL.nil ?_
                refine En.cond (b := (e.any (codOff n))) (by kernel_rfl) (fun hb => ?_) (fun hb => ?_)
                · replace h := h.1 hb
                  refine En.seq ?_
                  refine En.region ?_
                  refine WL.run ht hn 1 ⟨[(4, .sv (.one (I 2)))], [.gone]⟩ (by kernel_rfl) ?_
                  refine WL.nil ?_
                  refine En.ret ?_
                  exact En.back ht 2 h (by kernel_rfl) rfl
                · replace h := h.2 hb
                  refine En.skip ?_
                  refine En.region ?_
                  refine WL.run ht hn 2 ⟨[(2, .sv (.one (.ptr 0 0))), (21, .sv (.one (LS (lsT intT) l))), (22, .sv (.one (I (l.length : Int)))), (23, .sv (.one (I (wr (x23 + 1)))))], [.box [I n] 3 false]⟩ (by kernel_rfl) ?_
                  refine WL.nil ?_
                  exact En.at (I := fun zz => Inv zz ∧ mu zz < mu x23) (T := fun zz => ⟨[(2, .sv (.one (.ptr 0 0))), (21, .sv (.one (LS (lsT intT) l))), (22, .sv (.one (I (l.length : Int)))), (23, .sv (.one (I zz)))], [.box [I n] 3 false]⟩) (wr (x23 + 1)) h (by kernel_rfl)
          · replace h := h.2 hb
            refine En.exit rfl ?_
            refine En.seq ?_
            refine En.region ?_
            refine WL.run ht hn 1 ⟨[(4, .sv (.one (I 0)))], [.gone]⟩ (by kernel_rfl) ?_
            refine WL.nil ?_
            refine En.ret ?_
            exact En.back ht 0 h (by kernel_rfl) rfl
theorem en74 : ∀ args w, (callFunc 74 args).run Try.prog w = .ok (.enter 74 args) w := enters_of Try.func74 (by kernel_rfl) rfl
def codBadW (n : Int) (w : List Int) : Int := if (decide ((w.length : Int) < 1)) || (decide ((w.length : Int) > 10)) then 1 else if w.any (codOff n) then 2 else 0
def codFirst (n : Int) : List (List Int) → Int
  | [] => 0
  | w :: l => if codBadW n w ≠ 0 then codBadW n w else codFirst n l
def codErr (n : Int) (l : List (List Int)) : Int :=
  if (decide (n < 1)) || (decide (n > 4)) then 2 else if (decide ((l.length : Int) < 1)) || (decide ((l.length : Int) > 10)) then 1 else codFirst n l
structure CodOk (n : Int) (l : List (List Int)) : Prop where
  n14 : 1 ≤ n ∧ n ≤ 4
  len : 1 ≤ l.length ∧ l.length ≤ 10
  word : ∀ w ∈ l, 1 ≤ w.length ∧ w.length ≤ 10
  let_ : ∀ w ∈ l, ∀ a ∈ w, 0 ≤ a ∧ a < n
theorem codFirst_ok {n : Int} : ∀ {l : List (List Int)}, codFirst n l = 0 → ∀ w ∈ l, codBadW n w = 0
  | [], _, _, hs => by cases hs
  | a :: l, h, w, hs => by
    rw [codFirst] at h
    by_cases e : codBadW n a ≠ 0
    · rw [if_pos e] at h; exact absurd h e
    · rw [if_neg e] at h
      rcases List.mem_cons.1 hs with rfl | hs
      · exact Decidable.not_not.1 e
      · exact codFirst_ok h w hs
theorem codErr_ok {n : Int} {l : List (List Int)} (h : codErr n l = 0) : CodOk n l := by
  unfold codErr at h
  by_cases h1 : ((decide (n < 1)) || (decide (n > 4))) = true
  · rw [if_pos h1] at h; cases h
  rw [if_neg h1] at h
  by_cases h2 : ((decide ((l.length : Int) < 1)) || (decide ((l.length : Int) > 10))) = true
  · rw [if_pos h2] at h; cases h
  rw [if_neg h2] at h
  simp only [Bool.not_eq_true, Bool.or_eq_false_iff, decide_eq_false_iff_not] at h1 h2
  have hw : ∀ w ∈ l, (1 ≤ w.length ∧ w.length ≤ 10) ∧ ∀ a ∈ w, 0 ≤ a ∧ a < n := fun w hw => by
    have hb := codFirst_ok h w hw
    unfold codBadW at hb
    by_cases h3 : ((decide ((w.length : Int) < 1)) || (decide ((w.length : Int) > 10))) = true
    · rw [if_pos h3] at hb; cases hb
    rw [if_neg h3] at hb
    by_cases h4 : w.any (codOff n) = true
    · rw [if_pos h4] at hb; cases hb
    simp only [Bool.not_eq_true, Bool.or_eq_false_iff, decide_eq_false_iff_not] at h3
    rw [Bool.not_eq_true, List.any_eq_false] at h4
    refine ⟨by omega, fun a ha => ?_⟩
    have := h4 a ha
    unfold codOff at this
    simp at this
    omega
  exact ⟨by omega, by omega, fun w h => (hw w h).1, fun w h => (hw w h).2⟩
theorem codFirst_drop {n : Int} {l : List (List Int)} {k : Nat} (h : k < l.length) : codFirst n (l.drop k) = if codBadW n l[k] ≠ 0 then codBadW n l[k] else codFirst n (l.drop (k + 1)) := by
  rw [List.drop_eq_getElem_cons h, codFirst]
theorem codCheck_ct (n : Int) (l : (List (List Int)))  : Ct 74 [.sv (.one (I n)), .sv (.one (LS (lsT intT) l))] [] (fun (_ : Unit) => True) (fun _ => .sv (.one (I (codErr n l)))) := by
  refine (codCheck_walk n l (fun res_ => res_ = (codErr n l)) ?_).fun
  intro _
  refine ⟨fun h1 => ?_, fun h1 => ⟨fun h2 => ?_, fun h2 => ?_⟩⟩
  · show _ = codErr n l
    unfold codErr; rw [if_pos h1]
  · show _ = codErr n l
    unfold codErr; rw [if_neg (by rw [h1]; decide), if_pos h2]
  have hE : codErr n l = codFirst n l := by
    unfold codErr; rw [if_neg (by rw [h1]; decide), if_neg (by rw [h2]; decide)]
  refine ⟨fun i => ∃ k : Nat, i = k ∧ k ≤ l.length ∧ codFirst n l = codFirst n (l.drop k), fun i => l.length - i.toNat, ⟨0, rfl, Nat.zero_le _, rfl⟩, ?_⟩
  rintro i ⟨k, rfl, hk, ht⟩
  refine ⟨fun hb => ?_, fun hb => ?_⟩
  · have hlt := dlt hb
    rw [codFirst_drop hlt] at ht
    refine ⟨_, idx_at hlt, fun h3 => ?_, fun h3 => ⟨fun _ _ => trivial, fun h4 => ?_, fun h4 => ⟨⟨k + 1, wsucc (by omega), hlt, ?_⟩, mu_up hlt (by omega)⟩⟩⟩
    · show 1 = codErr n l
      have : codBadW n l[k] = 1 := by unfold codBadW; rw [if_pos h3]
      rw [hE, ht, this]; rfl
    · show 2 = codErr n l
      have : codBadW n l[k] = 2 := by unfold codBadW; rw [if_neg (by rw [h3]; decide), if_pos h4]
      rw [hE, ht, this]; rfl
    · have : codBadW n l[k] = 0 := by unfold codBadW; rw [if_neg (by rw [h3]; decide), if_neg (by rw [h4]; decide)]
      rw [this] at ht
      exact ht
  · have hge := dge hb
    show 0 = codErr n l
    rw [hE, ht, List.drop_eq_nil_of_le hge]
    rfl
def codPut_vc (D : (List (ByteArray × Int))) (R : (List CodeRest)) (r : CodeRest) (Q : (List (ByteArray × Int)) × (List CodeRest) → Prop) : Prop :=
  r.fW.length ≤ 9223372036854775807 →
  r.fA.length ≤ 9223372036854775807 →
  r.fB.length ≤ 9223372036854775807 →
  ((r.fW.length ≤ 1000) ∧
  IfP (((mget (keyR r.fW) D).getD (0 : Int)) == 0) (capOk R.length (([r] : (List CodeRest)) : (List CodeRest)).length 72 ∧
  Q ((mput (keyR r.fW) 1 D), (R ++ ([r] : (List CodeRest))))) (Q (D, R)))
theorem codPut_walk (D : (List (ByteArray × Int))) (R : (List CodeRest)) (r : CodeRest) (Q : (List (ByteArray × Int)) × (List CodeRest) → Prop) (h : codPut_vc D R r Q) : CtE 75 [.sv (.agg [LS intT r.fW, LS intT r.fA, LS intT r.fB]), .sv (.one (.ptr 0 0)), .sv (.one (.ptr 2 0))] [.box [.own 1] 127 false, mapI encS intT D, .box [.own 3] 128 false, rowI 130 CodeRest.ty R] [0, 2] Q (fun (r : (List (ByteArray × Int)) × (List CodeRest)) => .tup []) (fun (r : (List (ByteArray × Int)) × (List CodeRest)) => [.box [.own 1] 127 false, mapI encS intT r.1, .box [.own 3] 128 false, rowI 130 CodeRest.ty r.2]) := by
  have ht := tab_ok
  refine CtE.body Try.func75 rfl rfl rfl (by kernel_rfl) (by kernel_rfl) (fun c Bk hn => ?_)
  unfold codPut_vc at h
  show En c ⟨[(0, .sv (.agg [LS intT r.fW, LS intT r.fA, LS intT r.fB])), (1, .sv (.one (.pptr 0 0 (Bk 0)))), (2, .sv (.one (.pptr 2 0 (Bk 2))))], [.box [.own 1] 127 false, mapI encS intT D, .box [.own 3] 128 false, rowI 130 CodeRest.ty R]⟩ _
  refine En.lenA 0 0 (by rfl) (by rfl) (fun hl => ?_)
  replace h := h hl
  clear hl
  refine En.lenA 0 1 (by rfl) (by rfl) (fun hl => ?_)
  replace h := h hl
  clear hl
  refine En.lenA 0 2 (by rfl) (by rfl) (fun hl => ?_)
  replace h := h hl
  clear hl
  refine En.seq ?_
  refine En.region ?_
  refine WL.run ht hn 1 ⟨[(1, .sv (.one (.pptr 0 0 (Bk 0)))), (2, .sv (.one (.pptr 2 0 (Bk 2)))), (3, .sv (.one (.ptr 4 0)))], [.box [.own 1] 127 false, mapI encS intT D, .box [.own 3] 128 false, rowI 130 CodeRest.ty R, .box [LS intT r.fW, LS intT r.fA, LS intT r.fB] 130 false]⟩ (by kernel_rfl) ?_
  refine WL.nil ?_
  refine En.seq ?_
  refine En.region ?_
  refine WL.run ht hn 2 ⟨[(1, .sv (.one (.pptr 0 0 (Bk 0)))), (2, .sv (.one (.pptr 2 0 (Bk 2)))), (3, .sv (.one (.ptr 4 0))), (6, .sv (.one (LS intT r.fW)))], [.box [.own 1] 127 false, mapI encS intT D, .box [.own 3] 128 false, rowI 130 CodeRest.ty R, .box [LS intT r.fW, LS intT r.fA, LS intT r.fB] 130 false]⟩ (by kernel_rfl) ?_
  have hp := h.1
  replace h := h.2
  refine WL.mt0 (K := []) (p := none) hn (by rfl) (mt_call (detKey_ct r.fW hp) en76 (caps := []) [] rfl (by rfl) (by kernel_rfl) (by kernel_rfl) (by rfl) (by rfl) (by rfl)) (by rfl) (by rfl) (by rfl) ?_
  refine WL.run ht hn 1 ⟨[(1, .sv (.one (.pptr 0 0 (Bk 0)))), (2, .sv (.one (.pptr 2 0 (Bk 2)))), (3, .sv (.one (.ptr 4 0))), (4, .sv (.one (.v (.string (keyR r.fW)))))], [.box [.own 1] 127 false, mapI encS intT D, .box [.own 3] 128 false, rowI 130 CodeRest.ty R, .box [LS intT r.fW, LS intT r.fA, LS intT r.fB] 130 false]⟩ (by kernel_rfl) ?_
  refine WL.nil ?_
  refine En.seq ?_
  refine En.region ?_
  refine WL.run ht hn 2 ⟨[(1, .sv (.one (.pptr 0 0 (Bk 0)))), (2, .sv (.one (.pptr 2 0 (Bk 2)))), (3, .sv (.one (.ptr 4 0))), (4, .sv (.one (.v (.string (keyR r.fW))))), (8, .sv (.one (.own 1))), (9, .sv (.one (.v (.string (keyR r.fW)))))], [.box [.own 1] 127 false, mapI encS intT D, .box [.own 3] 128 false, rowI 130 CodeRest.ty R, .box [LS intT r.fW, LS intT r.fA, LS intT r.fB] 130 false]⟩ (by kernel_rfl) ?_
  refine WL.val hn (by rfl) (val_lookup (T := intT) (D := D) keyS9 (k := (keyR r.fW)) (ok := false) (0 : Int) (zv := (.int .i64 0)) rfl Try.underlying127 (fun _ => by kernel_rfl) (fun _ => ⟨rfl, trivial⟩) (mapAs encS intT D) (by rfl) (by rfl) (by rfl) (fun _ => rfl)) (by rfl) ?_
  refine WL.run ht hn 1 ⟨[(1, .sv (.one (.pptr 0 0 (Bk 0)))), (2, .sv (.one (.pptr 2 0 (Bk 2)))), (3, .sv (.one (.ptr 4 0))), (4, .sv (.one (.v (.string (keyR r.fW))))), (11, .sv (.one (B (((mget (keyR r.fW) D).getD (0 : Int)) == 0))))], [.box [.own 1] 127 false, mapI encS intT D, .box [.own 3] 128 false, rowI 130 CodeRest.ty R, .box [LS intT r.fW, LS intT r.fA, LS intT r.fB] 130 false]⟩ (by kernel_rfl) ?_
  refine WL.nil ?_
  refine En.cond (b := (((mget (keyR r.fW) D).getD (0 : Int)) == 0)) (by kernel_rfl) (fun hb => ?_) (fun hb => ?_)
  · replace h := h.1 hb
    refine En.seq ?_
    refine En.region ?_
    refine WL.run ht hn 2 ⟨[(1, .sv (.one (.pptr 0 0 (Bk 0)))), (2, .sv (.one (.pptr 2 0 (Bk 2)))), (3, .sv (.one (.ptr 4 0))), (12, .sv (.one (.own 1))), (13, .sv (.one (.v (.string (keyR r.fW)))))], [.box [.own 1] 127 false, mapI encS intT D, .box [.own 3] 128 false, rowI 130 CodeRest.ty R, .box [LS intT r.fW, LS intT r.fA, LS intT r.fB] 130 false]⟩ (by kernel_rfl) ?_
    refine WL.mapPut (T := intT) keyS9 (k := (keyR r.fW)) (y := 1) hn (by rfl) (.inl rfl) Try.underlying127 (by rfl) (by rfl) (by rfl) (by rfl) (by rfl) (by rfl) ?_
    refine WL.nil ?_
    refine En.region ?_
    refine WL.run ht hn 2 ⟨[(1, .sv (.one (.pptr 0 0 (Bk 0)))), (2, .sv (.one (.pptr 2 0 (Bk 2)))), (14, .sv (.one (.own 3))), (15, .sv (.agg [LS intT r.fW, LS intT r.fA, LS intT r.fB]))], [.box [.own 1] 127 false, mapI encS intT (mput (keyR r.fW) 1 D), .box [.own 3] 128 false, rowI 130 CodeRest.ty R, .gone]⟩ (by kernel_rfl) ?_
    refine WL.mt0 (K := []) (p := some (5, rowI 130 CodeRest.ty ([r] : (List CodeRest)))) hn (by rfl) (mt_lit (T := CodeRest.ty) ([r] : (List CodeRest)) (mt_bsl 5 (r := cellsOf CodeRest.ty ([r] : (List CodeRest))) ht rfl (by rfl) (by rfl) (by rfl) (by kernel_rfl) (by rfl)) (fun _ h => by cases h) (fun _ => rfl) (fun _ => rfl) (by rfl) (Nat.le_of_ble_eq_true rfl)) (by rfl) (by rfl) (by rfl) ?_
    refine WL.seal (T := CodeRest.ty) (l := ([r] : (List CodeRest))) (e := 130) 5 rfl ?_
    refine WL.run ht hn 0 ⟨[(1, .sv (.one (.pptr 0 0 (Bk 0)))), (2, .sv (.one (.pptr 2 0 (Bk 2)))), (14, .sv (.one (.own 3))), (15, .sv (.agg [LS intT r.fW, LS intT r.fA, LS intT r.fB])), (16, .sv (.one (LS CodeRest.ty ([r] : (List CodeRest)))))], [.box [.own 1] 127 false, mapI encS intT (mput (keyR r.fW) 1 D), .box [.own 3] 128 false, rowI 130 CodeRest.ty R, .gone, .gone]⟩ (by kernel_rfl) ?_
    refine WL.junk 2 0 (by rfl) ?_
    have hp := h.1
    replace h := h.2
    refine WL.mt (S2 := ⟨[(1, .sv (.one (.pptr 0 0 (Bk 0)))), (2, .sv (.one (.pptr 2 0 (Bk 2)))), (15, .sv (.agg [LS intT r.fW, LS intT r.fA, LS intT r.fB])), (16, .sv (.one (LS CodeRest.ty ([r] : (List CodeRest)))))], [.box [.own 1] 127 false, mapI encS intT (mput (keyR r.fW) 1 D), .box [.junk] 128 false, rowI 130 CodeRest.ty R, .gone, .gone]⟩) (K := [3]) (p := some (3, rowI 130 CodeRest.ty (R ++ ([r] : (List CodeRest))))) hn (by rfl) (mt_append (T := CodeRest.ty) (l := R) (es := ([r] : (List CodeRest))) ht rfl (by rfl) (by rfl) (by rfl) (by rfl) (by decide) (by rfl) (by rfl) (srcLS (T := CodeRest.ty) (es := ([r] : (List CodeRest))) (fun _ h => by cases h) (by decide) (by rfl)) (by exact hp) (by exact hp.le (by decide))) (by kernel_rfl) (by rfl) (by rfl) (by rfl) ?_
    refine WL.run ht hn 1 ⟨[(1, .sv (.one (.pptr 0 0 (Bk 0)))), (2, .sv (.one (.pptr 2 0 (Bk 2))))], [.box [.own 1] 127 false, mapI encS intT (mput (keyR r.fW) 1 D), .box [.own 3] 128 false, rowI 130 CodeRest.ty (R ++ ([r] : (List CodeRest))), .gone, .gone]⟩ (by kernel_rfl) ?_
    refine WL.nil ?_
    exact En.backE [1, 2] ht ((mput (keyR r.fW) 1 D), (R ++ ([r] : (List CodeRest)))) h (by kernel_rfl) (by rfl) rfl
  · replace h := h.2 hb
    refine En.skip ?_
    exact En.backE [1, 2] ht (D, R) h (by kernel_rfl) (by rfl) rfl
theorem en75 : ∀ args w, (callFunc 75 args).run Try.prog w = .ok (.enter 75 args) w := enters_of Try.func75 (by kernel_rfl) rfl
def InL4 (w : List Int) : Prop := ∀ a ∈ w, 0 ≤ a ∧ a < 4
theorem keyR_inj4 {x y : List Int} (hx : InL4 x) (hy : InL4 y) (h : keyR x = keyR y) : x = y := by
  have e : keyB = two8 := funext two8_eq
  unfold keyR at h
  rw [e] at h
  exact twos_inj (fun a ha => by have := hx a ha; omega) (fun a ha => by have := hy a ha; omega) (bytesOf_inj twos_in twos_in h)
def PutPre (D : List (ByteArray × Int)) (R : List CodeRest) (r : CodeRest) : Prop := r.fW.length ≤ 1000 ∧ R.length ≤ 1000000
def putNew (D : List (ByteArray × Int)) (r : CodeRest) : Bool := (mget (keyR r.fW) D).getD 0 == 0
def putM (D : List (ByteArray × Int)) (r : CodeRest) : List (ByteArray × Int) := bif putNew D r then mput (keyR r.fW) 1 D else D
def putR (D : List (ByteArray × Int)) (R : List CodeRest) (r : CodeRest) : List CodeRest := bif putNew D r then R ++ [r] else R
theorem codPut_ct (D : (List (ByteArray × Int))) (R : (List CodeRest)) (r : CodeRest) (hp : PutPre D R r)  : CtE 75 [.sv (.agg [LS intT r.fW, LS intT r.fA, LS intT r.fB]), .sv (.one (.ptr 0 0)), .sv (.one (.ptr 2 0))] [.box [.own 1] 127 false, mapI encS intT D, .box [.own 3] 128 false, rowI 130 CodeRest.ty R] [0, 2] (fun (_ : Unit) => True) (fun _ => .tup []) (fun _ => [.box [.own 1] 127 false, mapI encS intT (putM D r), .box [.own 3] 128 false, rowI 130 CodeRest.ty (putR D R r)]) := by
  refine (codPut_walk D R r (fun res_ => res_ = (putM D r, putR D R r)) ?_).imp (fun r hr => ⟨(), trivial, by subst hr; rfl, by subst hr; rfl⟩)
  obtain ⟨h1, h2⟩ := hp
  intro _ _ _
  refine ⟨h1, fun hb => ⟨capOk_of (by simp only [List.length_cons, List.length_nil]; omega), ?_⟩, fun hb => ?_⟩
  · have hb : putNew D r = true := hb
    show _ = (putM D r, putR D R r)
    unfold putM putR
    rw [hb]
    rfl
  · have hb : putNew D r = false := hb
    show _ = (putM D r, putR D R r)
    unfold putM putR
    rw [hb]
    rfl
def codUnique_vc (n : Int) (l : (List (List Int))) (Q : ((List Int) × (List Int) × Bool × Int) → Prop) : Prop :=
  l.length ≤ 9223372036854775807 →
  (IfP ((codErr n l) != 0) (Q ([], [], false, (codErr n l))) (∃ (Inv : Int → (List (ByteArray × Int)) → (List CodeRest) → Prop) (mu : Int → (List (ByteArray × Int)) → (List CodeRest) → Nat), Inv 0 ([] : List (ByteArray × Int)) ([] : (List CodeRest)) ∧
  ∀ (x32 : Int) (m0 : (List (ByteArray × Int))) (l5 : (List CodeRest)) , Inv x32 m0 l5 → (IfP (decide (x32 < (l.length : Int))) (∃ e, idx l x32 = some e ∧
  ∃ (Inv_2 : Int → (List (ByteArray × Int)) → (List CodeRest) → Prop) (mu_2 : Int → (List (ByteArray × Int)) → (List CodeRest) → Nat), Inv_2 0 m0 l5 ∧
  ∀ (x39 : Int) (m0_2 : (List (ByteArray × Int))) (l5_2 : (List CodeRest)) , Inv_2 x39 m0_2 l5_2 → (IfP (decide (x39 < (l.length : Int))) (∃ J : (List (ByteArray × Int)) → (List CodeRest) → Prop, (∃ e_2, idx l x39 = some e_2 ∧
  ∃ J_2 : Bool → Prop, (IfP (x32 != x39) (IfP (decide ((e.length : Int) ≥ (e_2.length : Int))) (partOk 0 (e_2.length : Int) e.length ∧
  J_2 (decide (((e.take ((e_2.length : Int) : Int).toNat).drop (0 : Int).toNat) = e_2))) (J_2 false)) (J_2 false)) ∧
  (∀ (x61 : Bool), J_2 x61 → IfP x61 (partOk (e_2.length : Int) (e.length : Int) e.length ∧
  (PutPre m0_2 l5_2 (CodeRest.mk ((e.take ((e.length : Int) : Int).toNat).drop ((e_2.length : Int) : Int).toNat) ([x32] : (List Int)) ([x39] : (List Int)))) ∧
  J (putM m0_2 (CodeRest.mk ((e.take ((e.length : Int) : Int).toNat).drop ((e_2.length : Int) : Int).toNat) ([x32] : (List Int)) ([x39] : (List Int)))) (putR m0_2 l5_2 (CodeRest.mk ((e.take ((e.length : Int) : Int).toNat).drop ((e_2.length : Int) : Int).toNat) ([x32] : (List Int)) ([x39] : (List Int))))) (J m0_2 l5_2))) ∧
  (∀ (m0_3 : (List (ByteArray × Int))) (l5_3 : (List CodeRest)), J m0_3 l5_3 → (Inv_2 (wr (x39 + 1)) m0_3 l5_3 ∧ mu_2 (wr (x39 + 1)) m0_3 l5_3 < mu_2 x39 m0_2 l5_2))) ((Inv (wr (x32 + 1)) m0_2 l5_2 ∧ mu (wr (x32 + 1)) m0_2 l5_2 < mu x32 m0 l5)))) (∃ (Inv_3 : Int → (List (ByteArray × Int)) → (List CodeRest) → Prop) (mu_3 : Int → (List (ByteArray × Int)) → (List CodeRest) → Nat), Inv_3 0 m0 l5 ∧
  ∀ (x16 : Int) (m0_4 : (List (ByteArray × Int))) (l5_4 : (List CodeRest)) , Inv_3 x16 m0_4 l5_4 → (IfP (decide (x16 < (l5_4.length : Int))) (∃ e_3, idx l5_4 x16 = some e_3 ∧
  IfP ((e_3.fW.length : Int) == 0) (Q (e_3.fA, e_3.fB, false, 0)) (∃ (Inv_4 : Int → (List (ByteArray × Int)) → (List CodeRest) → Prop) (mu_4 : Int → (List (ByteArray × Int)) → (List CodeRest) → Nat), Inv_4 0 m0_4 l5_4 ∧
  ∀ (x95 : Int) (m0_5 : (List (ByteArray × Int))) (l5_5 : (List CodeRest)) , Inv_4 x95 m0_5 l5_5 → (IfP (decide (x95 < (l.length : Int))) (∃ J_3 : (List (ByteArray × Int)) → (List CodeRest) → Prop, (∃ e_4, idx l x95 = some e_4 ∧
  (e_3.fB.length * 8 ≤ 140737488355328) ∧
  capOk (e_3.fB).length (([x95] : (List Int)) : (List Int)).length 8 ∧
  partOk 0 (if (e_3.fW.length : Int) < (e_4.length : Int) then (e_3.fW.length : Int) else (e_4.length : Int)) e_4.length ∧
  partOk 0 (if (e_3.fW.length : Int) < (e_4.length : Int) then (e_3.fW.length : Int) else (e_4.length : Int)) e_3.fW.length ∧
  IfP (!(decide (((e_4.take ((if (e_3.fW.length : Int) < (e_4.length : Int) then (e_3.fW.length : Int) else (e_4.length : Int)) : Int).toNat).drop (0 : Int).toNat) = ((e_3.fW.take ((if (e_3.fW.length : Int) < (e_4.length : Int) then (e_3.fW.length : Int) else (e_4.length : Int)) : Int).toNat).drop (0 : Int).toNat)))) (J_3 m0_5 l5_5) (IfP (decide ((e_4.length : Int) ≤ (e_3.fW.length : Int))) (partOk (if (e_3.fW.length : Int) < (e_4.length : Int) then (e_3.fW.length : Int) else (e_4.length : Int)) (e_3.fW.length : Int) e_3.fW.length ∧
  (PutPre m0_5 l5_5 (CodeRest.mk ((e_3.fW.take ((e_3.fW.length : Int) : Int).toNat).drop ((if (e_3.fW.length : Int) < (e_4.length : Int) then (e_3.fW.length : Int) else (e_4.length : Int)) : Int).toNat) e_3.fA ((e_3.fB) ++ ([x95] : (List Int))))) ∧
  J_3 (putM m0_5 (CodeRest.mk ((e_3.fW.take ((e_3.fW.length : Int) : Int).toNat).drop ((if (e_3.fW.length : Int) < (e_4.length : Int) then (e_3.fW.length : Int) else (e_4.length : Int)) : Int).toNat) e_3.fA ((e_3.fB) ++ ([x95] : (List Int))))) (putR m0_5 l5_5 (CodeRest.mk ((e_3.fW.take ((e_3.fW.length : Int) : Int).toNat).drop ((if (e_3.fW.length : Int) < (e_4.length : Int) then (e_3.fW.length : Int) else (e_4.length : Int)) : Int).toNat) e_3.fA ((e_3.fB) ++ ([x95] : (List Int)))))) (partOk (if (e_3.fW.length : Int) < (e_4.length : Int) then (e_3.fW.length : Int) else (e_4.length : Int)) (e_4.length : Int) e_4.length ∧
  (PutPre m0_5 l5_5 (CodeRest.mk ((e_4.take ((e_4.length : Int) : Int).toNat).drop ((if (e_3.fW.length : Int) < (e_4.length : Int) then (e_3.fW.length : Int) else (e_4.length : Int)) : Int).toNat) ((e_3.fB) ++ ([x95] : (List Int))) e_3.fA)) ∧
  J_3 (putM m0_5 (CodeRest.mk ((e_4.take ((e_4.length : Int) : Int).toNat).drop ((if (e_3.fW.length : Int) < (e_4.length : Int) then (e_3.fW.length : Int) else (e_4.length : Int)) : Int).toNat) ((e_3.fB) ++ ([x95] : (List Int))) e_3.fA)) (putR m0_5 l5_5 (CodeRest.mk ((e_4.take ((e_4.length : Int) : Int).toNat).drop ((if (e_3.fW.length : Int) < (e_4.length : Int) then (e_3.fW.length : Int) else (e_4.length : Int)) : Int).toNat) ((e_3.fB) ++ ([x95] : (List Int))) e_3.fA))))) ∧
  (∀ (m0_6 : (List (ByteArray × Int))) (l5_6 : (List CodeRest)), J_3 m0_6 l5_6 → (Inv_4 (wr (x95 + 1)) m0_6 l5_6 ∧ mu_4 (wr (x95 + 1)) m0_6 l5_6 < mu_4 x95 m0_5 l5_5))) ((Inv_3 (wr (x16 + 1)) m0_5 l5_5 ∧ mu_3 (wr (x16 + 1)) m0_5 l5_5 < mu_3 x16 m0_4 l5_4))))) (Q ([], [], true, 0)))))))
set_option maxHeartbeats 2000000 in
theorem codUnique_walk (n : Int) (l : (List (List Int))) (Q : ((List Int) × (List Int) × Bool × Int) → Prop) (h : codUnique_vc n l Q) : Ct 28 [.sv (.one (I n)), .sv (.one (LS (lsT intT) l))] [] Q (fun (r : ((List Int) × (List Int) × Bool × Int)) => .tup [.one (LS intT r.1), .one (LS intT r.2.1), .one (B r.2.2.1), .one (I r.2.2.2)]) := by
  have ht := tab_ok
  refine Ct.body Try.func28 rfl rfl rfl rfl (fun c hn => ?_)
  unfold codUnique_vc at h
  refine En.lenL 1 (by rfl) (fun hl => ?_)
  replace h := h hl
  clear hl
  refine En.seq ?_
  refine En.region ?_
  refine WL.run ht hn 4 ⟨[(0, .sv (.one (I n))), (1, .sv (.one (LS (lsT intT) l)))], []⟩ (by kernel_rfl) ?_
  refine WL.nil ?_
  refine En.seq ?_
  refine En.seq ?_
  refine En.region ?_
  refine WL.run ht hn 2 ⟨[(1, .sv (.one (LS (lsT intT) l))), (22, .sv (.one (I n))), (23, .sv (.one (LS (lsT intT) l)))], []⟩ (by kernel_rfl) ?_
  refine WL.mt0 (K := []) (p := none) hn (by rfl) (mt_call (codCheck_ct n l) en74 (caps := []) [] rfl (by rfl) (by kernel_rfl) (by kernel_rfl) (by rfl) (by rfl) (by rfl)) (by rfl) (by rfl) (by rfl) ?_
  refine WL.run ht hn 1 ⟨[(1, .sv (.one (LS (lsT intT) l))), (8, .sv (.one (I (codErr n l))))], []⟩ (by kernel_rfl) ?_
  refine WL.nil ?_
  refine En.seq ?_
  refine En.region ?_
  refine WL.run ht hn 2 ⟨[(1, .sv (.one (LS (lsT intT) l))), (8, .sv (.one (I (codErr n l)))), (26, .sv (.one (B ((codErr n l) != 0))))], []⟩ (by kernel_rfl) ?_
  refine WL.nil ?_
  refine En.cond (b := ((codErr n l) != 0)) (by kernel_rfl) (fun hb => ?_) (fun hb => ?_)
  · replace h := h.1 hb
    refine En.seq ?_
    refine En.region ?_
    refine WL.run ht hn 5 ⟨[(4, .sv (.one (.v (.slice none 0 0)))), (5, .sv (.one (.v (.slice none 0 0)))), (6, .sv (.one (B false))), (7, .sv (.one (I (codErr n l))))], []⟩ (by kernel_rfl) ?_
    refine WL.nil ?_
    refine En.ret ?_
    refine En.nilLS 4 intT (by rfl) ?_
    refine En.nilLS 5 intT (by rfl) ?_
    exact En.back ht ([], [], false, (codErr n l)) h (by kernel_rfl) rfl
  · replace h := h.2 hb
    refine En.skip ?_
    refine En.seq ?_
    refine En.region ?_
    refine WL.mt0 (K := []) (p := some (0, mapI encS intT ([] : List (ByteArray × Int)))) hn (by rfl) (mt_makeMap encS intT 0 rfl) (by rfl) (by rfl) (by rfl) ?_
    refine WL.run ht hn 2 ⟨[(1, .sv (.one (LS (lsT intT) l))), (9, .sv (.one (.ptr 1 0)))], [mapI encS intT ([] : List (ByteArray × Int)), .box [.own 0] 127 false]⟩ (by kernel_rfl) ?_
    refine WL.nil ?_
    refine En.seq ?_
    refine En.region ?_
    refine WL.run ht hn 1 ⟨[(1, .sv (.one (LS (lsT intT) l))), (9, .sv (.one (.ptr 1 0))), (10, .sv (.one (.ptr 2 0)))], [mapI encS intT ([] : List (ByteArray × Int)), .box [.own 0] 127 false, .box [.v (.slice none 0 0)] 128 false]⟩ (by kernel_rfl) ?_
    refine WL.nil ?_
    refine En.seq ?_
    refine En.region ?_
    refine WL.run ht hn 2 ⟨[(1, .sv (.one (LS (lsT intT) l))), (10, .sv (.one (.ptr 2 0))), (11, .sv (.one (.fn 75 [1, 2])))], [mapI encS intT ([] : List (ByteArray × Int)), .box [.own 0] 127 false, .box [.v (.slice none 0 0)] 128 false]⟩ (by kernel_rfl) ?_
    refine WL.nil ?_
    refine En.seq ?_
    refine En.seq ?_
    refine En.region ?_
    refine WL.run ht hn 3 ⟨[(1, .sv (.one (LS (lsT intT) l))), (10, .sv (.one (.ptr 2 0))), (11, .sv (.one (.fn 75 [1, 2]))), (30, .sv (.one (LS (lsT intT) l))), (31, .sv (.one (I (l.length : Int)))), (32, .sv (.one (I 0)))], [mapI encS intT ([] : List (ByteArray × Int)), .box [.own 0] 127 false, .box [.v (.slice none 0 0)] 128 false]⟩ (by kernel_rfl) ?_
    refine WL.nil ?_
    refine En.block ?_
    refine En.nilBoxO (T := CodeRest.ty) 2 0 5 130 (by rfl) (by rfl) (by rfl) (by rfl) ?_
    obtain ⟨Inv, mu, h0_4, hI_4⟩ := h
    refine En.loop (σ := Int × (List (ByteArray × Int)) × (List CodeRest)) (fun zz => Inv zz.1 zz.2.1 zz.2.2) (fun zz => mu zz.1 zz.2.1 zz.2.2) (fun zz => ⟨[(1, .sv (.one (LS (lsT intT) l))), (10, .sv (.one (.ptr 2 0))), (11, .sv (.one (.fn 75 [1, 2]))), (30, .sv (.one (LS (lsT intT) l))), (31, .sv (.one (I (l.length : Int)))), (32, .sv (.one (I zz.1)))], [mapI encS intT zz.2.1, .box [.own 0] 127 false, .box [.own 5] 128 false, .gone, .gone, rowI 130 CodeRest.ty zz.2.2]⟩) (0, ([] : List (ByteArray × Int)), ([] : (List CodeRest))) h0_4 (sub_ok (by kernel_rfl)) ?_
    rintro ⟨x32, m0, l5⟩ h
    replace h := hI_4 _ _ _ h
    show En c ⟨[(1, .sv (.one (LS (lsT intT) l))), (10, .sv (.one (.ptr 2 0))), (11, .sv (.one (.fn 75 [1, 2]))), (30, .sv (.one (LS (lsT intT) l))), (31, .sv (.one (I (l.length : Int)))), (32, .sv (.one (I x32)))], [mapI encS intT m0, .box [.own 0] 127 false, .box [.own 5] 128 false, .gone, .gone, rowI 130 CodeRest.ty l5]⟩ _
    refine En.seq ?_
    refine En.region ?_
    refine WL.run ht hn 1 ⟨[(1, .sv (.one (LS (lsT intT) l))), (10, .sv (.one (.ptr 2 0))), (11, .sv (.one (.fn 75 [1, 2]))), (30, .sv (.one (LS (lsT intT) l))), (31, .sv (.one (I (l.length : Int)))), (32, .sv (.one (I x32))), (33, .sv (.one (B (decide (x32 < (l.length : Int))))))], [mapI encS intT m0, .box [.own 0] 127 false, .box [.own 5] 128 false, .gone, .gone, rowI 130 CodeRest.ty l5]⟩ (by kernel_rfl) ?_
    refine WL.nil ?_
    refine En.seq ?_
    refine En.cond (b := (decide (x32 < (l.length : Int)))) (by kernel_rfl) (fun hb => ?_) (fun hb => ?_)
    · replace h := h.1 hb
      refine En.skip ?_
      refine En.seq ?_
      refine En.block ?_
      refine En.seq ?_
      refine En.region ?_
      refine WL.run ht hn 1 ⟨[(1, .sv (.one (LS (lsT intT) l))), (10, .sv (.one (.ptr 2 0))), (11, .sv (.one (.fn 75 [1, 2]))), (30, .sv (.one (LS (lsT intT) l))), (31, .sv (.one (I (l.length : Int)))), (32, .sv (.one (I x32))), (34, .sv (.one (I x32)))], [mapI encS intT m0, .box [.own 0] 127 false, .box [.own 5] 128 false, .gone, .gone, rowI 130 CodeRest.ty l5]⟩ (by kernel_rfl) ?_
      obtain ⟨e, he, h⟩ := h
      refine WL.val hn (by rfl) (val_index (T := (lsT intT)) (l := l) (i := x32) ht rfl (by rfl) (by rfl) (by rfl) (by rfl) (by rfl) (by rfl) he) (by rfl) ?_
      refine WL.val hn (by rfl) (val_load (s := .one (LS intT e)) ht rfl (by rfl) (by rfl) (by rfl) (by rfl) (by rfl)) (by rfl) ?_
      refine WL.run ht hn 2 ⟨[(1, .sv (.one (LS (lsT intT) l))), (10, .sv (.one (.ptr 2 0))), (11, .sv (.one (.fn 75 [1, 2]))), (12, .sv (.one (I x32))), (13, .sv (.one (LS intT e))), (30, .sv (.one (LS (lsT intT) l))), (31, .sv (.one (I (l.length : Int)))), (32, .sv (.one (I x32)))], [mapI encS intT m0, .box [.own 0] 127 false, .box [.own 5] 128 false, .gone, .gone, rowI 130 CodeRest.ty l5]⟩ (by kernel_rfl) ?_
      refine WL.nil ?_
      refine En.seq ?_
      refine En.region ?_
      refine WL.run ht hn 3 ⟨[(1, .sv (.one (LS (lsT intT) l))), (10, .sv (.one (.ptr 2 0))), (11, .sv (.one (.fn 75 [1, 2]))), (12, .sv (.one (I x32))), (13, .sv (.one (LS intT e))), (30, .sv (.one (LS (lsT intT) l))), (31, .sv (.one (I (l.length : Int)))), (32, .sv (.one (I x32))), (37, .sv (.one (LS (lsT intT) l))), (38, .sv (.one (I (l.length : Int)))), (39, .sv (.one (I 0)))], [mapI encS intT m0, .box [.own 0] 127 false, .box [.own 5] 128 false, .gone, .gone, rowI 130 CodeRest.ty l5]⟩ (by kernel_rfl) ?_
      refine WL.nil ?_
      refine En.block ?_
      obtain ⟨Inv_2, mu_2, h0, hI⟩ := h
      refine En.loop (σ := Int × (List (ByteArray × Int)) × (List CodeRest)) (fun zz => Inv_2 zz.1 zz.2.1 zz.2.2) (fun zz => mu_2 zz.1 zz.2.1 zz.2.2) (fun zz => ⟨[(1, .sv (.one (LS (lsT intT) l))), (10, .sv (.one (.ptr 2 0))), (11, .sv (.one (.fn 75 [1, 2]))), (12, .sv (.one (I x32))), (13, .sv (.one (LS intT e))), (30, .sv (.one (LS (lsT intT) l))), (31, .sv (.one (I (l.length : Int)))), (32, .sv (.one (I x32))), (37, .sv (.one (LS (lsT intT) l))), (38, .sv (.one (I (l.length : Int)))), (39, .sv (.one (I zz.1)))], [mapI encS intT zz.2.1, .box [.own 0] 127 false, .box [.own 5] 128 false, .gone, .gone, rowI 130 CodeRest.ty zz.2.2]⟩) (0, m0, l5) h0 (sub_ok (by kernel_rfl)) ?_
      rintro ⟨x39, m0_2, l5_2⟩ h
      replace h := hI _ _ _ h
      show En c ⟨[(1, .sv (.one (LS (lsT intT) l))), (10, .sv (.one (.ptr 2 0))), (11, .sv (.one (.fn 75 [1, 2]))), (12, .sv (.one (I x32))), (13, .sv (.one (LS intT e))), (30, .sv (.one (LS (lsT intT) l))), (31, .sv (.one (I (l.length : Int)))), (32, .sv (.one (I x32))), (37, .sv (.one (LS (lsT intT) l))), (38, .sv (.one (I (l.length : Int)))), (39, .sv (.one (I x39)))], [mapI encS intT m0_2, .box [.own 0] 127 false, .box [.own 5] 128 false, .gone, .gone, rowI 130 CodeRest.ty l5_2]⟩ _
      refine En.seq ?_
      refine En.region ?_
      refine WL.run ht hn 1 ⟨[(1, .sv (.one (LS (lsT intT) l))), (10, .sv (.one (.ptr 2 0))), (11, .sv (.one (.fn 75 [1, 2]))), (12, .sv (.one (I x32))), (13, .sv (.one (LS intT e))), (30, .sv (.one (LS (lsT intT) l))), (31, .sv (.one (I (l.length : Int)))), (32, .sv (.one (I x32))), (37, .sv (.one (LS (lsT intT) l))), (38, .sv (.one (I (l.length : Int)))), (39, .sv (.one (I x39))), (40, .sv (.one (B (decide (x39 < (l.length : Int))))))], [mapI encS intT m0_2, .box [.own 0] 127 false, .box [.own 5] 128 false, .gone, .gone, rowI 130 CodeRest.ty l5_2]⟩ (by kernel_rfl) ?_
      refine WL.nil ?_
      refine En.seq ?_
      refine En.cond (b := (decide (x39 < (l.length : Int)))) (by kernel_rfl) (fun hb => ?_) (fun hb => ?_)
      · replace h := h.1 hb
        refine En.skip ?_
        obtain ⟨J, h, hJ⟩ := h
        refine En.seqJ (σ := (List (ByteArray × Int)) × (List CodeRest)) (fun zz => J zz.1 zz.2) (fun zz => ⟨[(1, .sv (.one (LS (lsT intT) l))), (10, .sv (.one (.ptr 2 0))), (11, .sv (.one (.fn 75 [1, 2]))), (12, .sv (.one (I x32))), (13, .sv (.one (LS intT e))), (30, .sv (.one (LS (lsT intT) l))), (31, .sv (.one (I (l.length : Int)))), (32, .sv (.one (I x32))), (37, .sv (.one (LS (lsT intT) l))), (38, .sv (.one (I (l.length : Int)))), (39, .sv (.one (I x39)))], [mapI encS intT zz.1, .box [.own 0] 127 false, .box [.own 5] 128 false, .gone, .gone, rowI 130 CodeRest.ty zz.2]⟩) ?_ ?_
        · refine En.block ?_
          refine En.seq ?_
          refine En.region ?_
          refine WL.run ht hn 1 ⟨[(1, .sv (.one (LS (lsT intT) l))), (10, .sv (.one (.ptr 2 0))), (11, .sv (.one (.fn 75 [1, 2]))), (12, .sv (.one (I x32))), (13, .sv (.one (LS intT e))), (30, .sv (.one (LS (lsT intT) l))), (31, .sv (.one (I (l.length : Int)))), (32, .sv (.one (I x32))), (37, .sv (.one (LS (lsT intT) l))), (38, .sv (.one (I (l.length : Int)))), (39, .sv (.one (I x39))), (41, .sv (.one (I x39)))], [mapI encS intT m0_2, .box [.own 0] 127 false, .box [.own 5] 128 false, .gone, .gone, rowI 130 CodeRest.ty l5_2]⟩ (by kernel_rfl) ?_
          obtain ⟨e_2, he_2, h⟩ := h
          refine WL.val hn (by rfl) (val_index (T := (lsT intT)) (l := l) (i := x39) ht rfl (by rfl) (by rfl) (by rfl) (by rfl) (by rfl) (by rfl) he_2) (by rfl) ?_
          refine WL.val hn (by rfl) (val_load (s := .one (LS intT e_2)) ht rfl (by rfl) (by rfl) (by rfl) (by rfl) (by rfl)) (by rfl) ?_
          refine WL.run ht hn 2 ⟨[(1, .sv (.one (LS (lsT intT) l))), (10, .sv (.one (.ptr 2 0))), (11, .sv (.one (.fn 75 [1, 2]))), (12, .sv (.one (I x32))), (13, .sv (.one (LS intT e))), (14, .sv (.one (I x39))), (15, .sv (.one (LS intT e_2))), (30, .sv (.one (LS (lsT intT) l))), (31, .sv (.one (I (l.length : Int)))), (32, .sv (.one (I x32))), (37, .sv (.one (LS (lsT intT) l))), (38, .sv (.one (I (l.length : Int)))), (39, .sv (.one (I x39)))], [mapI encS intT m0_2, .box [.own 0] 127 false, .box [.own 5] 128 false, .gone, .gone, rowI 130 CodeRest.ty l5_2]⟩ (by kernel_rfl) ?_
          refine WL.nil ?_
          obtain ⟨J_2, h, hJ_2⟩ := h
          refine En.seqJ (σ := Bool) (fun zz => J_2 zz) (fun zz => ⟨[(1, .sv (.one (LS (lsT intT) l))), (10, .sv (.one (.ptr 2 0))), (11, .sv (.one (.fn 75 [1, 2]))), (12, .sv (.one (I x32))), (13, .sv (.one (LS intT e))), (14, .sv (.one (I x39))), (15, .sv (.one (LS intT e_2))), (30, .sv (.one (LS (lsT intT) l))), (31, .sv (.one (I (l.length : Int)))), (32, .sv (.one (I x32))), (37, .sv (.one (LS (lsT intT) l))), (38, .sv (.one (I (l.length : Int)))), (39, .sv (.one (I x39))), (61, .sv (.one (B zz)))], [mapI encS intT m0_2, .box [.own 0] 127 false, .box [.own 5] 128 false, .gone, .gone, rowI 130 CodeRest.ty l5_2]⟩) ?_ ?_
          · refine En.region ?_
            refine WL.run ht hn 4 ⟨[(1, .sv (.one (LS (lsT intT) l))), (10, .sv (.one (.ptr 2 0))), (11, .sv (.one (.fn 75 [1, 2]))), (12, .sv (.one (I x32))), (13, .sv (.one (LS intT e))), (14, .sv (.one (I x39))), (15, .sv (.one (LS intT e_2))), (30, .sv (.one (LS (lsT intT) l))), (31, .sv (.one (I (l.length : Int)))), (32, .sv (.one (I x32))), (37, .sv (.one (LS (lsT intT) l))), (38, .sv (.one (I (l.length : Int)))), (39, .sv (.one (I x39))), (47, .sv (.one (B (x32 != x39))))], [mapI encS intT m0_2, .box [.own 0] 127 false, .box [.own 5] 128 false, .gone, .gone, rowI 130 CodeRest.ty l5_2]⟩ (by kernel_rfl) ?_
            refine splitB (x32 != x39) (fun hb => ?_) (fun hb => ?_)
            · replace h := h.1 hb
              refine WL.setB 47 hb (by kernel_rfl) ?_
              refine WL.run ht hn 7 ⟨[(1, .sv (.one (LS (lsT intT) l))), (10, .sv (.one (.ptr 2 0))), (11, .sv (.one (.fn 75 [1, 2]))), (12, .sv (.one (I x32))), (13, .sv (.one (LS intT e))), (14, .sv (.one (I x39))), (15, .sv (.one (LS intT e_2))), (30, .sv (.one (LS (lsT intT) l))), (31, .sv (.one (I (l.length : Int)))), (32, .sv (.one (I x32))), (37, .sv (.one (LS (lsT intT) l))), (38, .sv (.one (I (l.length : Int)))), (39, .sv (.one (I x39))), (54, .sv (.one (B (decide ((e.length : Int) ≥ (e_2.length : Int))))))], [mapI encS intT m0_2, .box [.own 0] 127 false, .box [.own 5] 128 false, .gone, .gone, rowI 130 CodeRest.ty l5_2]⟩ (by kernel_rfl) ?_
              refine splitB (decide ((e.length : Int) ≥ (e_2.length : Int))) (fun hb => ?_) (fun hb => ?_)
              · replace h := h.1 hb
                refine WL.setB 54 hb (by kernel_rfl) ?_
                refine WL.run ht hn 3 ⟨[(1, .sv (.one (LS (lsT intT) l))), (10, .sv (.one (.ptr 2 0))), (11, .sv (.one (.fn 75 [1, 2]))), (12, .sv (.one (I x32))), (13, .sv (.one (LS intT e))), (14, .sv (.one (I x39))), (15, .sv (.one (LS intT e_2))), (30, .sv (.one (LS (lsT intT) l))), (31, .sv (.one (I (l.length : Int)))), (32, .sv (.one (I x32))), (37, .sv (.one (LS (lsT intT) l))), (38, .sv (.one (I (l.length : Int)))), (39, .sv (.one (I x39))), (54, .sv (.one (B true))), (55, .sv (.one (LS intT e))), (57, .sv (.one (I (e_2.length : Int))))], [mapI encS intT m0_2, .box [.own 0] 127 false, .box [.own 5] 128 false, .gone, .gone, rowI 130 CodeRest.ty l5_2]⟩ (by kernel_rfl) ?_
                have hp := h.1
                replace h := h.2
                refine WL.val hn (by rfl) (val_slice (T := intT) (l := e) (lv := 0) (hv := (e_2.length : Int)) ht rfl (by rfl) (by rfl) (by rfl) (by rfl) (by rfl) (by rfl) (by rfl) hp) (by rfl) ?_
                refine WL.run ht hn 1 ⟨[(1, .sv (.one (LS (lsT intT) l))), (10, .sv (.one (.ptr 2 0))), (11, .sv (.one (.fn 75 [1, 2]))), (12, .sv (.one (I x32))), (13, .sv (.one (LS intT e))), (14, .sv (.one (I x39))), (15, .sv (.one (LS intT e_2))), (30, .sv (.one (LS (lsT intT) l))), (31, .sv (.one (I (l.length : Int)))), (32, .sv (.one (I x32))), (37, .sv (.one (LS (lsT intT) l))), (38, .sv (.one (I (l.length : Int)))), (39, .sv (.one (I x39))), (54, .sv (.one (B true))), (58, .sv (.one (LS intT ((e.take ((e_2.length : Int) : Int).toNat).drop (0 : Int).toNat)))), (59, .sv (.one (LS intT e_2)))], [mapI encS intT m0_2, .box [.own 0] 127 false, .box [.own 5] 128 false, .gone, .gone, rowI 130 CodeRest.ty l5_2]⟩ (by kernel_rfl) ?_
                refine WL.mt0 (K := []) (p := none) hn (by rfl) (mt_call (equalI_ct ((e.take ((e_2.length : Int) : Int).toNat).drop (0 : Int).toNat) e_2) en60 (caps := []) [] rfl (by rfl) (by kernel_rfl) (by kernel_rfl) (by rfl) (by rfl) (by rfl)) (by rfl) (by rfl) (by rfl) ?_
                refine WL.run ht hn 1 ⟨[(1, .sv (.one (LS (lsT intT) l))), (10, .sv (.one (.ptr 2 0))), (11, .sv (.one (.fn 75 [1, 2]))), (12, .sv (.one (I x32))), (13, .sv (.one (LS intT e))), (14, .sv (.one (I x39))), (15, .sv (.one (LS intT e_2))), (30, .sv (.one (LS (lsT intT) l))), (31, .sv (.one (I (l.length : Int)))), (32, .sv (.one (I x32))), (37, .sv (.one (LS (lsT intT) l))), (38, .sv (.one (I (l.length : Int)))), (39, .sv (.one (I x39))), (61, .sv (.one (B (decide (((e.take ((e_2.length : Int) : Int).toNat).drop (0 : Int).toNat) = e_2)))))], [mapI encS intT m0_2, .box [.own 0] 127 false, .box [.own 5] 128 false, .gone, .gone, rowI 130 CodeRest.ty l5_2]⟩ (by kernel_rfl) ?_
                refine WL.nil ?_
                exact En.at (I := fun zz => J_2 zz) (T := fun zz => ⟨[(1, .sv (.one (LS (lsT intT) l))), (10, .sv (.one (.ptr 2 0))), (11, .sv (.one (.fn 75 [1, 2]))), (12, .sv (.one (I x32))), (13, .sv (.one (LS intT e))), (14, .sv (.one (I x39))), (15, .sv (.one (LS intT e_2))), (30, .sv (.one (LS (lsT intT) l))), (31, .sv (.one (I (l.length : Int)))), (32, .sv (.one (I x32))), (37, .sv (.one (LS (lsT intT) l))), (38, .sv (.one (I (l.length : Int)))), (39, .sv (.one (I x39))), (61, .sv (.one (B zz)))], [mapI encS intT m0_2, .box [.own 0] 127 false, .box [.own 5] 128 false, .gone, .gone, rowI 130 CodeRest.ty l5_2]⟩) (decide (((e.take ((e_2.length : Int) : Int).toNat).drop (0 : Int).toNat) = e_2)) h (by kernel_rfl)
              · replace h := h.2 hb
                refine WL.setB 54 hb (by kernel_rfl) ?_
                refine WL.run ht hn 7 ⟨[(1, .sv (.one (LS (lsT intT) l))), (10, .sv (.one (.ptr 2 0))), (11, .sv (.one (.fn 75 [1, 2]))), (12, .sv (.one (I x32))), (13, .sv (.one (LS intT e))), (14, .sv (.one (I x39))), (15, .sv (.one (LS intT e_2))), (30, .sv (.one (LS (lsT intT) l))), (31, .sv (.one (I (l.length : Int)))), (32, .sv (.one (I x32))), (37, .sv (.one (LS (lsT intT) l))), (38, .sv (.one (I (l.length : Int)))), (39, .sv (.one (I x39))), (61, .sv (.one (B false)))], [mapI encS intT m0_2, .box [.own 0] 127 false, .box [.own 5] 128 false, .gone, .gone, rowI 130 CodeRest.ty l5_2]⟩ (by kernel_rfl) ?_
                refine WL.nil ?_
                exact En.at (I := fun zz => J_2 zz) (T := fun zz => ⟨[(1, .sv (.one (LS (lsT intT) l))), (10, .sv (.one (.ptr 2 0))), (11, .sv (.one (.fn 75 [1, 2]))), (12, .sv (.one (I x32))), (13, .sv (.one (LS intT e))), (14, .sv (.one (I x39))), (15, .sv (.one (LS intT e_2))), (30, .sv (.one (LS (lsT intT) l))), (31, .sv (.one (I (l.length : Int)))), (32, .sv (.one (I x32))), (37, .sv (.one (LS (lsT intT) l))), (38, .sv (.one (I (l.length : Int)))), (39, .sv (.one (I x39))), (61, .sv (.one (B zz)))], [mapI encS intT m0_2, .box [.own 0] 127 false, .box [.own 5] 128 false, .gone, .gone, rowI 130 CodeRest.ty l5_2]⟩) false h (by kernel_rfl)
            · replace h := h.2 hb
              refine WL.setB 47 hb (by kernel_rfl) ?_
              refine WL.run ht hn 14 ⟨[(1, .sv (.one (LS (lsT intT) l))), (10, .sv (.one (.ptr 2 0))), (11, .sv (.one (.fn 75 [1, 2]))), (12, .sv (.one (I x32))), (13, .sv (.one (LS intT e))), (14, .sv (.one (I x39))), (15, .sv (.one (LS intT e_2))), (30, .sv (.one (LS (lsT intT) l))), (31, .sv (.one (I (l.length : Int)))), (32, .sv (.one (I x32))), (37, .sv (.one (LS (lsT intT) l))), (38, .sv (.one (I (l.length : Int)))), (39, .sv (.one (I x39))), (61, .sv (.one (B false)))], [mapI encS intT m0_2, .box [.own 0] 127 false, .box [.own 5] 128 false, .gone, .gone, rowI 130 CodeRest.ty l5_2]⟩ (by kernel_rfl) ?_
              refine WL.nil ?_
              exact En.at (I := fun zz => J_2 zz) (T := fun zz => ⟨[(1, .sv (.one (LS (lsT intT) l))), (10, .sv (.one (.ptr 2 0))), (11, .sv (.one (.fn 75 [1, 2]))), (12, .sv (.one (I x32))), (13, .sv (.one (LS intT e))), (14, .sv (.one (I x39))), (15, .sv (.one (LS intT e_2))), (30, .sv (.one (LS (lsT intT) l))), (31, .sv (.one (I (l.length : Int)))), (32, .sv (.one (I x32))), (37, .sv (.one (LS (lsT intT) l))), (38, .sv (.one (I (l.length : Int)))), (39, .sv (.one (I x39))), (61, .sv (.one (B zz)))], [mapI encS intT m0_2, .box [.own 0] 127 false, .box [.own 5] 128 false, .gone, .gone, rowI 130 CodeRest.ty l5_2]⟩) false h (by kernel_rfl)
          · intro x61 h
            replace h := hJ_2 _ h
            show En c ⟨[(1, .sv (.one (LS (lsT intT) l))), (10, .sv (.one (.ptr 2 0))), (11, .sv (.one (.fn 75 [1, 2]))), (12, .sv (.one (I x32))), (13, .sv (.one (LS intT e))), (14, .sv (.one (I x39))), (15, .sv (.one (LS intT e_2))), (30, .sv (.one (LS (lsT intT) l))), (31, .sv (.one (I (l.length : Int)))), (32, .sv (.one (I x32))), (37, .sv (.one (LS (lsT intT) l))), (38, .sv (.one (I (l.length : Int)))), (39, .sv (.one (I x39))), (61, .sv (.one (B x61)))], [mapI encS intT m0_2, .box [.own 0] 127 false, .box [.own 5] 128 false, .gone, .gone, rowI 130 CodeRest.ty l5_2]⟩ _
            refine En.cond (b := x61) (by kernel_rfl) (fun hb => ?_) (fun hb => ?_)
            · replace h := h.1 hb
              refine En.region ?_
              refine WL.run ht hn 4 ⟨[(1, .sv (.one (LS (lsT intT) l))), (10, .sv (.one (.ptr 2 0))), (11, .sv (.one (.fn 75 [1, 2]))), (12, .sv (.one (I x32))), (13, .sv (.one (LS intT e))), (14, .sv (.one (I x39))), (30, .sv (.one (LS (lsT intT) l))), (31, .sv (.one (I (l.length : Int)))), (32, .sv (.one (I x32))), (37, .sv (.one (LS (lsT intT) l))), (38, .sv (.one (I (l.length : Int)))), (39, .sv (.one (I x39))), (62, .sv (.one (.fn 75 [1, 2]))), (63, .sv (.one (LS intT e))), (65, .sv (.one (I (e_2.length : Int))))], [mapI encS intT m0_2, .box [.own 0] 127 false, .box [.own 5] 128 false, .gone, .gone, rowI 130 CodeRest.ty l5_2]⟩ (by kernel_rfl) ?_
              have hp := h.1
              replace h := h.2
              refine WL.val hn (by rfl) (val_slice (T := intT) (l := e) (lv := (e_2.length : Int)) (hv := (e.length : Int)) ht rfl (by rfl) (by rfl) (by rfl) (by rfl) (by rfl) (by rfl) (by rfl) hp) (by rfl) ?_
              refine WL.run ht hn 1 ⟨[(1, .sv (.one (LS (lsT intT) l))), (10, .sv (.one (.ptr 2 0))), (11, .sv (.one (.fn 75 [1, 2]))), (12, .sv (.one (I x32))), (13, .sv (.one (LS intT e))), (14, .sv (.one (I x39))), (30, .sv (.one (LS (lsT intT) l))), (31, .sv (.one (I (l.length : Int)))), (32, .sv (.one (I x32))), (37, .sv (.one (LS (lsT intT) l))), (38, .sv (.one (I (l.length : Int)))), (39, .sv (.one (I x39))), (62, .sv (.one (.fn 75 [1, 2]))), (66, .sv (.one (LS intT ((e.take ((e.length : Int) : Int).toNat).drop ((e_2.length : Int) : Int).toNat)))), (67, .sv (.one (I x32)))], [mapI encS intT m0_2, .box [.own 0] 127 false, .box [.own 5] 128 false, .gone, .gone, rowI 130 CodeRest.ty l5_2]⟩ (by kernel_rfl) ?_
              refine WL.mt0 (K := []) (p := some (6, rowI 3 intT ([x32] : (List Int)))) hn (by rfl) (mt_lit (T := intT) ([x32] : (List Int)) (mt_bsl 6 (r := cellsOf intT ([x32] : (List Int))) ht rfl (by rfl) (by rfl) (by rfl) (by kernel_rfl) (by rfl)) (fun _ h => by cases h) (fun _ => rfl) (fun _ => rfl) (by rfl) (Nat.le_of_ble_eq_true rfl)) (by rfl) (by rfl) (by rfl) ?_
              refine WL.run ht hn 1 ⟨[(1, .sv (.one (LS (lsT intT) l))), (10, .sv (.one (.ptr 2 0))), (11, .sv (.one (.fn 75 [1, 2]))), (12, .sv (.one (I x32))), (13, .sv (.one (LS intT e))), (30, .sv (.one (LS (lsT intT) l))), (31, .sv (.one (I (l.length : Int)))), (32, .sv (.one (I x32))), (37, .sv (.one (LS (lsT intT) l))), (38, .sv (.one (I (l.length : Int)))), (39, .sv (.one (I x39))), (62, .sv (.one (.fn 75 [1, 2]))), (66, .sv (.one (LS intT ((e.take ((e.length : Int) : Int).toNat).drop ((e_2.length : Int) : Int).toNat)))), (68, .sv (.one (.own 6))), (69, .sv (.one (I x39)))], [mapI encS intT m0_2, .box [.own 0] 127 false, .box [.own 5] 128 false, .gone, .gone, rowI 130 CodeRest.ty l5_2, rowI 3 intT ([x32] : (List Int))]⟩ (by kernel_rfl) ?_
              refine WL.mt0 (K := []) (p := some (7, rowI 3 intT ([x39] : (List Int)))) hn (by rfl) (mt_lit (T := intT) ([x39] : (List Int)) (mt_bsl 7 (r := cellsOf intT ([x39] : (List Int))) ht rfl (by rfl) (by rfl) (by rfl) (by kernel_rfl) (by rfl)) (fun _ h => by cases h) (fun _ => rfl) (fun _ => rfl) (by rfl) (Nat.le_of_ble_eq_true rfl)) (by rfl) (by rfl) (by rfl) ?_
              refine WL.run ht hn 1 ⟨[(1, .sv (.one (LS (lsT intT) l))), (10, .sv (.one (.ptr 2 0))), (11, .sv (.one (.fn 75 [1, 2]))), (12, .sv (.one (I x32))), (13, .sv (.one (LS intT e))), (30, .sv (.one (LS (lsT intT) l))), (31, .sv (.one (I (l.length : Int)))), (32, .sv (.one (I x32))), (37, .sv (.one (LS (lsT intT) l))), (38, .sv (.one (I (l.length : Int)))), (39, .sv (.one (I x39))), (62, .sv (.one (.fn 75 [1, 2]))), (71, .sv (.agg [LS intT ((e.take ((e.length : Int) : Int).toNat).drop ((e_2.length : Int) : Int).toNat), .own 6, .own 7]))], [mapI encS intT m0_2, .box [.own 0] 127 false, .box [.own 5] 128 false, .gone, .gone, rowI 130 CodeRest.ty l5_2, rowI 3 intT ([x32] : (List Int)), rowI 3 intT ([x39] : (List Int))]⟩ (by kernel_rfl) ?_
              refine WL.seal (T := intT) (l := ([x32] : (List Int))) (e := 3) 6 rfl ?_
              refine WL.run ht hn 0 ⟨[(1, .sv (.one (LS (lsT intT) l))), (10, .sv (.one (.ptr 2 0))), (11, .sv (.one (.fn 75 [1, 2]))), (12, .sv (.one (I x32))), (13, .sv (.one (LS intT e))), (30, .sv (.one (LS (lsT intT) l))), (31, .sv (.one (I (l.length : Int)))), (32, .sv (.one (I x32))), (37, .sv (.one (LS (lsT intT) l))), (38, .sv (.one (I (l.length : Int)))), (39, .sv (.one (I x39))), (62, .sv (.one (.fn 75 [1, 2]))), (71, .sv (.agg [LS intT ((e.take ((e.length : Int) : Int).toNat).drop ((e_2.length : Int) : Int).toNat), LS intT ([x32] : (List Int)), .own 7]))], [mapI encS intT m0_2, .box [.own 0] 127 false, .box [.own 5] 128 false, .gone, .gone, rowI 130 CodeRest.ty l5_2, .gone, rowI 3 intT ([x39] : (List Int))]⟩ (by kernel_rfl) ?_
              refine WL.seal (T := intT) (l := ([x39] : (List Int))) (e := 3) 7 rfl ?_
              refine WL.run ht hn 0 ⟨[(1, .sv (.one (LS (lsT intT) l))), (10, .sv (.one (.ptr 2 0))), (11, .sv (.one (.fn 75 [1, 2]))), (12, .sv (.one (I x32))), (13, .sv (.one (LS intT e))), (30, .sv (.one (LS (lsT intT) l))), (31, .sv (.one (I (l.length : Int)))), (32, .sv (.one (I x32))), (37, .sv (.one (LS (lsT intT) l))), (38, .sv (.one (I (l.length : Int)))), (39, .sv (.one (I x39))), (62, .sv (.one (.fn 75 [1, 2]))), (71, .sv (.agg [LS intT ((e.take ((e.length : Int) : Int).toNat).drop ((e_2.length : Int) : Int).toNat), LS intT ([x32] : (List Int)), LS intT ([x39] : (List Int))]))], [mapI encS intT m0_2, .box [.own 0] 127 false, .box [.own 5] 128 false, .gone, .gone, rowI 130 CodeRest.ty l5_2, .gone, .gone]⟩ (by kernel_rfl) ?_
              have hp := h.1
              replace h := h.2
              refine WL.callE (codPut_ct m0_2 l5_2 (CodeRest.mk ((e.take ((e.length : Int) : Int).toNat).drop ((e_2.length : Int) : Int).toNat) ([x32] : (List Int)) ([x39] : (List Int))) hp) en75 (caps := [1, 2]) [1, 0, 2, 5] hn (by rfl) rfl (by rfl) (argsAs (by kernel_rfl) (by rfl)) (by kernel_rfl) (by decide) (by rfl) (by rfl) (fun _ _ => ⟨by rfl, _, by rfl, ?_⟩)
              refine WL.nil ?_
              exact En.at (I := fun zz => J zz.1 zz.2) (T := fun zz => ⟨[(1, .sv (.one (LS (lsT intT) l))), (10, .sv (.one (.ptr 2 0))), (11, .sv (.one (.fn 75 [1, 2]))), (12, .sv (.one (I x32))), (13, .sv (.one (LS intT e))), (30, .sv (.one (LS (lsT intT) l))), (31, .sv (.one (I (l.length : Int)))), (32, .sv (.one (I x32))), (37, .sv (.one (LS (lsT intT) l))), (38, .sv (.one (I (l.length : Int)))), (39, .sv (.one (I x39)))], [mapI encS intT zz.1, .box [.own 0] 127 false, .box [.own 5] 128 false, .gone, .gone, rowI 130 CodeRest.ty zz.2]⟩) ((putM m0_2 (CodeRest.mk ((e.take ((e.length : Int) : Int).toNat).drop ((e_2.length : Int) : Int).toNat) ([x32] : (List Int)) ([x39] : (List Int)))), (putR m0_2 l5_2 (CodeRest.mk ((e.take ((e.length : Int) : Int).toNat).drop ((e_2.length : Int) : Int).toNat) ([x32] : (List Int)) ([x39] : (List Int))))) h (by kernel_rfl)
            · replace h := h.2 hb
              refine En.skip ?_
              exact En.at (I := fun zz => J zz.1 zz.2) (T := fun zz => ⟨[(1, .sv (.one (LS (lsT intT) l))), (10, .sv (.one (.ptr 2 0))), (11, .sv (.one (.fn 75 [1, 2]))), (12, .sv (.one (I x32))), (13, .sv (.one (LS intT e))), (30, .sv (.one (LS (lsT intT) l))), (31, .sv (.one (I (l.length : Int)))), (32, .sv (.one (I x32))), (37, .sv (.one (LS (lsT intT) l))), (38, .sv (.one (I (l.length : Int)))), (39, .sv (.one (I x39)))], [mapI encS intT zz.1, .box [.own 0] 127 false, .box [.own 5] 128 false, .gone, .gone, rowI 130 CodeRest.ty zz.2]⟩) (m0_2, l5_2) h (by kernel_rfl)
        · rintro ⟨m0_3, l5_3⟩ h
          replace h := hJ _ _ h
          show En c ⟨[(1, .sv (.one (LS (lsT intT) l))), (10, .sv (.one (.ptr 2 0))), (11, .sv (.one (.fn 75 [1, 2]))), (12, .sv (.one (I x32))), (13, .sv (.one (LS intT e))), (30, .sv (.one (LS (lsT intT) l))), (31, .sv (.one (I (l.length : Int)))), (32, .sv (.one (I x32))), (37, .sv (.one (LS (lsT intT) l))), (38, .sv (.one (I (l.length : Int)))), (39, .sv (.one (I x39)))], [mapI encS intT m0_3, .box [.own 0] 127 false, .box [.own 5] 128 false, .gone, .gone, rowI 130 CodeRest.ty l5_3]⟩ _
          refine En.region ?_
          refine WL.run ht hn 2 ⟨[(1, .sv (.one (LS (lsT intT) l))), (10, .sv (.one (.ptr 2 0))), (11, .sv (.one (.fn 75 [1, 2]))), (12, .sv (.one (I x32))), (13, .sv (.one (LS intT e))), (30, .sv (.one (LS (lsT intT) l))), (31, .sv (.one (I (l.length : Int)))), (32, .sv (.one (I x32))), (37, .sv (.one (LS (lsT intT) l))), (38, .sv (.one (I (l.length : Int)))), (39, .sv (.one (I (wr (x39 + 1)))))], [mapI encS intT m0_3, .box [.own 0] 127 false, .box [.own 5] 128 false, .gone, .gone, rowI 130 CodeRest.ty l5_3]⟩ (by kernel_rfl) ?_
          refine WL.nil ?_
          exact En.at (I := fun zz => Inv_2 zz.1 zz.2.1 zz.2.2 ∧ mu_2 zz.1 zz.2.1 zz.2.2 < mu_2 x39 m0_2 l5_2) (T := fun zz => ⟨[(1, .sv (.one (LS (lsT intT) l))), (10, .sv (.one (.ptr 2 0))), (11, .sv (.one (.fn 75 [1, 2]))), (12, .sv (.one (I x32))), (13, .sv (.one (LS intT e))), (30, .sv (.one (LS (lsT intT) l))), (31, .sv (.one (I (l.length : Int)))), (32, .sv (.one (I x32))), (37, .sv (.one (LS (lsT intT) l))), (38, .sv (.one (I (l.length : Int)))), (39, .sv (.one (I zz.1)))], [mapI encS intT zz.2.1, .box [.own 0] 127 false, .box [.own 5] 128 false, .gone, .gone, rowI 130 CodeRest.ty zz.2.2]⟩) ((wr (x39 + 1)), m0_3, l5_3) h (by kernel_rfl)
      · replace h := h.2 hb
        refine En.exit rfl ?_
        refine En.region ?_
        refine WL.run ht hn 2 ⟨[(1, .sv (.one (LS (lsT intT) l))), (10, .sv (.one (.ptr 2 0))), (11, .sv (.one (.fn 75 [1, 2]))), (30, .sv (.one (LS (lsT intT) l))), (31, .sv (.one (I (l.length : Int)))), (32, .sv (.one (I (wr (x32 + 1)))))], [mapI encS intT m0_2, .box [.own 0] 127 false, .box [.own 5] 128 false, .gone, .gone, rowI 130 CodeRest.ty l5_2]⟩ (by kernel_rfl) ?_
        refine WL.nil ?_
        exact En.at (I := fun zz => Inv zz.1 zz.2.1 zz.2.2 ∧ mu zz.1 zz.2.1 zz.2.2 < mu x32 m0 l5) (T := fun zz => ⟨[(1, .sv (.one (LS (lsT intT) l))), (10, .sv (.one (.ptr 2 0))), (11, .sv (.one (.fn 75 [1, 2]))), (30, .sv (.one (LS (lsT intT) l))), (31, .sv (.one (I (l.length : Int)))), (32, .sv (.one (I zz.1)))], [mapI encS intT zz.2.1, .box [.own 0] 127 false, .box [.own 5] 128 false, .gone, .gone, rowI 130 CodeRest.ty zz.2.2]⟩) ((wr (x32 + 1)), m0_2, l5_2) h (by kernel_rfl)
    · replace h := h.2 hb
      refine En.exit rfl ?_
      refine En.seq ?_
      refine En.seq ?_
      refine En.region ?_
      refine WL.run ht hn 1 ⟨[(1, .sv (.one (LS (lsT intT) l))), (10, .sv (.one (.ptr 2 0))), (11, .sv (.one (.fn 75 [1, 2]))), (16, .sv (.one (I 0)))], [mapI encS intT m0, .box [.own 0] 127 false, .box [.own 5] 128 false, .gone, .gone, rowI 130 CodeRest.ty l5]⟩ (by kernel_rfl) ?_
      refine WL.nil ?_
      refine En.block ?_
      obtain ⟨Inv_3, mu_3, h0_3, hI_3⟩ := h
      refine En.loop (σ := Int × (List (ByteArray × Int)) × (List CodeRest)) (fun zz => Inv_3 zz.1 zz.2.1 zz.2.2) (fun zz => mu_3 zz.1 zz.2.1 zz.2.2) (fun zz => ⟨[(1, .sv (.one (LS (lsT intT) l))), (10, .sv (.one (.ptr 2 0))), (11, .sv (.one (.fn 75 [1, 2]))), (16, .sv (.one (I zz.1)))], [mapI encS intT zz.2.1, .box [.own 0] 127 false, .box [.own 5] 128 false, .gone, .gone, rowI 130 CodeRest.ty zz.2.2]⟩) (0, m0, l5) h0_3 (sub_ok (by kernel_rfl)) ?_
      rintro ⟨x16, m0_4, l5_4⟩ h
      replace h := hI_3 _ _ _ h
      show En c ⟨[(1, .sv (.one (LS (lsT intT) l))), (10, .sv (.one (.ptr 2 0))), (11, .sv (.one (.fn 75 [1, 2]))), (16, .sv (.one (I x16)))], [mapI encS intT m0_4, .box [.own 0] 127 false, .box [.own 5] 128 false, .gone, .gone, rowI 130 CodeRest.ty l5_4]⟩ _
      refine En.seq ?_
      refine En.seq ?_
      refine En.region ?_
      refine WL.run ht hn 4 ⟨[(1, .sv (.one (LS (lsT intT) l))), (10, .sv (.one (.ptr 2 0))), (11, .sv (.one (.fn 75 [1, 2]))), (16, .sv (.one (I x16))), (78, .sv (.one (B (decide (x16 < (l5_4.length : Int))))))], [mapI encS intT m0_4, .box [.own 0] 127 false, .box [.own 5] 128 false, .gone, .gone, rowI 130 CodeRest.ty l5_4]⟩ (by kernel_rfl) ?_
      refine WL.nil ?_
      refine En.cond (b := (decide (x16 < (l5_4.length : Int)))) (by kernel_rfl) (fun hb => ?_) (fun hb => ?_)
      · replace h := h.1 hb
        refine En.skip ?_
        refine En.seq ?_
        refine En.block ?_
        refine En.seq ?_
        refine En.region ?_
        refine WL.run ht hn 2 ⟨[(1, .sv (.one (LS (lsT intT) l))), (10, .sv (.one (.ptr 2 0))), (11, .sv (.one (.fn 75 [1, 2]))), (16, .sv (.one (I x16))), (81, .sv (.one (.own 5))), (82, .sv (.one (I x16)))], [mapI encS intT m0_4, .box [.own 0] 127 false, .box [.own 5] 128 false, .gone, .gone, rowI 130 CodeRest.ty l5_4]⟩ (by kernel_rfl) ?_
        obtain ⟨e_3, he_3, h⟩ := h
        refine WL.val hn (by rfl) (val_indexO (T := CodeRest.ty) (l := l5_4) (k := x16) ht rfl (by rfl) (by rfl) (by rfl) (by rfl) (by decide) (by rfl) (by rfl) (by rfl) he_3) (by rfl) ?_
        refine WL.val hn (by rfl) (val_loadO (T := CodeRest.ty) (l := l5_4) (y := e_3) ht rfl (by rfl) (by rfl) (by rfl) (by rfl) (by rfl) (idx_some he_3).2.2 (by rfl)) (by rfl) ?_
        refine WL.run ht hn 2 ⟨[(1, .sv (.one (LS (lsT intT) l))), (10, .sv (.one (.ptr 2 0))), (11, .sv (.one (.fn 75 [1, 2]))), (16, .sv (.one (I x16))), (17, .sv (.one (.ptr 6 0)))], [mapI encS intT m0_4, .box [.own 0] 127 false, .box [.own 5] 128 false, .gone, .gone, rowI 130 CodeRest.ty l5_4, .box [LS intT e_3.fW, LS intT e_3.fA, LS intT e_3.fB] 130 false]⟩ (by kernel_rfl) ?_
        refine WL.nil ?_
        refine En.seq ?_
        refine En.seq ?_
        refine En.region ?_
        refine WL.run ht hn 4 ⟨[(1, .sv (.one (LS (lsT intT) l))), (10, .sv (.one (.ptr 2 0))), (11, .sv (.one (.fn 75 [1, 2]))), (16, .sv (.one (I x16))), (17, .sv (.one (.ptr 6 0))), (88, .sv (.one (B ((e_3.fW.length : Int) == 0))))], [mapI encS intT m0_4, .box [.own 0] 127 false, .box [.own 5] 128 false, .gone, .gone, rowI 130 CodeRest.ty l5_4, .box [LS intT e_3.fW, LS intT e_3.fA, LS intT e_3.fB] 130 false]⟩ (by kernel_rfl) ?_
        refine WL.nil ?_
        refine En.cond (b := ((e_3.fW.length : Int) == 0)) (by kernel_rfl) (fun hb => ?_) (fun hb => ?_)
        · replace h := h.1 hb
          refine En.seq ?_
          refine En.regionS (by kernel_rfl) (by kernel_rfl) ?_
          refine SL.run ht hn 8 ⟨[(4, .sv (.one (LS intT e_3.fA))), (5, .sv (.one (LS intT e_3.fB))), (6, .sv (.one (B false))), (7, .sv (.one (I 0))), (17, .sv (.one (.ptr 6 0))), (89, .sv (.one (.ptr 6 1))), (90, .sv (.one (LS intT e_3.fA))), (91, .sv (.one (.ptr 6 2))), (92, .sv (.one (LS intT e_3.fB)))], [.gone, .gone, .gone, .gone, .gone, .gone, .box [LS intT e_3.fW, LS intT e_3.fA, LS intT e_3.fB] 130 false]⟩ (by kernel_rfl) ?_
          refine SL.nil ⟨by kernel_rfl, ?_⟩
          refine En.ret ?_
          exact En.back ht (e_3.fA, e_3.fB, false, 0) h (by kernel_rfl) rfl
        · replace h := h.2 hb
          refine En.skip ?_
          refine En.seq ?_
          refine En.region ?_
          refine WL.run ht hn 3 ⟨[(1, .sv (.one (LS (lsT intT) l))), (10, .sv (.one (.ptr 2 0))), (11, .sv (.one (.fn 75 [1, 2]))), (16, .sv (.one (I x16))), (17, .sv (.one (.ptr 6 0))), (93, .sv (.one (LS (lsT intT) l))), (94, .sv (.one (I (l.length : Int)))), (95, .sv (.one (I 0)))], [mapI encS intT m0_4, .box [.own 0] 127 false, .box [.own 5] 128 false, .gone, .gone, rowI 130 CodeRest.ty l5_4, .box [LS intT e_3.fW, LS intT e_3.fA, LS intT e_3.fB] 130 false]⟩ (by kernel_rfl) ?_
          refine WL.nil ?_
          refine En.block ?_
          obtain ⟨Inv_4, mu_4, h0_2, hI_2⟩ := h
          refine En.loop (σ := Int × (List (ByteArray × Int)) × (List CodeRest)) (fun zz => Inv_4 zz.1 zz.2.1 zz.2.2) (fun zz => mu_4 zz.1 zz.2.1 zz.2.2) (fun zz => ⟨[(1, .sv (.one (LS (lsT intT) l))), (10, .sv (.one (.ptr 2 0))), (11, .sv (.one (.fn 75 [1, 2]))), (16, .sv (.one (I x16))), (17, .sv (.one (.ptr 6 0))), (93, .sv (.one (LS (lsT intT) l))), (94, .sv (.one (I (l.length : Int)))), (95, .sv (.one (I zz.1)))], [mapI encS intT zz.2.1, .box [.own 0] 127 false, .box [.own 5] 128 false, .gone, .gone, rowI 130 CodeRest.ty zz.2.2, .box [LS intT e_3.fW, LS intT e_3.fA, LS intT e_3.fB] 130 false]⟩) (0, m0_4, l5_4) h0_2 (sub_ok (by kernel_rfl)) ?_
          rintro ⟨x95, m0_5, l5_5⟩ h
          replace h := hI_2 _ _ _ h
          show En c ⟨[(1, .sv (.one (LS (lsT intT) l))), (10, .sv (.one (.ptr 2 0))), (11, .sv (.one (.fn 75 [1, 2]))), (16, .sv (.one (I x16))), (17, .sv (.one (.ptr 6 0))), (93, .sv (.one (LS (lsT intT) l))), (94, .sv (.one (I (l.length : Int)))), (95, .sv (.one (I x95)))], [mapI encS intT m0_5, .box [.own 0] 127 false, .box [.own 5] 128 false, .gone, .gone, rowI 130 CodeRest.ty l5_5, .box [LS intT e_3.fW, LS intT e_3.fA, LS intT e_3.fB] 130 false]⟩ _
          refine En.seq ?_
          refine En.region ?_
          refine WL.run ht hn 1 ⟨[(1, .sv (.one (LS (lsT intT) l))), (10, .sv (.one (.ptr 2 0))), (11, .sv (.one (.fn 75 [1, 2]))), (16, .sv (.one (I x16))), (17, .sv (.one (.ptr 6 0))), (93, .sv (.one (LS (lsT intT) l))), (94, .sv (.one (I (l.length : Int)))), (95, .sv (.one (I x95))), (96, .sv (.one (B (decide (x95 < (l.length : Int))))))], [mapI encS intT m0_5, .box [.own 0] 127 false, .box [.own 5] 128 false, .gone, .gone, rowI 130 CodeRest.ty l5_5, .box [LS intT e_3.fW, LS intT e_3.fA, LS intT e_3.fB] 130 false]⟩ (by kernel_rfl) ?_
          refine WL.nil ?_
          refine En.seq ?_
          refine En.cond (b := (decide (x95 < (l.length : Int)))) (by kernel_rfl) (fun hb => ?_) (fun hb => ?_)
          · replace h := h.1 hb
            refine En.skip ?_
            obtain ⟨J_3, h, hJ_3⟩ := h
            refine En.seqJ (σ := (List (ByteArray × Int)) × (List CodeRest)) (fun zz => J_3 zz.1 zz.2) (fun zz => ⟨[(1, .sv (.one (LS (lsT intT) l))), (10, .sv (.one (.ptr 2 0))), (11, .sv (.one (.fn 75 [1, 2]))), (16, .sv (.one (I x16))), (17, .sv (.one (.ptr 6 0))), (93, .sv (.one (LS (lsT intT) l))), (94, .sv (.one (I (l.length : Int)))), (95, .sv (.one (I x95)))], [mapI encS intT zz.1, .box [.own 0] 127 false, .box [.own 5] 128 false, .gone, .gone, rowI 130 CodeRest.ty zz.2, .box [LS intT e_3.fW, LS intT e_3.fA, LS intT e_3.fB] 130 false, .gone, .gone]⟩) ?_ ?_
            · refine En.block ?_
              refine En.seq ?_
              refine En.region ?_
              refine WL.run ht hn 1 ⟨[(1, .sv (.one (LS (lsT intT) l))), (10, .sv (.one (.ptr 2 0))), (11, .sv (.one (.fn 75 [1, 2]))), (16, .sv (.one (I x16))), (17, .sv (.one (.ptr 6 0))), (93, .sv (.one (LS (lsT intT) l))), (94, .sv (.one (I (l.length : Int)))), (95, .sv (.one (I x95))), (97, .sv (.one (I x95)))], [mapI encS intT m0_5, .box [.own 0] 127 false, .box [.own 5] 128 false, .gone, .gone, rowI 130 CodeRest.ty l5_5, .box [LS intT e_3.fW, LS intT e_3.fA, LS intT e_3.fB] 130 false]⟩ (by kernel_rfl) ?_
              obtain ⟨e_4, he_4, h⟩ := h
              refine WL.val hn (by rfl) (val_index (T := (lsT intT)) (l := l) (i := x95) ht rfl (by rfl) (by rfl) (by rfl) (by rfl) (by rfl) (by rfl) he_4) (by rfl) ?_
              refine WL.val hn (by rfl) (val_load (s := .one (LS intT e_4)) ht rfl (by rfl) (by rfl) (by rfl) (by rfl) (by rfl)) (by rfl) ?_
              refine WL.run ht hn 2 ⟨[(1, .sv (.one (LS (lsT intT) l))), (10, .sv (.one (.ptr 2 0))), (11, .sv (.one (.fn 75 [1, 2]))), (16, .sv (.one (I x16))), (17, .sv (.one (.ptr 6 0))), (18, .sv (.one (I x95))), (19, .sv (.one (LS intT e_4))), (93, .sv (.one (LS (lsT intT) l))), (94, .sv (.one (I (l.length : Int)))), (95, .sv (.one (I x95)))], [mapI encS intT m0_5, .box [.own 0] 127 false, .box [.own 5] 128 false, .gone, .gone, rowI 130 CodeRest.ty l5_5, .box [LS intT e_3.fW, LS intT e_3.fA, LS intT e_3.fB] 130 false]⟩ (by kernel_rfl) ?_
              refine WL.nil ?_
              refine En.seq ?_
              refine En.region ?_
              refine WL.run ht hn 2 ⟨[(1, .sv (.one (LS (lsT intT) l))), (10, .sv (.one (.ptr 2 0))), (11, .sv (.one (.fn 75 [1, 2]))), (16, .sv (.one (I x16))), (17, .sv (.one (.ptr 6 0))), (18, .sv (.one (I x95))), (19, .sv (.one (LS intT e_4))), (93, .sv (.one (LS (lsT intT) l))), (94, .sv (.one (I (l.length : Int)))), (95, .sv (.one (I x95))), (101, .sv (.one (LS intT e_3.fB)))], [mapI encS intT m0_5, .box [.own 0] 127 false, .box [.own 5] 128 false, .gone, .gone, rowI 130 CodeRest.ty l5_5, .box [LS intT e_3.fW, LS intT e_3.fA, LS intT e_3.fB] 130 false]⟩ (by kernel_rfl) ?_
              have hp := h.1
              replace h := h.2
              refine WL.mt0 (K := []) (p := some (7, rowI 3 intT (e_3.fB))) hn (by rfl) (mt_callI 7 (cloneInt_ct e_3.fB hp) en62 (caps := []) [] rfl rfl (by rfl) (by kernel_rfl) (by kernel_rfl) (by rfl) (by rfl)) (by rfl) (by rfl) (by rfl) ?_
              refine WL.run ht hn 1 ⟨[(1, .sv (.one (LS (lsT intT) l))), (10, .sv (.one (.ptr 2 0))), (11, .sv (.one (.fn 75 [1, 2]))), (16, .sv (.one (I x16))), (17, .sv (.one (.ptr 6 0))), (19, .sv (.one (LS intT e_4))), (93, .sv (.one (LS (lsT intT) l))), (94, .sv (.one (I (l.length : Int)))), (95, .sv (.one (I x95))), (102, .sv (.one (.own 7))), (103, .sv (.one (I x95)))], [mapI encS intT m0_5, .box [.own 0] 127 false, .box [.own 5] 128 false, .gone, .gone, rowI 130 CodeRest.ty l5_5, .box [LS intT e_3.fW, LS intT e_3.fA, LS intT e_3.fB] 130 false, rowI 3 intT (e_3.fB)]⟩ (by kernel_rfl) ?_
              refine WL.mt0 (K := []) (p := some (8, rowI 3 intT ([x95] : (List Int)))) hn (by rfl) (mt_lit (T := intT) ([x95] : (List Int)) (mt_bsl 8 (r := cellsOf intT ([x95] : (List Int))) ht rfl (by rfl) (by rfl) (by rfl) (by kernel_rfl) (by rfl)) (fun _ h => by cases h) (fun _ => rfl) (fun _ => rfl) (by rfl) (Nat.le_of_ble_eq_true rfl)) (by rfl) (by rfl) (by rfl) ?_
              refine WL.seal (T := intT) (l := ([x95] : (List Int))) (e := 3) 8 rfl ?_
              refine WL.run ht hn 0 ⟨[(1, .sv (.one (LS (lsT intT) l))), (10, .sv (.one (.ptr 2 0))), (11, .sv (.one (.fn 75 [1, 2]))), (16, .sv (.one (I x16))), (17, .sv (.one (.ptr 6 0))), (19, .sv (.one (LS intT e_4))), (93, .sv (.one (LS (lsT intT) l))), (94, .sv (.one (I (l.length : Int)))), (95, .sv (.one (I x95))), (102, .sv (.one (.own 7))), (103, .sv (.one (I x95))), (104, .sv (.one (LS intT ([x95] : (List Int)))))], [mapI encS intT m0_5, .box [.own 0] 127 false, .box [.own 5] 128 false, .gone, .gone, rowI 130 CodeRest.ty l5_5, .box [LS intT e_3.fW, LS intT e_3.fA, LS intT e_3.fB] 130 false, rowI 3 intT (e_3.fB), .gone]⟩ (by kernel_rfl) ?_
              have hp := h.1
              replace h := h.2
              refine WL.mt (S2 := ⟨[(1, .sv (.one (LS (lsT intT) l))), (10, .sv (.one (.ptr 2 0))), (11, .sv (.one (.fn 75 [1, 2]))), (16, .sv (.one (I x16))), (17, .sv (.one (.ptr 6 0))), (19, .sv (.one (LS intT e_4))), (93, .sv (.one (LS (lsT intT) l))), (94, .sv (.one (I (l.length : Int)))), (95, .sv (.one (I x95))), (103, .sv (.one (I x95))), (104, .sv (.one (LS intT ([x95] : (List Int)))))], [mapI encS intT m0_5, .box [.own 0] 127 false, .box [.own 5] 128 false, .gone, .gone, rowI 130 CodeRest.ty l5_5, .box [LS intT e_3.fW, LS intT e_3.fA, LS intT e_3.fB] 130 false, rowI 3 intT (e_3.fB), .gone]⟩) (K := [7]) (p := some (7, rowI 3 intT ((e_3.fB) ++ ([x95] : (List Int))))) hn (by rfl) (mt_append (T := intT) (l := (e_3.fB)) (es := ([x95] : (List Int))) ht rfl (by rfl) (by rfl) (by rfl) (by rfl) (by decide) (by rfl) (by rfl) (srcLS (T := intT) (es := ([x95] : (List Int))) (fun _ h => by cases h) (by decide) (by rfl)) (by exact hp) (by exact hp.le (by decide))) (by kernel_rfl) (by rfl) (by rfl) (by rfl) ?_
              refine WL.run ht hn 1 ⟨[(1, .sv (.one (LS (lsT intT) l))), (10, .sv (.one (.ptr 2 0))), (11, .sv (.one (.fn 75 [1, 2]))), (16, .sv (.one (I x16))), (17, .sv (.one (.ptr 6 0))), (19, .sv (.one (LS intT e_4))), (20, .sv (.one (.own 7))), (93, .sv (.one (LS (lsT intT) l))), (94, .sv (.one (I (l.length : Int)))), (95, .sv (.one (I x95)))], [mapI encS intT m0_5, .box [.own 0] 127 false, .box [.own 5] 128 false, .gone, .gone, rowI 130 CodeRest.ty l5_5, .box [LS intT e_3.fW, LS intT e_3.fA, LS intT e_3.fB] 130 false, rowI 3 intT ((e_3.fB) ++ ([x95] : (List Int))), .gone]⟩ (by kernel_rfl) ?_
              refine WL.nil ?_
              refine En.seq ?_
              refine En.region ?_
              refine WL.run ht hn 7 ⟨[(1, .sv (.one (LS (lsT intT) l))), (10, .sv (.one (.ptr 2 0))), (11, .sv (.one (.fn 75 [1, 2]))), (16, .sv (.one (I x16))), (17, .sv (.one (.ptr 6 0))), (19, .sv (.one (LS intT e_4))), (20, .sv (.one (.own 7))), (21, .sv (.one (I (if (e_3.fW.length : Int) < (e_4.length : Int) then (e_3.fW.length : Int) else (e_4.length : Int))))), (93, .sv (.one (LS (lsT intT) l))), (94, .sv (.one (I (l.length : Int)))), (95, .sv (.one (I x95)))], [mapI encS intT m0_5, .box [.own 0] 127 false, .box [.own 5] 128 false, .gone, .gone, rowI 130 CodeRest.ty l5_5, .box [LS intT e_3.fW, LS intT e_3.fA, LS intT e_3.fB] 130 false, rowI 3 intT ((e_3.fB) ++ ([x95] : (List Int))), .gone]⟩ (by kernel_rfl) ?_
              refine WL.nil ?_
              refine En.block ?_
              refine En.seq ?_
              have hp_2 := h.1
              replace h := h.2
              have hp_3 := h.1
              replace h := h.2
              refine En.regionA ⟨[(1, .sv (.one (LS (lsT intT) l))), (10, .sv (.one (.ptr 2 0))), (11, .sv (.one (.fn 75 [1, 2]))), (16, .sv (.one (I x16))), (17, .sv (.one (.ptr 6 0))), (19, .sv (.one (LS intT e_4))), (20, .sv (.one (.own 7))), (21, .sv (.one (I (if (e_3.fW.length : Int) < (e_4.length : Int) then (e_3.fW.length : Int) else (e_4.length : Int))))), (93, .sv (.one (LS (lsT intT) l))), (94, .sv (.one (I (l.length : Int)))), (95, .sv (.one (I x95)))], [.sv (.one (LS intT e_4)), .sv (.one (I (if (e_3.fW.length : Int) < (e_4.length : Int) then (e_3.fW.length : Int) else (e_4.length : Int)))), .sv (.one (LS intT ((e_4.take ((if (e_3.fW.length : Int) < (e_4.length : Int) then (e_3.fW.length : Int) else (e_4.length : Int)) : Int).toNat).drop (0 : Int).toNat))), .sv (.one (.ptr 6 0)), .sv (.one (LS intT e_3.fW)), .sv (.one (I (if (e_3.fW.length : Int) < (e_4.length : Int) then (e_3.fW.length : Int) else (e_4.length : Int)))), .sv (.one (LS intT ((e_3.fW.take ((if (e_3.fW.length : Int) < (e_4.length : Int) then (e_3.fW.length : Int) else (e_4.length : Int)) : Int).toNat).drop (0 : Int).toNat))), .sv (.one (B (decide (((e_4.take ((if (e_3.fW.length : Int) < (e_4.length : Int) then (e_3.fW.length : Int) else (e_4.length : Int)) : Int).toNat).drop (0 : Int).toNat) = ((e_3.fW.take ((if (e_3.fW.length : Int) < (e_4.length : Int) then (e_3.fW.length : Int) else (e_4.length : Int)) : Int).toNat).drop (0 : Int).toNat))))), .sv (.one (B (!(decide (((e_4.take ((if (e_3.fW.length : Int) < (e_4.length : Int) then (e_3.fW.length : Int) else (e_4.length : Int)) : Int).toNat).drop (0 : Int).toNat) = ((e_3.fW.take ((if (e_3.fW.length : Int) < (e_4.length : Int) then (e_3.fW.length : Int) else (e_4.length : Int)) : Int).toNat).drop (0 : Int).toNat)))))), .sv (.one (B (!(decide (((e_4.take ((if (e_3.fW.length : Int) < (e_4.length : Int) then (e_3.fW.length : Int) else (e_4.length : Int)) : Int).toNat).drop (0 : Int).toNat) = ((e_3.fW.take ((if (e_3.fW.length : Int) < (e_4.length : Int) then (e_3.fW.length : Int) else (e_4.length : Int)) : Int).toNat).drop (0 : Int).toNat))))))], [⟨mapI encS intT m0_5, none, none, none⟩, ⟨.box [.own 0] 127 false, none, none, none⟩, ⟨.box [.own 5] 128 false, none, none, none⟩, ⟨.gone, none, none, none⟩, ⟨.gone, none, none, none⟩, ⟨rowI 130 CodeRest.ty l5_5, none, none, none⟩, ⟨.box [LS intT e_3.fW, LS intT e_3.fA, LS intT e_3.fB] 130 false, none, none, none⟩, ⟨rowI 3 intT ((e_3.fB) ++ ([x95] : (List Int))), none, none, none⟩, ⟨.gone, none, none, none⟩]⟩ ⟨[(1, .sv (.one (LS (lsT intT) l))), (10, .sv (.one (.ptr 2 0))), (11, .sv (.one (.fn 75 [1, 2]))), (16, .sv (.one (I x16))), (17, .sv (.one (.ptr 6 0))), (19, .sv (.one (LS intT e_4))), (20, .sv (.one (.own 7))), (21, .sv (.one (I (if (e_3.fW.length : Int) < (e_4.length : Int) then (e_3.fW.length : Int) else (e_4.length : Int))))), (93, .sv (.one (LS (lsT intT) l))), (94, .sv (.one (I (l.length : Int)))), (95, .sv (.one (I x95))), (121, .sv (.one (B (!(decide (((e_4.take ((if (e_3.fW.length : Int) < (e_4.length : Int) then (e_3.fW.length : Int) else (e_4.length : Int)) : Int).toNat).drop (0 : Int).toNat) = ((e_3.fW.take ((if (e_3.fW.length : Int) < (e_4.length : Int) then (e_3.fW.length : Int) else (e_4.length : Int)) : Int).toNat).drop (0 : Int).toNat)))))))], [mapI encS intT m0_5, .box [.own 0] 127 false, .box [.own 5] 128 false, .gone, .gone, rowI 130 CodeRest.ty l5_5, .box [LS intT e_3.fW, LS intT e_3.fA, LS intT e_3.fB] 130 false, rowI 3 intT ((e_3.fB) ++ ([x95] : (List Int))), .gone]⟩ (by kernel_rfl) hn (by kernel_rfl) (by rfl) (by kernel_rfl) ?_ (by kernel_rfl) ?_
              · exact ⟨.mt ⟨[(19, .sv (.one (LS intT e_4)))], []⟩ [] none (by kernel_rfl) (by rfl) (mt_ev ht (by kernel_rfl)) rfl rfl rfl rfl,
    .mt ⟨[(21, .sv (.one (I (if (e_3.fW.length : Int) < (e_4.length : Int) then (e_3.fW.length : Int) else (e_4.length : Int)))))], []⟩ [] none (by kernel_rfl) (by rfl) (mt_ev ht (by kernel_rfl)) rfl rfl rfl rfl,
    .mt ⟨[(122, .sv (.one (LS intT e_4))), (123, .sv (.one (I (if (e_3.fW.length : Int) < (e_4.length : Int) then (e_3.fW.length : Int) else (e_4.length : Int)))))], []⟩ [] none (by kernel_rfl) (by rfl) (mt_val (val_slice (T := intT) (l := e_4) (lv := 0) (hv := (if (e_3.fW.length : Int) < (e_4.length : Int) then (e_3.fW.length : Int) else (e_4.length : Int))) ht rfl (by rfl) (by rfl) (by rfl) (by rfl) (by rfl) (by rfl) (by rfl) hp_2)) rfl rfl rfl rfl,
    .mt ⟨[(17, .sv (.one (.ptr 6 0)))], []⟩ [] none (by kernel_rfl) (by rfl) (mt_ev ht (by kernel_rfl)) rfl rfl rfl rfl,
    .mt ⟨[(125, .sv (.one (.ptr 6 0)))], [.gone, .gone, .gone, .gone, .gone, .gone, .box [LS intT e_3.fW, LS intT e_3.fA, LS intT e_3.fB] 130 false]⟩ [] none (by kernel_rfl) (by rfl) (mt_ev ht (by kernel_rfl)) rfl rfl rfl rfl,
    .mt ⟨[(21, .sv (.one (I (if (e_3.fW.length : Int) < (e_4.length : Int) then (e_3.fW.length : Int) else (e_4.length : Int)))))], []⟩ [] none (by kernel_rfl) (by rfl) (mt_ev ht (by kernel_rfl)) rfl rfl rfl rfl,
    .mt ⟨[(126, .sv (.one (LS intT e_3.fW))), (127, .sv (.one (I (if (e_3.fW.length : Int) < (e_4.length : Int) then (e_3.fW.length : Int) else (e_4.length : Int)))))], []⟩ [] none (by kernel_rfl) (by rfl) (mt_val (val_slice (T := intT) (l := e_3.fW) (lv := 0) (hv := (if (e_3.fW.length : Int) < (e_4.length : Int) then (e_3.fW.length : Int) else (e_4.length : Int))) ht rfl (by rfl) (by rfl) (by rfl) (by rfl) (by rfl) (by rfl) (by rfl) hp_3)) rfl rfl rfl rfl,
    .mt ⟨[(124, .sv (.one (LS intT ((e_4.take ((if (e_3.fW.length : Int) < (e_4.length : Int) then (e_3.fW.length : Int) else (e_4.length : Int)) : Int).toNat).drop (0 : Int).toNat)))), (128, .sv (.one (LS intT ((e_3.fW.take ((if (e_3.fW.length : Int) < (e_4.length : Int) then (e_3.fW.length : Int) else (e_4.length : Int)) : Int).toNat).drop (0 : Int).toNat))))], []⟩ [] none (by kernel_rfl) (by rfl) (mt_call (equalI_ct ((e_4.take ((if (e_3.fW.length : Int) < (e_4.length : Int) then (e_3.fW.length : Int) else (e_4.length : Int)) : Int).toNat).drop (0 : Int).toNat) ((e_3.fW.take ((if (e_3.fW.length : Int) < (e_4.length : Int) then (e_3.fW.length : Int) else (e_4.length : Int)) : Int).toNat).drop (0 : Int).toNat)) en60 (caps := []) [] rfl (by rfl) (by kernel_rfl) (by kernel_rfl) (by rfl) (by rfl) (by rfl)) rfl rfl rfl rfl,
    .mt ⟨[(129, .sv (.one (B (decide (((e_4.take ((if (e_3.fW.length : Int) < (e_4.length : Int) then (e_3.fW.length : Int) else (e_4.length : Int)) : Int).toNat).drop (0 : Int).toNat) = ((e_3.fW.take ((if (e_3.fW.length : Int) < (e_4.length : Int) then (e_3.fW.length : Int) else (e_4.length : Int)) : Int).toNat).drop (0 : Int).toNat))))))], []⟩ [] none (by kernel_rfl) (by rfl) (mt_ev ht (by kernel_rfl)) rfl rfl rfl rfl,
    .mt ⟨[(130, .sv (.one (B (!(decide (((e_4.take ((if (e_3.fW.length : Int) < (e_4.length : Int) then (e_3.fW.length : Int) else (e_4.length : Int)) : Int).toNat).drop (0 : Int).toNat) = ((e_3.fW.take ((if (e_3.fW.length : Int) < (e_4.length : Int) then (e_3.fW.length : Int) else (e_4.length : Int)) : Int).toNat).drop (0 : Int).toNat)))))))], []⟩ [] none (by kernel_rfl) (by rfl) (mt_ev ht (by kernel_rfl)) rfl rfl rfl rfl,
    trivial⟩
              · refine En.cond (b := (!(decide (((e_4.take ((if (e_3.fW.length : Int) < (e_4.length : Int) then (e_3.fW.length : Int) else (e_4.length : Int)) : Int).toNat).drop (0 : Int).toNat) = ((e_3.fW.take ((if (e_3.fW.length : Int) < (e_4.length : Int) then (e_3.fW.length : Int) else (e_4.length : Int)) : Int).toNat).drop (0 : Int).toNat))))) (by kernel_rfl) (fun hb => ?_) (fun hb => ?_)
                · replace h := h.1 hb
                  refine En.skip ?_
                  exact En.at (I := fun zz => J_3 zz.1 zz.2) (T := fun zz => ⟨[(1, .sv (.one (LS (lsT intT) l))), (10, .sv (.one (.ptr 2 0))), (11, .sv (.one (.fn 75 [1, 2]))), (16, .sv (.one (I x16))), (17, .sv (.one (.ptr 6 0))), (93, .sv (.one (LS (lsT intT) l))), (94, .sv (.one (I (l.length : Int)))), (95, .sv (.one (I x95)))], [mapI encS intT zz.1, .box [.own 0] 127 false, .box [.own 5] 128 false, .gone, .gone, rowI 130 CodeRest.ty zz.2, .box [LS intT e_3.fW, LS intT e_3.fA, LS intT e_3.fB] 130 false, .gone, .gone]⟩) (m0_5, l5_5) h (by kernel_rfl)
                · replace h := h.2 hb
                  refine En.seq ?_
                  refine En.region ?_
                  refine WL.run ht hn 7 ⟨[(1, .sv (.one (LS (lsT intT) l))), (10, .sv (.one (.ptr 2 0))), (11, .sv (.one (.fn 75 [1, 2]))), (16, .sv (.one (I x16))), (17, .sv (.one (.ptr 6 0))), (19, .sv (.one (LS intT e_4))), (20, .sv (.one (.own 7))), (21, .sv (.one (I (if (e_3.fW.length : Int) < (e_4.length : Int) then (e_3.fW.length : Int) else (e_4.length : Int))))), (93, .sv (.one (LS (lsT intT) l))), (94, .sv (.one (I (l.length : Int)))), (95, .sv (.one (I x95))), (131, .sv (.one (B (decide ((e_4.length : Int) ≤ (e_3.fW.length : Int))))))], [mapI encS intT m0_5, .box [.own 0] 127 false, .box [.own 5] 128 false, .gone, .gone, rowI 130 CodeRest.ty l5_5, .box [LS intT e_3.fW, LS intT e_3.fA, LS intT e_3.fB] 130 false, rowI 3 intT ((e_3.fB) ++ ([x95] : (List Int))), .gone]⟩ (by kernel_rfl) ?_
                  refine WL.nil ?_
                  refine En.cond (b := (decide ((e_4.length : Int) ≤ (e_3.fW.length : Int)))) (by kernel_rfl) (fun hb => ?_) (fun hb => ?_)
                  · replace h := h.1 hb
                    refine En.seal (T := intT) (l := ((e_3.fB) ++ ([x95] : (List Int)))) (e := 3) 7 rfl ?_
                    have hp_5 := h.1
                    replace h := h.2
                    refine En.regionT ⟨[(1, .sv (.one (LS (lsT intT) l))), (10, .sv (.one (.ptr 2 0))), (11, .sv (.one (.fn 75 [1, 2]))), (16, .sv (.one (I x16))), (17, .sv (.one (.ptr 6 0))), (20, .sv (.one (LS intT ((e_3.fB) ++ ([x95] : (List Int)))))), (21, .sv (.one (I (if (e_3.fW.length : Int) < (e_4.length : Int) then (e_3.fW.length : Int) else (e_4.length : Int))))), (93, .sv (.one (LS (lsT intT) l))), (94, .sv (.one (I (l.length : Int)))), (95, .sv (.one (I x95)))], [.sv (.one (.fn 75 [1, 2])), .sv (.one (.ptr 6 0)), .sv (.one (LS intT e_3.fW)), .sv (.one (I (if (e_3.fW.length : Int) < (e_4.length : Int) then (e_3.fW.length : Int) else (e_4.length : Int)))), .sv (.one (LS intT ((e_3.fW.take ((e_3.fW.length : Int) : Int).toNat).drop ((if (e_3.fW.length : Int) < (e_4.length : Int) then (e_3.fW.length : Int) else (e_4.length : Int)) : Int).toNat))), .sv (.one (.ptr 6 1)), .sv (.one (LS intT e_3.fA)), .sv (.one (LS intT ((e_3.fB) ++ ([x95] : (List Int))))), .sv (.agg [LS intT ((e_3.fW.take ((e_3.fW.length : Int) : Int).toNat).drop ((if (e_3.fW.length : Int) < (e_4.length : Int) then (e_3.fW.length : Int) else (e_4.length : Int)) : Int).toNat), LS intT e_3.fA, LS intT ((e_3.fB) ++ ([x95] : (List Int)))])], [⟨mapI encS intT m0_5, none, none, none⟩, ⟨.box [.own 0] 127 false, none, none, none⟩, ⟨.box [.own 5] 128 false, none, none, none⟩, ⟨.gone, none, none, none⟩, ⟨.gone, none, none, none⟩, ⟨rowI 130 CodeRest.ty l5_5, none, none, none⟩, ⟨.box [LS intT e_3.fW, LS intT e_3.fA, LS intT e_3.fB] 130 false, none, none, none⟩, ⟨.gone, none, none, none⟩, ⟨.gone, none, none, none⟩]⟩ 9 ⟨[(1, .sv (.one (LS (lsT intT) l))), (10, .sv (.one (.ptr 2 0))), (11, .sv (.one (.fn 75 [1, 2]))), (16, .sv (.one (I x16))), (17, .sv (.one (.ptr 6 0))), (93, .sv (.one (LS (lsT intT) l))), (94, .sv (.one (I (l.length : Int)))), (95, .sv (.one (I x95))), (138, .sv (.one (.fn 75 [1, 2]))), (146, .sv (.agg [LS intT ((e_3.fW.take ((e_3.fW.length : Int) : Int).toNat).drop ((if (e_3.fW.length : Int) < (e_4.length : Int) then (e_3.fW.length : Int) else (e_4.length : Int)) : Int).toNat), LS intT e_3.fA, LS intT ((e_3.fB) ++ ([x95] : (List Int)))]))], [mapI encS intT m0_5, .box [.own 0] 127 false, .box [.own 5] 128 false, .gone, .gone, rowI 130 CodeRest.ty l5_5, .box [LS intT e_3.fW, LS intT e_3.fA, LS intT e_3.fB] 130 false, .gone, .gone]⟩ (by kernel_rfl) hn (by kernel_rfl) (by kernel_rfl) (by kernel_rfl) (by rfl) (by kernel_rfl) ?_ (by kernel_rfl) ?_
                    · exact ⟨.mt ⟨[(11, .sv (.one (.fn 75 [1, 2])))], []⟩ [] none (by kernel_rfl) (by rfl) (mt_ev ht (by kernel_rfl)) rfl rfl rfl rfl,
    .mt ⟨[(17, .sv (.one (.ptr 6 0)))], []⟩ [] none (by kernel_rfl) (by rfl) (mt_ev ht (by kernel_rfl)) rfl rfl rfl rfl,
    .mt ⟨[(139, .sv (.one (.ptr 6 0)))], [.gone, .gone, .gone, .gone, .gone, .gone, .box [LS intT e_3.fW, LS intT e_3.fA, LS intT e_3.fB] 130 false]⟩ [] none (by kernel_rfl) (by rfl) (mt_ev ht (by kernel_rfl)) rfl rfl rfl rfl,
    .mt ⟨[(21, .sv (.one (I (if (e_3.fW.length : Int) < (e_4.length : Int) then (e_3.fW.length : Int) else (e_4.length : Int)))))], []⟩ [] none (by kernel_rfl) (by rfl) (mt_ev ht (by kernel_rfl)) rfl rfl rfl rfl,
    .mt ⟨[(140, .sv (.one (LS intT e_3.fW))), (141, .sv (.one (I (if (e_3.fW.length : Int) < (e_4.length : Int) then (e_3.fW.length : Int) else (e_4.length : Int)))))], []⟩ [] none (by kernel_rfl) (by rfl) (mt_val (val_slice (T := intT) (l := e_3.fW) (lv := (if (e_3.fW.length : Int) < (e_4.length : Int) then (e_3.fW.length : Int) else (e_4.length : Int))) (hv := (e_3.fW.length : Int)) ht rfl (by rfl) (by rfl) (by rfl) (by rfl) (by rfl) (by rfl) (by rfl) hp_5)) rfl rfl rfl rfl,
    .mt ⟨[(17, .sv (.one (.ptr 6 0)))], []⟩ [] none (by kernel_rfl) (by rfl) (mt_ev ht (by kernel_rfl)) rfl rfl rfl rfl,
    .mt ⟨[(143, .sv (.one (.ptr 6 1)))], [.gone, .gone, .gone, .gone, .gone, .gone, .box [LS intT e_3.fW, LS intT e_3.fA, LS intT e_3.fB] 130 false]⟩ [] none (by kernel_rfl) (by rfl) (mt_ev ht (by kernel_rfl)) rfl rfl rfl rfl,
    .mt ⟨[(20, .sv (.one (LS intT ((e_3.fB) ++ ([x95] : (List Int))))))], []⟩ [] none (by kernel_rfl) (by rfl) (mt_ev ht (by kernel_rfl)) rfl rfl rfl rfl,
    .mt ⟨[(142, .sv (.one (LS intT ((e_3.fW.take ((e_3.fW.length : Int) : Int).toNat).drop ((if (e_3.fW.length : Int) < (e_4.length : Int) then (e_3.fW.length : Int) else (e_4.length : Int)) : Int).toNat)))), (144, .sv (.one (LS intT e_3.fA))), (145, .sv (.one (LS intT ((e_3.fB) ++ ([x95] : (List Int))))))], []⟩ [] none (by kernel_rfl) (by rfl) (mt_ev ht (by kernel_rfl)) rfl rfl rfl rfl,
    trivial⟩
                    · have hp := h.1
                      replace h := h.2
                      refine WL.callE (codPut_ct m0_5 l5_5 (CodeRest.mk ((e_3.fW.take ((e_3.fW.length : Int) : Int).toNat).drop ((if (e_3.fW.length : Int) < (e_4.length : Int) then (e_3.fW.length : Int) else (e_4.length : Int)) : Int).toNat) e_3.fA ((e_3.fB) ++ ([x95] : (List Int)))) hp) en75 (caps := [1, 2]) [1, 0, 2, 5] hn (by rfl) rfl (by rfl) (argsAs (by kernel_rfl) (by rfl)) (by kernel_rfl) (by decide) (by rfl) (by rfl) (fun _ _ => ⟨by rfl, _, by rfl, ?_⟩)
                      refine WL.nil ?_
                      exact En.at (I := fun zz => J_3 zz.1 zz.2) (T := fun zz => ⟨[(1, .sv (.one (LS (lsT intT) l))), (10, .sv (.one (.ptr 2 0))), (11, .sv (.one (.fn 75 [1, 2]))), (16, .sv (.one (I x16))), (17, .sv (.one (.ptr 6 0))), (93, .sv (.one (LS (lsT intT) l))), (94, .sv (.one (I (l.length : Int)))), (95, .sv (.one (I x95)))], [mapI encS intT zz.1, .box [.own 0] 127 false, .box [.own 5] 128 false, .gone, .gone, rowI 130 CodeRest.ty zz.2, .box [LS intT e_3.fW, LS intT e_3.fA, LS intT e_3.fB] 130 false, .gone, .gone]⟩) ((putM m0_5 (CodeRest.mk ((e_3.fW.take ((e_3.fW.length : Int) : Int).toNat).drop ((if (e_3.fW.length : Int) < (e_4.length : Int) then (e_3.fW.length : Int) else (e_4.length : Int)) : Int).toNat) e_3.fA ((e_3.fB) ++ ([x95] : (List Int))))), (putR m0_5 l5_5 (CodeRest.mk ((e_3.fW.take ((e_3.fW.length : Int) : Int).toNat).drop ((if (e_3.fW.length : Int) < (e_4.length : Int) then (e_3.fW.length : Int) else (e_4.length : Int)) : Int).toNat) e_3.fA ((e_3.fB) ++ ([x95] : (List Int)))))) h (by kernel_rfl)
                  · replace h := h.2 hb
                    refine En.seal (T := intT) (l := ((e_3.fB) ++ ([x95] : (List Int)))) (e := 3) 7 rfl ?_
                    have hp_6 := h.1
                    replace h := h.2
                    refine En.regionT ⟨[(1, .sv (.one (LS (lsT intT) l))), (10, .sv (.one (.ptr 2 0))), (11, .sv (.one (.fn 75 [1, 2]))), (16, .sv (.one (I x16))), (17, .sv (.one (.ptr 6 0))), (19, .sv (.one (LS intT e_4))), (20, .sv (.one (LS intT ((e_3.fB) ++ ([x95] : (List Int)))))), (21, .sv (.one (I (if (e_3.fW.length : Int) < (e_4.length : Int) then (e_3.fW.length : Int) else (e_4.length : Int))))), (93, .sv (.one (LS (lsT intT) l))), (94, .sv (.one (I (l.length : Int)))), (95, .sv (.one (I x95)))], [.sv (.one (.fn 75 [1, 2])), .sv (.one (LS intT e_4)), .sv (.one (I (if (e_3.fW.length : Int) < (e_4.length : Int) then (e_3.fW.length : Int) else (e_4.length : Int)))), .sv (.one (LS intT ((e_4.take ((e_4.length : Int) : Int).toNat).drop ((if (e_3.fW.length : Int) < (e_4.length : Int) then (e_3.fW.length : Int) else (e_4.length : Int)) : Int).toNat))), .sv (.one (LS intT ((e_3.fB) ++ ([x95] : (List Int))))), .sv (.one (.ptr 6 1)), .sv (.one (LS intT e_3.fA)), .sv (.agg [LS intT ((e_4.take ((e_4.length : Int) : Int).toNat).drop ((if (e_3.fW.length : Int) < (e_4.length : Int) then (e_3.fW.length : Int) else (e_4.length : Int)) : Int).toNat), LS intT ((e_3.fB) ++ ([x95] : (List Int))), LS intT e_3.fA])], [⟨mapI encS intT m0_5, none, none, none⟩, ⟨.box [.own 0] 127 false, none, none, none⟩, ⟨.box [.own 5] 128 false, none, none, none⟩, ⟨.gone, none, none, none⟩, ⟨.gone, none, none, none⟩, ⟨rowI 130 CodeRest.ty l5_5, none, none, none⟩, ⟨.box [LS intT e_3.fW, LS intT e_3.fA, LS intT e_3.fB] 130 false, none, none, none⟩, ⟨.gone, none, none, none⟩, ⟨.gone, none, none, none⟩]⟩ 8 ⟨[(1, .sv (.one (LS (lsT intT) l))), (10, .sv (.one (.ptr 2 0))), (11, .sv (.one (.fn 75 [1, 2]))), (16, .sv (.one (I x16))), (17, .sv (.one (.ptr 6 0))), (93, .sv (.one (LS (lsT intT) l))), (94, .sv (.one (I (l.length : Int)))), (95, .sv (.one (I x95))), (112, .sv (.one (.fn 75 [1, 2]))), (119, .sv (.agg [LS intT ((e_4.take ((e_4.length : Int) : Int).toNat).drop ((if (e_3.fW.length : Int) < (e_4.length : Int) then (e_3.fW.length : Int) else (e_4.length : Int)) : Int).toNat), LS intT ((e_3.fB) ++ ([x95] : (List Int))), LS intT e_3.fA]))], [mapI encS intT m0_5, .box [.own 0] 127 false, .box [.own 5] 128 false, .gone, .gone, rowI 130 CodeRest.ty l5_5, .box [LS intT e_3.fW, LS intT e_3.fA, LS intT e_3.fB] 130 false, .gone, .gone]⟩ (by kernel_rfl) hn (by kernel_rfl) (by kernel_rfl) (by kernel_rfl) (by rfl) (by kernel_rfl) ?_ (by kernel_rfl) ?_
                    · exact ⟨.mt ⟨[(11, .sv (.one (.fn 75 [1, 2])))], []⟩ [] none (by kernel_rfl) (by rfl) (mt_ev ht (by kernel_rfl)) rfl rfl rfl rfl,
    .mt ⟨[(19, .sv (.one (LS intT e_4)))], []⟩ [] none (by kernel_rfl) (by rfl) (mt_ev ht (by kernel_rfl)) rfl rfl rfl rfl,
    .mt ⟨[(21, .sv (.one (I (if (e_3.fW.length : Int) < (e_4.length : Int) then (e_3.fW.length : Int) else (e_4.length : Int)))))], []⟩ [] none (by kernel_rfl) (by rfl) (mt_ev ht (by kernel_rfl)) rfl rfl rfl rfl,
    .mt ⟨[(113, .sv (.one (LS intT e_4))), (114, .sv (.one (I (if (e_3.fW.length : Int) < (e_4.length : Int) then (e_3.fW.length : Int) else (e_4.length : Int)))))], []⟩ [] none (by kernel_rfl) (by rfl) (mt_val (val_slice (T := intT) (l := e_4) (lv := (if (e_3.fW.length : Int) < (e_4.length : Int) then (e_3.fW.length : Int) else (e_4.length : Int))) (hv := (e_4.length : Int)) ht rfl (by rfl) (by rfl) (by rfl) (by rfl) (by rfl) (by rfl) (by rfl) hp_6)) rfl rfl rfl rfl,
    .mt ⟨[(20, .sv (.one (LS intT ((e_3.fB) ++ ([x95] : (List Int))))))], []⟩ [] none (by kernel_rfl) (by rfl) (mt_ev ht (by kernel_rfl)) rfl rfl rfl rfl,
    .mt ⟨[(17, .sv (.one (.ptr 6 0)))], []⟩ [] none (by kernel_rfl) (by rfl) (mt_ev ht (by kernel_rfl)) rfl rfl rfl rfl,
    .mt ⟨[(117, .sv (.one (.ptr 6 1)))], [.gone, .gone, .gone, .gone, .gone, .gone, .box [LS intT e_3.fW, LS intT e_3.fA, LS intT e_3.fB] 130 false]⟩ [] none (by kernel_rfl) (by rfl) (mt_ev ht (by kernel_rfl)) rfl rfl rfl rfl,
    .mt ⟨[(115, .sv (.one (LS intT ((e_4.take ((e_4.length : Int) : Int).toNat).drop ((if (e_3.fW.length : Int) < (e_4.length : Int) then (e_3.fW.length : Int) else (e_4.length : Int)) : Int).toNat)))), (116, .sv (.one (LS intT ((e_3.fB) ++ ([x95] : (List Int)))))), (118, .sv (.one (LS intT e_3.fA)))], []⟩ [] none (by kernel_rfl) (by rfl) (mt_ev ht (by kernel_rfl)) rfl rfl rfl rfl,
    trivial⟩
                    · have hp := h.1
                      replace h := h.2
                      refine WL.callE (codPut_ct m0_5 l5_5 (CodeRest.mk ((e_4.take ((e_4.length : Int) : Int).toNat).drop ((if (e_3.fW.length : Int) < (e_4.length : Int) then (e_3.fW.length : Int) else (e_4.length : Int)) : Int).toNat) ((e_3.fB) ++ ([x95] : (List Int))) e_3.fA) hp) en75 (caps := [1, 2]) [1, 0, 2, 5] hn (by rfl) rfl (by rfl) (argsAs (by kernel_rfl) (by rfl)) (by kernel_rfl) (by decide) (by rfl) (by rfl) (fun _ _ => ⟨by rfl, _, by rfl, ?_⟩)
                      refine WL.nil ?_
                      exact En.at (I := fun zz => J_3 zz.1 zz.2) (T := fun zz => ⟨[(1, .sv (.one (LS (lsT intT) l))), (10, .sv (.one (.ptr 2 0))), (11, .sv (.one (.fn 75 [1, 2]))), (16, .sv (.one (I x16))), (17, .sv (.one (.ptr 6 0))), (93, .sv (.one (LS (lsT intT) l))), (94, .sv (.one (I (l.length : Int)))), (95, .sv (.one (I x95)))], [mapI encS intT zz.1, .box [.own 0] 127 false, .box [.own 5] 128 false, .gone, .gone, rowI 130 CodeRest.ty zz.2, .box [LS intT e_3.fW, LS intT e_3.fA, LS intT e_3.fB] 130 false, .gone, .gone]⟩) ((putM m0_5 (CodeRest.mk ((e_4.take ((e_4.length : Int) : Int).toNat).drop ((if (e_3.fW.length : Int) < (e_4.length : Int) then (e_3.fW.length : Int) else (e_4.length : Int)) : Int).toNat) ((e_3.fB) ++ ([x95] : (List Int))) e_3.fA)), (putR m0_5 l5_5 (CodeRest.mk ((e_4.take ((e_4.length : Int) : Int).toNat).drop ((if (e_3.fW.length : Int) < (e_4.length : Int) then (e_3.fW.length : Int) else (e_4.length : Int)) : Int).toNat) ((e_3.fB) ++ ([x95] : (List Int))) e_3.fA))) h (by kernel_rfl)
            · rintro ⟨m0_6, l5_6⟩ h
              replace h := hJ_3 _ _ h
              show En c ⟨[(1, .sv (.one (LS (lsT intT) l))), (10, .sv (.one (.ptr 2 0))), (11, .sv (.one (.fn 75 [1, 2]))), (16, .sv (.one (I x16))), (17, .sv (.one (.ptr 6 0))), (93, .sv (.one (LS (lsT intT) l))), (94, .sv (.one (I (l.length : Int)))), (95, .sv (.one (I x95)))], [mapI encS intT m0_6, .box [.own 0] 127 false, .box [.own 5] 128 false, .gone, .gone, rowI 130 CodeRest.ty l5_6, .box [LS intT e_3.fW, LS intT e_3.fA, LS intT e_3.fB] 130 false, .gone, .gone]⟩ _
              refine En.region ?_
              refine WL.run ht hn 2 ⟨[(1, .sv (.one (LS (lsT intT) l))), (10, .sv (.one (.ptr 2 0))), (11, .sv (.one (.fn 75 [1, 2]))), (16, .sv (.one (I x16))), (17, .sv (.one (.ptr 6 0))), (93, .sv (.one (LS (lsT intT) l))), (94, .sv (.one (I (l.length : Int)))), (95, .sv (.one (I (wr (x95 + 1)))))], [mapI encS intT m0_6, .box [.own 0] 127 false, .box [.own 5] 128 false, .gone, .gone, rowI 130 CodeRest.ty l5_6, .box [LS intT e_3.fW, LS intT e_3.fA, LS intT e_3.fB] 130 false, .gone, .gone]⟩ (by kernel_rfl) ?_
              refine WL.nil ?_
              exact En.at (I := fun zz => Inv_4 zz.1 zz.2.1 zz.2.2 ∧ mu_4 zz.1 zz.2.1 zz.2.2 < mu_4 x95 m0_5 l5_5) (T := fun zz => ⟨[(1, .sv (.one (LS (lsT intT) l))), (10, .sv (.one (.ptr 2 0))), (11, .sv (.one (.fn 75 [1, 2]))), (16, .sv (.one (I x16))), (17, .sv (.one (.ptr 6 0))), (93, .sv (.one (LS (lsT intT) l))), (94, .sv (.one (I (l.length : Int)))), (95, .sv (.one (I zz.1)))], [mapI encS intT zz.2.1, .box [.own 0] 127 false, .box [.own 5] 128 false, .gone, .gone, rowI 130 CodeRest.ty zz.2.2, .box [LS intT e_3.fW, LS intT e_3.fA, LS intT e_3.fB] 130 false]⟩) ((wr (x95 + 1)), m0_6, l5_6) h (by kernel_rfl)
          · replace h := h.2 hb
            refine En.exit rfl ?_
            refine En.region ?_
            refine WL.run ht hn 3 ⟨[(1, .sv (.one (LS (lsT intT) l))), (10, .sv (.one (.ptr 2 0))), (11, .sv (.one (.fn 75 [1, 2]))), (16, .sv (.one (I (wr (x16 + 1)))))], [mapI encS intT m0_5, .box [.own 0] 127 false, .box [.own 5] 128 false, .gone, .gone, rowI 130 CodeRest.ty l5_5, .gone]⟩ (by kernel_rfl) ?_
            refine WL.nil ?_
            exact En.at (I := fun zz => Inv_3 zz.1 zz.2.1 zz.2.2 ∧ mu_3 zz.1 zz.2.1 zz.2.2 < mu_3 x16 m0_4 l5_4) (T := fun zz => ⟨[(1, .sv (.one (LS (lsT intT) l))), (10, .sv (.one (.ptr 2 0))), (11, .sv (.one (.fn 75 [1, 2]))), (16, .sv (.one (I zz.1)))], [mapI encS intT zz.2.1, .box [.own 0] 127 false, .box [.own 5] 128 false, .gone, .gone, rowI 130 CodeRest.ty zz.2.2]⟩) ((wr (x16 + 1)), m0_5, l5_5) h (by kernel_rfl)
      · replace h := h.2 hb
        refine En.exit rfl ?_
        refine En.seq ?_
        refine En.region ?_
        refine WL.run ht hn 4 ⟨[(4, .sv (.one (.v (.slice none 0 0)))), (5, .sv (.one (.v (.slice none 0 0)))), (6, .sv (.one (B true))), (7, .sv (.one (I 0)))], [.gone, .gone, .gone, .gone, .gone, .gone]⟩ (by kernel_rfl) ?_
        refine WL.nil ?_
        refine En.ret ?_
        refine En.nilLS 4 intT (by rfl) ?_
        refine En.nilLS 5 intT (by rfl) ?_
        exact En.back ht ([], [], true, 0) h (by kernel_rfl) rfl
theorem en28 : ∀ args w, (callFunc 28 args).run Try.prog w = .ok (.enter 28 args) w := enters_of Try.func28 (by kernel_rfl) rfl
theorem idx_getN {α : Type} {l : List α} {s : Nat} (z : α) (h : s < l.length) : idx l (s : Int) = some (l.getD s z) := by
  have := idx_of (l := l) (i := (s : Int)) z (by omega) (by omega)
  rwa [Int.toNat_natCast] at this
/-- all that words end in -/
def sufL (l : List (List Int)) : List (List Int) := l.flatMap fun w => (List.range (w.length + 1)).map fun k => w.drop k
theorem sufL_len {n : Int} {l : List (List Int)} (h : CodOk n l) : (sufL l).length ≤ 110 := by
  unfold sufL
  rw [List.length_flatMap]
  simp only [List.length_map, List.length_range]
  have : (l.map fun w => w.length + 1).sum ≤ (l.map fun _ => 11).sum := sum_le fun w hw => by have := h.word w hw; omega
  rw [sum_const] at this
  have := h.len
  omega
theorem sufL_drop {l : List (List Int)} {w : List Int} {k : Nat} (h : w ∈ sufL l) : w.drop k ∈ sufL l := by
  unfold sufL at h ⊢
  obtain ⟨v, hv, hw⟩ := List.mem_flatMap.1 h
  obtain ⟨j, hj, rfl⟩ := List.mem_map.1 hw
  have hj := List.mem_range.1 hj
  refine List.mem_flatMap.2 ⟨v, hv, List.mem_map.2 ⟨min (j + k) v.length, List.mem_range.2 (by omega), ?_⟩⟩
  rw [List.drop_drop]
  rcases Nat.le_total (j + k) v.length with e | e
  · rw [Nat.min_eq_left e]
  · rw [Nat.min_eq_right e, List.drop_length, List.drop_eq_nil_of_le e]
theorem sufL_word {l : List (List Int)} {w : List Int} (h : w ∈ l) : w ∈ sufL l := by
  unfold sufL
  exact List.mem_flatMap.2 ⟨w, h, List.mem_map.2 ⟨0, List.mem_range.2 (by omega), by simp⟩⟩
theorem sufL_in {n : Int} {l : List (List Int)} (h : CodOk n l) {w : List Int} (hw : w ∈ sufL l) : InL4 w ∧ w.length ≤ 10 := by
  unfold sufL at hw
  obtain ⟨v, hv, hw⟩ := List.mem_flatMap.1 hw
  obtain ⟨j, hj, rfl⟩ := List.mem_map.1 hw
  have h1 := h.let_ v hv
  have h2 := h.word v hv
  have h3 := h.n14
  refine ⟨fun a ha => ?_, by rw [List.length_drop]; omega⟩
  have := h1 a (List.mem_of_mem_drop ha)
  omega
structure RInv (l : List (List Int)) (D : List (ByteArray × Int)) (R : List CodeRest) : Prop where
  suf : ∀ x ∈ R, x.fW ∈ sufL l
  nodup : (R.map (·.fW)).Nodup
  key : ∀ w, InL4 w → ((mget (keyR w) D).getD 0 = 0 ↔ w ∉ R.map (·.fW))
  rows : ∀ x ∈ R, x.fA.length ≤ R.length ∧ x.fB.length ≤ R.length
theorem RInv.len {n : Int} {l : List (List Int)} (hk : CodOk n l) {D : List (ByteArray × Int)} {R : List CodeRest} (h : RInv l D R) : R.length ≤ 110 := by
  have := nodup_le h.nodup (m := sufL l) fun w hw => by
    obtain ⟨x, hx, rfl⟩ := List.mem_map.1 hw
    exact h.suf x hx
  rw [List.length_map] at this
  have := sufL_len hk
  omega
theorem RInv.put {n : Int} {l : List (List Int)} (hk : CodOk n l) {D : List (ByteArray × Int)} {R : List CodeRest} (h : RInv l D R) {r : CodeRest} (hr : r.fW ∈ sufL l) (ha : r.fA.length ≤ R.length + 1) (hb : r.fB.length ≤ R.length + 1) :
    RInv l (putM D r) (putR D R r) ∧ r.fW ∈ (putR D R r).map (·.fW) ∧ (∃ s, putR D R r = R ++ s) ∧ PutPre D R r := by
  have h4 := sufL_in hk hr
  have hl := h.len hk
  refine ⟨?_, ?_, ?_, by omega, by omega⟩
  · unfold putM putR
    cases hp : putNew D r with
    | false => exact h
    | true =>
      have h0 : (mget (keyR r.fW) D).getD 0 = 0 := by unfold putNew at hp; simpa using hp
      have hno := (h.key r.fW h4.1).1 h0
      refine ⟨fun x hx => ?_, ?_, fun w hw => ?_, fun x hx => ?_⟩
      · rcases List.mem_append.1 hx with hx | hx
        · exact h.suf x hx
        · rw [List.mem_singleton.1 hx]; exact hr
      · show ((R ++ [r]).map (·.fW)).Nodup
        rw [List.map_append, List.nodup_append]
        exact ⟨h.nodup, by simp, fun x hx y hy e => by simp at hy; subst hy; exact hno (e ▸ hx)⟩
      · show (mget (keyR w) (mput (keyR r.fW) 1 D)).getD 0 = 0 ↔ w ∉ (R ++ [r]).map (·.fW)
        rw [mget_put, List.map_append]
        by_cases e : keyR w = keyR r.fW
        · have := keyR_inj4 hw h4.1 e
          subst this
          rw [if_pos rfl]
          simp
        · rw [if_neg e, h.key w hw]
          have : w ≠ r.fW := fun e2 => e (by rw [e2])
          simp [this]
      · show x.fA.length ≤ (R ++ [r]).length ∧ x.fB.length ≤ (R ++ [r]).length
        have hx : x ∈ R ++ [r] := hx
        rw [List.length_append]
        simp only [List.length_cons, List.length_nil]
        rcases List.mem_append.1 hx with hx | hx
        · have := h.rows x hx; omega
        · rw [List.mem_singleton.1 hx]; omega
  · unfold putR
    cases hp : putNew D r with
    | true => simp
    | false =>
      have h0 : ¬ (mget (keyR r.fW) D).getD 0 = 0 := by unfold putNew at hp; simpa using hp
      exact Decidable.not_not.1 fun c => h0 ((h.key r.fW h4.1).2 c)
  · unfold putR
    cases hp : putNew D r with
    | true => exact ⟨[r], rfl⟩
    | false => exact ⟨[], by simp⟩
def FirstIn (l : List (List Int)) (R : List CodeRest) (i k : Nat) : Prop := i ≠ k → ∀ r, l.getD i [] = l.getD k [] ++ r → r ∈ R.map (·.fW)
def GoIn (l : List (List Int)) (R : List CodeRest) (r : List Int) (k : Nat) : Prop := (∀ r', r = l.getD k [] ++ r' → r' ∈ R.map (·.fW)) ∧ ∀ r', l.getD k [] = r ++ r' → r' ≠ [] → r' ∈ R.map (·.fW)
theorem FirstIn.up {l : List (List Int)} {R R' : List CodeRest} {i k : Nat} (h : FirstIn l R i k) (hs : ∃ s, R' = R ++ s) : FirstIn l R' i k := fun hn r e => by
  obtain ⟨s, rfl⟩ := hs
  rw [List.map_append]
  exact List.mem_append_left _ (h hn r e)
theorem GoIn.up {l : List (List Int)} {R R' : List CodeRest} {r : List Int} {k : Nat} (h : GoIn l R r k) (hs : ∃ s, R' = R ++ s) : GoIn l R' r k := by
  obtain ⟨s, rfl⟩ := hs
  rw [GoIn, List.map_append]
  exact ⟨fun r' e => List.mem_append_left _ (h.1 r' e), fun r' e hn => List.mem_append_left _ (h.2 r' e hn)⟩
def UniqQ (n : Int) (l : List (List Int)) (r : List Int × List Int × Bool × Int) : Prop := r.2.2.2 = codErr n l ∧ (codErr n l = 0 → r.2.2.1 = true → ∃ S, RestOk l S)
theorem codUnique_ok (n : Int) (l : List (List Int)) : codUnique_vc n l (UniqQ n l) := by
  classical
  intro _
  refine ⟨fun h => ⟨rfl, fun h0 => absurd h0 (by simpa using h)⟩, fun h => ?_⟩
  have h0 : codErr n l = 0 := by simpa using h
  have hk := codErr_ok h0
  have hll := hk.len
  have hgw : ∀ i, i < l.length → l.getD i [] ∈ l := fun i hi => getD_mem hi
  refine ⟨fun i D R => ∃ p : Nat, i = p ∧ p ≤ l.length ∧ RInv l D R ∧ ∀ i', i' < p → ∀ k, k < l.length → FirstIn l R i' k, fun i _ _ => l.length - i.toNat, ⟨0, rfl, Nat.zero_le _, ⟨(fun x hx => by cases hx), by simp, fun w _ => by simp [mget], (fun x hx => by cases hx)⟩, fun i hi => absurd hi (Nat.not_lt_zero _)⟩, ?_⟩
  rintro i D R ⟨p, rfl, hp, hI, hF⟩
  refine ⟨fun hb => ?_, fun hb => ?_⟩
  · have hlt := dlt hb
    have hwp := hk.word _ (hgw p hlt)
    refine ⟨_, idx_getN [] hlt, fun i D R => ∃ q : Nat, i = q ∧ q ≤ l.length ∧ RInv l D R ∧ (∀ i', i' < p → ∀ k, k < l.length → FirstIn l R i' k) ∧ ∀ k, k < q → FirstIn l R p k, fun i _ _ => l.length - i.toNat, ⟨0, rfl, Nat.zero_le _, hI, hF, fun i hi => absurd hi (Nat.not_lt_zero _)⟩, ?_⟩
    rintro i D R ⟨q, rfl, hq, hI, hF, hG⟩
    refine ⟨fun hb => ?_, fun hb => ?_⟩
    · have hqt := dlt hb
      have hwq := hk.word _ (hgw q hqt)
      have hlen := hI.len hk
      refine ⟨fun D' R' => RInv l D' R' ∧ (∃ s, R' = R ++ s) ∧ FirstIn l R' p q, ⟨_, idx_getN [] hqt, fun b => b = decide (p ≠ q ∧ ∃ r, l.getD p [] = l.getD q [] ++ r), ⟨fun hn => ⟨fun hge => ⟨⟨by omega, by omega, by have := of_decide_eq_true hge; omega⟩, ?_⟩, fun hge => ?_⟩, fun hn => ?_⟩, ?_⟩, ?_⟩
      · have hn : p ≠ q := by have : (p : Int) ≠ q := by simpa using hn
                              omega
        have hge := of_decide_eq_true hge
        show decide _ = decide _
        rw [Int.toNat_natCast]
        show decide (((l.getD p []).take (l.getD q []).length).drop 0 = l.getD q []) = _
        rw [List.drop_zero]
        by_cases e : (l.getD p []).take (l.getD q []).length = l.getD q []
        · rw [decide_eq_true e, eq_comm, decide_eq_true_eq]
          exact ⟨hn, (l.getD p []).drop (l.getD q []).length, by conv => lhs; rw [← List.take_append_drop (l.getD q []).length (l.getD p []), e]⟩
        · rw [decide_eq_false e, eq_comm, decide_eq_false_iff_not]
          rintro ⟨_, r, hr⟩
          exact e (by rw [hr, List.take_left])
      · have hge := of_decide_eq_false hge
        show false = decide _
        rw [eq_comm, decide_eq_false_iff_not]
        rintro ⟨_, r, hr⟩
        rw [hr, List.length_append] at hge
        omega
      · have hn : p = q := by have : (p : Int) = q := by simpa using hn
                              omega
        show false = decide _
        rw [eq_comm, decide_eq_false_iff_not]
        exact fun c => c.1 hn
      · rintro b rfl
        refine ⟨fun h => ?_, fun h => ?_⟩
        · obtain ⟨hn, r, hr⟩ := of_decide_eq_true h
          have hdr : ((l.getD p []).take (((l.getD p []).length : Int) : Int).toNat).drop (((l.getD q []).length : Int) : Int).toNat = r := by
            rw [Int.toNat_natCast, Int.toNat_natCast, List.take_length, hr, List.drop_left]
          rw [hdr]
          have hsuf : r ∈ sufL l := by
            have := sufL_drop (k := (l.getD q []).length) (sufL_word (hgw p hlt))
            rwa [hr, List.drop_left] at this
          obtain ⟨k1, k2, k3, k4⟩ := hI.put hk (r := CodeRest.mk r [(p : Int)] [(q : Int)]) hsuf (by simp) (by simp)
          have hle : (l.getD q []).length ≤ (l.getD p []).length := by rw [hr, List.length_append]; omega
          refine ⟨⟨by omega, by omega, by omega⟩, k4, k1, k3, fun _ r' e => ?_⟩
          have : r' = r := by rw [hr] at e; exact (List.append_cancel_left e).symm
          rw [this]
          exact k2
        · have h := of_decide_eq_false h
          exact ⟨hI, ⟨[], by simp⟩, fun hn r e => absurd ⟨hn, r, e⟩ h⟩
      · rintro D' R' ⟨k1, k2, k3⟩
        refine ⟨⟨q + 1, wsucc (by omega), hqt, k1, fun i' hi k hk => (hF i' hi k hk).up k2, fun k hk => ?_⟩, mu_up hqt (by omega)⟩
        by_cases e : k = q
        · rw [e]; exact k3
        · exact (hG k (by omega)).up k2
    · have hge := dge hb
      refine ⟨⟨p + 1, wsucc (by omega), hlt, hI, fun i' hi k hk => ?_⟩, mu_up hlt (by omega)⟩
      by_cases e : i' = p
      · rw [e]; exact hG k (by omega)
      · exact hF i' (by omega) k hk
  · have hge := dge hb
    have hF : ∀ i', i' < l.length → ∀ k, k < l.length → FirstIn l R i' k := fun i' hi => hF i' (by omega)
    refine ⟨fun i D R => ∃ p : Nat, i = p ∧ p ≤ R.length ∧ RInv l D R ∧ (∀ i', i' < l.length → ∀ k, k < l.length → FirstIn l R i' k) ∧ ∀ j, j < p → (R.getD j default).fW ≠ [] ∧ ∀ k, k < l.length → GoIn l R (R.getD j default).fW k, fun i _ _ => 200 - i.toNat, ⟨0, rfl, Nat.zero_le _, hI, hF, fun j hj => absurd hj (Nat.not_lt_zero _)⟩, ?_⟩
    rintro i D R ⟨p, rfl, hp, hI, hF, hG⟩
    have hlen := hI.len hk
    refine ⟨fun hb => ?_, fun hb => ?_⟩
    · have hlt := dlt hb
      have hxm : R.getD p default ∈ R := getD_mem hlt
      have hxs := hI.suf _ hxm
      have hx4 := sufL_in hk hxs
      have hxr := hI.rows _ hxm
      refine ⟨R.getD p default, idx_getN default hlt, fun h => ⟨h0.symm, fun _ h => by cases h⟩, fun h => ?_⟩
      have hne : (R.getD p default).fW ≠ [] := fun e => by rw [e] at h; simp at h
      refine ⟨fun i D' R' => ∃ q : Nat, i = q ∧ q ≤ l.length ∧ RInv l D' R' ∧ (∃ s, R' = R ++ s) ∧ ∀ k, k < q → GoIn l R' (R.getD p default).fW k, fun i _ _ => l.length - i.toNat, ⟨0, rfl, Nat.zero_le _, hI, ⟨[], by simp⟩, fun i hi => absurd hi (Nat.not_lt_zero _)⟩, ?_⟩
      rintro i D' R' ⟨q, rfl, hq, hI', hs, hH⟩
      have hlen' := hI'.len hk
      have hsl : R.length ≤ R'.length := by obtain ⟨s, rfl⟩ := hs; simp
      refine ⟨fun hb => ?_, fun hb => ?_⟩
      · have hqt := dlt hb
        have hwq := hk.word _ (hgw q hqt)
        generalize hW : l.getD q [] = W at hwq
        generalize hr : (R.getD p default) = x at hxs hx4 hxr hne hH ⊢
        have hmin : (if (x.fW.length : Int) < (W.length : Int) then (x.fW.length : Int) else (W.length : Int)) = ((min W.length x.fW.length : Nat) : Int) := by split <;> omega
        have t1 : ∀ (v : List Int) (m : Nat), (v.take ((m : Nat) : Int).toNat).drop ((0 : Int)).toNat = v.take m := fun v m => by simp
        have t2 : ∀ (v : List Int) (m : Nat), (v.take ((v.length : Int) : Int).toNat).drop ((m : Nat) : Int).toNat = v.drop m := fun v m => by simp
        refine ⟨fun D2 R2 => RInv l D2 R2 ∧ (∃ s, R2 = R' ++ s) ∧ GoIn l R2 x.fW q, ⟨W, by rw [← hW]; exact idx_getN [] hqt, by omega, capOk_of (by simp only [List.length_cons, List.length_nil]; omega), ?_⟩, ?_⟩
        rw [hmin]
        refine ⟨⟨by omega, by omega, by omega⟩, ⟨by omega, by omega, by omega⟩, fun h => ?_, fun h => ⟨fun hle => ?_, fun hle => ?_⟩⟩
        · rw [t1, t1] at h
          have h : ¬ W.take (min W.length x.fW.length) = x.fW.take (min W.length x.fW.length) := by simpa using h
          refine ⟨hI', ⟨[], by simp⟩, fun r' e => absurd ?_ h, fun r' e _ => absurd ?_ h⟩
          · rw [hW] at e
            rw [e, List.length_append, Nat.min_eq_left (by omega), List.take_length, List.take_left]
          · rw [hW] at e
            rw [e, List.length_append, Nat.min_eq_right (by omega), List.take_length, List.take_left]
        · rw [t1, t1] at h
          have h : W.take (min W.length x.fW.length) = x.fW.take (min W.length x.fW.length) := by simpa using h
          have hle : W.length ≤ x.fW.length := by have := of_decide_eq_true hle; omega
          rw [Nat.min_eq_left hle, List.take_length] at h
          rw [Nat.min_eq_left hle, t2]
          obtain ⟨k1, k2, k3, k4⟩ := hI'.put hk (r := CodeRest.mk (x.fW.drop W.length) x.fA (x.fB ++ [(q : Int)])) (sufL_drop hxs) (by simp only; omega) (by simp only [List.length_append, List.length_cons, List.length_nil]; omega)
          refine ⟨⟨by omega, by omega, by omega⟩, k4, k1, k3, fun r' e => ?_, fun r' e hn => ?_⟩
          · rw [hW] at e
            have : r' = x.fW.drop W.length := by rw [e, List.drop_left]
            rw [this]; exact k2
          · rw [hW] at e
            have := congrArg List.length e
            rw [List.length_append] at this
            exact absurd (List.eq_nil_of_length_eq_zero (by omega)) hn
        · rw [t1, t1] at h
          have h : W.take (min W.length x.fW.length) = x.fW.take (min W.length x.fW.length) := by simpa using h
          have hle : ¬ W.length ≤ x.fW.length := by have := of_decide_eq_false hle; omega
          rw [Nat.min_eq_right (by omega), List.take_length] at h
          rw [Nat.min_eq_right (by omega), t2]
          have hsw : W ∈ sufL l := by rw [← hW]; exact sufL_word (hgw q hqt)
          obtain ⟨k1, k2, k3, k4⟩ := hI'.put hk (r := CodeRest.mk (W.drop x.fW.length) (x.fB ++ [(q : Int)]) x.fA) (sufL_drop hsw) (by simp only [List.length_append, List.length_cons, List.length_nil]; omega) (by simp only; omega)
          refine ⟨⟨by omega, by omega, by omega⟩, k4, k1, k3, fun r' e => ?_, fun r' e hn => ?_⟩
          · rw [hW] at e
            have := congrArg List.length e
            rw [List.length_append] at this
            omega
          · rw [hW] at e
            have : r' = W.drop x.fW.length := by rw [e, List.drop_left]
            rw [this]; exact k2
        · rintro D2 R2 ⟨k1, k2, k3⟩
          refine ⟨⟨q + 1, wsucc (by omega), hqt, k1, ?_, fun k hk => ?_⟩, mu_up hqt (by omega)⟩
          · obtain ⟨s1, e1⟩ := hs
            obtain ⟨s2, e2⟩ := k2
            exact ⟨s1 ++ s2, by rw [e2, e1, List.append_assoc]⟩
          · by_cases e : k = q
            · rw [e]; exact k3
            · exact (hH k (by omega)).up k2
      · have hge := dge hb
        have hgd : ∀ j, j < R.length → R'.getD j default = R.getD j default := fun j hj => by
          obtain ⟨s, rfl⟩ := hs
          rw [List.getD_eq_getElem?_getD, List.getElem?_append_left hj, ← List.getD_eq_getElem?_getD]
        refine ⟨⟨p + 1, wsucc (by omega), by omega, hI', fun i' hi k hk => (hF i' hi k hk).up hs, fun j hj => ?_⟩, ?_⟩
        · rw [hgd j (by omega)]
          by_cases e : j = p
          · rw [e]; exact ⟨hne, fun k hk => hH k (by omega)⟩
          · exact ⟨(hG j (by omega)).1, fun k hk => ((hG j (by omega)).2 k hk).up hs⟩
        · show 200 - (wr ((p : Int) + 1)).toNat < 200 - ((p : Nat) : Int).toNat
          rw [show wr ((p : Int) + 1) = ((p + 1 : Nat) : Int) from wsucc (by omega)]
          omega
    · have hpe : p = R.length := by have := dge hb; omega
      subst hpe
      have hS : ∀ r, r ∈ R.map (·.fW) → ∃ j, j < R.length ∧ (R.getD j default).fW = r := fun r hr => by
        obtain ⟨x, hx, rfl⟩ := List.mem_map.1 hr
        obtain ⟨j, hj, rfl⟩ := List.getElem_of_mem hx
        refine ⟨j, hj, ?_⟩
        rw [List.getD_eq_getElem?_getD, List.getElem?_eq_getElem hj]
        rfl
      refine ⟨h0.symm, fun _ _ => ⟨fun r => r ∈ R.map (·.fW), fun i hi e => ?_, fun i k r hi hk' hn e => hF i hi k hk' hn r e, fun r k r' hr hk' e => ?_, fun r k r' hr hk' e hn => ?_, fun h => ?_⟩⟩
      · have := hk.word _ (hgw i hi)
        rw [e] at this
        simp at this
      · obtain ⟨j, hj, rfl⟩ := hS r hr
        exact ((hG j hj).2 k hk').1 r' e
      · obtain ⟨j, hj, rfl⟩ := hS r hr
        exact ((hG j hj).2 k hk').2 r' e hn
      · obtain ⟨j, hj, e⟩ := hS [] h
        exact (hG j hj).1 e
theorem codUnique_ct (n : Int) (l : List (List Int)) : Ct 28 [.sv (.one (I n)), .sv (.one (LS (lsT intT) l))] [] (UniqQ n l) (fun (r : ((List Int) × (List Int) × Bool × Int)) => .tup [.one (LS intT r.1), .one (LS intT r.2.1), .one (B r.2.2.1), .one (I r.2.2.2)]) := codUnique_walk n l (UniqQ n l) (codUnique_ok n l)
end Go.Proofs.Ytiinkohfldopbaa

/- Symbolic states of a walk: functions that write rows they are handed (the row stands where it stood: nothing is appended). No condition. -/
namespace Go.Proofs.Ytiinkohfldopbaa
open Go.RowKit Go.MapKept
set_option linter.unusedSimpArgs false
set_option linter.unusedVariables false
set_option maxRecDepth 100000

def pinR (pin : List Nat) (V : Nat → Value) : SC → SC
  | .sv (.one (.own i)) => bif pin.any (Nat.beq i) then .sv (.one (.pown i (V i))) else .sv (.one (.own i))
  | x => x
def RetR {β : Type} (c : Cfg) (rs : Array ResultVar) (pin : List Nat) (V : Nat → Value) (post : β → Prop) (out : β → SC) (M' : β → List Item) : Po := fun a w => a.defers = [] ∧ ∃ v g hs r, (resR rs a.tmps).run Try.prog w = .ok v w ∧ post r ∧ (out r).ok g hs v ∧ (∀ i ∈ pin, hs i = V i) ∧ Base c w g ∧ ItemsOk c.may c.w0.heap.size (M' r) g hs w
theorem okArgs_pinR {g : Gh} {hs : Nat → Value} {pin : List Nat} : ∀ {l : List SC} {us : List Value}, okArgs g hs l us → okArgs g hs (l.map (pinR pin hs)) us
  | [], [], _ => trivial
  | [], _ :: _, h => h.elim
  | _ :: _, [], h => h.elim
  | x :: l, u :: us, h => by
    refine ⟨?_, okArgs_pinR h.2⟩
    have h1 := h.1
    unfold pinR
    split
    · rename_i i
      cases hc : pin.any (Nat.beq i) with
      | false => exact h1
      | true =>
        obtain ⟨h2, h3⟩ := h1
        exact ⟨⟨rfl, h2⟩, h3⟩
    · exact h1
theorem CtE.bodyR {β : Type} {f : Nat} {fn : Func} {code : Code} {n : Nat} {rs : Array ResultVar} {ins : List SC} {M : List Item} {pin : List Nat} {post : β → Prop} {out : β → SC} {M' : β → List Item} (hf : Try.prog.funcs[f]? = some fn) (hb : fn.body = some code) (hn : fn.ntmps = n) (hr : fn.results = rs)
    (hl : Nat.ble ins.length n = true) (h : ∀ (c : Cfg) (V : Nat → Value), c.n = n → En c ⟨enumF 0 (ins.map (pinR pin V)), M⟩ (cwp code (PQ (RetR c rs pin V post out M') [] (RetR c rs pin V post out M')))) : CtE f ins M pin post out M' := fun w g hs args hp ha hm => by
  have hl := Nat.le_of_ble_eq_true hl
  have hla := okArgs_length ha
  refine calls_of_wp hf hb (Code.wp_mono (fun e a w' q => ?_) (h ⟨n, w, g, mayM M hs⟩ hs rfl { tmps := args.toArray ++ Array.replicate (fn.ntmps - args.toArray.size) undef, defers := [] } w ⟨g, hs, ?_⟩))
  · have key : RetR ⟨n, w, g, mayM M hs⟩ rs pin hs post out M' a w' → a.defers = [] ∧ ∃ v, (results fn a.tmps).run Try.prog w' = .ok v w' ∧ ∃ v' g' hs' r, Ending.returned v = .returned v' ∧ post r ∧ (out r).ok g' hs' v' ∧ (∀ i ∈ pin, hs' i = hs i) ∧ Base ⟨0, w, g, mayM M hs⟩ w' g' ∧ ItemsOk (mayM M hs) w.heap.size (M' r) g' hs' w' := fun ⟨h1, v, g', hs', r, h2, h3, h4, h5, h6, h7⟩ => by
      refine ⟨h1, v, ?_, v, g', hs', r, rfl, h3, h4, h5, ⟨h6.os, h6.tape, h6.output, h6.grows, h6.frame, h6.ghle, h6.ghnew, h6.pers⟩, h7⟩
      subst hr
      exact h2
    cases e <;> first | exact key q | exact (q : False).elim
  · refine ⟨?_, rfl, ⟨rfl, rfl, rfl, Nat.le_refl _, fun _ _ _ => rfl, Gh.le.refl g, fun b o e => .inl e, hp⟩, fun t x hx => ?_, hm.items, hm.sep, fun i it hi hn b hb => ?_⟩
    · simp [hn]
      omega
    · obtain ⟨u, h1, _, h3⟩ := enumF_ok (okArgs_pinR ha) hx
      simp only [Nat.sub_zero] at h1
      have hlt := (List.getElem?_eq_some_iff.1 h1).1
      have : (args.toArray ++ Array.replicate (fn.ntmps - args.toArray.size) undef).getD t undef = u := by
        rw [Array.getD_eq_getD_getElem?, Array.getElem?_append_left (by simpa using hlt)]
        simp [h1]
      rw [this]
      exact h3
    · obtain ⟨h1, h2⟩ := hm.mine i it hi hn b hb
      exact ⟨h1, fun hf => ⟨.inl ⟨i, it, hi, hf, hb⟩, (h2 hf).2⟩⟩
section
variable {c : Cfg} {S S1 : St} {tab : Tab}
/-- return -/
theorem En.backR {β : Type} {post : β → Prop} {out : β → SC} {M' : β → List Item} {rs : Array ResultVar} {pin : List Nat} {V : Nat → Value} (ts : List Nat) (ht : tab.ok) (r : β) (hp : post r) (e : evR tab S rs = some (out r)) (hM : (dropM (M' r) S.M).1 = (dropM (M' r) S.M).2) (hB : ts.map (fun t => look t S.F) = pin.map fun i => some (.sv (.one (.pown i (V i))))) : En c S (RetR c rs pin V post out M') := fun a w ⟨g, hs, h⟩ => by
  obtain ⟨v, h1, h2⟩ := evR_ok ht h e
  have hM := dropM_ok hM
  have hm : ∀ (i : Nat) (it : Item), (M' r)[i]? = some it → it ≠ .gone → S.M[i]? = some it := fun i it hi hn => (hM i it hi).resolve_left hn
  refine ⟨h.defers, v, g, hs, r, h1, hp, h2, fun i hi => ?_, h.base, fun i it hi => ?_, fun i j it jt hij hi hj hfi hnj => h.sep i j it jt hij (hm i it hi (fz_gone hfi)) (hm j jt hj hnj) hfi hnj, fun i it hi hni => h.mine i it (hm i it hi hni) hni⟩
  · obtain ⟨j, hj⟩ := List.mem_iff_getElem?.1 hi
    have := congrArg (·[j]?) hB
    simp only [List.getElem?_map, hj, Option.map_some] at this
    cases ht : ts[j]? with
    | none => rw [ht] at this; simp at this
    | some t =>
      rw [ht] at this
      simp only [Option.map_some, Option.some.injEq] at this
      exact (h.slots t _ (look_mem this)).1.1
  · rcases hM i it hi with rfl | h1
    · trivial
    · exact h.items i it h1
end
end Go.Proofs.Ytiinkohfldopbaa

