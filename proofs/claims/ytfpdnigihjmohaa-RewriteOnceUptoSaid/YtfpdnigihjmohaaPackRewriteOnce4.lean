/- Lemmas towards the statement: mirrors of functions, and plain laws. No condition. -/
import Derived.Test.YtfpdnigihjmohaaPackRewriteOnce3

/- rewrite.Normal, rewrite.Fork, and the law RewriteOnce. No condition. -/
namespace Go.Proofs.Ytfpdnigihjmohaa
open Go.RowKit Go.MapKept
set_option linter.unusedSimpArgs false
set_option linter.unusedVariables false
set_option maxRecDepth 100000

def rewN1_vc (a : Int) (n : Int) (Q : Bool → Prop) : Prop :=
  Q ((decide (a < 0)) || (decide (a ≥ n)))
theorem rewN1_walk (a : Int) (n : Int) (Q : Bool → Prop) (h : rewN1_vc a n Q) : Ct 88 [.sv (.one (I a)), .sv (.one (.ptr 0 0))] [.box [I n] 3 true] Q (fun (r : Bool) => .sv (.one (B r))) := by
  have ht := tab_ok
  refine Ct.body Try.func88 rfl rfl rfl rfl (fun c hn => ?_)
  unfold rewN1_vc at h
  refine En.seq ?_
  refine En.region ?_
  refine WL.run ht hn 1 ⟨[(0, .sv (.one (I a))), (1, .sv (.one (.ptr 0 0)))], [.box [I n] 3 true]⟩ (by kernel_rfl) ?_
  refine WL.nil ?_
  refine En.seq ?_
  refine En.region ?_
  refine WL.run ht hn 3 ⟨[(0, .sv (.one (I a))), (1, .sv (.one (.ptr 0 0))), (6, .sv (.one (B (decide (a < 0)))))], [.box [I n] 3 true]⟩ (by kernel_rfl) ?_
  refine WL.thru ⟨[(3, .sv (.one (B ((decide (a < 0)) || (decide (a ≥ n))))))], [.gone]⟩ ?_ ?_
  · refine splitB (decide (a < 0)) (fun hb0 => ?_) (fun hb0 => ?_)
    · refine WL.setB 6 hb0 (by kernel_rfl) ?_
      refine WL.run ht hn 5 ⟨[(3, .sv (.one (B true)))], [.gone]⟩ (by kernel_rfl) ?_
      exact WL.nil (sub_ok (by simp only [hb0]; kernel_rfl))
    · refine WL.setB 6 hb0 (by kernel_rfl) ?_
      refine WL.run ht hn 5 ⟨[(3, .sv (.one (B (decide (a ≥ n)))))], [.gone]⟩ (by kernel_rfl) ?_
      exact WL.nil (sub_ok (by simp only [hb0]; kernel_rfl))
  · refine En.ret ?_
    exact En.back ht ((decide (a < 0)) || (decide (a ≥ n))) h (by kernel_rfl) rfl
theorem en88 : ∀ args w, (callFunc 88 args).run Try.prog w = .ok (.enter 88 args) w := enters_of Try.func88 (by kernel_rfl) rfl
theorem rewN1_ct (a : Int) (n : Int)  : Ct 88 [.sv (.one (I a)), .sv (.one (.ptr 0 0))] [.box [I n] 3 true] (fun (_ : Unit) => True) (fun _ => .sv (.one (B (offB n a)))) := by
  refine (rewN1_walk a n (fun res_ => res_ = (offB n a)) ?_).fun
  rfl
def rewNormalE_vc (n : Int) (l : (List ApiSwap)) (w : (List Int)) (Q : ((List Int) × Int) → Prop) : Prop :=
  l.length ≤ 9223372036854775807 →
  w.length ≤ 9223372036854775807 →
  (IfP ((rewErr n l) != 0) (Q ([], (rewErr n l))) (IfP (decide ((w.length : Int) > 8)) (Q ([], 1)) ((∀ x_ ∈ w, (fun _ => True) x_) ∧
  IfP (w.any (offB n)) (Q ([], 2)) ((NormPre l w) ∧
  ((normalR l w).length * 8 ≤ 140737488355328) ∧
  Q (((normalR l w)), 0)))))
theorem rewNormalE_walk (n : Int) (l : (List ApiSwap)) (w : (List Int)) (Q : ((List Int) × Int) → Prop) (h : rewNormalE_vc n l w Q) : Ct 37 [.sv (.one (I n)), .sv (.one (LS ApiSwap.ty l)), .sv (.one (LS intT w))] [] Q (fun (r : ((List Int) × Int)) => .tup [.one (LS intT r.1), .one (I r.2)]) := by
  have ht := tab_ok
  refine Ct.body Try.func37 rfl rfl rfl rfl (fun c hn => ?_)
  unfold rewNormalE_vc at h
  refine En.lenL 1 (by rfl) (fun hl => ?_)
  replace h := h hl
  clear hl
  refine En.lenL 2 (by rfl) (fun hl => ?_)
  replace h := h hl
  clear hl
  refine En.seq ?_
  refine En.region ?_
  refine WL.run ht hn 3 ⟨[(1, .sv (.one (LS ApiSwap.ty l))), (2, .sv (.one (LS intT w))), (3, .sv (.one (.ptr 0 0)))], [.box [I n] 3 false]⟩ (by kernel_rfl) ?_
  refine WL.nil ?_
  refine En.seq ?_
  refine En.seq ?_
  refine En.region ?_
  refine WL.run ht hn 2 ⟨[(1, .sv (.one (LS ApiSwap.ty l))), (2, .sv (.one (LS intT w))), (3, .sv (.one (.ptr 0 0))), (9, .sv (.one (I n))), (10, .sv (.one (LS ApiSwap.ty l)))], [.box [I n] 3 false]⟩ (by kernel_rfl) ?_
  refine WL.mt0 (K := []) (p := none) hn (by rfl) (mt_call (rewCheck_ct n l) en87 (caps := []) [] rfl (by rfl) (by kernel_rfl) (by kernel_rfl) (by rfl) (by rfl) (by rfl)) (by rfl) (by rfl) (by rfl) ?_
  refine WL.run ht hn 1 ⟨[(1, .sv (.one (LS ApiSwap.ty l))), (2, .sv (.one (LS intT w))), (3, .sv (.one (.ptr 0 0))), (8, .sv (.one (I (rewErr n l))))], [.box [I n] 3 false]⟩ (by kernel_rfl) ?_
  refine WL.nil ?_
  refine En.seq ?_
  refine En.region ?_
  refine WL.run ht hn 2 ⟨[(1, .sv (.one (LS ApiSwap.ty l))), (2, .sv (.one (LS intT w))), (3, .sv (.one (.ptr 0 0))), (8, .sv (.one (I (rewErr n l)))), (13, .sv (.one (B ((rewErr n l) != 0))))], [.box [I n] 3 false]⟩ (by kernel_rfl) ?_
  refine WL.nil ?_
  refine En.cond (b := ((rewErr n l) != 0)) (by kernel_rfl) (fun hb => ?_) (fun hb => ?_)
  · replace h := h.1 hb
    refine En.seq ?_
    refine En.region ?_
    refine WL.run ht hn 3 ⟨[(6, .sv (.one (.v (.slice none 0 0)))), (7, .sv (.one (I (rewErr n l))))], [.gone]⟩ (by kernel_rfl) ?_
    refine WL.nil ?_
    refine En.ret ?_
    refine En.nilLS 6 intT (by rfl) ?_
    exact En.back ht ([], (rewErr n l)) h (by kernel_rfl) rfl
  · replace h := h.2 hb
    refine En.skip ?_
    refine En.seq ?_
    refine En.seq ?_
    refine En.region ?_
    refine WL.run ht hn 3 ⟨[(1, .sv (.one (LS ApiSwap.ty l))), (2, .sv (.one (LS intT w))), (3, .sv (.one (.ptr 0 0))), (17, .sv (.one (B (decide ((w.length : Int) > 8)))))], [.box [I n] 3 false]⟩ (by kernel_rfl) ?_
    refine WL.nil ?_
    refine En.cond (b := (decide ((w.length : Int) > 8))) (by kernel_rfl) (fun hb => ?_) (fun hb => ?_)
    · replace h := h.1 hb
      refine En.seq ?_
      refine En.region ?_
      refine WL.run ht hn 2 ⟨[(6, .sv (.one (.v (.slice none 0 0)))), (7, .sv (.one (I 1)))], [.gone]⟩ (by kernel_rfl) ?_
      refine WL.nil ?_
      refine En.ret ?_
      refine En.nilLS 6 intT (by rfl) ?_
      exact En.back ht ([], 1) h (by kernel_rfl) rfl
    · replace h := h.2 hb
      refine En.skip ?_
      refine En.seq ?_
      refine En.seq ?_
      refine En.region ?_
      refine WL.run ht hn 2 ⟨[(1, .sv (.one (LS ApiSwap.ty l))), (2, .sv (.one (LS intT w))), (18, .sv (.one (LS intT w))), (19, .sv (.one (.fn 88 [0])))], [.box [I n] 3 false]⟩ (by kernel_rfl) ?_
      have hp := h.1
      replace h := h.2
      refine WL.mt0 (K := []) (p := none) hn (by rfl) (mt_lendF [0] (by rfl) (by rfl) (mt_ghost 19 (.sv (.one (.rd (fvR (fun (x_ : Int) => [.sv (.one (I x_))]) (fun (r : Bool) => .sv (.one (B r))) (fun _ => True) (offB n))))) (by rfl) (fv_of (M := [.box [I n] 3 true]) (caps := [0]) (fun x_ _ => rewN1_ct x_ n) en88 rfl (by kernel_rfl) (by rfl) (fun _ => rfl)) (mt_call (anyInt_ct w (fun _ => True) (offB n) hp) en79 (caps := []) [] rfl (by rfl) (by kernel_rfl) (by kernel_rfl) (by rfl) (by rfl) (by rfl)))) (by rfl) (by rfl) (by rfl) ?_
      refine WL.nil ?_
      refine En.cond (b := (w.any (offB n))) (by kernel_rfl) (fun hb => ?_) (fun hb => ?_)
      · replace h := h.1 hb
        refine En.seq ?_
        refine En.region ?_
        refine WL.run ht hn 2 ⟨[(6, .sv (.one (.v (.slice none 0 0)))), (7, .sv (.one (I 2)))], [.gone]⟩ (by kernel_rfl) ?_
        refine WL.nil ?_
        refine En.ret ?_
        refine En.nilLS 6 intT (by rfl) ?_
        exact En.back ht ([], 2) h (by kernel_rfl) rfl
      · replace h := h.2 hb
        refine En.skip ?_
        refine En.seq ?_
        refine En.region ?_
        refine WL.run ht hn 2 ⟨[(21, .sv (.one (LS ApiSwap.ty l))), (22, .sv (.one (LS intT w)))], [.gone]⟩ (by kernel_rfl) ?_
        have hp := h.1
        replace h := h.2
        refine WL.mt0 (K := []) (p := none) hn (by rfl) (mt_call (rewNormal_ct l w hp) en89 (caps := []) [] rfl (by rfl) (by kernel_rfl) (by kernel_rfl) (by rfl) (by rfl) (by rfl)) (by rfl) (by rfl) (by rfl) ?_
        have hp := h.1
        replace h := h.2
        refine WL.mt0 (K := []) (p := some (1, rowI 3 intT ((normalR l w)))) hn (by rfl) (mt_callI 1 (cloneInt_ct (normalR l w) hp) en47 (caps := []) [] rfl rfl (by rfl) (by kernel_rfl) (by kernel_rfl) (by rfl) (by rfl)) (by rfl) (by rfl) (by rfl) ?_
        refine WL.run ht hn 2 ⟨[(6, .sv (.one (.own 1))), (7, .sv (.one (I 0)))], [.gone, rowI 3 intT ((normalR l w))]⟩ (by kernel_rfl) ?_
        refine WL.nil ?_
        refine En.ret ?_
        refine En.seal (T := intT) (l := ((normalR l w))) (e := 3) 1 rfl ?_
        exact En.back ht (((normalR l w)), 0) h (by kernel_rfl) rfl
theorem en37 : ∀ args w, (callFunc 37 args).run Try.prog w = .ok (.enter 37 args) w := enters_of Try.func37 (by kernel_rfl) rfl
def normE (n : Int) (l : List ApiSwap) (w : List Int) : List Int × Int :=
  if rewErr n l ≠ 0 then ([], rewErr n l) else if w.length > 8 then ([], 1) else if w.any (offB n) then ([], 2) else (normalR l w, 0)
theorem normalR_len {n : Int} {l : List ApiSwap} {w : List Int} (h : RewOk n l) (hw : In4 w) : In4 (normalR l w) ∧ (normalR l w).length ≤ w.length :=
  (normW_ok h.rules (Nat.le_refl _) hw).1.ok h.rules hw
theorem rewNormalE_ct (n : Int) (l : (List ApiSwap)) (w : (List Int))  : Ct 37 [.sv (.one (I n)), .sv (.one (LS ApiSwap.ty l)), .sv (.one (LS intT w))] [] (fun (_ : Unit) => True) (fun _ => .tup [.one (LS intT (normE n l w).1), .one (I (normE n l w).2)]) := by
  refine (rewNormalE_walk n l w (fun res_ => res_ = (normE n l w)) ?_).fun
  intro _ _
  refine ⟨fun h => ?_, fun h => ⟨fun h2 => ?_, fun h2 => ⟨fun _ _ => trivial, fun h3 => ?_, fun h3 => ?_⟩⟩⟩
  · show _ = normE n l w
    unfold normE; rw [if_pos (by simpa using h)]
  · show _ = normE n l w
    unfold normE; rw [if_neg (by simpa using h), if_pos (by have := of_decide_eq_true h2; omega)]
  · show _ = normE n l w
    unfold normE; rw [if_neg (by simpa using h), if_neg (by have := of_decide_eq_false h2; omega), if_pos h3]
  have h0 : rewErr n l = 0 := by simpa using h
  have hk := rewErr_ok h0
  have h8 : w.length ≤ 8 := by have := of_decide_eq_false h2; omega
  have hw := anyOff_in hk.n4 h3
  refine ⟨⟨hk.rules, hk.from5, hw, by omega⟩, by have := (normalR_len hk hw).2; omega, ?_⟩
  show _ = normE n l w
  unfold normE; rw [if_neg (by simpa using h), if_neg (by omega), if_neg (by rw [h3]; decide)]
def detKey_vc (l : (List Int)) (Q : ByteArray → Prop) : Prop :=
  l.length ≤ 9223372036854775807 →
  (∃ (Inv : Int → (List Int) → Prop) (mu : Int → (List Int) → Nat), Inv 0 ([] : (List Int)) ∧
  ∀ (x8 : Int) (l1 : (List Int)) , Inv x8 l1 → (IfP (decide (x8 < (l.length : Int))) (∃ e, idx l x8 = some e ∧
  capOk l1.length (([(IntKind.wrap .u8 e), (IntKind.wrap .u8 (Int.fdiv e (2 ^ (min 8 64))))] : (List Int)) : (List Int)).length 1 ∧
  (Inv (wr (x8 + 1)) (l1 ++ ([(IntKind.wrap .u8 e), (IntKind.wrap .u8 (Int.fdiv e (2 ^ (min 8 64))))] : (List Int))) ∧ mu (wr (x8 + 1)) (l1 ++ ([(IntKind.wrap .u8 e), (IntKind.wrap .u8 (Int.fdiv e (2 ^ (min 8 64))))] : (List Int))) < mu x8 l1)) (Q (bytesOf l1))))
theorem detKey_walk (l : (List Int)) (Q : ByteArray → Prop) (h : detKey_vc l Q) : Ct 67 [.sv (.one (LS intT l))] [] Q (fun (r : ByteArray) => .sv (.one (.v (.string r)))) := by
  have ht := tab_ok
  refine Ct.body Try.func67 rfl rfl rfl rfl (fun c hn => ?_)
  unfold detKey_vc at h
  refine En.lenL 0 (by rfl) (fun hl => ?_)
  replace h := h hl
  clear hl
  refine En.seq ?_
  refine En.region ?_
  refine WL.run ht hn 1 ⟨[(0, .sv (.one (LS intT l)))], []⟩ (by kernel_rfl) ?_
  refine WL.nil ?_
  refine En.seq ?_
  refine En.region ?_
  refine WL.run ht hn 1 ⟨[(0, .sv (.one (LS intT l))), (3, .sv (.one (.v (.slice none 0 0))))], []⟩ (by kernel_rfl) ?_
  refine WL.nil ?_
  refine En.seq ?_
  refine En.seq ?_
  refine En.region ?_
  refine WL.run ht hn 3 ⟨[(3, .sv (.one (.v (.slice none 0 0)))), (6, .sv (.one (LS intT l))), (7, .sv (.one (I (l.length : Int)))), (8, .sv (.one (I 0)))], []⟩ (by kernel_rfl) ?_
  refine WL.nil ?_
  refine En.block ?_
  refine En.rowNil 3 1 5 (intKT .u8) (by rfl) (by rfl) ?_
  obtain ⟨Inv, mu, h0, hI⟩ := h
  refine En.loop (σ := Int × (List Int)) (fun zz => Inv zz.1 zz.2) (fun zz => mu zz.1 zz.2) (fun zz => ⟨[(3, .sv (.one (.own 1))), (6, .sv (.one (LS intT l))), (7, .sv (.one (I (l.length : Int)))), (8, .sv (.one (I zz.1)))], [.gone, rowI 5 (intKT .u8) zz.2]⟩) (0, ([] : (List Int))) h0 (sub_ok (by kernel_rfl)) ?_
  rintro ⟨x8, l1⟩ h
  replace h := hI _ _ h
  show En c ⟨[(3, .sv (.one (.own 1))), (6, .sv (.one (LS intT l))), (7, .sv (.one (I (l.length : Int)))), (8, .sv (.one (I x8)))], [.gone, rowI 5 (intKT .u8) l1]⟩ _
  refine En.seq ?_
  refine En.region ?_
  refine WL.run ht hn 1 ⟨[(3, .sv (.one (.own 1))), (6, .sv (.one (LS intT l))), (7, .sv (.one (I (l.length : Int)))), (8, .sv (.one (I x8))), (9, .sv (.one (B (decide (x8 < (l.length : Int))))))], [.gone, rowI 5 (intKT .u8) l1]⟩ (by kernel_rfl) ?_
  refine WL.nil ?_
  refine En.seq ?_
  refine En.cond (b := (decide (x8 < (l.length : Int)))) (by kernel_rfl) (fun hb => ?_) (fun hb => ?_)
  · replace h := h.1 hb
    refine En.skip ?_
    refine En.seq ?_
    refine En.block ?_
    refine En.seq ?_
    refine En.region ?_
    obtain ⟨e, he, h⟩ := h
    refine WL.val hn (by rfl) (val_index (T := intT) (l := l) (i := x8) ht rfl (by rfl) (by rfl) (by rfl) (by rfl) (by rfl) (by rfl) he) (by rfl) ?_
    refine WL.val hn (by rfl) (val_load (s := .one (I e)) ht rfl (by rfl) (by rfl) (by rfl) (by rfl) (by rfl)) (by rfl) ?_
    refine WL.run ht hn 1 ⟨[(3, .sv (.one (.own 1))), (5, .sv (.one (I e))), (6, .sv (.one (LS intT l))), (7, .sv (.one (I (l.length : Int)))), (8, .sv (.one (I x8)))], [.gone, rowI 5 (intKT .u8) l1]⟩ (by kernel_rfl) ?_
    refine WL.nil ?_
    refine En.region ?_
    refine WL.run ht hn 6 ⟨[(6, .sv (.one (LS intT l))), (7, .sv (.one (I (l.length : Int)))), (8, .sv (.one (I x8))), (12, .sv (.one (.own 1))), (14, .sv (.one (.v (.int .u8 (IntKind.wrap .u8 e))))), (17, .sv (.one (.v (.int .u8 (IntKind.wrap .u8 (Int.fdiv e (2 ^ (min 8 64))))))))], [.gone, rowI 5 (intKT .u8) l1]⟩ (by kernel_rfl) ?_
    refine WL.mt0 (K := []) (p := some (2, rowI 5 (intKT .u8) ([(IntKind.wrap .u8 e), (IntKind.wrap .u8 (Int.fdiv e (2 ^ (min 8 64))))] : (List Int)))) hn (by rfl) (mt_lit (T := (intKT .u8)) ([(IntKind.wrap .u8 e), (IntKind.wrap .u8 (Int.fdiv e (2 ^ (min 8 64))))] : (List Int)) (mt_bsl 2 (r := cellsOf (intKT .u8) ([(IntKind.wrap .u8 e), (IntKind.wrap .u8 (Int.fdiv e (2 ^ (min 8 64))))] : (List Int))) ht rfl (by rfl) (by rfl) (by rfl) (by kernel_rfl) (by rfl)) (fun _ h => by cases h) (fun _ => rfl) (fun _ => rfl) (by rfl) (Nat.le_of_ble_eq_true rfl)) (by rfl) (by rfl) (by rfl) ?_
    refine WL.seal (T := (intKT .u8)) (l := ([(IntKind.wrap .u8 e), (IntKind.wrap .u8 (Int.fdiv e (2 ^ (min 8 64))))] : (List Int))) (e := 5) 2 rfl ?_
    refine WL.run ht hn 0 ⟨[(6, .sv (.one (LS intT l))), (7, .sv (.one (I (l.length : Int)))), (8, .sv (.one (I x8))), (12, .sv (.one (.own 1))), (14, .sv (.one (.v (.int .u8 (IntKind.wrap .u8 e))))), (17, .sv (.one (.v (.int .u8 (IntKind.wrap .u8 (Int.fdiv e (2 ^ (min 8 64)))))))), (18, .sv (.one (LS (intKT .u8) ([(IntKind.wrap .u8 e), (IntKind.wrap .u8 (Int.fdiv e (2 ^ (min 8 64))))] : (List Int)))))], [.gone, rowI 5 (intKT .u8) l1, .gone]⟩ (by kernel_rfl) ?_
    have hp := h.1
    replace h := h.2
    refine WL.mt (S2 := ⟨[(6, .sv (.one (LS intT l))), (7, .sv (.one (I (l.length : Int)))), (8, .sv (.one (I x8))), (14, .sv (.one (.v (.int .u8 (IntKind.wrap .u8 e))))), (17, .sv (.one (.v (.int .u8 (IntKind.wrap .u8 (Int.fdiv e (2 ^ (min 8 64)))))))), (18, .sv (.one (LS (intKT .u8) ([(IntKind.wrap .u8 e), (IntKind.wrap .u8 (Int.fdiv e (2 ^ (min 8 64))))] : (List Int)))))], [.gone, rowI 5 (intKT .u8) l1, .gone]⟩) (K := [1]) (p := some (1, rowI 5 (intKT .u8) (l1 ++ ([(IntKind.wrap .u8 e), (IntKind.wrap .u8 (Int.fdiv e (2 ^ (min 8 64))))] : (List Int))))) hn (by rfl) (mt_append (T := (intKT .u8)) (l := l1) (es := ([(IntKind.wrap .u8 e), (IntKind.wrap .u8 (Int.fdiv e (2 ^ (min 8 64))))] : (List Int))) ht rfl (by rfl) (by rfl) (by rfl) (by rfl) (by decide) (by rfl) (by rfl) (srcLS (T := (intKT .u8)) (es := ([(IntKind.wrap .u8 e), (IntKind.wrap .u8 (Int.fdiv e (2 ^ (min 8 64))))] : (List Int))) (fun _ h => by cases h) (by decide) (by rfl)) (by exact hp) (by exact hp.le (by decide))) (by kernel_rfl) (by rfl) (by rfl) (by rfl) ?_
    refine WL.run ht hn 1 ⟨[(3, .sv (.one (.own 1))), (6, .sv (.one (LS intT l))), (7, .sv (.one (I (l.length : Int)))), (8, .sv (.one (I x8)))], [.gone, rowI 5 (intKT .u8) (l1 ++ ([(IntKind.wrap .u8 e), (IntKind.wrap .u8 (Int.fdiv e (2 ^ (min 8 64))))] : (List Int))), .gone]⟩ (by kernel_rfl) ?_
    refine WL.nil ?_
    refine En.region ?_
    refine WL.run ht hn 2 ⟨[(3, .sv (.one (.own 1))), (6, .sv (.one (LS intT l))), (7, .sv (.one (I (l.length : Int)))), (8, .sv (.one (I (wr (x8 + 1)))))], [.gone, rowI 5 (intKT .u8) (l1 ++ ([(IntKind.wrap .u8 e), (IntKind.wrap .u8 (Int.fdiv e (2 ^ (min 8 64))))] : (List Int))), .gone]⟩ (by kernel_rfl) ?_
    refine WL.nil ?_
    exact En.at (I := fun zz => Inv zz.1 zz.2 ∧ mu zz.1 zz.2 < mu x8 l1) (T := fun zz => ⟨[(3, .sv (.one (.own 1))), (6, .sv (.one (LS intT l))), (7, .sv (.one (I (l.length : Int)))), (8, .sv (.one (I zz.1)))], [.gone, rowI 5 (intKT .u8) zz.2]⟩) ((wr (x8 + 1)), (l1 ++ ([(IntKind.wrap .u8 e), (IntKind.wrap .u8 (Int.fdiv e (2 ^ (min 8 64))))] : (List Int)))) h (by kernel_rfl)
  · replace h := h.2 hb
    refine En.exit rfl ?_
    refine En.seq ?_
    refine En.region ?_
    refine WL.run ht hn 1 ⟨[(21, .sv (.one (.own 1)))], [.gone, rowI 5 (intKT .u8) l1]⟩ (by kernel_rfl) ?_
    refine WL.val hn (by rfl) (val_str rfl Try.underlying225 Try.underlying5 Try.underlying9 (srcOwn (T := intKT .u8) (es := l1) (fun _ h => by cases h) (by rfl) (by rfl))) (by rfl) ?_
    refine WL.run ht hn 1 ⟨[(2, .sv (.one (.v (.string (bytesOf l1)))))], [.gone, .gone]⟩ (by kernel_rfl) ?_
    refine WL.nil ?_
    refine En.ret ?_
    exact En.back ht (bytesOf l1) h (by kernel_rfl) rfl
theorem en67 : ∀ args w, (callFunc 67 args).run Try.prog w = .ok (.enter 67 args) w := enters_of Try.func67 (by kernel_rfl) rfl
def keyB (e : Int) : List Int := [IntKind.wrap .u8 e, IntKind.wrap .u8 (Int.fdiv e (2 ^ (min 8 64)))]
def keyR (l : List Int) : ByteArray := bytesOf (l.flatMap keyB)
theorem key_len : ∀ l : List Int, (l.flatMap keyB).length = 2 * l.length
  | [] => rfl
  | e :: l => by
    rw [List.flatMap_cons, List.length_append, key_len l, List.length_cons]
    show 2 + _ = _
    omega
theorem detKey_ct (l : (List Int)) (hp : l.length ≤ 1000)  : Ct 67 [.sv (.one (LS intT l))] [] (fun (_ : Unit) => True) (fun _ => .sv (.one (.v (.string (keyR l))))) := by
  refine (detKey_walk l (fun res_ => res_ = (keyR l)) ?_).fun
  intro _
  refine ⟨fun i r => ∃ k : Nat, i = k ∧ k ≤ l.length ∧ r = (l.take k).flatMap keyB, fun i _ => l.length - i.toNat, ⟨0, rfl, Nat.zero_le _, by simp⟩, ?_⟩
  rintro i r ⟨k, rfl, hk, rfl⟩
  refine ⟨fun hb => ?_, fun hb => ?_⟩
  · have hlt := dlt hb
    refine ⟨_, idx_at hlt, capOk_of ?_, ⟨k + 1, wsucc (by omega), hlt, ?_⟩, mu_up hlt (by omega)⟩
    · rw [key_len, List.length_take]
      simp only [List.length_cons, List.length_nil]
      omega
    · rw [List.take_add_one, List.flatMap_append, List.getElem?_eq_getElem hlt]
      simp [keyB]
  · rw [List.take_of_length_le (dge hb)]
    rfl
def rewTry_vc (l : (List ApiSwap)) (w : (List Int)) (u : (List Int)) (v : (List Int)) (word : (List Int)) (a : ApiSwap) (i : Int) (b : ApiSwap) (k : Int) (Q : Bool × (List Int) × (List Int) × (List Int) → Prop) : Prop :=
  word.length ≤ 9223372036854775807 →
  a.fFrom.length ≤ 9223372036854775807 →
  a.fTo.length ≤ 9223372036854775807 →
  b.fFrom.length ≤ 9223372036854775807 →
  b.fTo.length ≤ 9223372036854775807 →
  ((SwapPre word a i) ∧
  (NormPre l (swapL word a i)) ∧
  (SwapPre word b k) ∧
  (NormPre l (swapL word b k)) ∧
  ((normalR l (swapL word a i)).length ≤ 1000) ∧
  ((normalR l (swapL word b k)).length ≤ 1000) ∧
  IfP (decide ((keyR (normalR l (swapL word a i))) = (keyR (normalR l (swapL word b k))))) (Q (false, w, u, v)) ((word.length * 8 ≤ 140737488355328) ∧
  ((normalR l (swapL word a i)).length * 8 ≤ 140737488355328) ∧
  ((normalR l (swapL word b k)).length * 8 ≤ 140737488355328) ∧
  Q (true, (word), ((normalR l (swapL word a i))), ((normalR l (swapL word b k))))))
theorem rewTry_walk (l : (List ApiSwap)) (w : (List Int)) (u : (List Int)) (v : (List Int)) (word : (List Int)) (a : ApiSwap) (i : Int) (b : ApiSwap) (k : Int) (Q : Bool × (List Int) × (List Int) × (List Int) → Prop) (h : rewTry_vc l w u v word a i b k Q) : CtE 90 [.sv (.one (LS intT word)), .sv (.agg [LS intT a.fFrom, LS intT a.fTo]), .sv (.one (I i)), .sv (.agg [LS intT b.fFrom, LS intT b.fTo]), .sv (.one (I k)), .sv (.one (.ptr 0 0)), .sv (.one (.ptr 1 0)), .sv (.one (.ptr 2 0)), .sv (.one (.ptr 3 0))] [.box [LS ApiSwap.ty l] 98 true, .box [LS intT w] 22 false, .box [LS intT u] 22 false, .box [LS intT v] 22 false] [0, 1, 2, 3] Q (fun (r : Bool × (List Int) × (List Int) × (List Int)) => .sv (.one (B r.1))) (fun (r : Bool × (List Int) × (List Int) × (List Int)) => [.box [LS ApiSwap.ty l] 98 true, .box [LS intT r.2.1] 22 false, .box [LS intT r.2.2.1] 22 false, .box [LS intT r.2.2.2] 22 false]) := by
  have ht := tab_ok
  refine CtE.body Try.func90 rfl rfl rfl (by kernel_rfl) (by kernel_rfl) (fun c Bk hn => ?_)
  unfold rewTry_vc at h
  show En c ⟨[(0, .sv (.one (LS intT word))), (1, .sv (.agg [LS intT a.fFrom, LS intT a.fTo])), (2, .sv (.one (I i))), (3, .sv (.agg [LS intT b.fFrom, LS intT b.fTo])), (4, .sv (.one (I k))), (5, .sv (.one (.pptr 0 0 (Bk 0)))), (6, .sv (.one (.pptr 1 0 (Bk 1)))), (7, .sv (.one (.pptr 2 0 (Bk 2)))), (8, .sv (.one (.pptr 3 0 (Bk 3))))], [.box [LS ApiSwap.ty l] 98 true, .box [LS intT w] 22 false, .box [LS intT u] 22 false, .box [LS intT v] 22 false]⟩ _
  refine En.lenL 0 (by rfl) (fun hl => ?_)
  replace h := h hl
  clear hl
  refine En.lenA 1 0 (by rfl) (by rfl) (fun hl => ?_)
  replace h := h hl
  clear hl
  refine En.lenA 1 1 (by rfl) (by rfl) (fun hl => ?_)
  replace h := h hl
  clear hl
  refine En.lenA 3 0 (by rfl) (by rfl) (fun hl => ?_)
  replace h := h hl
  clear hl
  refine En.lenA 3 1 (by rfl) (by rfl) (fun hl => ?_)
  replace h := h hl
  clear hl
  refine En.seq ?_
  refine En.region ?_
  refine WL.run ht hn 3 ⟨[(0, .sv (.one (LS intT word))), (2, .sv (.one (I i))), (4, .sv (.one (I k))), (5, .sv (.one (.pptr 0 0 (Bk 0)))), (6, .sv (.one (.pptr 1 0 (Bk 1)))), (7, .sv (.one (.pptr 2 0 (Bk 2)))), (8, .sv (.one (.pptr 3 0 (Bk 3)))), (10, .sv (.one (.ptr 4 0))), (12, .sv (.one (.ptr 5 0)))], [.box [LS ApiSwap.ty l] 98 true, .box [LS intT w] 22 false, .box [LS intT u] 22 false, .box [LS intT v] 22 false, .box [LS intT a.fFrom, LS intT a.fTo] 101 false, .box [LS intT b.fFrom, LS intT b.fTo] 101 false]⟩ (by kernel_rfl) ?_
  refine WL.nil ?_
  refine En.seq ?_
  have hp_2 := h.1
  replace h := h.2
  have hp_3 := h.1
  replace h := h.2
  have hp_4 := h.1
  replace h := h.2
  have hp_5 := h.1
  replace h := h.2
  refine En.regionA ⟨[(0, .sv (.one (LS intT word))), (2, .sv (.one (I i))), (4, .sv (.one (I k))), (5, .sv (.one (.pptr 0 0 (Bk 0)))), (6, .sv (.one (.pptr 1 0 (Bk 1)))), (7, .sv (.one (.pptr 2 0 (Bk 2)))), (8, .sv (.one (.pptr 3 0 (Bk 3)))), (10, .sv (.one (.ptr 4 0))), (12, .sv (.one (.ptr 5 0)))], [.sv (.one (LS ApiSwap.ty l)), .sv (.one (LS intT word)), .sv (.agg [LS intT a.fFrom, LS intT a.fTo]), .sv (.one (I i)), .sv (.one (LS intT (swapL word a i))), .sv (.one (LS intT (normalR l (swapL word a i)))), .sv (.one (LS ApiSwap.ty l)), .sv (.one (LS intT word)), .sv (.agg [LS intT b.fFrom, LS intT b.fTo]), .sv (.one (I k)), .sv (.one (LS intT (swapL word b k))), .sv (.one (LS intT (normalR l (swapL word b k)))), .sv (.one (LS intT (normalR l (swapL word a i)))), .sv (.one (LS intT (normalR l (swapL word b k))))], [⟨.box [LS ApiSwap.ty l] 98 true, none, none, none⟩, ⟨.box [LS intT w] 22 false, none, none, none⟩, ⟨.box [LS intT u] 22 false, none, none, none⟩, ⟨.box [LS intT v] 22 false, none, none, none⟩, ⟨.box [LS intT a.fFrom, LS intT a.fTo] 101 false, none, none, none⟩, ⟨.box [LS intT b.fFrom, LS intT b.fTo] 101 false, none, none, none⟩]⟩ ⟨[(0, .sv (.one (LS intT word))), (5, .sv (.one (.pptr 0 0 (Bk 0)))), (6, .sv (.one (.pptr 1 0 (Bk 1)))), (7, .sv (.one (.pptr 2 0 (Bk 2)))), (8, .sv (.one (.pptr 3 0 (Bk 3)))), (15, .sv (.one (LS intT (normalR l (swapL word a i))))), (16, .sv (.one (LS intT (normalR l (swapL word b k)))))], [.box [LS ApiSwap.ty l] 98 true, .box [LS intT w] 22 false, .box [LS intT u] 22 false, .box [LS intT v] 22 false, .gone, .gone]⟩ (by kernel_rfl) hn (by kernel_rfl) (by rfl) (by kernel_rfl) ?_ (by kernel_rfl) ?_
  · exact ⟨.mt ⟨[(5, .sv (.one (.pptr 0 0 (Bk 0))))], [.box [LS ApiSwap.ty l] 98 true]⟩ [] none (by kernel_rfl) (by rfl) (mt_ev ht (by kernel_rfl)) rfl rfl rfl rfl,
    .mt ⟨[(0, .sv (.one (LS intT word)))], []⟩ [] none (by kernel_rfl) (by rfl) (mt_ev ht (by kernel_rfl)) rfl rfl rfl rfl,
    .mt ⟨[(10, .sv (.one (.ptr 4 0)))], [.gone, .gone, .gone, .gone, .box [LS intT a.fFrom, LS intT a.fTo] 101 false]⟩ [] none (by kernel_rfl) (by rfl) (mt_ev ht (by kernel_rfl)) rfl rfl rfl rfl,
    .mt ⟨[(2, .sv (.one (I i)))], []⟩ [] none (by kernel_rfl) (by rfl) (mt_ev ht (by kernel_rfl)) rfl rfl rfl rfl,
    .mt ⟨[(18, .sv (.one (LS intT word))), (19, .sv (.agg [LS intT a.fFrom, LS intT a.fTo])), (20, .sv (.one (I i)))], []⟩ [] none (by kernel_rfl) (by rfl) (mt_call (rewSwapped_ct word a i hp_2) en91 (caps := []) [] rfl (by rfl) (by kernel_rfl) (by kernel_rfl) (by rfl) (by rfl) (by rfl)) rfl rfl rfl rfl,
    .mt ⟨[(17, .sv (.one (LS ApiSwap.ty l))), (21, .sv (.one (LS intT (swapL word a i))))], []⟩ [] none (by kernel_rfl) (by rfl) (mt_call (rewNormal_ct l (swapL word a i) hp_3) en89 (caps := []) [] rfl (by rfl) (by kernel_rfl) (by kernel_rfl) (by rfl) (by rfl) (by rfl)) rfl rfl rfl rfl,
    .mt ⟨[(5, .sv (.one (.pptr 0 0 (Bk 0))))], [.box [LS ApiSwap.ty l] 98 true]⟩ [] none (by kernel_rfl) (by rfl) (mt_ev ht (by kernel_rfl)) rfl rfl rfl rfl,
    .mt ⟨[(0, .sv (.one (LS intT word)))], []⟩ [] none (by kernel_rfl) (by rfl) (mt_ev ht (by kernel_rfl)) rfl rfl rfl rfl,
    .mt ⟨[(12, .sv (.one (.ptr 5 0)))], [.gone, .gone, .gone, .gone, .gone, .box [LS intT b.fFrom, LS intT b.fTo] 101 false]⟩ [] none (by kernel_rfl) (by rfl) (mt_ev ht (by kernel_rfl)) rfl rfl rfl rfl,
    .mt ⟨[(4, .sv (.one (I k)))], []⟩ [] none (by kernel_rfl) (by rfl) (mt_ev ht (by kernel_rfl)) rfl rfl rfl rfl,
    .mt ⟨[(24, .sv (.one (LS intT word))), (25, .sv (.agg [LS intT b.fFrom, LS intT b.fTo])), (26, .sv (.one (I k)))], []⟩ [] none (by kernel_rfl) (by rfl) (mt_call (rewSwapped_ct word b k hp_4) en91 (caps := []) [] rfl (by rfl) (by kernel_rfl) (by kernel_rfl) (by rfl) (by rfl) (by rfl)) rfl rfl rfl rfl,
    .mt ⟨[(23, .sv (.one (LS ApiSwap.ty l))), (27, .sv (.one (LS intT (swapL word b k))))], []⟩ [] none (by kernel_rfl) (by rfl) (mt_call (rewNormal_ct l (swapL word b k) hp_5) en89 (caps := []) [] rfl (by rfl) (by kernel_rfl) (by kernel_rfl) (by rfl) (by rfl) (by rfl)) rfl rfl rfl rfl,
    .mt ⟨[(22, .sv (.one (LS intT (normalR l (swapL word a i)))))], []⟩ [] none (by kernel_rfl) (by rfl) (mt_ev ht (by kernel_rfl)) rfl rfl rfl rfl,
    .mt ⟨[(28, .sv (.one (LS intT (normalR l (swapL word b k)))))], []⟩ [] none (by kernel_rfl) (by rfl) (mt_ev ht (by kernel_rfl)) rfl rfl rfl rfl,
    trivial⟩
  · refine En.seq ?_
    refine En.seq ?_
    refine En.region ?_
    refine WL.run ht hn 1 ⟨[(0, .sv (.one (LS intT word))), (5, .sv (.one (.pptr 0 0 (Bk 0)))), (6, .sv (.one (.pptr 1 0 (Bk 1)))), (7, .sv (.one (.pptr 2 0 (Bk 2)))), (8, .sv (.one (.pptr 3 0 (Bk 3)))), (15, .sv (.one (LS intT (normalR l (swapL word a i))))), (16, .sv (.one (LS intT (normalR l (swapL word b k))))), (29, .sv (.one (LS intT (normalR l (swapL word a i)))))], [.box [LS ApiSwap.ty l] 98 true, .box [LS intT w] 22 false, .box [LS intT u] 22 false, .box [LS intT v] 22 false, .gone, .gone]⟩ (by kernel_rfl) ?_
    have hp := h.1
    replace h := h.2
    refine WL.mt0 (K := []) (p := none) hn (by rfl) (mt_call (detKey_ct (normalR l (swapL word a i)) hp) en67 (caps := []) [] rfl (by rfl) (by kernel_rfl) (by kernel_rfl) (by rfl) (by rfl) (by rfl)) (by rfl) (by rfl) (by rfl) ?_
    refine WL.run ht hn 1 ⟨[(0, .sv (.one (LS intT word))), (5, .sv (.one (.pptr 0 0 (Bk 0)))), (6, .sv (.one (.pptr 1 0 (Bk 1)))), (7, .sv (.one (.pptr 2 0 (Bk 2)))), (8, .sv (.one (.pptr 3 0 (Bk 3)))), (15, .sv (.one (LS intT (normalR l (swapL word a i))))), (16, .sv (.one (LS intT (normalR l (swapL word b k))))), (30, .sv (.one (.v (.string (keyR (normalR l (swapL word a i))))))), (31, .sv (.one (LS intT (normalR l (swapL word b k)))))], [.box [LS ApiSwap.ty l] 98 true, .box [LS intT w] 22 false, .box [LS intT u] 22 false, .box [LS intT v] 22 false, .gone, .gone]⟩ (by kernel_rfl) ?_
    have hp := h.1
    replace h := h.2
    refine WL.mt0 (K := []) (p := none) hn (by rfl) (mt_call (detKey_ct (normalR l (swapL word b k)) hp) en67 (caps := []) [] rfl (by rfl) (by kernel_rfl) (by kernel_rfl) (by rfl) (by rfl) (by rfl)) (by rfl) (by rfl) (by rfl) ?_
    refine WL.val hn (by rfl) (val_eqS (u := (keyR (normalR l (swapL word a i)))) (v := (keyR (normalR l (swapL word b k)))) rfl (by rfl) (by rfl) (.inl ⟨rfl, rfl⟩)) (by rfl) ?_
    refine WL.nil ?_
    refine En.cond (b := (decide ((keyR (normalR l (swapL word a i))) = (keyR (normalR l (swapL word b k)))))) (by kernel_rfl) (fun hb => ?_) (fun hb => ?_)
    · replace h := h.1 hb
      refine En.seq ?_
      refine En.region ?_
      refine WL.run ht hn 1 ⟨[(5, .sv (.one (.pptr 0 0 (Bk 0)))), (6, .sv (.one (.pptr 1 0 (Bk 1)))), (7, .sv (.one (.pptr 2 0 (Bk 2)))), (8, .sv (.one (.pptr 3 0 (Bk 3)))), (14, .sv (.one (B false)))], [.box [LS ApiSwap.ty l] 98 true, .box [LS intT w] 22 false, .box [LS intT u] 22 false, .box [LS intT v] 22 false, .gone, .gone]⟩ (by kernel_rfl) ?_
      refine WL.nil ?_
      refine En.ret ?_
      exact En.backE [5, 6, 7, 8] ht (false, w, u, v) h (by kernel_rfl) (by rfl) rfl
    · replace h := h.2 hb
      refine En.skip ?_
      refine En.seq ?_
      refine En.region ?_
      refine WL.run ht hn 1 ⟨[(5, .sv (.one (.pptr 0 0 (Bk 0)))), (6, .sv (.one (.pptr 1 0 (Bk 1)))), (7, .sv (.one (.pptr 2 0 (Bk 2)))), (8, .sv (.one (.pptr 3 0 (Bk 3)))), (15, .sv (.one (LS intT (normalR l (swapL word a i))))), (16, .sv (.one (LS intT (normalR l (swapL word b k))))), (34, .sv (.one (LS intT word)))], [.box [LS ApiSwap.ty l] 98 true, .box [LS intT w] 22 false, .box [LS intT u] 22 false, .box [LS intT v] 22 false, .gone, .gone]⟩ (by kernel_rfl) ?_
      have hp := h.1
      replace h := h.2
      refine WL.mt0 (K := []) (p := some (6, rowI 3 intT (word))) hn (by rfl) (mt_callI 6 (cloneInt_ct word hp) en47 (caps := []) [] rfl rfl (by rfl) (by kernel_rfl) (by kernel_rfl) (by rfl) (by rfl)) (by rfl) (by rfl) (by rfl) ?_
      refine WL.run ht hn 1 ⟨[(5, .sv (.one (.pptr 0 0 (Bk 0)))), (6, .sv (.one (.pptr 1 0 (Bk 1)))), (7, .sv (.one (.pptr 2 0 (Bk 2)))), (8, .sv (.one (.pptr 3 0 (Bk 3)))), (16, .sv (.one (LS intT (normalR l (swapL word b k))))), (35, .sv (.one (.own 6))), (36, .sv (.one (LS intT (normalR l (swapL word a i)))))], [.box [LS ApiSwap.ty l] 98 true, .box [LS intT w] 22 false, .box [LS intT u] 22 false, .box [LS intT v] 22 false, .gone, .gone, rowI 3 intT (word)]⟩ (by kernel_rfl) ?_
      have hp := h.1
      replace h := h.2
      refine WL.mt0 (K := []) (p := some (7, rowI 3 intT ((normalR l (swapL word a i))))) hn (by rfl) (mt_callI 7 (cloneInt_ct (normalR l (swapL word a i)) hp) en47 (caps := []) [] rfl rfl (by rfl) (by kernel_rfl) (by kernel_rfl) (by rfl) (by rfl)) (by rfl) (by rfl) (by rfl) ?_
      refine WL.run ht hn 1 ⟨[(5, .sv (.one (.pptr 0 0 (Bk 0)))), (6, .sv (.one (.pptr 1 0 (Bk 1)))), (7, .sv (.one (.pptr 2 0 (Bk 2)))), (8, .sv (.one (.pptr 3 0 (Bk 3)))), (35, .sv (.one (.own 6))), (37, .sv (.one (.own 7))), (38, .sv (.one (LS intT (normalR l (swapL word b k)))))], [.box [LS ApiSwap.ty l] 98 true, .box [LS intT w] 22 false, .box [LS intT u] 22 false, .box [LS intT v] 22 false, .gone, .gone, rowI 3 intT (word), rowI 3 intT ((normalR l (swapL word a i)))]⟩ (by kernel_rfl) ?_
      have hp := h.1
      replace h := h.2
      refine WL.mt0 (K := []) (p := some (8, rowI 3 intT ((normalR l (swapL word b k))))) hn (by rfl) (mt_callI 8 (cloneInt_ct (normalR l (swapL word b k)) hp) en47 (caps := []) [] rfl rfl (by rfl) (by kernel_rfl) (by kernel_rfl) (by rfl) (by rfl)) (by rfl) (by rfl) (by rfl) ?_
      refine WL.run ht hn 3 ⟨[(5, .sv (.one (.pptr 0 0 (Bk 0)))), (6, .sv (.one (.pptr 1 0 (Bk 1)))), (7, .sv (.one (.pptr 2 0 (Bk 2)))), (8, .sv (.one (.pptr 3 0 (Bk 3))))], [.box [LS ApiSwap.ty l] 98 true, .box [.own 6] 22 false, .box [.own 7] 22 false, .box [.own 8] 22 false, .gone, .gone, rowI 3 intT (word), rowI 3 intT ((normalR l (swapL word a i))), rowI 3 intT ((normalR l (swapL word b k)))]⟩ (by kernel_rfl) ?_
      refine WL.nil ?_
      refine En.seq ?_
      refine En.region ?_
      refine WL.run ht hn 1 ⟨[(5, .sv (.one (.pptr 0 0 (Bk 0)))), (6, .sv (.one (.pptr 1 0 (Bk 1)))), (7, .sv (.one (.pptr 2 0 (Bk 2)))), (8, .sv (.one (.pptr 3 0 (Bk 3)))), (14, .sv (.one (B true)))], [.box [LS ApiSwap.ty l] 98 true, .box [.own 6] 22 false, .box [.own 7] 22 false, .box [.own 8] 22 false, .gone, .gone, rowI 3 intT (word), rowI 3 intT ((normalR l (swapL word a i))), rowI 3 intT ((normalR l (swapL word b k)))]⟩ (by kernel_rfl) ?_
      refine WL.nil ?_
      refine En.ret ?_
      refine En.seal (T := intT) (l := (word)) (e := 3) 6 rfl ?_
      refine En.seal (T := intT) (l := ((normalR l (swapL word a i)))) (e := 3) 7 rfl ?_
      refine En.seal (T := intT) (l := ((normalR l (swapL word b k)))) (e := 3) 8 rfl ?_
      exact En.backE [5, 6, 7, 8] ht (true, (word), ((normalR l (swapL word a i))), ((normalR l (swapL word b k)))) h (by kernel_rfl) (by rfl) rfl
theorem en90 : ∀ args w, (callFunc 90 args).run Try.prog w = .ok (.enter 90 args) w := enters_of Try.func90 (by kernel_rfl) rfl
def keyEq (x y : List Int) : Bool := decide (keyR x = keyR y)
def try1 (l : List ApiSwap) (word : List Int) (a : ApiSwap) (i : Int) : List Int := normalR l (swapL word a i)
def tryB (l : List ApiSwap) (word : List Int) (a : ApiSwap) (i : Int) (b : ApiSwap) (k : Int) : Bool := !(keyEq (try1 l word a i) (try1 l word b k))
def tryW (l : List ApiSwap) (old word : List Int) (a : ApiSwap) (i : Int) (b : ApiSwap) (k : Int) (new : List Int) : List Int := bif tryB l word a i b k then new else old
def TryPre (l : List ApiSwap) (word : List Int) (a : ApiSwap) (i : Int) (b : ApiSwap) (k : Int) : Prop := word.length ≤ 1000 ∧ (SwapPre word a i ∧ NormPre l (swapL word a i) ∧ (try1 l word a i).length ≤ 1000) ∧ (SwapPre word b k ∧ NormPre l (swapL word b k) ∧ (try1 l word b k).length ≤ 1000)
theorem rewTry_ct (l : (List ApiSwap)) (w : (List Int)) (u : (List Int)) (v : (List Int)) (word : (List Int)) (a : ApiSwap) (i : Int) (b : ApiSwap) (k : Int) (hp : TryPre l word a i b k)  : CtE 90 [.sv (.one (LS intT word)), .sv (.agg [LS intT a.fFrom, LS intT a.fTo]), .sv (.one (I i)), .sv (.agg [LS intT b.fFrom, LS intT b.fTo]), .sv (.one (I k)), .sv (.one (.ptr 0 0)), .sv (.one (.ptr 1 0)), .sv (.one (.ptr 2 0)), .sv (.one (.ptr 3 0))] [.box [LS ApiSwap.ty l] 98 true, .box [LS intT w] 22 false, .box [LS intT u] 22 false, .box [LS intT v] 22 false] [0, 1, 2, 3] (fun (_ : Unit) => True) (fun _ => .sv (.one (B (tryB l word a i b k)))) (fun _ => [.box [LS ApiSwap.ty l] 98 true, .box [LS intT (tryW l w word a i b k word)] 22 false, .box [LS intT (tryW l u word a i b k (try1 l word a i))] 22 false, .box [LS intT (tryW l v word a i b k (try1 l word b k))] 22 false]) := by
  refine (rewTry_walk l w u v word a i b k (fun res_ => res_ = (tryB l word a i b k, tryW l w word a i b k word, tryW l u word a i b k (try1 l word a i), tryW l v word a i b k (try1 l word b k))) ?_).imp (fun r hr => ⟨(), trivial, by subst hr; rfl, by subst hr; rfl⟩)
  obtain ⟨hw, ⟨h1, h2, h3⟩, ⟨h4, h5, h6⟩⟩ := hp
  have h3' : (normalR l (swapL word a i)).length ≤ 1000 := h3
  have h6' : (normalR l (swapL word b k)).length ≤ 1000 := h6
  intro _ _ _ _ _
  refine ⟨h1, h2, h4, h5, h3, h6, fun hb => ?_, fun hb => ⟨by omega, by omega, by omega, ?_⟩⟩
  · have : tryB l word a i b k = false := by unfold tryB; rw [show keyEq (try1 l word a i) (try1 l word b k) = true from hb]; rfl
    show _ = (tryB l word a i b k, _)
    unfold tryW
    rw [this]
    rfl
  · have : tryB l word a i b k = true := by unfold tryB; rw [show keyEq (try1 l word a i) (try1 l word b k) = false from hb]; rfl
    show _ = (tryB l word a i b k, _)
    unfold tryW
    rw [this]
    rfl
theorem keyR_inj {x y : List Int} (hx : In4 x) (hy : In4 y) (h : keyR x = keyR y) : x = y := by
  have e : keyB = two8 := funext two8_eq
  unfold keyR at h
  rw [e] at h
  exact twos_inj (fun a ha => by have := hx a ha; omega) (fun a ha => by have := hy a ha; omega) (bytesOf_inj twos_in twos_in h)
theorem try_pre {n : Int} {l : List ApiSwap} {a b : ApiSwap} {k : Nat} (h : RewOk n l) (ha : a ∈ l) (hb : b ∈ l) (hk : k < a.fFrom.length) (ho : OverB a.fFrom b.fFrom k) : TryPre l (overW a.fFrom b.fFrom k) a 0 b (k : Int) ∧ In4 (try1 l (overW a.fFrom b.fFrom k) a 0) ∧ In4 (try1 l (overW a.fFrom b.fFrom k) b (k : Int)) := by
  obtain ⟨s1, s2⟩ := over_stands hk ho
  have hma : (a.fFrom, a.fTo) ∈ rulesOf l := List.mem_map.2 ⟨a, ha, rfl⟩
  have hmb : (b.fFrom, b.fTo) ∈ rulesOf l := List.mem_map.2 ⟨b, hb, rfl⟩
  have ra := h.rules _ hma
  have rb := h.rules _ hmb
  have fa := h.from5 a ha
  have fb := h.from5 b hb
  have la := ra.len
  have lb := rb.len
  simp only at la lb
  have hin := over_in (k := k) ra.inF rb.inF
  have hl : (overW a.fFrom b.fFrom k).length ≤ 10 := by
    unfold overW
    simp only [List.length_append, List.length_drop]
    omega
  have t1 := (stands_step hma s2).ok h.rules hin
  have t2 := (stands_step hmb s1).ok h.rules hin
  have u1 := normalR_len h t1.1
  have u2 := normalR_len h t2.1
  have hb1 : k + b.fFrom.length ≤ (overW a.fFrom b.fFrom k).length := by unfold standsB at s1; rw [Bool.and_eq_true] at s1; exact of_decide_eq_true s1.1
  have hb2 : 0 + a.fFrom.length ≤ (overW a.fFrom b.fFrom k).length := by unfold standsB at s2; rw [Bool.and_eq_true] at s2; exact of_decide_eq_true s2.1
  have e1 : swapL (overW a.fFrom b.fFrom k) a 0 = swapF (overW a.fFrom b.fFrom k) a.fFrom a.fTo 0 := rfl
  have e2 : swapL (overW a.fFrom b.fFrom k) b (k : Int) = swapF (overW a.fFrom b.fFrom k) b.fFrom b.fTo k := rfl
  refine ⟨⟨by omega, ⟨⟨by decide, hb2, by omega, by omega⟩, ?_, ?_⟩, ⟨⟨by omega, hb1, by omega, by omega⟩, ?_, ?_⟩⟩, ?_, ?_⟩
  · rw [e1]; exact ⟨h.rules, h.from5, t1.1, by omega⟩
  · unfold try1; rw [e1]; omega
  · rw [e2]; exact ⟨h.rules, h.from5, t2.1, by omega⟩
  · unfold try1; rw [e2]; omega
  · unfold try1; rw [e1]; exact u1.1
  · unfold try1; rw [e2]; exact u2.1
def FK (l : List ApiSwap) (a b : ApiSwap) (k : Nat) : Prop := OverB a.fFrom b.fFrom k → tryB l (overW a.fFrom b.fFrom k) a 0 b (k : Int) = false
theorem noFork_of {n : Int} {l : List ApiSwap} (h : RewOk n l) (hf : ∀ a ∈ l, ∀ b ∈ l, ∀ k, k < a.fFrom.length → FK l a b k) : NoFork (rulesOf l) := by
  intro ra hra rb hrb k hk ho
  obtain ⟨a, ha, rfl⟩ := List.mem_map.1 hra
  obtain ⟨b, hb, rfl⟩ := List.mem_map.1 hrb
  have h1 := hf a ha b hb k hk ho
  obtain ⟨_, i1, i2⟩ := try_pre h ha hb hk ho
  unfold tryB keyEq at h1
  rw [Bool.not_eq_false', decide_eq_true_eq] at h1
  exact keyR_inj i1 i2 h1
def ForkQ (n : Int) (l : List ApiSwap) (r : List Int × List Int × List Int × Bool × Int) : Prop := r.2.2.2.2 = rewErr n l ∧ (rewErr n l = 0 → r.2.2.2.1 = false → NoFork (rulesOf l))
theorem over_num {f g : List Int} {k : Nat} (hk : k < f.length) (hf : f.length ≤ 100) (hg : g.length ≤ 100) : (if (wr ((f.length : Int) - (k : Int))) < (g.length : Int) then (wr ((f.length : Int) - (k : Int))) else (g.length : Int)) = ((overN f g k : Nat) : Int) := by
  rw [show wr ((f.length : Int) - (k : Int)) = (f.length : Int) - (k : Int) from wr_in (by omega) (by omega)]
  unfold overN
  split <;> omega
theorem over_e1 {f : List Int} {k n : Nat} (hk : k + n ≤ 1000) : (f.take ((wr ((k : Int) + ((n : Nat) : Int))) : Int).toNat).drop ((k : Int)).toNat = (f.drop k).take n := by
  rw [show wr ((k : Int) + ((n : Nat) : Int)) = ((k + n : Nat) : Int) from wr_in (by omega) (by omega), Int.toNat_natCast, Int.toNat_natCast, List.drop_take, Nat.add_sub_cancel_left]
theorem over_e2 {g : List Int} {n : Nat} : (g.take ((n : Nat) : Int).toNat).drop ((0 : Int)).toNat = g.take n := by simp
theorem over_e3 {f g : List Int} {n : Nat} : ([f, ((g.take ((g.length : Int) : Int).toNat).drop (((n : Nat) : Int)).toNat)] : List (List Int)).flatten = f ++ g.drop n := by simp
theorem take_mem {α : Type} {l : List α} {m : Nat} (hm : m < l.length) {P : α → Prop} (h : ∀ a ∈ l.take m, P a) (h1 : P l[m]) : ∀ a ∈ l.take (m + 1), P a := by
  intro a ha
  rw [List.take_add_one, List.getElem?_eq_getElem hm] at ha
  rcases List.mem_append.1 ha with ha | ha
  · exact h a ha
  · simp only [Option.toList_some, List.mem_singleton] at ha
    rw [ha]; exact h1
def rewFork_vc (n : Int) (l : (List ApiSwap)) (Q : ((List Int) × (List Int) × (List Int) × Bool × Int) → Prop) : Prop :=
  l.length ≤ 9223372036854775807 →
  (IfP ((rewErr n l) != 0) (Q ([], [], [], false, (rewErr n l))) (∃ (Inv : Int → (List Int) → (List Int) → (List Int) → Prop) (mu : Int → (List Int) → (List Int) → (List Int) → Nat), Inv 0 [] [] [] ∧
  ∀ (x26 : Int) (y1 : (List Int)) (y2 : (List Int)) (y3 : (List Int)) , Inv x26 y1 y2 y3 → (IfP (decide (x26 < (l.length : Int))) (∃ e, idx l x26 = some e ∧
  ∃ (Inv_2 : Int → (List Int) → (List Int) → (List Int) → Prop) (mu_2 : Int → (List Int) → (List Int) → (List Int) → Nat), Inv_2 0 y1 y2 y3 ∧
  ∀ (x32 : Int) (y1_2 : (List Int)) (y2_2 : (List Int)) (y3_2 : (List Int)) , Inv_2 x32 y1_2 y2_2 y3_2 → (IfP (decide (x32 < (l.length : Int))) (∃ e_2, idx l x32 = some e_2 ∧
  ∃ (Inv_3 : Int → (List Int) → (List Int) → (List Int) → Prop) (mu_3 : Int → (List Int) → (List Int) → (List Int) → Nat), Inv_3 0 y1_2 y2_2 y3_2 ∧
  ∀ (x39 : Int) (y1_3 : (List Int)) (y2_3 : (List Int)) (y3_3 : (List Int)) , Inv_3 x39 y1_3 y2_3 y3_3 → (IfP (decide (x39 < (e.fFrom.length : Int))) (∃ J : (List Int) → (List Int) → (List Int) → Prop, (partOk x39 (wr (x39 + (if (wr ((e.fFrom.length : Int) - x39)) < (e_2.fFrom.length : Int) then (wr ((e.fFrom.length : Int) - x39)) else (e_2.fFrom.length : Int)))) e.fFrom.length ∧
  partOk 0 (if (wr ((e.fFrom.length : Int) - x39)) < (e_2.fFrom.length : Int) then (wr ((e.fFrom.length : Int) - x39)) else (e_2.fFrom.length : Int)) e_2.fFrom.length ∧
  IfP (!(decide (((e.fFrom.take ((wr (x39 + (if (wr ((e.fFrom.length : Int) - x39)) < (e_2.fFrom.length : Int) then (wr ((e.fFrom.length : Int) - x39)) else (e_2.fFrom.length : Int)))) : Int).toNat).drop (x39 : Int).toNat) = ((e_2.fFrom.take ((if (wr ((e.fFrom.length : Int) - x39)) < (e_2.fFrom.length : Int) then (wr ((e.fFrom.length : Int) - x39)) else (e_2.fFrom.length : Int)) : Int).toNat).drop (0 : Int).toNat)))) (J y1_3 y2_3 y3_3) (partOk (if (wr ((e.fFrom.length : Int) - x39)) < (e_2.fFrom.length : Int) then (wr ((e.fFrom.length : Int) - x39)) else (e_2.fFrom.length : Int)) (e_2.fFrom.length : Int) e_2.fFrom.length ∧
  (([e.fFrom, ((e_2.fFrom.take ((e_2.fFrom.length : Int) : Int).toNat).drop ((if (wr ((e.fFrom.length : Int) - x39)) < (e_2.fFrom.length : Int) then (wr ((e.fFrom.length : Int) - x39)) else (e_2.fFrom.length : Int)) : Int).toNat)] : (List (List Int))).length ≤ 1000000 ∧ ([e.fFrom, ((e_2.fFrom.take ((e_2.fFrom.length : Int) : Int).toNat).drop ((if (wr ((e.fFrom.length : Int) - x39)) < (e_2.fFrom.length : Int) then (wr ((e.fFrom.length : Int) - x39)) else (e_2.fFrom.length : Int)) : Int).toNat)] : (List (List Int))).flatten.length ≤ 1000000) ∧
  (TryPre l (([e.fFrom, ((e_2.fFrom.take ((e_2.fFrom.length : Int) : Int).toNat).drop ((if (wr ((e.fFrom.length : Int) - x39)) < (e_2.fFrom.length : Int) then (wr ((e.fFrom.length : Int) - x39)) else (e_2.fFrom.length : Int)) : Int).toNat)] : (List (List Int))).flatten) e 0 e_2 x39) ∧
  IfP (tryB l (([e.fFrom, ((e_2.fFrom.take ((e_2.fFrom.length : Int) : Int).toNat).drop ((if (wr ((e.fFrom.length : Int) - x39)) < (e_2.fFrom.length : Int) then (wr ((e.fFrom.length : Int) - x39)) else (e_2.fFrom.length : Int)) : Int).toNat)] : (List (List Int))).flatten) e 0 e_2 x39) (Q ((tryW l y1_3 (([e.fFrom, ((e_2.fFrom.take ((e_2.fFrom.length : Int) : Int).toNat).drop ((if (wr ((e.fFrom.length : Int) - x39)) < (e_2.fFrom.length : Int) then (wr ((e.fFrom.length : Int) - x39)) else (e_2.fFrom.length : Int)) : Int).toNat)] : (List (List Int))).flatten) e 0 e_2 x39 ((([e.fFrom, ((e_2.fFrom.take ((e_2.fFrom.length : Int) : Int).toNat).drop ((if (wr ((e.fFrom.length : Int) - x39)) < (e_2.fFrom.length : Int) then (wr ((e.fFrom.length : Int) - x39)) else (e_2.fFrom.length : Int)) : Int).toNat)] : (List (List Int))).flatten))), (tryW l y2_3 (([e.fFrom, ((e_2.fFrom.take ((e_2.fFrom.length : Int) : Int).toNat).drop ((if (wr ((e.fFrom.length : Int) - x39)) < (e_2.fFrom.length : Int) then (wr ((e.fFrom.length : Int) - x39)) else (e_2.fFrom.length : Int)) : Int).toNat)] : (List (List Int))).flatten) e 0 e_2 x39 (try1 l (([e.fFrom, ((e_2.fFrom.take ((e_2.fFrom.length : Int) : Int).toNat).drop ((if (wr ((e.fFrom.length : Int) - x39)) < (e_2.fFrom.length : Int) then (wr ((e.fFrom.length : Int) - x39)) else (e_2.fFrom.length : Int)) : Int).toNat)] : (List (List Int))).flatten) e 0)), (tryW l y3_3 (([e.fFrom, ((e_2.fFrom.take ((e_2.fFrom.length : Int) : Int).toNat).drop ((if (wr ((e.fFrom.length : Int) - x39)) < (e_2.fFrom.length : Int) then (wr ((e.fFrom.length : Int) - x39)) else (e_2.fFrom.length : Int)) : Int).toNat)] : (List (List Int))).flatten) e 0 e_2 x39 (try1 l (([e.fFrom, ((e_2.fFrom.take ((e_2.fFrom.length : Int) : Int).toNat).drop ((if (wr ((e.fFrom.length : Int) - x39)) < (e_2.fFrom.length : Int) then (wr ((e.fFrom.length : Int) - x39)) else (e_2.fFrom.length : Int)) : Int).toNat)] : (List (List Int))).flatten) e_2 x39)), true, 0)) (J (tryW l y1_3 (([e.fFrom, ((e_2.fFrom.take ((e_2.fFrom.length : Int) : Int).toNat).drop ((if (wr ((e.fFrom.length : Int) - x39)) < (e_2.fFrom.length : Int) then (wr ((e.fFrom.length : Int) - x39)) else (e_2.fFrom.length : Int)) : Int).toNat)] : (List (List Int))).flatten) e 0 e_2 x39 ((([e.fFrom, ((e_2.fFrom.take ((e_2.fFrom.length : Int) : Int).toNat).drop ((if (wr ((e.fFrom.length : Int) - x39)) < (e_2.fFrom.length : Int) then (wr ((e.fFrom.length : Int) - x39)) else (e_2.fFrom.length : Int)) : Int).toNat)] : (List (List Int))).flatten))) (tryW l y2_3 (([e.fFrom, ((e_2.fFrom.take ((e_2.fFrom.length : Int) : Int).toNat).drop ((if (wr ((e.fFrom.length : Int) - x39)) < (e_2.fFrom.length : Int) then (wr ((e.fFrom.length : Int) - x39)) else (e_2.fFrom.length : Int)) : Int).toNat)] : (List (List Int))).flatten) e 0 e_2 x39 (try1 l (([e.fFrom, ((e_2.fFrom.take ((e_2.fFrom.length : Int) : Int).toNat).drop ((if (wr ((e.fFrom.length : Int) - x39)) < (e_2.fFrom.length : Int) then (wr ((e.fFrom.length : Int) - x39)) else (e_2.fFrom.length : Int)) : Int).toNat)] : (List (List Int))).flatten) e 0)) (tryW l y3_3 (([e.fFrom, ((e_2.fFrom.take ((e_2.fFrom.length : Int) : Int).toNat).drop ((if (wr ((e.fFrom.length : Int) - x39)) < (e_2.fFrom.length : Int) then (wr ((e.fFrom.length : Int) - x39)) else (e_2.fFrom.length : Int)) : Int).toNat)] : (List (List Int))).flatten) e 0 e_2 x39 (try1 l (([e.fFrom, ((e_2.fFrom.take ((e_2.fFrom.length : Int) : Int).toNat).drop ((if (wr ((e.fFrom.length : Int) - x39)) < (e_2.fFrom.length : Int) then (wr ((e.fFrom.length : Int) - x39)) else (e_2.fFrom.length : Int)) : Int).toNat)] : (List (List Int))).flatten) e_2 x39))))) ∧
  (∀ (y1_4 : (List Int)) (y2_4 : (List Int)) (y3_4 : (List Int)), J y1_4 y2_4 y3_4 → (Inv_3 (wr (x39 + 1)) y1_4 y2_4 y3_4 ∧ mu_3 (wr (x39 + 1)) y1_4 y2_4 y3_4 < mu_3 x39 y1_3 y2_3 y3_3))) ((Inv_2 (wr (x32 + 1)) y1_3 y2_3 y3_3 ∧ mu_2 (wr (x32 + 1)) y1_3 y2_3 y3_3 < mu_2 x32 y1_2 y2_2 y3_2)))) ((Inv (wr (x26 + 1)) y1_2 y2_2 y3_2 ∧ mu (wr (x26 + 1)) y1_2 y2_2 y3_2 < mu x26 y1 y2 y3)))) (Q ([], [], [], false, 0)))))
set_option maxHeartbeats 2000000 in
theorem rewFork_walk (n : Int) (l : (List ApiSwap)) (Q : ((List Int) × (List Int) × (List Int) × Bool × Int) → Prop) (h : rewFork_vc n l Q) : Ct 38 [.sv (.one (I n)), .sv (.one (LS ApiSwap.ty l))] [] Q (fun (r : ((List Int) × (List Int) × (List Int) × Bool × Int)) => .tup [.one (LS intT r.1), .one (LS intT r.2.1), .one (LS intT r.2.2.1), .one (B r.2.2.2.1), .one (I r.2.2.2.2)]) := by
  have ht := tab_ok
  refine Ct.body Try.func38 rfl rfl rfl rfl (fun c hn => ?_)
  unfold rewFork_vc at h
  refine En.lenL 1 (by rfl) (fun hl => ?_)
  replace h := h hl
  clear hl
  refine En.seq ?_
  refine En.region ?_
  refine WL.run ht hn 6 ⟨[(0, .sv (.one (I n))), (3, .sv (.one (.ptr 0 0))), (4, .sv (.one (.ptr 1 0))), (5, .sv (.one (.ptr 2 0))), (6, .sv (.one (.ptr 3 0)))], [.box [LS ApiSwap.ty l] 98 false, .box [.v (.slice none 0 0)] 22 false, .box [.v (.slice none 0 0)] 22 false, .box [.v (.slice none 0 0)] 22 false]⟩ (by kernel_rfl) ?_
  refine WL.nil ?_
  refine En.seq ?_
  refine En.seq ?_
  refine En.region ?_
  refine WL.run ht hn 2 ⟨[(3, .sv (.one (.ptr 0 0))), (4, .sv (.one (.ptr 1 0))), (5, .sv (.one (.ptr 2 0))), (6, .sv (.one (.ptr 3 0))), (17, .sv (.one (I n))), (18, .sv (.one (LS ApiSwap.ty l)))], [.box [LS ApiSwap.ty l] 98 false, .box [.v (.slice none 0 0)] 22 false, .box [.v (.slice none 0 0)] 22 false, .box [.v (.slice none 0 0)] 22 false]⟩ (by kernel_rfl) ?_
  refine WL.mt0 (K := []) (p := none) hn (by rfl) (mt_call (rewCheck_ct n l) en87 (caps := []) [] rfl (by rfl) (by kernel_rfl) (by kernel_rfl) (by rfl) (by rfl) (by rfl)) (by rfl) (by rfl) (by rfl) ?_
  refine WL.run ht hn 1 ⟨[(3, .sv (.one (.ptr 0 0))), (4, .sv (.one (.ptr 1 0))), (5, .sv (.one (.ptr 2 0))), (6, .sv (.one (.ptr 3 0))), (9, .sv (.one (I (rewErr n l))))], [.box [LS ApiSwap.ty l] 98 false, .box [.v (.slice none 0 0)] 22 false, .box [.v (.slice none 0 0)] 22 false, .box [.v (.slice none 0 0)] 22 false]⟩ (by kernel_rfl) ?_
  refine WL.nil ?_
  refine En.seq ?_
  refine En.region ?_
  refine WL.run ht hn 2 ⟨[(3, .sv (.one (.ptr 0 0))), (4, .sv (.one (.ptr 1 0))), (5, .sv (.one (.ptr 2 0))), (6, .sv (.one (.ptr 3 0))), (9, .sv (.one (I (rewErr n l)))), (21, .sv (.one (B ((rewErr n l) != 0))))], [.box [LS ApiSwap.ty l] 98 false, .box [.v (.slice none 0 0)] 22 false, .box [.v (.slice none 0 0)] 22 false, .box [.v (.slice none 0 0)] 22 false]⟩ (by kernel_rfl) ?_
  refine WL.nil ?_
  refine En.cond (b := ((rewErr n l) != 0)) (by kernel_rfl) (fun hb => ?_) (fun hb => ?_)
  · replace h := h.1 hb
    refine En.seq ?_
    refine En.region ?_
    refine WL.run ht hn 6 ⟨[(4, .sv (.one (.ptr 1 0))), (5, .sv (.one (.ptr 2 0))), (6, .sv (.one (.ptr 3 0))), (7, .sv (.one (B false))), (8, .sv (.one (I (rewErr n l))))], [.gone, .box [.v (.slice none 0 0)] 22 false, .box [.v (.slice none 0 0)] 22 false, .box [.v (.slice none 0 0)] 22 false]⟩ (by kernel_rfl) ?_
    refine WL.nil ?_
    refine En.ret ?_
    refine En.nilBox (T := intT) 1 0 (by rfl) (by rfl) ?_
    refine En.nilBox (T := intT) 2 0 (by rfl) (by rfl) ?_
    refine En.nilBox (T := intT) 3 0 (by rfl) (by rfl) ?_
    exact En.back ht ([], [], [], false, (rewErr n l)) h (by kernel_rfl) rfl
  · replace h := h.2 hb
    refine En.skip ?_
    refine En.seq ?_
    refine En.region ?_
    refine WL.run ht hn 2 ⟨[(3, .sv (.one (.ptr 0 0))), (4, .sv (.one (.ptr 1 0))), (5, .sv (.one (.ptr 2 0))), (6, .sv (.one (.ptr 3 0))), (10, .sv (.one (.fn 90 [0, 1, 2, 3])))], [.box [LS ApiSwap.ty l] 98 false, .box [.v (.slice none 0 0)] 22 false, .box [.v (.slice none 0 0)] 22 false, .box [.v (.slice none 0 0)] 22 false]⟩ (by kernel_rfl) ?_
    refine WL.nil ?_
    refine En.seq ?_
    refine En.seq ?_
    refine En.region ?_
    refine WL.run ht hn 3 ⟨[(3, .sv (.one (.ptr 0 0))), (4, .sv (.one (.ptr 1 0))), (5, .sv (.one (.ptr 2 0))), (6, .sv (.one (.ptr 3 0))), (10, .sv (.one (.fn 90 [0, 1, 2, 3]))), (24, .sv (.one (LS ApiSwap.ty l))), (25, .sv (.one (I (l.length : Int)))), (26, .sv (.one (I 0)))], [.box [LS ApiSwap.ty l] 98 false, .box [.v (.slice none 0 0)] 22 false, .box [.v (.slice none 0 0)] 22 false, .box [.v (.slice none 0 0)] 22 false]⟩ (by kernel_rfl) ?_
    refine WL.nil ?_
    refine En.block ?_
    refine En.freeze [0] (by rfl) ?_
    refine En.nilBox (T := intT) 1 0 (by rfl) (by rfl) ?_
    refine En.nilBox (T := intT) 2 0 (by rfl) (by rfl) ?_
    refine En.nilBox (T := intT) 3 0 (by rfl) (by rfl) ?_
    obtain ⟨Inv, mu, h0_3, hI_3⟩ := h
    refine En.loop (σ := Int × (List Int) × (List Int) × (List Int)) (fun zz => Inv zz.1 zz.2.1 zz.2.2.1 zz.2.2.2) (fun zz => mu zz.1 zz.2.1 zz.2.2.1 zz.2.2.2) (fun zz => ⟨[(3, .sv (.one (.ptr 0 0))), (4, .sv (.one (.ptr 1 0))), (5, .sv (.one (.ptr 2 0))), (6, .sv (.one (.ptr 3 0))), (10, .sv (.one (.fn 90 [0, 1, 2, 3]))), (24, .sv (.one (LS ApiSwap.ty l))), (25, .sv (.one (I (l.length : Int)))), (26, .sv (.one (I zz.1)))], [.box [LS ApiSwap.ty l] 98 true, .box [LS intT zz.2.1] 22 false, .box [LS intT zz.2.2.1] 22 false, .box [LS intT zz.2.2.2] 22 false]⟩) (0, [], [], []) h0_3 (sub_ok (by kernel_rfl)) ?_
    rintro ⟨x26, y1, y2, y3⟩ h
    replace h := hI_3 _ _ _ _ h
    show En c ⟨[(3, .sv (.one (.ptr 0 0))), (4, .sv (.one (.ptr 1 0))), (5, .sv (.one (.ptr 2 0))), (6, .sv (.one (.ptr 3 0))), (10, .sv (.one (.fn 90 [0, 1, 2, 3]))), (24, .sv (.one (LS ApiSwap.ty l))), (25, .sv (.one (I (l.length : Int)))), (26, .sv (.one (I x26)))], [.box [LS ApiSwap.ty l] 98 true, .box [LS intT y1] 22 false, .box [LS intT y2] 22 false, .box [LS intT y3] 22 false]⟩ _
    refine En.seq ?_
    refine En.region ?_
    refine WL.run ht hn 1 ⟨[(3, .sv (.one (.ptr 0 0))), (4, .sv (.one (.ptr 1 0))), (5, .sv (.one (.ptr 2 0))), (6, .sv (.one (.ptr 3 0))), (10, .sv (.one (.fn 90 [0, 1, 2, 3]))), (24, .sv (.one (LS ApiSwap.ty l))), (25, .sv (.one (I (l.length : Int)))), (26, .sv (.one (I x26))), (27, .sv (.one (B (decide (x26 < (l.length : Int))))))], [.box [LS ApiSwap.ty l] 98 true, .box [LS intT y1] 22 false, .box [LS intT y2] 22 false, .box [LS intT y3] 22 false]⟩ (by kernel_rfl) ?_
    refine WL.nil ?_
    refine En.seq ?_
    refine En.cond (b := (decide (x26 < (l.length : Int)))) (by kernel_rfl) (fun hb => ?_) (fun hb => ?_)
    · replace h := h.1 hb
      refine En.skip ?_
      refine En.seq ?_
      refine En.block ?_
      refine En.seq ?_
      refine En.region ?_
      obtain ⟨e, he, h⟩ := h
      refine WL.val hn (by rfl) (val_index (T := ApiSwap.ty) (l := l) (i := x26) ht rfl (by rfl) (by rfl) (by rfl) (by rfl) (by rfl) (by rfl) he) (by rfl) ?_
      refine WL.val hn (by rfl) (val_load (s := .agg [LS intT e.fFrom, LS intT e.fTo]) ht rfl (by rfl) (by rfl) (by rfl) (by rfl) (by rfl)) (by rfl) ?_
      refine WL.run ht hn 2 ⟨[(3, .sv (.one (.ptr 0 0))), (4, .sv (.one (.ptr 1 0))), (5, .sv (.one (.ptr 2 0))), (6, .sv (.one (.ptr 3 0))), (10, .sv (.one (.fn 90 [0, 1, 2, 3]))), (12, .sv (.one (.ptr 4 0))), (24, .sv (.one (LS ApiSwap.ty l))), (25, .sv (.one (I (l.length : Int)))), (26, .sv (.one (I x26)))], [.box [LS ApiSwap.ty l] 98 true, .box [LS intT y1] 22 false, .box [LS intT y2] 22 false, .box [LS intT y3] 22 false, .box [LS intT e.fFrom, LS intT e.fTo] 101 false]⟩ (by kernel_rfl) ?_
      refine WL.nil ?_
      refine En.seq ?_
      refine En.region ?_
      refine WL.run ht hn 3 ⟨[(3, .sv (.one (.ptr 0 0))), (4, .sv (.one (.ptr 1 0))), (5, .sv (.one (.ptr 2 0))), (6, .sv (.one (.ptr 3 0))), (10, .sv (.one (.fn 90 [0, 1, 2, 3]))), (12, .sv (.one (.ptr 4 0))), (24, .sv (.one (LS ApiSwap.ty l))), (25, .sv (.one (I (l.length : Int)))), (26, .sv (.one (I x26))), (30, .sv (.one (LS ApiSwap.ty l))), (31, .sv (.one (I (l.length : Int)))), (32, .sv (.one (I 0)))], [.box [LS ApiSwap.ty l] 98 true, .box [LS intT y1] 22 false, .box [LS intT y2] 22 false, .box [LS intT y3] 22 false, .box [LS intT e.fFrom, LS intT e.fTo] 101 false]⟩ (by kernel_rfl) ?_
      refine WL.nil ?_
      refine En.block ?_
      obtain ⟨Inv_2, mu_2, h0_2, hI_2⟩ := h
      refine En.loop (σ := Int × (List Int) × (List Int) × (List Int)) (fun zz => Inv_2 zz.1 zz.2.1 zz.2.2.1 zz.2.2.2) (fun zz => mu_2 zz.1 zz.2.1 zz.2.2.1 zz.2.2.2) (fun zz => ⟨[(3, .sv (.one (.ptr 0 0))), (4, .sv (.one (.ptr 1 0))), (5, .sv (.one (.ptr 2 0))), (6, .sv (.one (.ptr 3 0))), (10, .sv (.one (.fn 90 [0, 1, 2, 3]))), (12, .sv (.one (.ptr 4 0))), (24, .sv (.one (LS ApiSwap.ty l))), (25, .sv (.one (I (l.length : Int)))), (26, .sv (.one (I x26))), (30, .sv (.one (LS ApiSwap.ty l))), (31, .sv (.one (I (l.length : Int)))), (32, .sv (.one (I zz.1)))], [.box [LS ApiSwap.ty l] 98 true, .box [LS intT zz.2.1] 22 false, .box [LS intT zz.2.2.1] 22 false, .box [LS intT zz.2.2.2] 22 false, .box [LS intT e.fFrom, LS intT e.fTo] 101 false]⟩) (0, y1, y2, y3) h0_2 (sub_ok (by kernel_rfl)) ?_
      rintro ⟨x32, y1_2, y2_2, y3_2⟩ h
      replace h := hI_2 _ _ _ _ h
      show En c ⟨[(3, .sv (.one (.ptr 0 0))), (4, .sv (.one (.ptr 1 0))), (5, .sv (.one (.ptr 2 0))), (6, .sv (.one (.ptr 3 0))), (10, .sv (.one (.fn 90 [0, 1, 2, 3]))), (12, .sv (.one (.ptr 4 0))), (24, .sv (.one (LS ApiSwap.ty l))), (25, .sv (.one (I (l.length : Int)))), (26, .sv (.one (I x26))), (30, .sv (.one (LS ApiSwap.ty l))), (31, .sv (.one (I (l.length : Int)))), (32, .sv (.one (I x32)))], [.box [LS ApiSwap.ty l] 98 true, .box [LS intT y1_2] 22 false, .box [LS intT y2_2] 22 false, .box [LS intT y3_2] 22 false, .box [LS intT e.fFrom, LS intT e.fTo] 101 false]⟩ _
      refine En.seq ?_
      refine En.region ?_
      refine WL.run ht hn 1 ⟨[(3, .sv (.one (.ptr 0 0))), (4, .sv (.one (.ptr 1 0))), (5, .sv (.one (.ptr 2 0))), (6, .sv (.one (.ptr 3 0))), (10, .sv (.one (.fn 90 [0, 1, 2, 3]))), (12, .sv (.one (.ptr 4 0))), (24, .sv (.one (LS ApiSwap.ty l))), (25, .sv (.one (I (l.length : Int)))), (26, .sv (.one (I x26))), (30, .sv (.one (LS ApiSwap.ty l))), (31, .sv (.one (I (l.length : Int)))), (32, .sv (.one (I x32))), (33, .sv (.one (B (decide (x32 < (l.length : Int))))))], [.box [LS ApiSwap.ty l] 98 true, .box [LS intT y1_2] 22 false, .box [LS intT y2_2] 22 false, .box [LS intT y3_2] 22 false, .box [LS intT e.fFrom, LS intT e.fTo] 101 false]⟩ (by kernel_rfl) ?_
      refine WL.nil ?_
      refine En.seq ?_
      refine En.cond (b := (decide (x32 < (l.length : Int)))) (by kernel_rfl) (fun hb => ?_) (fun hb => ?_)
      · replace h := h.1 hb
        refine En.skip ?_
        refine En.seq ?_
        refine En.block ?_
        refine En.seq ?_
        refine En.region ?_
        obtain ⟨e_2, he_2, h⟩ := h
        refine WL.val hn (by rfl) (val_index (T := ApiSwap.ty) (l := l) (i := x32) ht rfl (by rfl) (by rfl) (by rfl) (by rfl) (by rfl) (by rfl) he_2) (by rfl) ?_
        refine WL.val hn (by rfl) (val_load (s := .agg [LS intT e_2.fFrom, LS intT e_2.fTo]) ht rfl (by rfl) (by rfl) (by rfl) (by rfl) (by rfl)) (by rfl) ?_
        refine WL.run ht hn 2 ⟨[(3, .sv (.one (.ptr 0 0))), (4, .sv (.one (.ptr 1 0))), (5, .sv (.one (.ptr 2 0))), (6, .sv (.one (.ptr 3 0))), (10, .sv (.one (.fn 90 [0, 1, 2, 3]))), (12, .sv (.one (.ptr 4 0))), (14, .sv (.one (.ptr 5 0))), (24, .sv (.one (LS ApiSwap.ty l))), (25, .sv (.one (I (l.length : Int)))), (26, .sv (.one (I x26))), (30, .sv (.one (LS ApiSwap.ty l))), (31, .sv (.one (I (l.length : Int)))), (32, .sv (.one (I x32)))], [.box [LS ApiSwap.ty l] 98 true, .box [LS intT y1_2] 22 false, .box [LS intT y2_2] 22 false, .box [LS intT y3_2] 22 false, .box [LS intT e.fFrom, LS intT e.fTo] 101 false, .box [LS intT e_2.fFrom, LS intT e_2.fTo] 101 false]⟩ (by kernel_rfl) ?_
        refine WL.nil ?_
        refine En.seq ?_
        refine En.region ?_
        refine WL.run ht hn 4 ⟨[(3, .sv (.one (.ptr 0 0))), (4, .sv (.one (.ptr 1 0))), (5, .sv (.one (.ptr 2 0))), (6, .sv (.one (.ptr 3 0))), (10, .sv (.one (.fn 90 [0, 1, 2, 3]))), (12, .sv (.one (.ptr 4 0))), (14, .sv (.one (.ptr 5 0))), (24, .sv (.one (LS ApiSwap.ty l))), (25, .sv (.one (I (l.length : Int)))), (26, .sv (.one (I x26))), (30, .sv (.one (LS ApiSwap.ty l))), (31, .sv (.one (I (l.length : Int)))), (32, .sv (.one (I x32))), (38, .sv (.one (I (e.fFrom.length : Int)))), (39, .sv (.one (I 0)))], [.box [LS ApiSwap.ty l] 98 true, .box [LS intT y1_2] 22 false, .box [LS intT y2_2] 22 false, .box [LS intT y3_2] 22 false, .box [LS intT e.fFrom, LS intT e.fTo] 101 false, .box [LS intT e_2.fFrom, LS intT e_2.fTo] 101 false]⟩ (by kernel_rfl) ?_
        refine WL.nil ?_
        refine En.block ?_
        obtain ⟨Inv_3, mu_3, h0, hI⟩ := h
        refine En.loop (σ := Int × (List Int) × (List Int) × (List Int)) (fun zz => Inv_3 zz.1 zz.2.1 zz.2.2.1 zz.2.2.2) (fun zz => mu_3 zz.1 zz.2.1 zz.2.2.1 zz.2.2.2) (fun zz => ⟨[(3, .sv (.one (.ptr 0 0))), (4, .sv (.one (.ptr 1 0))), (5, .sv (.one (.ptr 2 0))), (6, .sv (.one (.ptr 3 0))), (10, .sv (.one (.fn 90 [0, 1, 2, 3]))), (12, .sv (.one (.ptr 4 0))), (14, .sv (.one (.ptr 5 0))), (24, .sv (.one (LS ApiSwap.ty l))), (25, .sv (.one (I (l.length : Int)))), (26, .sv (.one (I x26))), (30, .sv (.one (LS ApiSwap.ty l))), (31, .sv (.one (I (l.length : Int)))), (32, .sv (.one (I x32))), (38, .sv (.one (I (e.fFrom.length : Int)))), (39, .sv (.one (I zz.1)))], [.box [LS ApiSwap.ty l] 98 true, .box [LS intT zz.2.1] 22 false, .box [LS intT zz.2.2.1] 22 false, .box [LS intT zz.2.2.2] 22 false, .box [LS intT e.fFrom, LS intT e.fTo] 101 false, .box [LS intT e_2.fFrom, LS intT e_2.fTo] 101 false]⟩) (0, y1_2, y2_2, y3_2) h0 (sub_ok (by kernel_rfl)) ?_
        rintro ⟨x39, y1_3, y2_3, y3_3⟩ h
        replace h := hI _ _ _ _ h
        show En c ⟨[(3, .sv (.one (.ptr 0 0))), (4, .sv (.one (.ptr 1 0))), (5, .sv (.one (.ptr 2 0))), (6, .sv (.one (.ptr 3 0))), (10, .sv (.one (.fn 90 [0, 1, 2, 3]))), (12, .sv (.one (.ptr 4 0))), (14, .sv (.one (.ptr 5 0))), (24, .sv (.one (LS ApiSwap.ty l))), (25, .sv (.one (I (l.length : Int)))), (26, .sv (.one (I x26))), (30, .sv (.one (LS ApiSwap.ty l))), (31, .sv (.one (I (l.length : Int)))), (32, .sv (.one (I x32))), (38, .sv (.one (I (e.fFrom.length : Int)))), (39, .sv (.one (I x39)))], [.box [LS ApiSwap.ty l] 98 true, .box [LS intT y1_3] 22 false, .box [LS intT y2_3] 22 false, .box [LS intT y3_3] 22 false, .box [LS intT e.fFrom, LS intT e.fTo] 101 false, .box [LS intT e_2.fFrom, LS intT e_2.fTo] 101 false]⟩ _
        refine En.seq ?_
        refine En.region ?_
        refine WL.run ht hn 1 ⟨[(3, .sv (.one (.ptr 0 0))), (4, .sv (.one (.ptr 1 0))), (5, .sv (.one (.ptr 2 0))), (6, .sv (.one (.ptr 3 0))), (10, .sv (.one (.fn 90 [0, 1, 2, 3]))), (12, .sv (.one (.ptr 4 0))), (14, .sv (.one (.ptr 5 0))), (24, .sv (.one (LS ApiSwap.ty l))), (25, .sv (.one (I (l.length : Int)))), (26, .sv (.one (I x26))), (30, .sv (.one (LS ApiSwap.ty l))), (31, .sv (.one (I (l.length : Int)))), (32, .sv (.one (I x32))), (38, .sv (.one (I (e.fFrom.length : Int)))), (39, .sv (.one (I x39))), (40, .sv (.one (B (decide (x39 < (e.fFrom.length : Int))))))], [.box [LS ApiSwap.ty l] 98 true, .box [LS intT y1_3] 22 false, .box [LS intT y2_3] 22 false, .box [LS intT y3_3] 22 false, .box [LS intT e.fFrom, LS intT e.fTo] 101 false, .box [LS intT e_2.fFrom, LS intT e_2.fTo] 101 false]⟩ (by kernel_rfl) ?_
        refine WL.nil ?_
        refine En.seq ?_
        refine En.cond (b := (decide (x39 < (e.fFrom.length : Int)))) (by kernel_rfl) (fun hb => ?_) (fun hb => ?_)
        · replace h := h.1 hb
          refine En.skip ?_
          obtain ⟨J, h, hJ⟩ := h
          refine En.seqJ (σ := (List Int) × (List Int) × (List Int)) (fun zz => J zz.1 zz.2.1 zz.2.2) (fun zz => ⟨[(3, .sv (.one (.ptr 0 0))), (4, .sv (.one (.ptr 1 0))), (5, .sv (.one (.ptr 2 0))), (6, .sv (.one (.ptr 3 0))), (10, .sv (.one (.fn 90 [0, 1, 2, 3]))), (12, .sv (.one (.ptr 4 0))), (14, .sv (.one (.ptr 5 0))), (24, .sv (.one (LS ApiSwap.ty l))), (25, .sv (.one (I (l.length : Int)))), (26, .sv (.one (I x26))), (30, .sv (.one (LS ApiSwap.ty l))), (31, .sv (.one (I (l.length : Int)))), (32, .sv (.one (I x32))), (38, .sv (.one (I (e.fFrom.length : Int)))), (39, .sv (.one (I x39)))], [.box [LS ApiSwap.ty l] 98 true, .box [LS intT zz.1] 22 false, .box [LS intT zz.2.1] 22 false, .box [LS intT zz.2.2] 22 false, .box [LS intT e.fFrom, LS intT e.fTo] 101 false, .box [LS intT e_2.fFrom, LS intT e_2.fTo] 101 false]⟩) ?_ ?_
          · refine En.block ?_
            refine En.seq ?_
            refine En.region ?_
            refine WL.run ht hn 2 ⟨[(3, .sv (.one (.ptr 0 0))), (4, .sv (.one (.ptr 1 0))), (5, .sv (.one (.ptr 2 0))), (6, .sv (.one (.ptr 3 0))), (10, .sv (.one (.fn 90 [0, 1, 2, 3]))), (12, .sv (.one (.ptr 4 0))), (14, .sv (.one (.ptr 5 0))), (15, .sv (.one (I x39))), (24, .sv (.one (LS ApiSwap.ty l))), (25, .sv (.one (I (l.length : Int)))), (26, .sv (.one (I x26))), (30, .sv (.one (LS ApiSwap.ty l))), (31, .sv (.one (I (l.length : Int)))), (32, .sv (.one (I x32))), (38, .sv (.one (I (e.fFrom.length : Int)))), (39, .sv (.one (I x39)))], [.box [LS ApiSwap.ty l] 98 true, .box [LS intT y1_3] 22 false, .box [LS intT y2_3] 22 false, .box [LS intT y3_3] 22 false, .box [LS intT e.fFrom, LS intT e.fTo] 101 false, .box [LS intT e_2.fFrom, LS intT e_2.fTo] 101 false]⟩ (by kernel_rfl) ?_
            refine WL.nil ?_
            refine En.seq ?_
            refine En.region ?_
            refine WL.run ht hn 10 ⟨[(3, .sv (.one (.ptr 0 0))), (4, .sv (.one (.ptr 1 0))), (5, .sv (.one (.ptr 2 0))), (6, .sv (.one (.ptr 3 0))), (10, .sv (.one (.fn 90 [0, 1, 2, 3]))), (12, .sv (.one (.ptr 4 0))), (14, .sv (.one (.ptr 5 0))), (15, .sv (.one (I x39))), (16, .sv (.one (I (if (wr ((e.fFrom.length : Int) - x39)) < (e_2.fFrom.length : Int) then (wr ((e.fFrom.length : Int) - x39)) else (e_2.fFrom.length : Int))))), (24, .sv (.one (LS ApiSwap.ty l))), (25, .sv (.one (I (l.length : Int)))), (26, .sv (.one (I x26))), (30, .sv (.one (LS ApiSwap.ty l))), (31, .sv (.one (I (l.length : Int)))), (32, .sv (.one (I x32))), (38, .sv (.one (I (e.fFrom.length : Int)))), (39, .sv (.one (I x39)))], [.box [LS ApiSwap.ty l] 98 true, .box [LS intT y1_3] 22 false, .box [LS intT y2_3] 22 false, .box [LS intT y3_3] 22 false, .box [LS intT e.fFrom, LS intT e.fTo] 101 false, .box [LS intT e_2.fFrom, LS intT e_2.fTo] 101 false]⟩ (by kernel_rfl) ?_
            refine WL.nil ?_
            refine En.block ?_
            refine En.seq ?_
            have hp_2 := h.1
            replace h := h.2
            have hp_3 := h.1
            replace h := h.2
            refine En.regionA ⟨[(3, .sv (.one (.ptr 0 0))), (4, .sv (.one (.ptr 1 0))), (5, .sv (.one (.ptr 2 0))), (6, .sv (.one (.ptr 3 0))), (10, .sv (.one (.fn 90 [0, 1, 2, 3]))), (12, .sv (.one (.ptr 4 0))), (14, .sv (.one (.ptr 5 0))), (15, .sv (.one (I x39))), (16, .sv (.one (I (if (wr ((e.fFrom.length : Int) - x39)) < (e_2.fFrom.length : Int) then (wr ((e.fFrom.length : Int) - x39)) else (e_2.fFrom.length : Int))))), (24, .sv (.one (LS ApiSwap.ty l))), (25, .sv (.one (I (l.length : Int)))), (26, .sv (.one (I x26))), (30, .sv (.one (LS ApiSwap.ty l))), (31, .sv (.one (I (l.length : Int)))), (32, .sv (.one (I x32))), (38, .sv (.one (I (e.fFrom.length : Int)))), (39, .sv (.one (I x39)))], [.sv (.one (.ptr 4 0)), .sv (.one (LS intT e.fFrom)), .sv (.one (I x39)), .sv (.one (I x39)), .sv (.one (I (if (wr ((e.fFrom.length : Int) - x39)) < (e_2.fFrom.length : Int) then (wr ((e.fFrom.length : Int) - x39)) else (e_2.fFrom.length : Int)))), .sv (.one (I (wr (x39 + (if (wr ((e.fFrom.length : Int) - x39)) < (e_2.fFrom.length : Int) then (wr ((e.fFrom.length : Int) - x39)) else (e_2.fFrom.length : Int)))))), .sv (.one (LS intT ((e.fFrom.take ((wr (x39 + (if (wr ((e.fFrom.length : Int) - x39)) < (e_2.fFrom.length : Int) then (wr ((e.fFrom.length : Int) - x39)) else (e_2.fFrom.length : Int)))) : Int).toNat).drop (x39 : Int).toNat))), .sv (.one (.ptr 5 0)), .sv (.one (LS intT e_2.fFrom)), .sv (.one (I (if (wr ((e.fFrom.length : Int) - x39)) < (e_2.fFrom.length : Int) then (wr ((e.fFrom.length : Int) - x39)) else (e_2.fFrom.length : Int)))), .sv (.one (LS intT ((e_2.fFrom.take ((if (wr ((e.fFrom.length : Int) - x39)) < (e_2.fFrom.length : Int) then (wr ((e.fFrom.length : Int) - x39)) else (e_2.fFrom.length : Int)) : Int).toNat).drop (0 : Int).toNat))), .sv (.one (B (decide (((e.fFrom.take ((wr (x39 + (if (wr ((e.fFrom.length : Int) - x39)) < (e_2.fFrom.length : Int) then (wr ((e.fFrom.length : Int) - x39)) else (e_2.fFrom.length : Int)))) : Int).toNat).drop (x39 : Int).toNat) = ((e_2.fFrom.take ((if (wr ((e.fFrom.length : Int) - x39)) < (e_2.fFrom.length : Int) then (wr ((e.fFrom.length : Int) - x39)) else (e_2.fFrom.length : Int)) : Int).toNat).drop (0 : Int).toNat))))), .sv (.one (B (!(decide (((e.fFrom.take ((wr (x39 + (if (wr ((e.fFrom.length : Int) - x39)) < (e_2.fFrom.length : Int) then (wr ((e.fFrom.length : Int) - x39)) else (e_2.fFrom.length : Int)))) : Int).toNat).drop (x39 : Int).toNat) = ((e_2.fFrom.take ((if (wr ((e.fFrom.length : Int) - x39)) < (e_2.fFrom.length : Int) then (wr ((e.fFrom.length : Int) - x39)) else (e_2.fFrom.length : Int)) : Int).toNat).drop (0 : Int).toNat)))))), .sv (.one (B (!(decide (((e.fFrom.take ((wr (x39 + (if (wr ((e.fFrom.length : Int) - x39)) < (e_2.fFrom.length : Int) then (wr ((e.fFrom.length : Int) - x39)) else (e_2.fFrom.length : Int)))) : Int).toNat).drop (x39 : Int).toNat) = ((e_2.fFrom.take ((if (wr ((e.fFrom.length : Int) - x39)) < (e_2.fFrom.length : Int) then (wr ((e.fFrom.length : Int) - x39)) else (e_2.fFrom.length : Int)) : Int).toNat).drop (0 : Int).toNat))))))], [⟨.box [LS ApiSwap.ty l] 98 true, none, none, none⟩, ⟨.box [LS intT y1_3] 22 false, none, none, none⟩, ⟨.box [LS intT y2_3] 22 false, none, none, none⟩, ⟨.box [LS intT y3_3] 22 false, none, none, none⟩, ⟨.box [LS intT e.fFrom, LS intT e.fTo] 101 false, none, none, none⟩, ⟨.box [LS intT e_2.fFrom, LS intT e_2.fTo] 101 false, none, none, none⟩]⟩ ⟨[(3, .sv (.one (.ptr 0 0))), (4, .sv (.one (.ptr 1 0))), (5, .sv (.one (.ptr 2 0))), (6, .sv (.one (.ptr 3 0))), (10, .sv (.one (.fn 90 [0, 1, 2, 3]))), (12, .sv (.one (.ptr 4 0))), (14, .sv (.one (.ptr 5 0))), (15, .sv (.one (I x39))), (16, .sv (.one (I (if (wr ((e.fFrom.length : Int) - x39)) < (e_2.fFrom.length : Int) then (wr ((e.fFrom.length : Int) - x39)) else (e_2.fFrom.length : Int))))), (24, .sv (.one (LS ApiSwap.ty l))), (25, .sv (.one (I (l.length : Int)))), (26, .sv (.one (I x26))), (30, .sv (.one (LS ApiSwap.ty l))), (31, .sv (.one (I (l.length : Int)))), (32, .sv (.one (I x32))), (38, .sv (.one (I (e.fFrom.length : Int)))), (39, .sv (.one (I x39))), (51, .sv (.one (B (!(decide (((e.fFrom.take ((wr (x39 + (if (wr ((e.fFrom.length : Int) - x39)) < (e_2.fFrom.length : Int) then (wr ((e.fFrom.length : Int) - x39)) else (e_2.fFrom.length : Int)))) : Int).toNat).drop (x39 : Int).toNat) = ((e_2.fFrom.take ((if (wr ((e.fFrom.length : Int) - x39)) < (e_2.fFrom.length : Int) then (wr ((e.fFrom.length : Int) - x39)) else (e_2.fFrom.length : Int)) : Int).toNat).drop (0 : Int).toNat)))))))], [.box [LS ApiSwap.ty l] 98 true, .box [LS intT y1_3] 22 false, .box [LS intT y2_3] 22 false, .box [LS intT y3_3] 22 false, .box [LS intT e.fFrom, LS intT e.fTo] 101 false, .box [LS intT e_2.fFrom, LS intT e_2.fTo] 101 false]⟩ (by kernel_rfl) hn (by kernel_rfl) (by rfl) (by kernel_rfl) ?_ (by kernel_rfl) ?_
            · exact ⟨.mt ⟨[(12, .sv (.one (.ptr 4 0)))], []⟩ [] none (by kernel_rfl) (by rfl) (mt_ev ht (by kernel_rfl)) rfl rfl rfl rfl,
    .mt ⟨[(52, .sv (.one (.ptr 4 0)))], [.gone, .gone, .gone, .gone, .box [LS intT e.fFrom, LS intT e.fTo] 101 false]⟩ [] none (by kernel_rfl) (by rfl) (mt_ev ht (by kernel_rfl)) rfl rfl rfl rfl,
    .mt ⟨[(15, .sv (.one (I x39)))], []⟩ [] none (by kernel_rfl) (by rfl) (mt_ev ht (by kernel_rfl)) rfl rfl rfl rfl,
    .mt ⟨[(15, .sv (.one (I x39)))], []⟩ [] none (by kernel_rfl) (by rfl) (mt_ev ht (by kernel_rfl)) rfl rfl rfl rfl,
    .mt ⟨[(16, .sv (.one (I (if (wr ((e.fFrom.length : Int) - x39)) < (e_2.fFrom.length : Int) then (wr ((e.fFrom.length : Int) - x39)) else (e_2.fFrom.length : Int)))))], []⟩ [] none (by kernel_rfl) (by rfl) (mt_ev ht (by kernel_rfl)) rfl rfl rfl rfl,
    .mt ⟨[(55, .sv (.one (I x39))), (56, .sv (.one (I (if (wr ((e.fFrom.length : Int) - x39)) < (e_2.fFrom.length : Int) then (wr ((e.fFrom.length : Int) - x39)) else (e_2.fFrom.length : Int)))))], []⟩ [] none (by kernel_rfl) (by rfl) (mt_ev ht (by kernel_rfl)) rfl rfl rfl rfl,
    .mt ⟨[(53, .sv (.one (LS intT e.fFrom))), (54, .sv (.one (I x39))), (57, .sv (.one (I (wr (x39 + (if (wr ((e.fFrom.length : Int) - x39)) < (e_2.fFrom.length : Int) then (wr ((e.fFrom.length : Int) - x39)) else (e_2.fFrom.length : Int)))))))], []⟩ [] none (by kernel_rfl) (by rfl) (mt_val (val_slice (T := intT) (l := e.fFrom) (lv := x39) (hv := (wr (x39 + (if (wr ((e.fFrom.length : Int) - x39)) < (e_2.fFrom.length : Int) then (wr ((e.fFrom.length : Int) - x39)) else (e_2.fFrom.length : Int))))) ht rfl (by rfl) (by rfl) (by rfl) (by rfl) (by rfl) (by rfl) (by rfl) hp_2)) rfl rfl rfl rfl,
    .mt ⟨[(14, .sv (.one (.ptr 5 0)))], []⟩ [] none (by kernel_rfl) (by rfl) (mt_ev ht (by kernel_rfl)) rfl rfl rfl rfl,
    .mt ⟨[(59, .sv (.one (.ptr 5 0)))], [.gone, .gone, .gone, .gone, .gone, .box [LS intT e_2.fFrom, LS intT e_2.fTo] 101 false]⟩ [] none (by kernel_rfl) (by rfl) (mt_ev ht (by kernel_rfl)) rfl rfl rfl rfl,
    .mt ⟨[(16, .sv (.one (I (if (wr ((e.fFrom.length : Int) - x39)) < (e_2.fFrom.length : Int) then (wr ((e.fFrom.length : Int) - x39)) else (e_2.fFrom.length : Int)))))], []⟩ [] none (by kernel_rfl) (by rfl) (mt_ev ht (by kernel_rfl)) rfl rfl rfl rfl,
    .mt ⟨[(60, .sv (.one (LS intT e_2.fFrom))), (61, .sv (.one (I (if (wr ((e.fFrom.length : Int) - x39)) < (e_2.fFrom.length : Int) then (wr ((e.fFrom.length : Int) - x39)) else (e_2.fFrom.length : Int)))))], []⟩ [] none (by kernel_rfl) (by rfl) (mt_val (val_slice (T := intT) (l := e_2.fFrom) (lv := 0) (hv := (if (wr ((e.fFrom.length : Int) - x39)) < (e_2.fFrom.length : Int) then (wr ((e.fFrom.length : Int) - x39)) else (e_2.fFrom.length : Int))) ht rfl (by rfl) (by rfl) (by rfl) (by rfl) (by rfl) (by rfl) (by rfl) hp_3)) rfl rfl rfl rfl,
    .mt ⟨[(58, .sv (.one (LS intT ((e.fFrom.take ((wr (x39 + (if (wr ((e.fFrom.length : Int) - x39)) < (e_2.fFrom.length : Int) then (wr ((e.fFrom.length : Int) - x39)) else (e_2.fFrom.length : Int)))) : Int).toNat).drop (x39 : Int).toNat)))), (62, .sv (.one (LS intT ((e_2.fFrom.take ((if (wr ((e.fFrom.length : Int) - x39)) < (e_2.fFrom.length : Int) then (wr ((e.fFrom.length : Int) - x39)) else (e_2.fFrom.length : Int)) : Int).toNat).drop (0 : Int).toNat))))], []⟩ [] none (by kernel_rfl) (by rfl) (mt_call (equalI_ct ((e.fFrom.take ((wr (x39 + (if (wr ((e.fFrom.length : Int) - x39)) < (e_2.fFrom.length : Int) then (wr ((e.fFrom.length : Int) - x39)) else (e_2.fFrom.length : Int)))) : Int).toNat).drop (x39 : Int).toNat) ((e_2.fFrom.take ((if (wr ((e.fFrom.length : Int) - x39)) < (e_2.fFrom.length : Int) then (wr ((e.fFrom.length : Int) - x39)) else (e_2.fFrom.length : Int)) : Int).toNat).drop (0 : Int).toNat)) en92 (caps := []) [] rfl (by rfl) (by kernel_rfl) (by kernel_rfl) (by rfl) (by rfl) (by rfl)) rfl rfl rfl rfl,
    .mt ⟨[(63, .sv (.one (B (decide (((e.fFrom.take ((wr (x39 + (if (wr ((e.fFrom.length : Int) - x39)) < (e_2.fFrom.length : Int) then (wr ((e.fFrom.length : Int) - x39)) else (e_2.fFrom.length : Int)))) : Int).toNat).drop (x39 : Int).toNat) = ((e_2.fFrom.take ((if (wr ((e.fFrom.length : Int) - x39)) < (e_2.fFrom.length : Int) then (wr ((e.fFrom.length : Int) - x39)) else (e_2.fFrom.length : Int)) : Int).toNat).drop (0 : Int).toNat))))))], []⟩ [] none (by kernel_rfl) (by rfl) (mt_ev ht (by kernel_rfl)) rfl rfl rfl rfl,
    .mt ⟨[(64, .sv (.one (B (!(decide (((e.fFrom.take ((wr (x39 + (if (wr ((e.fFrom.length : Int) - x39)) < (e_2.fFrom.length : Int) then (wr ((e.fFrom.length : Int) - x39)) else (e_2.fFrom.length : Int)))) : Int).toNat).drop (x39 : Int).toNat) = ((e_2.fFrom.take ((if (wr ((e.fFrom.length : Int) - x39)) < (e_2.fFrom.length : Int) then (wr ((e.fFrom.length : Int) - x39)) else (e_2.fFrom.length : Int)) : Int).toNat).drop (0 : Int).toNat)))))))], []⟩ [] none (by kernel_rfl) (by rfl) (mt_ev ht (by kernel_rfl)) rfl rfl rfl rfl,
    trivial⟩
            · refine En.cond (b := (!(decide (((e.fFrom.take ((wr (x39 + (if (wr ((e.fFrom.length : Int) - x39)) < (e_2.fFrom.length : Int) then (wr ((e.fFrom.length : Int) - x39)) else (e_2.fFrom.length : Int)))) : Int).toNat).drop (x39 : Int).toNat) = ((e_2.fFrom.take ((if (wr ((e.fFrom.length : Int) - x39)) < (e_2.fFrom.length : Int) then (wr ((e.fFrom.length : Int) - x39)) else (e_2.fFrom.length : Int)) : Int).toNat).drop (0 : Int).toNat))))) (by kernel_rfl) (fun hb => ?_) (fun hb => ?_)
              · replace h := h.1 hb
                refine En.skip ?_
                exact En.at (I := fun zz => J zz.1 zz.2.1 zz.2.2) (T := fun zz => ⟨[(3, .sv (.one (.ptr 0 0))), (4, .sv (.one (.ptr 1 0))), (5, .sv (.one (.ptr 2 0))), (6, .sv (.one (.ptr 3 0))), (10, .sv (.one (.fn 90 [0, 1, 2, 3]))), (12, .sv (.one (.ptr 4 0))), (14, .sv (.one (.ptr 5 0))), (24, .sv (.one (LS ApiSwap.ty l))), (25, .sv (.one (I (l.length : Int)))), (26, .sv (.one (I x26))), (30, .sv (.one (LS ApiSwap.ty l))), (31, .sv (.one (I (l.length : Int)))), (32, .sv (.one (I x32))), (38, .sv (.one (I (e.fFrom.length : Int)))), (39, .sv (.one (I x39)))], [.box [LS ApiSwap.ty l] 98 true, .box [LS intT zz.1] 22 false, .box [LS intT zz.2.1] 22 false, .box [LS intT zz.2.2] 22 false, .box [LS intT e.fFrom, LS intT e.fTo] 101 false, .box [LS intT e_2.fFrom, LS intT e_2.fTo] 101 false]⟩) (y1_3, y2_3, y3_3) h (by kernel_rfl)
              · replace h := h.2 hb
                refine En.seq ?_
                have hp_5 := h.1
                replace h := h.2
                have hp_6 := h.1
                replace h := h.2
                have hp_7 := h.1
                replace h := h.2
                refine En.regionA ⟨[(3, .sv (.one (.ptr 0 0))), (4, .sv (.one (.ptr 1 0))), (5, .sv (.one (.ptr 2 0))), (6, .sv (.one (.ptr 3 0))), (10, .sv (.one (.fn 90 [0, 1, 2, 3]))), (12, .sv (.one (.ptr 4 0))), (14, .sv (.one (.ptr 5 0))), (15, .sv (.one (I x39))), (16, .sv (.one (I (if (wr ((e.fFrom.length : Int) - x39)) < (e_2.fFrom.length : Int) then (wr ((e.fFrom.length : Int) - x39)) else (e_2.fFrom.length : Int))))), (24, .sv (.one (LS ApiSwap.ty l))), (25, .sv (.one (I (l.length : Int)))), (26, .sv (.one (I x26))), (30, .sv (.one (LS ApiSwap.ty l))), (31, .sv (.one (I (l.length : Int)))), (32, .sv (.one (I x32))), (38, .sv (.one (I (e.fFrom.length : Int)))), (39, .sv (.one (I x39)))], [.sv (.one (.fn 90 [0, 1, 2, 3])), .sv (.one (.ptr 4 0)), .sv (.one (LS intT e.fFrom)), .sv (.one (.ptr 5 0)), .sv (.one (LS intT e_2.fFrom)), .sv (.one (I (if (wr ((e.fFrom.length : Int) - x39)) < (e_2.fFrom.length : Int) then (wr ((e.fFrom.length : Int) - x39)) else (e_2.fFrom.length : Int)))), .sv (.one (LS intT ((e_2.fFrom.take ((e_2.fFrom.length : Int) : Int).toNat).drop ((if (wr ((e.fFrom.length : Int) - x39)) < (e_2.fFrom.length : Int) then (wr ((e.fFrom.length : Int) - x39)) else (e_2.fFrom.length : Int)) : Int).toNat))), .sv (.one (.own 6)), .sv (.one (LS intT (([e.fFrom, ((e_2.fFrom.take ((e_2.fFrom.length : Int) : Int).toNat).drop ((if (wr ((e.fFrom.length : Int) - x39)) < (e_2.fFrom.length : Int) then (wr ((e.fFrom.length : Int) - x39)) else (e_2.fFrom.length : Int)) : Int).toNat)] : (List (List Int))).flatten))), .sv (.agg [LS intT e.fFrom, LS intT e.fTo]), .sv (.agg [LS intT e_2.fFrom, LS intT e_2.fTo]), .sv (.one (I x39)), .sv (.one (B (tryB l (([e.fFrom, ((e_2.fFrom.take ((e_2.fFrom.length : Int) : Int).toNat).drop ((if (wr ((e.fFrom.length : Int) - x39)) < (e_2.fFrom.length : Int) then (wr ((e.fFrom.length : Int) - x39)) else (e_2.fFrom.length : Int)) : Int).toNat)] : (List (List Int))).flatten) e 0 e_2 x39))), .sv (.one (B (tryB l (([e.fFrom, ((e_2.fFrom.take ((e_2.fFrom.length : Int) : Int).toNat).drop ((if (wr ((e.fFrom.length : Int) - x39)) < (e_2.fFrom.length : Int) then (wr ((e.fFrom.length : Int) - x39)) else (e_2.fFrom.length : Int)) : Int).toNat)] : (List (List Int))).flatten) e 0 e_2 x39)))], [⟨.box [LS ApiSwap.ty l] 98 true, none, none, none⟩, ⟨.box [LS intT y1_3] 22 false, none, none, some (12, .box [LS intT (tryW l y1_3 (([e.fFrom, ((e_2.fFrom.take ((e_2.fFrom.length : Int) : Int).toNat).drop ((if (wr ((e.fFrom.length : Int) - x39)) < (e_2.fFrom.length : Int) then (wr ((e.fFrom.length : Int) - x39)) else (e_2.fFrom.length : Int)) : Int).toNat)] : (List (List Int))).flatten) e 0 e_2 x39 ((([e.fFrom, ((e_2.fFrom.take ((e_2.fFrom.length : Int) : Int).toNat).drop ((if (wr ((e.fFrom.length : Int) - x39)) < (e_2.fFrom.length : Int) then (wr ((e.fFrom.length : Int) - x39)) else (e_2.fFrom.length : Int)) : Int).toNat)] : (List (List Int))).flatten)))] 22 false)⟩, ⟨.box [LS intT y2_3] 22 false, none, none, some (12, .box [LS intT (tryW l y2_3 (([e.fFrom, ((e_2.fFrom.take ((e_2.fFrom.length : Int) : Int).toNat).drop ((if (wr ((e.fFrom.length : Int) - x39)) < (e_2.fFrom.length : Int) then (wr ((e.fFrom.length : Int) - x39)) else (e_2.fFrom.length : Int)) : Int).toNat)] : (List (List Int))).flatten) e 0 e_2 x39 (try1 l (([e.fFrom, ((e_2.fFrom.take ((e_2.fFrom.length : Int) : Int).toNat).drop ((if (wr ((e.fFrom.length : Int) - x39)) < (e_2.fFrom.length : Int) then (wr ((e.fFrom.length : Int) - x39)) else (e_2.fFrom.length : Int)) : Int).toNat)] : (List (List Int))).flatten) e 0))] 22 false)⟩, ⟨.box [LS intT y3_3] 22 false, none, none, some (12, .box [LS intT (tryW l y3_3 (([e.fFrom, ((e_2.fFrom.take ((e_2.fFrom.length : Int) : Int).toNat).drop ((if (wr ((e.fFrom.length : Int) - x39)) < (e_2.fFrom.length : Int) then (wr ((e.fFrom.length : Int) - x39)) else (e_2.fFrom.length : Int)) : Int).toNat)] : (List (List Int))).flatten) e 0 e_2 x39 (try1 l (([e.fFrom, ((e_2.fFrom.take ((e_2.fFrom.length : Int) : Int).toNat).drop ((if (wr ((e.fFrom.length : Int) - x39)) < (e_2.fFrom.length : Int) then (wr ((e.fFrom.length : Int) - x39)) else (e_2.fFrom.length : Int)) : Int).toNat)] : (List (List Int))).flatten) e_2 x39))] 22 false)⟩, ⟨.box [LS intT e.fFrom, LS intT e.fTo] 101 false, none, none, none⟩, ⟨.box [LS intT e_2.fFrom, LS intT e_2.fTo] 101 false, none, none, none⟩, ⟨rowI 22 (lsT intT) ([e.fFrom, ((e_2.fFrom.take ((e_2.fFrom.length : Int) : Int).toNat).drop ((if (wr ((e.fFrom.length : Int) - x39)) < (e_2.fFrom.length : Int) then (wr ((e.fFrom.length : Int) - x39)) else (e_2.fFrom.length : Int)) : Int).toNat)] : (List (List Int))), some 7, none, none⟩]⟩ ⟨[(3, .sv (.one (.ptr 0 0))), (4, .sv (.one (.ptr 1 0))), (5, .sv (.one (.ptr 2 0))), (6, .sv (.one (.ptr 3 0))), (10, .sv (.one (.fn 90 [0, 1, 2, 3]))), (12, .sv (.one (.ptr 4 0))), (14, .sv (.one (.ptr 5 0))), (24, .sv (.one (LS ApiSwap.ty l))), (25, .sv (.one (I (l.length : Int)))), (26, .sv (.one (I x26))), (30, .sv (.one (LS ApiSwap.ty l))), (31, .sv (.one (I (l.length : Int)))), (32, .sv (.one (I x32))), (38, .sv (.one (I (e.fFrom.length : Int)))), (39, .sv (.one (I x39))), (65, .sv (.one (B (tryB l (([e.fFrom, ((e_2.fFrom.take ((e_2.fFrom.length : Int) : Int).toNat).drop ((if (wr ((e.fFrom.length : Int) - x39)) < (e_2.fFrom.length : Int) then (wr ((e.fFrom.length : Int) - x39)) else (e_2.fFrom.length : Int)) : Int).toNat)] : (List (List Int))).flatten) e 0 e_2 x39))))], [.box [LS ApiSwap.ty l] 98 true, .box [LS intT (tryW l y1_3 (([e.fFrom, ((e_2.fFrom.take ((e_2.fFrom.length : Int) : Int).toNat).drop ((if (wr ((e.fFrom.length : Int) - x39)) < (e_2.fFrom.length : Int) then (wr ((e.fFrom.length : Int) - x39)) else (e_2.fFrom.length : Int)) : Int).toNat)] : (List (List Int))).flatten) e 0 e_2 x39 ((([e.fFrom, ((e_2.fFrom.take ((e_2.fFrom.length : Int) : Int).toNat).drop ((if (wr ((e.fFrom.length : Int) - x39)) < (e_2.fFrom.length : Int) then (wr ((e.fFrom.length : Int) - x39)) else (e_2.fFrom.length : Int)) : Int).toNat)] : (List (List Int))).flatten)))] 22 false, .box [LS intT (tryW l y2_3 (([e.fFrom, ((e_2.fFrom.take ((e_2.fFrom.length : Int) : Int).toNat).drop ((if (wr ((e.fFrom.length : Int) - x39)) < (e_2.fFrom.length : Int) then (wr ((e.fFrom.length : Int) - x39)) else (e_2.fFrom.length : Int)) : Int).toNat)] : (List (List Int))).flatten) e 0 e_2 x39 (try1 l (([e.fFrom, ((e_2.fFrom.take ((e_2.fFrom.length : Int) : Int).toNat).drop ((if (wr ((e.fFrom.length : Int) - x39)) < (e_2.fFrom.length : Int) then (wr ((e.fFrom.length : Int) - x39)) else (e_2.fFrom.length : Int)) : Int).toNat)] : (List (List Int))).flatten) e 0))] 22 false, .box [LS intT (tryW l y3_3 (([e.fFrom, ((e_2.fFrom.take ((e_2.fFrom.length : Int) : Int).toNat).drop ((if (wr ((e.fFrom.length : Int) - x39)) < (e_2.fFrom.length : Int) then (wr ((e.fFrom.length : Int) - x39)) else (e_2.fFrom.length : Int)) : Int).toNat)] : (List (List Int))).flatten) e 0 e_2 x39 (try1 l (([e.fFrom, ((e_2.fFrom.take ((e_2.fFrom.length : Int) : Int).toNat).drop ((if (wr ((e.fFrom.length : Int) - x39)) < (e_2.fFrom.length : Int) then (wr ((e.fFrom.length : Int) - x39)) else (e_2.fFrom.length : Int)) : Int).toNat)] : (List (List Int))).flatten) e_2 x39))] 22 false, .box [LS intT e.fFrom, LS intT e.fTo] 101 false, .box [LS intT e_2.fFrom, LS intT e_2.fTo] 101 false, .gone]⟩ (by kernel_rfl) hn (by kernel_rfl) (by rfl) (by kernel_rfl) ?_ (by kernel_rfl) ?_
                · exact ⟨.mt ⟨[(10, .sv (.one (.fn 90 [0, 1, 2, 3])))], []⟩ [] none (by kernel_rfl) (by rfl) (mt_ev ht (by kernel_rfl)) rfl rfl rfl rfl,
    .mt ⟨[(12, .sv (.one (.ptr 4 0)))], []⟩ [] none (by kernel_rfl) (by rfl) (mt_ev ht (by kernel_rfl)) rfl rfl rfl rfl,
    .mt ⟨[(67, .sv (.one (.ptr 4 0)))], [.gone, .gone, .gone, .gone, .box [LS intT e.fFrom, LS intT e.fTo] 101 false]⟩ [] none (by kernel_rfl) (by rfl) (mt_ev ht (by kernel_rfl)) rfl rfl rfl rfl,
    .mt ⟨[(14, .sv (.one (.ptr 5 0)))], []⟩ [] none (by kernel_rfl) (by rfl) (mt_ev ht (by kernel_rfl)) rfl rfl rfl rfl,
    .mt ⟨[(69, .sv (.one (.ptr 5 0)))], [.gone, .gone, .gone, .gone, .gone, .box [LS intT e_2.fFrom, LS intT e_2.fTo] 101 false]⟩ [] none (by kernel_rfl) (by rfl) (mt_ev ht (by kernel_rfl)) rfl rfl rfl rfl,
    .mt ⟨[(16, .sv (.one (I (if (wr ((e.fFrom.length : Int) - x39)) < (e_2.fFrom.length : Int) then (wr ((e.fFrom.length : Int) - x39)) else (e_2.fFrom.length : Int)))))], []⟩ [] none (by kernel_rfl) (by rfl) (mt_ev ht (by kernel_rfl)) rfl rfl rfl rfl,
    .mt ⟨[(70, .sv (.one (LS intT e_2.fFrom))), (71, .sv (.one (I (if (wr ((e.fFrom.length : Int) - x39)) < (e_2.fFrom.length : Int) then (wr ((e.fFrom.length : Int) - x39)) else (e_2.fFrom.length : Int)))))], []⟩ [] none (by kernel_rfl) (by rfl) (mt_val (val_slice (T := intT) (l := e_2.fFrom) (lv := (if (wr ((e.fFrom.length : Int) - x39)) < (e_2.fFrom.length : Int) then (wr ((e.fFrom.length : Int) - x39)) else (e_2.fFrom.length : Int))) (hv := (e_2.fFrom.length : Int)) ht rfl (by rfl) (by rfl) (by rfl) (by rfl) (by rfl) (by rfl) (by rfl) hp_5)) rfl rfl rfl rfl,
    .mt ⟨[(68, .sv (.one (LS intT e.fFrom))), (72, .sv (.one (LS intT ((e_2.fFrom.take ((e_2.fFrom.length : Int) : Int).toNat).drop ((if (wr ((e.fFrom.length : Int) - x39)) < (e_2.fFrom.length : Int) then (wr ((e.fFrom.length : Int) - x39)) else (e_2.fFrom.length : Int)) : Int).toNat))))], []⟩ [] (some 6) (by kernel_rfl) (by rfl) (mt_lit (T := (lsT intT)) ([e.fFrom, ((e_2.fFrom.take ((e_2.fFrom.length : Int) : Int).toNat).drop ((if (wr ((e.fFrom.length : Int) - x39)) < (e_2.fFrom.length : Int) then (wr ((e.fFrom.length : Int) - x39)) else (e_2.fFrom.length : Int)) : Int).toNat)] : (List (List Int))) (mt_bsl 6 (r := cellsOf (lsT intT) ([e.fFrom, ((e_2.fFrom.take ((e_2.fFrom.length : Int) : Int).toNat).drop ((if (wr ((e.fFrom.length : Int) - x39)) < (e_2.fFrom.length : Int) then (wr ((e.fFrom.length : Int) - x39)) else (e_2.fFrom.length : Int)) : Int).toNat)] : (List (List Int)))) ht rfl (by rfl) (by rfl) (by rfl) (by kernel_rfl) (by rfl)) (fun _ h => by cases h) (fun _ => rfl) (fun _ => rfl) (by rfl) (Nat.le_of_ble_eq_true rfl)) rfl rfl rfl rfl,
    .mt ⟨[(73, .sv (.one (.own 6)))], [.gone, .gone, .gone, .gone, .gone, .gone, rowI 22 (lsT intT) ([e.fFrom, ((e_2.fFrom.take ((e_2.fFrom.length : Int) : Int).toNat).drop ((if (wr ((e.fFrom.length : Int) - x39)) < (e_2.fFrom.length : Int) then (wr ((e.fFrom.length : Int) - x39)) else (e_2.fFrom.length : Int)) : Int).toNat)] : (List (List Int)))]⟩ [] none (by kernel_rfl) (by rfl) (mt_seal (q := 7) (e := 3) (mt_lendI (T := (lsT intT)) (l := ([e.fFrom, ((e_2.fFrom.take ((e_2.fFrom.length : Int) : Int).toNat).drop ((if (wr ((e.fFrom.length : Int) - x39)) < (e_2.fFrom.length : Int) then (wr ((e.fFrom.length : Int) - x39)) else (e_2.fFrom.length : Int)) : Int).toNat)] : (List (List Int)))) 6 (by rfl) (plain_row fun _ => rfl) (mt_callI 7 (concatI_ct ([e.fFrom, ((e_2.fFrom.take ((e_2.fFrom.length : Int) : Int).toNat).drop ((if (wr ((e.fFrom.length : Int) - x39)) < (e_2.fFrom.length : Int) then (wr ((e.fFrom.length : Int) - x39)) else (e_2.fFrom.length : Int)) : Int).toNat)] : (List (List Int))) hp_6) en57 (caps := []) [] rfl rfl (by rfl) (by kernel_rfl) (by kernel_rfl) (by rfl) (by rfl)))) rfl rfl rfl rfl,
    .mt ⟨[(12, .sv (.one (.ptr 4 0)))], [.gone, .gone, .gone, .gone, .box [LS intT e.fFrom, LS intT e.fTo] 101 false]⟩ [] none (by kernel_rfl) (by rfl) (mt_ev ht (by kernel_rfl)) rfl rfl rfl rfl,
    .mt ⟨[(14, .sv (.one (.ptr 5 0)))], [.gone, .gone, .gone, .gone, .gone, .box [LS intT e_2.fFrom, LS intT e_2.fTo] 101 false]⟩ [] none (by kernel_rfl) (by rfl) (mt_ev ht (by kernel_rfl)) rfl rfl rfl rfl,
    .mt ⟨[(15, .sv (.one (I x39)))], []⟩ [] none (by kernel_rfl) (by rfl) (mt_ev ht (by kernel_rfl)) rfl rfl rfl rfl,
    .me ⟨[(66, .sv (.one (.fn 90 [0, 1, 2, 3]))), (74, .sv (.one (LS intT (([e.fFrom, ((e_2.fFrom.take ((e_2.fFrom.length : Int) : Int).toNat).drop ((if (wr ((e.fFrom.length : Int) - x39)) < (e_2.fFrom.length : Int) then (wr ((e.fFrom.length : Int) - x39)) else (e_2.fFrom.length : Int)) : Int).toNat)] : (List (List Int))).flatten)))), (75, .sv (.agg [LS intT e.fFrom, LS intT e.fTo])), (76, .sv (.agg [LS intT e_2.fFrom, LS intT e_2.fTo])), (77, .sv (.one (I x39)))], [.box [LS ApiSwap.ty l] 98 true, .box [LS intT y1_3] 22 false, .box [LS intT y2_3] 22 false, .box [LS intT y3_3] 22 false]⟩ [(1, .box [LS intT (tryW l y1_3 (([e.fFrom, ((e_2.fFrom.take ((e_2.fFrom.length : Int) : Int).toNat).drop ((if (wr ((e.fFrom.length : Int) - x39)) < (e_2.fFrom.length : Int) then (wr ((e.fFrom.length : Int) - x39)) else (e_2.fFrom.length : Int)) : Int).toNat)] : (List (List Int))).flatten) e 0 e_2 x39 ((([e.fFrom, ((e_2.fFrom.take ((e_2.fFrom.length : Int) : Int).toNat).drop ((if (wr ((e.fFrom.length : Int) - x39)) < (e_2.fFrom.length : Int) then (wr ((e.fFrom.length : Int) - x39)) else (e_2.fFrom.length : Int)) : Int).toNat)] : (List (List Int))).flatten)))] 22 false), (2, .box [LS intT (tryW l y2_3 (([e.fFrom, ((e_2.fFrom.take ((e_2.fFrom.length : Int) : Int).toNat).drop ((if (wr ((e.fFrom.length : Int) - x39)) < (e_2.fFrom.length : Int) then (wr ((e.fFrom.length : Int) - x39)) else (e_2.fFrom.length : Int)) : Int).toNat)] : (List (List Int))).flatten) e 0 e_2 x39 (try1 l (([e.fFrom, ((e_2.fFrom.take ((e_2.fFrom.length : Int) : Int).toNat).drop ((if (wr ((e.fFrom.length : Int) - x39)) < (e_2.fFrom.length : Int) then (wr ((e.fFrom.length : Int) - x39)) else (e_2.fFrom.length : Int)) : Int).toNat)] : (List (List Int))).flatten) e 0))] 22 false), (3, .box [LS intT (tryW l y3_3 (([e.fFrom, ((e_2.fFrom.take ((e_2.fFrom.length : Int) : Int).toNat).drop ((if (wr ((e.fFrom.length : Int) - x39)) < (e_2.fFrom.length : Int) then (wr ((e.fFrom.length : Int) - x39)) else (e_2.fFrom.length : Int)) : Int).toNat)] : (List (List Int))).flatten) e 0 e_2 x39 (try1 l (([e.fFrom, ((e_2.fFrom.take ((e_2.fFrom.length : Int) : Int).toNat).drop ((if (wr ((e.fFrom.length : Int) - x39)) < (e_2.fFrom.length : Int) then (wr ((e.fFrom.length : Int) - x39)) else (e_2.fFrom.length : Int)) : Int).toNat)] : (List (List Int))).flatten) e_2 x39))] 22 false)] (by kernel_rfl) (by rfl) (me_call (rewTry_ct l y1_3 y2_3 y3_3 (([e.fFrom, ((e_2.fFrom.take ((e_2.fFrom.length : Int) : Int).toNat).drop ((if (wr ((e.fFrom.length : Int) - x39)) < (e_2.fFrom.length : Int) then (wr ((e.fFrom.length : Int) - x39)) else (e_2.fFrom.length : Int)) : Int).toNat)] : (List (List Int))).flatten) e 0 e_2 x39 hp_7) en90 (caps := [0, 1, 2, 3]) [0, 1, 2, 3] rfl (by rfl) (argsAs (by kernel_rfl) (by rfl)) (by kernel_rfl) (by decide) (by rfl) (by rfl)) rfl rfl rfl ⟨⟨_, rfl, rfl, rfl, rfl, rfl⟩, ⟨_, rfl, rfl, rfl, rfl, rfl⟩, ⟨_, rfl, rfl, rfl, rfl, rfl⟩, trivial⟩,
    .mt ⟨[(78, .sv (.one (B (tryB l (([e.fFrom, ((e_2.fFrom.take ((e_2.fFrom.length : Int) : Int).toNat).drop ((if (wr ((e.fFrom.length : Int) - x39)) < (e_2.fFrom.length : Int) then (wr ((e.fFrom.length : Int) - x39)) else (e_2.fFrom.length : Int)) : Int).toNat)] : (List (List Int))).flatten) e 0 e_2 x39))))], []⟩ [] none (by kernel_rfl) (by rfl) (mt_ev ht (by kernel_rfl)) rfl rfl rfl rfl,
    trivial⟩
                · refine En.cond (b := (tryB l (([e.fFrom, ((e_2.fFrom.take ((e_2.fFrom.length : Int) : Int).toNat).drop ((if (wr ((e.fFrom.length : Int) - x39)) < (e_2.fFrom.length : Int) then (wr ((e.fFrom.length : Int) - x39)) else (e_2.fFrom.length : Int)) : Int).toNat)] : (List (List Int))).flatten) e 0 e_2 x39)) (by kernel_rfl) (fun hb => ?_) (fun hb => ?_)
                  · replace h := h.1 hb
                    refine En.seq ?_
                    refine En.regionA ⟨[(4, .sv (.one (.ptr 1 0))), (5, .sv (.one (.ptr 2 0))), (6, .sv (.one (.ptr 3 0)))], [.sv (.one (LS intT (tryW l y1_3 (([e.fFrom, ((e_2.fFrom.take ((e_2.fFrom.length : Int) : Int).toNat).drop ((if (wr ((e.fFrom.length : Int) - x39)) < (e_2.fFrom.length : Int) then (wr ((e.fFrom.length : Int) - x39)) else (e_2.fFrom.length : Int)) : Int).toNat)] : (List (List Int))).flatten) e 0 e_2 x39 ((([e.fFrom, ((e_2.fFrom.take ((e_2.fFrom.length : Int) : Int).toNat).drop ((if (wr ((e.fFrom.length : Int) - x39)) < (e_2.fFrom.length : Int) then (wr ((e.fFrom.length : Int) - x39)) else (e_2.fFrom.length : Int)) : Int).toNat)] : (List (List Int))).flatten))))), .sv (.one (LS intT (tryW l y2_3 (([e.fFrom, ((e_2.fFrom.take ((e_2.fFrom.length : Int) : Int).toNat).drop ((if (wr ((e.fFrom.length : Int) - x39)) < (e_2.fFrom.length : Int) then (wr ((e.fFrom.length : Int) - x39)) else (e_2.fFrom.length : Int)) : Int).toNat)] : (List (List Int))).flatten) e 0 e_2 x39 (try1 l (([e.fFrom, ((e_2.fFrom.take ((e_2.fFrom.length : Int) : Int).toNat).drop ((if (wr ((e.fFrom.length : Int) - x39)) < (e_2.fFrom.length : Int) then (wr ((e.fFrom.length : Int) - x39)) else (e_2.fFrom.length : Int)) : Int).toNat)] : (List (List Int))).flatten) e 0)))), .sv (.one (LS intT (tryW l y3_3 (([e.fFrom, ((e_2.fFrom.take ((e_2.fFrom.length : Int) : Int).toNat).drop ((if (wr ((e.fFrom.length : Int) - x39)) < (e_2.fFrom.length : Int) then (wr ((e.fFrom.length : Int) - x39)) else (e_2.fFrom.length : Int)) : Int).toNat)] : (List (List Int))).flatten) e 0 e_2 x39 (try1 l (([e.fFrom, ((e_2.fFrom.take ((e_2.fFrom.length : Int) : Int).toNat).drop ((if (wr ((e.fFrom.length : Int) - x39)) < (e_2.fFrom.length : Int) then (wr ((e.fFrom.length : Int) - x39)) else (e_2.fFrom.length : Int)) : Int).toNat)] : (List (List Int))).flatten) e_2 x39)))), .tup [], .tup [], .tup [], .sv (.one (B true)), .sv (.one (I 0))], [⟨.gone, none, none, none⟩, ⟨.box [LS intT (tryW l y1_3 (([e.fFrom, ((e_2.fFrom.take ((e_2.fFrom.length : Int) : Int).toNat).drop ((if (wr ((e.fFrom.length : Int) - x39)) < (e_2.fFrom.length : Int) then (wr ((e.fFrom.length : Int) - x39)) else (e_2.fFrom.length : Int)) : Int).toNat)] : (List (List Int))).flatten) e 0 e_2 x39 ((([e.fFrom, ((e_2.fFrom.take ((e_2.fFrom.length : Int) : Int).toNat).drop ((if (wr ((e.fFrom.length : Int) - x39)) < (e_2.fFrom.length : Int) then (wr ((e.fFrom.length : Int) - x39)) else (e_2.fFrom.length : Int)) : Int).toNat)] : (List (List Int))).flatten)))] 22 false, none, none, some (3, .box [LS intT (tryW l y1_3 (([e.fFrom, ((e_2.fFrom.take ((e_2.fFrom.length : Int) : Int).toNat).drop ((if (wr ((e.fFrom.length : Int) - x39)) < (e_2.fFrom.length : Int) then (wr ((e.fFrom.length : Int) - x39)) else (e_2.fFrom.length : Int)) : Int).toNat)] : (List (List Int))).flatten) e 0 e_2 x39 ((([e.fFrom, ((e_2.fFrom.take ((e_2.fFrom.length : Int) : Int).toNat).drop ((if (wr ((e.fFrom.length : Int) - x39)) < (e_2.fFrom.length : Int) then (wr ((e.fFrom.length : Int) - x39)) else (e_2.fFrom.length : Int)) : Int).toNat)] : (List (List Int))).flatten)))] 22 false)⟩, ⟨.box [LS intT (tryW l y2_3 (([e.fFrom, ((e_2.fFrom.take ((e_2.fFrom.length : Int) : Int).toNat).drop ((if (wr ((e.fFrom.length : Int) - x39)) < (e_2.fFrom.length : Int) then (wr ((e.fFrom.length : Int) - x39)) else (e_2.fFrom.length : Int)) : Int).toNat)] : (List (List Int))).flatten) e 0 e_2 x39 (try1 l (([e.fFrom, ((e_2.fFrom.take ((e_2.fFrom.length : Int) : Int).toNat).drop ((if (wr ((e.fFrom.length : Int) - x39)) < (e_2.fFrom.length : Int) then (wr ((e.fFrom.length : Int) - x39)) else (e_2.fFrom.length : Int)) : Int).toNat)] : (List (List Int))).flatten) e 0))] 22 false, none, none, some (4, .box [LS intT (tryW l y2_3 (([e.fFrom, ((e_2.fFrom.take ((e_2.fFrom.length : Int) : Int).toNat).drop ((if (wr ((e.fFrom.length : Int) - x39)) < (e_2.fFrom.length : Int) then (wr ((e.fFrom.length : Int) - x39)) else (e_2.fFrom.length : Int)) : Int).toNat)] : (List (List Int))).flatten) e 0 e_2 x39 (try1 l (([e.fFrom, ((e_2.fFrom.take ((e_2.fFrom.length : Int) : Int).toNat).drop ((if (wr ((e.fFrom.length : Int) - x39)) < (e_2.fFrom.length : Int) then (wr ((e.fFrom.length : Int) - x39)) else (e_2.fFrom.length : Int)) : Int).toNat)] : (List (List Int))).flatten) e 0))] 22 false)⟩, ⟨.box [LS intT (tryW l y3_3 (([e.fFrom, ((e_2.fFrom.take ((e_2.fFrom.length : Int) : Int).toNat).drop ((if (wr ((e.fFrom.length : Int) - x39)) < (e_2.fFrom.length : Int) then (wr ((e.fFrom.length : Int) - x39)) else (e_2.fFrom.length : Int)) : Int).toNat)] : (List (List Int))).flatten) e 0 e_2 x39 (try1 l (([e.fFrom, ((e_2.fFrom.take ((e_2.fFrom.length : Int) : Int).toNat).drop ((if (wr ((e.fFrom.length : Int) - x39)) < (e_2.fFrom.length : Int) then (wr ((e.fFrom.length : Int) - x39)) else (e_2.fFrom.length : Int)) : Int).toNat)] : (List (List Int))).flatten) e_2 x39))] 22 false, none, none, some (5, .box [LS intT (tryW l y3_3 (([e.fFrom, ((e_2.fFrom.take ((e_2.fFrom.length : Int) : Int).toNat).drop ((if (wr ((e.fFrom.length : Int) - x39)) < (e_2.fFrom.length : Int) then (wr ((e.fFrom.length : Int) - x39)) else (e_2.fFrom.length : Int)) : Int).toNat)] : (List (List Int))).flatten) e 0 e_2 x39 (try1 l (([e.fFrom, ((e_2.fFrom.take ((e_2.fFrom.length : Int) : Int).toNat).drop ((if (wr ((e.fFrom.length : Int) - x39)) < (e_2.fFrom.length : Int) then (wr ((e.fFrom.length : Int) - x39)) else (e_2.fFrom.length : Int)) : Int).toNat)] : (List (List Int))).flatten) e_2 x39))] 22 false)⟩, ⟨.gone, none, none, none⟩, ⟨.gone, none, none, none⟩, ⟨.gone, none, none, none⟩]⟩ ⟨[(4, .sv (.one (.ptr 1 0))), (5, .sv (.one (.ptr 2 0))), (6, .sv (.one (.ptr 3 0))), (7, .sv (.one (B true))), (8, .sv (.one (I 0)))], [.gone, .box [LS intT (tryW l y1_3 (([e.fFrom, ((e_2.fFrom.take ((e_2.fFrom.length : Int) : Int).toNat).drop ((if (wr ((e.fFrom.length : Int) - x39)) < (e_2.fFrom.length : Int) then (wr ((e.fFrom.length : Int) - x39)) else (e_2.fFrom.length : Int)) : Int).toNat)] : (List (List Int))).flatten) e 0 e_2 x39 ((([e.fFrom, ((e_2.fFrom.take ((e_2.fFrom.length : Int) : Int).toNat).drop ((if (wr ((e.fFrom.length : Int) - x39)) < (e_2.fFrom.length : Int) then (wr ((e.fFrom.length : Int) - x39)) else (e_2.fFrom.length : Int)) : Int).toNat)] : (List (List Int))).flatten)))] 22 false, .box [LS intT (tryW l y2_3 (([e.fFrom, ((e_2.fFrom.take ((e_2.fFrom.length : Int) : Int).toNat).drop ((if (wr ((e.fFrom.length : Int) - x39)) < (e_2.fFrom.length : Int) then (wr ((e.fFrom.length : Int) - x39)) else (e_2.fFrom.length : Int)) : Int).toNat)] : (List (List Int))).flatten) e 0 e_2 x39 (try1 l (([e.fFrom, ((e_2.fFrom.take ((e_2.fFrom.length : Int) : Int).toNat).drop ((if (wr ((e.fFrom.length : Int) - x39)) < (e_2.fFrom.length : Int) then (wr ((e.fFrom.length : Int) - x39)) else (e_2.fFrom.length : Int)) : Int).toNat)] : (List (List Int))).flatten) e 0))] 22 false, .box [LS intT (tryW l y3_3 (([e.fFrom, ((e_2.fFrom.take ((e_2.fFrom.length : Int) : Int).toNat).drop ((if (wr ((e.fFrom.length : Int) - x39)) < (e_2.fFrom.length : Int) then (wr ((e.fFrom.length : Int) - x39)) else (e_2.fFrom.length : Int)) : Int).toNat)] : (List (List Int))).flatten) e 0 e_2 x39 (try1 l (([e.fFrom, ((e_2.fFrom.take ((e_2.fFrom.length : Int) : Int).toNat).drop ((if (wr ((e.fFrom.length : Int) - x39)) < (e_2.fFrom.length : Int) then (wr ((e.fFrom.length : Int) - x39)) else (e_2.fFrom.length : Int)) : Int).toNat)] : (List (List Int))).flatten) e_2 x39))] 22 false, .gone, .gone, .gone]⟩ (by kernel_rfl) hn (by kernel_rfl) (by rfl) (by kernel_rfl) ?_ (by kernel_rfl) ?_
                    · exact ⟨.mt ⟨[(4, .sv (.one (.ptr 1 0)))], [.gone, .box [LS intT (tryW l y1_3 (([e.fFrom, ((e_2.fFrom.take ((e_2.fFrom.length : Int) : Int).toNat).drop ((if (wr ((e.fFrom.length : Int) - x39)) < (e_2.fFrom.length : Int) then (wr ((e.fFrom.length : Int) - x39)) else (e_2.fFrom.length : Int)) : Int).toNat)] : (List (List Int))).flatten) e 0 e_2 x39 ((([e.fFrom, ((e_2.fFrom.take ((e_2.fFrom.length : Int) : Int).toNat).drop ((if (wr ((e.fFrom.length : Int) - x39)) < (e_2.fFrom.length : Int) then (wr ((e.fFrom.length : Int) - x39)) else (e_2.fFrom.length : Int)) : Int).toNat)] : (List (List Int))).flatten)))] 22 false]⟩ [] none (by kernel_rfl) (by rfl) (mt_ev ht (by kernel_rfl)) rfl rfl rfl rfl,
    .mt ⟨[(5, .sv (.one (.ptr 2 0)))], [.gone, .gone, .box [LS intT (tryW l y2_3 (([e.fFrom, ((e_2.fFrom.take ((e_2.fFrom.length : Int) : Int).toNat).drop ((if (wr ((e.fFrom.length : Int) - x39)) < (e_2.fFrom.length : Int) then (wr ((e.fFrom.length : Int) - x39)) else (e_2.fFrom.length : Int)) : Int).toNat)] : (List (List Int))).flatten) e 0 e_2 x39 (try1 l (([e.fFrom, ((e_2.fFrom.take ((e_2.fFrom.length : Int) : Int).toNat).drop ((if (wr ((e.fFrom.length : Int) - x39)) < (e_2.fFrom.length : Int) then (wr ((e.fFrom.length : Int) - x39)) else (e_2.fFrom.length : Int)) : Int).toNat)] : (List (List Int))).flatten) e 0))] 22 false]⟩ [] none (by kernel_rfl) (by rfl) (mt_ev ht (by kernel_rfl)) rfl rfl rfl rfl,
    .mt ⟨[(6, .sv (.one (.ptr 3 0)))], [.gone, .gone, .gone, .box [LS intT (tryW l y3_3 (([e.fFrom, ((e_2.fFrom.take ((e_2.fFrom.length : Int) : Int).toNat).drop ((if (wr ((e.fFrom.length : Int) - x39)) < (e_2.fFrom.length : Int) then (wr ((e.fFrom.length : Int) - x39)) else (e_2.fFrom.length : Int)) : Int).toNat)] : (List (List Int))).flatten) e 0 e_2 x39 (try1 l (([e.fFrom, ((e_2.fFrom.take ((e_2.fFrom.length : Int) : Int).toNat).drop ((if (wr ((e.fFrom.length : Int) - x39)) < (e_2.fFrom.length : Int) then (wr ((e.fFrom.length : Int) - x39)) else (e_2.fFrom.length : Int)) : Int).toNat)] : (List (List Int))).flatten) e_2 x39))] 22 false]⟩ [] none (by kernel_rfl) (by rfl) (mt_ev ht (by kernel_rfl)) rfl rfl rfl rfl,
    .mu ⟨[(4, .sv (.one (.ptr 1 0))), (79, .sv (.one (LS intT (tryW l y1_3 (([e.fFrom, ((e_2.fFrom.take ((e_2.fFrom.length : Int) : Int).toNat).drop ((if (wr ((e.fFrom.length : Int) - x39)) < (e_2.fFrom.length : Int) then (wr ((e.fFrom.length : Int) - x39)) else (e_2.fFrom.length : Int)) : Int).toNat)] : (List (List Int))).flatten) e 0 e_2 x39 ((([e.fFrom, ((e_2.fFrom.take ((e_2.fFrom.length : Int) : Int).toNat).drop ((if (wr ((e.fFrom.length : Int) - x39)) < (e_2.fFrom.length : Int) then (wr ((e.fFrom.length : Int) - x39)) else (e_2.fFrom.length : Int)) : Int).toNat)] : (List (List Int))).flatten))))))], [.gone, .box [LS intT (tryW l y1_3 (([e.fFrom, ((e_2.fFrom.take ((e_2.fFrom.length : Int) : Int).toNat).drop ((if (wr ((e.fFrom.length : Int) - x39)) < (e_2.fFrom.length : Int) then (wr ((e.fFrom.length : Int) - x39)) else (e_2.fFrom.length : Int)) : Int).toNat)] : (List (List Int))).flatten) e 0 e_2 x39 ((([e.fFrom, ((e_2.fFrom.take ((e_2.fFrom.length : Int) : Int).toNat).drop ((if (wr ((e.fFrom.length : Int) - x39)) < (e_2.fFrom.length : Int) then (wr ((e.fFrom.length : Int) - x39)) else (e_2.fFrom.length : Int)) : Int).toNat)] : (List (List Int))).flatten)))] 22 false]⟩ 1 _ _ rfl rfl (by kernel_rfl) (by rfl) (mu_store2 ht rfl (by rfl) (by rfl) (by rfl) (by rfl) (fun h => by cases h) (by rfl) (by rfl)) rfl rfl rfl rfl rfl rfl rfl,
    .mu ⟨[(5, .sv (.one (.ptr 2 0))), (80, .sv (.one (LS intT (tryW l y2_3 (([e.fFrom, ((e_2.fFrom.take ((e_2.fFrom.length : Int) : Int).toNat).drop ((if (wr ((e.fFrom.length : Int) - x39)) < (e_2.fFrom.length : Int) then (wr ((e.fFrom.length : Int) - x39)) else (e_2.fFrom.length : Int)) : Int).toNat)] : (List (List Int))).flatten) e 0 e_2 x39 (try1 l (([e.fFrom, ((e_2.fFrom.take ((e_2.fFrom.length : Int) : Int).toNat).drop ((if (wr ((e.fFrom.length : Int) - x39)) < (e_2.fFrom.length : Int) then (wr ((e.fFrom.length : Int) - x39)) else (e_2.fFrom.length : Int)) : Int).toNat)] : (List (List Int))).flatten) e 0)))))], [.gone, .gone, .box [LS intT (tryW l y2_3 (([e.fFrom, ((e_2.fFrom.take ((e_2.fFrom.length : Int) : Int).toNat).drop ((if (wr ((e.fFrom.length : Int) - x39)) < (e_2.fFrom.length : Int) then (wr ((e.fFrom.length : Int) - x39)) else (e_2.fFrom.length : Int)) : Int).toNat)] : (List (List Int))).flatten) e 0 e_2 x39 (try1 l (([e.fFrom, ((e_2.fFrom.take ((e_2.fFrom.length : Int) : Int).toNat).drop ((if (wr ((e.fFrom.length : Int) - x39)) < (e_2.fFrom.length : Int) then (wr ((e.fFrom.length : Int) - x39)) else (e_2.fFrom.length : Int)) : Int).toNat)] : (List (List Int))).flatten) e 0))] 22 false]⟩ 2 _ _ rfl rfl (by kernel_rfl) (by rfl) (mu_store2 ht rfl (by rfl) (by rfl) (by rfl) (by rfl) (fun h => by cases h) (by rfl) (by rfl)) rfl rfl rfl rfl rfl rfl rfl,
    .mu ⟨[(6, .sv (.one (.ptr 3 0))), (81, .sv (.one (LS intT (tryW l y3_3 (([e.fFrom, ((e_2.fFrom.take ((e_2.fFrom.length : Int) : Int).toNat).drop ((if (wr ((e.fFrom.length : Int) - x39)) < (e_2.fFrom.length : Int) then (wr ((e.fFrom.length : Int) - x39)) else (e_2.fFrom.length : Int)) : Int).toNat)] : (List (List Int))).flatten) e 0 e_2 x39 (try1 l (([e.fFrom, ((e_2.fFrom.take ((e_2.fFrom.length : Int) : Int).toNat).drop ((if (wr ((e.fFrom.length : Int) - x39)) < (e_2.fFrom.length : Int) then (wr ((e.fFrom.length : Int) - x39)) else (e_2.fFrom.length : Int)) : Int).toNat)] : (List (List Int))).flatten) e_2 x39)))))], [.gone, .gone, .gone, .box [LS intT (tryW l y3_3 (([e.fFrom, ((e_2.fFrom.take ((e_2.fFrom.length : Int) : Int).toNat).drop ((if (wr ((e.fFrom.length : Int) - x39)) < (e_2.fFrom.length : Int) then (wr ((e.fFrom.length : Int) - x39)) else (e_2.fFrom.length : Int)) : Int).toNat)] : (List (List Int))).flatten) e 0 e_2 x39 (try1 l (([e.fFrom, ((e_2.fFrom.take ((e_2.fFrom.length : Int) : Int).toNat).drop ((if (wr ((e.fFrom.length : Int) - x39)) < (e_2.fFrom.length : Int) then (wr ((e.fFrom.length : Int) - x39)) else (e_2.fFrom.length : Int)) : Int).toNat)] : (List (List Int))).flatten) e_2 x39))] 22 false]⟩ 3 _ _ rfl rfl (by kernel_rfl) (by rfl) (mu_store2 ht rfl (by rfl) (by rfl) (by rfl) (by rfl) (fun h => by cases h) (by rfl) (by rfl)) rfl rfl rfl rfl rfl rfl rfl,
    .mt ⟨[], []⟩ [] none (by kernel_rfl) (by rfl) (mt_ev ht (by kernel_rfl)) rfl rfl rfl rfl,
    .mt ⟨[], []⟩ [] none (by kernel_rfl) (by rfl) (mt_ev ht (by kernel_rfl)) rfl rfl rfl rfl,
    trivial⟩
                    · refine En.ret ?_
                      exact En.back ht ((tryW l y1_3 (([e.fFrom, ((e_2.fFrom.take ((e_2.fFrom.length : Int) : Int).toNat).drop ((if (wr ((e.fFrom.length : Int) - x39)) < (e_2.fFrom.length : Int) then (wr ((e.fFrom.length : Int) - x39)) else (e_2.fFrom.length : Int)) : Int).toNat)] : (List (List Int))).flatten) e 0 e_2 x39 ((([e.fFrom, ((e_2.fFrom.take ((e_2.fFrom.length : Int) : Int).toNat).drop ((if (wr ((e.fFrom.length : Int) - x39)) < (e_2.fFrom.length : Int) then (wr ((e.fFrom.length : Int) - x39)) else (e_2.fFrom.length : Int)) : Int).toNat)] : (List (List Int))).flatten))), (tryW l y2_3 (([e.fFrom, ((e_2.fFrom.take ((e_2.fFrom.length : Int) : Int).toNat).drop ((if (wr ((e.fFrom.length : Int) - x39)) < (e_2.fFrom.length : Int) then (wr ((e.fFrom.length : Int) - x39)) else (e_2.fFrom.length : Int)) : Int).toNat)] : (List (List Int))).flatten) e 0 e_2 x39 (try1 l (([e.fFrom, ((e_2.fFrom.take ((e_2.fFrom.length : Int) : Int).toNat).drop ((if (wr ((e.fFrom.length : Int) - x39)) < (e_2.fFrom.length : Int) then (wr ((e.fFrom.length : Int) - x39)) else (e_2.fFrom.length : Int)) : Int).toNat)] : (List (List Int))).flatten) e 0)), (tryW l y3_3 (([e.fFrom, ((e_2.fFrom.take ((e_2.fFrom.length : Int) : Int).toNat).drop ((if (wr ((e.fFrom.length : Int) - x39)) < (e_2.fFrom.length : Int) then (wr ((e.fFrom.length : Int) - x39)) else (e_2.fFrom.length : Int)) : Int).toNat)] : (List (List Int))).flatten) e 0 e_2 x39 (try1 l (([e.fFrom, ((e_2.fFrom.take ((e_2.fFrom.length : Int) : Int).toNat).drop ((if (wr ((e.fFrom.length : Int) - x39)) < (e_2.fFrom.length : Int) then (wr ((e.fFrom.length : Int) - x39)) else (e_2.fFrom.length : Int)) : Int).toNat)] : (List (List Int))).flatten) e_2 x39)), true, 0) h (by kernel_rfl) rfl
                  · replace h := h.2 hb
                    refine En.skip ?_
                    exact En.at (I := fun zz => J zz.1 zz.2.1 zz.2.2) (T := fun zz => ⟨[(3, .sv (.one (.ptr 0 0))), (4, .sv (.one (.ptr 1 0))), (5, .sv (.one (.ptr 2 0))), (6, .sv (.one (.ptr 3 0))), (10, .sv (.one (.fn 90 [0, 1, 2, 3]))), (12, .sv (.one (.ptr 4 0))), (14, .sv (.one (.ptr 5 0))), (24, .sv (.one (LS ApiSwap.ty l))), (25, .sv (.one (I (l.length : Int)))), (26, .sv (.one (I x26))), (30, .sv (.one (LS ApiSwap.ty l))), (31, .sv (.one (I (l.length : Int)))), (32, .sv (.one (I x32))), (38, .sv (.one (I (e.fFrom.length : Int)))), (39, .sv (.one (I x39)))], [.box [LS ApiSwap.ty l] 98 true, .box [LS intT zz.1] 22 false, .box [LS intT zz.2.1] 22 false, .box [LS intT zz.2.2] 22 false, .box [LS intT e.fFrom, LS intT e.fTo] 101 false, .box [LS intT e_2.fFrom, LS intT e_2.fTo] 101 false]⟩) ((tryW l y1_3 (([e.fFrom, ((e_2.fFrom.take ((e_2.fFrom.length : Int) : Int).toNat).drop ((if (wr ((e.fFrom.length : Int) - x39)) < (e_2.fFrom.length : Int) then (wr ((e.fFrom.length : Int) - x39)) else (e_2.fFrom.length : Int)) : Int).toNat)] : (List (List Int))).flatten) e 0 e_2 x39 ((([e.fFrom, ((e_2.fFrom.take ((e_2.fFrom.length : Int) : Int).toNat).drop ((if (wr ((e.fFrom.length : Int) - x39)) < (e_2.fFrom.length : Int) then (wr ((e.fFrom.length : Int) - x39)) else (e_2.fFrom.length : Int)) : Int).toNat)] : (List (List Int))).flatten))), (tryW l y2_3 (([e.fFrom, ((e_2.fFrom.take ((e_2.fFrom.length : Int) : Int).toNat).drop ((if (wr ((e.fFrom.length : Int) - x39)) < (e_2.fFrom.length : Int) then (wr ((e.fFrom.length : Int) - x39)) else (e_2.fFrom.length : Int)) : Int).toNat)] : (List (List Int))).flatten) e 0 e_2 x39 (try1 l (([e.fFrom, ((e_2.fFrom.take ((e_2.fFrom.length : Int) : Int).toNat).drop ((if (wr ((e.fFrom.length : Int) - x39)) < (e_2.fFrom.length : Int) then (wr ((e.fFrom.length : Int) - x39)) else (e_2.fFrom.length : Int)) : Int).toNat)] : (List (List Int))).flatten) e 0)), (tryW l y3_3 (([e.fFrom, ((e_2.fFrom.take ((e_2.fFrom.length : Int) : Int).toNat).drop ((if (wr ((e.fFrom.length : Int) - x39)) < (e_2.fFrom.length : Int) then (wr ((e.fFrom.length : Int) - x39)) else (e_2.fFrom.length : Int)) : Int).toNat)] : (List (List Int))).flatten) e 0 e_2 x39 (try1 l (([e.fFrom, ((e_2.fFrom.take ((e_2.fFrom.length : Int) : Int).toNat).drop ((if (wr ((e.fFrom.length : Int) - x39)) < (e_2.fFrom.length : Int) then (wr ((e.fFrom.length : Int) - x39)) else (e_2.fFrom.length : Int)) : Int).toNat)] : (List (List Int))).flatten) e_2 x39))) h (by kernel_rfl)
          · rintro ⟨y1_4, y2_4, y3_4⟩ h
            replace h := hJ _ _ _ h
            show En c ⟨[(3, .sv (.one (.ptr 0 0))), (4, .sv (.one (.ptr 1 0))), (5, .sv (.one (.ptr 2 0))), (6, .sv (.one (.ptr 3 0))), (10, .sv (.one (.fn 90 [0, 1, 2, 3]))), (12, .sv (.one (.ptr 4 0))), (14, .sv (.one (.ptr 5 0))), (24, .sv (.one (LS ApiSwap.ty l))), (25, .sv (.one (I (l.length : Int)))), (26, .sv (.one (I x26))), (30, .sv (.one (LS ApiSwap.ty l))), (31, .sv (.one (I (l.length : Int)))), (32, .sv (.one (I x32))), (38, .sv (.one (I (e.fFrom.length : Int)))), (39, .sv (.one (I x39)))], [.box [LS ApiSwap.ty l] 98 true, .box [LS intT y1_4] 22 false, .box [LS intT y2_4] 22 false, .box [LS intT y3_4] 22 false, .box [LS intT e.fFrom, LS intT e.fTo] 101 false, .box [LS intT e_2.fFrom, LS intT e_2.fTo] 101 false]⟩ _
            refine En.region ?_
            refine WL.run ht hn 2 ⟨[(3, .sv (.one (.ptr 0 0))), (4, .sv (.one (.ptr 1 0))), (5, .sv (.one (.ptr 2 0))), (6, .sv (.one (.ptr 3 0))), (10, .sv (.one (.fn 90 [0, 1, 2, 3]))), (12, .sv (.one (.ptr 4 0))), (14, .sv (.one (.ptr 5 0))), (24, .sv (.one (LS ApiSwap.ty l))), (25, .sv (.one (I (l.length : Int)))), (26, .sv (.one (I x26))), (30, .sv (.one (LS ApiSwap.ty l))), (31, .sv (.one (I (l.length : Int)))), (32, .sv (.one (I x32))), (38, .sv (.one (I (e.fFrom.length : Int)))), (39, .sv (.one (I (wr (x39 + 1)))))], [.box [LS ApiSwap.ty l] 98 true, .box [LS intT y1_4] 22 false, .box [LS intT y2_4] 22 false, .box [LS intT y3_4] 22 false, .box [LS intT e.fFrom, LS intT e.fTo] 101 false, .box [LS intT e_2.fFrom, LS intT e_2.fTo] 101 false]⟩ (by kernel_rfl) ?_
            refine WL.nil ?_
            exact En.at (I := fun zz => Inv_3 zz.1 zz.2.1 zz.2.2.1 zz.2.2.2 ∧ mu_3 zz.1 zz.2.1 zz.2.2.1 zz.2.2.2 < mu_3 x39 y1_3 y2_3 y3_3) (T := fun zz => ⟨[(3, .sv (.one (.ptr 0 0))), (4, .sv (.one (.ptr 1 0))), (5, .sv (.one (.ptr 2 0))), (6, .sv (.one (.ptr 3 0))), (10, .sv (.one (.fn 90 [0, 1, 2, 3]))), (12, .sv (.one (.ptr 4 0))), (14, .sv (.one (.ptr 5 0))), (24, .sv (.one (LS ApiSwap.ty l))), (25, .sv (.one (I (l.length : Int)))), (26, .sv (.one (I x26))), (30, .sv (.one (LS ApiSwap.ty l))), (31, .sv (.one (I (l.length : Int)))), (32, .sv (.one (I x32))), (38, .sv (.one (I (e.fFrom.length : Int)))), (39, .sv (.one (I zz.1)))], [.box [LS ApiSwap.ty l] 98 true, .box [LS intT zz.2.1] 22 false, .box [LS intT zz.2.2.1] 22 false, .box [LS intT zz.2.2.2] 22 false, .box [LS intT e.fFrom, LS intT e.fTo] 101 false, .box [LS intT e_2.fFrom, LS intT e_2.fTo] 101 false]⟩) ((wr (x39 + 1)), y1_4, y2_4, y3_4) h (by kernel_rfl)
        · replace h := h.2 hb
          refine En.exit rfl ?_
          refine En.region ?_
          refine WL.run ht hn 2 ⟨[(3, .sv (.one (.ptr 0 0))), (4, .sv (.one (.ptr 1 0))), (5, .sv (.one (.ptr 2 0))), (6, .sv (.one (.ptr 3 0))), (10, .sv (.one (.fn 90 [0, 1, 2, 3]))), (12, .sv (.one (.ptr 4 0))), (24, .sv (.one (LS ApiSwap.ty l))), (25, .sv (.one (I (l.length : Int)))), (26, .sv (.one (I x26))), (30, .sv (.one (LS ApiSwap.ty l))), (31, .sv (.one (I (l.length : Int)))), (32, .sv (.one (I (wr (x32 + 1)))))], [.box [LS ApiSwap.ty l] 98 true, .box [LS intT y1_3] 22 false, .box [LS intT y2_3] 22 false, .box [LS intT y3_3] 22 false, .box [LS intT e.fFrom, LS intT e.fTo] 101 false, .gone]⟩ (by kernel_rfl) ?_
          refine WL.nil ?_
          exact En.at (I := fun zz => Inv_2 zz.1 zz.2.1 zz.2.2.1 zz.2.2.2 ∧ mu_2 zz.1 zz.2.1 zz.2.2.1 zz.2.2.2 < mu_2 x32 y1_2 y2_2 y3_2) (T := fun zz => ⟨[(3, .sv (.one (.ptr 0 0))), (4, .sv (.one (.ptr 1 0))), (5, .sv (.one (.ptr 2 0))), (6, .sv (.one (.ptr 3 0))), (10, .sv (.one (.fn 90 [0, 1, 2, 3]))), (12, .sv (.one (.ptr 4 0))), (24, .sv (.one (LS ApiSwap.ty l))), (25, .sv (.one (I (l.length : Int)))), (26, .sv (.one (I x26))), (30, .sv (.one (LS ApiSwap.ty l))), (31, .sv (.one (I (l.length : Int)))), (32, .sv (.one (I zz.1)))], [.box [LS ApiSwap.ty l] 98 true, .box [LS intT zz.2.1] 22 false, .box [LS intT zz.2.2.1] 22 false, .box [LS intT zz.2.2.2] 22 false, .box [LS intT e.fFrom, LS intT e.fTo] 101 false]⟩) ((wr (x32 + 1)), y1_3, y2_3, y3_3) h (by kernel_rfl)
      · replace h := h.2 hb
        refine En.exit rfl ?_
        refine En.region ?_
        refine WL.run ht hn 2 ⟨[(3, .sv (.one (.ptr 0 0))), (4, .sv (.one (.ptr 1 0))), (5, .sv (.one (.ptr 2 0))), (6, .sv (.one (.ptr 3 0))), (10, .sv (.one (.fn 90 [0, 1, 2, 3]))), (24, .sv (.one (LS ApiSwap.ty l))), (25, .sv (.one (I (l.length : Int)))), (26, .sv (.one (I (wr (x26 + 1)))))], [.box [LS ApiSwap.ty l] 98 true, .box [LS intT y1_2] 22 false, .box [LS intT y2_2] 22 false, .box [LS intT y3_2] 22 false, .gone]⟩ (by kernel_rfl) ?_
        refine WL.nil ?_
        exact En.at (I := fun zz => Inv zz.1 zz.2.1 zz.2.2.1 zz.2.2.2 ∧ mu zz.1 zz.2.1 zz.2.2.1 zz.2.2.2 < mu x26 y1 y2 y3) (T := fun zz => ⟨[(3, .sv (.one (.ptr 0 0))), (4, .sv (.one (.ptr 1 0))), (5, .sv (.one (.ptr 2 0))), (6, .sv (.one (.ptr 3 0))), (10, .sv (.one (.fn 90 [0, 1, 2, 3]))), (24, .sv (.one (LS ApiSwap.ty l))), (25, .sv (.one (I (l.length : Int)))), (26, .sv (.one (I zz.1)))], [.box [LS ApiSwap.ty l] 98 true, .box [LS intT zz.2.1] 22 false, .box [LS intT zz.2.2.1] 22 false, .box [LS intT zz.2.2.2] 22 false]⟩) ((wr (x26 + 1)), y1_2, y2_2, y3_2) h (by kernel_rfl)
    · replace h := h.2 hb
      refine En.exit rfl ?_
      refine En.seq ?_
      refine En.region ?_
      refine WL.run ht hn 5 ⟨[(4, .sv (.one (.ptr 1 0))), (5, .sv (.one (.ptr 2 0))), (6, .sv (.one (.ptr 3 0))), (7, .sv (.one (B false))), (8, .sv (.one (I 0)))], [.gone, .box [.v (.slice none 0 0)] 22 false, .box [.v (.slice none 0 0)] 22 false, .box [.v (.slice none 0 0)] 22 false]⟩ (by kernel_rfl) ?_
      refine WL.nil ?_
      refine En.ret ?_
      refine En.nilBox (T := intT) 1 0 (by rfl) (by rfl) ?_
      refine En.nilBox (T := intT) 2 0 (by rfl) (by rfl) ?_
      refine En.nilBox (T := intT) 3 0 (by rfl) (by rfl) ?_
      exact En.back ht ([], [], [], false, 0) h (by kernel_rfl) rfl
theorem en38 : ∀ args w, (callFunc 38 args).run Try.prog w = .ok (.enter 38 args) w := enters_of Try.func38 (by kernel_rfl) rfl
theorem rewFork_ok (n : Int) (l : List ApiSwap) : rewFork_vc n l (ForkQ n l) := by
  intro _
  refine ⟨fun h => ⟨rfl, fun h0 => absurd h0 (by simpa using h)⟩, fun h => ?_⟩
  have h0 : rewErr n l = 0 := by simpa using h
  have hk := rewErr_ok h0
  refine ⟨fun i _ _ _ => ∃ m : Nat, i = m ∧ m ≤ l.length ∧ ∀ a ∈ l.take m, ∀ b ∈ l, ∀ k, k < a.fFrom.length → FK l a b k, fun i _ _ _ => l.length - i.toNat, ⟨0, rfl, Nat.zero_le _, fun a ha => by cases ha⟩, ?_⟩
  rintro i y1 y2 y3 ⟨m, rfl, hm, hA⟩
  refine ⟨fun hb => ?_, fun hb => ?_⟩
  rotate_left
  · rw [List.take_of_length_le (dge hb)] at hA
    exact ⟨h0.symm, fun _ _ => noFork_of hk hA⟩
  have hlt := dlt hb
  have hma := List.getElem_mem hlt
  have fa := hk.from5 _ hma
  refine ⟨_, idx_at hlt, fun i _ _ _ => ∃ m2 : Nat, i = m2 ∧ m2 ≤ l.length ∧ ∀ b ∈ l.take m2, ∀ k, k < l[m].fFrom.length → FK l l[m] b k, fun i _ _ _ => l.length - i.toNat, ⟨0, rfl, Nat.zero_le _, fun a ha => by cases ha⟩, ?_⟩
  rintro i2 y1 y2 y3 ⟨m2, rfl, hm2, hB⟩
  refine ⟨fun hb => ?_, fun hb => ?_⟩
  rotate_left
  · rw [List.take_of_length_le (dge hb)] at hB
    exact ⟨⟨m + 1, wsucc (by omega), hlt, take_mem hlt hA hB⟩, mu_up hlt (by omega)⟩
  have hlt2 := dlt hb
  have hmb := List.getElem_mem hlt2
  have fb := hk.from5 _ hmb
  refine ⟨_, idx_at hlt2, fun i _ _ _ => ∃ k : Nat, i = k ∧ k ≤ l[m].fFrom.length ∧ ∀ j, j < k → FK l l[m] l[m2] j, fun i _ _ _ => l[m].fFrom.length - i.toNat, ⟨0, rfl, Nat.zero_le _, fun j hj => absurd hj (Nat.not_lt_zero _)⟩, ?_⟩
  rintro i3 y1 y2 y3 ⟨k, rfl, hkl, hC⟩
  refine ⟨fun hb => ?_, fun hb => ?_⟩
  rotate_left
  · have hge := dge hb
    exact ⟨⟨m2 + 1, wsucc (by omega), hlt2, take_mem hlt2 hB (fun j hj => hC j (by omega))⟩, mu_up hlt2 (by omega)⟩
  have hlt3 := dlt hb
  have hN : overN l[m].fFrom l[m2].fFrom k ≤ l[m2].fFrom.length ∧ k + overN l[m].fFrom l[m2].fFrom k ≤ l[m].fFrom.length := by unfold overN; omega
  rw [over_num hlt3 (by omega) (by omega), over_e1 (by omega), over_e2, over_e3]
  have hNw : wr ((k : Int) + ((overN l[m].fFrom l[m2].fFrom k : Nat) : Int)) = ((k + overN l[m].fFrom l[m2].fFrom k : Nat) : Int) := wr_in (by omega) (by omega)
  refine ⟨fun _ _ _ => FK l l[m] l[m2] k, ⟨⟨by omega, by rw [hNw]; omega, by rw [hNw]; omega⟩, ⟨by omega, by omega, by omega⟩, fun h1 => ?_, fun h1 => ?_⟩, fun _ _ _ hJ => ⟨⟨k + 1, wsucc (by omega), hlt3, fun j hj => ?_⟩, mu_up hlt3 (by omega)⟩⟩
  · intro ho
    unfold OverB at ho
    rw [ho] at h1
    simp at h1
  · have ho : OverB l[m].fFrom l[m2].fFrom k := by unfold OverB; simpa using h1
    obtain ⟨tp, _, _⟩ := try_pre hk hma hmb hlt3 ho
    refine ⟨⟨by omega, by omega, by omega⟩, ⟨by simp, ?_⟩, tp, fun h2 => ⟨h0.symm, fun _ h3 => by cases h3⟩, fun h2 => fun _ => h2⟩
    simp only [List.length_append, List.length_drop]
    omega
  · by_cases e : j = k
    · rw [e]; exact hJ
    · exact hC j (by omega)
theorem rewFork_ct (n : Int) (l : List ApiSwap) : Ct 38 [.sv (.one (I n)), .sv (.one (LS ApiSwap.ty l))] [] (ForkQ n l) (fun (r : ((List Int) × (List Int) × (List Int) × Bool × Int)) => .tup [.one (LS intT r.1), .one (LS intT r.2.1), .one (LS intT r.2.2.1), .one (B r.2.2.2.1), .one (I r.2.2.2.2)]) := rewFork_walk n l (ForkQ n l) (rewFork_ok n l)
def alikeW_vc (a : (List Int)) (b : (List Int)) (Q : Bool → Prop) : Prop :=
  a.length ≤ 9223372036854775807 →
  b.length ≤ 9223372036854775807 →
  (IfP ((a.length : Int) != (b.length : Int)) (Q false) (∃ (Inv : Int → Prop) (mu : Int → Nat), Inv 0 ∧
  ∀ (x5 : Int) , Inv x5 → (IfP (decide (x5 < (a.length : Int))) (∃ e, idx a x5 = some e ∧
  ∃ e_2, idx b x5 = some e_2 ∧
  IfP (e != e_2) (Q false) ((Inv (wr (x5 + 1)) ∧ mu (wr (x5 + 1)) < mu x5))) (Q true))))
theorem alikeW_walk (a : (List Int)) (b : (List Int)) (Q : Bool → Prop) (h : alikeW_vc a b Q) : Ct 24 [.sv (.one (LS intT a)), .sv (.one (LS intT b))] [] Q (fun (r : Bool) => .sv (.one (B r))) := by
  have ht := tab_ok
  refine Ct.body Try.func24 rfl rfl rfl rfl (fun c hn => ?_)
  unfold alikeW_vc at h
  refine En.lenL 0 (by rfl) (fun hl => ?_)
  replace h := h hl
  clear hl
  refine En.lenL 1 (by rfl) (fun hl => ?_)
  replace h := h hl
  clear hl
  refine En.seq ?_
  refine En.region ?_
  refine WL.run ht hn 1 ⟨[(0, .sv (.one (LS intT a))), (1, .sv (.one (LS intT b)))], []⟩ (by kernel_rfl) ?_
  refine WL.nil ?_
  refine En.seq ?_
  refine En.seq ?_
  refine En.region ?_
  refine WL.run ht hn 5 ⟨[(0, .sv (.one (LS intT a))), (1, .sv (.one (LS intT b))), (10, .sv (.one (B ((a.length : Int) != (b.length : Int)))))], []⟩ (by kernel_rfl) ?_
  refine WL.nil ?_
  refine En.cond (b := ((a.length : Int) != (b.length : Int))) (by kernel_rfl) (fun hb => ?_) (fun hb => ?_)
  · replace h := h.1 hb
    refine En.seq ?_
    refine En.region ?_
    refine WL.run ht hn 1 ⟨[(4, .sv (.one (B false)))], []⟩ (by kernel_rfl) ?_
    refine WL.nil ?_
    refine En.ret ?_
    exact En.back ht false h (by kernel_rfl) rfl
  · replace h := h.2 hb
    refine En.skip ?_
    refine En.seq ?_
    refine En.seq ?_
    refine En.region ?_
    refine WL.run ht hn 1 ⟨[(0, .sv (.one (LS intT a))), (1, .sv (.one (LS intT b))), (5, .sv (.one (I 0)))], []⟩ (by kernel_rfl) ?_
    refine WL.nil ?_
    refine En.block ?_
    obtain ⟨Inv, mu, h0, hI⟩ := h
    refine En.loop (σ := Int) (fun zz => Inv zz) (fun zz => mu zz) (fun zz => ⟨[(0, .sv (.one (LS intT a))), (1, .sv (.one (LS intT b))), (5, .sv (.one (I zz)))], []⟩) 0 h0 (sub_ok (by kernel_rfl)) ?_
    intro x5 h
    replace h := hI _ h
    show En c ⟨[(0, .sv (.one (LS intT a))), (1, .sv (.one (LS intT b))), (5, .sv (.one (I x5)))], []⟩ _
    refine En.seq ?_
    refine En.seq ?_
    refine En.region ?_
    refine WL.run ht hn 4 ⟨[(0, .sv (.one (LS intT a))), (1, .sv (.one (LS intT b))), (5, .sv (.one (I x5))), (14, .sv (.one (B (decide (x5 < (a.length : Int))))))], []⟩ (by kernel_rfl) ?_
    refine WL.nil ?_
    refine En.cond (b := (decide (x5 < (a.length : Int)))) (by kernel_rfl) (fun hb => ?_) (fun hb => ?_)
    · replace h := h.1 hb
      refine En.skip ?_
      refine En.seq ?_
      refine En.block ?_
      refine En.seq ?_
      refine En.regionS (by kernel_rfl) (by kernel_rfl) ?_
      refine SL.run ht hn 2 ⟨[(0, .sv (.one (LS intT a))), (1, .sv (.one (LS intT b))), (5, .sv (.one (I x5))), (17, .sv (.one (LS intT a))), (18, .sv (.one (I x5)))], []⟩ (by kernel_rfl) ?_
      obtain ⟨e, he, h⟩ := h
      refine SL.val hn (by rfl) (val_index (T := intT) (l := a) (i := x5) ht rfl (by rfl) (by rfl) (by rfl) (by rfl) (by rfl) (by rfl) he) (by rfl) ?_
      refine SL.val hn (by rfl) (val_load (s := .one (I e)) ht rfl (by rfl) (by rfl) (by rfl) (by rfl) (by rfl)) (by rfl) ?_
      refine SL.run ht hn 2 ⟨[(0, .sv (.one (LS intT a))), (1, .sv (.one (LS intT b))), (5, .sv (.one (I x5))), (17, .sv (.one (LS intT a))), (18, .sv (.one (I x5))), (19, .sv (.one (.pe (svR (.one (I e))) 1))), (20, .sv (.one (I e))), (21, .sv (.one (LS intT b))), (22, .sv (.one (I x5)))], []⟩ (by kernel_rfl) ?_
      obtain ⟨e_2, he_2, h⟩ := h
      refine SL.val hn (by rfl) (val_index (T := intT) (l := b) (i := x5) ht rfl (by rfl) (by rfl) (by rfl) (by rfl) (by rfl) (by rfl) he_2) (by rfl) ?_
      refine SL.val hn (by rfl) (val_load (s := .one (I e_2)) ht rfl (by rfl) (by rfl) (by rfl) (by rfl) (by rfl)) (by rfl) ?_
      refine SL.run ht hn 1 ⟨[(0, .sv (.one (LS intT a))), (1, .sv (.one (LS intT b))), (5, .sv (.one (I x5))), (17, .sv (.one (LS intT a))), (18, .sv (.one (I x5))), (19, .sv (.one (.pe (svR (.one (I e))) 1))), (20, .sv (.one (I e))), (21, .sv (.one (LS intT b))), (22, .sv (.one (I x5))), (23, .sv (.one (.pe (svR (.one (I e_2))) 1))), (24, .sv (.one (I e_2))), (25, .sv (.one (B (e != e_2))))], []⟩ (by kernel_rfl) ?_
      refine SL.nil ⟨by kernel_rfl, ?_⟩
      refine En.cond (b := (e != e_2)) (by kernel_rfl) (fun hb => ?_) (fun hb => ?_)
      · replace h := h.1 hb
        refine En.seq ?_
        refine En.region ?_
        refine WL.run ht hn 1 ⟨[(4, .sv (.one (B false)))], []⟩ (by kernel_rfl) ?_
        refine WL.nil ?_
        refine En.ret ?_
        exact En.back ht false h (by kernel_rfl) rfl
      · replace h := h.2 hb
        refine En.skip ?_
        refine En.region ?_
        refine WL.run ht hn 3 ⟨[(0, .sv (.one (LS intT a))), (1, .sv (.one (LS intT b))), (5, .sv (.one (I (wr (x5 + 1)))))], []⟩ (by kernel_rfl) ?_
        refine WL.nil ?_
        exact En.at (I := fun zz => Inv zz ∧ mu zz < mu x5) (T := fun zz => ⟨[(0, .sv (.one (LS intT a))), (1, .sv (.one (LS intT b))), (5, .sv (.one (I zz)))], []⟩) (wr (x5 + 1)) h (by kernel_rfl)
    · replace h := h.2 hb
      refine En.exit rfl ?_
      refine En.seq ?_
      refine En.region ?_
      refine WL.run ht hn 1 ⟨[(4, .sv (.one (B true)))], []⟩ (by kernel_rfl) ?_
      refine WL.nil ?_
      refine En.ret ?_
      exact En.back ht true h (by kernel_rfl) rfl
theorem en24 : ∀ args w, (callFunc 24 args).run Try.prog w = .ok (.enter 24 args) w := enters_of Try.func24 (by kernel_rfl) rfl
theorem alikeW_ct (a : (List Int)) (b : (List Int))  : Ct 24 [.sv (.one (LS intT a)), .sv (.one (LS intT b))] [] (fun (_ : Unit) => True) (fun _ => .sv (.one (B (decide (a = b))))) := by
  refine (alikeW_walk a b (fun res_ => res_ = (decide (a = b))) ?_).fun
  intro ha hb
  refine ⟨fun h => ?_, fun h => ?_⟩
  · show false = decide (a = b)
    rw [eq_comm, decide_eq_false_iff_not]
    rintro rfl
    simp at h
  have hl : a.length = b.length := by have := h; simp only [bne_eq_false_iff_eq] at this; omega
  refine ⟨fun i => ∃ k : Nat, i = k ∧ k ≤ a.length ∧ a.take k = b.take k, fun i => a.length - i.toNat, ⟨0, rfl, Nat.zero_le _, by simp⟩, ?_⟩
  rintro i ⟨k, rfl, hk, ht⟩
  refine ⟨fun hb1 => ?_, fun hb1 => ?_⟩
  · have hlt := dlt hb1
    have hlt2 : k < b.length := by omega
    refine ⟨_, idx_at hlt, _, idx_at hlt2, fun hne => ?_, fun he => ⟨⟨k + 1, wsucc (by omega), hlt, ?_⟩, mu_up hlt (by omega)⟩⟩
    · show false = decide (a = b)
      rw [eq_comm, decide_eq_false_iff_not]
      rintro rfl
      simp at hne
    · have he : a[k] = b[k] := by simpa using he
      rw [List.take_add_one, List.take_add_one, ht, List.getElem?_eq_getElem hlt, List.getElem?_eq_getElem hlt2, he]
  · have hge := dge hb1
    rw [List.take_of_length_le hge, List.take_of_length_le (by omega)] at ht
    show true = decide (a = b)
    rw [ht]
    simp
def rewOnce_vc (n : Int) (l : (List ApiSwap)) (u : (List Int)) (v : (List Int)) (Q : Bool → Prop) : Prop :=
  l.length ≤ 9223372036854775807 →
  u.length ≤ 9223372036854775807 →
  v.length ≤ 9223372036854775807 →
  (IfP (((normE 2 ([(ApiSwap.mk ([0, 0] : (List Int)) [])] : (List ApiSwap)) ([1, 0, 0, 1] : (List Int))).2 != 0) || (((normE 2 ([(ApiSwap.mk ([0, 0] : (List Int)) [])] : (List ApiSwap)) ([1, 0, 0, 1] : (List Int))).1.length : Int) != 2)) (Q false) (capOk 0 (u : (List Int)).length 8 ∧
  capOk (u : (List Int)).length (v : (List Int)).length 8 ∧
  IfP ((normE n l ((u : (List Int)) ++ v)).2 != 0) (Q true) (IfP (((normE n l (normE n l ((u : (List Int)) ++ v)).1).2 != 0) || (!(decide ((normE n l ((u : (List Int)) ++ v)).1 = (normE n l (normE n l ((u : (List Int)) ++ v)).1).1)))) (Q false) (∀ r : ((List Int) × (List Int) × (List Int) × Bool × Int), (ForkQ n l) r →
  (IfP (r.2.2.2.2 != 0) (Q false) (IfP r.2.2.2.1 (Q true) (IfP (((normE n l u).2 != 0) || ((normE n l v).2 != 0)) (Q false) (capOk ([] : (List Int)).length ((normE n l u).1 : (List Int)).length 8 ∧
  capOk (([] : (List Int)) ++ (normE n l u).1).length ((normE n l v).1 : (List Int)).length 8 ∧
  Q (((normE n l ((([] : (List Int)) ++ (normE n l u).1) ++ (normE n l v).1)).2 == 0) && (decide ((normE n l ((u : (List Int)) ++ v)).1 = (normE n l ((([] : (List Int)) ++ (normE n l u).1) ++ (normE n l v).1)).1)))))))))))
set_option maxHeartbeats 2000000 in
theorem rewOnce_walk (n : Int) (l : (List ApiSwap)) (u : (List Int)) (v : (List Int)) (Q : Bool → Prop) (h : rewOnce_vc n l u v Q) : Ct 12 [.sv (.one (I n)), .sv (.one (LS ApiSwap.ty l)), .sv (.one (LS intT u)), .sv (.one (LS intT v))] [] Q (fun (r : Bool) => .sv (.one (B r))) := by
  have ht := tab_ok
  refine Ct.body Try.func12 rfl rfl rfl rfl (fun c hn => ?_)
  unfold rewOnce_vc at h
  refine En.lenL 1 (by rfl) (fun hl => ?_)
  replace h := h hl
  clear hl
  refine En.lenL 2 (by rfl) (fun hl => ?_)
  replace h := h hl
  clear hl
  refine En.lenL 3 (by rfl) (fun hl => ?_)
  replace h := h hl
  clear hl
  refine En.seq ?_
  refine En.region ?_
  refine WL.run ht hn 1 ⟨[(0, .sv (.one (I n))), (1, .sv (.one (LS ApiSwap.ty l))), (2, .sv (.one (LS intT u))), (3, .sv (.one (LS intT v)))], []⟩ (by kernel_rfl) ?_
  refine WL.nil ?_
  refine En.seq ?_
  refine En.region ?_
  refine WL.mt0 (K := []) (p := some (0, rowI 3 intT ([0, 0] : (List Int)))) hn (by rfl) (mt_lit (T := intT) ([0, 0] : (List Int)) (mt_bsl 0 (r := cellsOf intT ([0, 0] : (List Int))) ht rfl (by rfl) (by rfl) (by rfl) (by kernel_rfl) (by rfl)) (fun _ h => by cases h) (fun _ => rfl) (fun _ => rfl) (by rfl) (Nat.le_of_ble_eq_true rfl)) (by rfl) (by rfl) (by rfl) ?_
  refine WL.run ht hn 1 ⟨[(0, .sv (.one (I n))), (1, .sv (.one (LS ApiSwap.ty l))), (2, .sv (.one (LS intT u))), (3, .sv (.one (LS intT v))), (23, .sv (.agg [.own 0, .v (.slice none 0 0)]))], [rowI 3 intT ([0, 0] : (List Int))]⟩ (by kernel_rfl) ?_
  refine WL.seal (T := intT) (l := ([0, 0] : (List Int))) (e := 3) 0 rfl ?_
  refine WL.run ht hn 0 ⟨[(0, .sv (.one (I n))), (1, .sv (.one (LS ApiSwap.ty l))), (2, .sv (.one (LS intT u))), (3, .sv (.one (LS intT v))), (23, .sv (.agg [LS intT ([0, 0] : (List Int)), .v (.slice none 0 0)]))], [.gone]⟩ (by kernel_rfl) ?_
  refine WL.run ht hn 1 ⟨[(0, .sv (.one (I n))), (1, .sv (.one (LS ApiSwap.ty l))), (2, .sv (.one (LS intT u))), (3, .sv (.one (LS intT v))), (24, .sv (.one (.bsl 1 1)))], [.gone, .box [LS intT ([0, 0] : (List Int)), .v (.slice none 0 0)] 101 false]⟩ (by kernel_rfl) ?_
  refine WL.mt0 (K := []) (p := some (2, rowI 3 intT ([1, 0, 0, 1] : (List Int)))) hn (by rfl) (mt_lit (T := intT) ([1, 0, 0, 1] : (List Int)) (mt_bsl 2 (r := cellsOf intT ([1, 0, 0, 1] : (List Int))) ht rfl (by rfl) (by rfl) (by rfl) (by kernel_rfl) (by rfl)) (fun _ h => by cases h) (fun _ => rfl) (fun _ => rfl) (by rfl) (Nat.le_of_ble_eq_true rfl)) (by rfl) (by rfl) (by rfl) ?_
  refine WL.nilBox (T := intT) 1 1 (by rfl) (by rfl) ?_
  refine WL.rowLit 24 1 101 ApiSwap.ty ([(ApiSwap.mk ([0, 0] : (List Int)) [])] : (List ApiSwap)) ⟨[(0, .sv (.one (I n))), (1, .sv (.one (LS ApiSwap.ty l))), (2, .sv (.one (LS intT u))), (3, .sv (.one (LS intT v))), (25, .sv (.one (.own 2)))], [.gone, .box [LS intT ([0, 0] : (List Int)), LS intT []] 101 false, rowI 3 intT ([1, 0, 0, 1] : (List Int))]⟩ (by rfl) (by rfl) (fun _ h => by cases h) (fun _ => rfl) (fun _ => rfl) (by rfl) (by rfl) (by decide) (by kernel_rfl) (by rfl) (by rfl) ?_
  refine WL.seal (T := ApiSwap.ty) (l := ([(ApiSwap.mk ([0, 0] : (List Int)) [])] : (List ApiSwap))) (e := 101) 1 rfl ?_
  refine WL.run ht hn 0 ⟨[(0, .sv (.one (I n))), (1, .sv (.one (LS ApiSwap.ty l))), (2, .sv (.one (LS intT u))), (3, .sv (.one (LS intT v))), (24, .sv (.one (LS ApiSwap.ty ([(ApiSwap.mk ([0, 0] : (List Int)) [])] : (List ApiSwap))))), (25, .sv (.one (.own 2)))], [.gone, .gone, rowI 3 intT ([1, 0, 0, 1] : (List Int))]⟩ (by kernel_rfl) ?_
  refine WL.seal (T := intT) (l := ([1, 0, 0, 1] : (List Int))) (e := 3) 2 rfl ?_
  refine WL.run ht hn 0 ⟨[(0, .sv (.one (I n))), (1, .sv (.one (LS ApiSwap.ty l))), (2, .sv (.one (LS intT u))), (3, .sv (.one (LS intT v))), (24, .sv (.one (LS ApiSwap.ty ([(ApiSwap.mk ([0, 0] : (List Int)) [])] : (List ApiSwap))))), (25, .sv (.one (LS intT ([1, 0, 0, 1] : (List Int)))))], [.gone, .gone, .gone]⟩ (by kernel_rfl) ?_
  refine WL.mt0 (K := []) (p := none) hn (by rfl) (mt_call (rewNormalE_ct 2 ([(ApiSwap.mk ([0, 0] : (List Int)) [])] : (List ApiSwap)) ([1, 0, 0, 1] : (List Int))) en37 (caps := []) [] rfl (by rfl) (by kernel_rfl) (by kernel_rfl) (by rfl) (by rfl) (by rfl)) (by rfl) (by rfl) (by rfl) ?_
  refine WL.run ht hn 5 ⟨[(0, .sv (.one (I n))), (1, .sv (.one (LS ApiSwap.ty l))), (2, .sv (.one (LS intT u))), (3, .sv (.one (LS intT v))), (9, .sv (.one (LS intT (normE 2 ([(ApiSwap.mk ([0, 0] : (List Int)) [])] : (List ApiSwap)) ([1, 0, 0, 1] : (List Int))).1))), (10, .sv (.one (I (normE 2 ([(ApiSwap.mk ([0, 0] : (List Int)) [])] : (List ApiSwap)) ([1, 0, 0, 1] : (List Int))).2)))], [.gone, .gone, .gone]⟩ (by kernel_rfl) ?_
  refine WL.nil ?_
  refine En.seq ?_
  refine En.seq ?_
  refine En.region ?_
  refine WL.run ht hn 3 ⟨[(0, .sv (.one (I n))), (1, .sv (.one (LS ApiSwap.ty l))), (2, .sv (.one (LS intT u))), (3, .sv (.one (LS intT v))), (9, .sv (.one (LS intT (normE 2 ([(ApiSwap.mk ([0, 0] : (List Int)) [])] : (List ApiSwap)) ([1, 0, 0, 1] : (List Int))).1))), (31, .sv (.one (B ((normE 2 ([(ApiSwap.mk ([0, 0] : (List Int)) [])] : (List ApiSwap)) ([1, 0, 0, 1] : (List Int))).2 != 0))))], [.gone, .gone, .gone]⟩ (by kernel_rfl) ?_
  refine WL.thru ⟨[(0, .sv (.one (I n))), (1, .sv (.one (LS ApiSwap.ty l))), (2, .sv (.one (LS intT u))), (3, .sv (.one (LS intT v))), (35, .sv (.one (B (((normE 2 ([(ApiSwap.mk ([0, 0] : (List Int)) [])] : (List ApiSwap)) ([1, 0, 0, 1] : (List Int))).2 != 0) || (((normE 2 ([(ApiSwap.mk ([0, 0] : (List Int)) [])] : (List ApiSwap)) ([1, 0, 0, 1] : (List Int))).1.length : Int) != 2)))))], [.gone, .gone, .gone]⟩ ?_ ?_
  · refine splitB ((normE 2 ([(ApiSwap.mk ([0, 0] : (List Int)) [])] : (List ApiSwap)) ([1, 0, 0, 1] : (List Int))).2 != 0) (fun hb0 => ?_) (fun hb0 => ?_)
    · refine WL.setB 31 hb0 (by kernel_rfl) ?_
      refine WL.run ht hn 4 ⟨[(0, .sv (.one (I n))), (1, .sv (.one (LS ApiSwap.ty l))), (2, .sv (.one (LS intT u))), (3, .sv (.one (LS intT v))), (35, .sv (.one (B true)))], [.gone, .gone, .gone]⟩ (by kernel_rfl) ?_
      exact WL.nil (sub_ok (by simp only [hb0]; kernel_rfl))
    · refine WL.setB 31 hb0 (by kernel_rfl) ?_
      refine WL.run ht hn 4 ⟨[(0, .sv (.one (I n))), (1, .sv (.one (LS ApiSwap.ty l))), (2, .sv (.one (LS intT u))), (3, .sv (.one (LS intT v))), (35, .sv (.one (B (((normE 2 ([(ApiSwap.mk ([0, 0] : (List Int)) [])] : (List ApiSwap)) ([1, 0, 0, 1] : (List Int))).1.length : Int) != 2))))], [.gone, .gone, .gone]⟩ (by kernel_rfl) ?_
      exact WL.nil (sub_ok (by simp only [hb0]; kernel_rfl))
  · refine En.cond (b := (((normE 2 ([(ApiSwap.mk ([0, 0] : (List Int)) [])] : (List ApiSwap)) ([1, 0, 0, 1] : (List Int))).2 != 0) || (((normE 2 ([(ApiSwap.mk ([0, 0] : (List Int)) [])] : (List ApiSwap)) ([1, 0, 0, 1] : (List Int))).1.length : Int) != 2))) (by kernel_rfl) (fun hb => ?_) (fun hb => ?_)
    · replace h := h.1 hb
      refine En.seq ?_
      refine En.region ?_
      refine WL.run ht hn 1 ⟨[(8, .sv (.one (B false)))], [.gone, .gone, .gone]⟩ (by kernel_rfl) ?_
      refine WL.nil ?_
      refine En.ret ?_
      exact En.back ht false h (by kernel_rfl) rfl
    · replace h := h.2 hb
      refine En.skip ?_
      refine En.seq ?_
      refine En.region ?_
      refine WL.run ht hn 1 ⟨[(0, .sv (.one (I n))), (1, .sv (.one (LS ApiSwap.ty l))), (2, .sv (.one (LS intT u))), (3, .sv (.one (LS intT v))), (11, .sv (.one (.v (.slice none 0 0))))], [.gone, .gone, .gone]⟩ (by kernel_rfl) ?_
      refine WL.nil ?_
      refine En.seq ?_
      refine En.region ?_
      refine WL.run ht hn 2 ⟨[(0, .sv (.one (I n))), (1, .sv (.one (LS ApiSwap.ty l))), (2, .sv (.one (LS intT u))), (3, .sv (.one (LS intT v))), (36, .sv (.one (.v (.slice none 0 0)))), (37, .sv (.one (LS intT u)))], [.gone, .gone, .gone]⟩ (by kernel_rfl) ?_
      have hp := h.1
      replace h := h.2
      refine WL.mt0 (K := []) (p := some (3, rowI 3 intT u)) hn (by rfl) (mt_appendN (T := intT) (es := u) ht rfl (by rfl) (by rfl) (by rfl) (by rfl) (by decide) (by rfl) (srcLS (T := intT) (es := u) (fun _ h => by cases h) (by decide) (by rfl)) (by simpa [capOk] using hp) (by simpa using hp.le (by decide))) (by rfl) (by rfl) (by rfl) ?_
      refine WL.run ht hn 1 ⟨[(0, .sv (.one (I n))), (1, .sv (.one (LS ApiSwap.ty l))), (2, .sv (.one (LS intT u))), (3, .sv (.one (LS intT v))), (11, .sv (.one (.own 3)))], [.gone, .gone, .gone, rowI 3 intT (u : (List Int))]⟩ (by kernel_rfl) ?_
      refine WL.nil ?_
      refine En.seq ?_
      refine En.region ?_
      refine WL.run ht hn 2 ⟨[(0, .sv (.one (I n))), (1, .sv (.one (LS ApiSwap.ty l))), (2, .sv (.one (LS intT u))), (3, .sv (.one (LS intT v))), (39, .sv (.one (.own 3))), (40, .sv (.one (LS intT v)))], [.gone, .gone, .gone, rowI 3 intT (u : (List Int))]⟩ (by kernel_rfl) ?_
      have hp := h.1
      replace h := h.2
      refine WL.mt (S2 := ⟨[(0, .sv (.one (I n))), (1, .sv (.one (LS ApiSwap.ty l))), (2, .sv (.one (LS intT u))), (3, .sv (.one (LS intT v))), (40, .sv (.one (LS intT v)))], [.gone, .gone, .gone, rowI 3 intT (u : (List Int))]⟩) (K := [3]) (p := some (3, rowI 3 intT ((u : (List Int)) ++ v))) hn (by rfl) (mt_append (T := intT) (l := (u : (List Int))) (es := v) ht rfl (by rfl) (by rfl) (by rfl) (by rfl) (by decide) (by rfl) (by rfl) (srcLS (T := intT) (es := v) (fun _ h => by cases h) (by decide) (by rfl)) (by exact hp) (by exact hp.le (by decide))) (by kernel_rfl) (by rfl) (by rfl) (by rfl) ?_
      refine WL.run ht hn 1 ⟨[(0, .sv (.one (I n))), (1, .sv (.one (LS ApiSwap.ty l))), (2, .sv (.one (LS intT u))), (3, .sv (.one (LS intT v))), (11, .sv (.one (.own 3)))], [.gone, .gone, .gone, rowI 3 intT ((u : (List Int)) ++ v)]⟩ (by kernel_rfl) ?_
      refine WL.nil ?_
      refine En.seq ?_
      refine En.region ?_
      refine WL.run ht hn 3 ⟨[(0, .sv (.one (I n))), (1, .sv (.one (LS ApiSwap.ty l))), (2, .sv (.one (LS intT u))), (3, .sv (.one (LS intT v))), (43, .sv (.one (I n))), (44, .sv (.one (LS ApiSwap.ty l))), (45, .sv (.one (.own 3)))], [.gone, .gone, .gone, rowI 3 intT ((u : (List Int)) ++ v)]⟩ (by kernel_rfl) ?_
      refine WL.seal (T := intT) (l := ((u : (List Int)) ++ v)) (e := 3) 3 rfl ?_
      refine WL.run ht hn 0 ⟨[(0, .sv (.one (I n))), (1, .sv (.one (LS ApiSwap.ty l))), (2, .sv (.one (LS intT u))), (3, .sv (.one (LS intT v))), (43, .sv (.one (I n))), (44, .sv (.one (LS ApiSwap.ty l))), (45, .sv (.one (LS intT ((u : (List Int)) ++ v))))], [.gone, .gone, .gone, .gone]⟩ (by kernel_rfl) ?_
      refine WL.mt0 (K := []) (p := none) hn (by rfl) (mt_call (rewNormalE_ct n l ((u : (List Int)) ++ v)) en37 (caps := []) [] rfl (by rfl) (by kernel_rfl) (by kernel_rfl) (by rfl) (by rfl) (by rfl)) (by rfl) (by rfl) (by rfl) ?_
      refine WL.run ht hn 5 ⟨[(0, .sv (.one (I n))), (1, .sv (.one (LS ApiSwap.ty l))), (2, .sv (.one (LS intT u))), (3, .sv (.one (LS intT v))), (9, .sv (.one (LS intT (normE n l ((u : (List Int)) ++ v)).1))), (10, .sv (.one (I (normE n l ((u : (List Int)) ++ v)).2)))], [.gone, .gone, .gone, .gone]⟩ (by kernel_rfl) ?_
      refine WL.nil ?_
      refine En.seq ?_
      refine En.seq ?_
      refine En.region ?_
      refine WL.run ht hn 2 ⟨[(0, .sv (.one (I n))), (1, .sv (.one (LS ApiSwap.ty l))), (2, .sv (.one (LS intT u))), (3, .sv (.one (LS intT v))), (9, .sv (.one (LS intT (normE n l ((u : (List Int)) ++ v)).1))), (50, .sv (.one (B ((normE n l ((u : (List Int)) ++ v)).2 != 0))))], [.gone, .gone, .gone, .gone]⟩ (by kernel_rfl) ?_
      refine WL.nil ?_
      refine En.cond (b := ((normE n l ((u : (List Int)) ++ v)).2 != 0)) (by kernel_rfl) (fun hb => ?_) (fun hb => ?_)
      · replace h := h.1 hb
        refine En.seq ?_
        refine En.region ?_
        refine WL.run ht hn 1 ⟨[(8, .sv (.one (B true)))], [.gone, .gone, .gone, .gone]⟩ (by kernel_rfl) ?_
        refine WL.nil ?_
        refine En.ret ?_
        exact En.back ht true h (by kernel_rfl) rfl
      · replace h := h.2 hb
        refine En.skip ?_
        refine En.seq ?_
        refine En.region ?_
        refine WL.run ht hn 3 ⟨[(0, .sv (.one (I n))), (1, .sv (.one (LS ApiSwap.ty l))), (2, .sv (.one (LS intT u))), (3, .sv (.one (LS intT v))), (9, .sv (.one (LS intT (normE n l ((u : (List Int)) ++ v)).1))), (52, .sv (.one (I n))), (53, .sv (.one (LS ApiSwap.ty l))), (54, .sv (.one (LS intT (normE n l ((u : (List Int)) ++ v)).1)))], [.gone, .gone, .gone, .gone]⟩ (by kernel_rfl) ?_
        refine WL.mt0 (K := []) (p := none) hn (by rfl) (mt_call (rewNormalE_ct n l (normE n l ((u : (List Int)) ++ v)).1) en37 (caps := []) [] rfl (by rfl) (by kernel_rfl) (by kernel_rfl) (by rfl) (by rfl) (by rfl)) (by rfl) (by rfl) (by rfl) ?_
        refine WL.run ht hn 5 ⟨[(0, .sv (.one (I n))), (1, .sv (.one (LS ApiSwap.ty l))), (2, .sv (.one (LS intT u))), (3, .sv (.one (LS intT v))), (9, .sv (.one (LS intT (normE n l ((u : (List Int)) ++ v)).1))), (12, .sv (.one (LS intT (normE n l (normE n l ((u : (List Int)) ++ v)).1).1))), (13, .sv (.one (I (normE n l (normE n l ((u : (List Int)) ++ v)).1).2)))], [.gone, .gone, .gone, .gone]⟩ (by kernel_rfl) ?_
        refine WL.nil ?_
        refine En.seq ?_
        refine En.region ?_
        refine WL.run ht hn 2 ⟨[(0, .sv (.one (I n))), (1, .sv (.one (LS ApiSwap.ty l))), (2, .sv (.one (LS intT u))), (3, .sv (.one (LS intT v))), (9, .sv (.one (LS intT (normE n l ((u : (List Int)) ++ v)).1))), (13, .sv (.one (I (normE n l (normE n l ((u : (List Int)) ++ v)).1).2))), (58, .sv (.one (LS intT (normE n l ((u : (List Int)) ++ v)).1))), (59, .sv (.one (LS intT (normE n l (normE n l ((u : (List Int)) ++ v)).1).1)))], [.gone, .gone, .gone, .gone]⟩ (by kernel_rfl) ?_
        refine WL.mt0 (K := []) (p := none) hn (by rfl) (mt_call (alikeW_ct (normE n l ((u : (List Int)) ++ v)).1 (normE n l (normE n l ((u : (List Int)) ++ v)).1).1) en24 (caps := []) [] rfl (by rfl) (by kernel_rfl) (by kernel_rfl) (by rfl) (by rfl) (by rfl)) (by rfl) (by rfl) (by rfl) ?_
        refine WL.run ht hn 1 ⟨[(0, .sv (.one (I n))), (1, .sv (.one (LS ApiSwap.ty l))), (2, .sv (.one (LS intT u))), (3, .sv (.one (LS intT v))), (9, .sv (.one (LS intT (normE n l ((u : (List Int)) ++ v)).1))), (13, .sv (.one (I (normE n l (normE n l ((u : (List Int)) ++ v)).1).2))), (14, .sv (.one (B (decide ((normE n l ((u : (List Int)) ++ v)).1 = (normE n l (normE n l ((u : (List Int)) ++ v)).1).1)))))], [.gone, .gone, .gone, .gone]⟩ (by kernel_rfl) ?_
        refine WL.nil ?_
        refine En.seq ?_
        refine En.seq ?_
        refine En.region ?_
        refine WL.run ht hn 3 ⟨[(0, .sv (.one (I n))), (1, .sv (.one (LS ApiSwap.ty l))), (2, .sv (.one (LS intT u))), (3, .sv (.one (LS intT v))), (9, .sv (.one (LS intT (normE n l ((u : (List Int)) ++ v)).1))), (14, .sv (.one (B (decide ((normE n l ((u : (List Int)) ++ v)).1 = (normE n l (normE n l ((u : (List Int)) ++ v)).1).1))))), (63, .sv (.one (B ((normE n l (normE n l ((u : (List Int)) ++ v)).1).2 != 0))))], [.gone, .gone, .gone, .gone]⟩ (by kernel_rfl) ?_
        refine WL.thru ⟨[(0, .sv (.one (I n))), (1, .sv (.one (LS ApiSwap.ty l))), (2, .sv (.one (LS intT u))), (3, .sv (.one (LS intT v))), (9, .sv (.one (LS intT (normE n l ((u : (List Int)) ++ v)).1))), (66, .sv (.one (B (((normE n l (normE n l ((u : (List Int)) ++ v)).1).2 != 0) || (!(decide ((normE n l ((u : (List Int)) ++ v)).1 = (normE n l (normE n l ((u : (List Int)) ++ v)).1).1)))))))], [.gone, .gone, .gone, .gone]⟩ ?_ ?_
        · refine splitB ((normE n l (normE n l ((u : (List Int)) ++ v)).1).2 != 0) (fun hb0 => ?_) (fun hb0 => ?_)
          · refine WL.setB 63 hb0 (by kernel_rfl) ?_
            refine WL.run ht hn 3 ⟨[(0, .sv (.one (I n))), (1, .sv (.one (LS ApiSwap.ty l))), (2, .sv (.one (LS intT u))), (3, .sv (.one (LS intT v))), (9, .sv (.one (LS intT (normE n l ((u : (List Int)) ++ v)).1))), (66, .sv (.one (B true)))], [.gone, .gone, .gone, .gone]⟩ (by kernel_rfl) ?_
            exact WL.nil (sub_ok (by simp only [hb0]; kernel_rfl))
          · refine WL.setB 63 hb0 (by kernel_rfl) ?_
            refine WL.run ht hn 3 ⟨[(0, .sv (.one (I n))), (1, .sv (.one (LS ApiSwap.ty l))), (2, .sv (.one (LS intT u))), (3, .sv (.one (LS intT v))), (9, .sv (.one (LS intT (normE n l ((u : (List Int)) ++ v)).1))), (66, .sv (.one (B (!(decide ((normE n l ((u : (List Int)) ++ v)).1 = (normE n l (normE n l ((u : (List Int)) ++ v)).1).1))))))], [.gone, .gone, .gone, .gone]⟩ (by kernel_rfl) ?_
            exact WL.nil (sub_ok (by simp only [hb0]; kernel_rfl))
        · refine En.cond (b := (((normE n l (normE n l ((u : (List Int)) ++ v)).1).2 != 0) || (!(decide ((normE n l ((u : (List Int)) ++ v)).1 = (normE n l (normE n l ((u : (List Int)) ++ v)).1).1))))) (by kernel_rfl) (fun hb => ?_) (fun hb => ?_)
          · replace h := h.1 hb
            refine En.seq ?_
            refine En.region ?_
            refine WL.run ht hn 1 ⟨[(8, .sv (.one (B false)))], [.gone, .gone, .gone, .gone]⟩ (by kernel_rfl) ?_
            refine WL.nil ?_
            refine En.ret ?_
            exact En.back ht false h (by kernel_rfl) rfl
          · replace h := h.2 hb
            refine En.skip ?_
            refine En.seq ?_
            refine En.region ?_
            refine WL.run ht hn 2 ⟨[(0, .sv (.one (I n))), (1, .sv (.one (LS ApiSwap.ty l))), (2, .sv (.one (LS intT u))), (3, .sv (.one (LS intT v))), (9, .sv (.one (LS intT (normE n l ((u : (List Int)) ++ v)).1))), (68, .sv (.one (I n))), (69, .sv (.one (LS ApiSwap.ty l)))], [.gone, .gone, .gone, .gone]⟩ (by kernel_rfl) ?_
            refine WL.mtQ (Q := ForkQ n l) (x := fun (r : ((List Int) × (List Int) × (List Int) × Bool × Int)) => .tup [.one (LS intT r.1), .one (LS intT r.2.1), .one (LS intT r.2.2.1), .one (B r.2.2.2.1), .one (I r.2.2.2.2)]) (p := fun _ => none) hn (by rfl) (mtq_call (rewFork_ct n l) en38 (caps := []) [] rfl (by rfl) (by kernel_rfl) (by kernel_rfl) (by rfl) (fun _ => rfl) (by rfl)) (fun r hr_2 => ⟨by rfl, _, by rfl, ?_⟩)
            replace h := h r hr_2
            refine WL.run ht hn 11 ⟨[(0, .sv (.one (I n))), (1, .sv (.one (LS ApiSwap.ty l))), (2, .sv (.one (LS intT u))), (3, .sv (.one (LS intT v))), (9, .sv (.one (LS intT (normE n l ((u : (List Int)) ++ v)).1))), (10, .sv (.one (I r.2.2.2.2))), (18, .sv (.one (B r.2.2.2.1)))], [.gone, .gone, .gone, .gone]⟩ (by kernel_rfl) ?_
            refine WL.nil ?_
            refine En.seq ?_
            refine En.seq ?_
            refine En.region ?_
            refine WL.run ht hn 2 ⟨[(0, .sv (.one (I n))), (1, .sv (.one (LS ApiSwap.ty l))), (2, .sv (.one (LS intT u))), (3, .sv (.one (LS intT v))), (9, .sv (.one (LS intT (normE n l ((u : (List Int)) ++ v)).1))), (18, .sv (.one (B r.2.2.2.1))), (77, .sv (.one (B (r.2.2.2.2 != 0))))], [.gone, .gone, .gone, .gone]⟩ (by kernel_rfl) ?_
            refine WL.nil ?_
            refine En.cond (b := (r.2.2.2.2 != 0)) (by kernel_rfl) (fun hb => ?_) (fun hb => ?_)
            · replace h := h.1 hb
              refine En.seq ?_
              refine En.region ?_
              refine WL.run ht hn 1 ⟨[(8, .sv (.one (B false)))], [.gone, .gone, .gone, .gone]⟩ (by kernel_rfl) ?_
              refine WL.nil ?_
              refine En.ret ?_
              exact En.back ht false h (by kernel_rfl) rfl
            · replace h := h.2 hb
              refine En.skip ?_
              refine En.seq ?_
              refine En.seq ?_
              refine En.region ?_
              refine WL.run ht hn 1 ⟨[(0, .sv (.one (I n))), (1, .sv (.one (LS ApiSwap.ty l))), (2, .sv (.one (LS intT u))), (3, .sv (.one (LS intT v))), (9, .sv (.one (LS intT (normE n l ((u : (List Int)) ++ v)).1))), (78, .sv (.one (B r.2.2.2.1)))], [.gone, .gone, .gone, .gone]⟩ (by kernel_rfl) ?_
              refine WL.nil ?_
              refine En.cond (b := r.2.2.2.1) (by kernel_rfl) (fun hb => ?_) (fun hb => ?_)
              · replace h := h.1 hb
                refine En.seq ?_
                refine En.region ?_
                refine WL.run ht hn 1 ⟨[(8, .sv (.one (B true)))], [.gone, .gone, .gone, .gone]⟩ (by kernel_rfl) ?_
                refine WL.nil ?_
                refine En.ret ?_
                exact En.back ht true h (by kernel_rfl) rfl
              · replace h := h.2 hb
                refine En.skip ?_
                refine En.seq ?_
                refine En.region ?_
                refine WL.run ht hn 3 ⟨[(0, .sv (.one (I n))), (1, .sv (.one (LS ApiSwap.ty l))), (3, .sv (.one (LS intT v))), (9, .sv (.one (LS intT (normE n l ((u : (List Int)) ++ v)).1))), (80, .sv (.one (I n))), (81, .sv (.one (LS ApiSwap.ty l))), (82, .sv (.one (LS intT u)))], [.gone, .gone, .gone, .gone]⟩ (by kernel_rfl) ?_
                refine WL.mt0 (K := []) (p := none) hn (by rfl) (mt_call (rewNormalE_ct n l u) en37 (caps := []) [] rfl (by rfl) (by kernel_rfl) (by kernel_rfl) (by rfl) (by rfl) (by rfl)) (by rfl) (by rfl) (by rfl) ?_
                refine WL.run ht hn 5 ⟨[(0, .sv (.one (I n))), (1, .sv (.one (LS ApiSwap.ty l))), (3, .sv (.one (LS intT v))), (9, .sv (.one (LS intT (normE n l ((u : (List Int)) ++ v)).1))), (10, .sv (.one (I (normE n l u).2))), (19, .sv (.one (LS intT (normE n l u).1)))], [.gone, .gone, .gone, .gone]⟩ (by kernel_rfl) ?_
                refine WL.nil ?_
                refine En.seq ?_
                refine En.region ?_
                refine WL.run ht hn 3 ⟨[(0, .sv (.one (I n))), (1, .sv (.one (LS ApiSwap.ty l))), (9, .sv (.one (LS intT (normE n l ((u : (List Int)) ++ v)).1))), (10, .sv (.one (I (normE n l u).2))), (19, .sv (.one (LS intT (normE n l u).1))), (87, .sv (.one (I n))), (88, .sv (.one (LS ApiSwap.ty l))), (89, .sv (.one (LS intT v)))], [.gone, .gone, .gone, .gone]⟩ (by kernel_rfl) ?_
                refine WL.mt0 (K := []) (p := none) hn (by rfl) (mt_call (rewNormalE_ct n l v) en37 (caps := []) [] rfl (by rfl) (by kernel_rfl) (by kernel_rfl) (by rfl) (by rfl) (by rfl)) (by rfl) (by rfl) (by rfl) ?_
                refine WL.run ht hn 5 ⟨[(0, .sv (.one (I n))), (1, .sv (.one (LS ApiSwap.ty l))), (9, .sv (.one (LS intT (normE n l ((u : (List Int)) ++ v)).1))), (10, .sv (.one (I (normE n l u).2))), (13, .sv (.one (I (normE n l v).2))), (19, .sv (.one (LS intT (normE n l u).1))), (20, .sv (.one (LS intT (normE n l v).1)))], [.gone, .gone, .gone, .gone]⟩ (by kernel_rfl) ?_
                refine WL.nil ?_
                refine En.seq ?_
                refine En.seq ?_
                refine En.region ?_
                refine WL.run ht hn 3 ⟨[(0, .sv (.one (I n))), (1, .sv (.one (LS ApiSwap.ty l))), (9, .sv (.one (LS intT (normE n l ((u : (List Int)) ++ v)).1))), (13, .sv (.one (I (normE n l v).2))), (19, .sv (.one (LS intT (normE n l u).1))), (20, .sv (.one (LS intT (normE n l v).1))), (95, .sv (.one (B ((normE n l u).2 != 0))))], [.gone, .gone, .gone, .gone]⟩ (by kernel_rfl) ?_
                refine WL.thru ⟨[(0, .sv (.one (I n))), (1, .sv (.one (LS ApiSwap.ty l))), (9, .sv (.one (LS intT (normE n l ((u : (List Int)) ++ v)).1))), (19, .sv (.one (LS intT (normE n l u).1))), (20, .sv (.one (LS intT (normE n l v).1))), (98, .sv (.one (B (((normE n l u).2 != 0) || ((normE n l v).2 != 0)))))], [.gone, .gone, .gone, .gone]⟩ ?_ ?_
                · refine splitB ((normE n l u).2 != 0) (fun hb0 => ?_) (fun hb0 => ?_)
                  · refine WL.setB 95 hb0 (by kernel_rfl) ?_
                    refine WL.run ht hn 3 ⟨[(0, .sv (.one (I n))), (1, .sv (.one (LS ApiSwap.ty l))), (9, .sv (.one (LS intT (normE n l ((u : (List Int)) ++ v)).1))), (19, .sv (.one (LS intT (normE n l u).1))), (20, .sv (.one (LS intT (normE n l v).1))), (98, .sv (.one (B true)))], [.gone, .gone, .gone, .gone]⟩ (by kernel_rfl) ?_
                    exact WL.nil (sub_ok (by simp only [hb0]; kernel_rfl))
                  · refine WL.setB 95 hb0 (by kernel_rfl) ?_
                    refine WL.run ht hn 3 ⟨[(0, .sv (.one (I n))), (1, .sv (.one (LS ApiSwap.ty l))), (9, .sv (.one (LS intT (normE n l ((u : (List Int)) ++ v)).1))), (19, .sv (.one (LS intT (normE n l u).1))), (20, .sv (.one (LS intT (normE n l v).1))), (98, .sv (.one (B ((normE n l v).2 != 0))))], [.gone, .gone, .gone, .gone]⟩ (by kernel_rfl) ?_
                    exact WL.nil (sub_ok (by simp only [hb0]; kernel_rfl))
                · refine En.cond (b := (((normE n l u).2 != 0) || ((normE n l v).2 != 0))) (by kernel_rfl) (fun hb => ?_) (fun hb => ?_)
                  · replace h := h.1 hb
                    refine En.seq ?_
                    refine En.region ?_
                    refine WL.run ht hn 1 ⟨[(8, .sv (.one (B false)))], [.gone, .gone, .gone, .gone]⟩ (by kernel_rfl) ?_
                    refine WL.nil ?_
                    refine En.ret ?_
                    exact En.back ht false h (by kernel_rfl) rfl
                  · replace h := h.2 hb
                    refine En.skip ?_
                    refine En.seq ?_
                    refine En.region ?_
                    refine WL.mt0 (K := []) (p := some (4, rowI 3 intT ([] : (List Int)))) hn (by rfl) (mt_empty intT 4 ht rfl (by rfl) (by rfl) (by rfl)) (by rfl) (by rfl) (by rfl) ?_
                    refine WL.run ht hn 1 ⟨[(0, .sv (.one (I n))), (1, .sv (.one (LS ApiSwap.ty l))), (9, .sv (.one (LS intT (normE n l ((u : (List Int)) ++ v)).1))), (20, .sv (.one (LS intT (normE n l v).1))), (99, .sv (.one (.own 4))), (100, .sv (.one (LS intT (normE n l u).1)))], [.gone, .gone, .gone, .gone, rowI 3 intT ([] : (List Int))]⟩ (by kernel_rfl) ?_
                    have hp := h.1
                    replace h := h.2
                    refine WL.mt (S2 := ⟨[(0, .sv (.one (I n))), (1, .sv (.one (LS ApiSwap.ty l))), (9, .sv (.one (LS intT (normE n l ((u : (List Int)) ++ v)).1))), (20, .sv (.one (LS intT (normE n l v).1))), (100, .sv (.one (LS intT (normE n l u).1)))], [.gone, .gone, .gone, .gone, rowI 3 intT ([] : (List Int))]⟩) (K := [4]) (p := some (4, rowI 3 intT (([] : (List Int)) ++ (normE n l u).1))) hn (by rfl) (mt_append (T := intT) (l := ([] : (List Int))) (es := (normE n l u).1) ht rfl (by rfl) (by rfl) (by rfl) (by rfl) (by decide) (by rfl) (by rfl) (srcLS (T := intT) (es := (normE n l u).1) (fun _ h => by cases h) (by decide) (by rfl)) (by exact hp) (by exact hp.le (by decide))) (by kernel_rfl) (by rfl) (by rfl) (by rfl) ?_
                    refine WL.run ht hn 1 ⟨[(0, .sv (.one (I n))), (1, .sv (.one (LS ApiSwap.ty l))), (9, .sv (.one (LS intT (normE n l ((u : (List Int)) ++ v)).1))), (11, .sv (.one (.own 4))), (20, .sv (.one (LS intT (normE n l v).1)))], [.gone, .gone, .gone, .gone, rowI 3 intT (([] : (List Int)) ++ (normE n l u).1)]⟩ (by kernel_rfl) ?_
                    refine WL.nil ?_
                    refine En.seq ?_
                    refine En.region ?_
                    refine WL.run ht hn 2 ⟨[(0, .sv (.one (I n))), (1, .sv (.one (LS ApiSwap.ty l))), (9, .sv (.one (LS intT (normE n l ((u : (List Int)) ++ v)).1))), (102, .sv (.one (.own 4))), (103, .sv (.one (LS intT (normE n l v).1)))], [.gone, .gone, .gone, .gone, rowI 3 intT (([] : (List Int)) ++ (normE n l u).1)]⟩ (by kernel_rfl) ?_
                    have hp := h.1
                    replace h := h.2
                    refine WL.mt (S2 := ⟨[(0, .sv (.one (I n))), (1, .sv (.one (LS ApiSwap.ty l))), (9, .sv (.one (LS intT (normE n l ((u : (List Int)) ++ v)).1))), (103, .sv (.one (LS intT (normE n l v).1)))], [.gone, .gone, .gone, .gone, rowI 3 intT (([] : (List Int)) ++ (normE n l u).1)]⟩) (K := [4]) (p := some (4, rowI 3 intT ((([] : (List Int)) ++ (normE n l u).1) ++ (normE n l v).1))) hn (by rfl) (mt_append (T := intT) (l := (([] : (List Int)) ++ (normE n l u).1)) (es := (normE n l v).1) ht rfl (by rfl) (by rfl) (by rfl) (by rfl) (by decide) (by rfl) (by rfl) (srcLS (T := intT) (es := (normE n l v).1) (fun _ h => by cases h) (by decide) (by rfl)) (by exact hp) (by exact hp.le (by decide))) (by kernel_rfl) (by rfl) (by rfl) (by rfl) ?_
                    refine WL.run ht hn 1 ⟨[(0, .sv (.one (I n))), (1, .sv (.one (LS ApiSwap.ty l))), (9, .sv (.one (LS intT (normE n l ((u : (List Int)) ++ v)).1))), (11, .sv (.one (.own 4)))], [.gone, .gone, .gone, .gone, rowI 3 intT ((([] : (List Int)) ++ (normE n l u).1) ++ (normE n l v).1)]⟩ (by kernel_rfl) ?_
                    refine WL.nil ?_
                    refine En.seq ?_
                    refine En.region ?_
                    refine WL.run ht hn 3 ⟨[(9, .sv (.one (LS intT (normE n l ((u : (List Int)) ++ v)).1))), (106, .sv (.one (I n))), (107, .sv (.one (LS ApiSwap.ty l))), (108, .sv (.one (.own 4)))], [.gone, .gone, .gone, .gone, rowI 3 intT ((([] : (List Int)) ++ (normE n l u).1) ++ (normE n l v).1)]⟩ (by kernel_rfl) ?_
                    refine WL.seal (T := intT) (l := ((([] : (List Int)) ++ (normE n l u).1) ++ (normE n l v).1)) (e := 3) 4 rfl ?_
                    refine WL.run ht hn 0 ⟨[(9, .sv (.one (LS intT (normE n l ((u : (List Int)) ++ v)).1))), (106, .sv (.one (I n))), (107, .sv (.one (LS ApiSwap.ty l))), (108, .sv (.one (LS intT ((([] : (List Int)) ++ (normE n l u).1) ++ (normE n l v).1))))], [.gone, .gone, .gone, .gone, .gone]⟩ (by kernel_rfl) ?_
                    refine WL.mt0 (K := []) (p := none) hn (by rfl) (mt_call (rewNormalE_ct n l ((([] : (List Int)) ++ (normE n l u).1) ++ (normE n l v).1)) en37 (caps := []) [] rfl (by rfl) (by kernel_rfl) (by kernel_rfl) (by rfl) (by rfl) (by rfl)) (by rfl) (by rfl) (by rfl) ?_
                    refine WL.run ht hn 5 ⟨[(9, .sv (.one (LS intT (normE n l ((u : (List Int)) ++ v)).1))), (10, .sv (.one (I (normE n l ((([] : (List Int)) ++ (normE n l u).1) ++ (normE n l v).1)).2))), (12, .sv (.one (LS intT (normE n l ((([] : (List Int)) ++ (normE n l u).1) ++ (normE n l v).1)).1)))], [.gone, .gone, .gone, .gone, .gone]⟩ (by kernel_rfl) ?_
                    refine WL.nil ?_
                    refine En.seq ?_
                    refine En.region ?_
                    refine WL.run ht hn 2 ⟨[(10, .sv (.one (I (normE n l ((([] : (List Int)) ++ (normE n l u).1) ++ (normE n l v).1)).2))), (112, .sv (.one (LS intT (normE n l ((u : (List Int)) ++ v)).1))), (113, .sv (.one (LS intT (normE n l ((([] : (List Int)) ++ (normE n l u).1) ++ (normE n l v).1)).1)))], [.gone, .gone, .gone, .gone, .gone]⟩ (by kernel_rfl) ?_
                    refine WL.mt0 (K := []) (p := none) hn (by rfl) (mt_call (alikeW_ct (normE n l ((u : (List Int)) ++ v)).1 (normE n l ((([] : (List Int)) ++ (normE n l u).1) ++ (normE n l v).1)).1) en24 (caps := []) [] rfl (by rfl) (by kernel_rfl) (by kernel_rfl) (by rfl) (by rfl) (by rfl)) (by rfl) (by rfl) (by rfl) ?_
                    refine WL.run ht hn 1 ⟨[(10, .sv (.one (I (normE n l ((([] : (List Int)) ++ (normE n l u).1) ++ (normE n l v).1)).2))), (14, .sv (.one (B (decide ((normE n l ((u : (List Int)) ++ v)).1 = (normE n l ((([] : (List Int)) ++ (normE n l u).1) ++ (normE n l v).1)).1)))))], [.gone, .gone, .gone, .gone, .gone]⟩ (by kernel_rfl) ?_
                    refine WL.nil ?_
                    refine En.seq ?_
                    refine En.region ?_
                    refine WL.run ht hn 3 ⟨[(14, .sv (.one (B (decide ((normE n l ((u : (List Int)) ++ v)).1 = (normE n l ((([] : (List Int)) ++ (normE n l u).1) ++ (normE n l v).1)).1))))), (117, .sv (.one (B ((normE n l ((([] : (List Int)) ++ (normE n l u).1) ++ (normE n l v).1)).2 == 0))))], [.gone, .gone, .gone, .gone, .gone]⟩ (by kernel_rfl) ?_
                    refine WL.thru ⟨[(8, .sv (.one (B (((normE n l ((([] : (List Int)) ++ (normE n l u).1) ++ (normE n l v).1)).2 == 0) && (decide ((normE n l ((u : (List Int)) ++ v)).1 = (normE n l ((([] : (List Int)) ++ (normE n l u).1) ++ (normE n l v).1)).1))))))], [.gone, .gone, .gone, .gone, .gone]⟩ ?_ ?_
                    · refine splitB ((normE n l ((([] : (List Int)) ++ (normE n l u).1) ++ (normE n l v).1)).2 == 0) (fun hb0 => ?_) (fun hb0 => ?_)
                      · refine WL.setB 117 hb0 (by kernel_rfl) ?_
                        refine WL.run ht hn 3 ⟨[(8, .sv (.one (B (decide ((normE n l ((u : (List Int)) ++ v)).1 = (normE n l ((([] : (List Int)) ++ (normE n l u).1) ++ (normE n l v).1)).1)))))], [.gone, .gone, .gone, .gone, .gone]⟩ (by kernel_rfl) ?_
                        exact WL.nil (sub_ok (by simp only [hb0]; kernel_rfl))
                      · refine WL.setB 117 hb0 (by kernel_rfl) ?_
                        refine WL.run ht hn 3 ⟨[(8, .sv (.one (B false)))], [.gone, .gone, .gone, .gone, .gone]⟩ (by kernel_rfl) ?_
                        exact WL.nil (sub_ok (by simp only [hb0]; kernel_rfl))
                    · refine En.ret ?_
                      exact En.back ht (((normE n l ((([] : (List Int)) ++ (normE n l u).1) ++ (normE n l v).1)).2 == 0) && (decide ((normE n l ((u : (List Int)) ++ v)).1 = (normE n l ((([] : (List Int)) ++ (normE n l u).1) ++ (normE n l v).1)).1))) h (by kernel_rfl) rfl
theorem normE_ok {n : Int} {l : List ApiSwap} {w : List Int} (h : (normE n l w).2 = 0) : RewOk n l ∧ w.length ≤ 8 ∧ In4 w ∧ (normE n l w).1 = normalR l w := by
  unfold normE at h ⊢
  by_cases h1 : rewErr n l ≠ 0
  · rw [if_pos h1] at h; exact absurd h h1
  rw [if_neg h1] at h ⊢
  by_cases h2 : w.length > 8
  · rw [if_pos h2] at h; cases h
  rw [if_neg h2] at h ⊢
  by_cases h3 : w.any (offB n) = true
  · rw [if_pos h3] at h; cases h
  rw [if_neg h3]
  have hk := rewErr_ok (Decidable.not_not.1 h1)
  exact ⟨hk, by omega, anyOff_in hk.n4 (by simpa using h3), rfl⟩
theorem in_off {n : Int} {w : List Int} (h : ∀ a ∈ w, 0 ≤ a ∧ a < n) : w.any (offB n) = false := by
  rw [List.any_eq_false]
  intro a ha
  have := h a ha
  unfold offB
  simp
  omega
theorem off_in {n : Int} {w : List Int} (h : w.any (offB n) = false) : ∀ a ∈ w, 0 ≤ a ∧ a < n := by
  intro a ha
  rw [List.any_eq_false] at h
  have := h a ha
  unfold offB at this
  simp at this
  omega
def InN (n : Int) (w : List Int) : Prop := ∀ a ∈ w, 0 ≤ a ∧ a < n
theorem firstE_in {n : Int} {l : List ApiSwap} (h : rewErr n l = 0) : ∀ s ∈ l, InN n s.fTo := by
  unfold rewErr at h
  by_cases h1 : ((decide (n < 1)) || (decide (n > 4))) = true
  · rw [if_pos h1] at h; cases h
  rw [if_neg h1] at h
  by_cases h2 : (decide ((l.length : Int) > 8)) = true
  · rw [if_pos h2] at h; cases h
  rw [if_neg h2] at h
  intro s hs
  have hb := firstE_ok h s hs
  unfold rewBad at hb
  by_cases h3 : (((decide ((s.fFrom.length : Int) < 1)) || (decide ((s.fFrom.length : Int) > 5))) || (decide ((s.fTo.length : Int) > 5))) = true
  · rw [if_pos h3] at hb; cases hb
  rw [if_neg h3] at hb
  by_cases h4 : (s.fFrom.any (offB n) || s.fTo.any (offB n)) = true
  · rw [if_pos h4] at hb; cases hb
  simp only [Bool.not_eq_true, Bool.or_eq_false_iff] at h4
  exact off_in h4.2
theorem steps_in {n : Int} {l : List ApiSwap} (h : ∀ s ∈ l, InN n s.fTo) {u v : List Int} (s : Steps (rulesOf l) u v) : InN n u → InN n v := by
  induction s with
  | refl => exact fun h => h
  | head s _ ih =>
    intro hu
    refine ih ?_
    cases s with
    | mk x f t y hm =>
      obtain ⟨r, hr, e⟩ := List.mem_map.1 hm
      cases e
      intro a ha
      simp only [List.mem_append] at ha
      rcases ha with (ha | ha) | ha
      · exact hu a (by simp [ha])
      · exact h r hr a ha
      · exact hu a (by simp [ha])
theorem normE_mk {n : Int} {l : List ApiSwap} {w : List Int} (h : rewErr n l = 0) (h1 : w.length ≤ 8) (h2 : InN n w) : normE n l w = (normalR l w, 0) := by
  unfold normE
  rw [if_neg (by simp [h]), if_neg (by omega), if_neg (by rw [in_off h2]; decide)]
theorem normE_in {n : Int} {l : List ApiSwap} {w : List Int} (h : (normE n l w).2 = 0) : rewErr n l = 0 ∧ InN n w := by
  unfold normE at h
  by_cases h1 : rewErr n l ≠ 0
  · rw [if_pos h1] at h; exact absurd h h1
  rw [if_neg h1] at h
  by_cases h2 : w.length > 8
  · rw [if_pos h2] at h; cases h
  rw [if_neg h2] at h
  by_cases h3 : w.any (offB n) = true
  · rw [if_pos h3] at h; cases h
  exact ⟨Decidable.not_not.1 h1, off_in (by simpa using h3)⟩
theorem normalR_in {n : Int} {l : List ApiSwap} {w : List Int} (h : rewErr n l = 0) (hw : InN n w) (h4 : In4 w) : InN n (normalR l w) :=
  steps_in (firstE_in h) (normW_ok (rewErr_ok h).rules (Nat.le_refl _) h4).1 hw
theorem rewOnce_closed : (normE 2 [ApiSwap.mk [0, 0] []] [1, 0, 0, 1]).2 = 0 ∧ (normE 2 [ApiSwap.mk [0, 0] []] [1, 0, 0, 1]).1.length = 2 := by
  have h : rewErr 2 [ApiSwap.mk [0, 0] []] = 0 := by decide
  have hR := (rewErr_ok h).rules
  have hn : normE 2 [ApiSwap.mk [0, 0] []] [1, 0, 0, 1] = (normalR [ApiSwap.mk [0, 0] []] [1, 0, 0, 1], 0) := normE_mk h (by decide) (by unfold InN; decide)
  rw [hn]
  refine ⟨rfl, ?_⟩
  have h1 : stepR (rulesOf [ApiSwap.mk [0, 0] []]) [1, 0, 0, 1] = some [1, 1] := by decide
  have h2 : stepR (rulesOf [ApiSwap.mk [0, 0] []]) [1, 1] = none := by decide
  show (normW _ _).length = 2
  rw [normW_some hR (by unfold In4; decide) h1, normW_none h2]
  rfl
theorem rewOnce_ct (n : Int) (l : (List ApiSwap)) (u : (List Int)) (v : (List Int)) (hb : u.length ≤ 1048576 ∧ v.length ≤ 1048576) : Ct 12 [.sv (.one (I n)), .sv (.one (LS ApiSwap.ty l)), .sv (.one (LS intT u)), .sv (.one (LS intT v))] [] (fun (_ : Unit) => True) (fun _ => .sv (.one (B (true)))) := by
  refine (rewOnce_walk n l u v (fun res_ => res_ = (true)) ?_).fun
  intro _ _ _
  refine ⟨fun h => ?_, fun _ => ⟨capOk_of (by omega), capOk_of (by omega), fun h1 => rfl, fun h1 => ?_⟩⟩
  · rw [rewOnce_closed.1, rewOnce_closed.2] at h
    exact absurd h (by decide)
  have h1 : (normE n l (u ++ v)).2 = 0 := by simpa using h1
  obtain ⟨hk, h8, hin, hx⟩ := normE_ok h1
  obtain ⟨h0, hN⟩ := normE_in h1
  rw [List.length_append] at h8
  have hNu : InN n u := fun a ha => hN a (List.mem_append.2 (.inl ha))
  have hNv : InN n v := fun a ha => hN a (List.mem_append.2 (.inr ha))
  have hu4 : In4 u := fun a ha => hin a (List.mem_append.2 (.inl ha))
  have hv4 : In4 v := fun a ha => hin a (List.mem_append.2 (.inr ha))
  rw [hx]
  have l1 := normalR_len hk hin
  have e1 : normE n l (normalR l (u ++ v)) = (normalR l (normalR l (u ++ v)), 0) := normE_mk h0 (by have := l1.2; rw [List.length_append] at this; omega) (normalR_in h0 hN hin)
  rw [e1]
  have e2 : normalR l (normalR l (u ++ v)) = normalR l (u ++ v) := norm_twice hk.rules hin
  rw [e2]
  refine ⟨(fun h => by simp at h), fun _ r hr => ⟨fun h => ?_, fun _ => ⟨fun _ => rfl, fun hf => ?_⟩⟩⟩
  · rw [hr.1, h0] at h; cases h
  have hF := hr.2 h0 hf
  have eu : normE n l u = (normalR l u, 0) := normE_mk h0 (by omega) hNu
  have ev : normE n l v = (normalR l v, 0) := normE_mk h0 (by omega) hNv
  have lu := normalR_len hk hu4
  have lv := normalR_len hk hv4
  rw [eu, ev]
  refine ⟨(fun h => by cases h), fun _ => ⟨capOk_of (by simp; omega), capOk_of (by simp; omega), ?_⟩⟩
  rw [List.nil_append]
  have e3 : normE n l (normalR l u ++ normalR l v) = (normalR l (normalR l u ++ normalR l v), 0) := normE_mk h0 (by rw [List.length_append]; omega) (fun a ha => (List.mem_append.1 ha).elim (normalR_in h0 hNu hu4 a) (normalR_in h0 hNv hv4 a))
  rw [e3]
  have e4 : normalR l (normalR l u ++ normalR l v) = normalR l (u ++ v) := parts_first hk.rules hF hu4 hv4
  rw [e4]
  show ((0 : Int) == 0 && decide (normalR l (u ++ v) = normalR l (u ++ v))) = true
  simp
end Go.Proofs.Ytfpdnigihjmohaa

