/- Lemmas towards the statement: mirrors of functions, and plain laws. No condition. -/
import Derived.Test.YtapnmjeadbhffaaPackTimeLaws4


namespace Go.Proofs.Ytapnmjeadbhffaa
open Go.RowKit Go.MapKept
set_option linter.unusedSimpArgs false
set_option linter.unusedVariables false
set_option maxRecDepth 100000
def tHolds_vc (text : ByteArray) (w : ApiLasso) (Q : (Bool × Int) → Prop) : Prop :=
 w.fHead.length ≤ 9223372036854775807 →
 w.fLoop.length ≤ 9223372036854775807 →
 (∀ r : ((List TimeNode) × ApiFault), (TParsedQ text) r →
 (IfP (r.2.fCode != 0) (Q (false, 4)) (IfP ((lasE 4 w) != 0) (Q (false, (lasE 4 w))) (capOk ([] : (List Int)).length (w.fHead : (List Int)).length 8 ∧
 capOk (([] : (List Int)) ++ w.fHead).length (w.fLoop : (List Int)).length 8 ∧
 makeOk (((([] : (List Int)) ++ w.fHead) ++ w.fLoop).length : Int) (((([] : (List Int)) ++ w.fHead) ++ w.fLoop).length : Int) 24 ∧
 ∃ (Inv : Int → (List (List Bool)) → Prop) (mu : Int → (List (List Bool)) → Nat), Inv 0 (List.replicate ((((([] : (List Int)) ++ w.fHead) ++ w.fLoop).length : Int)).toNat ([] : (List Bool))) ∧
 ∀ (x42 : Int) (g6 : (List (List Bool))) , Inv x42 g6 → (IfP (decide (x42 < ((List.replicate ((((([] : (List Int)) ++ w.fHead) ++ w.fLoop).length : Int)).toNat ([] : (List Bool))).length : Int))) (makeOk (r.1.length : Int) (r.1.length : Int) 1 ∧
 ∃ e, idx g6 x42 = some e ∧
 (Inv (wr (x42 + 1)) (g6.set (x42).toNat (List.replicate ((r.1.length : Int)).toNat false)) ∧ mu (wr (x42 + 1)) (g6.set (x42).toNat (List.replicate ((r.1.length : Int)).toNat false)) < mu x42 g6)) (∃ (Inv_2 : Int → (List (List Bool)) → Prop) (mu_2 : Int → (List (List Bool)) → Nat), Inv_2 0 g6 ∧
 ∀ (x54 : Int) (g6_2 : (List (List Bool))) , Inv_2 x54 g6_2 → (IfP (decide (x54 < (r.1.length : Int))) (∃ e_2, idx r.1 x54 = some e_2 ∧
 ∃ (Inv_3 : Int → (List (List Bool)) → Prop) (mu_3 : Int → (List (List Bool)) → Nat), Inv_3 0 g6_2 ∧
 ∀ (x59 : Int) (g6_3 : (List (List Bool))) , Inv_3 x59 g6_3 → (IfP (decide (x59 < 2)) (∃ (Inv_4 : Int → (List (List Bool)) → Prop) (mu_4 : Int → (List (List Bool)) → Nat), Inv_4 (wr ((((([] : (List Int)) ++ w.fHead) ++ w.fLoop).length : Int) - 1)) g6_3 ∧
 ∀ (x15 : Int) (g6_4 : (List (List Bool))) , Inv_4 x15 g6_4 → (IfP (decide (x15 ≥ 0)) (∃ J : (List (List Bool)) → Prop, (IfP (e_2.fKind == 6) (∃ e_3, idx g6_4 x15 = some e_3 ∧
 ((fun _ => True) x15) ∧
 ∃ e_4, idx g6_4 ((fun (x : Int) => nxtR ((([] : (List Int)) ++ w.fHead) ++ w.fLoop) w x) x15) = some e_4 ∧
 ∃ e_5, idx e_4 e_2.fA = some e_5 ∧
 ∃ e_6, idx e_3 x54 = some e_6 ∧
 J (g6_4.set (x15).toNat (e_3.set (x54).toNat e_5))) (IfP (e_2.fKind == 7) (∃ e_7, idx g6_4 x15 = some e_7 ∧
 ∃ e_8, idx g6_4 x15 = some e_8 ∧
 ∃ e_9, idx e_8 e_2.fB = some e_9 ∧
 IfP e_9 (∃ e_10, idx e_7 x54 = some e_10 ∧
 J (g6_4.set (x15).toNat (e_7.set (x54).toNat true))) (∃ e_11, idx g6_4 x15 = some e_11 ∧
 ∃ e_12, idx e_11 e_2.fA = some e_12 ∧
 IfP e_12 (((fun _ => True) x15) ∧
 ∃ e_13, idx g6_4 ((fun (x : Int) => nxtR ((([] : (List Int)) ++ w.fHead) ++ w.fLoop) w x) x15) = some e_13 ∧
 ∃ e_14, idx e_13 x54 = some e_14 ∧
 ∃ e_15, idx e_7 x54 = some e_15 ∧
 J (g6_4.set (x15).toNat (e_7.set (x54).toNat e_14))) (∃ e_16, idx e_7 x54 = some e_16 ∧
 J (g6_4.set (x15).toNat (e_7.set (x54).toNat false))))) (∃ e_17, idx g6_4 x15 = some e_17 ∧
 ∃ e_18, idx ((([] : (List Int)) ++ w.fHead) ++ w.fLoop) x15 = some e_18 ∧
 ∃ e_19, idx g6_4 x15 = some e_19 ∧
 (PlPre e_2 e_19) ∧
 ∃ e_20, idx e_17 x54 = some e_20 ∧
 J (g6_4.set (x15).toNat (e_17.set (x54).toNat (plR e_2 e_18 e_19)))))) ∧
 (∀ (g6_5 : (List (List Bool))), J g6_5 → (Inv_4 (wr (x15 - 1)) g6_5 ∧ mu_4 (wr (x15 - 1)) g6_5 < mu_4 x15 g6_4))) ((Inv_3 (wr (x59 + 1)) g6_4 ∧ mu_3 (wr (x59 + 1)) g6_4 < mu_3 x59 g6_3)))) ((Inv_2 (wr (x54 + 1)) g6_3 ∧ mu_2 (wr (x54 + 1)) g6_3 < mu_2 x54 g6_2)))) (∃ e_21, idx g6_2 0 = some e_21 ∧
 ∃ e_22, idx e_21 (wr ((r.1.length : Int) - 1)) = some e_22 ∧
 Q (e_22, 0)))))))))
set_option maxHeartbeats 2000000 in
theorem tHolds_walk (text : ByteArray) (w : ApiLasso) (Q : (Bool × Int) → Prop) (h : tHolds_vc text w Q) : Ct 21 [.sv (.one (.v (.string text))), .sv (.agg [LS intT w.fHead, LS intT w.fLoop])] [] Q (fun (r : (Bool × Int)) => .tup [.one (B r.1), .one (I r.2)]) := by
 have ht := tab_ok
 refine Ct.body Try.func21 rfl rfl rfl rfl (fun c hn => ?_)
 unfold tHolds_vc at h
 refine En.lenA 1 0 (by rfl) (by rfl) (fun hl => ?_)
 replace h := h hl
 clear hl
 refine En.lenA 1 1 (by rfl) (by rfl) (fun hl => ?_)
 replace h := h hl
 clear hl
 refine En.seq ?_
 refine En.region ?_
 refine WL.run ht hn 3 ⟨[sl 0 (.v (.string text)), sl 3 (.ptr 0 0)], [.box (ApiLasso.cl w) 59 false]⟩ (by kernel_rfl) ?_
 refine WL.nil ?_
 refine En.seq ?_
 refine En.region ?_
 refine WL.run ht hn 1 ⟨[sl 3 (.ptr 0 0), sl 17 (.v (.string text))], [.box (ApiLasso.cl w) 59 false]⟩ (by kernel_rfl) ?_
 refine WL.mtQ (Q := TParsedQ text) (x := fun (r : ((List TimeNode) × ApiFault)) => .tup [.one (LS TimeNode.ty r.1), .agg (ApiFault.cl r.2)]) (p := fun _ => none) hn (by rfl) (mtq_call (tParsed_ct text) en60 (caps := []) [] rfl (by rfl) (by kernel_rfl) (by kernel_rfl) (by rfl) (fun _ => rfl) (by rfl)) (fun r hr_2 => ⟨by rfl, _, by rfl, ?_⟩)
 replace h := h r hr_2
 refine WL.run ht hn 6 ⟨[sl 3 (.ptr 0 0), sl 6 (LS TimeNode.ty r.1), sl 7 (.ptr 1 0)], [.box (ApiLasso.cl w) 59 false, .box (ApiFault.cl r.2) 63 false]⟩ (by kernel_rfl) ?_
 refine WL.nil ?_
 refine En.seq ?_
 refine En.seq ?_
 refine En.region ?_
 refine WL.run ht hn 3 ⟨[sl 3 (.ptr 0 0), sl 6 (LS TimeNode.ty r.1), sl 23 (B (r.2.fCode != 0))], [.box (ApiLasso.cl w) 59 false, .gone]⟩ (by kernel_rfl) ?_
 refine WL.nil ?_
 refine En.cond (b := (r.2.fCode != 0)) (by kernel_rfl) (fun hb => ?_) (fun hb => ?_)
 replace h := h.1 hb
 refine En.seq ?_
 refine En.region ?_
 refine WL.run ht hn 2 ⟨[sl 4 (B false), sl 5 (I 4)], [.gone, .gone]⟩ (by kernel_rfl) ?_
 refine WL.nil ?_
 refine En.ret ?_
 exact En.back ht (false, 4) h (by kernel_rfl) rfl
 replace h := h.2 hb
 refine En.skip ?_
 refine En.seq ?_
 refine En.seq ?_
 refine En.region ?_
 refine WL.run ht hn 1 ⟨[sl 3 (.ptr 0 0), sl 6 (LS TimeNode.ty r.1), (24, .sv (.agg (ApiLasso.cl w)))], [.box (ApiLasso.cl w) 59 false, .gone]⟩ (by kernel_rfl) ?_
 refine WL.mt0 (K := []) (p := none) hn (by rfl) (mt_call (lassoW_ct 4 w) en61 (caps := []) [] rfl (by rfl) (by kernel_rfl) (by kernel_rfl) (by rfl) (by rfl) (by rfl)) (by rfl) (by rfl) (by rfl) ?_
 refine WL.run ht hn 1 ⟨[sl 3 (.ptr 0 0), sl 6 (LS TimeNode.ty r.1), sl 8 (I (lasE 4 w))], [.box (ApiLasso.cl w) 59 false, .gone]⟩ (by kernel_rfl) ?_
 refine WL.nil ?_
 refine En.seq ?_
 refine En.region ?_
 refine WL.run ht hn 2 ⟨[sl 3 (.ptr 0 0), sl 6 (LS TimeNode.ty r.1), sl 8 (I (lasE 4 w)), sl 27 (B ((lasE 4 w) != 0))], [.box (ApiLasso.cl w) 59 false, .gone]⟩ (by kernel_rfl) ?_
 refine WL.nil ?_
 refine En.cond (b := ((lasE 4 w) != 0)) (by kernel_rfl) (fun hb => ?_) (fun hb => ?_)
 replace h := h.1 hb
 refine En.seq ?_
 refine En.region ?_
 refine WL.run ht hn 3 ⟨[sl 4 (B false), sl 5 (I (lasE 4 w))], [.gone, .gone]⟩ (by kernel_rfl) ?_
 refine WL.nil ?_
 refine En.ret ?_
 exact En.back ht (false, (lasE 4 w)) h (by kernel_rfl) rfl
 replace h := h.2 hb
 refine En.skip ?_
 refine En.seq ?_
 have hp_2 := h.1
 replace h := h.2
 have hp_3 := h.1
 replace h := h.2
 refine En.regionA ⟨[sl 3 (.ptr 0 0), sl 6 (LS TimeNode.ty r.1)], [.sv (.one (.own 2)), .sv (.one (.ptr 0 0)), .sv (.one (LS intT w.fHead)), .sv (.one (.own 3)), .sv (.one (.ptr 0 1)), .sv (.one (LS intT w.fLoop)), .sv (.one (.own 4)), .sv (.one (.ptr 5 0)), .tup []], [⟨.box (ApiLasso.cl w) 59 false, none, none, none⟩, ⟨.gone, none, none, none⟩, ⟨rowI 3 intT ([] : (List Int)), some 0, some 3, none⟩, ⟨rowI 3 intT (([] : (List Int)) ++ w.fHead), some 3, some 6, none⟩, ⟨rowI 3 intT ((([] : (List Int)) ++ w.fHead) ++ w.fLoop), some 6, none, none⟩, ⟨.box [.v (.slice none 0 0)] 23 false, some 7, none, some (8, .box [.own 4] 23 false)⟩]⟩ ⟨[sl 3 (.ptr 0 0), sl 6 (LS TimeNode.ty r.1), sl 9 (.ptr 5 0)], [.box (ApiLasso.cl w) 59 false, .gone, .gone, .gone, rowI 3 intT ((([] : (List Int)) ++ w.fHead) ++ w.fLoop), .box [.own 4] 23 false]⟩ (by kernel_rfl) hn (by kernel_rfl) (by rfl) (by kernel_rfl) ?_ (by kernel_rfl) ?_
 exact ⟨.mt ⟨[], []⟩ [] (some 2) (by kernel_rfl) (by rfl) (mt_empty intT 2 ht rfl (by rfl) (by rfl) (by rfl)) rfl rfl rfl rfl,
 .mt ⟨[sl 3 (.ptr 0 0)], []⟩ [] none (by kernel_rfl) (by rfl) (mt_ev ht (by kernel_rfl)) rfl rfl rfl rfl,
 .mt ⟨[sl 30 (.ptr 0 0)], [.box (ApiLasso.cl w) 59 false]⟩ [] none (by kernel_rfl) (by rfl) (mt_ev ht (by kernel_rfl)) rfl rfl rfl rfl,
 .mt ⟨[sl 29 (.own 2), sl 31 (LS intT w.fHead)], [.gone, .gone, rowI 3 intT ([] : (List Int))]⟩ [2] (some 3) (by kernel_rfl) (by rfl) (mt_append (T := intT) (l := ([] : (List Int))) (es := w.fHead) (p := 3) ht rfl (by rfl) (by rfl) (by rfl) (by rfl) (by decide) (by rfl) (by rfl) (srcLS (T := intT) (es := w.fHead) (fun _ h => by cases h) (by decide) (by rfl)) (by exact hp_2) (by exact hp_2.le (by decide))) rfl rfl rfl rfl,
 .mt ⟨[sl 3 (.ptr 0 0)], []⟩ [] none (by kernel_rfl) (by rfl) (mt_ev ht (by kernel_rfl)) rfl rfl rfl rfl,
 .mt ⟨[sl 33 (.ptr 0 1)], [.box (ApiLasso.cl w) 59 false]⟩ [] none (by kernel_rfl) (by rfl) (mt_ev ht (by kernel_rfl)) rfl rfl rfl rfl,
 .mt ⟨[sl 32 (.own 3), sl 34 (LS intT w.fLoop)], [.gone, .gone, .gone, rowI 3 intT (([] : (List Int)) ++ w.fHead)]⟩ [3] (some 4) (by kernel_rfl) (by rfl) (mt_append (T := intT) (l := (([] : (List Int)) ++ w.fHead)) (es := w.fLoop) (p := 4) ht rfl (by rfl) (by rfl) (by rfl) (by rfl) (by decide) (by rfl) (by rfl) (srcLS (T := intT) (es := w.fLoop) (fun _ h => by cases h) (by decide) (by rfl)) (by exact hp_3) (by exact hp_3.le (by decide))) rfl rfl rfl rfl,
 .mt ⟨[], []⟩ [] (some 5) (by kernel_rfl) (by rfl) (mt_alloc2 5 23 ht rfl (by rfl) (by rfl)) rfl rfl rfl rfl,
 .mu ⟨[sl 9 (.ptr 5 0), sl 35 (.own 4)], [.gone, .gone, .gone, .gone, .gone, .box [.v (.slice none 0 0)] 23 false]⟩ 5 _ _ rfl rfl (by kernel_rfl) (by rfl) (mu_store2 ht rfl (by rfl) (by rfl) (by rfl) (by rfl) (fun h => by cases h) (by rfl) (by rfl)) rfl rfl rfl rfl rfl rfl rfl,
 trivial⟩
 refine En.seq ?_
 refine En.region ?_
 refine WL.run ht hn 2 ⟨[sl 6 (LS TimeNode.ty r.1), sl 9 (.ptr 5 0), sl 10 (.fn 62 [5, 0])], [.box (ApiLasso.cl w) 59 false, .gone, .gone, .gone, rowI 3 intT ((([] : (List Int)) ++ w.fHead) ++ w.fLoop), .box [.own 4] 23 false]⟩ (by kernel_rfl) ?_
 refine WL.nil ?_
 refine En.seq ?_
 refine En.region ?_
 refine WL.run ht hn 2 ⟨[sl 6 (LS TimeNode.ty r.1), sl 9 (.ptr 5 0), sl 10 (.fn 62 [5, 0]), sl 38 (I (((([] : (List Int)) ++ w.fHead) ++ w.fLoop).length : Int))], [.box (ApiLasso.cl w) 59 false, .gone, .gone, .gone, rowI 3 intT ((([] : (List Int)) ++ w.fHead) ++ w.fLoop), .box [.own 4] 23 false]⟩ (by kernel_rfl) ?_
 have hp := h.1
 replace h := h.2
 refine WL.mt0 (K := []) (p := some (6, gridI 56 4 boolT (List.replicate ((((([] : (List Int)) ++ w.fHead) ++ w.fLoop).length : Int)).toNat ([] : (List Bool))))) hn (by rfl) (mt_makeG boolT 4 (zv := .slice none 0 0) 6 (l := (((([] : (List Int)) ++ w.fHead) ++ w.fLoop).length : Int)) (cp := (((([] : (List Int)) ++ w.fHead) ++ w.fLoop).length : Int)) ht rfl (by rfl) (by rfl) (by rfl) (by rfl) (by rfl) (by rfl) hp.1 hp.2.1 hp.2.2 (hp.le (by decide)) rfl rfl) (by rfl) (by rfl) (by rfl) ?_
 refine WL.run ht hn 1 ⟨[sl 6 (LS TimeNode.ty r.1), sl 9 (.ptr 5 0), sl 10 (.fn 62 [5, 0]), sl 11 (.gs 6 0)], [.box (ApiLasso.cl w) 59 false, .gone, .gone, .gone, rowI 3 intT ((([] : (List Int)) ++ w.fHead) ++ w.fLoop), .box [.own 4] 23 false, gridI 56 4 boolT (List.replicate ((((([] : (List Int)) ++ w.fHead) ++ w.fLoop).length : Int)).toNat ([] : (List Bool)))]⟩ (by kernel_rfl) ?_
 refine WL.nil ?_
 refine En.seq ?_
 refine En.seq ?_
 refine En.region ?_
 refine WL.run ht hn 1 ⟨[sl 6 (LS TimeNode.ty r.1), sl 9 (.ptr 5 0), sl 10 (.fn 62 [5, 0]), sl 11 (.gs 6 0), sl 40 (.gs 6 0)], [.box (ApiLasso.cl w) 59 false, .gone, .gone, .gone, rowI 3 intT ((([] : (List Int)) ++ w.fHead) ++ w.fLoop), .box [.own 4] 23 false, gridI 56 4 boolT (List.replicate ((((([] : (List Int)) ++ w.fHead) ++ w.fLoop).length : Int)).toNat ([] : (List Bool)))]⟩ (by kernel_rfl) ?_
 refine WL.val hn (by rfl) (val_lenG0 (T := boolT) (L := (List.replicate ((((([] : (List Int)) ++ w.fHead) ++ w.fLoop).length : Int)).toNat ([] : (List Bool)))) ht rfl (by rfl) (by rfl) (by rfl) (by rfl)) (by rfl) ?_
 refine WL.run ht hn 1 ⟨[sl 6 (LS TimeNode.ty r.1), sl 9 (.ptr 5 0), sl 10 (.fn 62 [5, 0]), sl 11 (.gs 6 0), sl 41 (I ((List.replicate ((((([] : (List Int)) ++ w.fHead) ++ w.fLoop).length : Int)).toNat ([] : (List Bool))).length : Int)), sl 42 (I 0)], [.box (ApiLasso.cl w) 59 false, .gone, .gone, .gone, rowI 3 intT ((([] : (List Int)) ++ w.fHead) ++ w.fLoop), .box [.own 4] 23 false, gridI 56 4 boolT (List.replicate ((((([] : (List Int)) ++ w.fHead) ++ w.fLoop).length : Int)).toNat ([] : (List Bool)))]⟩ (by kernel_rfl) ?_
 refine WL.nil ?_
 refine En.block ?_
 refine En.seal (T := intT) (l := ((([] : (List Int)) ++ w.fHead) ++ w.fLoop)) (e := 3) 4 rfl ?_
 refine En.freeze [5, 0] (by rfl) ?_
 refine En.ghost 10 (o1 (.rd (fvR (fun (x_ : Int) => [.sv (.one (I x_))]) (fun (r : Int) => .sv (.one (I r))) (fun _ => True) (fun (x : Int) => nxtR ((([] : (List Int)) ++ w.fHead) ++ w.fLoop) w x)))) (by rfl) (fv_of (M := [.box [LS intT ((([] : (List Int)) ++ w.fHead) ++ w.fLoop)] 23 true, .box (ApiLasso.cl w) 59 true]) (caps := [5, 0]) (fun x_ _ => tNext_ct x_ ((([] : (List Int)) ++ w.fHead) ++ w.fLoop) w) en62 rfl (by kernel_rfl) (by rfl) (fun _ => rfl)) ?_
 obtain ⟨Inv, mu, h0_4, hI_4⟩ := h
 refine En.loop (σ := Int × (List (List Bool))) (fun zz => Inv zz.1 zz.2) (fun zz => mu zz.1 zz.2) (fun zz => ⟨[sl 6 (LS TimeNode.ty r.1), sl 9 (.ptr 5 0), sl 10 (.rd (fvR (fun (x_ : Int) => [.sv (.one (I x_))]) (fun (r : Int) => .sv (.one (I r))) (fun _ => True) (fun (x : Int) => nxtR ((([] : (List Int)) ++ w.fHead) ++ w.fLoop) w x))), sl 11 (.gs 6 0), sl 41 (I ((List.replicate ((((([] : (List Int)) ++ w.fHead) ++ w.fLoop).length : Int)).toNat ([] : (List Bool))).length : Int)), sl 42 (I zz.1)], [.gone, .gone, .gone, .gone, .gone, .box [LS intT ((([] : (List Int)) ++ w.fHead) ++ w.fLoop)] 23 true, gridI 56 4 boolT zz.2]⟩) (0, (List.replicate ((((([] : (List Int)) ++ w.fHead) ++ w.fLoop).length : Int)).toNat ([] : (List Bool)))) h0_4 (sub_ok (by kernel_rfl)) ?_
 rintro ⟨x42, g6⟩ h
 replace h := hI_4 _ _ h
 show En c ⟨[sl 6 (LS TimeNode.ty r.1), sl 9 (.ptr 5 0), sl 10 (.rd (fvR (fun (x_ : Int) => [.sv (.one (I x_))]) (fun (r : Int) => .sv (.one (I r))) (fun _ => True) (fun (x : Int) => nxtR ((([] : (List Int)) ++ w.fHead) ++ w.fLoop) w x))), sl 11 (.gs 6 0), sl 41 (I ((List.replicate ((((([] : (List Int)) ++ w.fHead) ++ w.fLoop).length : Int)).toNat ([] : (List Bool))).length : Int)), sl 42 (I x42)], [.gone, .gone, .gone, .gone, .gone, .box [LS intT ((([] : (List Int)) ++ w.fHead) ++ w.fLoop)] 23 true, gridI 56 4 boolT g6]⟩ _
 refine En.seq ?_
 refine En.region ?_
 refine WL.run ht hn 1 ⟨[sl 6 (LS TimeNode.ty r.1), sl 9 (.ptr 5 0), sl 10 (.rd (fvR (fun (x_ : Int) => [.sv (.one (I x_))]) (fun (r : Int) => .sv (.one (I r))) (fun _ => True) (fun (x : Int) => nxtR ((([] : (List Int)) ++ w.fHead) ++ w.fLoop) w x))), sl 11 (.gs 6 0), sl 41 (I ((List.replicate ((((([] : (List Int)) ++ w.fHead) ++ w.fLoop).length : Int)).toNat ([] : (List Bool))).length : Int)), sl 42 (I x42), sl 43 (B (decide (x42 < ((List.replicate ((((([] : (List Int)) ++ w.fHead) ++ w.fLoop).length : Int)).toNat ([] : (List Bool))).length : Int))))], [.gone, .gone, .gone, .gone, .gone, .box [LS intT ((([] : (List Int)) ++ w.fHead) ++ w.fLoop)] 23 true, gridI 56 4 boolT g6]⟩ (by kernel_rfl) ?_
 refine WL.nil ?_
 refine En.seq ?_
 refine En.cond (b := (decide (x42 < ((List.replicate ((((([] : (List Int)) ++ w.fHead) ++ w.fLoop).length : Int)).toNat ([] : (List Bool))).length : Int)))) (by kernel_rfl) (fun hb => ?_) (fun hb => ?_)
 replace h := h.1 hb
 refine En.skip ?_
 refine En.seq ?_
 refine En.block ?_
 refine En.seq ?_
 refine En.region ?_
 refine WL.run ht hn 2 ⟨[sl 6 (LS TimeNode.ty r.1), sl 9 (.ptr 5 0), sl 10 (.rd (fvR (fun (x_ : Int) => [.sv (.one (I x_))]) (fun (r : Int) => .sv (.one (I r))) (fun _ => True) (fun (x : Int) => nxtR ((([] : (List Int)) ++ w.fHead) ++ w.fLoop) w x))), sl 11 (.gs 6 0), sl 12 (I x42), sl 41 (I ((List.replicate ((((([] : (List Int)) ++ w.fHead) ++ w.fLoop).length : Int)).toNat ([] : (List Bool))).length : Int)), sl 42 (I x42)], [.gone, .gone, .gone, .gone, .gone, .box [LS intT ((([] : (List Int)) ++ w.fHead) ++ w.fLoop)] 23 true, gridI 56 4 boolT g6]⟩ (by kernel_rfl) ?_
 refine WL.nil ?_
 refine En.region ?_
 refine WL.run ht hn 4 ⟨[sl 6 (LS TimeNode.ty r.1), sl 9 (.ptr 5 0), sl 10 (.rd (fvR (fun (x_ : Int) => [.sv (.one (I x_))]) (fun (r : Int) => .sv (.one (I r))) (fun _ => True) (fun (x : Int) => nxtR ((([] : (List Int)) ++ w.fHead) ++ w.fLoop) w x))), sl 11 (.gs 6 0), sl 41 (I ((List.replicate ((((([] : (List Int)) ++ w.fHead) ++ w.fLoop).length : Int)).toNat ([] : (List Bool))).length : Int)), sl 42 (I x42), sl 45 (.gs 6 0), sl 46 (I x42), sl 48 (I (r.1.length : Int))], [.gone, .gone, .gone, .gone, .gone, .box [LS intT ((([] : (List Int)) ++ w.fHead) ++ w.fLoop)] 23 true, gridI 56 4 boolT g6]⟩ (by kernel_rfl) ?_
 have hp := h.1
 replace h := h.2
 refine WL.mt0 (K := []) (p := some (7, rowI 4 boolT (List.replicate ((r.1.length : Int)).toNat false))) hn (by rfl) (mt_make (T := boolT) false (zv := (.bool false)) 7 (l := (r.1.length : Int)) (cp := (r.1.length : Int)) ht rfl (by rfl) (by rfl) (by rfl) (by rfl) (by decide) (by rfl) (by rfl) hp.1 hp.2.1 hp.2.2 (hp.le (by decide)) rfl (fun _ => ⟨rfl, trivial⟩)) (by rfl) (by rfl) (by rfl) ?_
 obtain ⟨e, he, h⟩ := h
 refine WL.val hn (by rfl) (val_indexG0 (T := boolT) (L := g6) (k := x42) ht rfl (by rfl) (by rfl) (by rfl) (by rfl) (by rfl) (by rfl) (by rfl) ⟨(idx_some he).1, (idx_some he).2.1⟩) (by rfl) ?_
 refine WL.putG (T := boolT) (L := g6) (l := (List.replicate ((r.1.length : Int)).toNat false)) ht hn (by rfl) rfl (by rfl) (by rfl) (by rfl) (by rfl) (by rfl) (by rfl) (idx_lt he) (by rfl) (by rfl) ?_
 refine WL.sub ⟨[sl 6 (LS TimeNode.ty r.1), sl 9 (.ptr 5 0), sl 10 (.rd (fvR (fun (x_ : Int) => [.sv (.one (I x_))]) (fun (r : Int) => .sv (.one (I r))) (fun _ => True) (fun (x : Int) => nxtR ((([] : (List Int)) ++ w.fHead) ++ w.fLoop) w x))), sl 11 (.gs 6 0), sl 41 (I ((List.replicate ((((([] : (List Int)) ++ w.fHead) ++ w.fLoop).length : Int)).toNat ([] : (List Bool))).length : Int)), sl 42 (I x42), sl 45 (.gs 6 0), sl 46 (I x42), sl 48 (I (r.1.length : Int))], [.gone, .gone, .gone, .gone, .gone, .box [LS intT ((([] : (List Int)) ++ w.fHead) ++ w.fLoop)] 23 true, gridI 56 4 boolT (g6.set (x42).toNat (List.replicate ((r.1.length : Int)).toNat false)), .gone]⟩ (by kernel_rfl) ?_
 refine WL.nil ?_
 refine En.region ?_
 refine WL.run ht hn 2 ⟨[sl 6 (LS TimeNode.ty r.1), sl 9 (.ptr 5 0), sl 10 (.rd (fvR (fun (x_ : Int) => [.sv (.one (I x_))]) (fun (r : Int) => .sv (.one (I r))) (fun _ => True) (fun (x : Int) => nxtR ((([] : (List Int)) ++ w.fHead) ++ w.fLoop) w x))), sl 11 (.gs 6 0), sl 41 (I ((List.replicate ((((([] : (List Int)) ++ w.fHead) ++ w.fLoop).length : Int)).toNat ([] : (List Bool))).length : Int)), sl 42 (I (wr (x42 + 1)))], [.gone, .gone, .gone, .gone, .gone, .box [LS intT ((([] : (List Int)) ++ w.fHead) ++ w.fLoop)] 23 true, gridI 56 4 boolT (g6.set (x42).toNat (List.replicate ((r.1.length : Int)).toNat false)), .gone]⟩ (by kernel_rfl) ?_
 refine WL.nil ?_
 exact En.at (I := fun zz => Inv zz.1 zz.2 ∧ mu zz.1 zz.2 < mu x42 g6) (T := fun zz => ⟨[sl 6 (LS TimeNode.ty r.1), sl 9 (.ptr 5 0), sl 10 (.rd (fvR (fun (x_ : Int) => [.sv (.one (I x_))]) (fun (r : Int) => .sv (.one (I r))) (fun _ => True) (fun (x : Int) => nxtR ((([] : (List Int)) ++ w.fHead) ++ w.fLoop) w x))), sl 11 (.gs 6 0), sl 41 (I ((List.replicate ((((([] : (List Int)) ++ w.fHead) ++ w.fLoop).length : Int)).toNat ([] : (List Bool))).length : Int)), sl 42 (I zz.1)], [.gone, .gone, .gone, .gone, .gone, .box [LS intT ((([] : (List Int)) ++ w.fHead) ++ w.fLoop)] 23 true, gridI 56 4 boolT zz.2]⟩) ((wr (x42 + 1)), (g6.set (x42).toNat (List.replicate ((r.1.length : Int)).toNat false))) h (by kernel_rfl)
 replace h := h.2 hb
 refine En.exit rfl ?_
 refine En.seq ?_
 refine En.seq ?_
 refine En.region ?_
 refine WL.run ht hn 3 ⟨[sl 6 (LS TimeNode.ty r.1), sl 9 (.ptr 5 0), sl 10 (.rd (fvR (fun (x_ : Int) => [.sv (.one (I x_))]) (fun (r : Int) => .sv (.one (I r))) (fun _ => True) (fun (x : Int) => nxtR ((([] : (List Int)) ++ w.fHead) ++ w.fLoop) w x))), sl 11 (.gs 6 0), sl 52 (LS TimeNode.ty r.1), sl 53 (I (r.1.length : Int)), sl 54 (I 0)], [.gone, .gone, .gone, .gone, .gone, .box [LS intT ((([] : (List Int)) ++ w.fHead) ++ w.fLoop)] 23 true, gridI 56 4 boolT g6]⟩ (by kernel_rfl) ?_
 refine WL.nil ?_
 refine En.block ?_
 obtain ⟨Inv_2, mu_2, h0_3, hI_3⟩ := h
 refine En.loop (σ := Int × (List (List Bool))) (fun zz => Inv_2 zz.1 zz.2) (fun zz => mu_2 zz.1 zz.2) (fun zz => ⟨[sl 6 (LS TimeNode.ty r.1), sl 9 (.ptr 5 0), sl 10 (.rd (fvR (fun (x_ : Int) => [.sv (.one (I x_))]) (fun (r : Int) => .sv (.one (I r))) (fun _ => True) (fun (x : Int) => nxtR ((([] : (List Int)) ++ w.fHead) ++ w.fLoop) w x))), sl 11 (.gs 6 0), sl 52 (LS TimeNode.ty r.1), sl 53 (I (r.1.length : Int)), sl 54 (I zz.1)], [.gone, .gone, .gone, .gone, .gone, .box [LS intT ((([] : (List Int)) ++ w.fHead) ++ w.fLoop)] 23 true, gridI 56 4 boolT zz.2]⟩) (0, g6) h0_3 (sub_ok (by kernel_rfl)) ?_
 rintro ⟨x54, g6_2⟩ h
 replace h := hI_3 _ _ h
 show En c ⟨[sl 6 (LS TimeNode.ty r.1), sl 9 (.ptr 5 0), sl 10 (.rd (fvR (fun (x_ : Int) => [.sv (.one (I x_))]) (fun (r : Int) => .sv (.one (I r))) (fun _ => True) (fun (x : Int) => nxtR ((([] : (List Int)) ++ w.fHead) ++ w.fLoop) w x))), sl 11 (.gs 6 0), sl 52 (LS TimeNode.ty r.1), sl 53 (I (r.1.length : Int)), sl 54 (I x54)], [.gone, .gone, .gone, .gone, .gone, .box [LS intT ((([] : (List Int)) ++ w.fHead) ++ w.fLoop)] 23 true, gridI 56 4 boolT g6_2]⟩ _
 refine En.seq ?_
 refine En.region ?_
 refine WL.run ht hn 1 ⟨[sl 6 (LS TimeNode.ty r.1), sl 9 (.ptr 5 0), sl 10 (.rd (fvR (fun (x_ : Int) => [.sv (.one (I x_))]) (fun (r : Int) => .sv (.one (I r))) (fun _ => True) (fun (x : Int) => nxtR ((([] : (List Int)) ++ w.fHead) ++ w.fLoop) w x))), sl 11 (.gs 6 0), sl 52 (LS TimeNode.ty r.1), sl 53 (I (r.1.length : Int)), sl 54 (I x54), sl 55 (B (decide (x54 < (r.1.length : Int))))], [.gone, .gone, .gone, .gone, .gone, .box [LS intT ((([] : (List Int)) ++ w.fHead) ++ w.fLoop)] 23 true, gridI 56 4 boolT g6_2]⟩ (by kernel_rfl) ?_
 refine WL.nil ?_
 refine En.seq ?_
 refine En.cond (b := (decide (x54 < (r.1.length : Int)))) (by kernel_rfl) (fun hb => ?_) (fun hb => ?_)
 replace h := h.1 hb
 refine En.skip ?_
 refine En.seq ?_
 refine En.block ?_
 refine En.seq ?_
 refine En.region ?_
 refine WL.run ht hn 1 ⟨[sl 6 (LS TimeNode.ty r.1), sl 9 (.ptr 5 0), sl 10 (.rd (fvR (fun (x_ : Int) => [.sv (.one (I x_))]) (fun (r : Int) => .sv (.one (I r))) (fun _ => True) (fun (x : Int) => nxtR ((([] : (List Int)) ++ w.fHead) ++ w.fLoop) w x))), sl 11 (.gs 6 0), sl 52 (LS TimeNode.ty r.1), sl 53 (I (r.1.length : Int)), sl 54 (I x54), sl 56 (I x54)], [.gone, .gone, .gone, .gone, .gone, .box [LS intT ((([] : (List Int)) ++ w.fHead) ++ w.fLoop)] 23 true, gridI 56 4 boolT g6_2]⟩ (by kernel_rfl) ?_
 obtain ⟨e_2, he_2, h⟩ := h
 refine WL.val hn (by rfl) (val_index (T := TimeNode.ty) (l := r.1) (i := x54) ht rfl (by rfl) (by rfl) (by rfl) (by rfl) (by rfl) (by rfl) he_2) (by rfl) ?_
 refine WL.val hn (by rfl) (val_load (s := .agg (TimeNode.cl e_2)) ht rfl (by rfl) (by rfl) (by rfl) (by rfl) (by rfl)) (by rfl) ?_
 refine WL.run ht hn 3 ⟨[sl 6 (LS TimeNode.ty r.1), sl 9 (.ptr 5 0), sl 10 (.rd (fvR (fun (x_ : Int) => [.sv (.one (I x_))]) (fun (r : Int) => .sv (.one (I r))) (fun _ => True) (fun (x : Int) => nxtR ((([] : (List Int)) ++ w.fHead) ++ w.fLoop) w x))), sl 11 (.gs 6 0), sl 13 (I x54), sl 14 (.ptr 7 0), sl 52 (LS TimeNode.ty r.1), sl 53 (I (r.1.length : Int)), sl 54 (I x54)], [.gone, .gone, .gone, .gone, .gone, .box [LS intT ((([] : (List Int)) ++ w.fHead) ++ w.fLoop)] 23 true, gridI 56 4 boolT g6_2, .box (TimeNode.cl e_2) 139 false]⟩ (by kernel_rfl) ?_
 refine WL.nil ?_
 refine En.seq ?_
 refine En.region ?_
 refine WL.run ht hn 1 ⟨[sl 6 (LS TimeNode.ty r.1), sl 9 (.ptr 5 0), sl 10 (.rd (fvR (fun (x_ : Int) => [.sv (.one (I x_))]) (fun (r : Int) => .sv (.one (I r))) (fun _ => True) (fun (x : Int) => nxtR ((([] : (List Int)) ++ w.fHead) ++ w.fLoop) w x))), sl 11 (.gs 6 0), sl 13 (I x54), sl 14 (.ptr 7 0), sl 52 (LS TimeNode.ty r.1), sl 53 (I (r.1.length : Int)), sl 54 (I x54), sl 59 (I 0)], [.gone, .gone, .gone, .gone, .gone, .box [LS intT ((([] : (List Int)) ++ w.fHead) ++ w.fLoop)] 23 true, gridI 56 4 boolT g6_2, .box (TimeNode.cl e_2) 139 false]⟩ (by kernel_rfl) ?_
 refine WL.nil ?_
 refine En.block ?_
 obtain ⟨Inv_3, mu_3, h0_2, hI_2⟩ := h
 refine En.loop (σ := Int × (List (List Bool))) (fun zz => Inv_3 zz.1 zz.2) (fun zz => mu_3 zz.1 zz.2) (fun zz => ⟨[sl 6 (LS TimeNode.ty r.1), sl 9 (.ptr 5 0), sl 10 (.rd (fvR (fun (x_ : Int) => [.sv (.one (I x_))]) (fun (r : Int) => .sv (.one (I r))) (fun _ => True) (fun (x : Int) => nxtR ((([] : (List Int)) ++ w.fHead) ++ w.fLoop) w x))), sl 11 (.gs 6 0), sl 13 (I x54), sl 14 (.ptr 7 0), sl 52 (LS TimeNode.ty r.1), sl 53 (I (r.1.length : Int)), sl 54 (I x54), sl 59 (I zz.1)], [.gone, .gone, .gone, .gone, .gone, .box [LS intT ((([] : (List Int)) ++ w.fHead) ++ w.fLoop)] 23 true, gridI 56 4 boolT zz.2, .box (TimeNode.cl e_2) 139 false]⟩) (0, g6_2) h0_2 (sub_ok (by kernel_rfl)) ?_
 rintro ⟨x59, g6_3⟩ h
 replace h := hI_2 _ _ h
 show En c ⟨[sl 6 (LS TimeNode.ty r.1), sl 9 (.ptr 5 0), sl 10 (.rd (fvR (fun (x_ : Int) => [.sv (.one (I x_))]) (fun (r : Int) => .sv (.one (I r))) (fun _ => True) (fun (x : Int) => nxtR ((([] : (List Int)) ++ w.fHead) ++ w.fLoop) w x))), sl 11 (.gs 6 0), sl 13 (I x54), sl 14 (.ptr 7 0), sl 52 (LS TimeNode.ty r.1), sl 53 (I (r.1.length : Int)), sl 54 (I x54), sl 59 (I x59)], [.gone, .gone, .gone, .gone, .gone, .box [LS intT ((([] : (List Int)) ++ w.fHead) ++ w.fLoop)] 23 true, gridI 56 4 boolT g6_3, .box (TimeNode.cl e_2) 139 false]⟩ _
 refine En.seq ?_
 refine En.region ?_
 refine WL.run ht hn 1 ⟨[sl 6 (LS TimeNode.ty r.1), sl 9 (.ptr 5 0), sl 10 (.rd (fvR (fun (x_ : Int) => [.sv (.one (I x_))]) (fun (r : Int) => .sv (.one (I r))) (fun _ => True) (fun (x : Int) => nxtR ((([] : (List Int)) ++ w.fHead) ++ w.fLoop) w x))), sl 11 (.gs 6 0), sl 13 (I x54), sl 14 (.ptr 7 0), sl 52 (LS TimeNode.ty r.1), sl 53 (I (r.1.length : Int)), sl 54 (I x54), sl 59 (I x59), sl 60 (B (decide (x59 < 2)))], [.gone, .gone, .gone, .gone, .gone, .box [LS intT ((([] : (List Int)) ++ w.fHead) ++ w.fLoop)] 23 true, gridI 56 4 boolT g6_3, .box (TimeNode.cl e_2) 139 false]⟩ (by kernel_rfl) ?_
 refine WL.nil ?_
 refine En.seq ?_
 refine En.cond (b := (decide (x59 < 2))) (by kernel_rfl) (fun hb => ?_) (fun hb => ?_)
 replace h := h.1 hb
 refine En.skip ?_
 refine En.seq ?_
 refine En.block ?_
 refine En.seq ?_
 refine En.region ?_
 refine WL.run ht hn 4 ⟨[sl 6 (LS TimeNode.ty r.1), sl 9 (.ptr 5 0), sl 10 (.rd (fvR (fun (x_ : Int) => [.sv (.one (I x_))]) (fun (r : Int) => .sv (.one (I r))) (fun _ => True) (fun (x : Int) => nxtR ((([] : (List Int)) ++ w.fHead) ++ w.fLoop) w x))), sl 11 (.gs 6 0), sl 13 (I x54), sl 14 (.ptr 7 0), sl 15 (I (wr ((((([] : (List Int)) ++ w.fHead) ++ w.fLoop).length : Int) - 1))), sl 52 (LS TimeNode.ty r.1), sl 53 (I (r.1.length : Int)), sl 54 (I x54), sl 59 (I x59)], [.gone, .gone, .gone, .gone, .gone, .box [LS intT ((([] : (List Int)) ++ w.fHead) ++ w.fLoop)] 23 true, gridI 56 4 boolT g6_3, .box (TimeNode.cl e_2) 139 false]⟩ (by kernel_rfl) ?_
 refine WL.nil ?_
 refine En.block ?_
 obtain ⟨Inv_4, mu_4, h0, hI⟩ := h
 refine En.loop (σ := Int × (List (List Bool))) (fun zz => Inv_4 zz.1 zz.2) (fun zz => mu_4 zz.1 zz.2) (fun zz => ⟨[sl 6 (LS TimeNode.ty r.1), sl 9 (.ptr 5 0), sl 10 (.rd (fvR (fun (x_ : Int) => [.sv (.one (I x_))]) (fun (r : Int) => .sv (.one (I r))) (fun _ => True) (fun (x : Int) => nxtR ((([] : (List Int)) ++ w.fHead) ++ w.fLoop) w x))), sl 11 (.gs 6 0), sl 13 (I x54), sl 14 (.ptr 7 0), sl 15 (I zz.1), sl 52 (LS TimeNode.ty r.1), sl 53 (I (r.1.length : Int)), sl 54 (I x54), sl 59 (I x59)], [.gone, .gone, .gone, .gone, .gone, .box [LS intT ((([] : (List Int)) ++ w.fHead) ++ w.fLoop)] 23 true, gridI 56 4 boolT zz.2, .box (TimeNode.cl e_2) 139 false]⟩) ((wr ((((([] : (List Int)) ++ w.fHead) ++ w.fLoop).length : Int) - 1)), g6_3) h0 (sub_ok (by kernel_rfl)) ?_
 rintro ⟨x15, g6_4⟩ h
 replace h := hI _ _ h
 show En c ⟨[sl 6 (LS TimeNode.ty r.1), sl 9 (.ptr 5 0), sl 10 (.rd (fvR (fun (x_ : Int) => [.sv (.one (I x_))]) (fun (r : Int) => .sv (.one (I r))) (fun _ => True) (fun (x : Int) => nxtR ((([] : (List Int)) ++ w.fHead) ++ w.fLoop) w x))), sl 11 (.gs 6 0), sl 13 (I x54), sl 14 (.ptr 7 0), sl 15 (I x15), sl 52 (LS TimeNode.ty r.1), sl 53 (I (r.1.length : Int)), sl 54 (I x54), sl 59 (I x59)], [.gone, .gone, .gone, .gone, .gone, .box [LS intT ((([] : (List Int)) ++ w.fHead) ++ w.fLoop)] 23 true, gridI 56 4 boolT g6_4, .box (TimeNode.cl e_2) 139 false]⟩ _
 refine En.seq ?_
 refine En.seq ?_
 refine En.region ?_
 refine WL.run ht hn 2 ⟨[sl 6 (LS TimeNode.ty r.1), sl 9 (.ptr 5 0), sl 10 (.rd (fvR (fun (x_ : Int) => [.sv (.one (I x_))]) (fun (r : Int) => .sv (.one (I r))) (fun _ => True) (fun (x : Int) => nxtR ((([] : (List Int)) ++ w.fHead) ++ w.fLoop) w x))), sl 11 (.gs 6 0), sl 13 (I x54), sl 14 (.ptr 7 0), sl 15 (I x15), sl 52 (LS TimeNode.ty r.1), sl 53 (I (r.1.length : Int)), sl 54 (I x54), sl 59 (I x59), sl 65 (B (decide (x15 ≥ 0)))], [.gone, .gone, .gone, .gone, .gone, .box [LS intT ((([] : (List Int)) ++ w.fHead) ++ w.fLoop)] 23 true, gridI 56 4 boolT g6_4, .box (TimeNode.cl e_2) 139 false]⟩ (by kernel_rfl) ?_
 refine WL.nil ?_
 refine En.cond (b := (decide (x15 ≥ 0))) (by kernel_rfl) (fun hb => ?_) (fun hb => ?_)
 replace h := h.1 hb
 refine En.skip ?_
 obtain ⟨J, h, hJ⟩ := h
 refine En.seqJ (σ := (List (List Bool))) (fun zz => J zz) (fun zz => ⟨[sl 6 (LS TimeNode.ty r.1), sl 9 (.ptr 5 0), sl 10 (.rd (fvR (fun (x_ : Int) => [.sv (.one (I x_))]) (fun (r : Int) => .sv (.one (I r))) (fun _ => True) (fun (x : Int) => nxtR ((([] : (List Int)) ++ w.fHead) ++ w.fLoop) w x))), sl 11 (.gs 6 0), sl 13 (I x54), sl 14 (.ptr 7 0), sl 15 (I x15), sl 52 (LS TimeNode.ty r.1), sl 53 (I (r.1.length : Int)), sl 54 (I x54), sl 59 (I x59)], [.gone, .gone, .gone, .gone, .gone, .box [LS intT ((([] : (List Int)) ++ w.fHead) ++ w.fLoop)] 23 true, gridI 56 4 boolT zz, .box (TimeNode.cl e_2) 139 false]⟩) ?_ ?_
 refine En.block ?_
 refine En.seq ?_
 refine En.region ?_
 refine WL.run ht hn 2 ⟨[sl 6 (LS TimeNode.ty r.1), sl 9 (.ptr 5 0), sl 10 (.rd (fvR (fun (x_ : Int) => [.sv (.one (I x_))]) (fun (r : Int) => .sv (.one (I r))) (fun _ => True) (fun (x : Int) => nxtR ((([] : (List Int)) ++ w.fHead) ++ w.fLoop) w x))), sl 11 (.gs 6 0), sl 13 (I x54), sl 14 (.ptr 7 0), sl 15 (I x15), sl 52 (LS TimeNode.ty r.1), sl 53 (I (r.1.length : Int)), sl 54 (I x54), sl 59 (I x59), sl 69 (I e_2.fKind)], [.gone, .gone, .gone, .gone, .gone, .box [LS intT ((([] : (List Int)) ++ w.fHead) ++ w.fLoop)] 23 true, gridI 56 4 boolT g6_4, .box (TimeNode.cl e_2) 139 false]⟩ (by kernel_rfl) ?_
 refine WL.nil ?_
 refine En.block ?_
 refine En.seq ?_
 refine En.region ?_
 refine WL.run ht hn 2 ⟨[sl 6 (LS TimeNode.ty r.1), sl 9 (.ptr 5 0), sl 10 (.rd (fvR (fun (x_ : Int) => [.sv (.one (I x_))]) (fun (r : Int) => .sv (.one (I r))) (fun _ => True) (fun (x : Int) => nxtR ((([] : (List Int)) ++ w.fHead) ++ w.fLoop) w x))), sl 11 (.gs 6 0), sl 13 (I x54), sl 14 (.ptr 7 0), sl 15 (I x15), sl 52 (LS TimeNode.ty r.1), sl 53 (I (r.1.length : Int)), sl 54 (I x54), sl 59 (I x59), sl 69 (I e_2.fKind), sl 86 (B (e_2.fKind == 6))], [.gone, .gone, .gone, .gone, .gone, .box [LS intT ((([] : (List Int)) ++ w.fHead) ++ w.fLoop)] 23 true, gridI 56 4 boolT g6_4, .box (TimeNode.cl e_2) 139 false]⟩ (by kernel_rfl) ?_
 refine WL.nil ?_
 refine En.cond (b := (e_2.fKind == 6)) (by kernel_rfl) (fun hb => ?_) (fun hb => ?_)
 replace h := h.1 hb
 obtain ⟨e_3, he_3, h⟩ := h
 have hp_4 := h.1
 replace h := h.2
 obtain ⟨e_4, he_4, h⟩ := h
 obtain ⟨e_5, he_5, h⟩ := h
 refine En.regionT ⟨[sl 6 (LS TimeNode.ty r.1), sl 9 (.ptr 5 0), sl 10 (.rd (fvR (fun (x_ : Int) => [.sv (.one (I x_))]) (fun (r : Int) => .sv (.one (I r))) (fun _ => True) (fun (x : Int) => nxtR ((([] : (List Int)) ++ w.fHead) ++ w.fLoop) w x))), sl 11 (.gs 6 0), sl 13 (I x54), sl 14 (.ptr 7 0), sl 15 (I x15), sl 52 (LS TimeNode.ty r.1), sl 53 (I (r.1.length : Int)), sl 54 (I x54), sl 59 (I x59)], [.sv (.one (.gs 6 0)), .sv (.one (I x15)), .sv (.one (.ge 6 0 (x15).toNat 1)), .sv (.one (.gs 6 ((x15).toNat + 1))), .sv (.one (I x54)), .sv (.one (.gs 6 0)), .sv (.one (.rd (fvR (fun (x_ : Int) => [.sv (.one (I x_))]) (fun (r : Int) => .sv (.one (I r))) (fun _ => True) (fun (x : Int) => nxtR ((([] : (List Int)) ++ w.fHead) ++ w.fLoop) w x)))), .sv (.one (I x15)), .sv (.one (I ((fun (x : Int) => nxtR ((([] : (List Int)) ++ w.fHead) ++ w.fLoop) w x) x15))), .sv (.one (.ge 6 0 (((fun (x : Int) => nxtR ((([] : (List Int)) ++ w.fHead) ++ w.fLoop) w x) x15)).toNat 1)), .sv (.one (.gs 6 ((((fun (x : Int) => nxtR ((([] : (List Int)) ++ w.fHead) ++ w.fLoop) w x) x15)).toNat + 1))), .sv (.one (.ptr 7 1)), .sv (.one (I e_2.fA)), .sv (.one (.ge 6 ((((fun (x : Int) => nxtR ((([] : (List Int)) ++ w.fHead) ++ w.fLoop) w x) x15)).toNat + 1) (e_2.fA).toNat 1)), .sv (.one (B e_5))], [⟨.gone, none, none, none⟩, ⟨.gone, none, none, none⟩, ⟨.gone, none, none, none⟩, ⟨.gone, none, none, none⟩, ⟨.gone, none, none, none⟩, ⟨.box [LS intT ((([] : (List Int)) ++ w.fHead) ++ w.fLoop)] 23 true, none, none, none⟩, ⟨gridI 56 4 boolT g6_4, none, none, none⟩, ⟨.box (TimeNode.cl e_2) 139 false, none, none, none⟩]⟩ 15 ⟨[sl 6 (LS TimeNode.ty r.1), sl 9 (.ptr 5 0), sl 10 (.rd (fvR (fun (x_ : Int) => [.sv (.one (I x_))]) (fun (r : Int) => .sv (.one (I r))) (fun _ => True) (fun (x : Int) => nxtR ((([] : (List Int)) ++ w.fHead) ++ w.fLoop) w x))), sl 11 (.gs 6 0), sl 13 (I x54), sl 14 (.ptr 7 0), sl 15 (I x15), sl 52 (LS TimeNode.ty r.1), sl 53 (I (r.1.length : Int)), sl 54 (I x54), sl 59 (I x59), sl 91 (.gs 6 ((x15).toNat + 1)), sl 92 (I x54), sl 102 (B e_5)], [.gone, .gone, .gone, .gone, .gone, .box [LS intT ((([] : (List Int)) ++ w.fHead) ++ w.fLoop)] 23 true, gridI 56 4 boolT g6_4, .box (TimeNode.cl e_2) 139 false]⟩ (by kernel_rfl) hn (by kernel_rfl) (by kernel_rfl) (by kernel_rfl) (by rfl) (by kernel_rfl) ?_ (by kernel_rfl) ?_
 exact ⟨.mt ⟨[sl 11 (.gs 6 0)], []⟩ [] none (by kernel_rfl) (by rfl) (mt_ev ht (by kernel_rfl)) rfl rfl rfl rfl,
 .mt ⟨[sl 15 (I x15)], []⟩ [] none (by kernel_rfl) (by rfl) (mt_ev ht (by kernel_rfl)) rfl rfl rfl rfl,
 .mt ⟨[sl 88 (.gs 6 0), sl 89 (I x15)], [.gone, .gone, .gone, .gone, .gone, .gone, gridI 56 4 boolT g6_4]⟩ [] none (by kernel_rfl) (by rfl) (mt_val (val_indexG0 (T := boolT) (L := g6_4) (k := x15) ht rfl (by rfl) (by rfl) (by rfl) (by rfl) (by rfl) (by rfl) (by rfl) ⟨(idx_some he_3).1, (idx_some he_3).2.1⟩)) rfl rfl rfl rfl,
 .mt ⟨[sl 90 (.ge 6 0 (x15).toNat 1)], [.gone, .gone, .gone, .gone, .gone, .gone, gridI 56 4 boolT g6_4]⟩ [] none (by kernel_rfl) (by rfl) (mt_val (val_loadG0 (T := boolT) (L := g6_4) ht rfl (by rfl) (by rfl) (by rfl) (by rfl) (idx_lt he_3))) rfl rfl rfl rfl,
 .mt ⟨[sl 13 (I x54)], []⟩ [] none (by kernel_rfl) (by rfl) (mt_ev ht (by kernel_rfl)) rfl rfl rfl rfl,
 .mt ⟨[sl 11 (.gs 6 0)], []⟩ [] none (by kernel_rfl) (by rfl) (mt_ev ht (by kernel_rfl)) rfl rfl rfl rfl,
 .mt ⟨[sl 10 (.rd (fvR (fun (x_ : Int) => [.sv (.one (I x_))]) (fun (r : Int) => .sv (.one (I r))) (fun _ => True) (fun (x : Int) => nxtR ((([] : (List Int)) ++ w.fHead) ++ w.fLoop) w x)))], []⟩ [] none (by kernel_rfl) (by rfl) (mt_ev ht (by kernel_rfl)) rfl rfl rfl rfl,
 .mt ⟨[sl 15 (I x15)], []⟩ [] none (by kernel_rfl) (by rfl) (mt_ev ht (by kernel_rfl)) rfl rfl rfl rfl,
 .mt ⟨[sl 94 (.rd (fvR (fun (x_ : Int) => [.sv (.one (I x_))]) (fun (r : Int) => .sv (.one (I r))) (fun _ => True) (fun (x : Int) => nxtR ((([] : (List Int)) ++ w.fHead) ++ w.fLoop) w x))), sl 95 (I x15)], []⟩ [] none (by kernel_rfl) (by rfl) (mt_callv (ins := (fun (x_ : Int) => [.sv (.one (I x_))])) (out := (fun (r : Int) => .sv (.one (I r)))) (dom := (fun _ => True)) (φ := (fun (x : Int) => nxtR ((([] : (List Int)) ++ w.fHead) ++ w.fLoop) w x)) x15 hp_4 rfl (by rfl) (by rfl) (by rfl) (by rfl)) rfl rfl rfl rfl,
 .mt ⟨[sl 93 (.gs 6 0), sl 96 (I ((fun (x : Int) => nxtR ((([] : (List Int)) ++ w.fHead) ++ w.fLoop) w x) x15))], [.gone, .gone, .gone, .gone, .gone, .gone, gridI 56 4 boolT g6_4]⟩ [] none (by kernel_rfl) (by rfl) (mt_val (val_indexG0 (T := boolT) (L := g6_4) (k := ((fun (x : Int) => nxtR ((([] : (List Int)) ++ w.fHead) ++ w.fLoop) w x) x15)) ht rfl (by rfl) (by rfl) (by rfl) (by rfl) (by rfl) (by rfl) (by rfl) ⟨(idx_some he_4).1, (idx_some he_4).2.1⟩)) rfl rfl rfl rfl,
 .mt ⟨[sl 97 (.ge 6 0 (((fun (x : Int) => nxtR ((([] : (List Int)) ++ w.fHead) ++ w.fLoop) w x) x15)).toNat 1)], [.gone, .gone, .gone, .gone, .gone, .gone, gridI 56 4 boolT g6_4]⟩ [] none (by kernel_rfl) (by rfl) (mt_val (val_loadG0 (T := boolT) (L := g6_4) ht rfl (by rfl) (by rfl) (by rfl) (by rfl) (idx_lt he_4))) rfl rfl rfl rfl,
 .mt ⟨[sl 14 (.ptr 7 0)], []⟩ [] none (by kernel_rfl) (by rfl) (mt_ev ht (by kernel_rfl)) rfl rfl rfl rfl,
 .mt ⟨[sl 99 (.ptr 7 1)], [.gone, .gone, .gone, .gone, .gone, .gone, .gone, .box (TimeNode.cl e_2) 139 false]⟩ [] none (by kernel_rfl) (by rfl) (mt_ev ht (by kernel_rfl)) rfl rfl rfl rfl,
 .mt ⟨[sl 98 (.gs 6 ((((fun (x : Int) => nxtR ((([] : (List Int)) ++ w.fHead) ++ w.fLoop) w x) x15)).toNat + 1)), sl 100 (I e_2.fA)], [.gone, .gone, .gone, .gone, .gone, .gone, gridI 56 4 boolT g6_4]⟩ [] none (by kernel_rfl) (by rfl) (mt_val (val_indexG (T := boolT) (L := g6_4) (l := e_4) (k := e_2.fA) ht rfl (by rfl) (by rfl) (by rfl) (by rfl) (by decide) (by rfl) (by rfl) (idx_some he_4).2.2 (by rfl) ⟨(idx_some he_5).1, (idx_some he_5).2.1⟩)) rfl rfl rfl rfl,
 .mt ⟨[sl 101 (.ge 6 ((((fun (x : Int) => nxtR ((([] : (List Int)) ++ w.fHead) ++ w.fLoop) w x) x15)).toNat + 1) (e_2.fA).toNat 1)], [.gone, .gone, .gone, .gone, .gone, .gone, gridI 56 4 boolT g6_4]⟩ [] none (by kernel_rfl) (by rfl) (mt_val (val_loadG (T := boolT) (L := g6_4) (l := e_4) (y := e_5) ht rfl (by rfl) (by rfl) (by rfl) (by rfl) (by rfl) (idx_some he_4).2.2 (idx_some he_5).2.2 (by rfl))) rfl rfl rfl rfl,
 trivial⟩
 obtain ⟨e_6, he_6, h⟩ := h
 refine WL.val hn (by rfl) (val_indexG (T := boolT) (L := g6_4) (l := e_3) (k := x54) ht rfl (by rfl) (by rfl) (by rfl) (by rfl) (by decide) (by rfl) (by rfl) (idx_some he_3).2.2 (by rfl) ⟨(idx_some he_6).1, (idx_some he_6).2.1⟩) (by rfl) ?_
 refine WL.storeG (T := boolT) (L := g6_4) (l := e_3) (y := e_5) ht hn (by rfl) rfl (by rfl) (by rfl) (fun _ h => by cases h) (by rfl) (by rfl) (idx_some he_3).2.2 (idx_lt he_6) (by rfl) (by rfl) (by rfl) (by rfl) ?_
 refine WL.nil ?_
 exact En.at (I := fun zz => J zz) (T := fun zz => ⟨[sl 6 (LS TimeNode.ty r.1), sl 9 (.ptr 5 0), sl 10 (.rd (fvR (fun (x_ : Int) => [.sv (.one (I x_))]) (fun (r : Int) => .sv (.one (I r))) (fun _ => True) (fun (x : Int) => nxtR ((([] : (List Int)) ++ w.fHead) ++ w.fLoop) w x))), sl 11 (.gs 6 0), sl 13 (I x54), sl 14 (.ptr 7 0), sl 15 (I x15), sl 52 (LS TimeNode.ty r.1), sl 53 (I (r.1.length : Int)), sl 54 (I x54), sl 59 (I x59)], [.gone, .gone, .gone, .gone, .gone, .box [LS intT ((([] : (List Int)) ++ w.fHead) ++ w.fLoop)] 23 true, gridI 56 4 boolT zz, .box (TimeNode.cl e_2) 139 false]⟩) (g6_4.set (x15).toNat (e_3.set (x54).toNat e_5)) h (by kernel_rfl)
 replace h := h.2 hb
 refine En.seq ?_
 refine En.region ?_
 refine WL.run ht hn 2 ⟨[sl 6 (LS TimeNode.ty r.1), sl 9 (.ptr 5 0), sl 10 (.rd (fvR (fun (x_ : Int) => [.sv (.one (I x_))]) (fun (r : Int) => .sv (.one (I r))) (fun _ => True) (fun (x : Int) => nxtR ((([] : (List Int)) ++ w.fHead) ++ w.fLoop) w x))), sl 11 (.gs 6 0), sl 13 (I x54), sl 14 (.ptr 7 0), sl 15 (I x15), sl 52 (LS TimeNode.ty r.1), sl 53 (I (r.1.length : Int)), sl 54 (I x54), sl 59 (I x59), sl 104 (B (e_2.fKind == 7))], [.gone, .gone, .gone, .gone, .gone, .box [LS intT ((([] : (List Int)) ++ w.fHead) ++ w.fLoop)] 23 true, gridI 56 4 boolT g6_4, .box (TimeNode.cl e_2) 139 false]⟩ (by kernel_rfl) ?_
 refine WL.nil ?_
 refine En.cond (b := (e_2.fKind == 7)) (by kernel_rfl) (fun hb => ?_) (fun hb => ?_)
 replace h := h.1 hb
 obtain ⟨e_7, he_7, h⟩ := h
 obtain ⟨e_8, he_8, h⟩ := h
 obtain ⟨e_9, he_9, h⟩ := h
 refine splitB e_9 (fun hb_2 => ?_) (fun hb_2 => ?_)
 replace h := h.1 hb_2
 refine En.regionT ⟨[sl 6 (LS TimeNode.ty r.1), sl 9 (.ptr 5 0), sl 10 (.rd (fvR (fun (x_ : Int) => [.sv (.one (I x_))]) (fun (r : Int) => .sv (.one (I r))) (fun _ => True) (fun (x : Int) => nxtR ((([] : (List Int)) ++ w.fHead) ++ w.fLoop) w x))), sl 11 (.gs 6 0), sl 13 (I x54), sl 14 (.ptr 7 0), sl 15 (I x15), sl 52 (LS TimeNode.ty r.1), sl 53 (I (r.1.length : Int)), sl 54 (I x54), sl 59 (I x59)], [.sv (.one (.gs 6 0)), .sv (.one (I x15)), .sv (.one (.ge 6 0 (x15).toNat 1)), .sv (.one (.gs 6 ((x15).toNat + 1))), .sv (.one (I x54)), .sv (.one (.gs 6 0)), .sv (.one (I x15)), .sv (.one (.ge 6 0 (x15).toNat 1)), .sv (.one (.gs 6 ((x15).toNat + 1))), .sv (.one (.ptr 7 2)), .sv (.one (I e_2.fB)), .sv (.one (.ge 6 ((x15).toNat + 1) (e_2.fB).toNat 1)), .sv (.one (B true)), .sv (.one (B true)), .tup [], .tup [], .tup [], .tup [], .tup [], .tup [], .tup [], .tup [], .tup [], .tup [], .tup [], .tup [], .tup [], .tup [], .tup [], .tup [], .tup [], .tup [], .tup [], .sv (.one (B true))], [⟨.gone, none, none, none⟩, ⟨.gone, none, none, none⟩, ⟨.gone, none, none, none⟩, ⟨.gone, none, none, none⟩, ⟨.gone, none, none, none⟩, ⟨.box [LS intT ((([] : (List Int)) ++ w.fHead) ++ w.fLoop)] 23 true, none, none, none⟩, ⟨gridI 56 4 boolT g6_4, none, none, none⟩, ⟨.box (TimeNode.cl e_2) 139 false, none, none, none⟩]⟩ 34 ⟨[sl 6 (LS TimeNode.ty r.1), sl 9 (.ptr 5 0), sl 10 (.rd (fvR (fun (x_ : Int) => [.sv (.one (I x_))]) (fun (r : Int) => .sv (.one (I r))) (fun _ => True) (fun (x : Int) => nxtR ((([] : (List Int)) ++ w.fHead) ++ w.fLoop) w x))), sl 11 (.gs 6 0), sl 13 (I x54), sl 14 (.ptr 7 0), sl 15 (I x15), sl 52 (LS TimeNode.ty r.1), sl 53 (I (r.1.length : Int)), sl 54 (I x54), sl 59 (I x59), sl 109 (.gs 6 ((x15).toNat + 1)), sl 110 (I x54), sl 139 (B true)], [.gone, .gone, .gone, .gone, .gone, .box [LS intT ((([] : (List Int)) ++ w.fHead) ++ w.fLoop)] 23 true, gridI 56 4 boolT g6_4, .box (TimeNode.cl e_2) 139 false]⟩ (by kernel_rfl) hn (by kernel_rfl) (by kernel_rfl) (by kernel_rfl) (by rfl) (by kernel_rfl) ?_ (by kernel_rfl) ?_
 exact ⟨.mt ⟨[sl 11 (.gs 6 0)], []⟩ [] none (by kernel_rfl) (by rfl) (mt_ev ht (by kernel_rfl)) rfl rfl rfl rfl,
 .mt ⟨[sl 15 (I x15)], []⟩ [] none (by kernel_rfl) (by rfl) (mt_ev ht (by kernel_rfl)) rfl rfl rfl rfl,
 .mt ⟨[sl 106 (.gs 6 0), sl 107 (I x15)], [.gone, .gone, .gone, .gone, .gone, .gone, gridI 56 4 boolT g6_4]⟩ [] none (by kernel_rfl) (by rfl) (mt_val (val_indexG0 (T := boolT) (L := g6_4) (k := x15) ht rfl (by rfl) (by rfl) (by rfl) (by rfl) (by rfl) (by rfl) (by rfl) ⟨(idx_some he_7).1, (idx_some he_7).2.1⟩)) rfl rfl rfl rfl,
 .mt ⟨[sl 108 (.ge 6 0 (x15).toNat 1)], [.gone, .gone, .gone, .gone, .gone, .gone, gridI 56 4 boolT g6_4]⟩ [] none (by kernel_rfl) (by rfl) (mt_val (val_loadG0 (T := boolT) (L := g6_4) ht rfl (by rfl) (by rfl) (by rfl) (by rfl) (idx_lt he_7))) rfl rfl rfl rfl,
 .mt ⟨[sl 13 (I x54)], []⟩ [] none (by kernel_rfl) (by rfl) (mt_ev ht (by kernel_rfl)) rfl rfl rfl rfl,
 .mt ⟨[sl 11 (.gs 6 0)], []⟩ [] none (by kernel_rfl) (by rfl) (mt_ev ht (by kernel_rfl)) rfl rfl rfl rfl,
 .mt ⟨[sl 15 (I x15)], []⟩ [] none (by kernel_rfl) (by rfl) (mt_ev ht (by kernel_rfl)) rfl rfl rfl rfl,
 .mt ⟨[sl 111 (.gs 6 0), sl 112 (I x15)], [.gone, .gone, .gone, .gone, .gone, .gone, gridI 56 4 boolT g6_4]⟩ [] none (by kernel_rfl) (by rfl) (mt_val (val_indexG0 (T := boolT) (L := g6_4) (k := x15) ht rfl (by rfl) (by rfl) (by rfl) (by rfl) (by rfl) (by rfl) (by rfl) ⟨(idx_some he_8).1, (idx_some he_8).2.1⟩)) rfl rfl rfl rfl,
 .mt ⟨[sl 113 (.ge 6 0 (x15).toNat 1)], [.gone, .gone, .gone, .gone, .gone, .gone, gridI 56 4 boolT g6_4]⟩ [] none (by kernel_rfl) (by rfl) (mt_val (val_loadG0 (T := boolT) (L := g6_4) ht rfl (by rfl) (by rfl) (by rfl) (by rfl) (idx_lt he_8))) rfl rfl rfl rfl,
 .mt ⟨[sl 14 (.ptr 7 0)], []⟩ [] none (by kernel_rfl) (by rfl) (mt_ev ht (by kernel_rfl)) rfl rfl rfl rfl,
 .mt ⟨[sl 115 (.ptr 7 2)], [.gone, .gone, .gone, .gone, .gone, .gone, .gone, .box (TimeNode.cl e_2) 139 false]⟩ [] none (by kernel_rfl) (by rfl) (mt_ev ht (by kernel_rfl)) rfl rfl rfl rfl,
 .mt ⟨[sl 114 (.gs 6 ((x15).toNat + 1)), sl 116 (I e_2.fB)], [.gone, .gone, .gone, .gone, .gone, .gone, gridI 56 4 boolT g6_4]⟩ [] none (by kernel_rfl) (by rfl) (mt_val (val_indexG (T := boolT) (L := g6_4) (l := e_8) (k := e_2.fB) ht rfl (by rfl) (by rfl) (by rfl) (by rfl) (by decide) (by rfl) (by rfl) (idx_some he_8).2.2 (by rfl) ⟨(idx_some he_9).1, (idx_some he_9).2.1⟩)) rfl rfl rfl rfl,
 .mt ⟨[sl 117 (.ge 6 ((x15).toNat + 1) (e_2.fB).toNat 1)], [.gone, .gone, .gone, .gone, .gone, .gone, gridI 56 4 boolT g6_4]⟩ [] none (by kernel_rfl) (by rfl) (mt_castB hb_2 (mt_val (val_loadG (T := boolT) (L := g6_4) (l := e_8) (y := e_9) ht rfl (by rfl) (by rfl) (by rfl) (by rfl) (by rfl) (idx_some he_8).2.2 (idx_some he_9).2.2 (by rfl)))) rfl rfl rfl rfl,
 .mt ⟨[sl 118 (B true)], []⟩ [] none (by kernel_rfl) (by rfl) (mt_ev ht (by kernel_rfl)) rfl rfl rfl rfl,
 .skip ⟨[sl 119 (B true)], []⟩ (by kernel_rfl) (by rfl) rfl rfl rfl rfl,
 .skip ⟨[sl 119 (B true)], []⟩ (by kernel_rfl) (by rfl) rfl rfl rfl rfl,
 .skip ⟨[sl 119 (B true)], []⟩ (by kernel_rfl) (by rfl) rfl rfl rfl rfl,
 .skip ⟨[sl 119 (B true)], []⟩ (by kernel_rfl) (by rfl) rfl rfl rfl rfl,
 .skip ⟨[sl 119 (B true)], []⟩ (by kernel_rfl) (by rfl) rfl rfl rfl rfl,
 .skip ⟨[sl 119 (B true)], []⟩ (by kernel_rfl) (by rfl) rfl rfl rfl rfl,
 .skip ⟨[sl 119 (B true)], []⟩ (by kernel_rfl) (by rfl) rfl rfl rfl rfl,
 .skip ⟨[sl 119 (B true)], []⟩ (by kernel_rfl) (by rfl) rfl rfl rfl rfl,
 .skip ⟨[sl 119 (B true)], []⟩ (by kernel_rfl) (by rfl) rfl rfl rfl rfl,
 .skip ⟨[(128, .tup [])], []⟩ (by kernel_rfl) (by rfl) rfl rfl rfl rfl,
 .skip ⟨[(128, .tup [])], []⟩ (by kernel_rfl) (by rfl) rfl rfl rfl rfl,
 .skip ⟨[(128, .tup [])], []⟩ (by kernel_rfl) (by rfl) rfl rfl rfl rfl,
 .skip ⟨[(128, .tup [])], []⟩ (by kernel_rfl) (by rfl) rfl rfl rfl rfl,
 .skip ⟨[(128, .tup [])], []⟩ (by kernel_rfl) (by rfl) rfl rfl rfl rfl,
 .skip ⟨[(128, .tup [])], []⟩ (by kernel_rfl) (by rfl) rfl rfl rfl rfl,
 .skip ⟨[(128, .tup [])], []⟩ (by kernel_rfl) (by rfl) rfl rfl rfl rfl,
 .skip ⟨[(128, .tup [])], []⟩ (by kernel_rfl) (by rfl) rfl rfl rfl rfl,
 .skip ⟨[(128, .tup [])], []⟩ (by kernel_rfl) (by rfl) rfl rfl rfl rfl,
 .skip ⟨[sl 119 (B true)], []⟩ (by kernel_rfl) (by rfl) rfl rfl rfl rfl,
 .mt ⟨[sl 119 (B true), (138, .tup [])], []⟩ [] none (by kernel_rfl) (by rfl) (mt_ev ht (by kernel_rfl)) rfl rfl rfl rfl,
 trivial⟩
 obtain ⟨e_10, he_10, h⟩ := h
 refine WL.val hn (by rfl) (val_indexG (T := boolT) (L := g6_4) (l := e_7) (k := x54) ht rfl (by rfl) (by rfl) (by rfl) (by rfl) (by decide) (by rfl) (by rfl) (idx_some he_7).2.2 (by rfl) ⟨(idx_some he_10).1, (idx_some he_10).2.1⟩) (by rfl) ?_
 refine WL.storeG (T := boolT) (L := g6_4) (l := e_7) (y := true) ht hn (by rfl) rfl (by rfl) (by rfl) (fun _ h => by cases h) (by rfl) (by rfl) (idx_some he_7).2.2 (idx_lt he_10) (by rfl) (by rfl) (by rfl) (by rfl) ?_
 refine WL.nil ?_
 exact En.at (I := fun zz => J zz) (T := fun zz => ⟨[sl 6 (LS TimeNode.ty r.1), sl 9 (.ptr 5 0), sl 10 (.rd (fvR (fun (x_ : Int) => [.sv (.one (I x_))]) (fun (r : Int) => .sv (.one (I r))) (fun _ => True) (fun (x : Int) => nxtR ((([] : (List Int)) ++ w.fHead) ++ w.fLoop) w x))), sl 11 (.gs 6 0), sl 13 (I x54), sl 14 (.ptr 7 0), sl 15 (I x15), sl 52 (LS TimeNode.ty r.1), sl 53 (I (r.1.length : Int)), sl 54 (I x54), sl 59 (I x59)], [.gone, .gone, .gone, .gone, .gone, .box [LS intT ((([] : (List Int)) ++ w.fHead) ++ w.fLoop)] 23 true, gridI 56 4 boolT zz, .box (TimeNode.cl e_2) 139 false]⟩) (g6_4.set (x15).toNat (e_7.set (x54).toNat true)) h (by kernel_rfl)
 replace h := h.2 hb_2
 obtain ⟨e_11, he_11, h⟩ := h
 obtain ⟨e_12, he_12, h⟩ := h
 refine splitB e_12 (fun hb_3 => ?_) (fun hb_3 => ?_)
 replace h := h.1 hb_3
 have hp_5 := h.1
 replace h := h.2
 obtain ⟨e_13, he_13, h⟩ := h
 obtain ⟨e_14, he_14, h⟩ := h
 refine En.regionT ⟨[sl 6 (LS TimeNode.ty r.1), sl 9 (.ptr 5 0), sl 10 (.rd (fvR (fun (x_ : Int) => [.sv (.one (I x_))]) (fun (r : Int) => .sv (.one (I r))) (fun _ => True) (fun (x : Int) => nxtR ((([] : (List Int)) ++ w.fHead) ++ w.fLoop) w x))), sl 11 (.gs 6 0), sl 13 (I x54), sl 14 (.ptr 7 0), sl 15 (I x15), sl 52 (LS TimeNode.ty r.1), sl 53 (I (r.1.length : Int)), sl 54 (I x54), sl 59 (I x59)], [.sv (.one (.gs 6 0)), .sv (.one (I x15)), .sv (.one (.ge 6 0 (x15).toNat 1)), .sv (.one (.gs 6 ((x15).toNat + 1))), .sv (.one (I x54)), .sv (.one (.gs 6 0)), .sv (.one (I x15)), .sv (.one (.ge 6 0 (x15).toNat 1)), .sv (.one (.gs 6 ((x15).toNat + 1))), .sv (.one (.ptr 7 2)), .sv (.one (I e_2.fB)), .sv (.one (.ge 6 ((x15).toNat + 1) (e_2.fB).toNat 1)), .sv (.one (B false)), .sv (.one (B false)), .sv (.one (.gs 6 0)), .sv (.one (I x15)), .sv (.one (.ge 6 0 (x15).toNat 1)), .sv (.one (.gs 6 ((x15).toNat + 1))), .sv (.one (.ptr 7 1)), .sv (.one (I e_2.fA)), .sv (.one (.ge 6 ((x15).toNat + 1) (e_2.fA).toNat 1)), .sv (.one (B true)), .sv (.one (B true)), .sv (.one (.gs 6 0)), .sv (.one (.rd (fvR (fun (x_ : Int) => [.sv (.one (I x_))]) (fun (r : Int) => .sv (.one (I r))) (fun _ => True) (fun (x : Int) => nxtR ((([] : (List Int)) ++ w.fHead) ++ w.fLoop) w x)))), .sv (.one (I x15)), .sv (.one (I ((fun (x : Int) => nxtR ((([] : (List Int)) ++ w.fHead) ++ w.fLoop) w x) x15))), .sv (.one (.ge 6 0 (((fun (x : Int) => nxtR ((([] : (List Int)) ++ w.fHead) ++ w.fLoop) w x) x15)).toNat 1)), .sv (.one (.gs 6 ((((fun (x : Int) => nxtR ((([] : (List Int)) ++ w.fHead) ++ w.fLoop) w x) x15)).toNat + 1))), .sv (.one (I x54)), .sv (.one (.ge 6 ((((fun (x : Int) => nxtR ((([] : (List Int)) ++ w.fHead) ++ w.fLoop) w x) x15)).toNat + 1) (x54).toNat 1)), .sv (.one (B e_14)), .sv (.one (B e_14)), .sv (.one (B e_14))], [⟨.gone, none, none, none⟩, ⟨.gone, none, none, none⟩, ⟨.gone, none, none, none⟩, ⟨.gone, none, none, none⟩, ⟨.gone, none, none, none⟩, ⟨.box [LS intT ((([] : (List Int)) ++ w.fHead) ++ w.fLoop)] 23 true, none, none, none⟩, ⟨gridI 56 4 boolT g6_4, none, none, none⟩, ⟨.box (TimeNode.cl e_2) 139 false, none, none, none⟩]⟩ 34 ⟨[sl 6 (LS TimeNode.ty r.1), sl 9 (.ptr 5 0), sl 10 (.rd (fvR (fun (x_ : Int) => [.sv (.one (I x_))]) (fun (r : Int) => .sv (.one (I r))) (fun _ => True) (fun (x : Int) => nxtR ((([] : (List Int)) ++ w.fHead) ++ w.fLoop) w x))), sl 11 (.gs 6 0), sl 13 (I x54), sl 14 (.ptr 7 0), sl 15 (I x15), sl 52 (LS TimeNode.ty r.1), sl 53 (I (r.1.length : Int)), sl 54 (I x54), sl 59 (I x59), sl 109 (.gs 6 ((x15).toNat + 1)), sl 110 (I x54), sl 139 (B e_14)], [.gone, .gone, .gone, .gone, .gone, .box [LS intT ((([] : (List Int)) ++ w.fHead) ++ w.fLoop)] 23 true, gridI 56 4 boolT g6_4, .box (TimeNode.cl e_2) 139 false]⟩ (by kernel_rfl) hn (by kernel_rfl) (by kernel_rfl) (by kernel_rfl) (by rfl) (by kernel_rfl) ?_ (by kernel_rfl) ?_
 exact ⟨.mt ⟨[sl 11 (.gs 6 0)], []⟩ [] none (by kernel_rfl) (by rfl) (mt_ev ht (by kernel_rfl)) rfl rfl rfl rfl,
 .mt ⟨[sl 15 (I x15)], []⟩ [] none (by kernel_rfl) (by rfl) (mt_ev ht (by kernel_rfl)) rfl rfl rfl rfl,
 .mt ⟨[sl 106 (.gs 6 0), sl 107 (I x15)], [.gone, .gone, .gone, .gone, .gone, .gone, gridI 56 4 boolT g6_4]⟩ [] none (by kernel_rfl) (by rfl) (mt_val (val_indexG0 (T := boolT) (L := g6_4) (k := x15) ht rfl (by rfl) (by rfl) (by rfl) (by rfl) (by rfl) (by rfl) (by rfl) ⟨(idx_some he_7).1, (idx_some he_7).2.1⟩)) rfl rfl rfl rfl,
 .mt ⟨[sl 108 (.ge 6 0 (x15).toNat 1)], [.gone, .gone, .gone, .gone, .gone, .gone, gridI 56 4 boolT g6_4]⟩ [] none (by kernel_rfl) (by rfl) (mt_val (val_loadG0 (T := boolT) (L := g6_4) ht rfl (by rfl) (by rfl) (by rfl) (by rfl) (idx_lt he_7))) rfl rfl rfl rfl,
 .mt ⟨[sl 13 (I x54)], []⟩ [] none (by kernel_rfl) (by rfl) (mt_ev ht (by kernel_rfl)) rfl rfl rfl rfl,
 .mt ⟨[sl 11 (.gs 6 0)], []⟩ [] none (by kernel_rfl) (by rfl) (mt_ev ht (by kernel_rfl)) rfl rfl rfl rfl,
 .mt ⟨[sl 15 (I x15)], []⟩ [] none (by kernel_rfl) (by rfl) (mt_ev ht (by kernel_rfl)) rfl rfl rfl rfl,
 .mt ⟨[sl 111 (.gs 6 0), sl 112 (I x15)], [.gone, .gone, .gone, .gone, .gone, .gone, gridI 56 4 boolT g6_4]⟩ [] none (by kernel_rfl) (by rfl) (mt_val (val_indexG0 (T := boolT) (L := g6_4) (k := x15) ht rfl (by rfl) (by rfl) (by rfl) (by rfl) (by rfl) (by rfl) (by rfl) ⟨(idx_some he_8).1, (idx_some he_8).2.1⟩)) rfl rfl rfl rfl,
 .mt ⟨[sl 113 (.ge 6 0 (x15).toNat 1)], [.gone, .gone, .gone, .gone, .gone, .gone, gridI 56 4 boolT g6_4]⟩ [] none (by kernel_rfl) (by rfl) (mt_val (val_loadG0 (T := boolT) (L := g6_4) ht rfl (by rfl) (by rfl) (by rfl) (by rfl) (idx_lt he_8))) rfl rfl rfl rfl,
 .mt ⟨[sl 14 (.ptr 7 0)], []⟩ [] none (by kernel_rfl) (by rfl) (mt_ev ht (by kernel_rfl)) rfl rfl rfl rfl,
 .mt ⟨[sl 115 (.ptr 7 2)], [.gone, .gone, .gone, .gone, .gone, .gone, .gone, .box (TimeNode.cl e_2) 139 false]⟩ [] none (by kernel_rfl) (by rfl) (mt_ev ht (by kernel_rfl)) rfl rfl rfl rfl,
 .mt ⟨[sl 114 (.gs 6 ((x15).toNat + 1)), sl 116 (I e_2.fB)], [.gone, .gone, .gone, .gone, .gone, .gone, gridI 56 4 boolT g6_4]⟩ [] none (by kernel_rfl) (by rfl) (mt_val (val_indexG (T := boolT) (L := g6_4) (l := e_8) (k := e_2.fB) ht rfl (by rfl) (by rfl) (by rfl) (by rfl) (by decide) (by rfl) (by rfl) (idx_some he_8).2.2 (by rfl) ⟨(idx_some he_9).1, (idx_some he_9).2.1⟩)) rfl rfl rfl rfl,
 .mt ⟨[sl 117 (.ge 6 ((x15).toNat + 1) (e_2.fB).toNat 1)], [.gone, .gone, .gone, .gone, .gone, .gone, gridI 56 4 boolT g6_4]⟩ [] none (by kernel_rfl) (by rfl) (mt_castB hb_2 (mt_val (val_loadG (T := boolT) (L := g6_4) (l := e_8) (y := e_9) ht rfl (by rfl) (by rfl) (by rfl) (by rfl) (by rfl) (idx_some he_8).2.2 (idx_some he_9).2.2 (by rfl)))) rfl rfl rfl rfl,
 .mt ⟨[sl 118 (B false)], []⟩ [] none (by kernel_rfl) (by rfl) (mt_ev ht (by kernel_rfl)) rfl rfl rfl rfl,
 .mt ⟨[sl 11 (.gs 6 0), sl 119 (B false)], []⟩ [] none (by kernel_rfl) (by rfl) (mt_ev ht (by kernel_rfl)) rfl rfl rfl rfl,
 .mt ⟨[sl 15 (I x15), sl 119 (B false)], []⟩ [] none (by kernel_rfl) (by rfl) (mt_ev ht (by kernel_rfl)) rfl rfl rfl rfl,
 .mt ⟨[sl 119 (B false), sl 120 (.gs 6 0), sl 121 (I x15)], [.gone, .gone, .gone, .gone, .gone, .gone, gridI 56 4 boolT g6_4]⟩ [] none (by kernel_rfl) (by rfl) (mt_val (val_indexG0 (T := boolT) (L := g6_4) (k := x15) ht rfl (by rfl) (by rfl) (by rfl) (by rfl) (by rfl) (by rfl) (by rfl) ⟨(idx_some he_11).1, (idx_some he_11).2.1⟩)) rfl rfl rfl rfl,
 .mt ⟨[sl 119 (B false), sl 122 (.ge 6 0 (x15).toNat 1)], [.gone, .gone, .gone, .gone, .gone, .gone, gridI 56 4 boolT g6_4]⟩ [] none (by kernel_rfl) (by rfl) (mt_val (val_loadG0 (T := boolT) (L := g6_4) ht rfl (by rfl) (by rfl) (by rfl) (by rfl) (idx_lt he_11))) rfl rfl rfl rfl,
 .mt ⟨[sl 14 (.ptr 7 0), sl 119 (B false)], []⟩ [] none (by kernel_rfl) (by rfl) (mt_ev ht (by kernel_rfl)) rfl rfl rfl rfl,
 .mt ⟨[sl 119 (B false), sl 124 (.ptr 7 1)], [.gone, .gone, .gone, .gone, .gone, .gone, .gone, .box (TimeNode.cl e_2) 139 false]⟩ [] none (by kernel_rfl) (by rfl) (mt_ev ht (by kernel_rfl)) rfl rfl rfl rfl,
 .mt ⟨[sl 119 (B false), sl 123 (.gs 6 ((x15).toNat + 1)), sl 125 (I e_2.fA)], [.gone, .gone, .gone, .gone, .gone, .gone, gridI 56 4 boolT g6_4]⟩ [] none (by kernel_rfl) (by rfl) (mt_val (val_indexG (T := boolT) (L := g6_4) (l := e_11) (k := e_2.fA) ht rfl (by rfl) (by rfl) (by rfl) (by rfl) (by decide) (by rfl) (by rfl) (idx_some he_11).2.2 (by rfl) ⟨(idx_some he_12).1, (idx_some he_12).2.1⟩)) rfl rfl rfl rfl,
 .mt ⟨[sl 119 (B false), sl 126 (.ge 6 ((x15).toNat + 1) (e_2.fA).toNat 1)], [.gone, .gone, .gone, .gone, .gone, .gone, gridI 56 4 boolT g6_4]⟩ [] none (by kernel_rfl) (by rfl) (mt_castB hb_3 (mt_val (val_loadG (T := boolT) (L := g6_4) (l := e_11) (y := e_12) ht rfl (by rfl) (by rfl) (by rfl) (by rfl) (by rfl) (idx_some he_11).2.2 (idx_some he_12).2.2 (by rfl)))) rfl rfl rfl rfl,
 .mt ⟨[sl 119 (B false), sl 127 (B true)], []⟩ [] none (by kernel_rfl) (by rfl) (mt_ev ht (by kernel_rfl)) rfl rfl rfl rfl,
 .mt ⟨[sl 11 (.gs 6 0), sl 128 (B true)], []⟩ [] none (by kernel_rfl) (by rfl) (mt_ev ht (by kernel_rfl)) rfl rfl rfl rfl,
 .mt ⟨[sl 10 (.rd (fvR (fun (x_ : Int) => [.sv (.one (I x_))]) (fun (r : Int) => .sv (.one (I r))) (fun _ => True) (fun (x : Int) => nxtR ((([] : (List Int)) ++ w.fHead) ++ w.fLoop) w x))), sl 128 (B true)], []⟩ [] none (by kernel_rfl) (by rfl) (mt_ev ht (by kernel_rfl)) rfl rfl rfl rfl,
 .mt ⟨[sl 15 (I x15), sl 128 (B true)], []⟩ [] none (by kernel_rfl) (by rfl) (mt_ev ht (by kernel_rfl)) rfl rfl rfl rfl,
 .mt ⟨[sl 128 (B true), sl 130 (.rd (fvR (fun (x_ : Int) => [.sv (.one (I x_))]) (fun (r : Int) => .sv (.one (I r))) (fun _ => True) (fun (x : Int) => nxtR ((([] : (List Int)) ++ w.fHead) ++ w.fLoop) w x))), sl 131 (I x15)], []⟩ [] none (by kernel_rfl) (by rfl) (mt_callv (ins := (fun (x_ : Int) => [.sv (.one (I x_))])) (out := (fun (r : Int) => .sv (.one (I r)))) (dom := (fun _ => True)) (φ := (fun (x : Int) => nxtR ((([] : (List Int)) ++ w.fHead) ++ w.fLoop) w x)) x15 hp_5 rfl (by rfl) (by rfl) (by rfl) (by rfl)) rfl rfl rfl rfl,
 .mt ⟨[sl 128 (B true), sl 129 (.gs 6 0), sl 132 (I ((fun (x : Int) => nxtR ((([] : (List Int)) ++ w.fHead) ++ w.fLoop) w x) x15))], [.gone, .gone, .gone, .gone, .gone, .gone, gridI 56 4 boolT g6_4]⟩ [] none (by kernel_rfl) (by rfl) (mt_val (val_indexG0 (T := boolT) (L := g6_4) (k := ((fun (x : Int) => nxtR ((([] : (List Int)) ++ w.fHead) ++ w.fLoop) w x) x15)) ht rfl (by rfl) (by rfl) (by rfl) (by rfl) (by rfl) (by rfl) (by rfl) ⟨(idx_some he_13).1, (idx_some he_13).2.1⟩)) rfl rfl rfl rfl,
 .mt ⟨[sl 128 (B true), sl 133 (.ge 6 0 (((fun (x : Int) => nxtR ((([] : (List Int)) ++ w.fHead) ++ w.fLoop) w x) x15)).toNat 1)], [.gone, .gone, .gone, .gone, .gone, .gone, gridI 56 4 boolT g6_4]⟩ [] none (by kernel_rfl) (by rfl) (mt_val (val_loadG0 (T := boolT) (L := g6_4) ht rfl (by rfl) (by rfl) (by rfl) (by rfl) (idx_lt he_13))) rfl rfl rfl rfl,
 .mt ⟨[sl 13 (I x54), sl 128 (B true)], []⟩ [] none (by kernel_rfl) (by rfl) (mt_ev ht (by kernel_rfl)) rfl rfl rfl rfl,
 .mt ⟨[sl 128 (B true), sl 134 (.gs 6 ((((fun (x : Int) => nxtR ((([] : (List Int)) ++ w.fHead) ++ w.fLoop) w x) x15)).toNat + 1)), sl 135 (I x54)], [.gone, .gone, .gone, .gone, .gone, .gone, gridI 56 4 boolT g6_4]⟩ [] none (by kernel_rfl) (by rfl) (mt_val (val_indexG (T := boolT) (L := g6_4) (l := e_13) (k := x54) ht rfl (by rfl) (by rfl) (by rfl) (by rfl) (by decide) (by rfl) (by rfl) (idx_some he_13).2.2 (by rfl) ⟨(idx_some he_14).1, (idx_some he_14).2.1⟩)) rfl rfl rfl rfl,
 .mt ⟨[sl 128 (B true), sl 136 (.ge 6 ((((fun (x : Int) => nxtR ((([] : (List Int)) ++ w.fHead) ++ w.fLoop) w x) x15)).toNat + 1) (x54).toNat 1)], [.gone, .gone, .gone, .gone, .gone, .gone, gridI 56 4 boolT g6_4]⟩ [] none (by kernel_rfl) (by rfl) (mt_val (val_loadG (T := boolT) (L := g6_4) (l := e_13) (y := e_14) ht rfl (by rfl) (by rfl) (by rfl) (by rfl) (by rfl) (idx_some he_13).2.2 (idx_some he_14).2.2 (by rfl))) rfl rfl rfl rfl,
 .mt ⟨[sl 119 (B false), sl 128 (B true), sl 137 (B e_14)], []⟩ [] none (by kernel_rfl) (by rfl) (mt_ev ht (by kernel_rfl)) rfl rfl rfl rfl,
 .mt ⟨[sl 119 (B false), sl 138 (B e_14)], []⟩ [] none (by kernel_rfl) (by rfl) (mt_ev ht (by kernel_rfl)) rfl rfl rfl rfl,
 trivial⟩
 obtain ⟨e_15, he_15, h⟩ := h
 refine WL.val hn (by rfl) (val_indexG (T := boolT) (L := g6_4) (l := e_7) (k := x54) ht rfl (by rfl) (by rfl) (by rfl) (by rfl) (by decide) (by rfl) (by rfl) (idx_some he_7).2.2 (by rfl) ⟨(idx_some he_15).1, (idx_some he_15).2.1⟩) (by rfl) ?_
 refine WL.storeG (T := boolT) (L := g6_4) (l := e_7) (y := e_14) ht hn (by rfl) rfl (by rfl) (by rfl) (fun _ h => by cases h) (by rfl) (by rfl) (idx_some he_7).2.2 (idx_lt he_15) (by rfl) (by rfl) (by rfl) (by rfl) ?_
 refine WL.nil ?_
 exact En.at (I := fun zz => J zz) (T := fun zz => ⟨[sl 6 (LS TimeNode.ty r.1), sl 9 (.ptr 5 0), sl 10 (.rd (fvR (fun (x_ : Int) => [.sv (.one (I x_))]) (fun (r : Int) => .sv (.one (I r))) (fun _ => True) (fun (x : Int) => nxtR ((([] : (List Int)) ++ w.fHead) ++ w.fLoop) w x))), sl 11 (.gs 6 0), sl 13 (I x54), sl 14 (.ptr 7 0), sl 15 (I x15), sl 52 (LS TimeNode.ty r.1), sl 53 (I (r.1.length : Int)), sl 54 (I x54), sl 59 (I x59)], [.gone, .gone, .gone, .gone, .gone, .box [LS intT ((([] : (List Int)) ++ w.fHead) ++ w.fLoop)] 23 true, gridI 56 4 boolT zz, .box (TimeNode.cl e_2) 139 false]⟩) (g6_4.set (x15).toNat (e_7.set (x54).toNat e_14)) h (by kernel_rfl)
 replace h := h.2 hb_3
 refine En.regionT ⟨[sl 6 (LS TimeNode.ty r.1), sl 9 (.ptr 5 0), sl 10 (.rd (fvR (fun (x_ : Int) => [.sv (.one (I x_))]) (fun (r : Int) => .sv (.one (I r))) (fun _ => True) (fun (x : Int) => nxtR ((([] : (List Int)) ++ w.fHead) ++ w.fLoop) w x))), sl 11 (.gs 6 0), sl 13 (I x54), sl 14 (.ptr 7 0), sl 15 (I x15), sl 52 (LS TimeNode.ty r.1), sl 53 (I (r.1.length : Int)), sl 54 (I x54), sl 59 (I x59)], [.sv (.one (.gs 6 0)), .sv (.one (I x15)), .sv (.one (.ge 6 0 (x15).toNat 1)), .sv (.one (.gs 6 ((x15).toNat + 1))), .sv (.one (I x54)), .sv (.one (.gs 6 0)), .sv (.one (I x15)), .sv (.one (.ge 6 0 (x15).toNat 1)), .sv (.one (.gs 6 ((x15).toNat + 1))), .sv (.one (.ptr 7 2)), .sv (.one (I e_2.fB)), .sv (.one (.ge 6 ((x15).toNat + 1) (e_2.fB).toNat 1)), .sv (.one (B false)), .sv (.one (B false)), .sv (.one (.gs 6 0)), .sv (.one (I x15)), .sv (.one (.ge 6 0 (x15).toNat 1)), .sv (.one (.gs 6 ((x15).toNat + 1))), .sv (.one (.ptr 7 1)), .sv (.one (I e_2.fA)), .sv (.one (.ge 6 ((x15).toNat + 1) (e_2.fA).toNat 1)), .sv (.one (B false)), .sv (.one (B false)), .tup [], .tup [], .tup [], .tup [], .tup [], .tup [], .tup [], .tup [], .tup [], .sv (.one (B false)), .sv (.one (B false))], [⟨.gone, none, none, none⟩, ⟨.gone, none, none, none⟩, ⟨.gone, none, none, none⟩, ⟨.gone, none, none, none⟩, ⟨.gone, none, none, none⟩, ⟨.box [LS intT ((([] : (List Int)) ++ w.fHead) ++ w.fLoop)] 23 true, none, none, none⟩, ⟨gridI 56 4 boolT g6_4, none, none, none⟩, ⟨.box (TimeNode.cl e_2) 139 false, none, none, none⟩]⟩ 34 ⟨[sl 6 (LS TimeNode.ty r.1), sl 9 (.ptr 5 0), sl 10 (.rd (fvR (fun (x_ : Int) => [.sv (.one (I x_))]) (fun (r : Int) => .sv (.one (I r))) (fun _ => True) (fun (x : Int) => nxtR ((([] : (List Int)) ++ w.fHead) ++ w.fLoop) w x))), sl 11 (.gs 6 0), sl 13 (I x54), sl 14 (.ptr 7 0), sl 15 (I x15), sl 52 (LS TimeNode.ty r.1), sl 53 (I (r.1.length : Int)), sl 54 (I x54), sl 59 (I x59), sl 109 (.gs 6 ((x15).toNat + 1)), sl 110 (I x54), sl 139 (B false)], [.gone, .gone, .gone, .gone, .gone, .box [LS intT ((([] : (List Int)) ++ w.fHead) ++ w.fLoop)] 23 true, gridI 56 4 boolT g6_4, .box (TimeNode.cl e_2) 139 false]⟩ (by kernel_rfl) hn (by kernel_rfl) (by kernel_rfl) (by kernel_rfl) (by rfl) (by kernel_rfl) ?_ (by kernel_rfl) ?_
 exact ⟨.mt ⟨[sl 11 (.gs 6 0)], []⟩ [] none (by kernel_rfl) (by rfl) (mt_ev ht (by kernel_rfl)) rfl rfl rfl rfl,
 .mt ⟨[sl 15 (I x15)], []⟩ [] none (by kernel_rfl) (by rfl) (mt_ev ht (by kernel_rfl)) rfl rfl rfl rfl,
 .mt ⟨[sl 106 (.gs 6 0), sl 107 (I x15)], [.gone, .gone, .gone, .gone, .gone, .gone, gridI 56 4 boolT g6_4]⟩ [] none (by kernel_rfl) (by rfl) (mt_val (val_indexG0 (T := boolT) (L := g6_4) (k := x15) ht rfl (by rfl) (by rfl) (by rfl) (by rfl) (by rfl) (by rfl) (by rfl) ⟨(idx_some he_7).1, (idx_some he_7).2.1⟩)) rfl rfl rfl rfl,
 .mt ⟨[sl 108 (.ge 6 0 (x15).toNat 1)], [.gone, .gone, .gone, .gone, .gone, .gone, gridI 56 4 boolT g6_4]⟩ [] none (by kernel_rfl) (by rfl) (mt_val (val_loadG0 (T := boolT) (L := g6_4) ht rfl (by rfl) (by rfl) (by rfl) (by rfl) (idx_lt he_7))) rfl rfl rfl rfl,
 .mt ⟨[sl 13 (I x54)], []⟩ [] none (by kernel_rfl) (by rfl) (mt_ev ht (by kernel_rfl)) rfl rfl rfl rfl,
 .mt ⟨[sl 11 (.gs 6 0)], []⟩ [] none (by kernel_rfl) (by rfl) (mt_ev ht (by kernel_rfl)) rfl rfl rfl rfl,
 .mt ⟨[sl 15 (I x15)], []⟩ [] none (by kernel_rfl) (by rfl) (mt_ev ht (by kernel_rfl)) rfl rfl rfl rfl,
 .mt ⟨[sl 111 (.gs 6 0), sl 112 (I x15)], [.gone, .gone, .gone, .gone, .gone, .gone, gridI 56 4 boolT g6_4]⟩ [] none (by kernel_rfl) (by rfl) (mt_val (val_indexG0 (T := boolT) (L := g6_4) (k := x15) ht rfl (by rfl) (by rfl) (by rfl) (by rfl) (by rfl) (by rfl) (by rfl) ⟨(idx_some he_8).1, (idx_some he_8).2.1⟩)) rfl rfl rfl rfl,
 .mt ⟨[sl 113 (.ge 6 0 (x15).toNat 1)], [.gone, .gone, .gone, .gone, .gone, .gone, gridI 56 4 boolT g6_4]⟩ [] none (by kernel_rfl) (by rfl) (mt_val (val_loadG0 (T := boolT) (L := g6_4) ht rfl (by rfl) (by rfl) (by rfl) (by rfl) (idx_lt he_8))) rfl rfl rfl rfl,
 .mt ⟨[sl 14 (.ptr 7 0)], []⟩ [] none (by kernel_rfl) (by rfl) (mt_ev ht (by kernel_rfl)) rfl rfl rfl rfl,
 .mt ⟨[sl 115 (.ptr 7 2)], [.gone, .gone, .gone, .gone, .gone, .gone, .gone, .box (TimeNode.cl e_2) 139 false]⟩ [] none (by kernel_rfl) (by rfl) (mt_ev ht (by kernel_rfl)) rfl rfl rfl rfl,
 .mt ⟨[sl 114 (.gs 6 ((x15).toNat + 1)), sl 116 (I e_2.fB)], [.gone, .gone, .gone, .gone, .gone, .gone, gridI 56 4 boolT g6_4]⟩ [] none (by kernel_rfl) (by rfl) (mt_val (val_indexG (T := boolT) (L := g6_4) (l := e_8) (k := e_2.fB) ht rfl (by rfl) (by rfl) (by rfl) (by rfl) (by decide) (by rfl) (by rfl) (idx_some he_8).2.2 (by rfl) ⟨(idx_some he_9).1, (idx_some he_9).2.1⟩)) rfl rfl rfl rfl,
 .mt ⟨[sl 117 (.ge 6 ((x15).toNat + 1) (e_2.fB).toNat 1)], [.gone, .gone, .gone, .gone, .gone, .gone, gridI 56 4 boolT g6_4]⟩ [] none (by kernel_rfl) (by rfl) (mt_castB hb_2 (mt_val (val_loadG (T := boolT) (L := g6_4) (l := e_8) (y := e_9) ht rfl (by rfl) (by rfl) (by rfl) (by rfl) (by rfl) (idx_some he_8).2.2 (idx_some he_9).2.2 (by rfl)))) rfl rfl rfl rfl,
 .mt ⟨[sl 118 (B false)], []⟩ [] none (by kernel_rfl) (by rfl) (mt_ev ht (by kernel_rfl)) rfl rfl rfl rfl,
 .mt ⟨[sl 11 (.gs 6 0), sl 119 (B false)], []⟩ [] none (by kernel_rfl) (by rfl) (mt_ev ht (by kernel_rfl)) rfl rfl rfl rfl,
 .mt ⟨[sl 15 (I x15), sl 119 (B false)], []⟩ [] none (by kernel_rfl) (by rfl) (mt_ev ht (by kernel_rfl)) rfl rfl rfl rfl,
 .mt ⟨[sl 119 (B false), sl 120 (.gs 6 0), sl 121 (I x15)], [.gone, .gone, .gone, .gone, .gone, .gone, gridI 56 4 boolT g6_4]⟩ [] none (by kernel_rfl) (by rfl) (mt_val (val_indexG0 (T := boolT) (L := g6_4) (k := x15) ht rfl (by rfl) (by rfl) (by rfl) (by rfl) (by rfl) (by rfl) (by rfl) ⟨(idx_some he_11).1, (idx_some he_11).2.1⟩)) rfl rfl rfl rfl,
 .mt ⟨[sl 119 (B false), sl 122 (.ge 6 0 (x15).toNat 1)], [.gone, .gone, .gone, .gone, .gone, .gone, gridI 56 4 boolT g6_4]⟩ [] none (by kernel_rfl) (by rfl) (mt_val (val_loadG0 (T := boolT) (L := g6_4) ht rfl (by rfl) (by rfl) (by rfl) (by rfl) (idx_lt he_11))) rfl rfl rfl rfl,
 .mt ⟨[sl 14 (.ptr 7 0), sl 119 (B false)], []⟩ [] none (by kernel_rfl) (by rfl) (mt_ev ht (by kernel_rfl)) rfl rfl rfl rfl,
 .mt ⟨[sl 119 (B false), sl 124 (.ptr 7 1)], [.gone, .gone, .gone, .gone, .gone, .gone, .gone, .box (TimeNode.cl e_2) 139 false]⟩ [] none (by kernel_rfl) (by rfl) (mt_ev ht (by kernel_rfl)) rfl rfl rfl rfl,
 .mt ⟨[sl 119 (B false), sl 123 (.gs 6 ((x15).toNat + 1)), sl 125 (I e_2.fA)], [.gone, .gone, .gone, .gone, .gone, .gone, gridI 56 4 boolT g6_4]⟩ [] none (by kernel_rfl) (by rfl) (mt_val (val_indexG (T := boolT) (L := g6_4) (l := e_11) (k := e_2.fA) ht rfl (by rfl) (by rfl) (by rfl) (by rfl) (by decide) (by rfl) (by rfl) (idx_some he_11).2.2 (by rfl) ⟨(idx_some he_12).1, (idx_some he_12).2.1⟩)) rfl rfl rfl rfl,
 .mt ⟨[sl 119 (B false), sl 126 (.ge 6 ((x15).toNat + 1) (e_2.fA).toNat 1)], [.gone, .gone, .gone, .gone, .gone, .gone, gridI 56 4 boolT g6_4]⟩ [] none (by kernel_rfl) (by rfl) (mt_castB hb_3 (mt_val (val_loadG (T := boolT) (L := g6_4) (l := e_11) (y := e_12) ht rfl (by rfl) (by rfl) (by rfl) (by rfl) (by rfl) (idx_some he_11).2.2 (idx_some he_12).2.2 (by rfl)))) rfl rfl rfl rfl,
 .mt ⟨[sl 119 (B false), sl 127 (B false)], []⟩ [] none (by kernel_rfl) (by rfl) (mt_ev ht (by kernel_rfl)) rfl rfl rfl rfl,
 .skip ⟨[sl 128 (B false)], []⟩ (by kernel_rfl) (by rfl) rfl rfl rfl rfl,
 .skip ⟨[sl 128 (B false)], []⟩ (by kernel_rfl) (by rfl) rfl rfl rfl rfl,
 .skip ⟨[sl 128 (B false)], []⟩ (by kernel_rfl) (by rfl) rfl rfl rfl rfl,
 .skip ⟨[sl 128 (B false)], []⟩ (by kernel_rfl) (by rfl) rfl rfl rfl rfl,
 .skip ⟨[sl 128 (B false)], []⟩ (by kernel_rfl) (by rfl) rfl rfl rfl rfl,
 .skip ⟨[sl 128 (B false)], []⟩ (by kernel_rfl) (by rfl) rfl rfl rfl rfl,
 .skip ⟨[sl 128 (B false)], []⟩ (by kernel_rfl) (by rfl) rfl rfl rfl rfl,
 .skip ⟨[sl 128 (B false)], []⟩ (by kernel_rfl) (by rfl) rfl rfl rfl rfl,
 .skip ⟨[sl 128 (B false)], []⟩ (by kernel_rfl) (by rfl) rfl rfl rfl rfl,
 .mt ⟨[sl 119 (B false), sl 128 (B false), (137, .tup [])], []⟩ [] none (by kernel_rfl) (by rfl) (mt_ev ht (by kernel_rfl)) rfl rfl rfl rfl,
 .mt ⟨[sl 119 (B false), sl 138 (B false)], []⟩ [] none (by kernel_rfl) (by rfl) (mt_ev ht (by kernel_rfl)) rfl rfl rfl rfl,
 trivial⟩
 obtain ⟨e_16, he_16, h⟩ := h
 refine WL.val hn (by rfl) (val_indexG (T := boolT) (L := g6_4) (l := e_7) (k := x54) ht rfl (by rfl) (by rfl) (by rfl) (by rfl) (by decide) (by rfl) (by rfl) (idx_some he_7).2.2 (by rfl) ⟨(idx_some he_16).1, (idx_some he_16).2.1⟩) (by rfl) ?_
 refine WL.storeG (T := boolT) (L := g6_4) (l := e_7) (y := false) ht hn (by rfl) rfl (by rfl) (by rfl) (fun _ h => by cases h) (by rfl) (by rfl) (idx_some he_7).2.2 (idx_lt he_16) (by rfl) (by rfl) (by rfl) (by rfl) ?_
 refine WL.nil ?_
 exact En.at (I := fun zz => J zz) (T := fun zz => ⟨[sl 6 (LS TimeNode.ty r.1), sl 9 (.ptr 5 0), sl 10 (.rd (fvR (fun (x_ : Int) => [.sv (.one (I x_))]) (fun (r : Int) => .sv (.one (I r))) (fun _ => True) (fun (x : Int) => nxtR ((([] : (List Int)) ++ w.fHead) ++ w.fLoop) w x))), sl 11 (.gs 6 0), sl 13 (I x54), sl 14 (.ptr 7 0), sl 15 (I x15), sl 52 (LS TimeNode.ty r.1), sl 53 (I (r.1.length : Int)), sl 54 (I x54), sl 59 (I x59)], [.gone, .gone, .gone, .gone, .gone, .box [LS intT ((([] : (List Int)) ++ w.fHead) ++ w.fLoop)] 23 true, gridI 56 4 boolT zz, .box (TimeNode.cl e_2) 139 false]⟩) (g6_4.set (x15).toNat (e_7.set (x54).toNat false)) h (by kernel_rfl)
 replace h := h.2 hb
 obtain ⟨e_17, he_17, h⟩ := h
 obtain ⟨e_18, he_18, h⟩ := h
 obtain ⟨e_19, he_19, h⟩ := h
 have hp_6 := h.1
 replace h := h.2
 refine En.regionT ⟨[sl 6 (LS TimeNode.ty r.1), sl 9 (.ptr 5 0), sl 10 (.rd (fvR (fun (x_ : Int) => [.sv (.one (I x_))]) (fun (r : Int) => .sv (.one (I r))) (fun _ => True) (fun (x : Int) => nxtR ((([] : (List Int)) ++ w.fHead) ++ w.fLoop) w x))), sl 11 (.gs 6 0), sl 13 (I x54), sl 14 (.ptr 7 0), sl 15 (I x15), sl 52 (LS TimeNode.ty r.1), sl 53 (I (r.1.length : Int)), sl 54 (I x54), sl 59 (I x59)], [.sv (.one (.gs 6 0)), .sv (.one (I x15)), .sv (.one (.ge 6 0 (x15).toNat 1)), .sv (.one (.gs 6 ((x15).toNat + 1))), .sv (.one (I x54)), .sv (.agg (TimeNode.cl e_2)), .sv (.one (LS intT ((([] : (List Int)) ++ w.fHead) ++ w.fLoop))), .sv (.one (I x15)), .sv (.one (.pe (svR (.one (I e_18))) 1)), .sv (.one (I e_18)), .sv (.one (.gs 6 0)), .sv (.one (I x15)), .sv (.one (.ge 6 0 (x15).toNat 1)), .sv (.one (.gs 6 ((x15).toNat + 1))), .sv (.one (B (plR e_2 e_18 e_19)))], [⟨.gone, none, none, none⟩, ⟨.gone, none, none, none⟩, ⟨.gone, none, none, none⟩, ⟨.gone, none, none, none⟩, ⟨.gone, none, none, none⟩, ⟨.box [LS intT ((([] : (List Int)) ++ w.fHead) ++ w.fLoop)] 23 true, none, none, none⟩, ⟨gridI 56 4 boolT g6_4, none, none, none⟩, ⟨.box (TimeNode.cl e_2) 139 false, none, none, none⟩]⟩ 15 ⟨[sl 6 (LS TimeNode.ty r.1), sl 9 (.ptr 5 0), sl 10 (.rd (fvR (fun (x_ : Int) => [.sv (.one (I x_))]) (fun (r : Int) => .sv (.one (I r))) (fun _ => True) (fun (x : Int) => nxtR ((([] : (List Int)) ++ w.fHead) ++ w.fLoop) w x))), sl 11 (.gs 6 0), sl 13 (I x54), sl 14 (.ptr 7 0), sl 15 (I x15), sl 52 (LS TimeNode.ty r.1), sl 53 (I (r.1.length : Int)), sl 54 (I x54), sl 59 (I x59), sl 73 (.gs 6 ((x15).toNat + 1)), sl 74 (I x54), sl 84 (B (plR e_2 e_18 e_19))], [.gone, .gone, .gone, .gone, .gone, .box [LS intT ((([] : (List Int)) ++ w.fHead) ++ w.fLoop)] 23 true, gridI 56 4 boolT g6_4, .box (TimeNode.cl e_2) 139 false]⟩ (by kernel_rfl) hn (by kernel_rfl) (by kernel_rfl) (by kernel_rfl) (by rfl) (by kernel_rfl) ?_ (by kernel_rfl) ?_
 exact ⟨.mt ⟨[sl 11 (.gs 6 0)], []⟩ [] none (by kernel_rfl) (by rfl) (mt_ev ht (by kernel_rfl)) rfl rfl rfl rfl,
 .mt ⟨[sl 15 (I x15)], []⟩ [] none (by kernel_rfl) (by rfl) (mt_ev ht (by kernel_rfl)) rfl rfl rfl rfl,
 .mt ⟨[sl 70 (.gs 6 0), sl 71 (I x15)], [.gone, .gone, .gone, .gone, .gone, .gone, gridI 56 4 boolT g6_4]⟩ [] none (by kernel_rfl) (by rfl) (mt_val (val_indexG0 (T := boolT) (L := g6_4) (k := x15) ht rfl (by rfl) (by rfl) (by rfl) (by rfl) (by rfl) (by rfl) (by rfl) ⟨(idx_some he_17).1, (idx_some he_17).2.1⟩)) rfl rfl rfl rfl,
 .mt ⟨[sl 72 (.ge 6 0 (x15).toNat 1)], [.gone, .gone, .gone, .gone, .gone, .gone, gridI 56 4 boolT g6_4]⟩ [] none (by kernel_rfl) (by rfl) (mt_val (val_loadG0 (T := boolT) (L := g6_4) ht rfl (by rfl) (by rfl) (by rfl) (by rfl) (idx_lt he_17))) rfl rfl rfl rfl,
 .mt ⟨[sl 13 (I x54)], []⟩ [] none (by kernel_rfl) (by rfl) (mt_ev ht (by kernel_rfl)) rfl rfl rfl rfl,
 .mt ⟨[sl 14 (.ptr 7 0)], [.gone, .gone, .gone, .gone, .gone, .gone, .gone, .box (TimeNode.cl e_2) 139 false]⟩ [] none (by kernel_rfl) (by rfl) (mt_ev ht (by kernel_rfl)) rfl rfl rfl rfl,
 .mt ⟨[sl 9 (.ptr 5 0)], [.gone, .gone, .gone, .gone, .gone, .box [LS intT ((([] : (List Int)) ++ w.fHead) ++ w.fLoop)] 23 true]⟩ [] none (by kernel_rfl) (by rfl) (mt_ev ht (by kernel_rfl)) rfl rfl rfl rfl,
 .mt ⟨[sl 15 (I x15)], []⟩ [] none (by kernel_rfl) (by rfl) (mt_ev ht (by kernel_rfl)) rfl rfl rfl rfl,
 .mt ⟨[sl 76 (LS intT ((([] : (List Int)) ++ w.fHead) ++ w.fLoop)), sl 77 (I x15)], []⟩ [] none (by kernel_rfl) (by rfl) (mt_val (val_index (T := intT) (l := ((([] : (List Int)) ++ w.fHead) ++ w.fLoop)) (i := x15) ht rfl (by rfl) (by rfl) (by rfl) (by rfl) (by rfl) (by rfl) he_18)) rfl rfl rfl rfl,
 .mt ⟨[sl 78 (.pe (svR (.one (I e_18))) 1)], []⟩ [] none (by kernel_rfl) (by rfl) (mt_val (val_load (s := .one (I e_18)) ht rfl (by rfl) (by rfl) (by rfl) (by rfl) (by rfl))) rfl rfl rfl rfl,
 .mt ⟨[sl 11 (.gs 6 0)], []⟩ [] none (by kernel_rfl) (by rfl) (mt_ev ht (by kernel_rfl)) rfl rfl rfl rfl,
 .mt ⟨[sl 15 (I x15)], []⟩ [] none (by kernel_rfl) (by rfl) (mt_ev ht (by kernel_rfl)) rfl rfl rfl rfl,
 .mt ⟨[sl 80 (.gs 6 0), sl 81 (I x15)], [.gone, .gone, .gone, .gone, .gone, .gone, gridI 56 4 boolT g6_4]⟩ [] none (by kernel_rfl) (by rfl) (mt_val (val_indexG0 (T := boolT) (L := g6_4) (k := x15) ht rfl (by rfl) (by rfl) (by rfl) (by rfl) (by rfl) (by rfl) (by rfl) ⟨(idx_some he_19).1, (idx_some he_19).2.1⟩)) rfl rfl rfl rfl,
 .mt ⟨[sl 82 (.ge 6 0 (x15).toNat 1)], [.gone, .gone, .gone, .gone, .gone, .gone, gridI 56 4 boolT g6_4]⟩ [] none (by kernel_rfl) (by rfl) (mt_val (val_loadG0 (T := boolT) (L := g6_4) ht rfl (by rfl) (by rfl) (by rfl) (by rfl) (idx_lt he_19))) rfl rfl rfl rfl,
 .mt ⟨[(75, .sv (.agg (TimeNode.cl e_2))), sl 79 (I e_18), sl 83 (.gs 6 ((x15).toNat + 1))], [.gone, .gone, .gone, .gone, .gone, .gone, gridI 56 4 boolT g6_4]⟩ [] none (by kernel_rfl) (by rfl) (mt_lendR (T := boolT) (L := g6_4) (l := e_19) 6 83 (by rfl) (idx_some he_19).2.2 (by rfl) (by rfl) (mt_call (tPlain_ct e_2 e_18 e_19 hp_6) en63 (caps := []) [] rfl (by rfl) (by kernel_rfl) (by kernel_rfl) (by rfl) (by rfl) (by rfl))) rfl rfl rfl rfl,
 trivial⟩
 obtain ⟨e_20, he_20, h⟩ := h
 refine WL.val hn (by rfl) (val_indexG (T := boolT) (L := g6_4) (l := e_17) (k := x54) ht rfl (by rfl) (by rfl) (by rfl) (by rfl) (by decide) (by rfl) (by rfl) (idx_some he_17).2.2 (by rfl) ⟨(idx_some he_20).1, (idx_some he_20).2.1⟩) (by rfl) ?_
 refine WL.storeG (T := boolT) (L := g6_4) (l := e_17) (y := (plR e_2 e_18 e_19)) ht hn (by rfl) rfl (by rfl) (by rfl) (fun _ h => by cases h) (by rfl) (by rfl) (idx_some he_17).2.2 (idx_lt he_20) (by rfl) (by rfl) (by rfl) (by rfl) ?_
 refine WL.nil ?_
 exact En.at (I := fun zz => J zz) (T := fun zz => ⟨[sl 6 (LS TimeNode.ty r.1), sl 9 (.ptr 5 0), sl 10 (.rd (fvR (fun (x_ : Int) => [.sv (.one (I x_))]) (fun (r : Int) => .sv (.one (I r))) (fun _ => True) (fun (x : Int) => nxtR ((([] : (List Int)) ++ w.fHead) ++ w.fLoop) w x))), sl 11 (.gs 6 0), sl 13 (I x54), sl 14 (.ptr 7 0), sl 15 (I x15), sl 52 (LS TimeNode.ty r.1), sl 53 (I (r.1.length : Int)), sl 54 (I x54), sl 59 (I x59)], [.gone, .gone, .gone, .gone, .gone, .box [LS intT ((([] : (List Int)) ++ w.fHead) ++ w.fLoop)] 23 true, gridI 56 4 boolT zz, .box (TimeNode.cl e_2) 139 false]⟩) (g6_4.set (x15).toNat (e_17.set (x54).toNat (plR e_2 e_18 e_19))) h (by kernel_rfl)
 intro g6_5 h
 replace h := hJ _ h
 show En c ⟨[sl 6 (LS TimeNode.ty r.1), sl 9 (.ptr 5 0), sl 10 (.rd (fvR (fun (x_ : Int) => [.sv (.one (I x_))]) (fun (r : Int) => .sv (.one (I r))) (fun _ => True) (fun (x : Int) => nxtR ((([] : (List Int)) ++ w.fHead) ++ w.fLoop) w x))), sl 11 (.gs 6 0), sl 13 (I x54), sl 14 (.ptr 7 0), sl 15 (I x15), sl 52 (LS TimeNode.ty r.1), sl 53 (I (r.1.length : Int)), sl 54 (I x54), sl 59 (I x59)], [.gone, .gone, .gone, .gone, .gone, .box [LS intT ((([] : (List Int)) ++ w.fHead) ++ w.fLoop)] 23 true, gridI 56 4 boolT g6_5, .box (TimeNode.cl e_2) 139 false]⟩ _
 refine En.region ?_
 refine WL.run ht hn 3 ⟨[sl 6 (LS TimeNode.ty r.1), sl 9 (.ptr 5 0), sl 10 (.rd (fvR (fun (x_ : Int) => [.sv (.one (I x_))]) (fun (r : Int) => .sv (.one (I r))) (fun _ => True) (fun (x : Int) => nxtR ((([] : (List Int)) ++ w.fHead) ++ w.fLoop) w x))), sl 11 (.gs 6 0), sl 13 (I x54), sl 14 (.ptr 7 0), sl 15 (I (wr (x15 - 1))), sl 52 (LS TimeNode.ty r.1), sl 53 (I (r.1.length : Int)), sl 54 (I x54), sl 59 (I x59)], [.gone, .gone, .gone, .gone, .gone, .box [LS intT ((([] : (List Int)) ++ w.fHead) ++ w.fLoop)] 23 true, gridI 56 4 boolT g6_5, .box (TimeNode.cl e_2) 139 false]⟩ (by kernel_rfl) ?_
 refine WL.nil ?_
 exact En.at (I := fun zz => Inv_4 zz.1 zz.2 ∧ mu_4 zz.1 zz.2 < mu_4 x15 g6_4) (T := fun zz => ⟨[sl 6 (LS TimeNode.ty r.1), sl 9 (.ptr 5 0), sl 10 (.rd (fvR (fun (x_ : Int) => [.sv (.one (I x_))]) (fun (r : Int) => .sv (.one (I r))) (fun _ => True) (fun (x : Int) => nxtR ((([] : (List Int)) ++ w.fHead) ++ w.fLoop) w x))), sl 11 (.gs 6 0), sl 13 (I x54), sl 14 (.ptr 7 0), sl 15 (I zz.1), sl 52 (LS TimeNode.ty r.1), sl 53 (I (r.1.length : Int)), sl 54 (I x54), sl 59 (I x59)], [.gone, .gone, .gone, .gone, .gone, .box [LS intT ((([] : (List Int)) ++ w.fHead) ++ w.fLoop)] 23 true, gridI 56 4 boolT zz.2, .box (TimeNode.cl e_2) 139 false]⟩) ((wr (x15 - 1)), g6_5) h (by kernel_rfl)
 replace h := h.2 hb
 refine En.exit rfl ?_
 refine En.region ?_
 refine WL.run ht hn 2 ⟨[sl 6 (LS TimeNode.ty r.1), sl 9 (.ptr 5 0), sl 10 (.rd (fvR (fun (x_ : Int) => [.sv (.one (I x_))]) (fun (r : Int) => .sv (.one (I r))) (fun _ => True) (fun (x : Int) => nxtR ((([] : (List Int)) ++ w.fHead) ++ w.fLoop) w x))), sl 11 (.gs 6 0), sl 13 (I x54), sl 14 (.ptr 7 0), sl 52 (LS TimeNode.ty r.1), sl 53 (I (r.1.length : Int)), sl 54 (I x54), sl 59 (I (wr (x59 + 1)))], [.gone, .gone, .gone, .gone, .gone, .box [LS intT ((([] : (List Int)) ++ w.fHead) ++ w.fLoop)] 23 true, gridI 56 4 boolT g6_4, .box (TimeNode.cl e_2) 139 false]⟩ (by kernel_rfl) ?_
 refine WL.nil ?_
 exact En.at (I := fun zz => Inv_3 zz.1 zz.2 ∧ mu_3 zz.1 zz.2 < mu_3 x59 g6_3) (T := fun zz => ⟨[sl 6 (LS TimeNode.ty r.1), sl 9 (.ptr 5 0), sl 10 (.rd (fvR (fun (x_ : Int) => [.sv (.one (I x_))]) (fun (r : Int) => .sv (.one (I r))) (fun _ => True) (fun (x : Int) => nxtR ((([] : (List Int)) ++ w.fHead) ++ w.fLoop) w x))), sl 11 (.gs 6 0), sl 13 (I x54), sl 14 (.ptr 7 0), sl 52 (LS TimeNode.ty r.1), sl 53 (I (r.1.length : Int)), sl 54 (I x54), sl 59 (I zz.1)], [.gone, .gone, .gone, .gone, .gone, .box [LS intT ((([] : (List Int)) ++ w.fHead) ++ w.fLoop)] 23 true, gridI 56 4 boolT zz.2, .box (TimeNode.cl e_2) 139 false]⟩) ((wr (x59 + 1)), g6_4) h (by kernel_rfl)
 replace h := h.2 hb
 refine En.exit rfl ?_
 refine En.region ?_
 refine WL.run ht hn 2 ⟨[sl 6 (LS TimeNode.ty r.1), sl 9 (.ptr 5 0), sl 10 (.rd (fvR (fun (x_ : Int) => [.sv (.one (I x_))]) (fun (r : Int) => .sv (.one (I r))) (fun _ => True) (fun (x : Int) => nxtR ((([] : (List Int)) ++ w.fHead) ++ w.fLoop) w x))), sl 11 (.gs 6 0), sl 52 (LS TimeNode.ty r.1), sl 53 (I (r.1.length : Int)), sl 54 (I (wr (x54 + 1)))], [.gone, .gone, .gone, .gone, .gone, .box [LS intT ((([] : (List Int)) ++ w.fHead) ++ w.fLoop)] 23 true, gridI 56 4 boolT g6_3, .gone]⟩ (by kernel_rfl) ?_
 refine WL.nil ?_
 exact En.at (I := fun zz => Inv_2 zz.1 zz.2 ∧ mu_2 zz.1 zz.2 < mu_2 x54 g6_2) (T := fun zz => ⟨[sl 6 (LS TimeNode.ty r.1), sl 9 (.ptr 5 0), sl 10 (.rd (fvR (fun (x_ : Int) => [.sv (.one (I x_))]) (fun (r : Int) => .sv (.one (I r))) (fun _ => True) (fun (x : Int) => nxtR ((([] : (List Int)) ++ w.fHead) ++ w.fLoop) w x))), sl 11 (.gs 6 0), sl 52 (LS TimeNode.ty r.1), sl 53 (I (r.1.length : Int)), sl 54 (I zz.1)], [.gone, .gone, .gone, .gone, .gone, .box [LS intT ((([] : (List Int)) ++ w.fHead) ++ w.fLoop)] 23 true, gridI 56 4 boolT zz.2]⟩) ((wr (x54 + 1)), g6_3) h (by kernel_rfl)
 replace h := h.2 hb
 refine En.exit rfl ?_
 refine En.seq ?_
 refine En.region ?_
 refine WL.run ht hn 1 ⟨[sl 6 (LS TimeNode.ty r.1), sl 143 (.gs 6 0)], [.gone, .gone, .gone, .gone, .gone, .gone, gridI 56 4 boolT g6_2]⟩ (by kernel_rfl) ?_
 obtain ⟨e_21, he_21, h⟩ := h
 refine WL.val hn (by rfl) (val_indexG0 (T := boolT) (L := g6_2) (k := 0) ht rfl (by rfl) (by rfl) (by rfl) (by rfl) (by rfl) (by rfl) (by rfl) ⟨(idx_some he_21).1, (idx_some he_21).2.1⟩) (by rfl) ?_
 refine WL.val hn (by rfl) (val_loadG0 (T := boolT) (L := g6_2) ht rfl (by rfl) (by rfl) (by rfl) (by rfl) (idx_lt he_21)) (by rfl) ?_
 refine WL.run ht hn 3 ⟨[sl 145 (.gs 6 ((0 : Int).toNat + 1)), sl 148 (I (wr ((r.1.length : Int) - 1)))], [.gone, .gone, .gone, .gone, .gone, .gone, gridI 56 4 boolT g6_2]⟩ (by kernel_rfl) ?_
 obtain ⟨e_22, he_22, h⟩ := h
 refine WL.val hn (by rfl) (val_indexG (T := boolT) (L := g6_2) (l := e_21) (k := (wr ((r.1.length : Int) - 1))) ht rfl (by rfl) (by rfl) (by rfl) (by rfl) (by decide) (by rfl) (by rfl) (idx_some he_21).2.2 (by rfl) ⟨(idx_some he_22).1, (idx_some he_22).2.1⟩) (by rfl) ?_
 refine WL.val hn (by rfl) (val_loadG (T := boolT) (L := g6_2) (l := e_21) (y := e_22) ht rfl (by rfl) (by rfl) (by rfl) (by rfl) (by rfl) (idx_some he_21).2.2 (idx_some he_22).2.2 (by rfl)) (by rfl) ?_
 refine WL.run ht hn 2 ⟨[sl 4 (B e_22), sl 5 (I 0)], [.gone, .gone, .gone, .gone, .gone, .gone, .gone]⟩ (by kernel_rfl) ?_
 refine WL.nil ?_
 refine En.ret ?_
 exact En.back ht (e_22, 0) h (by kernel_rfl) rfl
theorem en21 : ∀ args w, (callFunc 21 args).run Try.prog w = .ok (.enter 21 args) w := enters_of Try.func21 (by kernel_rfl) rfl
def HoldsQ (text : ByteArray) (w : ApiLasso) (r : Bool × Int) : Prop := (r.2 ≠ 0 ∧ (fullP text = false ∨ lasE 4 w ≠ 0)) ∨ (r.2 = 0 ∧ lasE 4 w = 0 ∧ ∃ t, pT text (4 * text.size + 4) 3 0 = some (t, (text.size : Int)) ∧ r.1 = semT (w.fHead ++ w.fLoop) w.fHead.length t 0)
theorem lasE_ok {n : Int} {w : ApiLasso} (h : lasE n w = 0) : w.fHead.length ≤ 60 ∧ w.fLoop.length ≤ 60 ∧ 0 < w.fLoop.length := by
 unfold lasE at h
 split at h
 ·rename_i h1
  exact absurd h h1
 rename_i h1
 split at h
 ·rename_i h2
  exact absurd h h2
 rename_i h2
 split at h
 ·cases h
 rename_i h3
 exact ⟨(mayE_ok (Decidable.not_not.1 h1)).1, (mayE_ok (Decidable.not_not.1 h2)).1, by omega⟩
theorem nxtR_eq {w : ApiLasso} {i : Nat} (h6 : (w.fHead ++ w.fLoop).length ≤ 1000) (hi : i < (w.fHead ++ w.fLoop).length) : nxtR (w.fHead ++ w.fLoop) w (i : Int) = ((nx (w.fHead ++ w.fLoop).length w.fHead.length i : Nat) : Int) := by
 have hw : wr ((i : Int) + 1) = ((i + 1 : Nat) : Int) := by rw [wr_in (by omega) (by omega)]; rfl
 unfold nxtR nx
 rw [hw]
 by_cases h : i + 1 = (w.fHead ++ w.fLoop).length
 ·rw [if_pos (by omega), if_pos h]
 ·rw [if_neg (by omega), if_neg h]
structure Fill (all : List Int) (h : Nat) (nd : TimeNode) (C : Nat → Nat → Bool) (k p m : Nat) (q : Nat) (g : List (List Bool)) : Prop where
 ok : GOk g all.length m
 same : ∀ j i, i < all.length → j ≠ k → cell g j i = C j i
 col : ∀ i, i < all.length → cell g k i = if i < q then colP all h nd C p i else colP all h nd C (p + 1) i
theorem Fill.set {all : List Int} {h : Nat} {nd : TimeNode} {C : Nat → Nat → Bool} {k p m q : Nat} {g : List (List Bool)} (hF : Fill all h nd C k p m (q + 1) g) (hq : q < all.length) (hk : k < m) {r : List Bool} (hr : g[q]? = some r) {b : Bool} (hb : b = colP all h nd C (p + 1) q) : Fill all h nd C k p m q (g.set q (r.set k b)) := by
 refine ⟨hF.ok.set hq hr b, fun j i hi hj => ?_, fun i hi => ?_⟩
 ·rw [cell_set hF.ok hq hk hr, if_neg (fun e => hj e.2)]
  exact hF.same j i hi hj
 ·rw [cell_set hF.ok hq hk hr]
  by_cases e : i = q
  ·subst e
   rw [if_pos ⟨rfl, rfl⟩, if_neg (Nat.lt_irrefl _), hb]
  ·rw [if_neg (fun e2 => e e2.1), hF.col i hi]
   by_cases hiq : i < q
   ·rw [if_pos hiq, if_pos (by omega)]
   ·rw [if_neg hiq, if_neg (by omega)]
theorem Fill.until_ {all : List Int} {h : Nat} {nd : TimeNode} {C : Nat → Nat → Bool} {k p m q : Nat} {g : List (List Bool)} (hF : Fill all h nd C k p m (q + 1) g) (hh : h < all.length) (hq : q < all.length) (h7 : nd.fKind = 7) : colP all h nd C (p + 1) q = (C nd.fB.toNat q || (C nd.fA.toNat q && cell g k (nx all.length h q))) := by
 have e : ∀ i, colP all h nd C (p + 1) i = swp all.length h (C nd.fA.toNat) (C nd.fB.toNat) (colP all h nd C p) i := fun i => by
  show pasV all h nd C (colP all h nd C p) i = _
  unfold pasV
  rw [if_neg (by omega), if_pos h7]
 unfold nx
 by_cases hl : q + 1 = all.length
 ·rw [if_pos hl, hF.col h hh, if_pos (by omega), e]
  have hq' : q = all.length - 1 := by omega
  rw [hq']
  exact swp_last (by omega)
 ·rw [if_neg hl, hF.col (q + 1) (by omega), if_neg (by omega), e, e]
  exact swp_step (by omega)
theorem tHolds_ct (text : ByteArray) (w : ApiLasso)  : Ct 21 [.sv (.one (.v (.string text))), .sv (.agg [LS intT w.fHead, LS intT w.fLoop])] [] (HoldsQ text w) (fun (r : (Bool × Int)) => .tup [.one (B r.1), .one (I r.2)]) := by
 refine tHolds_walk text w (HoldsQ text w) ?_
 unfold tHolds_vc
 intro _ _ r hr
 refine ⟨fun hb => .inl ⟨by show (4 : Int) ≠ 0; decide, ?_⟩, fun hb => ⟨fun hl => .inl ⟨bne_iff_ne.1 hl, .inr (bne_iff_ne.1 hl)⟩, fun hl => ?_⟩⟩
 ·rcases hr with h | h
  ·exact .inl h.2
  ·rw [h.1] at hb
   cases hb
 rw [bne_eq_false_iff_eq] at hb hl
 obtain ⟨hh60, hl60, hne⟩ := lasE_ok hl
 rcases hr with h | ⟨he, hz, hlen, hwf, t, ht, h0, hd⟩
 ·exact absurd hb h.1
 simp only [List.nil_append]
 have hnl : (w.fHead ++ w.fLoop).length = w.fHead.length + w.fLoop.length := List.length_append
 have hnx := fun i hi => nxtR_eq (w := w) (i := i) (by omega) hi
 obtain ⟨all, hall⟩ : ∃ all, w.fHead ++ w.fLoop = all := ⟨_, rfl⟩
 have hgoal : HoldsQ text w = fun r : Bool × Int => (r.2 ≠ 0 ∧ (fullP text = false ∨ lasE 4 w ≠ 0)) ∨ (r.2 = 0 ∧ lasE 4 w = 0 ∧ ∃ t, pT text (4 * text.size + 4) 3 0 = some (t, (text.size : Int)) ∧ r.1 = semT all w.fHead.length t 0) := by rw [← hall]; rfl
 rw [hgoal]
 simp only [hall] at hnl hnx ⊢
 obtain ⟨h, hhd⟩ : ∃ h, w.fHead.length = h := ⟨_, rfl⟩
 simp only [hhd] at hnx hnl hh60 ⊢
 have hh : h < all.length := by omega
 obtain ⟨l, hlr⟩ : ∃ l, r.1 = l := ⟨_, rfl⟩
 simp only [hlr] at hlen hwf h0 hd ⊢
 obtain ⟨m, hm⟩ : ∃ m, m = l.length := ⟨_, rfl⟩
 simp only [Int.toNat_natCast, List.length_replicate]
 have hcast : ∀ i : Nat, i < 100000 → wr ((i : Int) + 1) = ((i + 1 : Nat) : Int) := fun i hi => by rw [wr_in (by omega) (by omega)]; rfl
 refine ⟨capOk_of (by simp only [List.length_nil]; omega), capOk_of (by omega), ⟨by omega, Int.le_refl _, by omega⟩, ?_⟩
 refine ⟨fun x g => ∃ k : Nat, x = k ∧ k ≤ all.length ∧ g.length = all.length ∧ ∀ i, i < k → g[i]? = some (List.replicate m false), fun x _ => all.length - x.toNat, ⟨0, rfl, Nat.zero_le _, List.length_replicate, fun i hi => by omega⟩, ?_⟩
 rintro _ g ⟨k, rfl, hk, hgl, hg⟩
 refine ⟨fun hb2 => ?_, fun hb2 => ?_⟩
 ·have hlt : k < all.length := by have := of_decide_eq_true hb2; omega
  rw [hcast k (by omega)]
  refine ⟨⟨by omega, Int.le_refl _, by omega⟩, _, idx_at (by omega), ⟨k + 1, rfl, hlt, by rw [List.length_set]; exact hgl, fun i hi => ?_⟩, by show all.length - (k + 1) < all.length - k; omega⟩
  rw [Int.toNat_natCast, List.getElem?_set]
  by_cases e : k = i
  ·rw [if_pos e, if_pos (by omega), hm]
  ·rw [if_neg e]
   exact hg i (by omega)
 have hke : k = all.length := by have := of_decide_eq_false hb2; omega
 subst hke
 have hG : GOk g all.length m := ⟨hgl, fun i row hi => by
  have := (List.getElem?_eq_some_iff.1 hi).1
  rw [hg i (by omega)] at hi
  cases hi
  exact List.length_replicate⟩
 have hZ : ∀ j i, i < all.length → cell g j i = false := fun j i hi => by
  obtain ⟨row, h1, _, h3⟩ := hG.at hi
  rw [hg i hi] at h1
  cases h1
  rw [h3, List.getD_eq_getElem?_getD, List.getElem?_replicate]
  split <;> rfl
 clear hg hgl
 refine ⟨fun x g => ∃ k : Nat, x = k ∧ k ≤ m ∧ GOk g all.length m ∧ NodeS all h l (cell g) k ∧ ∀ j, k ≤ j → ∀ i, i < all.length → cell g j i = false, fun x _ => m - x.toNat, ⟨0, rfl, Nat.zero_le _, hG, fun j nd hj => by omega, fun j _ i hi => hZ j i hi⟩, ?_⟩
 clear hG hZ hk hb2
 rintro _ g0 ⟨k, rfl, hk, hG0, hN, hZ⟩
 refine ⟨fun hb2 => ?_, fun hb2 => ?_⟩
 ·have hlt : k < m := by have := of_decide_eq_true hb2; omega
  have hkl : k < l.length := by omega
  obtain ⟨nd, hnd⟩ : ∃ nd, nd = l[k] := ⟨_, rfl⟩
  have hget : l[k]? = some nd := by rw [hnd]; exact List.getElem?_eq_getElem hkl
  have hok := hwf k nd hget
  obtain ⟨k0, k7, kA, kB⟩ := hok
  refine ⟨nd, by rw [idx_at hkl, hnd], fun x g => ∃ p : Nat, x = p ∧ p ≤ 2 ∧ Fill all h nd (cell g0) k p m all.length g, fun x _ => 2 - x.toNat, ⟨0, rfl, by decide, hG0, fun _ _ _ _ => rfl, fun i hi => by rw [if_pos hi, hZ k (Nat.le_refl _) i hi]; rfl⟩, ?_⟩
  rintro _ g3 ⟨p, rfl, hp, hF3⟩
  refine ⟨fun hb3 => ?_, fun hb3 => ?_⟩
  ·have hp2 : p < 2 := by have := of_decide_eq_true hb3; omega
   have hst : wr ((all.length : Int) - 1) = (all.length : Int) - 1 := wr_in (by omega) (by omega)
   rw [hst]
   refine ⟨fun x g => ∃ q : Nat, x = (q : Int) - 1 ∧ q ≤ all.length ∧ Fill all h nd (cell g0) k p m q g, fun x _ => (x + 1).toNat, ⟨all.length, rfl, Nat.le_refl _, hF3⟩, ?_⟩
   rintro _ g4 ⟨q, rfl, hq, hF⟩
   refine ⟨fun hb4 => ?_, fun hb4 => ?_⟩
   ·obtain ⟨i, rfl⟩ : ∃ i, q = i + 1 := ⟨q - 1, by have := of_decide_eq_true hb4; omega⟩
    have hi : i < all.length := by omega
    have hx : ((i + 1 : Nat) : Int) - 1 = (i : Int) := by omega
    rw [hx]
    obtain ⟨row, r1, r2, r3⟩ := hF.ok.at hi
    have hnxl : nx all.length h i < all.length := by
     unfold nx
     split
     ·exact hh
     ·omega
    obtain ⟨row2, s1, s2, s3⟩ := hF.ok.at hnxl
    have ix : idx g4 (i : Int) = some row := by
     unfold idx
     rw [if_pos (Int.natCast_nonneg _), Int.toNat_natCast]
     exact r1
    have ix2 : idx g4 ((fun (x : Int) => nxtR all w x) (i : Int)) = some row2 := by
     show idx g4 (nxtR all w (i : Int)) = some row2
     rw [hnx i hi]
     unfold idx
     rw [if_pos (Int.natCast_nonneg _), Int.toNat_natCast]
     exact s1
    have ixk : idx row (k : Int) = some (row.getD k false) := by
     have := idx_of (l := row) (i := (k : Int)) false (Int.natCast_nonneg _) (by rw [r2]; omega)
     rwa [Int.toNat_natCast] at this
    have ixk2 : idx row2 (k : Int) = some (row2.getD k false) := by
     have := idx_of (l := row2) (i := (k : Int)) false (Int.natCast_nonneg _) (by rw [s2]; omega)
     rwa [Int.toNat_natCast] at this
    have hset : ∀ b, b = colP all h nd (cell g0) (p + 1) i → Fill all h nd (cell g0) k p m i (g4.set (i : Int).toNat (row.set (k : Int).toNat b)) := fun b hb => by
     rw [Int.toNat_natCast, Int.toNat_natCast]
     exact hF.set hi hlt r1 hb
    have cA : 3 ≤ nd.fKind → (∃ e, idx row nd.fA = some e ∧ e = cell g0 nd.fA.toNat i) ∧ ∃ e, idx row2 nd.fA = some e ∧ e = cell g0 nd.fA.toNat (nx all.length h i) := fun h3 => by
     obtain ⟨a0, a1⟩ := kA h3
     refine ⟨⟨_, idx_of false a0 (by omega), ?_⟩, ⟨_, idx_of false a0 (by omega), ?_⟩⟩
     ·rw [← r3]
      exact hF.same _ i hi (by omega)
     ·rw [← s3]
      exact hF.same _ _ hnxl (by omega)
    have cB : nd.fKind = 4 ∨ nd.fKind = 5 ∨ nd.fKind = 7 → ∃ e, idx row nd.fB = some e ∧ e = cell g0 nd.fB.toNat i := fun h3 => by
     obtain ⟨a0, a1⟩ := kB h3
     refine ⟨_, idx_of false a0 (by omega), ?_⟩
     rw [← r3]
     exact hF.same _ i hi (by omega)
    refine ⟨fun g => Fill all h nd (cell g0) k p m i g, ⟨fun h6 => ?_, fun h6 => ⟨fun h7 => ?_, fun h7 => ?_⟩⟩, fun g5 hg5 => ?_⟩
    ·have h6 := eq_of_beq h6
     obtain ⟨e, e1, e2⟩ := (cA (by omega)).2
     refine ⟨row, ix, trivial, row2, ix2, e, e1, _, ixk, hset _ ?_⟩
     rw [e2]
     show _ = pasV all h nd (cell g0) _ i
     unfold pasV
     rw [if_pos h6]
    ·have h7 := eq_of_beq h7
     have hu := hF.until_ hh hi h7
     obtain ⟨eB, b1, b2⟩ := cB (.inr (.inr h7))
     obtain ⟨eA, a1, a2⟩ := (cA (by omega)).1
     rw [← b2, ← a2] at hu
     refine ⟨row, ix, row, ix, eB, b1, fun hb => ⟨_, ixk, hset _ (by rw [hu, hb, Bool.true_or])⟩, fun hb => ⟨row, ix, eA, a1, fun ha => ⟨trivial, row2, ix2, _, ixk2, _, ixk, hset _ (by rw [hu, hb, ha, Bool.false_or, Bool.true_and, s3])⟩, fun ha => ⟨_, ixk, hset _ (by rw [hu, hb, ha]; rfl)⟩⟩⟩
    ·have n6 : nd.fKind ≠ 6 := by rw [beq_eq_false_iff_ne] at h6; exact h6
     have n7 : nd.fKind ≠ 7 := by rw [beq_eq_false_iff_ne] at h7; exact h7
     refine ⟨row, ix, all.getD i 0, ?_, row, ix, ⟨fun h3 => ?_, fun h3 => ?_⟩, _, ixk, hset _ ?_⟩
     ·have := idx_of (l := all) (i := (i : Int)) 0 (Int.natCast_nonneg _) (by omega)
      rwa [Int.toNat_natCast] at this
     ·have := kA (by omega)
      omega
     ·have := kB (by omega)
      omega
     ·show _ = pasV all h nd (cell g0) _ i
      unfold pasV plR
      rw [if_neg n6, if_neg n7]
      have gA : 3 ≤ nd.fKind → row.getD nd.fA.toNat false = cell g0 nd.fA.toNat i := fun h3 => by
       rw [← r3]
       exact hF.same _ i hi (by have := kA h3; omega)
      have gB : nd.fKind = 4 ∨ nd.fKind = 5 ∨ nd.fKind = 7 → row.getD nd.fB.toNat false = cell g0 nd.fB.toNat i := fun h3 => by
       rw [← r3]
       exact hF.same _ i hi (by have := kB h3; omega)
      by_cases h1 : nd.fKind = 1
      ·rw [if_pos h1, if_pos h1]
      rw [if_neg h1, if_neg h1]
      by_cases h2 : nd.fKind = 2
      ·rw [if_pos h2, if_pos h2]
      rw [if_neg h2, if_neg h2]
      by_cases h3 : nd.fKind = 3
      ·rw [if_pos h3, if_pos h3, gA (by omega)]
      rw [if_neg h3, if_neg h3]
      by_cases h4 : nd.fKind = 4
      ·rw [if_pos h4, if_pos h4, gA (by omega), gB (.inl h4)]
      rw [if_neg h4, if_neg h4]
      by_cases h5 : nd.fKind = 5
      ·rw [if_pos h5, if_pos h5, gA (by omega), gB (.inr (.inl h5))]
      rw [if_neg h5, if_neg h5]
    ·have hwi : wr ((i : Int) - 1) = (i : Int) - 1 := wr_in (by omega) (by omega)
     rw [hwi]
     exact ⟨⟨i, rfl, by omega, hg5⟩, by show ((i : Int) - 1 + 1).toNat < ((i : Int) + 1).toNat; omega⟩
   ·have hq0 : q = 0 := by have := of_decide_eq_false hb4; omega
    subst hq0
    rw [hcast p (by omega)]
    refine ⟨⟨p + 1, rfl, hp2, hF.ok, hF.same, fun i hi => ?_⟩, by show 2 - (p + 1) < 2 - p; omega⟩
    rw [if_pos hi, hF.col i hi, if_neg (by omega)]
  ·have hp2 : p = 2 := by have := of_decide_eq_false hb3; omega
   subst hp2
   rw [hcast k (by omega)]
   have hcol : ∀ i, i < all.length → cell g3 k i = colP all h nd (cell g0) 2 i := fun i hi => by rw [hF3.col i hi, if_pos hi]
   refine ⟨⟨k + 1, rfl, hlt, hF3.ok, fun j nd' hj hnd' i hi => ?_, fun j hj i hi => ?_⟩, by show m - (k + 1) < m - k; omega⟩
   ·have hcong : ∀ j' nd', j' ≤ k → l[j']? = some nd' → ∀ i, i < all.length → colP all h nd' (cell g0) 2 i = colP all h nd' (cell g3) 2 i := fun j' nd' hj' hn' i hi =>
     colP_congr (k := j') hh (hwf j' nd' hn') (fun a ha i hi => (hF3.same a i hi (by omega)).symm) 2 i hi
    by_cases hjk : j = k
    ·subst hjk
     rw [hget] at hnd'
     cases hnd'
     rw [hcol i hi]
     exact hcong j nd (Nat.le_refl _) hget i hi
    ·rw [hF3.same j i hi hjk, hN j nd' (by omega) hnd' i hi]
     exact hcong j nd' (by omega) hnd' i hi
   ·rw [hF3.same j i hi (by omega)]
    exact hZ j (by omega) i hi
 ·have hke : k = m := by have := of_decide_eq_false hb2; omega
  subst hke
  obtain ⟨row, r1, r2, r3⟩ := hG0.at (show 0 < all.length by omega)
  have hw1 : wr ((l.length : Int) - 1) = (l.length : Int) - 1 := wr_in (by omega) (by omega)
  rw [hw1]
  refine ⟨row, by unfold idx; rw [if_pos (by decide)]; exact r1, _, idx_of false (by omega) (by omega), .inr ⟨by simp, hl, t, ht, ?_⟩⟩
  have hS := sem_node hh hwf (C := cell g0) (by rw [← hm]; exact hN) t _ hd 0 (by omega)
  rw [← r3]
  exact hS
end Go.Proofs.Ytapnmjeadbhffaa


namespace Go.Proofs.Ytapnmjeadbhffaa
set_option linter.unusedSimpArgs false
set_option linter.unusedVariables false
set_option maxRecDepth 100000
def RdT (c : ByteArray) (kd : Nat) (p : Int) (t : TF) (q : Int) : Prop := ∃ N, ∀ k, N ≤ k → pT c k kd p = some (t, q)
section
variable {c : ByteArray} {p q q2 : Int} {t u : TF}
theorem rd_one {kd kd' : Nat} {p' q' : Int} {t' : TF} (h : RdT c kd p t q) (hs : ∀ k, pT c k kd p = some (t, q) → pT c (k + 1) kd' p' = some (t', q')) : RdT c kd' p' t' q' := by
 obtain ⟨N, hN⟩ := h
 refine ⟨N + 1, fun k hk => ?_⟩
 obtain ⟨k', rfl⟩ : ∃ k', k = k' + 1 := ⟨k - 1, by omega⟩
 exact hs k' (hN k' (by omega))
theorem rd_bang (h1 : tch c p = 33) (h : RdT c 0 (p + 1) t q) : RdT c 0 p (.no t) q := rd_one h fun k e => by
 show onfT _ _ c p = _
 rw [onfT_33 h1, e]
 rfl
theorem rd_X (h1 : tch c p = 88) (h : RdT c 0 (p + 1) t q) : RdT c 0 p (.be t) q := rd_one h fun k e => by
 show onfT _ _ c p = _
 rw [onfT_88 h1, e]
 rfl
theorem rd_F (h1 : tch c p = 70) (h : RdT c 0 (p + 1) t q) : RdT c 0 p (.un (.no .nev) t) q := rd_one h fun k e => by
 show onfT _ _ c p = _
 rw [onfT_70 h1, e]
 rfl
theorem rd_G (h1 : tch c p = 71) (h : RdT c 0 (p + 1) t q) : RdT c 0 p (.no (.un (.no .nev) (.no t))) q := rd_one h fun k e => by
 show onfT _ _ c p = _
 rw [onfT_71 h1, e]
 rfl
theorem rd_open (h1 : tch c p = 40) (h : RdT c 3 (p + 1) t q) (h2 : tch c q = 41) : RdT c 0 p t (q + 1) := rd_one h fun k e => by
 show onfT _ _ c p = _
 rw [onfT_40 h1, e]
 show (if tch c q = 41 then some (t, q + 1) else none) = _
 rw [if_pos h2]
theorem rd_part (h : RdT c 0 p t q) (h1 : tch c q ≠ 85) (h2 : tch c q ≠ 82) : RdT c 1 p t q := rd_one h fun k e => by
 show (pT c k 0 p).bind _ = _
 rw [e]
 show (if tch c q = 85 then _ else if tch c q = 82 then _ else _) = _
 rw [if_neg h1, if_neg h2]
theorem rd_until (h : RdT c 0 p t q) (h1 : tch c q = 85) (h2 : RdT c 1 (q + 1) u q2) : RdT c 1 p (.un t u) q2 := by
 obtain ⟨N, hN⟩ := h
 obtain ⟨M, hM⟩ := h2
 refine ⟨N + M + 1, fun k hk => ?_⟩
 obtain ⟨k', rfl⟩ : ∃ k', k = k' + 1 := ⟨k - 1, by omega⟩
 show (pT c k' 0 p).bind _ = _
 rw [hN k' (by omega)]
 show (if tch c q = 85 then (pT c k' 1 (q + 1)).bind _ else _) = _
 rw [if_pos h1, hM k' (by omega)]
 rfl
theorem rd_term (h : RdT c 1 p t q) (h1 : tch c q ≠ 38) : RdT c 2 p t q := rd_one h fun k e => by
 show (pT c k 1 p).bind _ = _
 rw [e]
 show lopTL 38 .an _ c (c.size + 1) t q = _
 rw [lopTL, if_neg h1]
theorem rd_and (h : RdT c 1 p t q) (h1 : tch c q = 38) (h2 : RdT c 1 (q + 1) u q2) (h3 : tch c q2 ≠ 38) (h0 : 0 ≤ q) : RdT c 2 p (.an t u) q2 := by
 have hlt := tch_lt (text := c) (p := q) (by omega)
 obtain ⟨N, hN⟩ := h
 obtain ⟨M, hM⟩ := h2
 refine ⟨N + M + 1, fun k hk => ?_⟩
 obtain ⟨k', rfl⟩ : ∃ k', k = k' + 1 := ⟨k - 1, by omega⟩
 show (pT c k' 1 p).bind _ = _
 rw [hN k' (by omega)]
 show lopTL 38 .an (pT c k' 1) c (c.size + 1) t q = _
 obtain ⟨m, hm⟩ : ∃ m, c.size = m + 1 := ⟨c.size - 1, by omega⟩
 rw [hm, lopTL, if_pos h1, hM k' (by omega)]
 show lopTL 38 .an (pT c k' 1) c (m + 1) (.an t u) q2 = _
 rw [lopTL, if_neg h3]
theorem rd_for (h : RdT c 2 p t q) (h1 : tch c q ≠ 124) : RdT c 3 p t q := rd_one h fun k e => by
 show (pT c k 2 p).bind _ = _
 rw [e]
 show lopTL 124 .or _ c (c.size + 1) t q = _
 rw [lopTL, if_neg h1]
theorem rd_or (h : RdT c 2 p t q) (h1 : tch c q = 124) (h2 : RdT c 2 (q + 1) u q2) (h3 : tch c q2 ≠ 124) (h0 : 0 ≤ q) : RdT c 3 p (.or t u) q2 := by
 have hlt := tch_lt (text := c) (p := q) (by omega)
 obtain ⟨N, hN⟩ := h
 obtain ⟨M, hM⟩ := h2
 refine ⟨N + M + 1, fun k hk => ?_⟩
 obtain ⟨k', rfl⟩ : ∃ k', k = k' + 1 := ⟨k - 1, by omega⟩
 show (pT c k' 2 p).bind _ = _
 rw [hN k' (by omega)]
 show lopTL 124 .or (pT c k' 2) c (c.size + 1) t q = _
 obtain ⟨m, hm⟩ : ∃ m, c.size = m + 1 := ⟨c.size - 1, by omega⟩
 rw [hm, lopTL, if_pos h1, hM k' (by omega)]
 show lopTL 124 .or (pT c k' 2) c (m + 1) (.or t u) q2 = _
 rw [lopTL, if_neg h3]
theorem rd_all (h : RdT c 0 p t q) (h1 : tch c q ≠ 85) (h2 : tch c q ≠ 82) (h3 : tch c q ≠ 38) (h4 : tch c q ≠ 124) : RdT c 3 p t q := rd_for (rd_term (rd_part h h1 h2) h3) h4
end
theorem lopTL_mono {c : ByteArray} {ch : Int} {mk : TF → TF → TF} {f g : Int → Option (TF × Int)} (hfg : ∀ p r, f p = some r → g p = some r) : ∀ (m : Nat) (t : TF) (p : Int) (r : TF × Int), lopTL ch mk f c m t p = some r → lopTL ch mk g c m t p = some r
 | 0, _, _, _, e => by simp [lopTL] at e
 | m + 1, t, p, r, e => by
  rw [lopTL] at e ⊢
  by_cases hc : tch c p = ch
  ·rw [if_pos hc] at e ⊢
   obtain ⟨x, z, e⟩ := Option.bind_eq_some_iff.1 e
   rw [hfg _ _ z]
   exact lopTL_mono hfg m _ _ r e
  ·rw [if_neg hc] at e ⊢
   exact e
theorem lopT_mono {c : ByteArray} {ch : Int} {mk : TF → TF → TF} {f g : Int → Option (TF × Int)} (hfg : ∀ p r, f p = some r → g p = some r) (p : Int) (r : TF × Int) (e : lopT ch mk f c p = some r) : lopT ch mk g c p = some r := by
 obtain ⟨x, z, e⟩ := Option.bind_eq_some_iff.1 e
 unfold lopT
 rw [hfg _ _ z]
 exact lopTL_mono hfg _ _ _ r e
theorem bind_mono {α β : Type} {x y : Option α} {f g : α → Option β} {r : β} (hx : ∀ a, x = some a → y = some a) (hf : ∀ a r, f a = some r → g a = some r) (e : x.bind f = some r) : y.bind g = some r := by
 obtain ⟨a, z, e⟩ := Option.bind_eq_some_iff.1 e
 rw [hx a z]
 exact hf a r e
theorem onfT_mono {c : ByteArray} {f g f3 g3 : Int → Option (TF × Int)} (h : ∀ p r, f p = some r → g p = some r) (h3 : ∀ p r, f3 p = some r → g3 p = some r) (p : Int) (r : TF × Int) (e : onfT f f3 c p = some r) : onfT g g3 c p = some r := by
 unfold onfT at e ⊢
 by_cases c1 : tch c p = 33
 ·rw [if_pos c1] at e ⊢
  exact bind_mono (h _) (fun _ _ h => h) e
 rw [if_neg c1] at e ⊢
 by_cases c2 : tch c p = 88
 ·rw [if_pos c2] at e ⊢
  exact bind_mono (h _) (fun _ _ h => h) e
 rw [if_neg c2] at e ⊢
 by_cases c3 : tch c p = 70
 ·rw [if_pos c3] at e ⊢
  exact bind_mono (h _) (fun _ _ h => h) e
 rw [if_neg c3] at e ⊢
 by_cases c4 : tch c p = 71
 ·rw [if_pos c4] at e ⊢
  exact bind_mono (h _) (fun _ _ h => h) e
 rw [if_neg c4] at e ⊢
 by_cases c5 : tch c p = 40
 ·rw [if_pos c5] at e ⊢
  exact bind_mono (h3 _) (fun _ _ h => h) e
 rw [if_neg c5] at e ⊢
 exact e
theorem pT_mono1 {c : ByteArray} : ∀ (k kd : Nat) (p : Int) (r : TF × Int), pT c k kd p = some r → pT c (k + 1) kd p = some r
 | 0, _, _, _, e => by simp [pT] at e
 | k + 1, 0, p, r, e => onfT_mono (fun p r => pT_mono1 k 0 p r) (fun p r => pT_mono1 k 3 p r) p r e
 | k + 1, 1, p, r, e => bind_mono (fun a => pT_mono1 k 0 p a) (fun a r e => by
  by_cases c1 : tch c a.2 = 85
  ·rw [if_pos c1] at e ⊢
   exact bind_mono (fun b => pT_mono1 k 1 _ b) (fun _ _ h => h) e
  rw [if_neg c1] at e ⊢
  by_cases c2 : tch c a.2 = 82
  ·rw [if_pos c2] at e ⊢
   exact bind_mono (fun b => pT_mono1 k 1 _ b) (fun _ _ h => h) e
  rw [if_neg c2] at e ⊢
  exact e) e
 | k + 1, 2, p, r, e => lopT_mono (fun p r => pT_mono1 k 1 p r) p r e
 | k + 1, 3, p, r, e => lopT_mono (fun p r => pT_mono1 k 2 p r) p r e
 | k + 1, n + 4, p, r, e => lopT_mono (fun p r => pT_mono1 k 2 p r) p r e
theorem pT_mono {c : ByteArray} {k kd : Nat} {p : Int} {r : TF × Int} (e : pT c k kd p = some r) : ∀ {k'}, k ≤ k' → pT c k' kd p = some r
 | 0, h => by
  have : k = 0 := by omega
  subst this
  exact e
 | k' + 1, h => by
  by_cases hk : k = k' + 1
  ·subst hk
   exact e
  ·exact pT_mono1 k' kd p r (pT_mono e (by omega))
theorem rd_full {c : ByteArray} {K : Nat} {t t' : TF} {q q' : Int} (h : RdT c 3 0 t q) (e : pT c K 3 0 = some (t', q')) : t' = t := by
 obtain ⟨N, hN⟩ := h
 have h1 := hN (N + K) (by omega)
 rw [pT_mono e (show K ≤ N + K by omega)] at h1
 cases h1
 rfl
structure InS (s c : ByteArray) (o : Int) : Prop where
 o0 : 0 ≤ o
 at_ : ∀ p : Int, 0 ≤ p → p < s.size → tch c (o + p) = tch s p
 close : tch c (o + s.size) = 41
section
variable {s c : ByteArray} {o : Int}
theorem InS.ch (h : InS s c o) {p x : Int} (h0 : 0 ≤ p) (h1 : p ≤ s.size) (hx : x ≠ 41) (hz : x ≠ 0) : tch c (o + p) = x ↔ tch s p = x := by
 by_cases hp : p < s.size
 ·rw [h.at_ p h0 hp]
 ·have : p = s.size := by omega
  subst this
  rw [h.close, tch_end (Int.le_refl _)]
  omega
def ExS (s : ByteArray) (o : Int) (f g : Int → Option (TF × Int)) : Prop := ∀ (p : Int) (r : TF × Int), 0 ≤ p → p ≤ s.size → f p = some r → (p < r.2 ∧ r.2 ≤ s.size) ∧ g (o + p) = some (r.1, o + r.2)
theorem onfT_ext (h : InS s c o) {f g f3 g3 : Int → Option (TF × Int)} (he : ExS s o f g) (he3 : ExS s o f3 g3) : ExS s o (onfT f f3 s) (onfT g g3 c) := fun p r h0 h1 e => by
 have hlt : p < s.size := by
  refine Decidable.byContradiction fun hn => ?_
  have hz := tch_end (text := s) (i := p) (by omega)
  unfold onfT at e
  rw [hz] at e
  simp at e
 have hch := h.at_ p h0 hlt
 have key : ∀ (mk : TF × Int → TF × Int) (hmk : ∀ r, (mk r).2 = r.2), (f (p + 1)).bind (fun r => some (mk r)) = some r → (p < r.2 ∧ r.2 ≤ s.size) ∧ (g (o + p + 1)).bind (fun x => some ((mk (x.1, x.2 - o)).1, x.2)) = some (r.1, o + r.2) := fun mk hmk e => by
  obtain ⟨x, z, e⟩ := Option.bind_eq_some_iff.1 e
  cases e
  obtain ⟨⟨k1, k2⟩, k3⟩ := he (p + 1) x (by omega) (by omega) z
  rw [hmk, show o + p + 1 = o + (p + 1) by omega, k3]
  refine ⟨⟨by omega, k2⟩, ?_⟩
  show some ((mk (x.1, o + x.2 - o)).1, o + x.2) = _
  rw [show o + x.2 - o = x.2 by omega]
 unfold onfT at e ⊢
 rw [hch]
 by_cases c1 : tch s p = 33
 ·rw [if_pos c1] at e ⊢
  exact key (fun r => (.no r.1, r.2)) (fun _ => rfl) e
 rw [if_neg c1] at e ⊢
 by_cases c2 : tch s p = 88
 ·rw [if_pos c2] at e ⊢
  exact key (fun r => (.be r.1, r.2)) (fun _ => rfl) e
 rw [if_neg c2] at e ⊢
 by_cases c3 : tch s p = 70
 ·rw [if_pos c3] at e ⊢
  exact key (fun r => (.un (.no .nev) r.1, r.2)) (fun _ => rfl) e
 rw [if_neg c3] at e ⊢
 by_cases c4 : tch s p = 71
 ·rw [if_pos c4] at e ⊢
  exact key (fun r => (.no (.un (.no .nev) (.no r.1)), r.2)) (fun _ => rfl) e
 rw [if_neg c4] at e ⊢
 by_cases c5 : tch s p = 40
 ·rw [if_pos c5] at e ⊢
  obtain ⟨x, z, e⟩ := Option.bind_eq_some_iff.1 e
  obtain ⟨⟨k1, k2⟩, k3⟩ := he3 (p + 1) x (by omega) (by omega) z
  split at e
  ·rename_i hc
   have hl := tch_lt (text := s) (p := x.2) (by omega)
   cases e
   rw [show o + p + 1 = o + (p + 1) by omega, k3]
   refine ⟨⟨by show p < x.2 + 1; omega, by show x.2 + 1 ≤ s.size; omega⟩, ?_⟩
   show (if tch c (o + x.2) = 41 then some (x.1, o + x.2 + 1) else none) = _
   rw [if_pos (by rw [h.at_ x.2 (by omega) hl]; exact hc)]
   show some (x.1, o + x.2 + 1) = some (x.1, o + (x.2 + 1))
   rw [show o + x.2 + 1 = o + (x.2 + 1) by omega]
  ·cases e
 rw [if_neg c5] at e ⊢
 have leaf : ∀ t : TF, some (t, p + 1) = some r → (p < r.2 ∧ r.2 ≤ s.size) ∧ some (t, o + p + 1) = some (r.1, o + r.2) := fun t e => by
  cases e
  exact ⟨⟨by show p < p + 1; omega, by show p + 1 ≤ (s.size : Int); omega⟩, by rw [show o + p + 1 = o + (p + 1) by omega]⟩
 by_cases c6 : tch s p = 112
 ·rw [if_pos c6] at e ⊢
  exact leaf _ e
 rw [if_neg c6] at e ⊢
 by_cases c7 : tch s p = 113
 ·rw [if_pos c7] at e ⊢
  exact leaf _ e
 rw [if_neg c7] at e ⊢
 by_cases c8 : tch s p = 48
 ·rw [if_pos c8] at e ⊢
  exact leaf _ e
 rw [if_neg c8] at e ⊢
 by_cases c9 : tch s p = 49
 ·rw [if_pos c9] at e ⊢
  exact leaf _ e
 rw [if_neg c9] at e
 cases e
theorem prtT_ext (h : InS s c o) {f g f1 g1 : Int → Option (TF × Int)} (he : ExS s o f g) (he1 : ExS s o f1 g1) : ExS s o (prtT f f1 s) (prtT g g1 c) := fun p r h0 h1 e => by
 obtain ⟨x, z, e⟩ := Option.bind_eq_some_iff.1 e
 obtain ⟨⟨k1, k2⟩, k3⟩ := he p x h0 h1 z
 unfold prtT
 rw [k3]
 show _ ∧ (if tch c (o + x.2) = 85 then (g1 (o + x.2 + 1)).bind fun r2 => some (.un x.1 r2.1, r2.2) else if tch c (o + x.2) = 82 then (g1 (o + x.2 + 1)).bind fun r2 => some (.no (.un (.no x.1) (.no r2.1)), r2.2) else some (x.1, o + x.2)) = _
 by_cases c1 : tch s x.2 = 85
 ·rw [if_pos c1] at e
  rw [if_pos ((h.ch (by omega) k2 (by decide) (by decide)).2 c1)]
  have hl := tch_lt (text := s) (p := x.2) (by omega)
  obtain ⟨y, z2, e⟩ := Option.bind_eq_some_iff.1 e
  cases e
  obtain ⟨⟨j1, j2⟩, j3⟩ := he1 (x.2 + 1) y (by omega) (by omega) z2
  rw [show o + x.2 + 1 = o + (x.2 + 1) by omega, j3]
  exact ⟨⟨by show p < y.2; omega, j2⟩, rfl⟩
 rw [if_neg c1] at e
 rw [if_neg fun e => c1 ((h.ch (by omega) k2 (by decide) (by decide)).1 e)]
 by_cases c2 : tch s x.2 = 82
 ·rw [if_pos c2] at e
  rw [if_pos ((h.ch (by omega) k2 (by decide) (by decide)).2 c2)]
  have hl := tch_lt (text := s) (p := x.2) (by omega)
  obtain ⟨y, z2, e⟩ := Option.bind_eq_some_iff.1 e
  cases e
  obtain ⟨⟨j1, j2⟩, j3⟩ := he1 (x.2 + 1) y (by omega) (by omega) z2
  rw [show o + x.2 + 1 = o + (x.2 + 1) by omega, j3]
  exact ⟨⟨by show p < y.2; omega, j2⟩, rfl⟩
 rw [if_neg c2] at e
 rw [if_neg fun e => c2 ((h.ch (by omega) k2 (by decide) (by decide)).1 e)]
 cases e
 exact ⟨⟨k1, k2⟩, rfl⟩
theorem lopTL_ext (h : InS s c o) {ch : Int} (hc1 : ch ≠ 41) (hc0 : ch ≠ 0) {mk : TF → TF → TF} {f g : Int → Option (TF × Int)} (he : ExS s o f g) : ∀ (m m' : Nat) (t : TF) (p : Int) (r : TF × Int), m ≤ m' → 0 ≤ p → p ≤ s.size → lopTL ch mk f s m t p = some r → (p ≤ r.2 ∧ r.2 ≤ s.size) ∧ lopTL ch mk g c m' t (o + p) = some (r.1, o + r.2)
 | 0, _, _, _, _, _, _, _, e => by simp [lopTL] at e
 | m + 1, 0, _, _, _, hm, _, _, _ => by omega
 | m + 1, m' + 1, t, p, r, hm, h0, h1, e => by
  rw [lopTL] at e ⊢
  by_cases hc : tch s p = ch
  ·rw [if_pos hc] at e
   rw [if_pos ((h.ch h0 h1 hc1 hc0).2 hc)]
   have hl := tch_lt (text := s) (p := p) (by omega)
   obtain ⟨x, z, e⟩ := Option.bind_eq_some_iff.1 e
   obtain ⟨⟨k1, k2⟩, k3⟩ := he (p + 1) x (by omega) (by omega) z
   obtain ⟨⟨j1, j2⟩, j3⟩ := lopTL_ext h hc1 hc0 he m m' (mk t x.1) x.2 r (by omega) (by omega) k2 e
   rw [show o + p + 1 = o + (p + 1) by omega, k3]
   exact ⟨⟨by omega, j2⟩, j3⟩
  ·rw [if_neg hc] at e
   rw [if_neg fun e => hc ((h.ch h0 h1 hc1 hc0).1 e)]
   cases e
   exact ⟨⟨Int.le_refl _, h1⟩, rfl⟩
theorem lopT_ext (h : InS s c o) (hsz : s.size ≤ c.size) {ch : Int} (hc1 : ch ≠ 41) (hc0 : ch ≠ 0) {mk : TF → TF → TF} {f g : Int → Option (TF × Int)} (he : ExS s o f g) : ExS s o (lopT ch mk f s) (lopT ch mk g c) := fun p r h0 h1 e => by
 obtain ⟨x, z, e⟩ := Option.bind_eq_some_iff.1 e
 obtain ⟨⟨k1, k2⟩, k3⟩ := he p x h0 h1 z
 obtain ⟨⟨j1, j2⟩, j3⟩ := lopTL_ext h hc1 hc0 he (s.size + 1) (c.size + 1) x.1 x.2 r (by omega) (by omega) k2 e
 unfold lopT
 rw [k3]
 exact ⟨⟨by omega, j2⟩, j3⟩
theorem pT_ext (h : InS s c o) (hsz : s.size ≤ c.size) : ∀ k kd, ExS s o (pT s k kd) (pT c k kd)
 | 0, _ => fun p r _ _ e => by simp [pT] at e
 | k + 1, 0 => onfT_ext h (pT_ext h hsz k 0) (pT_ext h hsz k 3)
 | k + 1, 1 => prtT_ext h (pT_ext h hsz k 0) (pT_ext h hsz k 1)
 | k + 1, 2 => lopT_ext h hsz (by decide) (by decide) (pT_ext h hsz k 1)
 | k + 1, 3 => lopT_ext h hsz (by decide) (by decide) (pT_ext h hsz k 2)
 | k + 1, n + 4 => lopT_ext h hsz (by decide) (by decide) (pT_ext h hsz k 2)
theorem rd_in {K : Nat} {S : TF} {p q : Int} (h : InS s c o) (hsz : s.size ≤ c.size) (hs : pT s K 3 0 = some (S, (s.size : Int))) (h1 : tch c p = 40) (hp : p + 1 = o) (hq : q = o + s.size + 1) : RdT c 0 p S q := by
 subst hp
 subst hq
 refine rd_open h1 ⟨K, fun k hk => ?_⟩ h.close
 have := (pT_ext h hsz k 3 0 _ (Int.le_refl _) (Int.natCast_nonneg _) (pT_mono hs hk)).2
 rw [Int.add_zero] at this
 exact this
end
theorem byteAt_data (s : ByteArray) (i : Nat) : s[i]? = s.data[i]? := by
 by_cases h : i < s.size
 ·rw [getElem?_pos s i h]
  have h2 : i < s.data.size := h
  rw [getElem?_pos s.data i h2]
  rfl
 ·rw [getElem?_neg s i h]
  have h2 : ¬ i < s.data.size := h
  rw [getElem?_neg s.data i h2]
theorem tch_app (a b : ByteArray) (i : Int) : tch (a ++ b) i = if i < a.size then tch a i else tch b (i - a.size) := by
 unfold tch byteAt
 by_cases h0 : 0 ≤ i
 ·rw [if_pos h0, byteAt_data, ByteArray.data_append, Array.getElem?_append]
  have hs : a.data.size = a.size := rfl
  rw [hs]
  by_cases h : i < a.size
  ·rw [if_pos h, if_pos (by omega), if_pos h0, byteAt_data]
  ·rw [if_neg h, if_neg (by omega), if_pos (by omega), byteAt_data, show (i - a.size).toNat = i.toNat - a.size by omega]
 ·rw [if_neg h0, if_pos (by omega), if_neg h0]
theorem tch_l {a b : ByteArray} {i : Int} (h : i < a.size) : tch (a ++ b) i = tch a i := by rw [tch_app, if_pos h]
theorem tch_r {a b : ByteArray} {i j : Int} (e : i = a.size + j) (h : 0 ≤ j) : tch (a ++ b) i = tch b j := by
 rw [tch_app, if_neg (by omega), show i - a.size = j by omega]
end Go.Proofs.Ytapnmjeadbhffaa


namespace Go.Proofs.Ytapnmjeadbhffaa
open Go.RowKit Go.MapKept
set_option linter.unusedSimpArgs false
set_option linter.unusedVariables false
set_option maxRecDepth 100000
def timeLaws_vc (s : ByteArray) (t : ByteArray) (w : ApiLasso) (Q : Bool → Prop) : Prop :=
 w.fHead.length ≤ 9223372036854775807 →
 w.fLoop.length ≤ 9223372036854775807 →
 (∀ r : (Bool × Int), (HoldsQ (ByteArray.mk #[71, 70, 112]) (ApiLasso.mk ([0] : (List Int)) ([1] : (List Int)))) r →
 (IfP ((r.2 != 0) || (!r.1)) (Q false) (∀ r_2 : ApiFault, (CheckQ s) r_2 →
 (∀ r_3 : ApiFault, (CheckQ t) r_3 →
 (IfP ((r_2.fCode != 0) || (r_3.fCode != 0)) (Q true) (∀ r_4 : (Bool × Int), (HoldsQ s w) r_4 →
 (((ByteArray.mk #[33, 40]).size + s.size ≤ 1048576) ∧
 (((ByteArray.mk #[33, 40]) ++ s).size + (ByteArray.mk #[41]).size ≤ 1048576) ∧
 ∀ r_5 : (Bool × Int), (HoldsQ (((ByteArray.mk #[33, 40]) ++ s) ++ (ByteArray.mk #[41])) w) r_5 →
 (∃ J : Bool → Prop, (IfP (r_4.2 == 0) (IfP (r_5.2 == 0) (J (r_4.1 == r_5.1)) (J false)) (J false)) ∧
 (∀ (x63 : Bool), J x63 → IfP x63 (Q false) (((ByteArray.mk #[71, 40]).size + s.size ≤ 1048576) ∧
 (((ByteArray.mk #[71, 40]) ++ s).size + (ByteArray.mk #[41]).size ≤ 1048576) ∧
 ∀ r_6 : (Bool × Int), (HoldsQ (((ByteArray.mk #[71, 40]) ++ s) ++ (ByteArray.mk #[41])) w) r_6 →
 (((ByteArray.mk #[70, 33, 40]).size + s.size ≤ 1048576) ∧
 (((ByteArray.mk #[70, 33, 40]) ++ s).size + (ByteArray.mk #[41]).size ≤ 1048576) ∧
 ∀ r_7 : (Bool × Int), (HoldsQ (((ByteArray.mk #[70, 33, 40]) ++ s) ++ (ByteArray.mk #[41])) w) r_7 →
 (∃ J_2 : Bool → Prop, (IfP (r_6.2 == 0) (IfP (r_7.2 == 0) (J_2 (r_6.1 == r_7.1)) (J_2 false)) (J_2 false)) ∧
 (∀ (x90 : Bool), J_2 x90 → IfP x90 (Q false) (((ByteArray.mk #[40]).size + s.size ≤ 1048576) ∧
 (((ByteArray.mk #[40]) ++ s).size + (ByteArray.mk #[41, 85, 40]).size ≤ 1048576) ∧
 ((((ByteArray.mk #[40]) ++ s) ++ (ByteArray.mk #[41, 85, 40])).size + t.size ≤ 1048576) ∧
 (((((ByteArray.mk #[40]) ++ s) ++ (ByteArray.mk #[41, 85, 40])) ++ t).size + (ByteArray.mk #[41]).size ≤ 1048576) ∧
 ∀ r_8 : (Bool × Int), (HoldsQ (((((ByteArray.mk #[40]) ++ s) ++ (ByteArray.mk #[41, 85, 40])) ++ t) ++ (ByteArray.mk #[41])) w) r_8 →
 (((ByteArray.mk #[40]).size + t.size ≤ 1048576) ∧
 (((ByteArray.mk #[40]) ++ t).size + (ByteArray.mk #[41, 124, 40, 40]).size ≤ 1048576) ∧
 ((((ByteArray.mk #[40]) ++ t) ++ (ByteArray.mk #[41, 124, 40, 40])).size + s.size ≤ 1048576) ∧
 (((((ByteArray.mk #[40]) ++ t) ++ (ByteArray.mk #[41, 124, 40, 40])) ++ s).size + (ByteArray.mk #[41, 38, 88, 40, 40]).size ≤ 1048576) ∧
 ((((((ByteArray.mk #[40]) ++ t) ++ (ByteArray.mk #[41, 124, 40, 40])) ++ s) ++ (ByteArray.mk #[41, 38, 88, 40, 40])).size + s.size ≤ 1048576) ∧
 (((((((ByteArray.mk #[40]) ++ t) ++ (ByteArray.mk #[41, 124, 40, 40])) ++ s) ++ (ByteArray.mk #[41, 38, 88, 40, 40])) ++ s).size + (ByteArray.mk #[41, 85, 40]).size ≤ 1048576) ∧
 ((((((((ByteArray.mk #[40]) ++ t) ++ (ByteArray.mk #[41, 124, 40, 40])) ++ s) ++ (ByteArray.mk #[41, 38, 88, 40, 40])) ++ s) ++ (ByteArray.mk #[41, 85, 40])).size + t.size ≤ 1048576) ∧
 (((((((((ByteArray.mk #[40]) ++ t) ++ (ByteArray.mk #[41, 124, 40, 40])) ++ s) ++ (ByteArray.mk #[41, 38, 88, 40, 40])) ++ s) ++ (ByteArray.mk #[41, 85, 40])) ++ t).size + (ByteArray.mk #[41, 41, 41]).size ≤ 1048576) ∧
 ∀ r_9 : (Bool × Int), (HoldsQ (((((((((ByteArray.mk #[40]) ++ t) ++ (ByteArray.mk #[41, 124, 40, 40])) ++ s) ++ (ByteArray.mk #[41, 38, 88, 40, 40])) ++ s) ++ (ByteArray.mk #[41, 85, 40])) ++ t) ++ (ByteArray.mk #[41, 41, 41])) w) r_9 →
 (∃ J_3 : Bool → Prop, (IfP (r_8.2 != 0) (J_3 true) (IfP (r_9.2 != 0) (J_3 true) (J_3 (r_8.1 == r_9.1)))) ∧
 (∀ (x6 : Bool), J_3 x6 → Q x6)))))))))))))))))
noncomputable abbrev qtimeLaws0 := (ByteArray.mk #[41, 124, 40, 40])
noncomputable abbrev qtimeLaws1 := (ByteArray.mk #[41, 38, 88, 40, 40])
noncomputable abbrev qtimeLaws2 := (ByteArray.mk #[41, 85, 40])
noncomputable abbrev qtimeLaws3 := (ByteArray.mk #[40])
noncomputable abbrev qtimeLaws4 := (ByteArray.mk #[41])
set_option maxHeartbeats 2000000 in
theorem timeLaws_walk (s : ByteArray) (t : ByteArray) (w : ApiLasso) (Q : Bool → Prop) (h : timeLaws_vc s t w Q) : Ct 6 [.sv (.one (.v (.string s))), .sv (.one (.v (.string t))), .sv (.agg [LS intT w.fHead, LS intT w.fLoop])] [] Q (fun (r : Bool) => .sv (.one (B r))) := by
 have ht := tab_ok
 refine Ct.body Try.func6 rfl rfl rfl rfl (fun c hn => ?_)
 unfold timeLaws_vc at h
 refine En.lenA 2 0 (by rfl) (by rfl) (fun hl => ?_)
 replace h := h hl
 clear hl
 refine En.lenA 2 1 (by rfl) (by rfl) (fun hl => ?_)
 replace h := h hl
 clear hl
 refine En.seq ?_
 refine En.region ?_
 refine WL.run ht hn 2 ⟨[sl 0 (.v (.string s)), sl 1 (.v (.string t)), sl 5 (.ptr 0 0)], [.box (ApiLasso.cl w) 59 false]⟩ (by kernel_rfl) ?_
 refine WL.nil ?_
 refine En.seq ?_
 refine En.region ?_
 refine WL.mt0 (K := []) (p := some (1, rowI 3 intT ([0] : (List Int)))) hn (by rfl) (mt_lit (T := intT) ([0] : (List Int)) (mt_bsl 1 (r := cellsOf intT ([0] : (List Int))) ht rfl (by rfl) (by rfl) (by rfl) (by kernel_rfl) (by rfl)) (fun _ h => by cases h) (fun _ => rfl) (fun _ => rfl) (by rfl) (Nat.le_of_ble_eq_true rfl)) (by rfl) (by rfl) (by rfl) ?_
 refine WL.mt0 (K := []) (p := some (2, rowI 3 intT ([1] : (List Int)))) hn (by rfl) (mt_lit (T := intT) ([1] : (List Int)) (mt_bsl 2 (r := cellsOf intT ([1] : (List Int))) ht rfl (by rfl) (by rfl) (by rfl) (by kernel_rfl) (by rfl)) (fun _ h => by cases h) (fun _ => rfl) (fun _ => rfl) (by rfl) (Nat.le_of_ble_eq_true rfl)) (by rfl) (by rfl) (by rfl) ?_
 refine WL.run ht hn 1 ⟨[sl 0 (.v (.string s)), sl 1 (.v (.string t)), sl 5 (.ptr 0 0), (17, .sv (.agg [.own 1, .own 2]))], [.box (ApiLasso.cl w) 59 false, rowI 3 intT ([0] : (List Int)), rowI 3 intT ([1] : (List Int))]⟩ (by kernel_rfl) ?_
 refine WL.seal (T := intT) (l := ([0] : (List Int))) (e := 3) 1 rfl ?_
 refine WL.run ht hn 0 ⟨[sl 0 (.v (.string s)), sl 1 (.v (.string t)), sl 5 (.ptr 0 0), (17, .sv (.agg [LS intT ([0] : (List Int)), .own 2]))], [.box (ApiLasso.cl w) 59 false, .gone, rowI 3 intT ([1] : (List Int))]⟩ (by kernel_rfl) ?_
 refine WL.seal (T := intT) (l := ([1] : (List Int))) (e := 3) 2 rfl ?_
 refine WL.run ht hn 0 ⟨[sl 0 (.v (.string s)), sl 1 (.v (.string t)), sl 5 (.ptr 0 0), (17, .sv (.agg [LS intT ([0] : (List Int)), LS intT ([1] : (List Int))]))], [.box (ApiLasso.cl w) 59 false, .gone, .gone]⟩ (by kernel_rfl) ?_
 refine WL.mtQ (Q := HoldsQ (ByteArray.mk #[71, 70, 112]) (ApiLasso.mk ([0] : (List Int)) ([1] : (List Int)))) (x := fun (r : (Bool × Int)) => .tup [.one (B r.1), .one (I r.2)]) (p := fun _ => none) hn (by rfl) (mtq_call (tHolds_ct (ByteArray.mk #[71, 70, 112]) (ApiLasso.mk ([0] : (List Int)) ([1] : (List Int)))) en21 (caps := []) [] rfl (by rfl) (by kernel_rfl) (by kernel_rfl) (by rfl) (fun _ => rfl) (by rfl)) (fun r hr_2 => ⟨by rfl, _, by rfl, ?_⟩)
 replace h := h r hr_2
 refine WL.run ht hn 5 ⟨[sl 0 (.v (.string s)), sl 1 (.v (.string t)), sl 5 (.ptr 0 0), sl 7 (B r.1), sl 8 (I r.2)], [.box (ApiLasso.cl w) 59 false, .gone, .gone]⟩ (by kernel_rfl) ?_
 refine WL.nil ?_
 refine En.seq ?_
 refine En.seq ?_
 refine En.region ?_
 refine WL.run ht hn 3 ⟨[sl 0 (.v (.string s)), sl 1 (.v (.string t)), sl 5 (.ptr 0 0), sl 7 (B r.1), sl 23 (B (r.2 != 0))], [.box (ApiLasso.cl w) 59 false, .gone, .gone]⟩ (by kernel_rfl) ?_
 refine WL.thru ⟨[sl 0 (.v (.string s)), sl 1 (.v (.string t)), sl 5 (.ptr 0 0), sl 26 (B ((r.2 != 0) || (!r.1)))], [.box (ApiLasso.cl w) 59 false, .gone, .gone]⟩ ?_ ?_
 refine splitB (r.2 != 0) (fun hb0 => ?_) (fun hb0 => ?_)
 refine WL.setB 23 hb0 (by kernel_rfl) ?_
 refine WL.run ht hn 3 ⟨[sl 0 (.v (.string s)), sl 1 (.v (.string t)), sl 5 (.ptr 0 0), sl 26 (B true)], [.box (ApiLasso.cl w) 59 false, .gone, .gone]⟩ (by kernel_rfl) ?_
 exact WL.nil (sub_ok (by simp only [hb0]; kernel_rfl))
 refine WL.setB 23 hb0 (by kernel_rfl) ?_
 refine WL.run ht hn 3 ⟨[sl 0 (.v (.string s)), sl 1 (.v (.string t)), sl 5 (.ptr 0 0), sl 26 (B (!r.1))], [.box (ApiLasso.cl w) 59 false, .gone, .gone]⟩ (by kernel_rfl) ?_
 exact WL.nil (sub_ok (by simp only [hb0]; kernel_rfl))
 refine En.cond (b := ((r.2 != 0) || (!r.1))) (by kernel_rfl) (fun hb => ?_) (fun hb => ?_)
 replace h := h.1 hb
 refine En.seq ?_
 refine En.region ?_
 refine WL.run ht hn 1 ⟨[sl 6 (B false)], [.gone, .gone, .gone]⟩ (by kernel_rfl) ?_
 refine WL.nil ?_
 refine En.ret ?_
 exact En.back ht false h (by kernel_rfl) rfl
 replace h := h.2 hb
 refine En.skip ?_
 refine En.seq ?_
 refine En.region ?_
 refine WL.run ht hn 1 ⟨[sl 0 (.v (.string s)), sl 1 (.v (.string t)), sl 5 (.ptr 0 0), sl 27 (.v (.string s))], [.box (ApiLasso.cl w) 59 false, .gone, .gone]⟩ (by kernel_rfl) ?_
 refine WL.mtQ (Q := CheckQ s) (x := fun (r : ApiFault) => .sv (.agg (ApiFault.cl r))) (p := fun _ => none) hn (by rfl) (mtq_call (tCheck_ct s) en22 (caps := []) [] rfl (by rfl) (by kernel_rfl) (by kernel_rfl) (by rfl) (fun _ => rfl) (by rfl)) (fun r_2 hr_2_2 => ⟨by rfl, _, by rfl, ?_⟩)
 replace h := h r_2 hr_2_2
 refine WL.run ht hn 2 ⟨[sl 0 (.v (.string s)), sl 1 (.v (.string t)), sl 5 (.ptr 0 0), sl 9 (.ptr 3 0)], [.box (ApiLasso.cl w) 59 false, .gone, .gone, .box (ApiFault.cl r_2) 63 false]⟩ (by kernel_rfl) ?_
 refine WL.nil ?_
 refine En.seq ?_
 refine En.region ?_
 refine WL.run ht hn 1 ⟨[sl 0 (.v (.string s)), sl 1 (.v (.string t)), sl 5 (.ptr 0 0), sl 9 (.ptr 3 0), sl 29 (.v (.string t))], [.box (ApiLasso.cl w) 59 false, .gone, .gone, .box (ApiFault.cl r_2) 63 false]⟩ (by kernel_rfl) ?_
 refine WL.mtQ (Q := CheckQ t) (x := fun (r : ApiFault) => .sv (.agg (ApiFault.cl r))) (p := fun _ => none) hn (by rfl) (mtq_call (tCheck_ct t) en22 (caps := []) [] rfl (by rfl) (by kernel_rfl) (by kernel_rfl) (by rfl) (fun _ => rfl) (by rfl)) (fun r_3 hr_3 => ⟨by rfl, _, by rfl, ?_⟩)
 replace h := h r_3 hr_3
 refine WL.run ht hn 2 ⟨[sl 0 (.v (.string s)), sl 1 (.v (.string t)), sl 5 (.ptr 0 0), sl 9 (.ptr 3 0), sl 10 (.ptr 4 0)], [.box (ApiLasso.cl w) 59 false, .gone, .gone, .box (ApiFault.cl r_2) 63 false, .box (ApiFault.cl r_3) 63 false]⟩ (by kernel_rfl) ?_
 refine WL.nil ?_
 refine En.seq ?_
 refine En.seq ?_
 refine En.region ?_
 refine WL.run ht hn 4 ⟨[sl 0 (.v (.string s)), sl 1 (.v (.string t)), sl 5 (.ptr 0 0), sl 10 (.ptr 4 0), sl 34 (B (r_2.fCode != 0))], [.box (ApiLasso.cl w) 59 false, .gone, .gone, .gone, .box (ApiFault.cl r_3) 63 false]⟩ (by kernel_rfl) ?_
 refine WL.thru ⟨[sl 0 (.v (.string s)), sl 1 (.v (.string t)), sl 5 (.ptr 0 0), sl 38 (B ((r_2.fCode != 0) || (r_3.fCode != 0)))], [.box (ApiLasso.cl w) 59 false, .gone, .gone, .gone, .gone]⟩ ?_ ?_
 refine splitB (r_2.fCode != 0) (fun hb0 => ?_) (fun hb0 => ?_)
 refine WL.setB 34 hb0 (by kernel_rfl) ?_
 refine WL.run ht hn 4 ⟨[sl 0 (.v (.string s)), sl 1 (.v (.string t)), sl 5 (.ptr 0 0), sl 38 (B true)], [.box (ApiLasso.cl w) 59 false, .gone, .gone, .gone, .gone]⟩ (by kernel_rfl) ?_
 exact WL.nil (sub_ok (by simp only [hb0]; kernel_rfl))
 refine WL.setB 34 hb0 (by kernel_rfl) ?_
 refine WL.run ht hn 4 ⟨[sl 0 (.v (.string s)), sl 1 (.v (.string t)), sl 5 (.ptr 0 0), sl 38 (B (r_3.fCode != 0))], [.box (ApiLasso.cl w) 59 false, .gone, .gone, .gone, .gone]⟩ (by kernel_rfl) ?_
 exact WL.nil (sub_ok (by simp only [hb0]; kernel_rfl))
 refine En.cond (b := ((r_2.fCode != 0) || (r_3.fCode != 0))) (by kernel_rfl) (fun hb => ?_) (fun hb => ?_)
 replace h := h.1 hb
 refine En.seq ?_
 refine En.region ?_
 refine WL.run ht hn 1 ⟨[sl 6 (B true)], [.gone, .gone, .gone, .gone, .gone]⟩ (by kernel_rfl) ?_
 refine WL.nil ?_
 refine En.ret ?_
 exact En.back ht true h (by kernel_rfl) rfl
 replace h := h.2 hb
 refine En.skip ?_
 refine En.seq ?_
 refine En.region ?_
 refine WL.run ht hn 2 ⟨[sl 0 (.v (.string s)), sl 1 (.v (.string t)), sl 5 (.ptr 0 0), sl 40 (.v (.string s)), (41, .sv (.agg (ApiLasso.cl w)))], [.box (ApiLasso.cl w) 59 false, .gone, .gone, .gone, .gone]⟩ (by kernel_rfl) ?_
 refine WL.mtQ (Q := HoldsQ s w) (x := fun (r : (Bool × Int)) => .tup [.one (B r.1), .one (I r.2)]) (p := fun _ => none) hn (by rfl) (mtq_call (tHolds_ct s w) en21 (caps := []) [] rfl (by rfl) (by kernel_rfl) (by kernel_rfl) (by rfl) (fun _ => rfl) (by rfl)) (fun r_4 hr_4 => ⟨by rfl, _, by rfl, ?_⟩)
 replace h := h r_4 hr_4
 refine WL.run ht hn 5 ⟨[sl 0 (.v (.string s)), sl 1 (.v (.string t)), sl 5 (.ptr 0 0), sl 8 (I r_4.2), sl 11 (B r_4.1)], [.box (ApiLasso.cl w) 59 false, .gone, .gone, .gone, .gone]⟩ (by kernel_rfl) ?_
 refine WL.nil ?_
 refine En.seq ?_
 refine En.region ?_
 refine WL.run ht hn 1 ⟨[sl 0 (.v (.string s)), sl 1 (.v (.string t)), sl 5 (.ptr 0 0), sl 8 (I r_4.2), sl 11 (B r_4.1), sl 46 (.v (.string s))], [.box (ApiLasso.cl w) 59 false, .gone, .gone, .gone, .gone]⟩ (by kernel_rfl) ?_
 have hp_2 := h.1
 replace h := h.2
 refine WL.val hn (by rfl) (val_addS (u := (ByteArray.mk #[33, 40])) (v := s) rfl (by rfl) (by rfl) hp_2) (by rfl) ?_
 have hp_3 := h.1
 replace h := h.2
 refine WL.val hn (by rfl) (val_addS (u := ((ByteArray.mk #[33, 40]) ++ s)) (v := (qtimeLaws4)) rfl (by rfl) (by rfl) hp_3) (by rfl) ?_
 refine WL.run ht hn 1 ⟨[sl 0 (.v (.string s)), sl 1 (.v (.string t)), sl 5 (.ptr 0 0), sl 8 (I r_4.2), sl 11 (B r_4.1), sl 48 (.v (.string (((ByteArray.mk #[33, 40]) ++ s) ++ (qtimeLaws4)))), (49, .sv (.agg (ApiLasso.cl w)))], [.box (ApiLasso.cl w) 59 false, .gone, .gone, .gone, .gone]⟩ (by kernel_rfl) ?_
 refine WL.mtQ (Q := HoldsQ (((ByteArray.mk #[33, 40]) ++ s) ++ (qtimeLaws4)) w) (x := fun (r : (Bool × Int)) => .tup [.one (B r.1), .one (I r.2)]) (p := fun _ => none) hn (by rfl) (mtq_call (tHolds_ct (((ByteArray.mk #[33, 40]) ++ s) ++ (qtimeLaws4)) w) en21 (caps := []) [] rfl (by rfl) (by kernel_rfl) (by kernel_rfl) (by rfl) (fun _ => rfl) (by rfl)) (fun r_5 hr_5 => ⟨by rfl, _, by rfl, ?_⟩)
 replace h := h r_5 hr_5
 refine WL.run ht hn 5 ⟨[sl 0 (.v (.string s)), sl 1 (.v (.string t)), sl 5 (.ptr 0 0), sl 8 (I r_4.2), sl 11 (B r_4.1), sl 12 (B r_5.1), sl 13 (I r_5.2)], [.box (ApiLasso.cl w) 59 false, .gone, .gone, .gone, .gone]⟩ (by kernel_rfl) ?_
 refine WL.nil ?_
 refine En.seq ?_
 obtain ⟨J, h, hJ⟩ := h
 refine En.seqJ (σ := Bool) (fun zz => J zz) (fun zz => ⟨[sl 0 (.v (.string s)), sl 1 (.v (.string t)), sl 5 (.ptr 0 0), sl 63 (B zz)], [.box (ApiLasso.cl w) 59 false, .gone, .gone, .gone, .gone]⟩) ?_ ?_
 refine En.region ?_
 refine WL.run ht hn 3 ⟨[sl 0 (.v (.string s)), sl 1 (.v (.string t)), sl 5 (.ptr 0 0), sl 11 (B r_4.1), sl 12 (B r_5.1), sl 13 (I r_5.2), sl 55 (B (r_4.2 == 0))], [.box (ApiLasso.cl w) 59 false, .gone, .gone, .gone, .gone]⟩ (by kernel_rfl) ?_
 refine splitB (r_4.2 == 0) (fun hb => ?_) (fun hb => ?_)
 replace h := h.1 hb
 refine WL.setB 55 hb (by kernel_rfl) ?_
 refine WL.run ht hn 4 ⟨[sl 0 (.v (.string s)), sl 1 (.v (.string t)), sl 5 (.ptr 0 0), sl 11 (B r_4.1), sl 12 (B r_5.1), sl 59 (B (r_5.2 == 0))], [.box (ApiLasso.cl w) 59 false, .gone, .gone, .gone, .gone]⟩ (by kernel_rfl) ?_
 refine splitB (r_5.2 == 0) (fun hb => ?_) (fun hb => ?_)
 replace h := h.1 hb
 refine WL.setB 59 hb (by kernel_rfl) ?_
 refine WL.run ht hn 2 ⟨[sl 0 (.v (.string s)), sl 1 (.v (.string t)), sl 5 (.ptr 0 0), sl 59 (B true), sl 60 (B r_4.1), sl 61 (B r_5.1)], [.box (ApiLasso.cl w) 59 false, .gone, .gone, .gone, .gone]⟩ (by kernel_rfl) ?_
 refine WL.val hn (by rfl) (val_eqB (u := r_4.1) (v := r_5.1) rfl Try.underlying4 (by rfl) (by rfl) (.inl ⟨rfl, rfl⟩)) (by rfl) ?_
 refine WL.run ht hn 1 ⟨[sl 0 (.v (.string s)), sl 1 (.v (.string t)), sl 5 (.ptr 0 0), sl 63 (B (r_4.1 == r_5.1))], [.box (ApiLasso.cl w) 59 false, .gone, .gone, .gone, .gone]⟩ (by kernel_rfl) ?_
 refine WL.nil ?_
 exact En.at (I := fun zz => J zz) (T := fun zz => ⟨[sl 0 (.v (.string s)), sl 1 (.v (.string t)), sl 5 (.ptr 0 0), sl 63 (B zz)], [.box (ApiLasso.cl w) 59 false, .gone, .gone, .gone, .gone]⟩) (r_4.1 == r_5.1) h (by kernel_rfl)
 replace h := h.2 hb
 refine WL.setB 59 hb (by kernel_rfl) ?_
 refine WL.run ht hn 4 ⟨[sl 0 (.v (.string s)), sl 1 (.v (.string t)), sl 5 (.ptr 0 0), sl 63 (B false)], [.box (ApiLasso.cl w) 59 false, .gone, .gone, .gone, .gone]⟩ (by kernel_rfl) ?_
 refine WL.nil ?_
 exact En.at (I := fun zz => J zz) (T := fun zz => ⟨[sl 0 (.v (.string s)), sl 1 (.v (.string t)), sl 5 (.ptr 0 0), sl 63 (B zz)], [.box (ApiLasso.cl w) 59 false, .gone, .gone, .gone, .gone]⟩) false h (by kernel_rfl)
 replace h := h.2 hb
 refine WL.setB 55 hb (by kernel_rfl) ?_
 refine WL.run ht hn 8 ⟨[sl 0 (.v (.string s)), sl 1 (.v (.string t)), sl 5 (.ptr 0 0), sl 63 (B false)], [.box (ApiLasso.cl w) 59 false, .gone, .gone, .gone, .gone]⟩ (by kernel_rfl) ?_
 refine WL.nil ?_
 exact En.at (I := fun zz => J zz) (T := fun zz => ⟨[sl 0 (.v (.string s)), sl 1 (.v (.string t)), sl 5 (.ptr 0 0), sl 63 (B zz)], [.box (ApiLasso.cl w) 59 false, .gone, .gone, .gone, .gone]⟩) false h (by kernel_rfl)
 intro x63 h
 replace h := hJ _ h
 show En c ⟨[sl 0 (.v (.string s)), sl 1 (.v (.string t)), sl 5 (.ptr 0 0), sl 63 (B x63)], [.box (ApiLasso.cl w) 59 false, .gone, .gone, .gone, .gone]⟩ _
 refine En.cond (b := x63) (by kernel_rfl) (fun hb => ?_) (fun hb => ?_)
 replace h := h.1 hb
 refine En.seq ?_
 refine En.region ?_
 refine WL.run ht hn 1 ⟨[sl 6 (B false)], [.gone, .gone, .gone, .gone, .gone]⟩ (by kernel_rfl) ?_
 refine WL.nil ?_
 refine En.ret ?_
 exact En.back ht false h (by kernel_rfl) rfl
 replace h := h.2 hb
 refine En.skip ?_
 refine En.seq ?_
 refine En.region ?_
 refine WL.run ht hn 1 ⟨[sl 0 (.v (.string s)), sl 1 (.v (.string t)), sl 5 (.ptr 0 0), sl 65 (.v (.string s))], [.box (ApiLasso.cl w) 59 false, .gone, .gone, .gone, .gone]⟩ (by kernel_rfl) ?_
 have hp_4 := h.1
 replace h := h.2
 refine WL.val hn (by rfl) (val_addS (u := (ByteArray.mk #[71, 40])) (v := s) rfl (by rfl) (by rfl) hp_4) (by rfl) ?_
 have hp_5 := h.1
 replace h := h.2
 refine WL.val hn (by rfl) (val_addS (u := ((ByteArray.mk #[71, 40]) ++ s)) (v := (qtimeLaws4)) rfl (by rfl) (by rfl) hp_5) (by rfl) ?_
 refine WL.run ht hn 1 ⟨[sl 0 (.v (.string s)), sl 1 (.v (.string t)), sl 5 (.ptr 0 0), sl 67 (.v (.string (((ByteArray.mk #[71, 40]) ++ s) ++ (qtimeLaws4)))), (68, .sv (.agg (ApiLasso.cl w)))], [.box (ApiLasso.cl w) 59 false, .gone, .gone, .gone, .gone]⟩ (by kernel_rfl) ?_
 refine WL.mtQ (Q := HoldsQ (((ByteArray.mk #[71, 40]) ++ s) ++ (qtimeLaws4)) w) (x := fun (r : (Bool × Int)) => .tup [.one (B r.1), .one (I r.2)]) (p := fun _ => none) hn (by rfl) (mtq_call (tHolds_ct (((ByteArray.mk #[71, 40]) ++ s) ++ (qtimeLaws4)) w) en21 (caps := []) [] rfl (by rfl) (by kernel_rfl) (by kernel_rfl) (by rfl) (fun _ => rfl) (by rfl)) (fun r_6 hr_6 => ⟨by rfl, _, by rfl, ?_⟩)
 replace h := h r_6 hr_6
 refine WL.run ht hn 5 ⟨[sl 0 (.v (.string s)), sl 1 (.v (.string t)), sl 5 (.ptr 0 0), sl 8 (I r_6.2), sl 11 (B r_6.1)], [.box (ApiLasso.cl w) 59 false, .gone, .gone, .gone, .gone]⟩ (by kernel_rfl) ?_
 refine WL.nil ?_
 refine En.seq ?_
 refine En.region ?_
 refine WL.run ht hn 1 ⟨[sl 0 (.v (.string s)), sl 1 (.v (.string t)), sl 5 (.ptr 0 0), sl 8 (I r_6.2), sl 11 (B r_6.1), sl 73 (.v (.string s))], [.box (ApiLasso.cl w) 59 false, .gone, .gone, .gone, .gone]⟩ (by kernel_rfl) ?_
 have hp_6 := h.1
 replace h := h.2
 refine WL.val hn (by rfl) (val_addS (u := (ByteArray.mk #[70, 33, 40])) (v := s) rfl (by rfl) (by rfl) hp_6) (by rfl) ?_
 have hp_7 := h.1
 replace h := h.2
 refine WL.val hn (by rfl) (val_addS (u := ((ByteArray.mk #[70, 33, 40]) ++ s)) (v := (qtimeLaws4)) rfl (by rfl) (by rfl) hp_7) (by rfl) ?_
 refine WL.run ht hn 1 ⟨[sl 0 (.v (.string s)), sl 1 (.v (.string t)), sl 5 (.ptr 0 0), sl 8 (I r_6.2), sl 11 (B r_6.1), sl 75 (.v (.string (((ByteArray.mk #[70, 33, 40]) ++ s) ++ (qtimeLaws4)))), (76, .sv (.agg (ApiLasso.cl w)))], [.box (ApiLasso.cl w) 59 false, .gone, .gone, .gone, .gone]⟩ (by kernel_rfl) ?_
 refine WL.mtQ (Q := HoldsQ (((ByteArray.mk #[70, 33, 40]) ++ s) ++ (qtimeLaws4)) w) (x := fun (r : (Bool × Int)) => .tup [.one (B r.1), .one (I r.2)]) (p := fun _ => none) hn (by rfl) (mtq_call (tHolds_ct (((ByteArray.mk #[70, 33, 40]) ++ s) ++ (qtimeLaws4)) w) en21 (caps := []) [] rfl (by rfl) (by kernel_rfl) (by kernel_rfl) (by rfl) (fun _ => rfl) (by rfl)) (fun r_7 hr_7 => ⟨by rfl, _, by rfl, ?_⟩)
 replace h := h r_7 hr_7
 refine WL.run ht hn 5 ⟨[sl 0 (.v (.string s)), sl 1 (.v (.string t)), sl 5 (.ptr 0 0), sl 8 (I r_6.2), sl 11 (B r_6.1), sl 12 (B r_7.1), sl 13 (I r_7.2)], [.box (ApiLasso.cl w) 59 false, .gone, .gone, .gone, .gone]⟩ (by kernel_rfl) ?_
 refine WL.nil ?_
 refine En.seq ?_
 obtain ⟨J_2, h, hJ_2⟩ := h
 refine En.seqJ (σ := Bool) (fun zz => J_2 zz) (fun zz => ⟨[sl 0 (.v (.string s)), sl 1 (.v (.string t)), sl 5 (.ptr 0 0), sl 90 (B zz)], [.box (ApiLasso.cl w) 59 false, .gone, .gone, .gone, .gone]⟩) ?_ ?_
 refine En.region ?_
 refine WL.run ht hn 3 ⟨[sl 0 (.v (.string s)), sl 1 (.v (.string t)), sl 5 (.ptr 0 0), sl 11 (B r_6.1), sl 12 (B r_7.1), sl 13 (I r_7.2), sl 82 (B (r_6.2 == 0))], [.box (ApiLasso.cl w) 59 false, .gone, .gone, .gone, .gone]⟩ (by kernel_rfl) ?_
 refine splitB (r_6.2 == 0) (fun hb => ?_) (fun hb => ?_)
 replace h := h.1 hb
 refine WL.setB 82 hb (by kernel_rfl) ?_
 refine WL.run ht hn 4 ⟨[sl 0 (.v (.string s)), sl 1 (.v (.string t)), sl 5 (.ptr 0 0), sl 11 (B r_6.1), sl 12 (B r_7.1), sl 86 (B (r_7.2 == 0))], [.box (ApiLasso.cl w) 59 false, .gone, .gone, .gone, .gone]⟩ (by kernel_rfl) ?_
 refine splitB (r_7.2 == 0) (fun hb => ?_) (fun hb => ?_)
 replace h := h.1 hb
 refine WL.setB 86 hb (by kernel_rfl) ?_
 refine WL.run ht hn 2 ⟨[sl 0 (.v (.string s)), sl 1 (.v (.string t)), sl 5 (.ptr 0 0), sl 86 (B true), sl 87 (B r_6.1), sl 88 (B r_7.1)], [.box (ApiLasso.cl w) 59 false, .gone, .gone, .gone, .gone]⟩ (by kernel_rfl) ?_
 refine WL.val hn (by rfl) (val_eqB (u := r_6.1) (v := r_7.1) rfl Try.underlying4 (by rfl) (by rfl) (.inl ⟨rfl, rfl⟩)) (by rfl) ?_
 refine WL.run ht hn 1 ⟨[sl 0 (.v (.string s)), sl 1 (.v (.string t)), sl 5 (.ptr 0 0), sl 90 (B (r_6.1 == r_7.1))], [.box (ApiLasso.cl w) 59 false, .gone, .gone, .gone, .gone]⟩ (by kernel_rfl) ?_
 refine WL.nil ?_
 exact En.at (I := fun zz => J_2 zz) (T := fun zz => ⟨[sl 0 (.v (.string s)), sl 1 (.v (.string t)), sl 5 (.ptr 0 0), sl 90 (B zz)], [.box (ApiLasso.cl w) 59 false, .gone, .gone, .gone, .gone]⟩) (r_6.1 == r_7.1) h (by kernel_rfl)
 replace h := h.2 hb
 refine WL.setB 86 hb (by kernel_rfl) ?_
 refine WL.run ht hn 4 ⟨[sl 0 (.v (.string s)), sl 1 (.v (.string t)), sl 5 (.ptr 0 0), sl 90 (B false)], [.box (ApiLasso.cl w) 59 false, .gone, .gone, .gone, .gone]⟩ (by kernel_rfl) ?_
 refine WL.nil ?_
 exact En.at (I := fun zz => J_2 zz) (T := fun zz => ⟨[sl 0 (.v (.string s)), sl 1 (.v (.string t)), sl 5 (.ptr 0 0), sl 90 (B zz)], [.box (ApiLasso.cl w) 59 false, .gone, .gone, .gone, .gone]⟩) false h (by kernel_rfl)
 replace h := h.2 hb
 refine WL.setB 82 hb (by kernel_rfl) ?_
 refine WL.run ht hn 8 ⟨[sl 0 (.v (.string s)), sl 1 (.v (.string t)), sl 5 (.ptr 0 0), sl 90 (B false)], [.box (ApiLasso.cl w) 59 false, .gone, .gone, .gone, .gone]⟩ (by kernel_rfl) ?_
 refine WL.nil ?_
 exact En.at (I := fun zz => J_2 zz) (T := fun zz => ⟨[sl 0 (.v (.string s)), sl 1 (.v (.string t)), sl 5 (.ptr 0 0), sl 90 (B zz)], [.box (ApiLasso.cl w) 59 false, .gone, .gone, .gone, .gone]⟩) false h (by kernel_rfl)
 intro x90 h
 replace h := hJ_2 _ h
 show En c ⟨[sl 0 (.v (.string s)), sl 1 (.v (.string t)), sl 5 (.ptr 0 0), sl 90 (B x90)], [.box (ApiLasso.cl w) 59 false, .gone, .gone, .gone, .gone]⟩ _
 refine En.cond (b := x90) (by kernel_rfl) (fun hb => ?_) (fun hb => ?_)
 replace h := h.1 hb
 refine En.seq ?_
 refine En.region ?_
 refine WL.run ht hn 1 ⟨[sl 6 (B false)], [.gone, .gone, .gone, .gone, .gone]⟩ (by kernel_rfl) ?_
 refine WL.nil ?_
 refine En.ret ?_
 exact En.back ht false h (by kernel_rfl) rfl
 replace h := h.2 hb
 refine En.skip ?_
 refine En.seq ?_
 refine En.region ?_
 refine WL.run ht hn 1 ⟨[sl 0 (.v (.string s)), sl 1 (.v (.string t)), sl 5 (.ptr 0 0), sl 92 (.v (.string s))], [.box (ApiLasso.cl w) 59 false, .gone, .gone, .gone, .gone]⟩ (by kernel_rfl) ?_
 have hp_8 := h.1
 replace h := h.2
 refine WL.val hn (by rfl) (val_addS (u := (qtimeLaws3)) (v := s) rfl (by rfl) (by rfl) hp_8) (by rfl) ?_
 have hp_9 := h.1
 replace h := h.2
 refine WL.val hn (by rfl) (val_addS (u := ((qtimeLaws3) ++ s)) (v := (qtimeLaws2)) rfl (by rfl) (by rfl) hp_9) (by rfl) ?_
 refine WL.run ht hn 1 ⟨[sl 0 (.v (.string s)), sl 1 (.v (.string t)), sl 5 (.ptr 0 0), sl 94 (.v (.string (((qtimeLaws3) ++ s) ++ (qtimeLaws2)))), sl 95 (.v (.string t))], [.box (ApiLasso.cl w) 59 false, .gone, .gone, .gone, .gone]⟩ (by kernel_rfl) ?_
 have hp_10 := h.1
 replace h := h.2
 refine WL.val hn (by rfl) (val_addS (u := (((qtimeLaws3) ++ s) ++ (qtimeLaws2))) (v := t) rfl (by rfl) (by rfl) hp_10) (by rfl) ?_
 have hp_11 := h.1
 replace h := h.2
 refine WL.val hn (by rfl) (val_addS (u := ((((qtimeLaws3) ++ s) ++ (qtimeLaws2)) ++ t)) (v := (qtimeLaws4)) rfl (by rfl) (by rfl) hp_11) (by rfl) ?_
 refine WL.run ht hn 1 ⟨[sl 0 (.v (.string s)), sl 1 (.v (.string t)), sl 5 (.ptr 0 0), sl 97 (.v (.string (((((qtimeLaws3) ++ s) ++ (qtimeLaws2)) ++ t) ++ (qtimeLaws4)))), (98, .sv (.agg (ApiLasso.cl w)))], [.box (ApiLasso.cl w) 59 false, .gone, .gone, .gone, .gone]⟩ (by kernel_rfl) ?_
 refine WL.mtQ (Q := HoldsQ (((((qtimeLaws3) ++ s) ++ (qtimeLaws2)) ++ t) ++ (qtimeLaws4)) w) (x := fun (r : (Bool × Int)) => .tup [.one (B r.1), .one (I r.2)]) (p := fun _ => none) hn (by rfl) (mtq_call (tHolds_ct (((((qtimeLaws3) ++ s) ++ (qtimeLaws2)) ++ t) ++ (qtimeLaws4)) w) en21 (caps := []) [] rfl (by rfl) (by kernel_rfl) (by kernel_rfl) (by rfl) (fun _ => rfl) (by rfl)) (fun r_8 hr_8 => ⟨by rfl, _, by rfl, ?_⟩)
 replace h := h r_8 hr_8
 refine WL.run ht hn 5 ⟨[sl 0 (.v (.string s)), sl 1 (.v (.string t)), sl 5 (.ptr 0 0), sl 8 (I r_8.2), sl 11 (B r_8.1)], [.box (ApiLasso.cl w) 59 false, .gone, .gone, .gone, .gone]⟩ (by kernel_rfl) ?_
 refine WL.nil ?_
 refine En.seq ?_
 refine En.region ?_
 refine WL.run ht hn 1 ⟨[sl 0 (.v (.string s)), sl 1 (.v (.string t)), sl 5 (.ptr 0 0), sl 8 (I r_8.2), sl 11 (B r_8.1), sl 103 (.v (.string t))], [.box (ApiLasso.cl w) 59 false, .gone, .gone, .gone, .gone]⟩ (by kernel_rfl) ?_
 have hp_12 := h.1
 replace h := h.2
 refine WL.val hn (by rfl) (val_addS (u := (qtimeLaws3)) (v := t) rfl (by rfl) (by rfl) hp_12) (by rfl) ?_
 have hp_13 := h.1
 replace h := h.2
 refine WL.val hn (by rfl) (val_addS (u := ((qtimeLaws3) ++ t)) (v := (qtimeLaws0)) rfl (by rfl) (by rfl) hp_13) (by rfl) ?_
 refine WL.run ht hn 1 ⟨[sl 0 (.v (.string s)), sl 1 (.v (.string t)), sl 5 (.ptr 0 0), sl 8 (I r_8.2), sl 11 (B r_8.1), sl 105 (.v (.string (((qtimeLaws3) ++ t) ++ (qtimeLaws0)))), sl 106 (.v (.string s))], [.box (ApiLasso.cl w) 59 false, .gone, .gone, .gone, .gone]⟩ (by kernel_rfl) ?_
 have hp_14 := h.1
 replace h := h.2
 refine WL.val hn (by rfl) (val_addS (u := (((qtimeLaws3) ++ t) ++ (qtimeLaws0))) (v := s) rfl (by rfl) (by rfl) hp_14) (by rfl) ?_
 have hp_15 := h.1
 replace h := h.2
 refine WL.val hn (by rfl) (val_addS (u := ((((qtimeLaws3) ++ t) ++ (qtimeLaws0)) ++ s)) (v := (qtimeLaws1)) rfl (by rfl) (by rfl) hp_15) (by rfl) ?_
 refine WL.run ht hn 1 ⟨[sl 1 (.v (.string t)), sl 5 (.ptr 0 0), sl 8 (I r_8.2), sl 11 (B r_8.1), sl 108 (.v (.string (((((qtimeLaws3) ++ t) ++ (qtimeLaws0)) ++ s) ++ (qtimeLaws1)))), sl 109 (.v (.string s))], [.box (ApiLasso.cl w) 59 false, .gone, .gone, .gone, .gone]⟩ (by kernel_rfl) ?_
 have hp_16 := h.1
 replace h := h.2
 refine WL.val hn (by rfl) (val_addS (u := (((((qtimeLaws3) ++ t) ++ (qtimeLaws0)) ++ s) ++ (qtimeLaws1))) (v := s) rfl (by rfl) (by rfl) hp_16) (by rfl) ?_
 have hp_17 := h.1
 replace h := h.2
 refine WL.val hn (by rfl) (val_addS (u := ((((((qtimeLaws3) ++ t) ++ (qtimeLaws0)) ++ s) ++ (qtimeLaws1)) ++ s)) (v := (qtimeLaws2)) rfl (by rfl) (by rfl) hp_17) (by rfl) ?_
 refine WL.run ht hn 1 ⟨[sl 5 (.ptr 0 0), sl 8 (I r_8.2), sl 11 (B r_8.1), sl 111 (.v (.string (((((((qtimeLaws3) ++ t) ++ (qtimeLaws0)) ++ s) ++ (qtimeLaws1)) ++ s) ++ (qtimeLaws2)))), sl 112 (.v (.string t))], [.box (ApiLasso.cl w) 59 false, .gone, .gone, .gone, .gone]⟩ (by kernel_rfl) ?_
 have hp_18 := h.1
 replace h := h.2
 refine WL.val hn (by rfl) (val_addS (u := (((((((qtimeLaws3) ++ t) ++ (qtimeLaws0)) ++ s) ++ (qtimeLaws1)) ++ s) ++ (qtimeLaws2))) (v := t) rfl (by rfl) (by rfl) hp_18) (by rfl) ?_
 have hp_19 := h.1
 replace h := h.2
 refine WL.val hn (by rfl) (val_addS (u := ((((((((qtimeLaws3) ++ t) ++ (qtimeLaws0)) ++ s) ++ (qtimeLaws1)) ++ s) ++ (qtimeLaws2)) ++ t)) (v := (ByteArray.mk #[41, 41, 41])) rfl (by rfl) (by rfl) hp_19) (by rfl) ?_
 refine WL.run ht hn 1 ⟨[sl 8 (I r_8.2), sl 11 (B r_8.1), sl 114 (.v (.string (((((((((qtimeLaws3) ++ t) ++ (qtimeLaws0)) ++ s) ++ (qtimeLaws1)) ++ s) ++ (qtimeLaws2)) ++ t) ++ (ByteArray.mk #[41, 41, 41])))), (115, .sv (.agg (ApiLasso.cl w)))], [.gone, .gone, .gone, .gone, .gone]⟩ (by kernel_rfl) ?_
 refine WL.mtQ (Q := HoldsQ (((((((((qtimeLaws3) ++ t) ++ (qtimeLaws0)) ++ s) ++ (qtimeLaws1)) ++ s) ++ (qtimeLaws2)) ++ t) ++ (ByteArray.mk #[41, 41, 41])) w) (x := fun (r : (Bool × Int)) => .tup [.one (B r.1), .one (I r.2)]) (p := fun _ => none) hn (by rfl) (mtq_call (tHolds_ct (((((((((qtimeLaws3) ++ t) ++ (qtimeLaws0)) ++ s) ++ (qtimeLaws1)) ++ s) ++ (qtimeLaws2)) ++ t) ++ (ByteArray.mk #[41, 41, 41])) w) en21 (caps := []) [] rfl (by rfl) (by kernel_rfl) (by kernel_rfl) (by rfl) (fun _ => rfl) (by rfl)) (fun r_9 hr_9 => ⟨by rfl, _, by rfl, ?_⟩)
 replace h := h r_9 hr_9
 refine WL.run ht hn 5 ⟨[sl 8 (I r_8.2), sl 11 (B r_8.1), sl 12 (B r_9.1), sl 13 (I r_9.2)], [.gone, .gone, .gone, .gone, .gone]⟩ (by kernel_rfl) ?_
 refine WL.nil ?_
 obtain ⟨J_3, h, hJ_3⟩ := h
 refine En.seqJ (σ := Bool) (fun zz => J_3 zz) (fun zz => ⟨[sl 6 (B zz)], [.gone, .gone, .gone, .gone, .gone]⟩) ?_ ?_
 refine En.region ?_
 refine WL.run ht hn 3 ⟨[sl 11 (B r_8.1), sl 12 (B r_9.1), sl 13 (I r_9.2), sl 121 (B (r_8.2 != 0))], [.gone, .gone, .gone, .gone, .gone]⟩ (by kernel_rfl) ?_
 refine splitB (r_8.2 != 0) (fun hb => ?_) (fun hb => ?_)
 replace h := h.1 hb
 refine WL.setB 121 hb (by kernel_rfl) ?_
 refine WL.run ht hn 9 ⟨[sl 6 (B true)], [.gone, .gone, .gone, .gone, .gone]⟩ (by kernel_rfl) ?_
 refine WL.nil ?_
 exact En.at (I := fun zz => J_3 zz) (T := fun zz => ⟨[sl 6 (B zz)], [.gone, .gone, .gone, .gone, .gone]⟩) true h (by kernel_rfl)
 replace h := h.2 hb
 refine WL.setB 121 hb (by kernel_rfl) ?_
 refine WL.run ht hn 4 ⟨[sl 11 (B r_8.1), sl 12 (B r_9.1), sl 125 (B (r_9.2 != 0))], [.gone, .gone, .gone, .gone, .gone]⟩ (by kernel_rfl) ?_
 refine splitB (r_9.2 != 0) (fun hb => ?_) (fun hb => ?_)
 replace h := h.1 hb
 refine WL.setB 125 hb (by kernel_rfl) ?_
 refine WL.run ht hn 5 ⟨[sl 6 (B true)], [.gone, .gone, .gone, .gone, .gone]⟩ (by kernel_rfl) ?_
 refine WL.nil ?_
 exact En.at (I := fun zz => J_3 zz) (T := fun zz => ⟨[sl 6 (B zz)], [.gone, .gone, .gone, .gone, .gone]⟩) true h (by kernel_rfl)
 replace h := h.2 hb
 refine WL.setB 125 hb (by kernel_rfl) ?_
 refine WL.run ht hn 2 ⟨[sl 125 (B false), sl 126 (B r_8.1), sl 127 (B r_9.1)], [.gone, .gone, .gone, .gone, .gone]⟩ (by kernel_rfl) ?_
 refine WL.val hn (by rfl) (val_eqB (u := r_8.1) (v := r_9.1) rfl Try.underlying4 (by rfl) (by rfl) (.inl ⟨rfl, rfl⟩)) (by rfl) ?_
 refine WL.run ht hn 2 ⟨[sl 6 (B (r_8.1 == r_9.1))], [.gone, .gone, .gone, .gone, .gone]⟩ (by kernel_rfl) ?_
 refine WL.nil ?_
 exact En.at (I := fun zz => J_3 zz) (T := fun zz => ⟨[sl 6 (B zz)], [.gone, .gone, .gone, .gone, .gone]⟩) (r_8.1 == r_9.1) h (by kernel_rfl)
 intro x6 h
 replace h := hJ_3 _ h
 show En c ⟨[sl 6 (B x6)], [.gone, .gone, .gone, .gone, .gone]⟩ _
 refine En.ret ?_
 exact En.back ht x6 h (by kernel_rfl) rfl
theorem tl2 {s t : ByteArray} {S T : TF} {K K2 : Nat} (hs : pT s K 3 0 = some (S, (s.size : Int))) : RdT (((ByteArray.mk #[33, 40]) ++ s) ++ (ByteArray.mk #[41])) 3 0 (.no S) (3 + (s.size : Int)) := by
 obtain ⟨c, he⟩ : ∃ c, c = (((ByteArray.mk #[33, 40]) ++ s) ++ (ByteArray.mk #[41])) := ⟨_, rfl⟩
 rw [← he]
 have z0 : (ByteArray.mk #[33, 40]).size = 2 := rfl
 have z1 : (ByteArray.mk #[41]).size = 1 := rfl
 have hz : c.size = 3 + s.size := by rw [he]; simp only [ByteArray.size_append]; omega
 have c0 : ∀ p : Int, p = 0 → tch c p = 33 := fun p e => by rw [he, tch_l (by (try simp only [ByteArray.size_append]); omega), tch_l (by (try simp only [ByteArray.size_append]); omega)]; subst e; kernel_rfl
 have c1 : ∀ p : Int, p = 1 → tch c p = 40 := fun p e => by rw [he, tch_l (by (try simp only [ByteArray.size_append]); omega), tch_l (by (try simp only [ByteArray.size_append]); omega)]; subst e; kernel_rfl
 have i1 : InS s c (2) := ⟨by omega, fun p h0 h => by rw [he, tch_l (by (try simp only [ByteArray.size_append]); omega), tch_r (j := p) (by (try simp only [ByteArray.size_append]); omega) (by omega)], by rw [he, tch_r (j := 0) (by (try simp only [ByteArray.size_append]); omega) (by omega)]; kernel_rfl⟩
 have c2 : ∀ p : Int, p = 2 + (s.size : Int) → tch c p = 41 := fun p e => by rw [he, tch_r (j := 0) (by (try simp only [ByteArray.size_append]); omega) (by omega)]; kernel_rfl
 have cz : ∀ p : Int, p = 3 + (s.size : Int) → tch c p = 0 := fun p e => tch_end (by omega)
 have k : RdT c 0 (0 + 1) S (3 + (s.size : Int)) := rd_in i1 (by omega) hs (c1 _ (by omega)) (by omega) (by omega)
 exact rd_all (rd_bang (c0 _ (by omega)) k) (by rw [cz _ (by omega)]; decide) (by rw [cz _ (by omega)]; decide) (by rw [cz _ (by omega)]; decide) (by rw [cz _ (by omega)]; decide)
theorem tl3 {s t : ByteArray} {S T : TF} {K K2 : Nat} (hs : pT s K 3 0 = some (S, (s.size : Int))) : RdT (((ByteArray.mk #[71, 40]) ++ s) ++ (ByteArray.mk #[41])) 3 0 (.no (.un (.no .nev) (.no S))) (3 + (s.size : Int)) := by
 obtain ⟨c, he⟩ : ∃ c, c = (((ByteArray.mk #[71, 40]) ++ s) ++ (ByteArray.mk #[41])) := ⟨_, rfl⟩
 rw [← he]
 have z0 : (ByteArray.mk #[71, 40]).size = 2 := rfl
 have z1 : (ByteArray.mk #[41]).size = 1 := rfl
 have hz : c.size = 3 + s.size := by rw [he]; simp only [ByteArray.size_append]; omega
 have c0 : ∀ p : Int, p = 0 → tch c p = 71 := fun p e => by rw [he, tch_l (by (try simp only [ByteArray.size_append]); omega), tch_l (by (try simp only [ByteArray.size_append]); omega)]; subst e; kernel_rfl
 have c1 : ∀ p : Int, p = 1 → tch c p = 40 := fun p e => by rw [he, tch_l (by (try simp only [ByteArray.size_append]); omega), tch_l (by (try simp only [ByteArray.size_append]); omega)]; subst e; kernel_rfl
 have i1 : InS s c (2) := ⟨by omega, fun p h0 h => by rw [he, tch_l (by (try simp only [ByteArray.size_append]); omega), tch_r (j := p) (by (try simp only [ByteArray.size_append]); omega) (by omega)], by rw [he, tch_r (j := 0) (by (try simp only [ByteArray.size_append]); omega) (by omega)]; kernel_rfl⟩
 have c2 : ∀ p : Int, p = 2 + (s.size : Int) → tch c p = 41 := fun p e => by rw [he, tch_r (j := 0) (by (try simp only [ByteArray.size_append]); omega) (by omega)]; kernel_rfl
 have cz : ∀ p : Int, p = 3 + (s.size : Int) → tch c p = 0 := fun p e => tch_end (by omega)
 have k : RdT c 0 (0 + 1) S (3 + (s.size : Int)) := rd_in i1 (by omega) hs (c1 _ (by omega)) (by omega) (by omega)
 exact rd_all (rd_G (c0 _ (by omega)) k) (by rw [cz _ (by omega)]; decide) (by rw [cz _ (by omega)]; decide) (by rw [cz _ (by omega)]; decide) (by rw [cz _ (by omega)]; decide)
theorem tl4 {s t : ByteArray} {S T : TF} {K K2 : Nat} (hs : pT s K 3 0 = some (S, (s.size : Int))) : RdT (((ByteArray.mk #[70, 33, 40]) ++ s) ++ (ByteArray.mk #[41])) 3 0 (.un (.no .nev) (.no S)) (4 + (s.size : Int)) := by
 obtain ⟨c, he⟩ : ∃ c, c = (((ByteArray.mk #[70, 33, 40]) ++ s) ++ (ByteArray.mk #[41])) := ⟨_, rfl⟩
 rw [← he]
 have z0 : (ByteArray.mk #[70, 33, 40]).size = 3 := rfl
 have z1 : (ByteArray.mk #[41]).size = 1 := rfl
 have hz : c.size = 4 + s.size := by rw [he]; simp only [ByteArray.size_append]; omega
 have c0 : ∀ p : Int, p = 0 → tch c p = 70 := fun p e => by rw [he, tch_l (by (try simp only [ByteArray.size_append]); omega), tch_l (by (try simp only [ByteArray.size_append]); omega)]; subst e; kernel_rfl
 have c1 : ∀ p : Int, p = 1 → tch c p = 33 := fun p e => by rw [he, tch_l (by (try simp only [ByteArray.size_append]); omega), tch_l (by (try simp only [ByteArray.size_append]); omega)]; subst e; kernel_rfl
 have c2 : ∀ p : Int, p = 2 → tch c p = 40 := fun p e => by rw [he, tch_l (by (try simp only [ByteArray.size_append]); omega), tch_l (by (try simp only [ByteArray.size_append]); omega)]; subst e; kernel_rfl
 have i1 : InS s c (3) := ⟨by omega, fun p h0 h => by rw [he, tch_l (by (try simp only [ByteArray.size_append]); omega), tch_r (j := p) (by (try simp only [ByteArray.size_append]); omega) (by omega)], by rw [he, tch_r (j := 0) (by (try simp only [ByteArray.size_append]); omega) (by omega)]; kernel_rfl⟩
 have c3 : ∀ p : Int, p = 3 + (s.size : Int) → tch c p = 41 := fun p e => by rw [he, tch_r (j := 0) (by (try simp only [ByteArray.size_append]); omega) (by omega)]; kernel_rfl
 have cz : ∀ p : Int, p = 4 + (s.size : Int) → tch c p = 0 := fun p e => tch_end (by omega)
 have k : RdT c 0 (0 + 1 + 1) S (4 + (s.size : Int)) := rd_in i1 (by omega) hs (c2 _ (by omega)) (by omega) (by omega)
 exact rd_all (rd_F (c0 _ (by omega)) (rd_bang (c1 _ (by omega)) k)) (by rw [cz _ (by omega)]; decide) (by rw [cz _ (by omega)]; decide) (by rw [cz _ (by omega)]; decide) (by rw [cz _ (by omega)]; decide)
theorem tl5 {s t : ByteArray} {S T : TF} {K K2 : Nat} (hs : pT s K 3 0 = some (S, (s.size : Int))) (ht : pT t K2 3 0 = some (T, (t.size : Int))) : RdT (((((ByteArray.mk #[40]) ++ s) ++ (ByteArray.mk #[41, 85, 40])) ++ t) ++ (ByteArray.mk #[41])) 3 0 (.un S T) (5 + (s.size : Int) + (t.size : Int)) := by
 obtain ⟨c, he⟩ : ∃ c, c = (((((ByteArray.mk #[40]) ++ s) ++ (ByteArray.mk #[41, 85, 40])) ++ t) ++ (ByteArray.mk #[41])) := ⟨_, rfl⟩
 rw [← he]
 have z0 : (ByteArray.mk #[40]).size = 1 := rfl
 have z1 : (ByteArray.mk #[41, 85, 40]).size = 3 := rfl
 have z2 : (ByteArray.mk #[41]).size = 1 := rfl
 have hz : c.size = 5 + s.size + t.size := by rw [he]; simp only [ByteArray.size_append]; omega
 have c0 : ∀ p : Int, p = 0 → tch c p = 40 := fun p e => by rw [he, tch_l (by (try simp only [ByteArray.size_append]); omega), tch_l (by (try simp only [ByteArray.size_append]); omega), tch_l (by (try simp only [ByteArray.size_append]); omega), tch_l (by (try simp only [ByteArray.size_append]); omega)]; subst e; kernel_rfl
 have i1 : InS s c (1) := ⟨by omega, fun p h0 h => by rw [he, tch_l (by (try simp only [ByteArray.size_append]); omega), tch_l (by (try simp only [ByteArray.size_append]); omega), tch_l (by (try simp only [ByteArray.size_append]); omega), tch_r (j := p) (by (try simp only [ByteArray.size_append]); omega) (by omega)], by rw [he, tch_l (by (try simp only [ByteArray.size_append]); omega), tch_l (by (try simp only [ByteArray.size_append]); omega), tch_r (j := 0) (by (try simp only [ByteArray.size_append]); omega) (by omega)]; kernel_rfl⟩
 have c1 : ∀ p : Int, p = 1 + (s.size : Int) → tch c p = 41 := fun p e => by rw [he, tch_l (by (try simp only [ByteArray.size_append]); omega), tch_l (by (try simp only [ByteArray.size_append]); omega), tch_r (j := 0) (by (try simp only [ByteArray.size_append]); omega) (by omega)]; kernel_rfl
 have c2 : ∀ p : Int, p = 2 + (s.size : Int) → tch c p = 85 := fun p e => by rw [he, tch_l (by (try simp only [ByteArray.size_append]); omega), tch_l (by (try simp only [ByteArray.size_append]); omega), tch_r (j := 1) (by (try simp only [ByteArray.size_append]); omega) (by omega)]; kernel_rfl
 have c3 : ∀ p : Int, p = 3 + (s.size : Int) → tch c p = 40 := fun p e => by rw [he, tch_l (by (try simp only [ByteArray.size_append]); omega), tch_l (by (try simp only [ByteArray.size_append]); omega), tch_r (j := 2) (by (try simp only [ByteArray.size_append]); omega) (by omega)]; kernel_rfl
 have i3 : InS t c (4 + (s.size : Int)) := ⟨by omega, fun p h0 h => by rw [he, tch_l (by (try simp only [ByteArray.size_append]); omega), tch_r (j := p) (by (try simp only [ByteArray.size_append]); omega) (by omega)], by rw [he, tch_r (j := 0) (by (try simp only [ByteArray.size_append]); omega) (by omega)]; kernel_rfl⟩
 have c4 : ∀ p : Int, p = 4 + (s.size : Int) + (t.size : Int) → tch c p = 41 := fun p e => by rw [he, tch_r (j := 0) (by (try simp only [ByteArray.size_append]); omega) (by omega)]; kernel_rfl
 have cz : ∀ p : Int, p = 5 + (s.size : Int) + (t.size : Int) → tch c p = 0 := fun p e => tch_end (by omega)
 have k1 : RdT c 0 0 S (2 + (s.size : Int)) := rd_in i1 (by omega) hs (c0 _ (by omega)) (by omega) (by omega)
 have k2 : RdT c 0 (2 + (s.size : Int) + 1) T (5 + (s.size : Int) + (t.size : Int)) := rd_in i3 (by omega) ht (c3 _ (by omega)) (by omega) (by omega)
 exact rd_for (rd_term (rd_until k1 (c2 _ (by omega)) (rd_part k2 (by rw [cz _ (by omega)]; decide) (by rw [cz _ (by omega)]; decide))) (by rw [cz _ (by omega)]; decide)) (by rw [cz _ (by omega)]; decide)
theorem tl6 {s t : ByteArray} {S T : TF} {K K2 : Nat} (hs : pT s K 3 0 = some (S, (s.size : Int))) (ht : pT t K2 3 0 = some (T, (t.size : Int))) : RdT (((((((((ByteArray.mk #[40]) ++ t) ++ (ByteArray.mk #[41, 124, 40, 40])) ++ s) ++ (ByteArray.mk #[41, 38, 88, 40, 40])) ++ s) ++ (ByteArray.mk #[41, 85, 40])) ++ t) ++ (ByteArray.mk #[41, 41, 41])) 3 0 (.or T (.an S (.be (.un S T)))) (15 + (t.size : Int) + (s.size : Int) + (s.size : Int) + (t.size : Int) + 1) := by
 obtain ⟨c, he⟩ : ∃ c, c = (((((((((ByteArray.mk #[40]) ++ t) ++ (ByteArray.mk #[41, 124, 40, 40])) ++ s) ++ (ByteArray.mk #[41, 38, 88, 40, 40])) ++ s) ++ (ByteArray.mk #[41, 85, 40])) ++ t) ++ (ByteArray.mk #[41, 41, 41])) := ⟨_, rfl⟩
 rw [← he]
 have z0 : (ByteArray.mk #[40]).size = 1 := rfl
 have z1 : (ByteArray.mk #[41, 124, 40, 40]).size = 4 := rfl
 have z2 : (ByteArray.mk #[41, 38, 88, 40, 40]).size = 5 := rfl
 have z3 : (ByteArray.mk #[41, 85, 40]).size = 3 := rfl
 have z4 : (ByteArray.mk #[41, 41, 41]).size = 3 := rfl
 have hz : c.size = 16 + t.size + s.size + s.size + t.size := by rw [he]; simp only [ByteArray.size_append]; omega
 have c0 : ∀ p : Int, p = 0 → tch c p = 40 := fun p e => by rw [he, tch_l (by (try simp only [ByteArray.size_append]); omega), tch_l (by (try simp only [ByteArray.size_append]); omega), tch_l (by (try simp only [ByteArray.size_append]); omega), tch_l (by (try simp only [ByteArray.size_append]); omega), tch_l (by (try simp only [ByteArray.size_append]); omega), tch_l (by (try simp only [ByteArray.size_append]); omega), tch_l (by (try simp only [ByteArray.size_append]); omega), tch_l (by (try simp only [ByteArray.size_append]); omega)]; subst e; kernel_rfl
 have i1 : InS t c (1) := ⟨by omega, fun p h0 h => by rw [he, tch_l (by (try simp only [ByteArray.size_append]); omega), tch_l (by (try simp only [ByteArray.size_append]); omega), tch_l (by (try simp only [ByteArray.size_append]); omega), tch_l (by (try simp only [ByteArray.size_append]); omega), tch_l (by (try simp only [ByteArray.size_append]); omega), tch_l (by (try simp only [ByteArray.size_append]); omega), tch_l (by (try simp only [ByteArray.size_append]); omega), tch_r (j := p) (by (try simp only [ByteArray.size_append]); omega) (by omega)], by rw [he, tch_l (by (try simp only [ByteArray.size_append]); omega), tch_l (by (try simp only [ByteArray.size_append]); omega), tch_l (by (try simp only [ByteArray.size_append]); omega), tch_l (by (try simp only [ByteArray.size_append]); omega), tch_l (by (try simp only [ByteArray.size_append]); omega), tch_l (by (try simp only [ByteArray.size_append]); omega), tch_r (j := 0) (by (try simp only [ByteArray.size_append]); omega) (by omega)]; kernel_rfl⟩
 have c1 : ∀ p : Int, p = 1 + (t.size : Int) → tch c p = 41 := fun p e => by rw [he, tch_l (by (try simp only [ByteArray.size_append]); omega), tch_l (by (try simp only [ByteArray.size_append]); omega), tch_l (by (try simp only [ByteArray.size_append]); omega), tch_l (by (try simp only [ByteArray.size_append]); omega), tch_l (by (try simp only [ByteArray.size_append]); omega), tch_l (by (try simp only [ByteArray.size_append]); omega), tch_r (j := 0) (by (try simp only [ByteArray.size_append]); omega) (by omega)]; kernel_rfl
 have c2 : ∀ p : Int, p = 2 + (t.size : Int) → tch c p = 124 := fun p e => by rw [he, tch_l (by (try simp only [ByteArray.size_append]); omega), tch_l (by (try simp only [ByteArray.size_append]); omega), tch_l (by (try simp only [ByteArray.size_append]); omega), tch_l (by (try simp only [ByteArray.size_append]); omega), tch_l (by (try simp only [ByteArray.size_append]); omega), tch_l (by (try simp only [ByteArray.size_append]); omega), tch_r (j := 1) (by (try simp only [ByteArray.size_append]); omega) (by omega)]; kernel_rfl
 have c3 : ∀ p : Int, p = 3 + (t.size : Int) → tch c p = 40 := fun p e => by rw [he, tch_l (by (try simp only [ByteArray.size_append]); omega), tch_l (by (try simp only [ByteArray.size_append]); omega), tch_l (by (try simp only [ByteArray.size_append]); omega), tch_l (by (try simp only [ByteArray.size_append]); omega), tch_l (by (try simp only [ByteArray.size_append]); omega), tch_l (by (try simp only [ByteArray.size_append]); omega), tch_r (j := 2) (by (try simp only [ByteArray.size_append]); omega) (by omega)]; kernel_rfl
 have c4 : ∀ p : Int, p = 4 + (t.size : Int) → tch c p = 40 := fun p e => by rw [he, tch_l (by (try simp only [ByteArray.size_append]); omega), tch_l (by (try simp only [ByteArray.size_append]); omega), tch_l (by (try simp only [ByteArray.size_append]); omega), tch_l (by (try simp only [ByteArray.size_append]); omega), tch_l (by (try simp only [ByteArray.size_append]); omega), tch_l (by (try simp only [ByteArray.size_append]); omega), tch_r (j := 3) (by (try simp only [ByteArray.size_append]); omega) (by omega)]; kernel_rfl
 have i3 : InS s c (5 + (t.size : Int)) := ⟨by omega, fun p h0 h => by rw [he, tch_l (by (try simp only [ByteArray.size_append]); omega), tch_l (by (try simp only [ByteArray.size_append]); omega), tch_l (by (try simp only [ByteArray.size_append]); omega), tch_l (by (try simp only [ByteArray.size_append]); omega), tch_l (by (try simp only [ByteArray.size_append]); omega), tch_r (j := p) (by (try simp only [ByteArray.size_append]); omega) (by omega)], by rw [he, tch_l (by (try simp only [ByteArray.size_append]); omega), tch_l (by (try simp only [ByteArray.size_append]); omega), tch_l (by (try simp only [ByteArray.size_append]); omega), tch_l (by (try simp only [ByteArray.size_append]); omega), tch_r (j := 0) (by (try simp only [ByteArray.size_append]); omega) (by omega)]; kernel_rfl⟩
 have c5 : ∀ p : Int, p = 5 + (t.size : Int) + (s.size : Int) → tch c p = 41 := fun p e => by rw [he, tch_l (by (try simp only [ByteArray.size_append]); omega), tch_l (by (try simp only [ByteArray.size_append]); omega), tch_l (by (try simp only [ByteArray.size_append]); omega), tch_l (by (try simp only [ByteArray.size_append]); omega), tch_r (j := 0) (by (try simp only [ByteArray.size_append]); omega) (by omega)]; kernel_rfl
 have c6 : ∀ p : Int, p = 6 + (t.size : Int) + (s.size : Int) → tch c p = 38 := fun p e => by rw [he, tch_l (by (try simp only [ByteArray.size_append]); omega), tch_l (by (try simp only [ByteArray.size_append]); omega), tch_l (by (try simp only [ByteArray.size_append]); omega), tch_l (by (try simp only [ByteArray.size_append]); omega), tch_r (j := 1) (by (try simp only [ByteArray.size_append]); omega) (by omega)]; kernel_rfl
 have c7 : ∀ p : Int, p = 7 + (t.size : Int) + (s.size : Int) → tch c p = 88 := fun p e => by rw [he, tch_l (by (try simp only [ByteArray.size_append]); omega), tch_l (by (try simp only [ByteArray.size_append]); omega), tch_l (by (try simp only [ByteArray.size_append]); omega), tch_l (by (try simp only [ByteArray.size_append]); omega), tch_r (j := 2) (by (try simp only [ByteArray.size_append]); omega) (by omega)]; kernel_rfl
 have c8 : ∀ p : Int, p = 8 + (t.size : Int) + (s.size : Int) → tch c p = 40 := fun p e => by rw [he, tch_l (by (try simp only [ByteArray.size_append]); omega), tch_l (by (try simp only [ByteArray.size_append]); omega), tch_l (by (try simp only [ByteArray.size_append]); omega), tch_l (by (try simp only [ByteArray.size_append]); omega), tch_r (j := 3) (by (try simp only [ByteArray.size_append]); omega) (by omega)]; kernel_rfl
 have c9 : ∀ p : Int, p = 9 + (t.size : Int) + (s.size : Int) → tch c p = 40 := fun p e => by rw [he, tch_l (by (try simp only [ByteArray.size_append]); omega), tch_l (by (try simp only [ByteArray.size_append]); omega), tch_l (by (try simp only [ByteArray.size_append]); omega), tch_l (by (try simp only [ByteArray.size_append]); omega), tch_r (j := 4) (by (try simp only [ByteArray.size_append]); omega) (by omega)]; kernel_rfl
 have i5 : InS s c (10 + (t.size : Int) + (s.size : Int)) := ⟨by omega, fun p h0 h => by rw [he, tch_l (by (try simp only [ByteArray.size_append]); omega), tch_l (by (try simp only [ByteArray.size_append]); omega), tch_l (by (try simp only [ByteArray.size_append]); omega), tch_r (j := p) (by (try simp only [ByteArray.size_append]); omega) (by omega)], by rw [he, tch_l (by (try simp only [ByteArray.size_append]); omega), tch_l (by (try simp only [ByteArray.size_append]); omega), tch_r (j := 0) (by (try simp only [ByteArray.size_append]); omega) (by omega)]; kernel_rfl⟩
 have c10 : ∀ p : Int, p = 10 + (t.size : Int) + (s.size : Int) + (s.size : Int) → tch c p = 41 := fun p e => by rw [he, tch_l (by (try simp only [ByteArray.size_append]); omega), tch_l (by (try simp only [ByteArray.size_append]); omega), tch_r (j := 0) (by (try simp only [ByteArray.size_append]); omega) (by omega)]; kernel_rfl
 have c11 : ∀ p : Int, p = 11 + (t.size : Int) + (s.size : Int) + (s.size : Int) → tch c p = 85 := fun p e => by rw [he, tch_l (by (try simp only [ByteArray.size_append]); omega), tch_l (by (try simp only [ByteArray.size_append]); omega), tch_r (j := 1) (by (try simp only [ByteArray.size_append]); omega) (by omega)]; kernel_rfl
 have c12 : ∀ p : Int, p = 12 + (t.size : Int) + (s.size : Int) + (s.size : Int) → tch c p = 40 := fun p e => by rw [he, tch_l (by (try simp only [ByteArray.size_append]); omega), tch_l (by (try simp only [ByteArray.size_append]); omega), tch_r (j := 2) (by (try simp only [ByteArray.size_append]); omega) (by omega)]; kernel_rfl
 have i7 : InS t c (13 + (t.size : Int) + (s.size : Int) + (s.size : Int)) := ⟨by omega, fun p h0 h => by rw [he, tch_l (by (try simp only [ByteArray.size_append]); omega), tch_r (j := p) (by (try simp only [ByteArray.size_append]); omega) (by omega)], by rw [he, tch_r (j := 0) (by (try simp only [ByteArray.size_append]); omega) (by omega)]; kernel_rfl⟩
 have c13 : ∀ p : Int, p = 13 + (t.size : Int) + (s.size : Int) + (s.size : Int) + (t.size : Int) → tch c p = 41 := fun p e => by rw [he, tch_r (j := 0) (by (try simp only [ByteArray.size_append]); omega) (by omega)]; kernel_rfl
 have c14 : ∀ p : Int, p = 14 + (t.size : Int) + (s.size : Int) + (s.size : Int) + (t.size : Int) → tch c p = 41 := fun p e => by rw [he, tch_r (j := 1) (by (try simp only [ByteArray.size_append]); omega) (by omega)]; kernel_rfl
 have c15 : ∀ p : Int, p = 15 + (t.size : Int) + (s.size : Int) + (s.size : Int) + (t.size : Int) → tch c p = 41 := fun p e => by rw [he, tch_r (j := 2) (by (try simp only [ByteArray.size_append]); omega) (by omega)]; kernel_rfl
 have cz : ∀ p : Int, p = 16 + (t.size : Int) + (s.size : Int) + (s.size : Int) + (t.size : Int) → tch c p = 0 := fun p e => tch_end (by omega)
 have k1 : RdT c 0 0 T (2 + (t.size : Int)) := rd_in i1 (by omega) ht (c0 _ (by omega)) (by omega) (by omega)
 have k2 : RdT c 0 (2 + (t.size : Int) + 1 + 1) S (6 + (t.size : Int) + (s.size : Int)) := rd_in i3 (by omega) hs (c4 _ (by omega)) (by omega) (by omega)
 have k3 : RdT c 0 (6 + (t.size : Int) + (s.size : Int) + 1 + 1 + 1) S (11 + (t.size : Int) + (s.size : Int) + (s.size : Int)) := rd_in i5 (by omega) hs (c9 _ (by omega)) (by omega) (by omega)
 have k4 : RdT c 0 (11 + (t.size : Int) + (s.size : Int) + (s.size : Int) + 1) T (14 + (t.size : Int) + (s.size : Int) + (s.size : Int) + (t.size : Int)) := rd_in i7 (by omega) ht (c12 _ (by omega)) (by omega) (by omega)
 have f1 : RdT c 3 (6 + (t.size : Int) + (s.size : Int) + 1 + 1 + 1) (.un S T) (14 + (t.size : Int) + (s.size : Int) + (s.size : Int) + (t.size : Int)) := rd_for (rd_term (rd_until k3 (c11 _ (by omega)) (rd_part k4 (by rw [c14 _ (by omega)]; decide) (by rw [c14 _ (by omega)]; decide))) (by rw [c14 _ (by omega)]; decide)) (by rw [c14 _ (by omega)]; decide)
 have o1 : RdT c 0 (6 + (t.size : Int) + (s.size : Int) + 1 + 1) (.un S T) (14 + (t.size : Int) + (s.size : Int) + (s.size : Int) + (t.size : Int) + 1) := rd_open (c8 _ (by omega)) f1 (c14 _ (by omega))
 have x1 : RdT c 0 (6 + (t.size : Int) + (s.size : Int) + 1) (.be (.un S T)) (14 + (t.size : Int) + (s.size : Int) + (s.size : Int) + (t.size : Int) + 1) := rd_X (c7 _ (by omega)) o1
 have a1 : RdT c 3 (2 + (t.size : Int) + 1 + 1) (.an S (.be (.un S T))) (14 + (t.size : Int) + (s.size : Int) + (s.size : Int) + (t.size : Int) + 1) := rd_for (rd_and (rd_part k2 (by rw [c6 _ (by omega)]; decide) (by rw [c6 _ (by omega)]; decide)) (c6 _ (by omega)) (rd_part x1 (by rw [c15 _ (by omega)]; decide) (by rw [c15 _ (by omega)]; decide)) (by rw [c15 _ (by omega)]; decide) (by omega)) (by rw [c15 _ (by omega)]; decide)
 have o2 : RdT c 0 (2 + (t.size : Int) + 1) (.an S (.be (.un S T))) (14 + (t.size : Int) + (s.size : Int) + (s.size : Int) + (t.size : Int) + 1 + 1) := rd_open (c3 _ (by omega)) a1 (c15 _ (by omega))
 have e : 14 + (t.size : Int) + (s.size : Int) + (s.size : Int) + (t.size : Int) + 1 + 1 = 15 + (t.size : Int) + (s.size : Int) + (s.size : Int) + (t.size : Int) + 1 := by omega
 rw [e] at o2
 exact rd_or (rd_term (rd_part k1 (by rw [c2 _ (by omega)]; decide) (by rw [c2 _ (by omega)]; decide)) (by rw [c2 _ (by omega)]; decide)) (c2 _ (by omega)) (rd_term (rd_part o2 (by rw [cz _ (by omega)]; decide) (by rw [cz _ (by omega)]; decide)) (by rw [cz _ (by omega)]; decide)) (by rw [cz _ (by omega)]; decide) (by omega)
theorem holds_val {c : ByteArray} {w : ApiLasso} {r : Bool × Int} {X : TF} {q : Int} (h : HoldsQ c w r) (h0 : r.2 = 0) (hX : RdT c 3 0 X q) : r.1 = semT (w.fHead ++ w.fLoop) w.fHead.length X 0 ∧ lasE 4 w = 0 := by
 rcases h with h | ⟨_, hl, t, ht, hv⟩
 ·exact absurd h0 h.1
 ·rw [rd_full hX ht] at hv
  exact ⟨hv, hl⟩
def textG : ByteArray := ByteArray.mk #[71, 70, 112]
theorem fullG : fullP textG = true := by kernel_rfl
theorem treeG : pT textG (4 * textG.size + 4) 3 0 = some (.no (.un (.no .nev) (.no (.un (.no .nev) .p))), 3) := by kernel_rfl
theorem semG : semT ([0] ++ [1]) ([0] : List Int).length (.no (.un (.no .nev) (.no (.un (.no .nev) .p)))) 0 = true := by kernel_rfl
theorem lasG : lasE 4 ⟨[0], [1]⟩ = 0 := by kernel_rfl
theorem timeLaws_ct (s : ByteArray) (t : ByteArray) (w : ApiLasso)  : Ct 6 [.sv (.one (.v (.string s))), .sv (.one (.v (.string t))), .sv (.agg [LS intT w.fHead, LS intT w.fLoop])] [] (fun (_ : Unit) => True) (fun _ => .sv (.one (B (true)))) := by
 refine (timeLaws_walk s t w (fun res_ => res_ = (true)) ?_).fun
 unfold timeLaws_vc
 intro _ _ r hr
 have hG : r.2 = 0 ∧ r.1 = true := by
  rcases hr with ⟨_, h | h⟩ | ⟨h0, _, t', ht, hv⟩
  ·have : fullP textG = false := h
   rw [fullG] at this
   cases this
  ·exact absurd lasG h
  ·have e : pT textG (4 * textG.size + 4) 3 0 = some (t', _) := ht
   rw [treeG] at e
   cases e
   exact ⟨h0, hv.trans semG⟩
 refine ⟨fun h => ?_, fun _ r2 hr2 r3 hr3 => ⟨fun _ => rfl, fun h23 r4 hr4 => ?_⟩⟩
 ·rw [hG.1, hG.2] at h
  cases h
 rw [Bool.or_eq_false_iff, bne_eq_false_iff_eq, bne_eq_false_iff_eq] at h23
 rcases hr2 with h | ⟨hsz, S, hS⟩
 ·exact absurd h23.1 h
 rcases hr3 with h | ⟨htz, T, hT⟩
 ·exact absurd h23.2 h
 have hRs : RdT s 3 0 S s.size := ⟨_, fun k hk => pT_mono hS hk⟩
 have y1 : (ByteArray.mk #[33, 40]).size = 2 := rfl
 have y2 : (ByteArray.mk #[41]).size = 1 := rfl
 have y3 : (ByteArray.mk #[71, 40]).size = 2 := rfl
 have y4 : (ByteArray.mk #[70, 33, 40]).size = 3 := rfl
 have y5 : (ByteArray.mk #[40]).size = 1 := rfl
 have y6 : (ByteArray.mk #[41, 85, 40]).size = 3 := rfl
 have y7 : (ByteArray.mk #[41, 124, 40, 40]).size = 4 := rfl
 have y8 : (ByteArray.mk #[41, 38, 88, 40, 40]).size = 5 := rfl
 have y9 : (ByteArray.mk #[41, 41, 41]).size = 3 := rfl
 refine ⟨by omega, (by simp only [ByteArray.size_append]; omega), fun r5 hr5 => ⟨fun b => b = false, ⟨fun h4 => ⟨fun h5 => ?_, fun _ => rfl⟩, fun _ => rfl⟩, ?_⟩⟩
 ·obtain ⟨v4, _⟩ := holds_val hr4 (eq_of_beq h4) hRs
  obtain ⟨v5, _⟩ := holds_val hr5 (eq_of_beq h5) (tl2 (t := t) (T := T) (K2 := 0) hS)
  rw [v4, v5]
  show (semT _ _ S 0 == !(semT _ _ S 0)) = false
  cases semT (w.fHead ++ w.fLoop) w.fHead.length S 0 <;> rfl
 rintro _ rfl
 refine ⟨fun h => (by cases h), fun _ => ⟨by omega, (by simp only [ByteArray.size_append]; omega), fun r6 hr6 => ⟨by omega, (by simp only [ByteArray.size_append]; omega), fun r7 hr7 => ⟨fun b => b = false, ⟨fun h4 => ⟨fun h5 => ?_, fun _ => rfl⟩, fun _ => rfl⟩, ?_⟩⟩⟩⟩
 ·obtain ⟨v4, _⟩ := holds_val hr6 (eq_of_beq h4) (tl3 (t := t) (T := T) (K2 := 0) hS)
  obtain ⟨v5, _⟩ := holds_val hr7 (eq_of_beq h5) (tl4 (t := t) (T := T) (K2 := 0) hS)
  rw [v4, v5]
  show ((!(semT (w.fHead ++ w.fLoop) w.fHead.length (.un (.no .nev) (.no S)) 0)) == semT (w.fHead ++ w.fLoop) w.fHead.length (.un (.no .nev) (.no S)) 0) = false
  cases semT (w.fHead ++ w.fLoop) w.fHead.length (.un (.no .nev) (.no S)) 0 <;> rfl
 rintro _ rfl
 refine ⟨fun h => (by cases h), fun _ => ⟨by omega, (by simp only [ByteArray.size_append]; omega), (by simp only [ByteArray.size_append]; omega), (by simp only [ByteArray.size_append]; omega), fun r8 hr8 => ⟨by omega, (by simp only [ByteArray.size_append]; omega), (by simp only [ByteArray.size_append]; omega), (by simp only [ByteArray.size_append]; omega), (by simp only [ByteArray.size_append]; omega), (by simp only [ByteArray.size_append]; omega), (by simp only [ByteArray.size_append]; omega), (by simp only [ByteArray.size_append]; omega), fun r9 hr9 => ⟨fun b => b = true, ⟨fun _ => rfl, fun h4 => ⟨fun _ => rfl, fun h5 => ?_⟩⟩, fun _ h => h⟩⟩⟩⟩
 rw [bne_eq_false_iff_eq] at h4 h5
 obtain ⟨v4, hl⟩ := holds_val hr8 h4 (tl5 hS hT)
 obtain ⟨v5, _⟩ := holds_val hr9 h5 (tl6 hS hT)
 obtain ⟨_, _, hne⟩ := lasE_ok hl
 rw [v4, v5, beq_iff_eq]
 have hn : (w.fHead ++ w.fLoop).length = w.fHead.length + w.fLoop.length := List.length_append
 exact tp_step (n := (w.fHead ++ w.fLoop).length) (h := w.fHead.length) (A := semT (w.fHead ++ w.fLoop) w.fHead.length S) (B := semT (w.fHead ++ w.fLoop) w.fHead.length T) (by omega) (by omega) (by omega)
end Go.Proofs.Ytapnmjeadbhffaa

