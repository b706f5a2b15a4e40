/- Lemmas towards the statement: mirrors of functions, and plain laws. No condition. -/
import Derived.Test.YtiinkohfldopbaaPackTransRow6

/- Contracts of package trans: where two differ. No condition. -/
namespace Go.Proofs.Ytiinkohfldopbaa
open Go.RowKit Go.MapKept
set_option linter.unusedSimpArgs false
set_option linter.unusedVariables false
set_option maxRecDepth 100000

def trDiffer_vc (t : ApiTrans) (u : ApiTrans) (Q : ((List Int) × Bool × Int) → Prop) : Prop :=
  t.fFirst.length ≤ 9223372036854775807 →
  t.fNext.length ≤ 9223372036854775807 →
  t.fSays.length ≤ 9223372036854775807 →
  t.fLast.length ≤ 9223372036854775807 →
  u.fFirst.length ≤ 9223372036854775807 →
  u.fNext.length ≤ 9223372036854775807 →
  u.fSays.length ≤ 9223372036854775807 →
  u.fLast.length ≤ 9223372036854775807 →
  (∃ (Inv : Int → Prop) (mu : Int → Nat), Inv 0 ∧
  ∀ (x22 : Int) , Inv x22 → (IfP (decide (x22 < (([t, u] : (List ApiTrans)).length : Int))) (∃ e, idx ([t, u] : (List ApiTrans)) x22 = some e ∧
  IfP ((trErr e) != 0) (Q ([], false, (trErr e))) ((Inv (wr (x22 + 1)) ∧ mu (wr (x22 + 1)) < mu x22))) (IfP ((t.fIn != u.fIn) || (t.fOut != u.fOut)) (Q ([], false, 3)) (∃ (Inv_2 : (List (TransPair × Int)) → (List (List Int)) → Prop) (mu_2 : (List (TransPair × Int)) → (List (List Int)) → Nat), Inv_2 ([] : List (TransPair × Int)) ([([] : (List Int))] : (List (List Int))) ∧
  ∀ (m3 : (List (TransPair × Int))) (l5 : (List (List Int))) , Inv_2 m3 l5 → (IfP (decide ((l5.length : Int) > 0)) (∃ J : (List (TransPair × Int)) → (List (List Int)) → Prop, (∃ e_2, idx l5 0 = some e_2 ∧
  (WholePre t e_2) ∧
  (WholePre u e_2) ∧
  IfP (!(decide ((wholeR t e_2) = (wholeR u e_2)))) (Q (e_2, true, 0)) ((RunPre t t.fStart e_2) ∧
  (RunPre u u.fStart e_2) ∧
  IfP (decide (((mget (TransPair.mk (runI t t.fStart e_2).2 (runI u u.fStart e_2).2) (mput (TransPair.mk (runI t t.fStart e_2).2 (runI u u.fStart e_2).2) (wr (((mget (TransPair.mk (runI t t.fStart e_2).2 (runI u u.fStart e_2).2) m3).getD (0 : Int)) + 1)) (mput (TransPair.mk (runI t t.fStart e_2).2 (runI u u.fStart e_2).2) ((mget (TransPair.mk (runI t t.fStart e_2).2 (runI u u.fStart e_2).2) m3).getD (0 : Int)) m3))).getD (0 : Int)) > 1)) (J (mput (TransPair.mk (runI t t.fStart e_2).2 (runI u u.fStart e_2).2) (wr (((mget (TransPair.mk (runI t t.fStart e_2).2 (runI u u.fStart e_2).2) m3).getD (0 : Int)) + 1)) (mput (TransPair.mk (runI t t.fStart e_2).2 (runI u u.fStart e_2).2) ((mget (TransPair.mk (runI t t.fStart e_2).2 (runI u u.fStart e_2).2) m3).getD (0 : Int)) m3)) l5) (∃ (Inv_3 : Int → (List (List Int)) → Prop) (mu_3 : Int → (List (List Int)) → Nat), Inv_3 0 l5 ∧
  ∀ (x96 : Int) (l5_3 : (List (List Int))) , Inv_3 x96 l5_3 → (IfP (decide (x96 < t.fIn)) ((e_2.length * 8 ≤ 140737488355328) ∧
  capOk (e_2).length (([x96] : (List Int)) : (List Int)).length 8 ∧
  capOk l5_3.length (([((e_2) ++ ([x96] : (List Int)))] : (List (List Int))) : (List (List Int))).length 24 ∧
  (Inv_3 (wr (x96 + 1)) (l5_3 ++ ([((e_2) ++ ([x96] : (List Int)))] : (List (List Int)))) ∧ mu_3 (wr (x96 + 1)) (l5_3 ++ ([((e_2) ++ ([x96] : (List Int)))] : (List (List Int)))) < mu_3 x96 l5_3)) (J (mput (TransPair.mk (runI t t.fStart e_2).2 (runI u u.fStart e_2).2) (wr (((mget (TransPair.mk (runI t t.fStart e_2).2 (runI u u.fStart e_2).2) m3).getD (0 : Int)) + 1)) (mput (TransPair.mk (runI t t.fStart e_2).2 (runI u u.fStart e_2).2) ((mget (TransPair.mk (runI t t.fStart e_2).2 (runI u u.fStart e_2).2) m3).getD (0 : Int)) m3)) l5_3))))) ∧
  (∀ (m3_2 : (List (TransPair × Int))) (l5_2 : (List (List Int))), J m3_2 l5_2 → (0 ≤ (1 : Int) ∧ (1 : Int) ≤ (l5_2.length : Int)) ∧
  (Inv_2 m3_2 (l5_2.drop (1 : Int).toNat) ∧ mu_2 m3_2 (l5_2.drop (1 : Int).toNat) < mu_2 m3 l5))) (Q ([], false, 0)))))))
set_option maxHeartbeats 2000000 in
theorem trDiffer_walk (t : ApiTrans) (u : ApiTrans) (Q : ((List Int) × Bool × Int) → Prop) (h : trDiffer_vc t u Q) : Ct 21 [.sv (.agg [I t.fIn, I t.fOut, I t.fStart, LS intT t.fFirst, LS (lsT intT) t.fNext, LS (lsT (lsT intT)) t.fSays, LS (lsT intT) t.fLast]), .sv (.agg [I u.fIn, I u.fOut, I u.fStart, LS intT u.fFirst, LS (lsT intT) u.fNext, LS (lsT (lsT intT)) u.fSays, LS (lsT intT) u.fLast])] [] Q (fun (r : ((List Int) × Bool × Int)) => .tup [.one (LS intT r.1), .one (B r.2.1), .one (I r.2.2)]) := by
  have ht := tab_ok
  refine Ct.body Try.func21 rfl rfl rfl rfl (fun c hn => ?_)
  unfold trDiffer_vc at h
  refine En.lenA 0 3 (by rfl) (by rfl) (fun hl => ?_)
  replace h := h hl
  clear hl
  refine En.lenA 0 4 (by rfl) (by rfl) (fun hl => ?_)
  replace h := h hl
  clear hl
  refine En.lenA 0 5 (by rfl) (by rfl) (fun hl => ?_)
  replace h := h hl
  clear hl
  refine En.lenA 0 6 (by rfl) (by rfl) (fun hl => ?_)
  replace h := h hl
  clear hl
  refine En.lenA 1 3 (by rfl) (by rfl) (fun hl => ?_)
  replace h := h hl
  clear hl
  refine En.lenA 1 4 (by rfl) (by rfl) (fun hl => ?_)
  replace h := h hl
  clear hl
  refine En.lenA 1 5 (by rfl) (by rfl) (fun hl => ?_)
  replace h := h hl
  clear hl
  refine En.lenA 1 6 (by rfl) (by rfl) (fun hl => ?_)
  replace h := h hl
  clear hl
  refine En.seq ?_
  refine En.region ?_
  refine WL.run ht hn 5 ⟨[(2, .sv (.one (.ptr 0 0))), (3, .sv (.one (.ptr 1 0)))], [.box [I t.fIn, I t.fOut, I t.fStart, LS intT t.fFirst, LS (lsT intT) t.fNext, LS (lsT (lsT intT)) t.fSays, LS (lsT intT) t.fLast] 33 false, .box [I u.fIn, I u.fOut, I u.fStart, LS intT u.fFirst, LS (lsT intT) u.fNext, LS (lsT (lsT intT)) u.fSays, LS (lsT intT) u.fLast] 33 false]⟩ (by kernel_rfl) ?_
  refine WL.nil ?_
  refine En.seq ?_
  refine En.seq ?_
  refine En.region ?_
  refine WL.run ht hn 2 ⟨[(2, .sv (.one (.ptr 0 0))), (3, .sv (.one (.ptr 1 0))), (18, .sv (.agg [I t.fIn, I t.fOut, I t.fStart, LS intT t.fFirst, LS (lsT intT) t.fNext, LS (lsT (lsT intT)) t.fSays, LS (lsT intT) t.fLast])), (19, .sv (.agg [I u.fIn, I u.fOut, I u.fStart, LS intT u.fFirst, LS (lsT intT) u.fNext, LS (lsT (lsT intT)) u.fSays, LS (lsT intT) u.fLast]))], [.box [I t.fIn, I t.fOut, I t.fStart, LS intT t.fFirst, LS (lsT intT) t.fNext, LS (lsT (lsT intT)) t.fSays, LS (lsT intT) t.fLast] 33 false, .box [I u.fIn, I u.fOut, I u.fStart, LS intT u.fFirst, LS (lsT intT) u.fNext, LS (lsT (lsT intT)) u.fSays, LS (lsT intT) u.fLast] 33 false]⟩ (by kernel_rfl) ?_
  refine WL.mt0 (K := []) (p := some (2, rowI 33 ApiTrans.ty ([t, u] : (List ApiTrans)))) hn (by rfl) (mt_lit (T := ApiTrans.ty) ([t, u] : (List ApiTrans)) (mt_bsl 2 (r := cellsOf ApiTrans.ty ([t, u] : (List ApiTrans))) ht rfl (by rfl) (by rfl) (by rfl) (by kernel_rfl) (by rfl)) (fun _ h => by cases h) (fun _ => rfl) (fun _ => rfl) (by rfl) (Nat.le_of_ble_eq_true rfl)) (by rfl) (by rfl) (by rfl) ?_
  refine WL.run ht hn 2 ⟨[(2, .sv (.one (.ptr 0 0))), (3, .sv (.one (.ptr 1 0))), (20, .sv (.one (.own 2))), (21, .sv (.one (I (([t, u] : (List ApiTrans)).length : Int)))), (22, .sv (.one (I 0)))], [.box [I t.fIn, I t.fOut, I t.fStart, LS intT t.fFirst, LS (lsT intT) t.fNext, LS (lsT (lsT intT)) t.fSays, LS (lsT intT) t.fLast] 33 false, .box [I u.fIn, I u.fOut, I u.fStart, LS intT u.fFirst, LS (lsT intT) u.fNext, LS (lsT (lsT intT)) u.fSays, LS (lsT intT) u.fLast] 33 false, rowI 33 ApiTrans.ty ([t, u] : (List ApiTrans))]⟩ (by kernel_rfl) ?_
  refine WL.nil ?_
  refine En.block ?_
  obtain ⟨Inv, mu, h0_3, hI_3⟩ := h
  refine En.loop (σ := Int) (fun zz => Inv zz) (fun zz => mu zz) (fun zz => ⟨[(2, .sv (.one (.ptr 0 0))), (3, .sv (.one (.ptr 1 0))), (20, .sv (.one (.own 2))), (21, .sv (.one (I (([t, u] : (List ApiTrans)).length : Int)))), (22, .sv (.one (I zz)))], [.box [I t.fIn, I t.fOut, I t.fStart, LS intT t.fFirst, LS (lsT intT) t.fNext, LS (lsT (lsT intT)) t.fSays, LS (lsT intT) t.fLast] 33 false, .box [I u.fIn, I u.fOut, I u.fStart, LS intT u.fFirst, LS (lsT intT) u.fNext, LS (lsT (lsT intT)) u.fSays, LS (lsT intT) u.fLast] 33 false, rowI 33 ApiTrans.ty ([t, u] : (List ApiTrans))]⟩) 0 h0_3 (sub_ok (by kernel_rfl)) ?_
  intro x22 h
  replace h := hI_3 _ h
  show En c ⟨[(2, .sv (.one (.ptr 0 0))), (3, .sv (.one (.ptr 1 0))), (20, .sv (.one (.own 2))), (21, .sv (.one (I (([t, u] : (List ApiTrans)).length : Int)))), (22, .sv (.one (I x22)))], [.box [I t.fIn, I t.fOut, I t.fStart, LS intT t.fFirst, LS (lsT intT) t.fNext, LS (lsT (lsT intT)) t.fSays, LS (lsT intT) t.fLast] 33 false, .box [I u.fIn, I u.fOut, I u.fStart, LS intT u.fFirst, LS (lsT intT) u.fNext, LS (lsT (lsT intT)) u.fSays, LS (lsT intT) u.fLast] 33 false, rowI 33 ApiTrans.ty ([t, u] : (List ApiTrans))]⟩ _
  refine En.seq ?_
  refine En.region ?_
  refine WL.run ht hn 1 ⟨[(2, .sv (.one (.ptr 0 0))), (3, .sv (.one (.ptr 1 0))), (20, .sv (.one (.own 2))), (21, .sv (.one (I (([t, u] : (List ApiTrans)).length : Int)))), (22, .sv (.one (I x22))), (23, .sv (.one (B (decide (x22 < (([t, u] : (List ApiTrans)).length : Int))))))], [.box [I t.fIn, I t.fOut, I t.fStart, LS intT t.fFirst, LS (lsT intT) t.fNext, LS (lsT (lsT intT)) t.fSays, LS (lsT intT) t.fLast] 33 false, .box [I u.fIn, I u.fOut, I u.fStart, LS intT u.fFirst, LS (lsT intT) u.fNext, LS (lsT (lsT intT)) u.fSays, LS (lsT intT) u.fLast] 33 false, rowI 33 ApiTrans.ty ([t, u] : (List ApiTrans))]⟩ (by kernel_rfl) ?_
  refine WL.nil ?_
  refine En.seq ?_
  refine En.cond (b := (decide (x22 < (([t, u] : (List ApiTrans)).length : Int)))) (by kernel_rfl) (fun hb => ?_) (fun hb => ?_)
  · replace h := h.1 hb
    refine En.skip ?_
    refine En.seq ?_
    refine En.block ?_
    refine En.seq ?_
    refine En.region ?_
    obtain ⟨e, he, h⟩ := h
    refine WL.val hn (by rfl) (val_indexO (T := ApiTrans.ty) (l := ([t, u] : (List ApiTrans))) (k := x22) ht rfl (by rfl) (by rfl) (by rfl) (by rfl) (by decide) (by rfl) (by rfl) (by rfl) he) (by rfl) ?_
    refine WL.val hn (by rfl) (val_loadO (T := ApiTrans.ty) (l := ([t, u] : (List ApiTrans))) (y := e) ht rfl (by rfl) (by rfl) (by rfl) (by rfl) (by rfl) (idx_some he).2.2 (by rfl)) (by rfl) ?_
    refine WL.run ht hn 2 ⟨[(2, .sv (.one (.ptr 0 0))), (3, .sv (.one (.ptr 1 0))), (8, .sv (.one (.ptr 3 0))), (20, .sv (.one (.own 2))), (21, .sv (.one (I (([t, u] : (List ApiTrans)).length : Int)))), (22, .sv (.one (I x22)))], [.box [I t.fIn, I t.fOut, I t.fStart, LS intT t.fFirst, LS (lsT intT) t.fNext, LS (lsT (lsT intT)) t.fSays, LS (lsT intT) t.fLast] 33 false, .box [I u.fIn, I u.fOut, I u.fStart, LS intT u.fFirst, LS (lsT intT) u.fNext, LS (lsT (lsT intT)) u.fSays, LS (lsT intT) u.fLast] 33 false, rowI 33 ApiTrans.ty ([t, u] : (List ApiTrans)), .box [I e.fIn, I e.fOut, I e.fStart, LS intT e.fFirst, LS (lsT intT) e.fNext, LS (lsT (lsT intT)) e.fSays, LS (lsT intT) e.fLast] 33 false]⟩ (by kernel_rfl) ?_
    refine WL.nil ?_
    refine En.seq ?_
    refine En.region ?_
    refine WL.run ht hn 1 ⟨[(2, .sv (.one (.ptr 0 0))), (3, .sv (.one (.ptr 1 0))), (20, .sv (.one (.own 2))), (21, .sv (.one (I (([t, u] : (List ApiTrans)).length : Int)))), (22, .sv (.one (I x22))), (26, .sv (.agg [I e.fIn, I e.fOut, I e.fStart, LS intT e.fFirst, LS (lsT intT) e.fNext, LS (lsT (lsT intT)) e.fSays, LS (lsT intT) e.fLast]))], [.box [I t.fIn, I t.fOut, I t.fStart, LS intT t.fFirst, LS (lsT intT) t.fNext, LS (lsT (lsT intT)) t.fSays, LS (lsT intT) t.fLast] 33 false, .box [I u.fIn, I u.fOut, I u.fStart, LS intT u.fFirst, LS (lsT intT) u.fNext, LS (lsT (lsT intT)) u.fSays, LS (lsT intT) u.fLast] 33 false, rowI 33 ApiTrans.ty ([t, u] : (List ApiTrans)), .gone]⟩ (by kernel_rfl) ?_
    refine WL.mt0 (K := []) (p := none) hn (by rfl) (mt_call (trCheck_ct e) en55 (caps := []) [] rfl (by rfl) (by kernel_rfl) (by kernel_rfl) (by rfl) (by rfl) (by rfl)) (by rfl) (by rfl) (by rfl) ?_
    refine WL.run ht hn 1 ⟨[(2, .sv (.one (.ptr 0 0))), (3, .sv (.one (.ptr 1 0))), (9, .sv (.one (I (trErr e)))), (20, .sv (.one (.own 2))), (21, .sv (.one (I (([t, u] : (List ApiTrans)).length : Int)))), (22, .sv (.one (I x22)))], [.box [I t.fIn, I t.fOut, I t.fStart, LS intT t.fFirst, LS (lsT intT) t.fNext, LS (lsT (lsT intT)) t.fSays, LS (lsT intT) t.fLast] 33 false, .box [I u.fIn, I u.fOut, I u.fStart, LS intT u.fFirst, LS (lsT intT) u.fNext, LS (lsT (lsT intT)) u.fSays, LS (lsT intT) u.fLast] 33 false, rowI 33 ApiTrans.ty ([t, u] : (List ApiTrans)), .gone]⟩ (by kernel_rfl) ?_
    refine WL.nil ?_
    refine En.seq ?_
    refine En.region ?_
    refine WL.run ht hn 2 ⟨[(2, .sv (.one (.ptr 0 0))), (3, .sv (.one (.ptr 1 0))), (9, .sv (.one (I (trErr e)))), (20, .sv (.one (.own 2))), (21, .sv (.one (I (([t, u] : (List ApiTrans)).length : Int)))), (22, .sv (.one (I x22))), (29, .sv (.one (B ((trErr e) != 0))))], [.box [I t.fIn, I t.fOut, I t.fStart, LS intT t.fFirst, LS (lsT intT) t.fNext, LS (lsT (lsT intT)) t.fSays, LS (lsT intT) t.fLast] 33 false, .box [I u.fIn, I u.fOut, I u.fStart, LS intT u.fFirst, LS (lsT intT) u.fNext, LS (lsT (lsT intT)) u.fSays, LS (lsT intT) u.fLast] 33 false, rowI 33 ApiTrans.ty ([t, u] : (List ApiTrans)), .gone]⟩ (by kernel_rfl) ?_
    refine WL.nil ?_
    refine En.cond (b := ((trErr e) != 0)) (by kernel_rfl) (fun hb => ?_) (fun hb => ?_)
    · replace h := h.1 hb
      refine En.seq ?_
      refine En.region ?_
      refine WL.run ht hn 4 ⟨[(4, .sv (.one (.v (.slice none 0 0)))), (5, .sv (.one (B false))), (6, .sv (.one (I (trErr e))))], [.gone, .gone, .gone, .gone]⟩ (by kernel_rfl) ?_
      refine WL.nil ?_
      refine En.ret ?_
      refine En.nilLS 4 intT (by rfl) ?_
      exact En.back ht ([], false, (trErr e)) h (by kernel_rfl) rfl
    · replace h := h.2 hb
      refine En.skip ?_
      refine En.region ?_
      refine WL.run ht hn 2 ⟨[(2, .sv (.one (.ptr 0 0))), (3, .sv (.one (.ptr 1 0))), (20, .sv (.one (.own 2))), (21, .sv (.one (I (([t, u] : (List ApiTrans)).length : Int)))), (22, .sv (.one (I (wr (x22 + 1)))))], [.box [I t.fIn, I t.fOut, I t.fStart, LS intT t.fFirst, LS (lsT intT) t.fNext, LS (lsT (lsT intT)) t.fSays, LS (lsT intT) t.fLast] 33 false, .box [I u.fIn, I u.fOut, I u.fStart, LS intT u.fFirst, LS (lsT intT) u.fNext, LS (lsT (lsT intT)) u.fSays, LS (lsT intT) u.fLast] 33 false, rowI 33 ApiTrans.ty ([t, u] : (List ApiTrans)), .gone]⟩ (by kernel_rfl) ?_
      refine WL.nil ?_
      exact En.at (I := fun zz => Inv zz ∧ mu zz < mu x22) (T := fun zz => ⟨[(2, .sv (.one (.ptr 0 0))), (3, .sv (.one (.ptr 1 0))), (20, .sv (.one (.own 2))), (21, .sv (.one (I (([t, u] : (List ApiTrans)).length : Int)))), (22, .sv (.one (I zz)))], [.box [I t.fIn, I t.fOut, I t.fStart, LS intT t.fFirst, LS (lsT intT) t.fNext, LS (lsT (lsT intT)) t.fSays, LS (lsT intT) t.fLast] 33 false, .box [I u.fIn, I u.fOut, I u.fStart, LS intT u.fFirst, LS (lsT intT) u.fNext, LS (lsT (lsT intT)) u.fSays, LS (lsT intT) u.fLast] 33 false, rowI 33 ApiTrans.ty ([t, u] : (List ApiTrans))]⟩) (wr (x22 + 1)) h (by kernel_rfl)
  · replace h := h.2 hb
    refine En.exit rfl ?_
    refine En.seq ?_
    refine En.seq ?_
    refine En.region ?_
    refine WL.run ht hn 6 ⟨[(2, .sv (.one (.ptr 0 0))), (3, .sv (.one (.ptr 1 0))), (37, .sv (.one (B (t.fIn != u.fIn))))], [.box [I t.fIn, I t.fOut, I t.fStart, LS intT t.fFirst, LS (lsT intT) t.fNext, LS (lsT (lsT intT)) t.fSays, LS (lsT intT) t.fLast] 33 false, .box [I u.fIn, I u.fOut, I u.fStart, LS intT u.fFirst, LS (lsT intT) u.fNext, LS (lsT (lsT intT)) u.fSays, LS (lsT intT) u.fLast] 33 false, .gone]⟩ (by kernel_rfl) ?_
    refine WL.thru ⟨[(2, .sv (.one (.ptr 0 0))), (3, .sv (.one (.ptr 1 0))), (43, .sv (.one (B ((t.fIn != u.fIn) || (t.fOut != u.fOut)))))], [.box [I t.fIn, I t.fOut, I t.fStart, LS intT t.fFirst, LS (lsT intT) t.fNext, LS (lsT (lsT intT)) t.fSays, LS (lsT intT) t.fLast] 33 false, .box [I u.fIn, I u.fOut, I u.fStart, LS intT u.fFirst, LS (lsT intT) u.fNext, LS (lsT (lsT intT)) u.fSays, LS (lsT intT) u.fLast] 33 false, .gone]⟩ ?_ ?_
    · refine splitB (t.fIn != u.fIn) (fun hb0 => ?_) (fun hb0 => ?_)
      · refine WL.setB 37 hb0 (by kernel_rfl) ?_
        refine WL.run ht hn 6 ⟨[(2, .sv (.one (.ptr 0 0))), (3, .sv (.one (.ptr 1 0))), (43, .sv (.one (B true)))], [.box [I t.fIn, I t.fOut, I t.fStart, LS intT t.fFirst, LS (lsT intT) t.fNext, LS (lsT (lsT intT)) t.fSays, LS (lsT intT) t.fLast] 33 false, .box [I u.fIn, I u.fOut, I u.fStart, LS intT u.fFirst, LS (lsT intT) u.fNext, LS (lsT (lsT intT)) u.fSays, LS (lsT intT) u.fLast] 33 false, .gone]⟩ (by kernel_rfl) ?_
        exact WL.nil (sub_ok (by simp only [hb0]; kernel_rfl))
      · refine WL.setB 37 hb0 (by kernel_rfl) ?_
        refine WL.run ht hn 6 ⟨[(2, .sv (.one (.ptr 0 0))), (3, .sv (.one (.ptr 1 0))), (43, .sv (.one (B (t.fOut != u.fOut))))], [.box [I t.fIn, I t.fOut, I t.fStart, LS intT t.fFirst, LS (lsT intT) t.fNext, LS (lsT (lsT intT)) t.fSays, LS (lsT intT) t.fLast] 33 false, .box [I u.fIn, I u.fOut, I u.fStart, LS intT u.fFirst, LS (lsT intT) u.fNext, LS (lsT (lsT intT)) u.fSays, LS (lsT intT) u.fLast] 33 false, .gone]⟩ (by kernel_rfl) ?_
        exact WL.nil (sub_ok (by simp only [hb0]; kernel_rfl))
    · refine En.cond (b := ((t.fIn != u.fIn) || (t.fOut != u.fOut))) (by kernel_rfl) (fun hb => ?_) (fun hb => ?_)
      · replace h := h.1 hb
        refine En.seq ?_
        refine En.region ?_
        refine WL.run ht hn 3 ⟨[(4, .sv (.one (.v (.slice none 0 0)))), (5, .sv (.one (B false))), (6, .sv (.one (I 3)))], [.gone, .gone, .gone]⟩ (by kernel_rfl) ?_
        refine WL.nil ?_
        refine En.ret ?_
        refine En.nilLS 4 intT (by rfl) ?_
        exact En.back ht ([], false, 3) h (by kernel_rfl) rfl
      · replace h := h.2 hb
        refine En.skip ?_
        refine En.seq ?_
        refine En.region ?_
        refine WL.mt0 (K := []) (p := some (3, mapI TransPair.enc intT ([] : List (TransPair × Int)))) hn (by rfl) (mt_makeMap TransPair.enc intT 3 rfl) (by rfl) (by rfl) (by rfl) ?_
        refine WL.run ht hn 1 ⟨[(2, .sv (.one (.ptr 0 0))), (3, .sv (.one (.ptr 1 0))), (10, .sv (.one (.own 3)))], [.box [I t.fIn, I t.fOut, I t.fStart, LS intT t.fFirst, LS (lsT intT) t.fNext, LS (lsT (lsT intT)) t.fSays, LS (lsT intT) t.fLast] 33 false, .box [I u.fIn, I u.fOut, I u.fStart, LS intT u.fFirst, LS (lsT intT) u.fNext, LS (lsT (lsT intT)) u.fSays, LS (lsT intT) u.fLast] 33 false, .gone, mapI TransPair.enc intT ([] : List (TransPair × Int))]⟩ (by kernel_rfl) ?_
        refine WL.nil ?_
        refine En.seq ?_
        refine En.seq ?_
        refine En.region ?_
        refine WL.mt0 (K := []) (p := some (4, rowI 3 intT ([] : (List Int)))) hn (by rfl) (mt_empty intT 4 ht rfl (by rfl) (by rfl) (by rfl)) (by rfl) (by rfl) (by rfl) ?_
        refine WL.seal (T := intT) (l := ([] : (List Int))) (e := 3) 4 rfl ?_
        refine WL.run ht hn 0 ⟨[(2, .sv (.one (.ptr 0 0))), (3, .sv (.one (.ptr 1 0))), (10, .sv (.one (.own 3))), (45, .sv (.one (LS intT ([] : (List Int)))))], [.box [I t.fIn, I t.fOut, I t.fStart, LS intT t.fFirst, LS (lsT intT) t.fNext, LS (lsT (lsT intT)) t.fSays, LS (lsT intT) t.fLast] 33 false, .box [I u.fIn, I u.fOut, I u.fStart, LS intT u.fFirst, LS (lsT intT) u.fNext, LS (lsT (lsT intT)) u.fSays, LS (lsT intT) u.fLast] 33 false, .gone, mapI TransPair.enc intT ([] : List (TransPair × Int)), .gone]⟩ (by kernel_rfl) ?_
        refine WL.mt0 (K := []) (p := some (5, rowI 23 (lsT intT) ([([] : (List Int))] : (List (List Int))))) hn (by rfl) (mt_lit (T := (lsT intT)) ([([] : (List Int))] : (List (List Int))) (mt_bsl 5 (r := cellsOf (lsT intT) ([([] : (List Int))] : (List (List Int)))) ht rfl (by rfl) (by rfl) (by rfl) (by kernel_rfl) (by rfl)) (fun _ h => by cases h) (fun _ => rfl) (fun _ => rfl) (by rfl) (Nat.le_of_ble_eq_true rfl)) (by rfl) (by rfl) (by rfl) ?_
        refine WL.run ht hn 1 ⟨[(2, .sv (.one (.ptr 0 0))), (3, .sv (.one (.ptr 1 0))), (10, .sv (.one (.own 3))), (11, .sv (.one (.own 5)))], [.box [I t.fIn, I t.fOut, I t.fStart, LS intT t.fFirst, LS (lsT intT) t.fNext, LS (lsT (lsT intT)) t.fSays, LS (lsT intT) t.fLast] 33 false, .box [I u.fIn, I u.fOut, I u.fStart, LS intT u.fFirst, LS (lsT intT) u.fNext, LS (lsT (lsT intT)) u.fSays, LS (lsT intT) u.fLast] 33 false, .gone, mapI TransPair.enc intT ([] : List (TransPair × Int)), .gone, rowI 23 (lsT intT) ([([] : (List Int))] : (List (List Int)))]⟩ (by kernel_rfl) ?_
        refine WL.nil ?_
        refine En.block ?_
        obtain ⟨Inv_2, mu_2, h0_2, hI_2⟩ := h
        refine En.loop (σ := (List (TransPair × Int)) × (List (List Int))) (fun zz => Inv_2 zz.1 zz.2) (fun zz => mu_2 zz.1 zz.2) (fun zz => ⟨[(2, .sv (.one (.ptr 0 0))), (3, .sv (.one (.ptr 1 0))), (10, .sv (.one (.own 3))), (11, .sv (.one (.own 5)))], [.box [I t.fIn, I t.fOut, I t.fStart, LS intT t.fFirst, LS (lsT intT) t.fNext, LS (lsT (lsT intT)) t.fSays, LS (lsT intT) t.fLast] 33 false, .box [I u.fIn, I u.fOut, I u.fStart, LS intT u.fFirst, LS (lsT intT) u.fNext, LS (lsT (lsT intT)) u.fSays, LS (lsT intT) u.fLast] 33 false, .gone, mapI TransPair.enc intT zz.1, .gone, rowI 23 (lsT intT) zz.2]⟩) (([] : List (TransPair × Int)), ([([] : (List Int))] : (List (List Int)))) h0_2 (sub_ok (by kernel_rfl)) ?_
        rintro ⟨m3, l5⟩ h
        replace h := hI_2 _ _ h
        show En c ⟨[(2, .sv (.one (.ptr 0 0))), (3, .sv (.one (.ptr 1 0))), (10, .sv (.one (.own 3))), (11, .sv (.one (.own 5)))], [.box [I t.fIn, I t.fOut, I t.fStart, LS intT t.fFirst, LS (lsT intT) t.fNext, LS (lsT (lsT intT)) t.fSays, LS (lsT intT) t.fLast] 33 false, .box [I u.fIn, I u.fOut, I u.fStart, LS intT u.fFirst, LS (lsT intT) u.fNext, LS (lsT (lsT intT)) u.fSays, LS (lsT intT) u.fLast] 33 false, .gone, mapI TransPair.enc intT m3, .gone, rowI 23 (lsT intT) l5]⟩ _
        refine En.seq ?_
        refine En.seq ?_
        refine En.region ?_
        refine WL.run ht hn 3 ⟨[(2, .sv (.one (.ptr 0 0))), (3, .sv (.one (.ptr 1 0))), (10, .sv (.one (.own 3))), (11, .sv (.one (.own 5))), (49, .sv (.one (B (decide ((l5.length : Int) > 0)))))], [.box [I t.fIn, I t.fOut, I t.fStart, LS intT t.fFirst, LS (lsT intT) t.fNext, LS (lsT (lsT intT)) t.fSays, LS (lsT intT) t.fLast] 33 false, .box [I u.fIn, I u.fOut, I u.fStart, LS intT u.fFirst, LS (lsT intT) u.fNext, LS (lsT (lsT intT)) u.fSays, LS (lsT intT) u.fLast] 33 false, .gone, mapI TransPair.enc intT m3, .gone, rowI 23 (lsT intT) l5]⟩ (by kernel_rfl) ?_
        refine WL.nil ?_
        refine En.cond (b := (decide ((l5.length : Int) > 0))) (by kernel_rfl) (fun hb => ?_) (fun hb => ?_)
        · replace h := h.1 hb
          refine En.skip ?_
          obtain ⟨J, h, hJ⟩ := h
          refine En.seqJ (σ := (List (TransPair × Int)) × (List (List Int))) (fun zz => J zz.1 zz.2) (fun zz => ⟨[(2, .sv (.one (.ptr 0 0))), (3, .sv (.one (.ptr 1 0))), (10, .sv (.one (.own 3))), (11, .sv (.one (.own 5)))], [.box [I t.fIn, I t.fOut, I t.fStart, LS intT t.fFirst, LS (lsT intT) t.fNext, LS (lsT (lsT intT)) t.fSays, LS (lsT intT) t.fLast] 33 false, .box [I u.fIn, I u.fOut, I u.fStart, LS intT u.fFirst, LS (lsT intT) u.fNext, LS (lsT (lsT intT)) u.fSays, LS (lsT intT) u.fLast] 33 false, .gone, mapI TransPair.enc intT zz.1, .gone, rowI 23 (lsT intT) zz.2]⟩) ?_ ?_
          · refine En.block ?_
            refine En.seq ?_
            refine En.region ?_
            refine WL.run ht hn 1 ⟨[(2, .sv (.one (.ptr 0 0))), (3, .sv (.one (.ptr 1 0))), (10, .sv (.one (.own 3))), (11, .sv (.one (.own 5))), (52, .sv (.one (.own 5)))], [.box [I t.fIn, I t.fOut, I t.fStart, LS intT t.fFirst, LS (lsT intT) t.fNext, LS (lsT (lsT intT)) t.fSays, LS (lsT intT) t.fLast] 33 false, .box [I u.fIn, I u.fOut, I u.fStart, LS intT u.fFirst, LS (lsT intT) u.fNext, LS (lsT (lsT intT)) u.fSays, LS (lsT intT) u.fLast] 33 false, .gone, mapI TransPair.enc intT m3, .gone, rowI 23 (lsT intT) l5]⟩ (by kernel_rfl) ?_
            obtain ⟨e_2, he_2, h⟩ := h
            refine WL.val hn (by rfl) (val_indexO (T := (lsT intT)) (l := l5) (k := 0) ht rfl (by rfl) (by rfl) (by rfl) (by rfl) (by decide) (by rfl) (by rfl) (by rfl) he_2) (by rfl) ?_
            refine WL.val hn (by rfl) (val_loadO (T := (lsT intT)) (l := l5) (y := e_2) ht rfl (by rfl) (by rfl) (by rfl) (by rfl) (by rfl) (idx_some he_2).2.2 (by rfl)) (by rfl) ?_
            refine WL.run ht hn 1 ⟨[(2, .sv (.one (.ptr 0 0))), (3, .sv (.one (.ptr 1 0))), (10, .sv (.one (.own 3))), (11, .sv (.one (.own 5))), (12, .sv (.one (LS intT e_2)))], [.box [I t.fIn, I t.fOut, I t.fStart, LS intT t.fFirst, LS (lsT intT) t.fNext, LS (lsT (lsT intT)) t.fSays, LS (lsT intT) t.fLast] 33 false, .box [I u.fIn, I u.fOut, I u.fStart, LS intT u.fFirst, LS (lsT intT) u.fNext, LS (lsT (lsT intT)) u.fSays, LS (lsT intT) u.fLast] 33 false, .gone, mapI TransPair.enc intT m3, .gone, rowI 23 (lsT intT) l5]⟩ (by kernel_rfl) ?_
            refine WL.nil ?_
            refine En.seq ?_
            refine En.seq ?_
            have hp_2 := h.1
            replace h := h.2
            have hp_3 := h.1
            replace h := h.2
            refine En.regionA ⟨[(2, .sv (.one (.ptr 0 0))), (3, .sv (.one (.ptr 1 0))), (10, .sv (.one (.own 3))), (11, .sv (.one (.own 5))), (12, .sv (.one (LS intT e_2)))], [.sv (.agg [I t.fIn, I t.fOut, I t.fStart, LS intT t.fFirst, LS (lsT intT) t.fNext, LS (lsT (lsT intT)) t.fSays, LS (lsT intT) t.fLast]), .sv (.one (LS intT e_2)), .sv (.one (LS intT (wholeR t e_2))), .sv (.agg [I u.fIn, I u.fOut, I u.fStart, LS intT u.fFirst, LS (lsT intT) u.fNext, LS (lsT (lsT intT)) u.fSays, LS (lsT intT) u.fLast]), .sv (.one (LS intT e_2)), .sv (.one (LS intT (wholeR u e_2))), .sv (.one (B (decide ((wholeR t e_2) = (wholeR u e_2))))), .sv (.one (B (!(decide ((wholeR t e_2) = (wholeR u e_2))))))], [⟨.box [I t.fIn, I t.fOut, I t.fStart, LS intT t.fFirst, LS (lsT intT) t.fNext, LS (lsT (lsT intT)) t.fSays, LS (lsT intT) t.fLast] 33 false, none, none, none⟩, ⟨.box [I u.fIn, I u.fOut, I u.fStart, LS intT u.fFirst, LS (lsT intT) u.fNext, LS (lsT (lsT intT)) u.fSays, LS (lsT intT) u.fLast] 33 false, none, none, none⟩, ⟨.gone, none, none, none⟩, ⟨mapI TransPair.enc intT m3, none, none, none⟩, ⟨.gone, none, none, none⟩, ⟨rowI 23 (lsT intT) l5, none, none, none⟩]⟩ ⟨[(2, .sv (.one (.ptr 0 0))), (3, .sv (.one (.ptr 1 0))), (10, .sv (.one (.own 3))), (11, .sv (.one (.own 5))), (12, .sv (.one (LS intT e_2))), (62, .sv (.one (B (!(decide ((wholeR t e_2) = (wholeR u e_2)))))))], [.box [I t.fIn, I t.fOut, I t.fStart, LS intT t.fFirst, LS (lsT intT) t.fNext, LS (lsT (lsT intT)) t.fSays, LS (lsT intT) t.fLast] 33 false, .box [I u.fIn, I u.fOut, I u.fStart, LS intT u.fFirst, LS (lsT intT) u.fNext, LS (lsT (lsT intT)) u.fSays, LS (lsT intT) u.fLast] 33 false, .gone, mapI TransPair.enc intT m3, .gone, rowI 23 (lsT intT) l5]⟩ (by kernel_rfl) hn (by kernel_rfl) (by rfl) (by kernel_rfl) ?_ (by kernel_rfl) ?_
            · exact ⟨.mt ⟨[(2, .sv (.one (.ptr 0 0)))], [.box [I t.fIn, I t.fOut, I t.fStart, LS intT t.fFirst, LS (lsT intT) t.fNext, LS (lsT (lsT intT)) t.fSays, LS (lsT intT) t.fLast] 33 false]⟩ [] none (by kernel_rfl) (by rfl) (mt_ev ht (by kernel_rfl)) rfl rfl rfl rfl,
    .mt ⟨[(12, .sv (.one (LS intT e_2)))], []⟩ [] none (by kernel_rfl) (by rfl) (mt_ev ht (by kernel_rfl)) rfl rfl rfl rfl,
    .mt ⟨[(55, .sv (.agg [I t.fIn, I t.fOut, I t.fStart, LS intT t.fFirst, LS (lsT intT) t.fNext, LS (lsT (lsT intT)) t.fSays, LS (lsT intT) t.fLast])), (56, .sv (.one (LS intT e_2)))], []⟩ [] none (by kernel_rfl) (by rfl) (mt_call (trWhole_ct t e_2 hp_2) en61 (caps := []) [] rfl (by rfl) (by kernel_rfl) (by kernel_rfl) (by rfl) (by rfl) (by rfl)) rfl rfl rfl rfl,
    .mt ⟨[(3, .sv (.one (.ptr 1 0)))], [.gone, .box [I u.fIn, I u.fOut, I u.fStart, LS intT u.fFirst, LS (lsT intT) u.fNext, LS (lsT (lsT intT)) u.fSays, LS (lsT intT) u.fLast] 33 false]⟩ [] none (by kernel_rfl) (by rfl) (mt_ev ht (by kernel_rfl)) rfl rfl rfl rfl,
    .mt ⟨[(12, .sv (.one (LS intT e_2)))], []⟩ [] none (by kernel_rfl) (by rfl) (mt_ev ht (by kernel_rfl)) rfl rfl rfl rfl,
    .mt ⟨[(58, .sv (.agg [I u.fIn, I u.fOut, I u.fStart, LS intT u.fFirst, LS (lsT intT) u.fNext, LS (lsT (lsT intT)) u.fSays, LS (lsT intT) u.fLast])), (59, .sv (.one (LS intT e_2)))], []⟩ [] none (by kernel_rfl) (by rfl) (mt_call (trWhole_ct u e_2 hp_3) en61 (caps := []) [] rfl (by rfl) (by kernel_rfl) (by kernel_rfl) (by rfl) (by rfl) (by rfl)) rfl rfl rfl rfl,
    .mt ⟨[(57, .sv (.one (LS intT (wholeR t e_2)))), (60, .sv (.one (LS intT (wholeR u e_2))))], []⟩ [] none (by kernel_rfl) (by rfl) (mt_call (equalI_ct (wholeR t e_2) (wholeR u e_2)) en60 (caps := []) [] rfl (by rfl) (by kernel_rfl) (by kernel_rfl) (by rfl) (by rfl) (by rfl)) rfl rfl rfl rfl,
    .mt ⟨[(61, .sv (.one (B (decide ((wholeR t e_2) = (wholeR u e_2))))))], []⟩ [] none (by kernel_rfl) (by rfl) (mt_ev ht (by kernel_rfl)) rfl rfl rfl rfl,
    trivial⟩
            · refine En.cond (b := (!(decide ((wholeR t e_2) = (wholeR u e_2))))) (by kernel_rfl) (fun hb => ?_) (fun hb => ?_)
              · replace h := h.1 hb
                refine En.seq ?_
                refine En.region ?_
                refine WL.run ht hn 4 ⟨[(4, .sv (.one (LS intT e_2))), (5, .sv (.one (B true))), (6, .sv (.one (I 0)))], [.gone, .gone, .gone, .gone, .gone, .gone]⟩ (by kernel_rfl) ?_
                refine WL.nil ?_
                refine En.ret ?_
                exact En.back ht (e_2, true, 0) h (by kernel_rfl) rfl
              · replace h := h.2 hb
                refine En.skip ?_
                refine En.seq ?_
                refine En.region ?_
                refine WL.run ht hn 4 ⟨[(2, .sv (.one (.ptr 0 0))), (3, .sv (.one (.ptr 1 0))), (10, .sv (.one (.own 3))), (11, .sv (.one (.own 5))), (12, .sv (.one (LS intT e_2))), (65, .sv (.agg [I t.fIn, I t.fOut, I t.fStart, LS intT t.fFirst, LS (lsT intT) t.fNext, LS (lsT (lsT intT)) t.fSays, LS (lsT intT) t.fLast])), (67, .sv (.one (I t.fStart))), (68, .sv (.one (LS intT e_2)))], [.box [I t.fIn, I t.fOut, I t.fStart, LS intT t.fFirst, LS (lsT intT) t.fNext, LS (lsT (lsT intT)) t.fSays, LS (lsT intT) t.fLast] 33 false, .box [I u.fIn, I u.fOut, I u.fStart, LS intT u.fFirst, LS (lsT intT) u.fNext, LS (lsT (lsT intT)) u.fSays, LS (lsT intT) u.fLast] 33 false, .gone, mapI TransPair.enc intT m3, .gone, rowI 23 (lsT intT) l5]⟩ (by kernel_rfl) ?_
                have hp := h.1
                replace h := h.2
                refine WL.mt0 (K := []) (p := none) hn (by rfl) (mt_call (trRun_ct t t.fStart e_2 hp) en58 (caps := []) [] rfl (by rfl) (by kernel_rfl) (by kernel_rfl) (by rfl) (by rfl) (by rfl)) (by rfl) (by rfl) (by rfl) ?_
                refine WL.run ht hn 5 ⟨[(2, .sv (.one (.ptr 0 0))), (3, .sv (.one (.ptr 1 0))), (10, .sv (.one (.own 3))), (11, .sv (.one (.own 5))), (12, .sv (.one (LS intT e_2))), (14, .sv (.one (I (runI t t.fStart e_2).2)))], [.box [I t.fIn, I t.fOut, I t.fStart, LS intT t.fFirst, LS (lsT intT) t.fNext, LS (lsT (lsT intT)) t.fSays, LS (lsT intT) t.fLast] 33 false, .box [I u.fIn, I u.fOut, I u.fStart, LS intT u.fFirst, LS (lsT intT) u.fNext, LS (lsT (lsT intT)) u.fSays, LS (lsT intT) u.fLast] 33 false, .gone, mapI TransPair.enc intT m3, .gone, rowI 23 (lsT intT) l5]⟩ (by kernel_rfl) ?_
                refine WL.nil ?_
                refine En.seq ?_
                refine En.region ?_
                refine WL.run ht hn 4 ⟨[(2, .sv (.one (.ptr 0 0))), (3, .sv (.one (.ptr 1 0))), (10, .sv (.one (.own 3))), (11, .sv (.one (.own 5))), (12, .sv (.one (LS intT e_2))), (14, .sv (.one (I (runI t t.fStart e_2).2))), (73, .sv (.agg [I u.fIn, I u.fOut, I u.fStart, LS intT u.fFirst, LS (lsT intT) u.fNext, LS (lsT (lsT intT)) u.fSays, LS (lsT intT) u.fLast])), (75, .sv (.one (I u.fStart))), (76, .sv (.one (LS intT e_2)))], [.box [I t.fIn, I t.fOut, I t.fStart, LS intT t.fFirst, LS (lsT intT) t.fNext, LS (lsT (lsT intT)) t.fSays, LS (lsT intT) t.fLast] 33 false, .box [I u.fIn, I u.fOut, I u.fStart, LS intT u.fFirst, LS (lsT intT) u.fNext, LS (lsT (lsT intT)) u.fSays, LS (lsT intT) u.fLast] 33 false, .gone, mapI TransPair.enc intT m3, .gone, rowI 23 (lsT intT) l5]⟩ (by kernel_rfl) ?_
                have hp := h.1
                replace h := h.2
                refine WL.mt0 (K := []) (p := none) hn (by rfl) (mt_call (trRun_ct u u.fStart e_2 hp) en58 (caps := []) [] rfl (by rfl) (by kernel_rfl) (by kernel_rfl) (by rfl) (by rfl) (by rfl)) (by rfl) (by rfl) (by rfl) ?_
                refine WL.run ht hn 5 ⟨[(2, .sv (.one (.ptr 0 0))), (3, .sv (.one (.ptr 1 0))), (10, .sv (.one (.own 3))), (11, .sv (.one (.own 5))), (12, .sv (.one (LS intT e_2))), (14, .sv (.one (I (runI t t.fStart e_2).2))), (16, .sv (.one (I (runI u u.fStart e_2).2)))], [.box [I t.fIn, I t.fOut, I t.fStart, LS intT t.fFirst, LS (lsT intT) t.fNext, LS (lsT (lsT intT)) t.fSays, LS (lsT intT) t.fLast] 33 false, .box [I u.fIn, I u.fOut, I u.fStart, LS intT u.fFirst, LS (lsT intT) u.fNext, LS (lsT (lsT intT)) u.fSays, LS (lsT intT) u.fLast] 33 false, .gone, mapI TransPair.enc intT m3, .gone, rowI 23 (lsT intT) l5]⟩ (by kernel_rfl) ?_
                refine WL.nil ?_
                refine En.seq ?_
                refine En.seq ?_
                refine En.openM 3 (by rfl) (fun es ck => ?_)
                refine En.regionT ⟨[(2, .sv (.one (.ptr 0 0))), (3, .sv (.one (.ptr 1 0))), (10, .sv (.one (.own 3))), (11, .sv (.one (.own 5))), (12, .sv (.one (LS intT e_2))), (14, .sv (.one (I (runI t t.fStart e_2).2))), (16, .sv (.one (I (runI u u.fStart e_2).2)))], [.sv (.one (.own 3)), .sv (.one (I (runI t t.fStart e_2).2)), .sv (.one (I (runI u u.fStart e_2).2)), .sv (.agg [I (runI t t.fStart e_2).2, I (runI u u.fStart e_2).2]), .sv (.one (I ((mget (TransPair.mk (runI t t.fStart e_2).2 (runI u u.fStart e_2).2) m3).getD (0 : Int)))), .sv (.one (I (wr (((mget (TransPair.mk (runI t t.fStart e_2).2 (runI u u.fStart e_2).2) m3).getD (0 : Int)) + 1)))), .tup [.one (I ((mget (TransPair.mk (runI t t.fStart e_2).2 (runI u u.fStart e_2).2) m3).getD (0 : Int))), .one (I (((stampX (TransPair.mk (runI t t.fStart e_2).2 (runI u u.fStart e_2).2) m3 es ck) : Nat) : Int))], .sv (.one (I (((stampX (TransPair.mk (runI t t.fStart e_2).2 (runI u u.fStart e_2).2) m3 es ck) : Nat) : Int)))], [⟨.box [I t.fIn, I t.fOut, I t.fStart, LS intT t.fFirst, LS (lsT intT) t.fNext, LS (lsT (lsT intT)) t.fSays, LS (lsT intT) t.fLast] 33 false, none, none, none⟩, ⟨.box [I u.fIn, I u.fOut, I u.fStart, LS intT u.fFirst, LS (lsT intT) u.fNext, LS (lsT (lsT intT)) u.fSays, LS (lsT intT) u.fLast] 33 false, none, none, none⟩, ⟨.gone, none, none, none⟩, ⟨mapX TransPair.enc intT m3 es ck, none, none, some (6, mapB TransPair.enc intT (mput (TransPair.mk (runI t t.fStart e_2).2 (runI u u.fStart e_2).2) ((mget (TransPair.mk (runI t t.fStart e_2).2 (runI u u.fStart e_2).2) m3).getD (0 : Int)) m3) (TransPair.mk (runI t t.fStart e_2).2 (runI u u.fStart e_2).2) (stampX (TransPair.mk (runI t t.fStart e_2).2 (runI u u.fStart e_2).2) m3 es ck))⟩, ⟨.gone, none, none, none⟩, ⟨rowI 23 (lsT intT) l5, none, none, none⟩]⟩ 8 ⟨[(2, .sv (.one (.ptr 0 0))), (3, .sv (.one (.ptr 1 0))), (10, .sv (.one (.own 3))), (11, .sv (.one (.own 5))), (12, .sv (.one (LS intT e_2))), (14, .sv (.one (I (runI t t.fStart e_2).2))), (16, .sv (.one (I (runI u u.fStart e_2).2))), (80, .sv (.one (.own 3))), (85, .sv (.one (I (wr (((mget (TransPair.mk (runI t t.fStart e_2).2 (runI u u.fStart e_2).2) m3).getD (0 : Int)) + 1))))), (87, .sv (.one (I (((stampX (TransPair.mk (runI t t.fStart e_2).2 (runI u u.fStart e_2).2) m3 es ck) : Nat) : Int))))], [.box [I t.fIn, I t.fOut, I t.fStart, LS intT t.fFirst, LS (lsT intT) t.fNext, LS (lsT (lsT intT)) t.fSays, LS (lsT intT) t.fLast] 33 false, .box [I u.fIn, I u.fOut, I u.fStart, LS intT u.fFirst, LS (lsT intT) u.fNext, LS (lsT (lsT intT)) u.fSays, LS (lsT intT) u.fLast] 33 false, .gone, mapB TransPair.enc intT (mput (TransPair.mk (runI t t.fStart e_2).2 (runI u u.fStart e_2).2) ((mget (TransPair.mk (runI t t.fStart e_2).2 (runI u u.fStart e_2).2) m3).getD (0 : Int)) m3) (TransPair.mk (runI t t.fStart e_2).2 (runI u u.fStart e_2).2) (stampX (TransPair.mk (runI t t.fStart e_2).2 (runI u u.fStart e_2).2) m3 es ck), .gone, rowI 23 (lsT intT) l5]⟩ (by kernel_rfl) hn (by kernel_rfl) (by kernel_rfl) (by kernel_rfl) (by rfl) (by kernel_rfl) ?_ (by kernel_rfl) ?_
                · exact ⟨.mt ⟨[(10, .sv (.one (.own 3)))], []⟩ [] none (by kernel_rfl) (by rfl) (mt_ev ht (by kernel_rfl)) rfl rfl rfl rfl,
    .mt ⟨[(14, .sv (.one (I (runI t t.fStart e_2).2)))], []⟩ [] none (by kernel_rfl) (by rfl) (mt_ev ht (by kernel_rfl)) rfl rfl rfl rfl,
    .mt ⟨[(16, .sv (.one (I (runI u u.fStart e_2).2)))], []⟩ [] none (by kernel_rfl) (by rfl) (mt_ev ht (by kernel_rfl)) rfl rfl rfl rfl,
    .mt ⟨[(81, .sv (.one (I (runI t t.fStart e_2).2))), (82, .sv (.one (I (runI u u.fStart e_2).2)))], []⟩ [] none (by kernel_rfl) (by rfl) (mt_ev ht (by kernel_rfl)) rfl rfl rfl rfl,
    .two 6 ⟨[(80, .sv (.one (.own 3))), (83, .sv (.agg [I (runI t t.fStart e_2).2, I (runI u u.fStart e_2).2]))], [.gone, .gone, .gone, mapX TransPair.enc intT m3 es ck]⟩ ⟨[(80, .sv (.one (.own 3))), (83, .sv (.agg [I (runI t t.fStart e_2).2, I (runI u u.fStart e_2).2]))], [.gone, .gone, .gone, mapB TransPair.enc intT (mput (TransPair.mk (runI t t.fStart e_2).2 (runI u u.fStart e_2).2) ((mget (TransPair.mk (runI t t.fStart e_2).2 (runI u u.fStart e_2).2) m3).getD (0 : Int)) m3) (TransPair.mk (runI t t.fStart e_2).2 (runI u u.fStart e_2).2) (stampX (TransPair.mk (runI t t.fStart e_2).2 (runI u u.fStart e_2).2) m3 es ck)]⟩ (by kernel_rfl) (by kernel_rfl) (by rfl) (by rfl) (mt_val (val_lookup (T := intT) (D := m3) TransPair.keyLaw (k := (TransPair.mk (runI t t.fStart e_2).2 (runI u u.fStart e_2).2)) (ok := false) (0 : Int) (zv := (.int .i64 0)) rfl Try.underlying111 (fun _ => by kernel_rfl) (fun _ => ⟨rfl, trivial⟩) (mapXAs TransPair.enc intT m3 es ck) (by rfl) (by rfl) (by rfl) (fun _ => rfl))) (mt_lookupB (T := intT) (D := m3) (b := (stampX (TransPair.mk (runI t t.fStart e_2).2 (runI u u.fStart e_2).2) m3 es ck)) TransPair.keyLaw (k := (TransPair.mk (runI t t.fStart e_2).2 (runI u u.fStart e_2).2)) (0 : Int) (zv := (.int .i64 0)) rfl Try.underlying111 (fun _ => by kernel_rfl) (fun _ => ⟨rfl, trivial⟩) (by rfl) (by rfl) (by rfl) (fun _ => rfl)) rfl rfl rfl,
    .mt ⟨[(84, .sv (.one (I ((mget (TransPair.mk (runI t t.fStart e_2).2 (runI u u.fStart e_2).2) m3).getD (0 : Int)))))], []⟩ [] none (by kernel_rfl) (by rfl) (mt_ev ht (by kernel_rfl)) rfl rfl rfl rfl,
    .me ⟨[(80, .sv (.one (.own 3))), (83, .sv (.agg [I (runI t t.fStart e_2).2, I (runI u u.fStart e_2).2]))], [.gone, .gone, .gone, mapX TransPair.enc intT m3 es ck]⟩ [(3, mapB TransPair.enc intT (mput (TransPair.mk (runI t t.fStart e_2).2 (runI u u.fStart e_2).2) ((mget (TransPair.mk (runI t t.fStart e_2).2 (runI u u.fStart e_2).2) m3).getD (0 : Int)) m3) (TransPair.mk (runI t t.fStart e_2).2 (runI u u.fStart e_2).2) (stampX (TransPair.mk (runI t t.fStart e_2).2 (runI u u.fStart e_2).2) m3 es ck))] (by kernel_rfl) (by rfl) (me_mapEntry (T := intT) (D := m3) (es := es) (ck := ck) TransPair.keyLaw (k := (TransPair.mk (runI t t.fStart e_2).2 (runI u u.fStart e_2).2)) (0 : Int) (zv := (.int .i64 0)) rfl Try.underlying111 (fun _ => by kernel_rfl) (fun _ => ⟨rfl, trivial⟩) (by rfl) (by rfl) (by rfl) (fun _ => rfl)) rfl rfl rfl ⟨⟨_, rfl, rfl, rfl, rfl, rfl⟩, trivial⟩,
    .mt ⟨[(86, .tup [.one (I ((mget (TransPair.mk (runI t t.fStart e_2).2 (runI u u.fStart e_2).2) m3).getD (0 : Int))), .one (I (((stampX (TransPair.mk (runI t t.fStart e_2).2 (runI u u.fStart e_2).2) m3 es ck) : Nat) : Int))])], []⟩ [] none (by kernel_rfl) (by rfl) (mt_ev ht (by kernel_rfl)) rfl rfl rfl rfl,
    trivial⟩
                · refine WL.entryStore (T := intT) (k := (TransPair.mk (runI t t.fStart e_2).2 (runI u u.fStart e_2).2)) (y := (wr (((mget (TransPair.mk (runI t t.fStart e_2).2 (runI u u.fStart e_2).2) m3).getD (0 : Int)) + 1))) hn (by rfl) rfl (by rfl) (by rfl) (by rfl) (by rfl) (by rfl) (by rfl) ?_
                  refine WL.nil ?_
                  refine En.seq ?_
                  refine En.region ?_
                  refine WL.run ht hn 4 ⟨[(2, .sv (.one (.ptr 0 0))), (3, .sv (.one (.ptr 1 0))), (10, .sv (.one (.own 3))), (11, .sv (.one (.own 5))), (12, .sv (.one (LS intT e_2))), (88, .sv (.one (.own 3))), (91, .sv (.agg [I (runI t t.fStart e_2).2, I (runI u u.fStart e_2).2]))], [.box [I t.fIn, I t.fOut, I t.fStart, LS intT t.fFirst, LS (lsT intT) t.fNext, LS (lsT (lsT intT)) t.fSays, LS (lsT intT) t.fLast] 33 false, .box [I u.fIn, I u.fOut, I u.fStart, LS intT u.fFirst, LS (lsT intT) u.fNext, LS (lsT (lsT intT)) u.fSays, LS (lsT intT) u.fLast] 33 false, .gone, mapI TransPair.enc intT (mput (TransPair.mk (runI t t.fStart e_2).2 (runI u u.fStart e_2).2) (wr (((mget (TransPair.mk (runI t t.fStart e_2).2 (runI u u.fStart e_2).2) m3).getD (0 : Int)) + 1)) (mput (TransPair.mk (runI t t.fStart e_2).2 (runI u u.fStart e_2).2) ((mget (TransPair.mk (runI t t.fStart e_2).2 (runI u u.fStart e_2).2) m3).getD (0 : Int)) m3)), .gone, rowI 23 (lsT intT) l5]⟩ (by kernel_rfl) ?_
                  refine WL.val hn (by rfl) (val_lookup (T := intT) (D := (mput (TransPair.mk (runI t t.fStart e_2).2 (runI u u.fStart e_2).2) (wr (((mget (TransPair.mk (runI t t.fStart e_2).2 (runI u u.fStart e_2).2) m3).getD (0 : Int)) + 1)) (mput (TransPair.mk (runI t t.fStart e_2).2 (runI u u.fStart e_2).2) ((mget (TransPair.mk (runI t t.fStart e_2).2 (runI u u.fStart e_2).2) m3).getD (0 : Int)) m3))) TransPair.keyLaw (k := (TransPair.mk (runI t t.fStart e_2).2 (runI u u.fStart e_2).2)) (ok := false) (0 : Int) (zv := (.int .i64 0)) rfl Try.underlying111 (fun _ => by kernel_rfl) (fun _ => ⟨rfl, trivial⟩) (mapAs TransPair.enc intT (mput (TransPair.mk (runI t t.fStart e_2).2 (runI u u.fStart e_2).2) (wr (((mget (TransPair.mk (runI t t.fStart e_2).2 (runI u u.fStart e_2).2) m3).getD (0 : Int)) + 1)) (mput (TransPair.mk (runI t t.fStart e_2).2 (runI u u.fStart e_2).2) ((mget (TransPair.mk (runI t t.fStart e_2).2 (runI u u.fStart e_2).2) m3).getD (0 : Int)) m3))) (by rfl) (by rfl) (by rfl) (fun _ => rfl)) (by rfl) ?_
                  refine WL.run ht hn 1 ⟨[(2, .sv (.one (.ptr 0 0))), (3, .sv (.one (.ptr 1 0))), (10, .sv (.one (.own 3))), (11, .sv (.one (.own 5))), (12, .sv (.one (LS intT e_2))), (93, .sv (.one (B (decide (((mget (TransPair.mk (runI t t.fStart e_2).2 (runI u u.fStart e_2).2) (mput (TransPair.mk (runI t t.fStart e_2).2 (runI u u.fStart e_2).2) (wr (((mget (TransPair.mk (runI t t.fStart e_2).2 (runI u u.fStart e_2).2) m3).getD (0 : Int)) + 1)) (mput (TransPair.mk (runI t t.fStart e_2).2 (runI u u.fStart e_2).2) ((mget (TransPair.mk (runI t t.fStart e_2).2 (runI u u.fStart e_2).2) m3).getD (0 : Int)) m3))).getD (0 : Int)) > 1)))))], [.box [I t.fIn, I t.fOut, I t.fStart, LS intT t.fFirst, LS (lsT intT) t.fNext, LS (lsT (lsT intT)) t.fSays, LS (lsT intT) t.fLast] 33 false, .box [I u.fIn, I u.fOut, I u.fStart, LS intT u.fFirst, LS (lsT intT) u.fNext, LS (lsT (lsT intT)) u.fSays, LS (lsT intT) u.fLast] 33 false, .gone, mapI TransPair.enc intT (mput (TransPair.mk (runI t t.fStart e_2).2 (runI u u.fStart e_2).2) (wr (((mget (TransPair.mk (runI t t.fStart e_2).2 (runI u u.fStart e_2).2) m3).getD (0 : Int)) + 1)) (mput (TransPair.mk (runI t t.fStart e_2).2 (runI u u.fStart e_2).2) ((mget (TransPair.mk (runI t t.fStart e_2).2 (runI u u.fStart e_2).2) m3).getD (0 : Int)) m3)), .gone, rowI 23 (lsT intT) l5]⟩ (by kernel_rfl) ?_
                  refine WL.nil ?_
                  refine En.cond (b := (decide (((mget (TransPair.mk (runI t t.fStart e_2).2 (runI u u.fStart e_2).2) (mput (TransPair.mk (runI t t.fStart e_2).2 (runI u u.fStart e_2).2) (wr (((mget (TransPair.mk (runI t t.fStart e_2).2 (runI u u.fStart e_2).2) m3).getD (0 : Int)) + 1)) (mput (TransPair.mk (runI t t.fStart e_2).2 (runI u u.fStart e_2).2) ((mget (TransPair.mk (runI t t.fStart e_2).2 (runI u u.fStart e_2).2) m3).getD (0 : Int)) m3))).getD (0 : Int)) > 1))) (by kernel_rfl) (fun hb => ?_) (fun hb => ?_)
                  · replace h := h.1 hb
                    refine En.exit rfl ?_
                    exact En.at (I := fun zz => J zz.1 zz.2) (T := fun zz => ⟨[(2, .sv (.one (.ptr 0 0))), (3, .sv (.one (.ptr 1 0))), (10, .sv (.one (.own 3))), (11, .sv (.one (.own 5)))], [.box [I t.fIn, I t.fOut, I t.fStart, LS intT t.fFirst, LS (lsT intT) t.fNext, LS (lsT (lsT intT)) t.fSays, LS (lsT intT) t.fLast] 33 false, .box [I u.fIn, I u.fOut, I u.fStart, LS intT u.fFirst, LS (lsT intT) u.fNext, LS (lsT (lsT intT)) u.fSays, LS (lsT intT) u.fLast] 33 false, .gone, mapI TransPair.enc intT zz.1, .gone, rowI 23 (lsT intT) zz.2]⟩) ((mput (TransPair.mk (runI t t.fStart e_2).2 (runI u u.fStart e_2).2) (wr (((mget (TransPair.mk (runI t t.fStart e_2).2 (runI u u.fStart e_2).2) m3).getD (0 : Int)) + 1)) (mput (TransPair.mk (runI t t.fStart e_2).2 (runI u u.fStart e_2).2) ((mget (TransPair.mk (runI t t.fStart e_2).2 (runI u u.fStart e_2).2) m3).getD (0 : Int)) m3)), l5) h (by kernel_rfl)
                  · replace h := h.2 hb
                    refine En.skip ?_
                    refine En.seq ?_
                    refine En.region ?_
                    refine WL.run ht hn 3 ⟨[(2, .sv (.one (.ptr 0 0))), (3, .sv (.one (.ptr 1 0))), (10, .sv (.one (.own 3))), (11, .sv (.one (.own 5))), (12, .sv (.one (LS intT e_2))), (95, .sv (.one (I t.fIn))), (96, .sv (.one (I 0)))], [.box [I t.fIn, I t.fOut, I t.fStart, LS intT t.fFirst, LS (lsT intT) t.fNext, LS (lsT (lsT intT)) t.fSays, LS (lsT intT) t.fLast] 33 false, .box [I u.fIn, I u.fOut, I u.fStart, LS intT u.fFirst, LS (lsT intT) u.fNext, LS (lsT (lsT intT)) u.fSays, LS (lsT intT) u.fLast] 33 false, .gone, mapI TransPair.enc intT (mput (TransPair.mk (runI t t.fStart e_2).2 (runI u u.fStart e_2).2) (wr (((mget (TransPair.mk (runI t t.fStart e_2).2 (runI u u.fStart e_2).2) m3).getD (0 : Int)) + 1)) (mput (TransPair.mk (runI t t.fStart e_2).2 (runI u u.fStart e_2).2) ((mget (TransPair.mk (runI t t.fStart e_2).2 (runI u u.fStart e_2).2) m3).getD (0 : Int)) m3)), .gone, rowI 23 (lsT intT) l5]⟩ (by kernel_rfl) ?_
                    refine WL.nil ?_
                    refine En.block ?_
                    obtain ⟨Inv_3, mu_3, h0, hI⟩ := h
                    refine En.loop (σ := Int × (List (List Int))) (fun zz => Inv_3 zz.1 zz.2) (fun zz => mu_3 zz.1 zz.2) (fun zz => ⟨[(2, .sv (.one (.ptr 0 0))), (3, .sv (.one (.ptr 1 0))), (10, .sv (.one (.own 3))), (11, .sv (.one (.own 5))), (12, .sv (.one (LS intT e_2))), (95, .sv (.one (I t.fIn))), (96, .sv (.one (I zz.1)))], [.box [I t.fIn, I t.fOut, I t.fStart, LS intT t.fFirst, LS (lsT intT) t.fNext, LS (lsT (lsT intT)) t.fSays, LS (lsT intT) t.fLast] 33 false, .box [I u.fIn, I u.fOut, I u.fStart, LS intT u.fFirst, LS (lsT intT) u.fNext, LS (lsT (lsT intT)) u.fSays, LS (lsT intT) u.fLast] 33 false, .gone, mapI TransPair.enc intT (mput (TransPair.mk (runI t t.fStart e_2).2 (runI u u.fStart e_2).2) (wr (((mget (TransPair.mk (runI t t.fStart e_2).2 (runI u u.fStart e_2).2) m3).getD (0 : Int)) + 1)) (mput (TransPair.mk (runI t t.fStart e_2).2 (runI u u.fStart e_2).2) ((mget (TransPair.mk (runI t t.fStart e_2).2 (runI u u.fStart e_2).2) m3).getD (0 : Int)) m3)), .gone, rowI 23 (lsT intT) zz.2]⟩) (0, l5) h0 (sub_ok (by kernel_rfl)) ?_
                    rintro ⟨x96, l5_3⟩ h
                    replace h := hI _ _ h
                    show En c ⟨[(2, .sv (.one (.ptr 0 0))), (3, .sv (.one (.ptr 1 0))), (10, .sv (.one (.own 3))), (11, .sv (.one (.own 5))), (12, .sv (.one (LS intT e_2))), (95, .sv (.one (I t.fIn))), (96, .sv (.one (I x96)))], [.box [I t.fIn, I t.fOut, I t.fStart, LS intT t.fFirst, LS (lsT intT) t.fNext, LS (lsT (lsT intT)) t.fSays, LS (lsT intT) t.fLast] 33 false, .box [I u.fIn, I u.fOut, I u.fStart, LS intT u.fFirst, LS (lsT intT) u.fNext, LS (lsT (lsT intT)) u.fSays, LS (lsT intT) u.fLast] 33 false, .gone, mapI TransPair.enc intT (mput (TransPair.mk (runI t t.fStart e_2).2 (runI u u.fStart e_2).2) (wr (((mget (TransPair.mk (runI t t.fStart e_2).2 (runI u u.fStart e_2).2) m3).getD (0 : Int)) + 1)) (mput (TransPair.mk (runI t t.fStart e_2).2 (runI u u.fStart e_2).2) ((mget (TransPair.mk (runI t t.fStart e_2).2 (runI u u.fStart e_2).2) m3).getD (0 : Int)) m3)), .gone, rowI 23 (lsT intT) l5_3]⟩ _
                    refine En.seq ?_
                    refine En.region ?_
                    refine WL.run ht hn 1 ⟨[(2, .sv (.one (.ptr 0 0))), (3, .sv (.one (.ptr 1 0))), (10, .sv (.one (.own 3))), (11, .sv (.one (.own 5))), (12, .sv (.one (LS intT e_2))), (95, .sv (.one (I t.fIn))), (96, .sv (.one (I x96))), (97, .sv (.one (B (decide (x96 < t.fIn)))))], [.box [I t.fIn, I t.fOut, I t.fStart, LS intT t.fFirst, LS (lsT intT) t.fNext, LS (lsT (lsT intT)) t.fSays, LS (lsT intT) t.fLast] 33 false, .box [I u.fIn, I u.fOut, I u.fStart, LS intT u.fFirst, LS (lsT intT) u.fNext, LS (lsT (lsT intT)) u.fSays, LS (lsT intT) u.fLast] 33 false, .gone, mapI TransPair.enc intT (mput (TransPair.mk (runI t t.fStart e_2).2 (runI u u.fStart e_2).2) (wr (((mget (TransPair.mk (runI t t.fStart e_2).2 (runI u u.fStart e_2).2) m3).getD (0 : Int)) + 1)) (mput (TransPair.mk (runI t t.fStart e_2).2 (runI u u.fStart e_2).2) ((mget (TransPair.mk (runI t t.fStart e_2).2 (runI u u.fStart e_2).2) m3).getD (0 : Int)) m3)), .gone, rowI 23 (lsT intT) l5_3]⟩ (by kernel_rfl) ?_
                    refine WL.nil ?_
                    refine En.seq ?_
                    refine En.cond (b := (decide (x96 < t.fIn))) (by kernel_rfl) (fun hb => ?_) (fun hb => ?_)
                    · replace h := h.1 hb
                      refine En.skip ?_
                      refine En.seq ?_
                      refine En.block ?_
                      refine En.seq ?_
                      refine En.region ?_
                      refine WL.run ht hn 2 ⟨[(2, .sv (.one (.ptr 0 0))), (3, .sv (.one (.ptr 1 0))), (10, .sv (.one (.own 3))), (11, .sv (.one (.own 5))), (12, .sv (.one (LS intT e_2))), (17, .sv (.one (I x96))), (95, .sv (.one (I t.fIn))), (96, .sv (.one (I x96)))], [.box [I t.fIn, I t.fOut, I t.fStart, LS intT t.fFirst, LS (lsT intT) t.fNext, LS (lsT (lsT intT)) t.fSays, LS (lsT intT) t.fLast] 33 false, .box [I u.fIn, I u.fOut, I u.fStart, LS intT u.fFirst, LS (lsT intT) u.fNext, LS (lsT (lsT intT)) u.fSays, LS (lsT intT) u.fLast] 33 false, .gone, mapI TransPair.enc intT (mput (TransPair.mk (runI t t.fStart e_2).2 (runI u u.fStart e_2).2) (wr (((mget (TransPair.mk (runI t t.fStart e_2).2 (runI u u.fStart e_2).2) m3).getD (0 : Int)) + 1)) (mput (TransPair.mk (runI t t.fStart e_2).2 (runI u u.fStart e_2).2) ((mget (TransPair.mk (runI t t.fStart e_2).2 (runI u u.fStart e_2).2) m3).getD (0 : Int)) m3)), .gone, rowI 23 (lsT intT) l5_3]⟩ (by kernel_rfl) ?_
                      refine WL.nil ?_
                      refine En.region ?_
                      refine WL.run ht hn 2 ⟨[(2, .sv (.one (.ptr 0 0))), (3, .sv (.one (.ptr 1 0))), (10, .sv (.one (.own 3))), (12, .sv (.one (LS intT e_2))), (17, .sv (.one (I x96))), (95, .sv (.one (I t.fIn))), (96, .sv (.one (I x96))), (99, .sv (.one (.own 5))), (100, .sv (.one (LS intT e_2)))], [.box [I t.fIn, I t.fOut, I t.fStart, LS intT t.fFirst, LS (lsT intT) t.fNext, LS (lsT (lsT intT)) t.fSays, LS (lsT intT) t.fLast] 33 false, .box [I u.fIn, I u.fOut, I u.fStart, LS intT u.fFirst, LS (lsT intT) u.fNext, LS (lsT (lsT intT)) u.fSays, LS (lsT intT) u.fLast] 33 false, .gone, mapI TransPair.enc intT (mput (TransPair.mk (runI t t.fStart e_2).2 (runI u u.fStart e_2).2) (wr (((mget (TransPair.mk (runI t t.fStart e_2).2 (runI u u.fStart e_2).2) m3).getD (0 : Int)) + 1)) (mput (TransPair.mk (runI t t.fStart e_2).2 (runI u u.fStart e_2).2) ((mget (TransPair.mk (runI t t.fStart e_2).2 (runI u u.fStart e_2).2) m3).getD (0 : Int)) m3)), .gone, rowI 23 (lsT intT) l5_3]⟩ (by kernel_rfl) ?_
                      have hp := h.1
                      replace h := h.2
                      refine WL.mt0 (K := []) (p := some (6, rowI 3 intT (e_2))) hn (by rfl) (mt_callI 6 (cloneInt_ct e_2 hp) en62 (caps := []) [] rfl rfl (by rfl) (by kernel_rfl) (by kernel_rfl) (by rfl) (by rfl)) (by rfl) (by rfl) (by rfl) ?_
                      refine WL.run ht hn 1 ⟨[(2, .sv (.one (.ptr 0 0))), (3, .sv (.one (.ptr 1 0))), (10, .sv (.one (.own 3))), (12, .sv (.one (LS intT e_2))), (95, .sv (.one (I t.fIn))), (96, .sv (.one (I x96))), (99, .sv (.one (.own 5))), (101, .sv (.one (.own 6))), (102, .sv (.one (I x96)))], [.box [I t.fIn, I t.fOut, I t.fStart, LS intT t.fFirst, LS (lsT intT) t.fNext, LS (lsT (lsT intT)) t.fSays, LS (lsT intT) t.fLast] 33 false, .box [I u.fIn, I u.fOut, I u.fStart, LS intT u.fFirst, LS (lsT intT) u.fNext, LS (lsT (lsT intT)) u.fSays, LS (lsT intT) u.fLast] 33 false, .gone, mapI TransPair.enc intT (mput (TransPair.mk (runI t t.fStart e_2).2 (runI u u.fStart e_2).2) (wr (((mget (TransPair.mk (runI t t.fStart e_2).2 (runI u u.fStart e_2).2) m3).getD (0 : Int)) + 1)) (mput (TransPair.mk (runI t t.fStart e_2).2 (runI u u.fStart e_2).2) ((mget (TransPair.mk (runI t t.fStart e_2).2 (runI u u.fStart e_2).2) m3).getD (0 : Int)) m3)), .gone, rowI 23 (lsT intT) l5_3, rowI 3 intT (e_2)]⟩ (by kernel_rfl) ?_
                      refine WL.mt0 (K := []) (p := some (7, rowI 3 intT ([x96] : (List Int)))) hn (by rfl) (mt_lit (T := intT) ([x96] : (List Int)) (mt_bsl 7 (r := cellsOf intT ([x96] : (List Int))) ht rfl (by rfl) (by rfl) (by rfl) (by kernel_rfl) (by rfl)) (fun _ h => by cases h) (fun _ => rfl) (fun _ => rfl) (by rfl) (Nat.le_of_ble_eq_true rfl)) (by rfl) (by rfl) (by rfl) ?_
                      refine WL.seal (T := intT) (l := ([x96] : (List Int))) (e := 3) 7 rfl ?_
                      refine WL.run ht hn 0 ⟨[(2, .sv (.one (.ptr 0 0))), (3, .sv (.one (.ptr 1 0))), (10, .sv (.one (.own 3))), (12, .sv (.one (LS intT e_2))), (95, .sv (.one (I t.fIn))), (96, .sv (.one (I x96))), (99, .sv (.one (.own 5))), (101, .sv (.one (.own 6))), (102, .sv (.one (I x96))), (103, .sv (.one (LS intT ([x96] : (List Int)))))], [.box [I t.fIn, I t.fOut, I t.fStart, LS intT t.fFirst, LS (lsT intT) t.fNext, LS (lsT (lsT intT)) t.fSays, LS (lsT intT) t.fLast] 33 false, .box [I u.fIn, I u.fOut, I u.fStart, LS intT u.fFirst, LS (lsT intT) u.fNext, LS (lsT (lsT intT)) u.fSays, LS (lsT intT) u.fLast] 33 false, .gone, mapI TransPair.enc intT (mput (TransPair.mk (runI t t.fStart e_2).2 (runI u u.fStart e_2).2) (wr (((mget (TransPair.mk (runI t t.fStart e_2).2 (runI u u.fStart e_2).2) m3).getD (0 : Int)) + 1)) (mput (TransPair.mk (runI t t.fStart e_2).2 (runI u u.fStart e_2).2) ((mget (TransPair.mk (runI t t.fStart e_2).2 (runI u u.fStart e_2).2) m3).getD (0 : Int)) m3)), .gone, rowI 23 (lsT intT) l5_3, rowI 3 intT (e_2), .gone]⟩ (by kernel_rfl) ?_
                      have hp := h.1
                      replace h := h.2
                      refine WL.mt (S2 := ⟨[(2, .sv (.one (.ptr 0 0))), (3, .sv (.one (.ptr 1 0))), (10, .sv (.one (.own 3))), (12, .sv (.one (LS intT e_2))), (95, .sv (.one (I t.fIn))), (96, .sv (.one (I x96))), (99, .sv (.one (.own 5))), (102, .sv (.one (I x96))), (103, .sv (.one (LS intT ([x96] : (List Int)))))], [.box [I t.fIn, I t.fOut, I t.fStart, LS intT t.fFirst, LS (lsT intT) t.fNext, LS (lsT (lsT intT)) t.fSays, LS (lsT intT) t.fLast] 33 false, .box [I u.fIn, I u.fOut, I u.fStart, LS intT u.fFirst, LS (lsT intT) u.fNext, LS (lsT (lsT intT)) u.fSays, LS (lsT intT) u.fLast] 33 false, .gone, mapI TransPair.enc intT (mput (TransPair.mk (runI t t.fStart e_2).2 (runI u u.fStart e_2).2) (wr (((mget (TransPair.mk (runI t t.fStart e_2).2 (runI u u.fStart e_2).2) m3).getD (0 : Int)) + 1)) (mput (TransPair.mk (runI t t.fStart e_2).2 (runI u u.fStart e_2).2) ((mget (TransPair.mk (runI t t.fStart e_2).2 (runI u u.fStart e_2).2) m3).getD (0 : Int)) m3)), .gone, rowI 23 (lsT intT) l5_3, rowI 3 intT (e_2), .gone]⟩) (K := [6]) (p := some (6, rowI 3 intT ((e_2) ++ ([x96] : (List Int))))) hn (by rfl) (mt_append (T := intT) (l := (e_2)) (es := ([x96] : (List Int))) ht rfl (by rfl) (by rfl) (by rfl) (by rfl) (by decide) (by rfl) (by rfl) (srcLS (T := intT) (es := ([x96] : (List Int))) (fun _ h => by cases h) (by decide) (by rfl)) (by exact hp) (by exact hp.le (by decide))) (by kernel_rfl) (by rfl) (by rfl) (by rfl) ?_
                      refine WL.seal (T := intT) (l := ((e_2) ++ ([x96] : (List Int)))) (e := 3) 6 rfl ?_
                      refine WL.run ht hn 0 ⟨[(2, .sv (.one (.ptr 0 0))), (3, .sv (.one (.ptr 1 0))), (10, .sv (.one (.own 3))), (12, .sv (.one (LS intT e_2))), (95, .sv (.one (I t.fIn))), (96, .sv (.one (I x96))), (99, .sv (.one (.own 5))), (102, .sv (.one (I x96))), (103, .sv (.one (LS intT ([x96] : (List Int))))), (104, .sv (.one (LS intT ((e_2) ++ ([x96] : (List Int))))))], [.box [I t.fIn, I t.fOut, I t.fStart, LS intT t.fFirst, LS (lsT intT) t.fNext, LS (lsT (lsT intT)) t.fSays, LS (lsT intT) t.fLast] 33 false, .box [I u.fIn, I u.fOut, I u.fStart, LS intT u.fFirst, LS (lsT intT) u.fNext, LS (lsT (lsT intT)) u.fSays, LS (lsT intT) u.fLast] 33 false, .gone, mapI TransPair.enc intT (mput (TransPair.mk (runI t t.fStart e_2).2 (runI u u.fStart e_2).2) (wr (((mget (TransPair.mk (runI t t.fStart e_2).2 (runI u u.fStart e_2).2) m3).getD (0 : Int)) + 1)) (mput (TransPair.mk (runI t t.fStart e_2).2 (runI u u.fStart e_2).2) ((mget (TransPair.mk (runI t t.fStart e_2).2 (runI u u.fStart e_2).2) m3).getD (0 : Int)) m3)), .gone, rowI 23 (lsT intT) l5_3, .gone, .gone]⟩ (by kernel_rfl) ?_
                      refine WL.mt0 (K := []) (p := some (8, rowI 23 (lsT intT) ([((e_2) ++ ([x96] : (List Int)))] : (List (List Int))))) hn (by rfl) (mt_lit (T := (lsT intT)) ([((e_2) ++ ([x96] : (List Int)))] : (List (List Int))) (mt_bsl 8 (r := cellsOf (lsT intT) ([((e_2) ++ ([x96] : (List Int)))] : (List (List Int)))) ht rfl (by rfl) (by rfl) (by rfl) (by kernel_rfl) (by rfl)) (fun _ h => by cases h) (fun _ => rfl) (fun _ => rfl) (by rfl) (Nat.le_of_ble_eq_true rfl)) (by rfl) (by rfl) (by rfl) ?_
                      refine WL.seal (T := (lsT intT)) (l := ([((e_2) ++ ([x96] : (List Int)))] : (List (List Int)))) (e := 23) 8 rfl ?_
                      refine WL.run ht hn 0 ⟨[(2, .sv (.one (.ptr 0 0))), (3, .sv (.one (.ptr 1 0))), (10, .sv (.one (.own 3))), (12, .sv (.one (LS intT e_2))), (95, .sv (.one (I t.fIn))), (96, .sv (.one (I x96))), (99, .sv (.one (.own 5))), (102, .sv (.one (I x96))), (103, .sv (.one (LS intT ([x96] : (List Int))))), (104, .sv (.one (LS intT ((e_2) ++ ([x96] : (List Int)))))), (105, .sv (.one (LS (lsT intT) ([((e_2) ++ ([x96] : (List Int)))] : (List (List Int))))))], [.box [I t.fIn, I t.fOut, I t.fStart, LS intT t.fFirst, LS (lsT intT) t.fNext, LS (lsT (lsT intT)) t.fSays, LS (lsT intT) t.fLast] 33 false, .box [I u.fIn, I u.fOut, I u.fStart, LS intT u.fFirst, LS (lsT intT) u.fNext, LS (lsT (lsT intT)) u.fSays, LS (lsT intT) u.fLast] 33 false, .gone, mapI TransPair.enc intT (mput (TransPair.mk (runI t t.fStart e_2).2 (runI u u.fStart e_2).2) (wr (((mget (TransPair.mk (runI t t.fStart e_2).2 (runI u u.fStart e_2).2) m3).getD (0 : Int)) + 1)) (mput (TransPair.mk (runI t t.fStart e_2).2 (runI u u.fStart e_2).2) ((mget (TransPair.mk (runI t t.fStart e_2).2 (runI u u.fStart e_2).2) m3).getD (0 : Int)) m3)), .gone, rowI 23 (lsT intT) l5_3, .gone, .gone, .gone]⟩ (by kernel_rfl) ?_
                      have hp := h.1
                      replace h := h.2
                      refine WL.mt (S2 := ⟨[(2, .sv (.one (.ptr 0 0))), (3, .sv (.one (.ptr 1 0))), (10, .sv (.one (.own 3))), (12, .sv (.one (LS intT e_2))), (95, .sv (.one (I t.fIn))), (96, .sv (.one (I x96))), (102, .sv (.one (I x96))), (103, .sv (.one (LS intT ([x96] : (List Int))))), (104, .sv (.one (LS intT ((e_2) ++ ([x96] : (List Int)))))), (105, .sv (.one (LS (lsT intT) ([((e_2) ++ ([x96] : (List Int)))] : (List (List Int))))))], [.box [I t.fIn, I t.fOut, I t.fStart, LS intT t.fFirst, LS (lsT intT) t.fNext, LS (lsT (lsT intT)) t.fSays, LS (lsT intT) t.fLast] 33 false, .box [I u.fIn, I u.fOut, I u.fStart, LS intT u.fFirst, LS (lsT intT) u.fNext, LS (lsT (lsT intT)) u.fSays, LS (lsT intT) u.fLast] 33 false, .gone, mapI TransPair.enc intT (mput (TransPair.mk (runI t t.fStart e_2).2 (runI u u.fStart e_2).2) (wr (((mget (TransPair.mk (runI t t.fStart e_2).2 (runI u u.fStart e_2).2) m3).getD (0 : Int)) + 1)) (mput (TransPair.mk (runI t t.fStart e_2).2 (runI u u.fStart e_2).2) ((mget (TransPair.mk (runI t t.fStart e_2).2 (runI u u.fStart e_2).2) m3).getD (0 : Int)) m3)), .gone, rowI 23 (lsT intT) l5_3, .gone, .gone, .gone]⟩) (K := [5]) (p := some (5, rowI 23 (lsT intT) (l5_3 ++ ([((e_2) ++ ([x96] : (List Int)))] : (List (List Int)))))) hn (by rfl) (mt_append (T := (lsT intT)) (l := l5_3) (es := ([((e_2) ++ ([x96] : (List Int)))] : (List (List Int)))) ht rfl (by rfl) (by rfl) (by rfl) (by rfl) (by decide) (by rfl) (by rfl) (srcLS (T := (lsT intT)) (es := ([((e_2) ++ ([x96] : (List Int)))] : (List (List Int)))) (fun _ h => by cases h) (by decide) (by rfl)) (by exact hp) (by exact hp.le (by decide))) (by kernel_rfl) (by rfl) (by rfl) (by rfl) ?_
                      refine WL.run ht hn 1 ⟨[(2, .sv (.one (.ptr 0 0))), (3, .sv (.one (.ptr 1 0))), (10, .sv (.one (.own 3))), (11, .sv (.one (.own 5))), (12, .sv (.one (LS intT e_2))), (95, .sv (.one (I t.fIn))), (96, .sv (.one (I x96)))], [.box [I t.fIn, I t.fOut, I t.fStart, LS intT t.fFirst, LS (lsT intT) t.fNext, LS (lsT (lsT intT)) t.fSays, LS (lsT intT) t.fLast] 33 false, .box [I u.fIn, I u.fOut, I u.fStart, LS intT u.fFirst, LS (lsT intT) u.fNext, LS (lsT (lsT intT)) u.fSays, LS (lsT intT) u.fLast] 33 false, .gone, mapI TransPair.enc intT (mput (TransPair.mk (runI t t.fStart e_2).2 (runI u u.fStart e_2).2) (wr (((mget (TransPair.mk (runI t t.fStart e_2).2 (runI u u.fStart e_2).2) m3).getD (0 : Int)) + 1)) (mput (TransPair.mk (runI t t.fStart e_2).2 (runI u u.fStart e_2).2) ((mget (TransPair.mk (runI t t.fStart e_2).2 (runI u u.fStart e_2).2) m3).getD (0 : Int)) m3)), .gone, rowI 23 (lsT intT) (l5_3 ++ ([((e_2) ++ ([x96] : (List Int)))] : (List (List Int)))), .gone, .gone, .gone]⟩ (by kernel_rfl) ?_
                      refine WL.nil ?_
                      refine En.region ?_
                      refine WL.run ht hn 2 ⟨[(2, .sv (.one (.ptr 0 0))), (3, .sv (.one (.ptr 1 0))), (10, .sv (.one (.own 3))), (11, .sv (.one (.own 5))), (12, .sv (.one (LS intT e_2))), (95, .sv (.one (I t.fIn))), (96, .sv (.one (I (wr (x96 + 1)))))], [.box [I t.fIn, I t.fOut, I t.fStart, LS intT t.fFirst, LS (lsT intT) t.fNext, LS (lsT (lsT intT)) t.fSays, LS (lsT intT) t.fLast] 33 false, .box [I u.fIn, I u.fOut, I u.fStart, LS intT u.fFirst, LS (lsT intT) u.fNext, LS (lsT (lsT intT)) u.fSays, LS (lsT intT) u.fLast] 33 false, .gone, mapI TransPair.enc intT (mput (TransPair.mk (runI t t.fStart e_2).2 (runI u u.fStart e_2).2) (wr (((mget (TransPair.mk (runI t t.fStart e_2).2 (runI u u.fStart e_2).2) m3).getD (0 : Int)) + 1)) (mput (TransPair.mk (runI t t.fStart e_2).2 (runI u u.fStart e_2).2) ((mget (TransPair.mk (runI t t.fStart e_2).2 (runI u u.fStart e_2).2) m3).getD (0 : Int)) m3)), .gone, rowI 23 (lsT intT) (l5_3 ++ ([((e_2) ++ ([x96] : (List Int)))] : (List (List Int)))), .gone, .gone, .gone]⟩ (by kernel_rfl) ?_
                      refine WL.nil ?_
                      exact En.at (I := fun zz => Inv_3 zz.1 zz.2 ∧ mu_3 zz.1 zz.2 < mu_3 x96 l5_3) (T := fun zz => ⟨[(2, .sv (.one (.ptr 0 0))), (3, .sv (.one (.ptr 1 0))), (10, .sv (.one (.own 3))), (11, .sv (.one (.own 5))), (12, .sv (.one (LS intT e_2))), (95, .sv (.one (I t.fIn))), (96, .sv (.one (I zz.1)))], [.box [I t.fIn, I t.fOut, I t.fStart, LS intT t.fFirst, LS (lsT intT) t.fNext, LS (lsT (lsT intT)) t.fSays, LS (lsT intT) t.fLast] 33 false, .box [I u.fIn, I u.fOut, I u.fStart, LS intT u.fFirst, LS (lsT intT) u.fNext, LS (lsT (lsT intT)) u.fSays, LS (lsT intT) u.fLast] 33 false, .gone, mapI TransPair.enc intT (mput (TransPair.mk (runI t t.fStart e_2).2 (runI u u.fStart e_2).2) (wr (((mget (TransPair.mk (runI t t.fStart e_2).2 (runI u u.fStart e_2).2) m3).getD (0 : Int)) + 1)) (mput (TransPair.mk (runI t t.fStart e_2).2 (runI u u.fStart e_2).2) ((mget (TransPair.mk (runI t t.fStart e_2).2 (runI u u.fStart e_2).2) m3).getD (0 : Int)) m3)), .gone, rowI 23 (lsT intT) zz.2]⟩) ((wr (x96 + 1)), (l5_3 ++ ([((e_2) ++ ([x96] : (List Int)))] : (List (List Int))))) h (by kernel_rfl)
                    · replace h := h.2 hb
                      refine En.exit rfl ?_
                      exact En.at (I := fun zz => J zz.1 zz.2) (T := fun zz => ⟨[(2, .sv (.one (.ptr 0 0))), (3, .sv (.one (.ptr 1 0))), (10, .sv (.one (.own 3))), (11, .sv (.one (.own 5)))], [.box [I t.fIn, I t.fOut, I t.fStart, LS intT t.fFirst, LS (lsT intT) t.fNext, LS (lsT (lsT intT)) t.fSays, LS (lsT intT) t.fLast] 33 false, .box [I u.fIn, I u.fOut, I u.fStart, LS intT u.fFirst, LS (lsT intT) u.fNext, LS (lsT (lsT intT)) u.fSays, LS (lsT intT) u.fLast] 33 false, .gone, mapI TransPair.enc intT zz.1, .gone, rowI 23 (lsT intT) zz.2]⟩) ((mput (TransPair.mk (runI t t.fStart e_2).2 (runI u u.fStart e_2).2) (wr (((mget (TransPair.mk (runI t t.fStart e_2).2 (runI u u.fStart e_2).2) m3).getD (0 : Int)) + 1)) (mput (TransPair.mk (runI t t.fStart e_2).2 (runI u u.fStart e_2).2) ((mget (TransPair.mk (runI t t.fStart e_2).2 (runI u u.fStart e_2).2) m3).getD (0 : Int)) m3)), l5_3) h (by kernel_rfl)
          · rintro ⟨m3_2, l5_2⟩ h
            replace h := hJ _ _ h
            show En c ⟨[(2, .sv (.one (.ptr 0 0))), (3, .sv (.one (.ptr 1 0))), (10, .sv (.one (.own 3))), (11, .sv (.one (.own 5)))], [.box [I t.fIn, I t.fOut, I t.fStart, LS intT t.fFirst, LS (lsT intT) t.fNext, LS (lsT (lsT intT)) t.fSays, LS (lsT intT) t.fLast] 33 false, .box [I u.fIn, I u.fOut, I u.fStart, LS intT u.fFirst, LS (lsT intT) u.fNext, LS (lsT (lsT intT)) u.fSays, LS (lsT intT) u.fLast] 33 false, .gone, mapI TransPair.enc intT m3_2, .gone, rowI 23 (lsT intT) l5_2]⟩ _
            refine En.region ?_
            refine WL.run ht hn 1 ⟨[(2, .sv (.one (.ptr 0 0))), (3, .sv (.one (.ptr 1 0))), (10, .sv (.one (.own 3))), (50, .sv (.one (.own 5)))], [.box [I t.fIn, I t.fOut, I t.fStart, LS intT t.fFirst, LS (lsT intT) t.fNext, LS (lsT (lsT intT)) t.fSays, LS (lsT intT) t.fLast] 33 false, .box [I u.fIn, I u.fOut, I u.fStart, LS intT u.fFirst, LS (lsT intT) u.fNext, LS (lsT (lsT intT)) u.fSays, LS (lsT intT) u.fLast] 33 false, .gone, mapI TransPair.enc intT m3_2, .gone, rowI 23 (lsT intT) l5_2]⟩ (by kernel_rfl) ?_
            have hp_5 := h.1
            replace h := h.2
            refine WL.mt (S2 := ⟨[(2, .sv (.one (.ptr 0 0))), (3, .sv (.one (.ptr 1 0))), (10, .sv (.one (.own 3)))], [.box [I t.fIn, I t.fOut, I t.fStart, LS intT t.fFirst, LS (lsT intT) t.fNext, LS (lsT (lsT intT)) t.fSays, LS (lsT intT) t.fLast] 33 false, .box [I u.fIn, I u.fOut, I u.fStart, LS intT u.fFirst, LS (lsT intT) u.fNext, LS (lsT (lsT intT)) u.fSays, LS (lsT intT) u.fLast] 33 false, .gone, mapI TransPair.enc intT m3_2, .gone, rowI 23 (lsT intT) l5_2]⟩) (K := [5]) (p := some (5, rowI 23 (lsT intT) (l5_2.drop (1 : Int).toNat))) hn (by rfl) (mt_sliceF (T := (lsT intT)) (l := l5_2) (p := 5) (lv := 1) ht rfl (by rfl) (by rfl) (by rfl) (by rfl) (by rfl) (by rfl) (by rfl) hp_5) (by kernel_rfl) (by rfl) (by rfl) (by rfl) ?_
            refine WL.run ht hn 1 ⟨[(2, .sv (.one (.ptr 0 0))), (3, .sv (.one (.ptr 1 0))), (10, .sv (.one (.own 3))), (11, .sv (.one (.own 5)))], [.box [I t.fIn, I t.fOut, I t.fStart, LS intT t.fFirst, LS (lsT intT) t.fNext, LS (lsT (lsT intT)) t.fSays, LS (lsT intT) t.fLast] 33 false, .box [I u.fIn, I u.fOut, I u.fStart, LS intT u.fFirst, LS (lsT intT) u.fNext, LS (lsT (lsT intT)) u.fSays, LS (lsT intT) u.fLast] 33 false, .gone, mapI TransPair.enc intT m3_2, .gone, rowI 23 (lsT intT) (l5_2.drop (1 : Int).toNat)]⟩ (by kernel_rfl) ?_
            refine WL.nil ?_
            exact En.at (I := fun zz => Inv_2 zz.1 zz.2 ∧ mu_2 zz.1 zz.2 < mu_2 m3 l5) (T := fun zz => ⟨[(2, .sv (.one (.ptr 0 0))), (3, .sv (.one (.ptr 1 0))), (10, .sv (.one (.own 3))), (11, .sv (.one (.own 5)))], [.box [I t.fIn, I t.fOut, I t.fStart, LS intT t.fFirst, LS (lsT intT) t.fNext, LS (lsT (lsT intT)) t.fSays, LS (lsT intT) t.fLast] 33 false, .box [I u.fIn, I u.fOut, I u.fStart, LS intT u.fFirst, LS (lsT intT) u.fNext, LS (lsT (lsT intT)) u.fSays, LS (lsT intT) u.fLast] 33 false, .gone, mapI TransPair.enc intT zz.1, .gone, rowI 23 (lsT intT) zz.2]⟩) (m3_2, (l5_2.drop (1 : Int).toNat)) h (by kernel_rfl)
        · replace h := h.2 hb
          refine En.exit rfl ?_
          refine En.seq ?_
          refine En.region ?_
          refine WL.run ht hn 3 ⟨[(4, .sv (.one (.v (.slice none 0 0)))), (5, .sv (.one (B false))), (6, .sv (.one (I 0)))], [.gone, .gone, .gone, .gone, .gone, .gone]⟩ (by kernel_rfl) ?_
          refine WL.nil ?_
          refine En.ret ?_
          refine En.nilLS 4 intT (by rfl) ?_
          exact En.back ht ([], false, 0) h (by kernel_rfl) rfl
theorem en21 : ∀ args w, (callFunc 21 args).run Try.prog w = .ok (.enter 21 args) w := enters_of Try.func21 (by kernel_rfl) rfl
theorem runT_at (t : ApiTrans) : ∀ (w : List Int) (q : Nat), (runT t q w).2 = atT t q (nats w)
  | [], q => rfl
  | b :: w, q => by
    show (runT t (nxT t q b.toNat) w).2 = atT t (nxT t q b.toNat) (nats w)
    exact runT_at t w _
theorem filter_lt {α : Type} {P P' : α → Bool} {K : α} : ∀ {l : List α}, (∀ x ∈ l, P' x = true → P x = true) → K ∈ l → P K = true → P' K = false → (l.filter P').length + 1 ≤ (l.filter P).length
  | [], _, h, _, _ => by cases h
  | x :: l, hp, hK, h1, h2 => by
    have hle : ∀ m : List α, (∀ x ∈ m, P' x = true → P x = true) → (m.filter P').length ≤ (m.filter P).length := fun m hm => by
      induction m with
      | nil => simp
      | cons y m ih =>
        have := ih fun z hz => hm z (List.mem_cons_of_mem _ hz)
        have hy := hm y List.mem_cons_self
        simp only [List.filter_cons]
        by_cases e : P' y = true
        · rw [if_pos e, if_pos (hy e)]; simp; exact this
        · rw [if_neg e]
          split
          · simp; omega
          · exact this
    simp only [List.filter_cons]
    rcases List.mem_cons.1 hK with rfl | hK
    · rw [h1, h2]
      have := hle l fun z hz => hp z (List.mem_cons_of_mem _ hz)
      simp
      exact this
    · have ih := filter_lt (fun z hz => hp z (List.mem_cons_of_mem _ hz)) hK h1 h2
      have hx := hp x List.mem_cons_self
      by_cases e : P' x = true
      · rw [if_pos e, if_pos (hx e)]; simp; omega
      · rw [if_neg e]
        split
        · simp; omega
        · exact ih
def pairsT (t u : ApiTrans) : List TransPair := (List.range t.fNext.length).flatMap fun (p : Nat) => (List.range u.fNext.length).map fun (q : Nat) => TransPair.mk (p : Int) (q : Int)
theorem pairsT_mem {t u : ApiTrans} {p q : Nat} (hp : p < t.fNext.length) (hq : q < u.fNext.length) : TransPair.mk (p : Int) (q : Int) ∈ pairsT t u :=
  List.mem_flatMap.2 ⟨p, List.mem_range.2 hp, List.mem_map.2 ⟨q, List.mem_range.2 hq, rfl⟩⟩
theorem pairsT_len {t u : ApiTrans} (ht : t.fNext.length ≤ 6) (hu : u.fNext.length ≤ 6) : (pairsT t u).length ≤ 36 := by
  unfold pairsT
  rw [List.length_flatMap]
  simp only [List.length_map, List.length_range]
  have : ∀ n m : Nat, ((List.range n).map fun _ => m).sum = n * m := fun n m => by
    induction n with
    | zero => simp
    | succ n ih => rw [List.range_succ, List.map_append, List.sum_append, ih, Nat.succ_mul]; simp
  rw [this]
  exact Nat.mul_le_mul ht hu
def cntS (m : List (TransPair × Int)) (K : TransPair) : Int := (mget K m).getD 0
def fresh (t u : ApiTrans) (m : List (TransPair × Int)) : Nat := ((pairsT t u).filter fun K => decide (cntS m K < 1)).length
theorem cntS_put {m : List (TransPair × Int)} {K K' : TransPair} {v : Int} : cntS (mput K v m) K' = if K' = K then v else cntS m K' := by
  unfold cntS
  rw [mget_put]
  split <;> rfl
def pairI (t u : ApiTrans) (w : List Nat) : TransPair := ⟨(atT t t.fStart.toNat w : Int), (atT u u.fStart.toNat w : Int)⟩
theorem pairI_eq {t u : ApiTrans} {v w : List Nat} (h : pairI t u v = pairI t u w) : prT t u v = prT t u w := by
  unfold pairI at h
  simp only [TransPair.mk.injEq] at h
  unfold prT
  rw [show atT t t.fStart.toNat v = atT t t.fStart.toNat w by omega, show atT u u.fStart.toNat v = atT u u.fStart.toNat w by omega]
structure DInv (t u : ApiTrans) (m : List (TransPair × Int)) (l : List (List Int)) (done : List (List Nat)) : Prop where
  seen : Seen t u done (l.map nats)
  let_ : ∀ w ∈ l, LetOk t.fIn w ∧ w.length + fresh t u m ≤ 36
  cnt : ∀ K, 0 ≤ cntS m K ∧ cntS m K ≤ done.length
  has : ∀ K, 1 ≤ cntS m K ↔ ∃ w ∈ done, pairI t u w = K
  room : done.length + 5 * fresh t u m + l.length ≤ 181
def kidsT (t : ApiTrans) (w : List Int) : List (List Int) := (List.range t.fIn.toNat).map fun (a : Nat) => w ++ [(a : Int)]
theorem nats_snoc (w : List Int) (a : Nat) : nats (w ++ [(a : Int)]) = nats w ++ [a] := by simp [nats]
theorem DInv.again {t u : ApiTrans} {m : List (TransPair × Int)} {w : List Int} {l : List (List Int)} {done : List (List Nat)} (h : DInv t u m (w :: l) done) (hE : EqT t u (nats w)) (hv : 1 ≤ cntS m (pairI t u (nats w))) :
    DInv t u (mput (pairI t u (nats w)) (cntS m (pairI t u (nats w)) + 1) m) l (nats w :: done) ∧ fresh t u (mput (pairI t u (nats w)) (cntS m (pairI t u (nats w)) + 1) m) = fresh t u m := by
  have hfr : fresh t u (mput (pairI t u (nats w)) (cntS m (pairI t u (nats w)) + 1) m) = fresh t u m := by
    unfold fresh
    congr 1
    refine List.filter_congr fun K _ => ?_
    rw [cntS_put]
    split
    · rename_i e
      subst e
      rw [decide_eq_false (by omega), decide_eq_false (by omega)]
    · rfl
  refine ⟨⟨⟨?_, ?_, ?_, ?_⟩, fun x hx => ?_, fun K => ?_, fun K => ?_, ?_⟩, hfr⟩
  · rcases h.seen.start with h1 | h1
    · exact .inl (List.mem_cons_of_mem _ h1)
    · rw [List.map_cons, List.mem_cons] at h1
      rcases h1 with h1 | h1
      · exact .inl (by rw [h1]; exact List.mem_cons_self)
      · exact .inr h1
  · intro x hx
    refine h.seen.kw x ?_
    rcases hx with hx | hx
    · rcases List.mem_cons.1 hx with rfl | hx
      · exact .inr (by simp)
      · exact .inl hx
    · exact .inr (by rw [List.map_cons]; exact List.mem_cons_of_mem _ hx)
  · intro x hx
    rcases List.mem_cons.1 hx with rfl | hx
    · exact hE
    · exact h.seen.eq x hx
  · have key : ∀ x ∈ done, ∃ w1 ∈ nats w :: done, prT t u w1 = prT t u x ∧ ∀ a, a < t.fIn.toNat → w1 ++ [a] ∈ nats w :: done ∨ w1 ++ [a] ∈ l.map nats := fun x hx => by
      obtain ⟨w1, h1, h2, h3⟩ := h.seen.more x hx
      refine ⟨w1, List.mem_cons_of_mem _ h1, h2, fun a ha => ?_⟩
      rcases h3 a ha with h4 | h4
      · exact .inl (List.mem_cons_of_mem _ h4)
      · rw [List.map_cons, List.mem_cons] at h4
        rcases h4 with h4 | h4
        · exact .inl (by rw [h4]; exact List.mem_cons_self)
        · exact .inr h4
    intro x hx
    rcases List.mem_cons.1 hx with rfl | hx
    · obtain ⟨x, hx, e⟩ := (h.has _).1 hv
      obtain ⟨w1, h1, h2, h3⟩ := key x hx
      exact ⟨w1, h1, h2.trans (pairI_eq e), h3⟩
    · exact key x hx
  · rw [hfr]
    exact h.let_ x (List.mem_cons_of_mem _ hx)
  · have := h.cnt K
    have h2 := h.cnt (pairI t u (nats w))
    rw [cntS_put, List.length_cons]
    split <;> omega
  · rw [cntS_put]
    split
    · rename_i e
      exact ⟨fun _ => ⟨_, List.mem_cons_self, e.symm⟩, fun _ => by omega⟩
    · rename_i e
      rw [h.has K]
      constructor
      · rintro ⟨x, hx, e2⟩; exact ⟨x, List.mem_cons_of_mem _ hx, e2⟩
      · rintro ⟨x, hx, e2⟩
        rcases List.mem_cons.1 hx with rfl | hx
        · exact absurd e2.symm e
        · exact ⟨x, hx, e2⟩
  · have := h.room
    rw [hfr]
    simp only [List.length_cons] at this ⊢
    omega
theorem DInv.first {t u : ApiTrans} {m : List (TransPair × Int)} {w : List Int} {l : List (List Int)} {done : List (List Nat)} (h : DInv t u m (w :: l) done) (hE : EqT t u (nats w)) (hv : ¬ 1 ≤ cntS m (pairI t u (nats w))) (hK : pairI t u (nats w) ∈ pairsT t u) (hin : 1 ≤ t.fIn ∧ t.fIn ≤ 4) :
    DInv t u (mput (pairI t u (nats w)) (cntS m (pairI t u (nats w)) + 1) m) (l ++ kidsT t w) (nats w :: done) ∧ fresh t u (mput (pairI t u (nats w)) (cntS m (pairI t u (nats w)) + 1) m) + 1 ≤ fresh t u m := by
  have h0 := h.cnt (pairI t u (nats w))
  have hfr : fresh t u (mput (pairI t u (nats w)) (cntS m (pairI t u (nats w)) + 1) m) + 1 ≤ fresh t u m := by
    unfold fresh
    refine filter_lt (K := pairI t u (nats w)) (fun K _ hc => ?_) hK (decide_eq_true (by omega)) (decide_eq_false (by rw [cntS_put, if_pos rfl]; omega))
    have hc := of_decide_eq_true hc
    rw [cntS_put] at hc
    split at hc
    · rename_i e; subst e; exact decide_eq_true (by omega)
    · exact decide_eq_true hc
  have hkl : (kidsT t w).length = t.fIn.toNat := by simp [kidsT]
  have hw := h.let_ w List.mem_cons_self
  refine ⟨⟨⟨?_, ?_, ?_, ?_⟩, fun x hx => ?_, fun K => ?_, fun K => ?_, ?_⟩, hfr⟩
  · rcases h.seen.start with h1 | h1
    · exact .inl (List.mem_cons_of_mem _ h1)
    · rw [List.map_cons, List.mem_cons] at h1
      rcases h1 with h1 | h1
      · exact .inl (by rw [h1]; exact List.mem_cons_self)
      · exact .inr (by rw [List.map_append]; exact List.mem_append_left _ h1)
  · intro x hx
    rw [List.map_append, List.mem_append] at hx
    rcases hx with hx | hx | hx
    · rcases List.mem_cons.1 hx with rfl | hx
      · exact hw.1.kw
      · exact h.seen.kw x (.inl hx)
    · exact h.seen.kw x (.inr (by rw [List.map_cons]; exact List.mem_cons_of_mem _ hx))
    · obtain ⟨y, hy, rfl⟩ := List.mem_map.1 hx
      obtain ⟨a, ha, rfl⟩ := List.mem_map.1 hy
      rw [nats_snoc]
      exact hw.1.kw.app (KW.cons (List.mem_range.1 ha) KW.nil)
  · intro x hx
    rcases List.mem_cons.1 hx with rfl | hx
    · exact hE
    · exact h.seen.eq x hx
  · intro x hx
    rcases List.mem_cons.1 hx with rfl | hx
    · refine ⟨_, List.mem_cons_self, rfl, fun a ha => .inr ?_⟩
      rw [List.map_append]
      refine List.mem_append_right _ (List.mem_map.2 ⟨w ++ [(a : Int)], List.mem_map.2 ⟨a, List.mem_range.2 ha, rfl⟩, nats_snoc w a⟩)
    · obtain ⟨w1, h1, h2, h3⟩ := h.seen.more x hx
      refine ⟨w1, List.mem_cons_of_mem _ h1, h2, fun a ha => ?_⟩
      rcases h3 a ha with h4 | h4
      · exact .inl (List.mem_cons_of_mem _ h4)
      · rw [List.map_cons, List.mem_cons] at h4
        rcases h4 with h4 | h4
        · exact .inl (by rw [h4]; exact List.mem_cons_self)
        · exact .inr (by rw [List.map_append]; exact List.mem_append_left _ h4)
  · rcases List.mem_append.1 hx with hx | hx
    · have := h.let_ x (List.mem_cons_of_mem _ hx)
      exact ⟨this.1, by omega⟩
    · obtain ⟨a, ha, rfl⟩ := List.mem_map.1 hx
      have ha := List.mem_range.1 ha
      refine ⟨hw.1.app fun b hb => by rw [List.mem_singleton.1 hb]; omega, ?_⟩
      rw [List.length_append]
      have := hw.2
      simp only [List.length_cons, List.length_nil]
      omega
  · have := h.cnt K
    rw [cntS_put, List.length_cons]
    split <;> omega
  · rw [cntS_put]
    split
    · rename_i e
      exact ⟨fun _ => ⟨_, List.mem_cons_self, e.symm⟩, fun _ => by omega⟩
    · rename_i e
      rw [h.has K]
      constructor
      · rintro ⟨x, hx, e2⟩; exact ⟨x, List.mem_cons_of_mem _ hx, e2⟩
      · rintro ⟨x, hx, e2⟩
        rcases List.mem_cons.1 hx with rfl | hx
        · exact absurd e2.symm e
        · exact ⟨x, hx, e2⟩
  · have := h.room
    rw [List.length_append, hkl]
    simp only [List.length_cons] at this ⊢
    omega
def difErr (t u : ApiTrans) : Int := if trErr t ≠ 0 then trErr t else if trErr u ≠ 0 then trErr u else if t.fIn ≠ u.fIn ∨ t.fOut ≠ u.fOut then 3 else 0
def DiffQ (t u : ApiTrans) (r : List Int × Bool × Int) : Prop := r.2.2 = difErr t u ∧ (difErr t u = 0 → (r.2.1 = true → ∃ w, KW t.fIn.toNat w ∧ funT t w ≠ funT u w) ∧ (r.2.1 = false → ∀ w, KW t.fIn.toNat w → funT t w = funT u w))
theorem runI2 {t : ApiTrans} (h : 0 ≤ t.fStart) (w : List Int) : (runI t t.fStart w).2 = (atT t t.fStart.toNat (nats w) : Int) := by
  unfold runI
  rw [runT_at]
theorem trDiffer_ok (t u : ApiTrans) : trDiffer_vc t u (DiffQ t u) := by
  intro _ _ _ _ _ _ _ _
  refine ⟨fun i => i = 0 ∨ (i = 1 ∧ trErr t = 0) ∨ (i = 2 ∧ trErr t = 0 ∧ trErr u = 0), fun i => 2 - i.toNat, .inl rfl, ?_⟩
  intro i hi
  refine ⟨fun hb => ?_, fun hb => ?_⟩
  · rcases hi with rfl | ⟨rfl, h1⟩ | ⟨rfl, _⟩
    · refine ⟨t, rfl, fun h => ?_, fun h => ⟨.inr (.inl ⟨by decide, by simpa using h⟩), by decide⟩⟩
      have h : trErr t ≠ 0 := by simpa using h
      have hd : difErr t u = trErr t := by unfold difErr; rw [if_pos h]
      exact ⟨hd.symm, fun h0 => absurd (hd.symm.trans h0) h⟩
    · refine ⟨u, rfl, fun h => ?_, fun h => ⟨.inr (.inr ⟨by decide, h1, by simpa using h⟩), by decide⟩⟩
      have h : trErr u ≠ 0 := by simpa using h
      have hd : difErr t u = trErr u := by unfold difErr; rw [if_neg (by simp [h1]), if_pos h]
      exact ⟨hd.symm, fun h0 => absurd (hd.symm.trans h0) h⟩
    · exact absurd hb (by simp)
  have hge : ¬ i < 2 := of_decide_eq_false hb
  have h12 : trErr t = 0 ∧ trErr u = 0 := by
    rcases hi with rfl | ⟨rfl, _⟩ | ⟨rfl, h⟩
    · exact absurd (by decide) hge
    · exact absurd (by decide) hge
    · exact h
  have hd : difErr t u = if t.fIn ≠ u.fIn ∨ t.fOut ≠ u.fOut then 3 else 0 := by unfold difErr; rw [if_neg (by simp [h12.1]), if_neg (by simp [h12.2])]
  refine ⟨fun h3 => ?_, fun h3 => ?_⟩
  · have h3 : t.fIn ≠ u.fIn ∨ t.fOut ≠ u.fOut := by simpa using h3
    rw [if_pos h3] at hd
    exact ⟨hd.symm, fun h0 => by rw [hd] at h0; cases h0⟩
  have h3 : t.fIn = u.fIn ∧ t.fOut = u.fOut := by simpa using h3
  have h3' : ¬ (t.fIn ≠ u.fIn ∨ t.fOut ≠ u.fOut) := fun h => by rcases h with h | h; exact h h3.1; exact h h3.2
  rw [if_neg h3'] at hd
  have ht := (trErr_iff t).1 h12.1
  have hu := (trErr_iff u).1 h12.2
  have hts := ht.start
  have hus := hu.start
  have hin := ht.in_
  have hps := pairsT_len ht.size.2 hu.size.2
  have hfl : ∀ m, fresh t u m ≤ 36 := fun m => Nat.le_trans (List.length_filter_le _ _) hps
  refine ⟨fun m l => ∃ done, DInv t u m l done, fun m l => 5 * fresh t u m + l.length, ⟨[], ⟨⟨.inr (by simp [nats]), fun w hw => ?_, (fun w hw => by cases hw), (fun w hw => by cases hw)⟩, fun w hw => ?_, fun K => ⟨Int.le_refl _, Int.le_refl _⟩, fun K => ⟨fun h => absurd h (show ¬ (1 : Int) ≤ 0 by decide), (fun h => by obtain ⟨w, hw, _⟩ := h; cases hw)⟩, ?_⟩⟩, ?_⟩
  · rcases hw with hw | hw
    · cases hw
    · simp [nats] at hw
      subst hw
      exact KW.nil
  · rw [List.mem_singleton.1 hw]
    exact ⟨(fun b hb => by cases hb), by have := hfl []; simp; omega⟩
  · have := hfl []
    simp
    omega
  rintro m l ⟨done, hD⟩
  refine ⟨fun hb => ?_, fun hb => ?_⟩
  · have hpos : 0 < l.length := by have := of_decide_eq_true hb; omega
    obtain ⟨w, l, rfl⟩ : ∃ w r, l = w :: r := by
      cases l with
      | nil => simp at hpos
      | cons w r => exact ⟨w, r, rfl⟩
    have hw := hD.let_ w List.mem_cons_self
    have hwu : LetOk u.fIn w := by rw [← h3.1]; exact hw.1
    have hkey : TransPair.mk (runI t t.fStart w).2 (runI u u.fStart w).2 = pairI t u (nats w) := by
      rw [runI2 hts.1, runI2 hus.1]
      rfl
    have hKm : pairI t u (nats w) ∈ pairsT t u := by
      unfold pairI
      rw [← runT_at, ← runT_at]
      exact pairsT_mem (runT_in ht.ok (by omega) hw.1) (runT_in hu.ok (by omega) hwu)
    have hcn := hD.cnt (pairI t u (nats w))
    have hroom := hD.room
    simp only [List.length_cons] at hroom
    refine ⟨fun m' l' => m' = mput (pairI t u (nats w)) (cntS m (pairI t u (nats w)) + 1) m ∧ EqT t u (nats w) ∧ ((1 ≤ cntS m (pairI t u (nats w)) ∧ l' = w :: l) ∨ (¬ 1 ≤ cntS m (pairI t u (nats w)) ∧ l' = w :: (l ++ kidsT t w))), ⟨w, rfl, ⟨ht.ok, ht.shortT.mono (by decide), hw.1, by omega⟩, ⟨hu.ok, hu.shortT.mono (by decide), hwu, by omega⟩, ?_⟩, ?_⟩
    rotate_left
    · rintro m' l' ⟨rfl, hE, ⟨hv1, rfl⟩ | ⟨hv1, rfl⟩⟩
      · obtain ⟨h1, h2⟩ := hD.again hE hv1
        refine ⟨⟨by decide, by simp only [List.length_cons]; omega⟩, ⟨_, h1⟩, ?_⟩
        show 5 * fresh t u _ + l.length < 5 * fresh t u m + (w :: l).length
        rw [h2, List.length_cons]
        omega
      · obtain ⟨h1, h2⟩ := hD.first hE hv1 hKm hin
        refine ⟨⟨by decide, by simp only [List.length_cons]; omega⟩, ⟨_, h1⟩, ?_⟩
        show 5 * fresh t u _ + (l ++ kidsT t w).length < 5 * fresh t u m + (w :: l).length
        have hkl : (kidsT t w).length = t.fIn.toNat := by simp [kidsT]
        rw [List.length_append, hkl, List.length_cons]
        omega
    rw [hkey]
    simp only [mput_put, mget_put, if_true, Option.getD_some]
    have hv : (mget (pairI t u (nats w)) m).getD 0 = cntS m (pairI t u (nats w)) := rfl
    rw [hv, show wr (cntS m (pairI t u (nats w)) + 1) = cntS m (pairI t u (nats w)) + 1 from wr_in (by omega) (by omega)]
    refine ⟨fun h => ?_, fun h => ?_⟩
    · have h : ¬ wholeR t w = wholeR u w := by simpa using h
      exact ⟨hd.symm, fun _ => ⟨fun _ => ⟨nats w, hw.1.kw, h⟩, (fun h => by cases h)⟩⟩
    · have hE : EqT t u (nats w) := by have h : wholeR t w = wholeR u w := by simpa using h
                                       exact h
      refine ⟨⟨ht.ok, ht.shortT.mono (by decide), hts.1, hts.2, hw.1, by omega⟩, ⟨hu.ok, hu.shortT.mono (by decide), hus.1, hus.2, hwu, by omega⟩, fun h => ?_, fun h => ?_⟩
      · have := of_decide_eq_true h
        exact ⟨by trivial, hE, .inl ⟨by omega, by trivial⟩⟩
      · have hv1 := of_decide_eq_false h
        refine ⟨fun i l' => ∃ k : Nat, i = k ∧ k ≤ t.fIn.toNat ∧ l' = w :: (l ++ (List.range k).map fun (a : Nat) => w ++ [(a : Int)]), fun i _ => t.fIn.toNat - i.toNat, ⟨0, rfl, Nat.zero_le _, by simp⟩, ?_⟩
        rintro i l' ⟨k, rfl, hk, rfl⟩
        refine ⟨fun hb => ?_, fun hb => ?_⟩
        · have hka : k < t.fIn.toNat := by have := of_decide_eq_true hb; omega
          refine ⟨by omega, capOk_of (by simp only [List.length_cons, List.length_nil]; omega), capOk_of (by simp only [List.length_cons, List.length_nil, List.length_append, List.length_map, List.length_range]; omega), ⟨k + 1, wsucc (by omega), hka, ?_⟩, mu_up hka (by omega)⟩
          rw [List.range_succ, List.map_append]
          simp
        · have hke : k = t.fIn.toNat := by have := of_decide_eq_false hb; omega
          subst hke
          exact ⟨by trivial, hE, .inr ⟨by omega, by trivial⟩⟩
  · have hl : l = [] := List.eq_nil_of_length_eq_zero (by have := of_decide_eq_false hb; omega)
    subst hl
    exact ⟨hd.symm, fun _ => ⟨(fun h => by cases h), fun _ w hw => hD.seen.all hw⟩⟩
theorem trDiffer_ct (t u : ApiTrans) : Ct 21 [.sv (.agg [I t.fIn, I t.fOut, I t.fStart, LS intT t.fFirst, LS (lsT intT) t.fNext, LS (lsT (lsT intT)) t.fSays, LS (lsT intT) t.fLast]), .sv (.agg [I u.fIn, I u.fOut, I u.fStart, LS intT u.fFirst, LS (lsT intT) u.fNext, LS (lsT (lsT intT)) u.fSays, LS (lsT intT) u.fLast])] [] (DiffQ t u) (fun (r : ((List Int) × Bool × Int)) => .tup [.one (LS intT r.1), .one (B r.2.1), .one (I r.2.2)]) := trDiffer_walk t u (DiffQ t u) (trDiffer_ok t u)
end Go.Proofs.Ytiinkohfldopbaa

/- The laws TransRow and TopSaid. No condition. -/
namespace Go.Proofs.Ytiinkohfldopbaa
open Go.RowKit Go.MapKept
set_option linter.unusedSimpArgs false
set_option linter.unusedVariables false
set_option maxRecDepth 100000

def alikeW_vc (a : (List Int)) (b : (List Int)) (Q : Bool → Prop) : Prop :=
  a.length ≤ 9223372036854775807 →
  b.length ≤ 9223372036854775807 →
  (IfP ((a.length : Int) != (b.length : Int)) (Q false) (∃ (Inv : Int → Prop) (mu : Int → Nat), Inv 0 ∧
  ∀ (x5 : Int) , Inv x5 → (IfP (decide (x5 < (a.length : Int))) (∃ e, idx a x5 = some e ∧
  ∃ e_2, idx b x5 = some e_2 ∧
  IfP (e != e_2) (Q false) ((Inv (wr (x5 + 1)) ∧ mu (wr (x5 + 1)) < mu x5))) (Q true))))
theorem alikeW_walk (a : (List Int)) (b : (List Int)) (Q : Bool → Prop) (h : alikeW_vc a b Q) : Ct 43 [.sv (.one (LS intT a)), .sv (.one (LS intT b))] [] Q (fun (r : Bool) => .sv (.one (B r))) := by
  have ht := tab_ok
  refine Ct.body Try.func43 rfl rfl rfl rfl (fun c hn => ?_)
  unfold alikeW_vc at h
  refine En.lenL 0 (by rfl) (fun hl => ?_)
  replace h := h hl
  clear hl
  refine En.lenL 1 (by rfl) (fun hl => ?_)
  replace h := h hl
  clear hl
  refine En.seq ?_
  refine En.region ?_
  refine WL.run ht hn 1 ⟨[(0, .sv (.one (LS intT a))), (1, .sv (.one (LS intT b)))], []⟩ (by kernel_rfl) ?_
  refine WL.nil ?_
  refine En.seq ?_
  refine En.seq ?_
  refine En.region ?_
  refine WL.run ht hn 5 ⟨[(0, .sv (.one (LS intT a))), (1, .sv (.one (LS intT b))), (10, .sv (.one (B ((a.length : Int) != (b.length : Int)))))], []⟩ (by kernel_rfl) ?_
  refine WL.nil ?_
  refine En.cond (b := ((a.length : Int) != (b.length : Int))) (by kernel_rfl) (fun hb => ?_) (fun hb => ?_)
  · replace h := h.1 hb
    refine En.seq ?_
    refine En.region ?_
    refine WL.run ht hn 1 ⟨[(4, .sv (.one (B false)))], []⟩ (by kernel_rfl) ?_
    refine WL.nil ?_
    refine En.ret ?_
    exact En.back ht false h (by kernel_rfl) rfl
  · replace h := h.2 hb
    refine En.skip ?_
    refine En.seq ?_
    refine En.seq ?_
    refine En.region ?_
    refine WL.run ht hn 1 ⟨[(0, .sv (.one (LS intT a))), (1, .sv (.one (LS intT b))), (5, .sv (.one (I 0)))], []⟩ (by kernel_rfl) ?_
    refine WL.nil ?_
    refine En.block ?_
    obtain ⟨Inv, mu, h0, hI⟩ := h
    refine En.loop (σ := Int) (fun zz => Inv zz) (fun zz => mu zz) (fun zz => ⟨[(0, .sv (.one (LS intT a))), (1, .sv (.one (LS intT b))), (5, .sv (.one (I zz)))], []⟩) 0 h0 (sub_ok (by kernel_rfl)) ?_
    intro x5 h
    replace h := hI _ h
    show En c ⟨[(0, .sv (.one (LS intT a))), (1, .sv (.one (LS intT b))), (5, .sv (.one (I x5)))], []⟩ _
    refine En.seq ?_
    refine En.seq ?_
    refine En.region ?_
    refine WL.run ht hn 4 ⟨[(0, .sv (.one (LS intT a))), (1, .sv (.one (LS intT b))), (5, .sv (.one (I x5))), (14, .sv (.one (B (decide (x5 < (a.length : Int))))))], []⟩ (by kernel_rfl) ?_
    refine WL.nil ?_
    refine En.cond (b := (decide (x5 < (a.length : Int)))) (by kernel_rfl) (fun hb => ?_) (fun hb => ?_)
    · replace h := h.1 hb
      refine En.skip ?_
      refine En.seq ?_
      refine En.block ?_
      refine En.seq ?_
      refine En.regionS (by kernel_rfl) (by kernel_rfl) ?_
      refine SL.run ht hn 2 ⟨[(0, .sv (.one (LS intT a))), (1, .sv (.one (LS intT b))), (5, .sv (.one (I x5))), (17, .sv (.one (LS intT a))), (18, .sv (.one (I x5)))], []⟩ (by kernel_rfl) ?_
      obtain ⟨e, he, h⟩ := h
      refine SL.val hn (by rfl) (val_index (T := intT) (l := a) (i := x5) ht rfl (by rfl) (by rfl) (by rfl) (by rfl) (by rfl) (by rfl) he) (by rfl) ?_
      refine SL.val hn (by rfl) (val_load (s := .one (I e)) ht rfl (by rfl) (by rfl) (by rfl) (by rfl) (by rfl)) (by rfl) ?_
      refine SL.run ht hn 2 ⟨[(0, .sv (.one (LS intT a))), (1, .sv (.one (LS intT b))), (5, .sv (.one (I x5))), (17, .sv (.one (LS intT a))), (18, .sv (.one (I x5))), (19, .sv (.one (.pe (svR (.one (I e))) 1))), (20, .sv (.one (I e))), (21, .sv (.one (LS intT b))), (22, .sv (.one (I x5)))], []⟩ (by kernel_rfl) ?_
      obtain ⟨e_2, he_2, h⟩ := h
      refine SL.val hn (by rfl) (val_index (T := intT) (l := b) (i := x5) ht rfl (by rfl) (by rfl) (by rfl) (by rfl) (by rfl) (by rfl) he_2) (by rfl) ?_
      refine SL.val hn (by rfl) (val_load (s := .one (I e_2)) ht rfl (by rfl) (by rfl) (by rfl) (by rfl) (by rfl)) (by rfl) ?_
      refine SL.run ht hn 1 ⟨[(0, .sv (.one (LS intT a))), (1, .sv (.one (LS intT b))), (5, .sv (.one (I x5))), (17, .sv (.one (LS intT a))), (18, .sv (.one (I x5))), (19, .sv (.one (.pe (svR (.one (I e))) 1))), (20, .sv (.one (I e))), (21, .sv (.one (LS intT b))), (22, .sv (.one (I x5))), (23, .sv (.one (.pe (svR (.one (I e_2))) 1))), (24, .sv (.one (I e_2))), (25, .sv (.one (B (e != e_2))))], []⟩ (by kernel_rfl) ?_
      refine SL.nil ⟨by kernel_rfl, ?_⟩
      refine En.cond (b := (e != e_2)) (by kernel_rfl) (fun hb => ?_) (fun hb => ?_)
      · replace h := h.1 hb
        refine En.seq ?_
        refine En.region ?_
        refine WL.run ht hn 1 ⟨[(4, .sv (.one (B false)))], []⟩ (by kernel_rfl) ?_
        refine WL.nil ?_
        refine En.ret ?_
        exact En.back ht false h (by kernel_rfl) rfl
      · replace h := h.2 hb
        refine En.skip ?_
        refine En.region ?_
        refine WL.run ht hn 3 ⟨[(0, .sv (.one (LS intT a))), (1, .sv (.one (LS intT b))), (5, .sv (.one (I (wr (x5 + 1)))))], []⟩ (by kernel_rfl) ?_
        refine WL.nil ?_
        exact En.at (I := fun zz => Inv zz ∧ mu zz < mu x5) (T := fun zz => ⟨[(0, .sv (.one (LS intT a))), (1, .sv (.one (LS intT b))), (5, .sv (.one (I zz)))], []⟩) (wr (x5 + 1)) h (by kernel_rfl)
    · replace h := h.2 hb
      refine En.exit rfl ?_
      refine En.seq ?_
      refine En.region ?_
      refine WL.run ht hn 1 ⟨[(4, .sv (.one (B true)))], []⟩ (by kernel_rfl) ?_
      refine WL.nil ?_
      refine En.ret ?_
      exact En.back ht true h (by kernel_rfl) rfl
theorem en43 : ∀ args w, (callFunc 43 args).run Try.prog w = .ok (.enter 43 args) w := enters_of Try.func43 (by kernel_rfl) rfl
theorem alikeW_ct (a : (List Int)) (b : (List Int))  : Ct 43 [.sv (.one (LS intT a)), .sv (.one (LS intT b))] [] (fun (_ : Unit) => True) (fun _ => .sv (.one (B (decide (a = b))))) := by
  refine (alikeW_walk a b (fun res_ => res_ = (decide (a = b))) ?_).fun
  intro ha hb
  refine ⟨fun h => ?_, fun h => ?_⟩
  · show false = decide (a = b)
    rw [eq_comm, decide_eq_false_iff_not]
    rintro rfl
    simp at h
  have hl : a.length = b.length := by have := h; simp only [bne_eq_false_iff_eq] at this; omega
  refine ⟨fun i => ∃ k : Nat, i = k ∧ k ≤ a.length ∧ a.take k = b.take k, fun i => a.length - i.toNat, ⟨0, rfl, Nat.zero_le _, by simp⟩, ?_⟩
  rintro i ⟨k, rfl, hk, ht⟩
  refine ⟨fun hb1 => ?_, fun hb1 => ?_⟩
  · have hlt := dlt hb1
    have hlt2 : k < b.length := by omega
    refine ⟨_, idx_at hlt, _, idx_at hlt2, fun hne => ?_, fun he => ⟨⟨k + 1, wsucc (by omega), hlt, ?_⟩, mu_up hlt (by omega)⟩⟩
    · show false = decide (a = b)
      rw [eq_comm, decide_eq_false_iff_not]
      rintro rfl
      simp at hne
    · have he : a[k] = b[k] := by simpa using he
      rw [List.take_add_one, List.take_add_one, ht, List.getElem?_eq_getElem hlt, List.getElem?_eq_getElem hlt2, he]
  · have hge := dge hb1
    rw [List.take_of_length_le hge, List.take_of_length_le (by omega)] at ht
    show true = decide (a = b)
    rw [ht]
    simp
def sameTrans_vc (t : ApiTrans) (u : ApiTrans) (Q : Bool → Prop) : Prop :=
  t.fFirst.length ≤ 9223372036854775807 →
  t.fNext.length ≤ 9223372036854775807 →
  t.fSays.length ≤ 9223372036854775807 →
  t.fLast.length ≤ 9223372036854775807 →
  u.fFirst.length ≤ 9223372036854775807 →
  u.fNext.length ≤ 9223372036854775807 →
  u.fSays.length ≤ 9223372036854775807 →
  u.fLast.length ≤ 9223372036854775807 →
  (IfP (((((t.fIn != u.fIn) || (t.fOut != u.fOut)) || (t.fStart != u.fStart)) || (!(decide (t.fFirst = u.fFirst)))) || ((t.fNext.length : Int) != (u.fNext.length : Int))) (Q false) (∃ (Inv : Int → Prop) (mu : Int → Nat), Inv 0 ∧
  ∀ (x6 : Int) , Inv x6 → (IfP (decide (x6 < (t.fNext.length : Int))) (∃ e, idx t.fNext x6 = some e ∧
  ∃ e_2, idx u.fNext x6 = some e_2 ∧
  ∃ e_3, idx t.fLast x6 = some e_3 ∧
  ∃ e_4, idx u.fLast x6 = some e_4 ∧
  IfP ((!(decide (e = e_2))) || (!(decide (e_3 = e_4)))) (Q false) (∃ (Inv_2 : Int → Prop) (mu_2 : Int → Nat), Inv_2 0 ∧
  ∀ (x9 : Int) , Inv_2 x9 → (IfP (decide (x9 < t.fIn)) (∃ e_5, idx t.fSays x6 = some e_5 ∧
  ∃ e_6, idx e_5 x9 = some e_6 ∧
  ∃ e_7, idx u.fSays x6 = some e_7 ∧
  ∃ e_8, idx e_7 x9 = some e_8 ∧
  IfP (!(decide (e_6 = e_8))) (Q false) ((Inv_2 (wr (x9 + 1)) ∧ mu_2 (wr (x9 + 1)) < mu_2 x9))) ((Inv (wr (x6 + 1)) ∧ mu (wr (x6 + 1)) < mu x6))))) (Q true))))
set_option maxHeartbeats 2000000 in
theorem sameTrans_walk (t : ApiTrans) (u : ApiTrans) (Q : Bool → Prop) (h : sameTrans_vc t u Q) : Ct 27 [.sv (.agg [I t.fIn, I t.fOut, I t.fStart, LS intT t.fFirst, LS (lsT intT) t.fNext, LS (lsT (lsT intT)) t.fSays, LS (lsT intT) t.fLast]), .sv (.agg [I u.fIn, I u.fOut, I u.fStart, LS intT u.fFirst, LS (lsT intT) u.fNext, LS (lsT (lsT intT)) u.fSays, LS (lsT intT) u.fLast])] [] Q (fun (r : Bool) => .sv (.one (B r))) := by
  have ht := tab_ok
  refine Ct.body Try.func27 rfl rfl rfl rfl (fun c hn => ?_)
  unfold sameTrans_vc at h
  refine En.lenA 0 3 (by rfl) (by rfl) (fun hl => ?_)
  replace h := h hl
  clear hl
  refine En.lenA 0 4 (by rfl) (by rfl) (fun hl => ?_)
  replace h := h hl
  clear hl
  refine En.lenA 0 5 (by rfl) (by rfl) (fun hl => ?_)
  replace h := h hl
  clear hl
  refine En.lenA 0 6 (by rfl) (by rfl) (fun hl => ?_)
  replace h := h hl
  clear hl
  refine En.lenA 1 3 (by rfl) (by rfl) (fun hl => ?_)
  replace h := h hl
  clear hl
  refine En.lenA 1 4 (by rfl) (by rfl) (fun hl => ?_)
  replace h := h hl
  clear hl
  refine En.lenA 1 5 (by rfl) (by rfl) (fun hl => ?_)
  replace h := h hl
  clear hl
  refine En.lenA 1 6 (by rfl) (by rfl) (fun hl => ?_)
  replace h := h hl
  clear hl
  refine En.seq ?_
  refine En.region ?_
  refine WL.run ht hn 3 ⟨[(2, .sv (.one (.ptr 0 0))), (3, .sv (.one (.ptr 1 0)))], [.box [I t.fIn, I t.fOut, I t.fStart, LS intT t.fFirst, LS (lsT intT) t.fNext, LS (lsT (lsT intT)) t.fSays, LS (lsT intT) t.fLast] 33 false, .box [I u.fIn, I u.fOut, I u.fStart, LS intT u.fFirst, LS (lsT intT) u.fNext, LS (lsT (lsT intT)) u.fSays, LS (lsT intT) u.fLast] 33 false]⟩ (by kernel_rfl) ?_
  refine WL.nil ?_
  refine En.seq ?_
  refine En.region ?_
  refine WL.run ht hn 4 ⟨[(2, .sv (.one (.ptr 0 0))), (3, .sv (.one (.ptr 1 0))), (12, .sv (.one (LS intT t.fFirst))), (14, .sv (.one (LS intT u.fFirst)))], [.box [I t.fIn, I t.fOut, I t.fStart, LS intT t.fFirst, LS (lsT intT) t.fNext, LS (lsT (lsT intT)) t.fSays, LS (lsT intT) t.fLast] 33 false, .box [I u.fIn, I u.fOut, I u.fStart, LS intT u.fFirst, LS (lsT intT) u.fNext, LS (lsT (lsT intT)) u.fSays, LS (lsT intT) u.fLast] 33 false]⟩ (by kernel_rfl) ?_
  refine WL.mt0 (K := []) (p := none) hn (by rfl) (mt_call (alikeW_ct t.fFirst u.fFirst) en43 (caps := []) [] rfl (by rfl) (by kernel_rfl) (by kernel_rfl) (by rfl) (by rfl) (by rfl)) (by rfl) (by rfl) (by rfl) ?_
  refine WL.run ht hn 1 ⟨[(2, .sv (.one (.ptr 0 0))), (3, .sv (.one (.ptr 1 0))), (5, .sv (.one (B (decide (t.fFirst = u.fFirst)))))], [.box [I t.fIn, I t.fOut, I t.fStart, LS intT t.fFirst, LS (lsT intT) t.fNext, LS (lsT (lsT intT)) t.fSays, LS (lsT intT) t.fLast] 33 false, .box [I u.fIn, I u.fOut, I u.fStart, LS intT u.fFirst, LS (lsT intT) u.fNext, LS (lsT (lsT intT)) u.fSays, LS (lsT intT) u.fLast] 33 false]⟩ (by kernel_rfl) ?_
  refine WL.nil ?_
  refine En.seq ?_
  refine En.seq ?_
  refine En.region ?_
  refine WL.run ht hn 6 ⟨[(2, .sv (.one (.ptr 0 0))), (3, .sv (.one (.ptr 1 0))), (5, .sv (.one (B (decide (t.fFirst = u.fFirst))))), (21, .sv (.one (B (t.fIn != u.fIn))))], [.box [I t.fIn, I t.fOut, I t.fStart, LS intT t.fFirst, LS (lsT intT) t.fNext, LS (lsT (lsT intT)) t.fSays, LS (lsT intT) t.fLast] 33 false, .box [I u.fIn, I u.fOut, I u.fStart, LS intT u.fFirst, LS (lsT intT) u.fNext, LS (lsT (lsT intT)) u.fSays, LS (lsT intT) u.fLast] 33 false]⟩ (by kernel_rfl) ?_
  refine WL.thru ⟨[(2, .sv (.one (.ptr 0 0))), (3, .sv (.one (.ptr 1 0))), (47, .sv (.one (B (((((t.fIn != u.fIn) || (t.fOut != u.fOut)) || (t.fStart != u.fStart)) || (!(decide (t.fFirst = u.fFirst)))) || ((t.fNext.length : Int) != (u.fNext.length : Int))))))], [.box [I t.fIn, I t.fOut, I t.fStart, LS intT t.fFirst, LS (lsT intT) t.fNext, LS (lsT (lsT intT)) t.fSays, LS (lsT intT) t.fLast] 33 false, .box [I u.fIn, I u.fOut, I u.fStart, LS intT u.fFirst, LS (lsT intT) u.fNext, LS (lsT (lsT intT)) u.fSays, LS (lsT intT) u.fLast] 33 false]⟩ ?_ ?_
  · refine splitB (t.fIn != u.fIn) (fun hb0 => ?_) (fun hb0 => ?_)
    · refine WL.setB 21 hb0 (by kernel_rfl) ?_
      refine WL.run ht hn 26 ⟨[(2, .sv (.one (.ptr 0 0))), (3, .sv (.one (.ptr 1 0))), (47, .sv (.one (B true)))], [.box [I t.fIn, I t.fOut, I t.fStart, LS intT t.fFirst, LS (lsT intT) t.fNext, LS (lsT (lsT intT)) t.fSays, LS (lsT intT) t.fLast] 33 false, .box [I u.fIn, I u.fOut, I u.fStart, LS intT u.fFirst, LS (lsT intT) u.fNext, LS (lsT (lsT intT)) u.fSays, LS (lsT intT) u.fLast] 33 false]⟩ (by kernel_rfl) ?_
      exact WL.nil (sub_ok (by simp only [hb0]; kernel_rfl))
    · refine WL.setB 21 hb0 (by kernel_rfl) ?_
      refine WL.run ht hn 7 ⟨[(2, .sv (.one (.ptr 0 0))), (3, .sv (.one (.ptr 1 0))), (5, .sv (.one (B (decide (t.fFirst = u.fFirst))))), (28, .sv (.one (B (t.fOut != u.fOut))))], [.box [I t.fIn, I t.fOut, I t.fStart, LS intT t.fFirst, LS (lsT intT) t.fNext, LS (lsT (lsT intT)) t.fSays, LS (lsT intT) t.fLast] 33 false, .box [I u.fIn, I u.fOut, I u.fStart, LS intT u.fFirst, LS (lsT intT) u.fNext, LS (lsT (lsT intT)) u.fSays, LS (lsT intT) u.fLast] 33 false]⟩ (by kernel_rfl) ?_
      refine splitB (t.fOut != u.fOut) (fun hb1 => ?_) (fun hb1 => ?_)
      · refine WL.setB 28 hb1 (by kernel_rfl) ?_
        refine WL.run ht hn 19 ⟨[(2, .sv (.one (.ptr 0 0))), (3, .sv (.one (.ptr 1 0))), (47, .sv (.one (B true)))], [.box [I t.fIn, I t.fOut, I t.fStart, LS intT t.fFirst, LS (lsT intT) t.fNext, LS (lsT (lsT intT)) t.fSays, LS (lsT intT) t.fLast] 33 false, .box [I u.fIn, I u.fOut, I u.fStart, LS intT u.fFirst, LS (lsT intT) u.fNext, LS (lsT (lsT intT)) u.fSays, LS (lsT intT) u.fLast] 33 false]⟩ (by kernel_rfl) ?_
        exact WL.nil (sub_ok (by simp only [hb0, hb1]; kernel_rfl))
      · refine WL.setB 28 hb1 (by kernel_rfl) ?_
        refine WL.run ht hn 7 ⟨[(2, .sv (.one (.ptr 0 0))), (3, .sv (.one (.ptr 1 0))), (5, .sv (.one (B (decide (t.fFirst = u.fFirst))))), (35, .sv (.one (B (t.fStart != u.fStart))))], [.box [I t.fIn, I t.fOut, I t.fStart, LS intT t.fFirst, LS (lsT intT) t.fNext, LS (lsT (lsT intT)) t.fSays, LS (lsT intT) t.fLast] 33 false, .box [I u.fIn, I u.fOut, I u.fStart, LS intT u.fFirst, LS (lsT intT) u.fNext, LS (lsT (lsT intT)) u.fSays, LS (lsT intT) u.fLast] 33 false]⟩ (by kernel_rfl) ?_
        refine splitB (t.fStart != u.fStart) (fun hb2 => ?_) (fun hb2 => ?_)
        · refine WL.setB 35 hb2 (by kernel_rfl) ?_
          refine WL.run ht hn 12 ⟨[(2, .sv (.one (.ptr 0 0))), (3, .sv (.one (.ptr 1 0))), (47, .sv (.one (B true)))], [.box [I t.fIn, I t.fOut, I t.fStart, LS intT t.fFirst, LS (lsT intT) t.fNext, LS (lsT (lsT intT)) t.fSays, LS (lsT intT) t.fLast] 33 false, .box [I u.fIn, I u.fOut, I u.fStart, LS intT u.fFirst, LS (lsT intT) u.fNext, LS (lsT (lsT intT)) u.fSays, LS (lsT intT) u.fLast] 33 false]⟩ (by kernel_rfl) ?_
          exact WL.nil (sub_ok (by simp only [hb0, hb1, hb2]; kernel_rfl))
        · refine WL.setB 35 hb2 (by kernel_rfl) ?_
          refine WL.run ht hn 4 ⟨[(2, .sv (.one (.ptr 0 0))), (3, .sv (.one (.ptr 1 0))), (39, .sv (.one (B (!(decide (t.fFirst = u.fFirst))))))], [.box [I t.fIn, I t.fOut, I t.fStart, LS intT t.fFirst, LS (lsT intT) t.fNext, LS (lsT (lsT intT)) t.fSays, LS (lsT intT) t.fLast] 33 false, .box [I u.fIn, I u.fOut, I u.fStart, LS intT u.fFirst, LS (lsT intT) u.fNext, LS (lsT (lsT intT)) u.fSays, LS (lsT intT) u.fLast] 33 false]⟩ (by kernel_rfl) ?_
          refine splitB (!(decide (t.fFirst = u.fFirst))) (fun hb3 => ?_) (fun hb3 => ?_)
          · refine WL.setB 39 hb3 (by kernel_rfl) ?_
            refine WL.run ht hn 8 ⟨[(2, .sv (.one (.ptr 0 0))), (3, .sv (.one (.ptr 1 0))), (47, .sv (.one (B true)))], [.box [I t.fIn, I t.fOut, I t.fStart, LS intT t.fFirst, LS (lsT intT) t.fNext, LS (lsT (lsT intT)) t.fSays, LS (lsT intT) t.fLast] 33 false, .box [I u.fIn, I u.fOut, I u.fStart, LS intT u.fFirst, LS (lsT intT) u.fNext, LS (lsT (lsT intT)) u.fSays, LS (lsT intT) u.fLast] 33 false]⟩ (by kernel_rfl) ?_
            exact WL.nil (sub_ok (by simp only [hb0, hb1, hb2, hb3]; kernel_rfl))
          · refine WL.setB 39 hb3 (by kernel_rfl) ?_
            refine WL.run ht hn 8 ⟨[(2, .sv (.one (.ptr 0 0))), (3, .sv (.one (.ptr 1 0))), (47, .sv (.one (B ((t.fNext.length : Int) != (u.fNext.length : Int)))))], [.box [I t.fIn, I t.fOut, I t.fStart, LS intT t.fFirst, LS (lsT intT) t.fNext, LS (lsT (lsT intT)) t.fSays, LS (lsT intT) t.fLast] 33 false, .box [I u.fIn, I u.fOut, I u.fStart, LS intT u.fFirst, LS (lsT intT) u.fNext, LS (lsT (lsT intT)) u.fSays, LS (lsT intT) u.fLast] 33 false]⟩ (by kernel_rfl) ?_
            exact WL.nil (sub_ok (by simp only [hb0, hb1, hb2, hb3]; kernel_rfl))
  · refine En.cond (b := (((((t.fIn != u.fIn) || (t.fOut != u.fOut)) || (t.fStart != u.fStart)) || (!(decide (t.fFirst = u.fFirst)))) || ((t.fNext.length : Int) != (u.fNext.length : Int)))) (by kernel_rfl) (fun hb => ?_) (fun hb => ?_)
    · replace h := h.1 hb
      refine En.seq ?_
      refine En.region ?_
      refine WL.run ht hn 1 ⟨[(4, .sv (.one (B false)))], [.gone, .gone]⟩ (by kernel_rfl) ?_
      refine WL.nil ?_
      refine En.ret ?_
      exact En.back ht false h (by kernel_rfl) rfl
    · replace h := h.2 hb
      refine En.skip ?_
      refine En.seq ?_
      refine En.seq ?_
      refine En.region ?_
      refine WL.run ht hn 1 ⟨[(2, .sv (.one (.ptr 0 0))), (3, .sv (.one (.ptr 1 0))), (6, .sv (.one (I 0)))], [.box [I t.fIn, I t.fOut, I t.fStart, LS intT t.fFirst, LS (lsT intT) t.fNext, LS (lsT (lsT intT)) t.fSays, LS (lsT intT) t.fLast] 33 false, .box [I u.fIn, I u.fOut, I u.fStart, LS intT u.fFirst, LS (lsT intT) u.fNext, LS (lsT (lsT intT)) u.fSays, LS (lsT intT) u.fLast] 33 false]⟩ (by kernel_rfl) ?_
      refine WL.nil ?_
      refine En.block ?_
      obtain ⟨Inv, mu, h0_2, hI_2⟩ := h
      refine En.loop (σ := Int) (fun zz => Inv zz) (fun zz => mu zz) (fun zz => ⟨[(2, .sv (.one (.ptr 0 0))), (3, .sv (.one (.ptr 1 0))), (6, .sv (.one (I zz)))], [.box [I t.fIn, I t.fOut, I t.fStart, LS intT t.fFirst, LS (lsT intT) t.fNext, LS (lsT (lsT intT)) t.fSays, LS (lsT intT) t.fLast] 33 false, .box [I u.fIn, I u.fOut, I u.fStart, LS intT u.fFirst, LS (lsT intT) u.fNext, LS (lsT (lsT intT)) u.fSays, LS (lsT intT) u.fLast] 33 false]⟩) 0 h0_2 (sub_ok (by kernel_rfl)) ?_
      intro x6 h
      replace h := hI_2 _ h
      show En c ⟨[(2, .sv (.one (.ptr 0 0))), (3, .sv (.one (.ptr 1 0))), (6, .sv (.one (I x6)))], [.box [I t.fIn, I t.fOut, I t.fStart, LS intT t.fFirst, LS (lsT intT) t.fNext, LS (lsT (lsT intT)) t.fSays, LS (lsT intT) t.fLast] 33 false, .box [I u.fIn, I u.fOut, I u.fStart, LS intT u.fFirst, LS (lsT intT) u.fNext, LS (lsT (lsT intT)) u.fSays, LS (lsT intT) u.fLast] 33 false]⟩ _
      refine En.seq ?_
      refine En.seq ?_
      refine En.region ?_
      refine WL.run ht hn 5 ⟨[(2, .sv (.one (.ptr 0 0))), (3, .sv (.one (.ptr 1 0))), (6, .sv (.one (I x6))), (52, .sv (.one (B (decide (x6 < (t.fNext.length : Int))))))], [.box [I t.fIn, I t.fOut, I t.fStart, LS intT t.fFirst, LS (lsT intT) t.fNext, LS (lsT (lsT intT)) t.fSays, LS (lsT intT) t.fLast] 33 false, .box [I u.fIn, I u.fOut, I u.fStart, LS intT u.fFirst, LS (lsT intT) u.fNext, LS (lsT (lsT intT)) u.fSays, LS (lsT intT) u.fLast] 33 false]⟩ (by kernel_rfl) ?_
      refine WL.nil ?_
      refine En.cond (b := (decide (x6 < (t.fNext.length : Int)))) (by kernel_rfl) (fun hb => ?_) (fun hb => ?_)
      · replace h := h.1 hb
        refine En.skip ?_
        refine En.seq ?_
        refine En.block ?_
        refine En.seq ?_
        obtain ⟨e, he, h⟩ := h
        obtain ⟨e_2, he_2, h⟩ := h
        refine En.regionA ⟨[(2, .sv (.one (.ptr 0 0))), (3, .sv (.one (.ptr 1 0))), (6, .sv (.one (I x6)))], [.sv (.one (.ptr 0 4)), .sv (.one (LS (lsT intT) t.fNext)), .sv (.one (I x6)), .sv (.one (.pe (svR (.one (LS intT e))) 1)), .sv (.one (LS intT e)), .sv (.one (.ptr 1 4)), .sv (.one (LS (lsT intT) u.fNext)), .sv (.one (I x6)), .sv (.one (.pe (svR (.one (LS intT e_2))) 1)), .sv (.one (LS intT e_2)), .sv (.one (B (decide (e = e_2)))), .sv (.one (B (decide (e = e_2))))], [⟨.box [I t.fIn, I t.fOut, I t.fStart, LS intT t.fFirst, LS (lsT intT) t.fNext, LS (lsT (lsT intT)) t.fSays, LS (lsT intT) t.fLast] 33 false, none, none, none⟩, ⟨.box [I u.fIn, I u.fOut, I u.fStart, LS intT u.fFirst, LS (lsT intT) u.fNext, LS (lsT (lsT intT)) u.fSays, LS (lsT intT) u.fLast] 33 false, none, none, none⟩]⟩ ⟨[(2, .sv (.one (.ptr 0 0))), (3, .sv (.one (.ptr 1 0))), (6, .sv (.one (I x6))), (7, .sv (.one (B (decide (e = e_2)))))], [.box [I t.fIn, I t.fOut, I t.fStart, LS intT t.fFirst, LS (lsT intT) t.fNext, LS (lsT (lsT intT)) t.fSays, LS (lsT intT) t.fLast] 33 false, .box [I u.fIn, I u.fOut, I u.fStart, LS intT u.fFirst, LS (lsT intT) u.fNext, LS (lsT (lsT intT)) u.fSays, LS (lsT intT) u.fLast] 33 false]⟩ (by kernel_rfl) hn (by kernel_rfl) (by rfl) (by kernel_rfl) ?_ (by kernel_rfl) ?_
        · exact ⟨.mt ⟨[(2, .sv (.one (.ptr 0 0)))], []⟩ [] none (by kernel_rfl) (by rfl) (mt_ev ht (by kernel_rfl)) rfl rfl rfl rfl,
    .mt ⟨[(55, .sv (.one (.ptr 0 4)))], [.box [I t.fIn, I t.fOut, I t.fStart, LS intT t.fFirst, LS (lsT intT) t.fNext, LS (lsT (lsT intT)) t.fSays, LS (lsT intT) t.fLast] 33 false]⟩ [] none (by kernel_rfl) (by rfl) (mt_ev ht (by kernel_rfl)) rfl rfl rfl rfl,
    .mt ⟨[(6, .sv (.one (I x6)))], []⟩ [] none (by kernel_rfl) (by rfl) (mt_ev ht (by kernel_rfl)) rfl rfl rfl rfl,
    .mt ⟨[(56, .sv (.one (LS (lsT intT) t.fNext))), (57, .sv (.one (I x6)))], []⟩ [] none (by kernel_rfl) (by rfl) (mt_val (val_index (T := (lsT intT)) (l := t.fNext) (i := x6) ht rfl (by rfl) (by rfl) (by rfl) (by rfl) (by rfl) (by rfl) he)) rfl rfl rfl rfl,
    .mt ⟨[(58, .sv (.one (.pe (svR (.one (LS intT e))) 1)))], []⟩ [] none (by kernel_rfl) (by rfl) (mt_val (val_load (s := .one (LS intT e)) ht rfl (by rfl) (by rfl) (by rfl) (by rfl) (by rfl))) rfl rfl rfl rfl,
    .mt ⟨[(3, .sv (.one (.ptr 1 0)))], []⟩ [] none (by kernel_rfl) (by rfl) (mt_ev ht (by kernel_rfl)) rfl rfl rfl rfl,
    .mt ⟨[(60, .sv (.one (.ptr 1 4)))], [.gone, .box [I u.fIn, I u.fOut, I u.fStart, LS intT u.fFirst, LS (lsT intT) u.fNext, LS (lsT (lsT intT)) u.fSays, LS (lsT intT) u.fLast] 33 false]⟩ [] none (by kernel_rfl) (by rfl) (mt_ev ht (by kernel_rfl)) rfl rfl rfl rfl,
    .mt ⟨[(6, .sv (.one (I x6)))], []⟩ [] none (by kernel_rfl) (by rfl) (mt_ev ht (by kernel_rfl)) rfl rfl rfl rfl,
    .mt ⟨[(61, .sv (.one (LS (lsT intT) u.fNext))), (62, .sv (.one (I x6)))], []⟩ [] none (by kernel_rfl) (by rfl) (mt_val (val_index (T := (lsT intT)) (l := u.fNext) (i := x6) ht rfl (by rfl) (by rfl) (by rfl) (by rfl) (by rfl) (by rfl) he_2)) rfl rfl rfl rfl,
    .mt ⟨[(63, .sv (.one (.pe (svR (.one (LS intT e_2))) 1)))], []⟩ [] none (by kernel_rfl) (by rfl) (mt_val (val_load (s := .one (LS intT e_2)) ht rfl (by rfl) (by rfl) (by rfl) (by rfl) (by rfl))) rfl rfl rfl rfl,
    .mt ⟨[(59, .sv (.one (LS intT e))), (64, .sv (.one (LS intT e_2)))], []⟩ [] none (by kernel_rfl) (by rfl) (mt_call (alikeW_ct e e_2) en43 (caps := []) [] rfl (by rfl) (by kernel_rfl) (by kernel_rfl) (by rfl) (by rfl) (by rfl)) rfl rfl rfl rfl,
    .mt ⟨[(65, .sv (.one (B (decide (e = e_2)))))], []⟩ [] none (by kernel_rfl) (by rfl) (mt_ev ht (by kernel_rfl)) rfl rfl rfl rfl,
    trivial⟩
        · refine En.seq ?_
          obtain ⟨e_3, he_3, h⟩ := h
          obtain ⟨e_4, he_4, h⟩ := h
          refine En.regionA ⟨[(2, .sv (.one (.ptr 0 0))), (3, .sv (.one (.ptr 1 0))), (6, .sv (.one (I x6))), (7, .sv (.one (B (decide (e = e_2)))))], [.sv (.one (.ptr 0 6)), .sv (.one (LS (lsT intT) t.fLast)), .sv (.one (I x6)), .sv (.one (.pe (svR (.one (LS intT e_3))) 1)), .sv (.one (LS intT e_3)), .sv (.one (.ptr 1 6)), .sv (.one (LS (lsT intT) u.fLast)), .sv (.one (I x6)), .sv (.one (.pe (svR (.one (LS intT e_4))) 1)), .sv (.one (LS intT e_4)), .sv (.one (B (decide (e_3 = e_4)))), .sv (.one (B (decide (e_3 = e_4))))], [⟨.box [I t.fIn, I t.fOut, I t.fStart, LS intT t.fFirst, LS (lsT intT) t.fNext, LS (lsT (lsT intT)) t.fSays, LS (lsT intT) t.fLast] 33 false, none, none, none⟩, ⟨.box [I u.fIn, I u.fOut, I u.fStart, LS intT u.fFirst, LS (lsT intT) u.fNext, LS (lsT (lsT intT)) u.fSays, LS (lsT intT) u.fLast] 33 false, none, none, none⟩]⟩ ⟨[(2, .sv (.one (.ptr 0 0))), (3, .sv (.one (.ptr 1 0))), (6, .sv (.one (I x6))), (7, .sv (.one (B (decide (e = e_2))))), (8, .sv (.one (B (decide (e_3 = e_4)))))], [.box [I t.fIn, I t.fOut, I t.fStart, LS intT t.fFirst, LS (lsT intT) t.fNext, LS (lsT (lsT intT)) t.fSays, LS (lsT intT) t.fLast] 33 false, .box [I u.fIn, I u.fOut, I u.fStart, LS intT u.fFirst, LS (lsT intT) u.fNext, LS (lsT (lsT intT)) u.fSays, LS (lsT intT) u.fLast] 33 false]⟩ (by kernel_rfl) hn (by kernel_rfl) (by rfl) (by kernel_rfl) ?_ (by kernel_rfl) ?_
          · exact ⟨.mt ⟨[(2, .sv (.one (.ptr 0 0)))], []⟩ [] none (by kernel_rfl) (by rfl) (mt_ev ht (by kernel_rfl)) rfl rfl rfl rfl,
    .mt ⟨[(66, .sv (.one (.ptr 0 6)))], [.box [I t.fIn, I t.fOut, I t.fStart, LS intT t.fFirst, LS (lsT intT) t.fNext, LS (lsT (lsT intT)) t.fSays, LS (lsT intT) t.fLast] 33 false]⟩ [] none (by kernel_rfl) (by rfl) (mt_ev ht (by kernel_rfl)) rfl rfl rfl rfl,
    .mt ⟨[(6, .sv (.one (I x6)))], []⟩ [] none (by kernel_rfl) (by rfl) (mt_ev ht (by kernel_rfl)) rfl rfl rfl rfl,
    .mt ⟨[(67, .sv (.one (LS (lsT intT) t.fLast))), (68, .sv (.one (I x6)))], []⟩ [] none (by kernel_rfl) (by rfl) (mt_val (val_index (T := (lsT intT)) (l := t.fLast) (i := x6) ht rfl (by rfl) (by rfl) (by rfl) (by rfl) (by rfl) (by rfl) he_3)) rfl rfl rfl rfl,
    .mt ⟨[(69, .sv (.one (.pe (svR (.one (LS intT e_3))) 1)))], []⟩ [] none (by kernel_rfl) (by rfl) (mt_val (val_load (s := .one (LS intT e_3)) ht rfl (by rfl) (by rfl) (by rfl) (by rfl) (by rfl))) rfl rfl rfl rfl,
    .mt ⟨[(3, .sv (.one (.ptr 1 0)))], []⟩ [] none (by kernel_rfl) (by rfl) (mt_ev ht (by kernel_rfl)) rfl rfl rfl rfl,
    .mt ⟨[(71, .sv (.one (.ptr 1 6)))], [.gone, .box [I u.fIn, I u.fOut, I u.fStart, LS intT u.fFirst, LS (lsT intT) u.fNext, LS (lsT (lsT intT)) u.fSays, LS (lsT intT) u.fLast] 33 false]⟩ [] none (by kernel_rfl) (by rfl) (mt_ev ht (by kernel_rfl)) rfl rfl rfl rfl,
    .mt ⟨[(6, .sv (.one (I x6)))], []⟩ [] none (by kernel_rfl) (by rfl) (mt_ev ht (by kernel_rfl)) rfl rfl rfl rfl,
    .mt ⟨[(72, .sv (.one (LS (lsT intT) u.fLast))), (73, .sv (.one (I x6)))], []⟩ [] none (by kernel_rfl) (by rfl) (mt_val (val_index (T := (lsT intT)) (l := u.fLast) (i := x6) ht rfl (by rfl) (by rfl) (by rfl) (by rfl) (by rfl) (by rfl) he_4)) rfl rfl rfl rfl,
    .mt ⟨[(74, .sv (.one (.pe (svR (.one (LS intT e_4))) 1)))], []⟩ [] none (by kernel_rfl) (by rfl) (mt_val (val_load (s := .one (LS intT e_4)) ht rfl (by rfl) (by rfl) (by rfl) (by rfl) (by rfl))) rfl rfl rfl rfl,
    .mt ⟨[(70, .sv (.one (LS intT e_3))), (75, .sv (.one (LS intT e_4)))], []⟩ [] none (by kernel_rfl) (by rfl) (mt_call (alikeW_ct e_3 e_4) en43 (caps := []) [] rfl (by rfl) (by kernel_rfl) (by kernel_rfl) (by rfl) (by rfl) (by rfl)) rfl rfl rfl rfl,
    .mt ⟨[(76, .sv (.one (B (decide (e_3 = e_4)))))], []⟩ [] none (by kernel_rfl) (by rfl) (mt_ev ht (by kernel_rfl)) rfl rfl rfl rfl,
    trivial⟩
          · refine En.seq ?_
            refine En.seq ?_
            refine En.region ?_
            refine WL.run ht hn 3 ⟨[(2, .sv (.one (.ptr 0 0))), (3, .sv (.one (.ptr 1 0))), (6, .sv (.one (I x6))), (8, .sv (.one (B (decide (e_3 = e_4))))), (79, .sv (.one (B (!(decide (e = e_2))))))], [.box [I t.fIn, I t.fOut, I t.fStart, LS intT t.fFirst, LS (lsT intT) t.fNext, LS (lsT (lsT intT)) t.fSays, LS (lsT intT) t.fLast] 33 false, .box [I u.fIn, I u.fOut, I u.fStart, LS intT u.fFirst, LS (lsT intT) u.fNext, LS (lsT (lsT intT)) u.fSays, LS (lsT intT) u.fLast] 33 false]⟩ (by kernel_rfl) ?_
            refine WL.thru ⟨[(2, .sv (.one (.ptr 0 0))), (3, .sv (.one (.ptr 1 0))), (6, .sv (.one (I x6))), (82, .sv (.one (B ((!(decide (e = e_2))) || (!(decide (e_3 = e_4)))))))], [.box [I t.fIn, I t.fOut, I t.fStart, LS intT t.fFirst, LS (lsT intT) t.fNext, LS (lsT (lsT intT)) t.fSays, LS (lsT intT) t.fLast] 33 false, .box [I u.fIn, I u.fOut, I u.fStart, LS intT u.fFirst, LS (lsT intT) u.fNext, LS (lsT (lsT intT)) u.fSays, LS (lsT intT) u.fLast] 33 false]⟩ ?_ ?_
            · refine splitB (!(decide (e = e_2))) (fun hb0 => ?_) (fun hb0 => ?_)
              · refine WL.setB 79 hb0 (by kernel_rfl) ?_
                refine WL.run ht hn 3 ⟨[(2, .sv (.one (.ptr 0 0))), (3, .sv (.one (.ptr 1 0))), (6, .sv (.one (I x6))), (82, .sv (.one (B true)))], [.box [I t.fIn, I t.fOut, I t.fStart, LS intT t.fFirst, LS (lsT intT) t.fNext, LS (lsT (lsT intT)) t.fSays, LS (lsT intT) t.fLast] 33 false, .box [I u.fIn, I u.fOut, I u.fStart, LS intT u.fFirst, LS (lsT intT) u.fNext, LS (lsT (lsT intT)) u.fSays, LS (lsT intT) u.fLast] 33 false]⟩ (by kernel_rfl) ?_
                exact WL.nil (sub_ok (by simp only [hb0]; kernel_rfl))
              · refine WL.setB 79 hb0 (by kernel_rfl) ?_
                refine WL.run ht hn 3 ⟨[(2, .sv (.one (.ptr 0 0))), (3, .sv (.one (.ptr 1 0))), (6, .sv (.one (I x6))), (82, .sv (.one (B (!(decide (e_3 = e_4))))))], [.box [I t.fIn, I t.fOut, I t.fStart, LS intT t.fFirst, LS (lsT intT) t.fNext, LS (lsT (lsT intT)) t.fSays, LS (lsT intT) t.fLast] 33 false, .box [I u.fIn, I u.fOut, I u.fStart, LS intT u.fFirst, LS (lsT intT) u.fNext, LS (lsT (lsT intT)) u.fSays, LS (lsT intT) u.fLast] 33 false]⟩ (by kernel_rfl) ?_
                exact WL.nil (sub_ok (by simp only [hb0]; kernel_rfl))
            · refine En.cond (b := ((!(decide (e = e_2))) || (!(decide (e_3 = e_4))))) (by kernel_rfl) (fun hb => ?_) (fun hb => ?_)
              · replace h := h.1 hb
                refine En.seq ?_
                refine En.region ?_
                refine WL.run ht hn 1 ⟨[(4, .sv (.one (B false)))], [.gone, .gone]⟩ (by kernel_rfl) ?_
                refine WL.nil ?_
                refine En.ret ?_
                exact En.back ht false h (by kernel_rfl) rfl
              · replace h := h.2 hb
                refine En.skip ?_
                refine En.seq ?_
                refine En.region ?_
                refine WL.run ht hn 1 ⟨[(2, .sv (.one (.ptr 0 0))), (3, .sv (.one (.ptr 1 0))), (6, .sv (.one (I x6))), (9, .sv (.one (I 0)))], [.box [I t.fIn, I t.fOut, I t.fStart, LS intT t.fFirst, LS (lsT intT) t.fNext, LS (lsT (lsT intT)) t.fSays, LS (lsT intT) t.fLast] 33 false, .box [I u.fIn, I u.fOut, I u.fStart, LS intT u.fFirst, LS (lsT intT) u.fNext, LS (lsT (lsT intT)) u.fSays, LS (lsT intT) u.fLast] 33 false]⟩ (by kernel_rfl) ?_
                refine WL.nil ?_
                refine En.block ?_
                obtain ⟨Inv_2, mu_2, h0, hI⟩ := h
                refine En.loop (σ := Int) (fun zz => Inv_2 zz) (fun zz => mu_2 zz) (fun zz => ⟨[(2, .sv (.one (.ptr 0 0))), (3, .sv (.one (.ptr 1 0))), (6, .sv (.one (I x6))), (9, .sv (.one (I zz)))], [.box [I t.fIn, I t.fOut, I t.fStart, LS intT t.fFirst, LS (lsT intT) t.fNext, LS (lsT (lsT intT)) t.fSays, LS (lsT intT) t.fLast] 33 false, .box [I u.fIn, I u.fOut, I u.fStart, LS intT u.fFirst, LS (lsT intT) u.fNext, LS (lsT (lsT intT)) u.fSays, LS (lsT intT) u.fLast] 33 false]⟩) 0 h0 (sub_ok (by kernel_rfl)) ?_
                intro x9 h
                replace h := hI _ h
                show En c ⟨[(2, .sv (.one (.ptr 0 0))), (3, .sv (.one (.ptr 1 0))), (6, .sv (.one (I x6))), (9, .sv (.one (I x9)))], [.box [I t.fIn, I t.fOut, I t.fStart, LS intT t.fFirst, LS (lsT intT) t.fNext, LS (lsT (lsT intT)) t.fSays, LS (lsT intT) t.fLast] 33 false, .box [I u.fIn, I u.fOut, I u.fStart, LS intT u.fFirst, LS (lsT intT) u.fNext, LS (lsT (lsT intT)) u.fSays, LS (lsT intT) u.fLast] 33 false]⟩ _
                refine En.seq ?_
                refine En.seq ?_
                refine En.region ?_
                refine WL.run ht hn 4 ⟨[(2, .sv (.one (.ptr 0 0))), (3, .sv (.one (.ptr 1 0))), (6, .sv (.one (I x6))), (9, .sv (.one (I x9))), (86, .sv (.one (B (decide (x9 < t.fIn)))))], [.box [I t.fIn, I t.fOut, I t.fStart, LS intT t.fFirst, LS (lsT intT) t.fNext, LS (lsT (lsT intT)) t.fSays, LS (lsT intT) t.fLast] 33 false, .box [I u.fIn, I u.fOut, I u.fStart, LS intT u.fFirst, LS (lsT intT) u.fNext, LS (lsT (lsT intT)) u.fSays, LS (lsT intT) u.fLast] 33 false]⟩ (by kernel_rfl) ?_
                refine WL.nil ?_
                refine En.cond (b := (decide (x9 < t.fIn))) (by kernel_rfl) (fun hb => ?_) (fun hb => ?_)
                · replace h := h.1 hb
                  refine En.skip ?_
                  refine En.seq ?_
                  refine En.block ?_
                  refine En.seq ?_
                  obtain ⟨e_5, he_5, h⟩ := h
                  obtain ⟨e_6, he_6, h⟩ := h
                  obtain ⟨e_7, he_7, h⟩ := h
                  obtain ⟨e_8, he_8, h⟩ := h
                  refine En.regionA ⟨[(2, .sv (.one (.ptr 0 0))), (3, .sv (.one (.ptr 1 0))), (6, .sv (.one (I x6))), (9, .sv (.one (I x9)))], [.sv (.one (.ptr 0 5)), .sv (.one (LS (lsT (lsT intT)) t.fSays)), .sv (.one (I x6)), .sv (.one (.pe (svR (.one (LS (lsT intT) e_5))) 1)), .sv (.one (LS (lsT intT) e_5)), .sv (.one (I x9)), .sv (.one (.pe (svR (.one (LS intT e_6))) 1)), .sv (.one (LS intT e_6)), .sv (.one (.ptr 1 5)), .sv (.one (LS (lsT (lsT intT)) u.fSays)), .sv (.one (I x6)), .sv (.one (.pe (svR (.one (LS (lsT intT) e_7))) 1)), .sv (.one (LS (lsT intT) e_7)), .sv (.one (I x9)), .sv (.one (.pe (svR (.one (LS intT e_8))) 1)), .sv (.one (LS intT e_8)), .sv (.one (B (decide (e_6 = e_8)))), .sv (.one (B (decide (e_6 = e_8))))], [⟨.box [I t.fIn, I t.fOut, I t.fStart, LS intT t.fFirst, LS (lsT intT) t.fNext, LS (lsT (lsT intT)) t.fSays, LS (lsT intT) t.fLast] 33 false, none, none, none⟩, ⟨.box [I u.fIn, I u.fOut, I u.fStart, LS intT u.fFirst, LS (lsT intT) u.fNext, LS (lsT (lsT intT)) u.fSays, LS (lsT intT) u.fLast] 33 false, none, none, none⟩]⟩ ⟨[(2, .sv (.one (.ptr 0 0))), (3, .sv (.one (.ptr 1 0))), (6, .sv (.one (I x6))), (9, .sv (.one (I x9))), (10, .sv (.one (B (decide (e_6 = e_8)))))], [.box [I t.fIn, I t.fOut, I t.fStart, LS intT t.fFirst, LS (lsT intT) t.fNext, LS (lsT (lsT intT)) t.fSays, LS (lsT intT) t.fLast] 33 false, .box [I u.fIn, I u.fOut, I u.fStart, LS intT u.fFirst, LS (lsT intT) u.fNext, LS (lsT (lsT intT)) u.fSays, LS (lsT intT) u.fLast] 33 false]⟩ (by kernel_rfl) hn (by kernel_rfl) (by rfl) (by kernel_rfl) ?_ (by kernel_rfl) ?_
                  · exact ⟨.mt ⟨[(2, .sv (.one (.ptr 0 0)))], []⟩ [] none (by kernel_rfl) (by rfl) (mt_ev ht (by kernel_rfl)) rfl rfl rfl rfl,
    .mt ⟨[(89, .sv (.one (.ptr 0 5)))], [.box [I t.fIn, I t.fOut, I t.fStart, LS intT t.fFirst, LS (lsT intT) t.fNext, LS (lsT (lsT intT)) t.fSays, LS (lsT intT) t.fLast] 33 false]⟩ [] none (by kernel_rfl) (by rfl) (mt_ev ht (by kernel_rfl)) rfl rfl rfl rfl,
    .mt ⟨[(6, .sv (.one (I x6)))], []⟩ [] none (by kernel_rfl) (by rfl) (mt_ev ht (by kernel_rfl)) rfl rfl rfl rfl,
    .mt ⟨[(90, .sv (.one (LS (lsT (lsT intT)) t.fSays))), (91, .sv (.one (I x6)))], []⟩ [] none (by kernel_rfl) (by rfl) (mt_val (val_index (T := (lsT (lsT intT))) (l := t.fSays) (i := x6) ht rfl (by rfl) (by rfl) (by rfl) (by rfl) (by rfl) (by rfl) he_5)) rfl rfl rfl rfl,
    .mt ⟨[(92, .sv (.one (.pe (svR (.one (LS (lsT intT) e_5))) 1)))], []⟩ [] none (by kernel_rfl) (by rfl) (mt_val (val_load (s := .one (LS (lsT intT) e_5)) ht rfl (by rfl) (by rfl) (by rfl) (by rfl) (by rfl))) rfl rfl rfl rfl,
    .mt ⟨[(9, .sv (.one (I x9)))], []⟩ [] none (by kernel_rfl) (by rfl) (mt_ev ht (by kernel_rfl)) rfl rfl rfl rfl,
    .mt ⟨[(93, .sv (.one (LS (lsT intT) e_5))), (94, .sv (.one (I x9)))], []⟩ [] none (by kernel_rfl) (by rfl) (mt_val (val_index (T := (lsT intT)) (l := e_5) (i := x9) ht rfl (by rfl) (by rfl) (by rfl) (by rfl) (by rfl) (by rfl) he_6)) rfl rfl rfl rfl,
    .mt ⟨[(95, .sv (.one (.pe (svR (.one (LS intT e_6))) 1)))], []⟩ [] none (by kernel_rfl) (by rfl) (mt_val (val_load (s := .one (LS intT e_6)) ht rfl (by rfl) (by rfl) (by rfl) (by rfl) (by rfl))) rfl rfl rfl rfl,
    .mt ⟨[(3, .sv (.one (.ptr 1 0)))], []⟩ [] none (by kernel_rfl) (by rfl) (mt_ev ht (by kernel_rfl)) rfl rfl rfl rfl,
    .mt ⟨[(97, .sv (.one (.ptr 1 5)))], [.gone, .box [I u.fIn, I u.fOut, I u.fStart, LS intT u.fFirst, LS (lsT intT) u.fNext, LS (lsT (lsT intT)) u.fSays, LS (lsT intT) u.fLast] 33 false]⟩ [] none (by kernel_rfl) (by rfl) (mt_ev ht (by kernel_rfl)) rfl rfl rfl rfl,
    .mt ⟨[(6, .sv (.one (I x6)))], []⟩ [] none (by kernel_rfl) (by rfl) (mt_ev ht (by kernel_rfl)) rfl rfl rfl rfl,
    .mt ⟨[(98, .sv (.one (LS (lsT (lsT intT)) u.fSays))), (99, .sv (.one (I x6)))], []⟩ [] none (by kernel_rfl) (by rfl) (mt_val (val_index (T := (lsT (lsT intT))) (l := u.fSays) (i := x6) ht rfl (by rfl) (by rfl) (by rfl) (by rfl) (by rfl) (by rfl) he_7)) rfl rfl rfl rfl,
    .mt ⟨[(100, .sv (.one (.pe (svR (.one (LS (lsT intT) e_7))) 1)))], []⟩ [] none (by kernel_rfl) (by rfl) (mt_val (val_load (s := .one (LS (lsT intT) e_7)) ht rfl (by rfl) (by rfl) (by rfl) (by rfl) (by rfl))) rfl rfl rfl rfl,
    .mt ⟨[(9, .sv (.one (I x9)))], []⟩ [] none (by kernel_rfl) (by rfl) (mt_ev ht (by kernel_rfl)) rfl rfl rfl rfl,
    .mt ⟨[(101, .sv (.one (LS (lsT intT) e_7))), (102, .sv (.one (I x9)))], []⟩ [] none (by kernel_rfl) (by rfl) (mt_val (val_index (T := (lsT intT)) (l := e_7) (i := x9) ht rfl (by rfl) (by rfl) (by rfl) (by rfl) (by rfl) (by rfl) he_8)) rfl rfl rfl rfl,
    .mt ⟨[(103, .sv (.one (.pe (svR (.one (LS intT e_8))) 1)))], []⟩ [] none (by kernel_rfl) (by rfl) (mt_val (val_load (s := .one (LS intT e_8)) ht rfl (by rfl) (by rfl) (by rfl) (by rfl) (by rfl))) rfl rfl rfl rfl,
    .mt ⟨[(96, .sv (.one (LS intT e_6))), (104, .sv (.one (LS intT e_8)))], []⟩ [] none (by kernel_rfl) (by rfl) (mt_call (alikeW_ct e_6 e_8) en43 (caps := []) [] rfl (by rfl) (by kernel_rfl) (by kernel_rfl) (by rfl) (by rfl) (by rfl)) rfl rfl rfl rfl,
    .mt ⟨[(105, .sv (.one (B (decide (e_6 = e_8)))))], []⟩ [] none (by kernel_rfl) (by rfl) (mt_ev ht (by kernel_rfl)) rfl rfl rfl rfl,
    trivial⟩
                  · refine En.seq ?_
                    refine En.region ?_
                    refine WL.run ht hn 2 ⟨[(2, .sv (.one (.ptr 0 0))), (3, .sv (.one (.ptr 1 0))), (6, .sv (.one (I x6))), (9, .sv (.one (I x9))), (107, .sv (.one (B (!(decide (e_6 = e_8))))))], [.box [I t.fIn, I t.fOut, I t.fStart, LS intT t.fFirst, LS (lsT intT) t.fNext, LS (lsT (lsT intT)) t.fSays, LS (lsT intT) t.fLast] 33 false, .box [I u.fIn, I u.fOut, I u.fStart, LS intT u.fFirst, LS (lsT intT) u.fNext, LS (lsT (lsT intT)) u.fSays, LS (lsT intT) u.fLast] 33 false]⟩ (by kernel_rfl) ?_
                    refine WL.nil ?_
                    refine En.cond (b := (!(decide (e_6 = e_8)))) (by kernel_rfl) (fun hb => ?_) (fun hb => ?_)
                    · replace h := h.1 hb
                      refine En.seq ?_
                      refine En.region ?_
                      refine WL.run ht hn 1 ⟨[(4, .sv (.one (B false)))], [.gone, .gone]⟩ (by kernel_rfl) ?_
                      refine WL.nil ?_
                      refine En.ret ?_
                      exact En.back ht false h (by kernel_rfl) rfl
                    · replace h := h.2 hb
                      refine En.skip ?_
                      refine En.region ?_
                      refine WL.run ht hn 3 ⟨[(2, .sv (.one (.ptr 0 0))), (3, .sv (.one (.ptr 1 0))), (6, .sv (.one (I x6))), (9, .sv (.one (I (wr (x9 + 1)))))], [.box [I t.fIn, I t.fOut, I t.fStart, LS intT t.fFirst, LS (lsT intT) t.fNext, LS (lsT (lsT intT)) t.fSays, LS (lsT intT) t.fLast] 33 false, .box [I u.fIn, I u.fOut, I u.fStart, LS intT u.fFirst, LS (lsT intT) u.fNext, LS (lsT (lsT intT)) u.fSays, LS (lsT intT) u.fLast] 33 false]⟩ (by kernel_rfl) ?_
                      refine WL.nil ?_
                      exact En.at (I := fun zz => Inv_2 zz ∧ mu_2 zz < mu_2 x9) (T := fun zz => ⟨[(2, .sv (.one (.ptr 0 0))), (3, .sv (.one (.ptr 1 0))), (6, .sv (.one (I x6))), (9, .sv (.one (I zz)))], [.box [I t.fIn, I t.fOut, I t.fStart, LS intT t.fFirst, LS (lsT intT) t.fNext, LS (lsT (lsT intT)) t.fSays, LS (lsT intT) t.fLast] 33 false, .box [I u.fIn, I u.fOut, I u.fStart, LS intT u.fFirst, LS (lsT intT) u.fNext, LS (lsT (lsT intT)) u.fSays, LS (lsT intT) u.fLast] 33 false]⟩) (wr (x9 + 1)) h (by kernel_rfl)
                · replace h := h.2 hb
                  refine En.exit rfl ?_
                  refine En.region ?_
                  refine WL.run ht hn 3 ⟨[(2, .sv (.one (.ptr 0 0))), (3, .sv (.one (.ptr 1 0))), (6, .sv (.one (I (wr (x6 + 1)))))], [.box [I t.fIn, I t.fOut, I t.fStart, LS intT t.fFirst, LS (lsT intT) t.fNext, LS (lsT (lsT intT)) t.fSays, LS (lsT intT) t.fLast] 33 false, .box [I u.fIn, I u.fOut, I u.fStart, LS intT u.fFirst, LS (lsT intT) u.fNext, LS (lsT (lsT intT)) u.fSays, LS (lsT intT) u.fLast] 33 false]⟩ (by kernel_rfl) ?_
                  refine WL.nil ?_
                  exact En.at (I := fun zz => Inv zz ∧ mu zz < mu x6) (T := fun zz => ⟨[(2, .sv (.one (.ptr 0 0))), (3, .sv (.one (.ptr 1 0))), (6, .sv (.one (I zz)))], [.box [I t.fIn, I t.fOut, I t.fStart, LS intT t.fFirst, LS (lsT intT) t.fNext, LS (lsT (lsT intT)) t.fSays, LS (lsT intT) t.fLast] 33 false, .box [I u.fIn, I u.fOut, I u.fStart, LS intT u.fFirst, LS (lsT intT) u.fNext, LS (lsT (lsT intT)) u.fSays, LS (lsT intT) u.fLast] 33 false]⟩) (wr (x6 + 1)) h (by kernel_rfl)
      · replace h := h.2 hb
        refine En.exit rfl ?_
        refine En.seq ?_
        refine En.region ?_
        refine WL.run ht hn 1 ⟨[(4, .sv (.one (B true)))], [.gone, .gone]⟩ (by kernel_rfl) ?_
        refine WL.nil ?_
        refine En.ret ?_
        exact En.back ht true h (by kernel_rfl) rfl
theorem en27 : ∀ args w, (callFunc 27 args).run Try.prog w = .ok (.enter 27 args) w := enters_of Try.func27 (by kernel_rfl) rfl
structure ShapeT (t : ApiTrans) : Prop where
  says : t.fSays.length = t.fNext.length
  last : t.fLast.length = t.fNext.length
  rows : ∀ r ∈ t.fSays, r.length = t.fIn.toNat
  in_ : 0 ≤ t.fIn ∧ t.fIn ≤ 1000
theorem ext_trans {t u : ApiTrans} (h1 : t.fIn = u.fIn) (h2 : t.fOut = u.fOut) (h3 : t.fStart = u.fStart) (h4 : t.fFirst = u.fFirst) (h5 : t.fNext = u.fNext) (h6 : t.fSays = u.fSays) (h7 : t.fLast = u.fLast) : t = u := by
  cases t
  cases u
  simp only at h1 h2 h3 h4 h5 h6 h7
  rw [h1, h2, h3, h4, h5, h6, h7]
theorem sameTrans_ok (t u : ApiTrans) (hp : ShapeT t ∧ ShapeT u) : sameTrans_vc t u (fun res_ => res_ = decide (t = u)) := by
  obtain ⟨ht, hu⟩ := hp
  intro _ _ _ _ _ _ _ _
  refine ⟨fun h => ?_, fun h => ?_⟩
  · show false = _
    rw [eq_comm, decide_eq_false_iff_not]
    rintro rfl
    simp at h
  simp only [Bool.or_eq_false_iff, bne_eq_false_iff_eq, Bool.not_eq_false', decide_eq_true_eq] at h
  obtain ⟨⟨⟨⟨h1, h2⟩, h3⟩, h4⟩, h5⟩ := h
  have hs1 := ht.says
  have hs2 := hu.says
  have hl1 := ht.last
  have hl2 := hu.last
  have hin := ht.in_
  have hno : ∀ P : Prop, (t = u → P) → ¬ P → false = decide (t = u) := fun P hP hn => by
    rw [eq_comm, decide_eq_false_iff_not]
    exact fun e => hn (hP e)
  refine ⟨fun i => ∃ k : Nat, i = k ∧ k ≤ t.fNext.length ∧ ∀ q, q < k → t.fNext.getD q [] = u.fNext.getD q [] ∧ t.fLast.getD q [] = u.fLast.getD q [] ∧ t.fSays.getD q [] = u.fSays.getD q [], fun i => t.fNext.length - i.toNat, ⟨0, rfl, Nat.zero_le _, fun q hq => absurd hq (Nat.not_lt_zero _)⟩, ?_⟩
  rintro i ⟨k, rfl, hk, hA⟩
  refine ⟨fun hb => ?_, fun hb => ?_⟩
  · have hlt := dlt hb
    have hr1 := ht.rows _ (getD_in (z := []) (show k < t.fSays.length by omega))
    have hr2 := hu.rows _ (getD_in (z := []) (show k < u.fSays.length by omega))
    rw [← h1] at hr2
    refine ⟨_, idx_nat [] hlt, _, idx_nat [] (by omega), _, idx_nat [] (by omega), _, idx_nat [] (by omega), fun h => ?_, fun h => ?_⟩
    · simp only [Bool.or_eq_true, Bool.not_eq_true', decide_eq_false_iff_not] at h
      exact hno (t.fNext.getD k [] = u.fNext.getD k [] ∧ t.fLast.getD k [] = u.fLast.getD k []) (fun e => by rw [e]; exact ⟨rfl, rfl⟩) (fun c => by rcases h with h | h; exact h c.1; exact h c.2)
    · simp only [Bool.or_eq_false_iff, Bool.not_eq_false', decide_eq_true_eq] at h
      refine ⟨fun i => ∃ c : Nat, i = c ∧ c ≤ t.fIn.toNat ∧ ∀ a, a < c → (t.fSays.getD k []).getD a [] = (u.fSays.getD k []).getD a [], fun i => t.fIn.toNat - i.toNat, ⟨0, rfl, Nat.zero_le _, fun q hq => absurd hq (Nat.not_lt_zero _)⟩, ?_⟩
      rintro i ⟨c, rfl, hc, hB⟩
      refine ⟨fun hb => ?_, fun hb => ?_⟩
      · have hca : c < t.fIn.toNat := by have := of_decide_eq_true hb; omega
        refine ⟨_, idx_nat [] (by omega), _, idx_nat [] (by omega), _, idx_nat [] (by omega), _, idx_nat [] (by omega), fun h => ?_, fun h => ⟨⟨c + 1, wsucc (by omega), hca, fun a ha => ?_⟩, mu_up hca (by omega)⟩⟩
        · simp only [Bool.not_eq_true', decide_eq_false_iff_not] at h
          exact hno _ (fun e => by rw [e]) h
        · simp only [Bool.not_eq_false', decide_eq_true_eq] at h
          by_cases e : a = c
          · rw [e]; exact h
          · exact hB a (by omega)
      · have hce : c = t.fIn.toNat := by have := of_decide_eq_false hb; omega
        subst hce
        refine ⟨⟨k + 1, wsucc (by omega), hlt, fun q hq => ?_⟩, mu_up hlt (by omega)⟩
        by_cases e : q = k
        · rw [e]
          exact ⟨h.1, h.2, ext_getD [] (by omega) fun a ha => hB a (by omega)⟩
        · exact hA q (by omega)
  · have hke : k = t.fNext.length := by have := dge hb; omega
    subst hke
    show true = _
    rw [eq_comm, decide_eq_true_eq]
    exact ext_trans h1 h2 h3 h4 (ext_getD [] (by omega) fun q hq => (hA q hq).1) (ext_getD [] (by omega) fun q hq => (hA q (by omega)).2.2) (ext_getD [] (by omega) fun q hq => (hA q (by omega)).2.1)
theorem sameTrans_ct (t u : ApiTrans) (hp : ShapeT t ∧ ShapeT u) : Ct 27 [.sv (.agg [I t.fIn, I t.fOut, I t.fStart, LS intT t.fFirst, LS (lsT intT) t.fNext, LS (lsT (lsT intT)) t.fSays, LS (lsT intT) t.fLast]), .sv (.agg [I u.fIn, I u.fOut, I u.fStart, LS intT u.fFirst, LS (lsT intT) u.fNext, LS (lsT (lsT intT)) u.fSays, LS (lsT intT) u.fLast])] [] (fun (_ : Unit) => True) (fun _ => .sv (.one (B (decide (t = u))))) := (sameTrans_walk t u _ (sameTrans_ok t u hp)).fun
theorem realT {t : ApiTrans} (h : TrOk t) : Realized t.fIn (funT t) := realized_of h (ahead_all h) (pushedR_is h)
theorem Realized.congr {I : Int} {G H : OutF} (h : ∀ w, KW I.toNat w → G w = H w) (hG : Realized I G) : Realized I H := by
  unfold Realized at hG ⊢
  rwa [← strip_congr h]
theorem realC {t u : ApiTrans} (ht : TrChk t) (hu : TrChk u) (hio : t.fOut = u.fIn) : Realized t.fIn (compT t u) :=
  (realT (prodT_ok ht hu hio)).congr fun w hw => (prodT_is ht hu hio).fun_ ht.ok hu.ok ht.lok hio hw
theorem told_ok {x : ApiTrans} (h : (toldR x).2 = 0) : x.fNext.length ≤ 6 ∧ longR x = false ∧ toldR x = (x, 0) := by
  unfold toldR at h ⊢
  by_cases e : x.fNext.length > 6 ∨ longR x = true
  · rw [if_pos e] at h; cases h
  · rw [if_neg e]
    rw [not_or] at e
    exact ⟨by omega, by simpa using e.2, rfl⟩
theorem behind_ok {t u : ApiTrans} (h : (behindR t u).2 = 0) : TrChk t ∧ TrChk u ∧ t.fOut = u.fIn ∧ (behindR t u).1 = canG t.fIn u.fOut (compT t u) := by
  unfold behindR at h ⊢
  by_cases h1 : trErr t ≠ 0
  · rw [if_pos h1] at h; exact absurd h h1
  rw [if_neg h1] at h ⊢
  by_cases h2 : trErr u ≠ 0
  · rw [if_pos h2] at h; exact absurd h h2
  rw [if_neg h2] at h ⊢
  by_cases h3 : t.fOut ≠ u.fIn
  · rw [if_pos h3] at h; cases h
  rw [if_neg h3] at h ⊢
  obtain ⟨_, _, e⟩ := told_ok h
  rw [e]
  exact ⟨(trErr_iff t).1 (Decidable.not_not.1 h1), (trErr_iff u).1 (Decidable.not_not.1 h2), Decidable.not_not.1 h3, rfl⟩
theorem leastE_ok {t : ApiTrans} (h : (leastE t).2 = 0) : TrChk t ∧ leastE t = (canG t.fIn t.fOut (funT t), 0) ∧ (canG t.fIn t.fOut (funT t)).fNext.length ≤ 6 ∧ longR (canG t.fIn t.fOut (funT t)) = false := by
  unfold leastE at h ⊢
  by_cases h1 : trErr t ≠ 0
  · rw [if_pos h1] at h; exact absurd h h1
  rw [if_neg h1] at h ⊢
  obtain ⟨h2, h3, e⟩ := told_ok h
  exact ⟨(trErr_iff t).1 (Decidable.not_not.1 h1), e, h2, h3⟩
theorem canG_shape {I O : Int} {G : OutF} (hI : 0 ≤ I ∧ I ≤ 1000) : ShapeT (canG I O G) := by
  obtain ⟨h1, h2, h3, _⟩ := canT_lens I.toNat I O (lcpF I.toNat G) (strip I.toNat G)
  exact ⟨h1, h2, h3, hI⟩
/-- a transducer of one letter and one state -/
def oneH : OutF := fun w => List.replicate w.length 0
theorem oneH_early : Early 1 oneH := lcpF_eq (fun _ _ => List.nil_prefix) fun q hq => hq [] KW.nil
theorem one_der : derT 1 (rsT 1 oneH) 0 = rsT 1 oneH ∧ sayT 1 (rsT 1 oneH) 0 = [0] := by
  have := strip_of (L := 1) (G := fun w => rsT 1 oneH (0 :: w)) (H := oneH) (p := [0]) (fun w hw => by
    rw [rsT_at (KW.cons (by decide) hw)]
    show List.replicate (w.length + 1) (0 : Int) = [0] ++ List.replicate w.length 0
    rw [List.replicate_succ]
    rfl) oneH_early
  exact ⟨this.2, this.1⟩
theorem one_can (first : List Int) : canT 1 1 1 first (rsT 1 oneH) = ⟨1, 1, 0, first, [[0]], [[[0]]], [[]]⟩ := by
  obtain ⟨l, hl, h1, h2⟩ := can_facts (L := 1) (I := 1) (O := 1) (first := first) (F := rsT 1 oneH) (m := [rsT 1 oneH]) List.mem_cons_self (fun k a hk ha => by
    rw [List.mem_singleton.1 hk, show a = 0 by omega, one_der.1]
    exact List.mem_cons_self)
  have hz := hl.zero
  have he : l = [rsT 1 oneH] := by
    cases l with
    | nil => simp at hz
    | cons x l =>
      simp at hz h1
      rw [hz, h1]
  rw [hl.eq, he]
  have hr : rowOf (derT 1) 1 [rsT 1 oneH] (rsT 1 oneH) = [0] := by
    unfold rowOf
    rw [show List.range 1 = [0] from rfl, List.map_cons, List.map_nil, one_der.1]
    simp
  have hs : (List.range 1).map (sayT 1 (rsT 1 oneH)) = [[0]] := by
    rw [show List.range 1 = [0] from rfl, List.map_cons, List.map_nil, one_der.2]
  rw [List.map_cons, List.map_nil, List.map_cons, List.map_nil, List.map_cons, List.map_nil, hr, hs, rsT_at KW.nil]
  rfl
def oneA : ApiTrans := ⟨1, 1, 0, [], [[0]], [[[0]]], [[0]]⟩
theorem oneA_out : ∀ {w : List Nat}, KW 1 w → funT oneA w = [0] ++ oneH w
  | [], _ => rfl
  | a :: w, h => by
    have ha : a = 0 := by have := h.head; omega
    subst ha
    have ih := oneA_out h.tail
    show [] ++ ([0] ++ outT oneA 0 w) = [0] ++ oneH (0 :: w)
    have ih' : outT oneA 0 w = [0] ++ oneH w := ih
    rw [ih']
    show ([0] : List Int) ++ ([0] ++ List.replicate w.length (0 : Int)) = [0] ++ List.replicate (w.length + 1) (0 : Int)
    rw [List.replicate_succ]
    rfl
theorem oneA_least : leastE oneA = (⟨1, 1, 0, [0], [[0]], [[[0]]], [[]]⟩, 0) := by
  have h : trErr oneA = 0 := by decide
  have hs := strip_of (L := 1) (G := funT oneA) (H := oneH) (p := [0]) (fun w hw => oneA_out hw) oneH_early
  have e : canG oneA.fIn oneA.fOut (funT oneA) = ⟨1, 1, 0, [0], [[0]], [[[0]]], [[]]⟩ := by
    show canT 1 1 1 (lcpF 1 (funT oneA)) (strip 1 (funT oneA)) = _
    rw [hs.1, hs.2, one_can]
  unfold leastE
  rw [if_neg (by rw [h]; decide), e]
  decide
theorem difErr_ok {t u : ApiTrans} (h : difErr t u = 0) : TrChk t ∧ TrChk u ∧ t.fIn = u.fIn ∧ t.fOut = u.fOut := by
  unfold difErr at h
  by_cases h1 : trErr t ≠ 0
  · rw [if_pos h1] at h; exact absurd h h1
  rw [if_neg h1] at h
  by_cases h2 : trErr u ≠ 0
  · rw [if_pos h2] at h; exact absurd h h2
  rw [if_neg h2] at h
  by_cases h3 : t.fIn ≠ u.fIn ∨ t.fOut ≠ u.fOut
  · rw [if_pos h3] at h; cases h
  rw [not_or, Decidable.not_not, Decidable.not_not] at h3
  exact ⟨(trErr_iff t).1 (Decidable.not_not.1 h1), (trErr_iff u).1 (Decidable.not_not.1 h2), h3⟩
theorem three {t u v : ApiTrans} (h1 : (behindR t u).2 = 0) (h2 : (behindR u v).2 = 0) (h3 : (behindR (behindR t u).1 v).2 = 0) (h4 : (behindR t (behindR u v).1).2 = 0) :
    (behindR (behindR t u).1 v).1 = (behindR t (behindR u v).1).1 ∧ ShapeT (behindR (behindR t u).1 v).1 ∧ ShapeT (behindR t (behindR u v).1).1 := by
  obtain ⟨ct, cu, i1, e1⟩ := behind_ok h1
  obtain ⟨_, cv, i2, e2⟩ := behind_ok h2
  obtain ⟨ca, _, i3, e3⟩ := behind_ok h3
  obtain ⟨_, cb, i4, e4⟩ := behind_ok h4
  have hin := ct.in_
  rw [e3, e4]
  have ea : (behindR t u).1.fIn = t.fIn := by rw [e1]; rfl
  have eb : (behindR u v).1.fOut = v.fOut := by rw [e2]; rfl
  rw [ea, eb]
  refine ⟨canG_congr fun w hw => ?_, canG_shape (by omega), canG_shape (by omega)⟩
  have hl := funT_let ct.ok ct.lok hw
  rw [i1] at hl
  show funT v (nats (funT (behindR t u).1 w)) = funT (behindR u v).1 (nats (funT t w))
  rw [e1, e2, canG_fun (realC ct cu i1) hw, canG_fun (realC cu cv i2) hl.kw]
  rfl
def transRow_vc (t : ApiTrans) (u : ApiTrans) (v : ApiTrans) (Q : Bool → Prop) : Prop :=
  t.fFirst.length ≤ 9223372036854775807 →
  t.fNext.length ≤ 9223372036854775807 →
  t.fSays.length ≤ 9223372036854775807 →
  t.fLast.length ≤ 9223372036854775807 →
  u.fFirst.length ≤ 9223372036854775807 →
  u.fNext.length ≤ 9223372036854775807 →
  u.fSays.length ≤ 9223372036854775807 →
  u.fLast.length ≤ 9223372036854775807 →
  v.fFirst.length ≤ 9223372036854775807 →
  v.fNext.length ≤ 9223372036854775807 →
  v.fSays.length ≤ 9223372036854775807 →
  v.fLast.length ≤ 9223372036854775807 →
  (∃ J : Bool → Prop, (IfP ((leastE (ApiTrans.mk 1 1 0 [] ([([0] : (List Int))] : (List (List Int))) ([([([0] : (List Int))] : (List (List Int)))] : (List (List (List Int)))) ([([0] : (List Int))] : (List (List Int))))).2 != 0) (J true) (IfP (((leastE (ApiTrans.mk 1 1 0 [] ([([0] : (List Int))] : (List (List Int))) ([([([0] : (List Int))] : (List (List Int)))] : (List (List (List Int)))) ([([0] : (List Int))] : (List (List Int))))).1.fFirst.length : Int) != 1) (J true) (IfP (((leastE (ApiTrans.mk 1 1 0 [] ([([0] : (List Int))] : (List (List Int))) ([([([0] : (List Int))] : (List (List Int)))] : (List (List (List Int)))) ([([0] : (List Int))] : (List (List Int))))).1.fLast.length : Int) != 1) (J true) (∃ e, idx (leastE (ApiTrans.mk 1 1 0 [] ([([0] : (List Int))] : (List (List Int))) ([([([0] : (List Int))] : (List (List Int)))] : (List (List (List Int)))) ([([0] : (List Int))] : (List (List Int))))).1.fLast 0 = some e ∧
  J ((e.length : Int) != 0))))) ∧
  (∀ (x58 : Bool), J x58 → IfP x58 (Q false) (∃ J_2 : Prop, (IfP (((behindR t u).2 == 0) && ((behindR u v).2 == 0)) (IfP (((behindR (behindR t u).1 v).2 == 0) && ((behindR t (behindR u v).1).2 == 0)) ((ShapeT (behindR (behindR t u).1 v).1 ∧ ShapeT (behindR t (behindR u v).1).1) ∧
  IfP (!(decide ((behindR (behindR t u).1 v).1 = (behindR t (behindR u v).1).1))) (Q false) (J_2)) (J_2)) (J_2)) ∧
  (J_2 → ∀ r : ((List Int) × Bool × Int), (DiffQ t u) r →
  (IfP (((r.2.2 != 0) || ((leastE t).2 != 0)) || ((leastE u).2 != 0)) (Q true) ((ShapeT (leastE t).1 ∧ ShapeT (leastE u).1) ∧
  Q ((decide ((leastE t).1 = (leastE u).1)) != r.2.1)))))))
set_option maxHeartbeats 2000000 in
theorem transRow_walk (t : ApiTrans) (u : ApiTrans) (v : ApiTrans) (Q : Bool → Prop) (h : transRow_vc t u v Q) : Ct 7 [.sv (.agg [I t.fIn, I t.fOut, I t.fStart, LS intT t.fFirst, LS (lsT intT) t.fNext, LS (lsT (lsT intT)) t.fSays, LS (lsT intT) t.fLast]), .sv (.agg [I u.fIn, I u.fOut, I u.fStart, LS intT u.fFirst, LS (lsT intT) u.fNext, LS (lsT (lsT intT)) u.fSays, LS (lsT intT) u.fLast]), .sv (.agg [I v.fIn, I v.fOut, I v.fStart, LS intT v.fFirst, LS (lsT intT) v.fNext, LS (lsT (lsT intT)) v.fSays, LS (lsT intT) v.fLast])] [] Q (fun (r : Bool) => .sv (.one (B r))) := by
  have ht := tab_ok
  refine Ct.body Try.func7 rfl rfl rfl rfl (fun c hn => ?_)
  unfold transRow_vc at h
  refine En.lenA 0 3 (by rfl) (by rfl) (fun hl => ?_)
  replace h := h hl
  clear hl
  refine En.lenA 0 4 (by rfl) (by rfl) (fun hl => ?_)
  replace h := h hl
  clear hl
  refine En.lenA 0 5 (by rfl) (by rfl) (fun hl => ?_)
  replace h := h hl
  clear hl
  refine En.lenA 0 6 (by rfl) (by rfl) (fun hl => ?_)
  replace h := h hl
  clear hl
  refine En.lenA 1 3 (by rfl) (by rfl) (fun hl => ?_)
  replace h := h hl
  clear hl
  refine En.lenA 1 4 (by rfl) (by rfl) (fun hl => ?_)
  replace h := h hl
  clear hl
  refine En.lenA 1 5 (by rfl) (by rfl) (fun hl => ?_)
  replace h := h hl
  clear hl
  refine En.lenA 1 6 (by rfl) (by rfl) (fun hl => ?_)
  replace h := h hl
  clear hl
  refine En.lenA 2 3 (by rfl) (by rfl) (fun hl => ?_)
  replace h := h hl
  clear hl
  refine En.lenA 2 4 (by rfl) (by rfl) (fun hl => ?_)
  replace h := h hl
  clear hl
  refine En.lenA 2 5 (by rfl) (by rfl) (fun hl => ?_)
  replace h := h hl
  clear hl
  refine En.lenA 2 6 (by rfl) (by rfl) (fun hl => ?_)
  replace h := h hl
  clear hl
  refine En.seq ?_
  refine En.region ?_
  refine WL.run ht hn 4 ⟨[(3, .sv (.one (.ptr 0 0))), (4, .sv (.one (.ptr 1 0))), (5, .sv (.one (.ptr 2 0)))], [.box [I t.fIn, I t.fOut, I t.fStart, LS intT t.fFirst, LS (lsT intT) t.fNext, LS (lsT (lsT intT)) t.fSays, LS (lsT intT) t.fLast] 33 false, .box [I u.fIn, I u.fOut, I u.fStart, LS intT u.fFirst, LS (lsT intT) u.fNext, LS (lsT (lsT intT)) u.fSays, LS (lsT intT) u.fLast] 33 false, .box [I v.fIn, I v.fOut, I v.fStart, LS intT v.fFirst, LS (lsT intT) v.fNext, LS (lsT (lsT intT)) v.fSays, LS (lsT intT) v.fLast] 33 false]⟩ (by kernel_rfl) ?_
  refine WL.nil ?_
  refine En.seq ?_
  refine En.region ?_
  refine WL.mt0 (K := []) (p := some (3, rowI 3 intT ([0] : (List Int)))) hn (by rfl) (mt_lit (T := intT) ([0] : (List Int)) (mt_bsl 3 (r := cellsOf intT ([0] : (List Int))) ht rfl (by rfl) (by rfl) (by rfl) (by kernel_rfl) (by rfl)) (fun _ h => by cases h) (fun _ => rfl) (fun _ => rfl) (by rfl) (Nat.le_of_ble_eq_true rfl)) (by rfl) (by rfl) (by rfl) ?_
  refine WL.seal (T := intT) (l := ([0] : (List Int))) (e := 3) 3 rfl ?_
  refine WL.run ht hn 0 ⟨[(3, .sv (.one (.ptr 0 0))), (4, .sv (.one (.ptr 1 0))), (5, .sv (.one (.ptr 2 0))), (24, .sv (.one (LS intT ([0] : (List Int)))))], [.box [I t.fIn, I t.fOut, I t.fStart, LS intT t.fFirst, LS (lsT intT) t.fNext, LS (lsT (lsT intT)) t.fSays, LS (lsT intT) t.fLast] 33 false, .box [I u.fIn, I u.fOut, I u.fStart, LS intT u.fFirst, LS (lsT intT) u.fNext, LS (lsT (lsT intT)) u.fSays, LS (lsT intT) u.fLast] 33 false, .box [I v.fIn, I v.fOut, I v.fStart, LS intT v.fFirst, LS (lsT intT) v.fNext, LS (lsT (lsT intT)) v.fSays, LS (lsT intT) v.fLast] 33 false, .gone]⟩ (by kernel_rfl) ?_
  refine WL.mt0 (K := []) (p := some (4, rowI 23 (lsT intT) ([([0] : (List Int))] : (List (List Int))))) hn (by rfl) (mt_lit (T := (lsT intT)) ([([0] : (List Int))] : (List (List Int))) (mt_bsl 4 (r := cellsOf (lsT intT) ([([0] : (List Int))] : (List (List Int)))) ht rfl (by rfl) (by rfl) (by rfl) (by kernel_rfl) (by rfl)) (fun _ h => by cases h) (fun _ => rfl) (fun _ => rfl) (by rfl) (Nat.le_of_ble_eq_true rfl)) (by rfl) (by rfl) (by rfl) ?_
  refine WL.mt0 (K := []) (p := some (5, rowI 3 intT ([0] : (List Int)))) hn (by rfl) (mt_lit (T := intT) ([0] : (List Int)) (mt_bsl 5 (r := cellsOf intT ([0] : (List Int))) ht rfl (by rfl) (by rfl) (by rfl) (by kernel_rfl) (by rfl)) (fun _ h => by cases h) (fun _ => rfl) (fun _ => rfl) (by rfl) (Nat.le_of_ble_eq_true rfl)) (by rfl) (by rfl) (by rfl) ?_
  refine WL.seal (T := intT) (l := ([0] : (List Int))) (e := 3) 5 rfl ?_
  refine WL.run ht hn 0 ⟨[(3, .sv (.one (.ptr 0 0))), (4, .sv (.one (.ptr 1 0))), (5, .sv (.one (.ptr 2 0))), (24, .sv (.one (LS intT ([0] : (List Int))))), (25, .sv (.one (.own 4))), (26, .sv (.one (LS intT ([0] : (List Int)))))], [.box [I t.fIn, I t.fOut, I t.fStart, LS intT t.fFirst, LS (lsT intT) t.fNext, LS (lsT (lsT intT)) t.fSays, LS (lsT intT) t.fLast] 33 false, .box [I u.fIn, I u.fOut, I u.fStart, LS intT u.fFirst, LS (lsT intT) u.fNext, LS (lsT (lsT intT)) u.fSays, LS (lsT intT) u.fLast] 33 false, .box [I v.fIn, I v.fOut, I v.fStart, LS intT v.fFirst, LS (lsT intT) v.fNext, LS (lsT (lsT intT)) v.fSays, LS (lsT intT) v.fLast] 33 false, .gone, rowI 23 (lsT intT) ([([0] : (List Int))] : (List (List Int))), .gone]⟩ (by kernel_rfl) ?_
  refine WL.mt0 (K := []) (p := some (6, rowI 23 (lsT intT) ([([0] : (List Int))] : (List (List Int))))) hn (by rfl) (mt_lit (T := (lsT intT)) ([([0] : (List Int))] : (List (List Int))) (mt_bsl 6 (r := cellsOf (lsT intT) ([([0] : (List Int))] : (List (List Int)))) ht rfl (by rfl) (by rfl) (by rfl) (by kernel_rfl) (by rfl)) (fun _ h => by cases h) (fun _ => rfl) (fun _ => rfl) (by rfl) (Nat.le_of_ble_eq_true rfl)) (by rfl) (by rfl) (by rfl) ?_
  refine WL.seal (T := (lsT intT)) (l := ([([0] : (List Int))] : (List (List Int)))) (e := 23) 6 rfl ?_
  refine WL.run ht hn 0 ⟨[(3, .sv (.one (.ptr 0 0))), (4, .sv (.one (.ptr 1 0))), (5, .sv (.one (.ptr 2 0))), (24, .sv (.one (LS intT ([0] : (List Int))))), (25, .sv (.one (.own 4))), (26, .sv (.one (LS intT ([0] : (List Int))))), (27, .sv (.one (LS (lsT intT) ([([0] : (List Int))] : (List (List Int))))))], [.box [I t.fIn, I t.fOut, I t.fStart, LS intT t.fFirst, LS (lsT intT) t.fNext, LS (lsT (lsT intT)) t.fSays, LS (lsT intT) t.fLast] 33 false, .box [I u.fIn, I u.fOut, I u.fStart, LS intT u.fFirst, LS (lsT intT) u.fNext, LS (lsT (lsT intT)) u.fSays, LS (lsT intT) u.fLast] 33 false, .box [I v.fIn, I v.fOut, I v.fStart, LS intT v.fFirst, LS (lsT intT) v.fNext, LS (lsT (lsT intT)) v.fSays, LS (lsT intT) v.fLast] 33 false, .gone, rowI 23 (lsT intT) ([([0] : (List Int))] : (List (List Int))), .gone, .gone]⟩ (by kernel_rfl) ?_
  refine WL.mt0 (K := []) (p := some (7, rowI 22 (lsT (lsT intT)) ([([([0] : (List Int))] : (List (List Int)))] : (List (List (List Int)))))) hn (by rfl) (mt_lit (T := (lsT (lsT intT))) ([([([0] : (List Int))] : (List (List Int)))] : (List (List (List Int)))) (mt_bsl 7 (r := cellsOf (lsT (lsT intT)) ([([([0] : (List Int))] : (List (List Int)))] : (List (List (List Int))))) ht rfl (by rfl) (by rfl) (by rfl) (by kernel_rfl) (by rfl)) (fun _ h => by cases h) (fun _ => rfl) (fun _ => rfl) (by rfl) (Nat.le_of_ble_eq_true rfl)) (by rfl) (by rfl) (by rfl) ?_
  refine WL.mt0 (K := []) (p := some (8, rowI 3 intT ([0] : (List Int)))) hn (by rfl) (mt_lit (T := intT) ([0] : (List Int)) (mt_bsl 8 (r := cellsOf intT ([0] : (List Int))) ht rfl (by rfl) (by rfl) (by rfl) (by kernel_rfl) (by rfl)) (fun _ h => by cases h) (fun _ => rfl) (fun _ => rfl) (by rfl) (Nat.le_of_ble_eq_true rfl)) (by rfl) (by rfl) (by rfl) ?_
  refine WL.seal (T := intT) (l := ([0] : (List Int))) (e := 3) 8 rfl ?_
  refine WL.run ht hn 0 ⟨[(3, .sv (.one (.ptr 0 0))), (4, .sv (.one (.ptr 1 0))), (5, .sv (.one (.ptr 2 0))), (24, .sv (.one (LS intT ([0] : (List Int))))), (25, .sv (.one (.own 4))), (26, .sv (.one (LS intT ([0] : (List Int))))), (27, .sv (.one (LS (lsT intT) ([([0] : (List Int))] : (List (List Int)))))), (28, .sv (.one (.own 7))), (29, .sv (.one (LS intT ([0] : (List Int)))))], [.box [I t.fIn, I t.fOut, I t.fStart, LS intT t.fFirst, LS (lsT intT) t.fNext, LS (lsT (lsT intT)) t.fSays, LS (lsT intT) t.fLast] 33 false, .box [I u.fIn, I u.fOut, I u.fStart, LS intT u.fFirst, LS (lsT intT) u.fNext, LS (lsT (lsT intT)) u.fSays, LS (lsT intT) u.fLast] 33 false, .box [I v.fIn, I v.fOut, I v.fStart, LS intT v.fFirst, LS (lsT intT) v.fNext, LS (lsT (lsT intT)) v.fSays, LS (lsT intT) v.fLast] 33 false, .gone, rowI 23 (lsT intT) ([([0] : (List Int))] : (List (List Int))), .gone, .gone, rowI 22 (lsT (lsT intT)) ([([([0] : (List Int))] : (List (List Int)))] : (List (List (List Int)))), .gone]⟩ (by kernel_rfl) ?_
  refine WL.mt0 (K := []) (p := some (9, rowI 23 (lsT intT) ([([0] : (List Int))] : (List (List Int))))) hn (by rfl) (mt_lit (T := (lsT intT)) ([([0] : (List Int))] : (List (List Int))) (mt_bsl 9 (r := cellsOf (lsT intT) ([([0] : (List Int))] : (List (List Int)))) ht rfl (by rfl) (by rfl) (by rfl) (by kernel_rfl) (by rfl)) (fun _ h => by cases h) (fun _ => rfl) (fun _ => rfl) (by rfl) (Nat.le_of_ble_eq_true rfl)) (by rfl) (by rfl) (by rfl) ?_
  refine WL.run ht hn 3 ⟨[(3, .sv (.one (.ptr 0 0))), (4, .sv (.one (.ptr 1 0))), (5, .sv (.one (.ptr 2 0))), (7, .sv (.one (.ptr 10 0)))], [.box [I t.fIn, I t.fOut, I t.fStart, LS intT t.fFirst, LS (lsT intT) t.fNext, LS (lsT (lsT intT)) t.fSays, LS (lsT intT) t.fLast] 33 false, .box [I u.fIn, I u.fOut, I u.fStart, LS intT u.fFirst, LS (lsT intT) u.fNext, LS (lsT (lsT intT)) u.fSays, LS (lsT intT) u.fLast] 33 false, .box [I v.fIn, I v.fOut, I v.fStart, LS intT v.fFirst, LS (lsT intT) v.fNext, LS (lsT (lsT intT)) v.fSays, LS (lsT intT) v.fLast] 33 false, .gone, rowI 23 (lsT intT) ([([0] : (List Int))] : (List (List Int))), .gone, .gone, rowI 22 (lsT (lsT intT)) ([([([0] : (List Int))] : (List (List Int)))] : (List (List (List Int)))), .gone, rowI 23 (lsT intT) ([([0] : (List Int))] : (List (List Int))), .box [I 1, I 1, I 0, .v (.slice none 0 0), .own 4, .own 7, .own 9] 33 false]⟩ (by kernel_rfl) ?_
  refine WL.nil ?_
  refine En.seq ?_
  refine En.region ?_
  refine WL.run ht hn 1 ⟨[(3, .sv (.one (.ptr 0 0))), (4, .sv (.one (.ptr 1 0))), (5, .sv (.one (.ptr 2 0))), (33, .sv (.agg [I 1, I 1, I 0, .v (.slice none 0 0), .own 4, .own 7, .own 9]))], [.box [I t.fIn, I t.fOut, I t.fStart, LS intT t.fFirst, LS (lsT intT) t.fNext, LS (lsT (lsT intT)) t.fSays, LS (lsT intT) t.fLast] 33 false, .box [I u.fIn, I u.fOut, I u.fStart, LS intT u.fFirst, LS (lsT intT) u.fNext, LS (lsT (lsT intT)) u.fSays, LS (lsT intT) u.fLast] 33 false, .box [I v.fIn, I v.fOut, I v.fStart, LS intT v.fFirst, LS (lsT intT) v.fNext, LS (lsT (lsT intT)) v.fSays, LS (lsT intT) v.fLast] 33 false, .gone, rowI 23 (lsT intT) ([([0] : (List Int))] : (List (List Int))), .gone, .gone, rowI 22 (lsT (lsT intT)) ([([([0] : (List Int))] : (List (List Int)))] : (List (List (List Int)))), .gone, rowI 23 (lsT intT) ([([0] : (List Int))] : (List (List Int))), .gone]⟩ (by kernel_rfl) ?_
  refine WL.seal (T := (lsT intT)) (l := ([([0] : (List Int))] : (List (List Int)))) (e := 23) 4 rfl ?_
  refine WL.run ht hn 0 ⟨[(3, .sv (.one (.ptr 0 0))), (4, .sv (.one (.ptr 1 0))), (5, .sv (.one (.ptr 2 0))), (33, .sv (.agg [I 1, I 1, I 0, .v (.slice none 0 0), LS (lsT intT) ([([0] : (List Int))] : (List (List Int))), .own 7, .own 9]))], [.box [I t.fIn, I t.fOut, I t.fStart, LS intT t.fFirst, LS (lsT intT) t.fNext, LS (lsT (lsT intT)) t.fSays, LS (lsT intT) t.fLast] 33 false, .box [I u.fIn, I u.fOut, I u.fStart, LS intT u.fFirst, LS (lsT intT) u.fNext, LS (lsT (lsT intT)) u.fSays, LS (lsT intT) u.fLast] 33 false, .box [I v.fIn, I v.fOut, I v.fStart, LS intT v.fFirst, LS (lsT intT) v.fNext, LS (lsT (lsT intT)) v.fSays, LS (lsT intT) v.fLast] 33 false, .gone, .gone, .gone, .gone, rowI 22 (lsT (lsT intT)) ([([([0] : (List Int))] : (List (List Int)))] : (List (List (List Int)))), .gone, rowI 23 (lsT intT) ([([0] : (List Int))] : (List (List Int))), .gone]⟩ (by kernel_rfl) ?_
  refine WL.seal (T := (lsT (lsT intT))) (l := ([([([0] : (List Int))] : (List (List Int)))] : (List (List (List Int))))) (e := 22) 7 rfl ?_
  refine WL.run ht hn 0 ⟨[(3, .sv (.one (.ptr 0 0))), (4, .sv (.one (.ptr 1 0))), (5, .sv (.one (.ptr 2 0))), (33, .sv (.agg [I 1, I 1, I 0, .v (.slice none 0 0), LS (lsT intT) ([([0] : (List Int))] : (List (List Int))), LS (lsT (lsT intT)) ([([([0] : (List Int))] : (List (List Int)))] : (List (List (List Int)))), .own 9]))], [.box [I t.fIn, I t.fOut, I t.fStart, LS intT t.fFirst, LS (lsT intT) t.fNext, LS (lsT (lsT intT)) t.fSays, LS (lsT intT) t.fLast] 33 false, .box [I u.fIn, I u.fOut, I u.fStart, LS intT u.fFirst, LS (lsT intT) u.fNext, LS (lsT (lsT intT)) u.fSays, LS (lsT intT) u.fLast] 33 false, .box [I v.fIn, I v.fOut, I v.fStart, LS intT v.fFirst, LS (lsT intT) v.fNext, LS (lsT (lsT intT)) v.fSays, LS (lsT intT) v.fLast] 33 false, .gone, .gone, .gone, .gone, .gone, .gone, rowI 23 (lsT intT) ([([0] : (List Int))] : (List (List Int))), .gone]⟩ (by kernel_rfl) ?_
  refine WL.seal (T := (lsT intT)) (l := ([([0] : (List Int))] : (List (List Int)))) (e := 23) 9 rfl ?_
  refine WL.run ht hn 0 ⟨[(3, .sv (.one (.ptr 0 0))), (4, .sv (.one (.ptr 1 0))), (5, .sv (.one (.ptr 2 0))), (33, .sv (.agg [I 1, I 1, I 0, .v (.slice none 0 0), LS (lsT intT) ([([0] : (List Int))] : (List (List Int))), LS (lsT (lsT intT)) ([([([0] : (List Int))] : (List (List Int)))] : (List (List (List Int)))), LS (lsT intT) ([([0] : (List Int))] : (List (List Int)))]))], [.box [I t.fIn, I t.fOut, I t.fStart, LS intT t.fFirst, LS (lsT intT) t.fNext, LS (lsT (lsT intT)) t.fSays, LS (lsT intT) t.fLast] 33 false, .box [I u.fIn, I u.fOut, I u.fStart, LS intT u.fFirst, LS (lsT intT) u.fNext, LS (lsT (lsT intT)) u.fSays, LS (lsT intT) u.fLast] 33 false, .box [I v.fIn, I v.fOut, I v.fStart, LS intT v.fFirst, LS (lsT intT) v.fNext, LS (lsT (lsT intT)) v.fSays, LS (lsT intT) v.fLast] 33 false, .gone, .gone, .gone, .gone, .gone, .gone, .gone, .gone]⟩ (by kernel_rfl) ?_
  refine WL.nilAgg (T := intT) 33 3 (by rfl) (by rfl) ?_
  refine WL.mt0 (K := []) (p := none) hn (by rfl) (mt_call (trLeastE_ct (ApiTrans.mk 1 1 0 [] ([([0] : (List Int))] : (List (List Int))) ([([([0] : (List Int))] : (List (List Int)))] : (List (List (List Int)))) ([([0] : (List Int))] : (List (List Int))))) en19 (caps := []) [] rfl (by rfl) (by kernel_rfl) (by kernel_rfl) (by rfl) (by rfl) (by rfl)) (by rfl) (by rfl) (by rfl) ?_
  refine WL.run ht hn 6 ⟨[(3, .sv (.one (.ptr 0 0))), (4, .sv (.one (.ptr 1 0))), (5, .sv (.one (.ptr 2 0))), (8, .sv (.one (.ptr 11 0))), (9, .sv (.one (I (leastE (ApiTrans.mk 1 1 0 [] ([([0] : (List Int))] : (List (List Int))) ([([([0] : (List Int))] : (List (List Int)))] : (List (List (List Int)))) ([([0] : (List Int))] : (List (List Int))))).2)))], [.box [I t.fIn, I t.fOut, I t.fStart, LS intT t.fFirst, LS (lsT intT) t.fNext, LS (lsT (lsT intT)) t.fSays, LS (lsT intT) t.fLast] 33 false, .box [I u.fIn, I u.fOut, I u.fStart, LS intT u.fFirst, LS (lsT intT) u.fNext, LS (lsT (lsT intT)) u.fSays, LS (lsT intT) u.fLast] 33 false, .box [I v.fIn, I v.fOut, I v.fStart, LS intT v.fFirst, LS (lsT intT) v.fNext, LS (lsT (lsT intT)) v.fSays, LS (lsT intT) v.fLast] 33 false, .gone, .gone, .gone, .gone, .gone, .gone, .gone, .gone, .box [I (leastE (ApiTrans.mk 1 1 0 [] ([([0] : (List Int))] : (List (List Int))) ([([([0] : (List Int))] : (List (List Int)))] : (List (List (List Int)))) ([([0] : (List Int))] : (List (List Int))))).1.fIn, I (leastE (ApiTrans.mk 1 1 0 [] ([([0] : (List Int))] : (List (List Int))) ([([([0] : (List Int))] : (List (List Int)))] : (List (List (List Int)))) ([([0] : (List Int))] : (List (List Int))))).1.fOut, I (leastE (ApiTrans.mk 1 1 0 [] ([([0] : (List Int))] : (List (List Int))) ([([([0] : (List Int))] : (List (List Int)))] : (List (List (List Int)))) ([([0] : (List Int))] : (List (List Int))))).1.fStart, LS intT (leastE (ApiTrans.mk 1 1 0 [] ([([0] : (List Int))] : (List (List Int))) ([([([0] : (List Int))] : (List (List Int)))] : (List (List (List Int)))) ([([0] : (List Int))] : (List (List Int))))).1.fFirst, LS (lsT intT) (leastE (ApiTrans.mk 1 1 0 [] ([([0] : (List Int))] : (List (List Int))) ([([([0] : (List Int))] : (List (List Int)))] : (List (List (List Int)))) ([([0] : (List Int))] : (List (List Int))))).1.fNext, LS (lsT (lsT intT)) (leastE (ApiTrans.mk 1 1 0 [] ([([0] : (List Int))] : (List (List Int))) ([([([0] : (List Int))] : (List (List Int)))] : (List (List (List Int)))) ([([0] : (List Int))] : (List (List Int))))).1.fSays, LS (lsT intT) (leastE (ApiTrans.mk 1 1 0 [] ([([0] : (List Int))] : (List (List Int))) ([([([0] : (List Int))] : (List (List Int)))] : (List (List (List Int)))) ([([0] : (List Int))] : (List (List Int))))).1.fLast] 33 false]⟩ (by kernel_rfl) ?_
  refine WL.nil ?_
  refine En.seq ?_
  obtain ⟨J, h, hJ⟩ := h
  refine En.seqJ (σ := Bool) (fun zz => J zz) (fun zz => ⟨[(3, .sv (.one (.ptr 0 0))), (4, .sv (.one (.ptr 1 0))), (5, .sv (.one (.ptr 2 0))), (58, .sv (.one (B zz)))], [.box [I t.fIn, I t.fOut, I t.fStart, LS intT t.fFirst, LS (lsT intT) t.fNext, LS (lsT (lsT intT)) t.fSays, LS (lsT intT) t.fLast] 33 false, .box [I u.fIn, I u.fOut, I u.fStart, LS intT u.fFirst, LS (lsT intT) u.fNext, LS (lsT (lsT intT)) u.fSays, LS (lsT intT) u.fLast] 33 false, .box [I v.fIn, I v.fOut, I v.fStart, LS intT v.fFirst, LS (lsT intT) v.fNext, LS (lsT (lsT intT)) v.fSays, LS (lsT intT) v.fLast] 33 false, .gone, .gone, .gone, .gone, .gone, .gone, .gone, .gone, .gone]⟩) ?_ ?_
  · refine En.region ?_
    refine WL.run ht hn 3 ⟨[(3, .sv (.one (.ptr 0 0))), (4, .sv (.one (.ptr 1 0))), (5, .sv (.one (.ptr 2 0))), (8, .sv (.one (.ptr 11 0))), (39, .sv (.one (B ((leastE (ApiTrans.mk 1 1 0 [] ([([0] : (List Int))] : (List (List Int))) ([([([0] : (List Int))] : (List (List Int)))] : (List (List (List Int)))) ([([0] : (List Int))] : (List (List Int))))).2 != 0))))], [.box [I t.fIn, I t.fOut, I t.fStart, LS intT t.fFirst, LS (lsT intT) t.fNext, LS (lsT (lsT intT)) t.fSays, LS (lsT intT) t.fLast] 33 false, .box [I u.fIn, I u.fOut, I u.fStart, LS intT u.fFirst, LS (lsT intT) u.fNext, LS (lsT (lsT intT)) u.fSays, LS (lsT intT) u.fLast] 33 false, .box [I v.fIn, I v.fOut, I v.fStart, LS intT v.fFirst, LS (lsT intT) v.fNext, LS (lsT (lsT intT)) v.fSays, LS (lsT intT) v.fLast] 33 false, .gone, .gone, .gone, .gone, .gone, .gone, .gone, .gone, .box [I (leastE (ApiTrans.mk 1 1 0 [] ([([0] : (List Int))] : (List (List Int))) ([([([0] : (List Int))] : (List (List Int)))] : (List (List (List Int)))) ([([0] : (List Int))] : (List (List Int))))).1.fIn, I (leastE (ApiTrans.mk 1 1 0 [] ([([0] : (List Int))] : (List (List Int))) ([([([0] : (List Int))] : (List (List Int)))] : (List (List (List Int)))) ([([0] : (List Int))] : (List (List Int))))).1.fOut, I (leastE (ApiTrans.mk 1 1 0 [] ([([0] : (List Int))] : (List (List Int))) ([([([0] : (List Int))] : (List (List Int)))] : (List (List (List Int)))) ([([0] : (List Int))] : (List (List Int))))).1.fStart, LS intT (leastE (ApiTrans.mk 1 1 0 [] ([([0] : (List Int))] : (List (List Int))) ([([([0] : (List Int))] : (List (List Int)))] : (List (List (List Int)))) ([([0] : (List Int))] : (List (List Int))))).1.fFirst, LS (lsT intT) (leastE (ApiTrans.mk 1 1 0 [] ([([0] : (List Int))] : (List (List Int))) ([([([0] : (List Int))] : (List (List Int)))] : (List (List (List Int)))) ([([0] : (List Int))] : (List (List Int))))).1.fNext, LS (lsT (lsT intT)) (leastE (ApiTrans.mk 1 1 0 [] ([([0] : (List Int))] : (List (List Int))) ([([([0] : (List Int))] : (List (List Int)))] : (List (List (List Int)))) ([([0] : (List Int))] : (List (List Int))))).1.fSays, LS (lsT intT) (leastE (ApiTrans.mk 1 1 0 [] ([([0] : (List Int))] : (List (List Int))) ([([([0] : (List Int))] : (List (List Int)))] : (List (List (List Int)))) ([([0] : (List Int))] : (List (List Int))))).1.fLast] 33 false]⟩ (by kernel_rfl) ?_
    refine splitB ((leastE (ApiTrans.mk 1 1 0 [] ([([0] : (List Int))] : (List (List Int))) ([([([0] : (List Int))] : (List (List Int)))] : (List (List (List Int)))) ([([0] : (List Int))] : (List (List Int))))).2 != 0) (fun hb => ?_) (fun hb => ?_)
    · replace h := h.1 hb
      refine WL.setB 39 hb (by kernel_rfl) ?_
      refine WL.run ht hn 19 ⟨[(3, .sv (.one (.ptr 0 0))), (4, .sv (.one (.ptr 1 0))), (5, .sv (.one (.ptr 2 0))), (58, .sv (.one (B true)))], [.box [I t.fIn, I t.fOut, I t.fStart, LS intT t.fFirst, LS (lsT intT) t.fNext, LS (lsT (lsT intT)) t.fSays, LS (lsT intT) t.fLast] 33 false, .box [I u.fIn, I u.fOut, I u.fStart, LS intT u.fFirst, LS (lsT intT) u.fNext, LS (lsT (lsT intT)) u.fSays, LS (lsT intT) u.fLast] 33 false, .box [I v.fIn, I v.fOut, I v.fStart, LS intT v.fFirst, LS (lsT intT) v.fNext, LS (lsT (lsT intT)) v.fSays, LS (lsT intT) v.fLast] 33 false, .gone, .gone, .gone, .gone, .gone, .gone, .gone, .gone, .gone]⟩ (by kernel_rfl) ?_
      refine WL.nil ?_
      exact En.at (I := fun zz => J zz) (T := fun zz => ⟨[(3, .sv (.one (.ptr 0 0))), (4, .sv (.one (.ptr 1 0))), (5, .sv (.one (.ptr 2 0))), (58, .sv (.one (B zz)))], [.box [I t.fIn, I t.fOut, I t.fStart, LS intT t.fFirst, LS (lsT intT) t.fNext, LS (lsT (lsT intT)) t.fSays, LS (lsT intT) t.fLast] 33 false, .box [I u.fIn, I u.fOut, I u.fStart, LS intT u.fFirst, LS (lsT intT) u.fNext, LS (lsT (lsT intT)) u.fSays, LS (lsT intT) u.fLast] 33 false, .box [I v.fIn, I v.fOut, I v.fStart, LS intT v.fFirst, LS (lsT intT) v.fNext, LS (lsT (lsT intT)) v.fSays, LS (lsT intT) v.fLast] 33 false, .gone, .gone, .gone, .gone, .gone, .gone, .gone, .gone, .gone]⟩) true h (by kernel_rfl)
    · replace h := h.2 hb
      refine WL.setB 39 hb (by kernel_rfl) ?_
      refine WL.run ht hn 6 ⟨[(3, .sv (.one (.ptr 0 0))), (4, .sv (.one (.ptr 1 0))), (5, .sv (.one (.ptr 2 0))), (8, .sv (.one (.ptr 11 0))), (45, .sv (.one (B (((leastE (ApiTrans.mk 1 1 0 [] ([([0] : (List Int))] : (List (List Int))) ([([([0] : (List Int))] : (List (List Int)))] : (List (List (List Int)))) ([([0] : (List Int))] : (List (List Int))))).1.fFirst.length : Int) != 1))))], [.box [I t.fIn, I t.fOut, I t.fStart, LS intT t.fFirst, LS (lsT intT) t.fNext, LS (lsT (lsT intT)) t.fSays, LS (lsT intT) t.fLast] 33 false, .box [I u.fIn, I u.fOut, I u.fStart, LS intT u.fFirst, LS (lsT intT) u.fNext, LS (lsT (lsT intT)) u.fSays, LS (lsT intT) u.fLast] 33 false, .box [I v.fIn, I v.fOut, I v.fStart, LS intT v.fFirst, LS (lsT intT) v.fNext, LS (lsT (lsT intT)) v.fSays, LS (lsT intT) v.fLast] 33 false, .gone, .gone, .gone, .gone, .gone, .gone, .gone, .gone, .box [I (leastE (ApiTrans.mk 1 1 0 [] ([([0] : (List Int))] : (List (List Int))) ([([([0] : (List Int))] : (List (List Int)))] : (List (List (List Int)))) ([([0] : (List Int))] : (List (List Int))))).1.fIn, I (leastE (ApiTrans.mk 1 1 0 [] ([([0] : (List Int))] : (List (List Int))) ([([([0] : (List Int))] : (List (List Int)))] : (List (List (List Int)))) ([([0] : (List Int))] : (List (List Int))))).1.fOut, I (leastE (ApiTrans.mk 1 1 0 [] ([([0] : (List Int))] : (List (List Int))) ([([([0] : (List Int))] : (List (List Int)))] : (List (List (List Int)))) ([([0] : (List Int))] : (List (List Int))))).1.fStart, LS intT (leastE (ApiTrans.mk 1 1 0 [] ([([0] : (List Int))] : (List (List Int))) ([([([0] : (List Int))] : (List (List Int)))] : (List (List (List Int)))) ([([0] : (List Int))] : (List (List Int))))).1.fFirst, LS (lsT intT) (leastE (ApiTrans.mk 1 1 0 [] ([([0] : (List Int))] : (List (List Int))) ([([([0] : (List Int))] : (List (List Int)))] : (List (List (List Int)))) ([([0] : (List Int))] : (List (List Int))))).1.fNext, LS (lsT (lsT intT)) (leastE (ApiTrans.mk 1 1 0 [] ([([0] : (List Int))] : (List (List Int))) ([([([0] : (List Int))] : (List (List Int)))] : (List (List (List Int)))) ([([0] : (List Int))] : (List (List Int))))).1.fSays, LS (lsT intT) (leastE (ApiTrans.mk 1 1 0 [] ([([0] : (List Int))] : (List (List Int))) ([([([0] : (List Int))] : (List (List Int)))] : (List (List (List Int)))) ([([0] : (List Int))] : (List (List Int))))).1.fLast] 33 false]⟩ (by kernel_rfl) ?_
      refine splitB (((leastE (ApiTrans.mk 1 1 0 [] ([([0] : (List Int))] : (List (List Int))) ([([([0] : (List Int))] : (List (List Int)))] : (List (List (List Int)))) ([([0] : (List Int))] : (List (List Int))))).1.fFirst.length : Int) != 1) (fun hb => ?_) (fun hb => ?_)
      · replace h := h.1 hb
        refine WL.setB 45 hb (by kernel_rfl) ?_
        refine WL.run ht hn 13 ⟨[(3, .sv (.one (.ptr 0 0))), (4, .sv (.one (.ptr 1 0))), (5, .sv (.one (.ptr 2 0))), (58, .sv (.one (B true)))], [.box [I t.fIn, I t.fOut, I t.fStart, LS intT t.fFirst, LS (lsT intT) t.fNext, LS (lsT (lsT intT)) t.fSays, LS (lsT intT) t.fLast] 33 false, .box [I u.fIn, I u.fOut, I u.fStart, LS intT u.fFirst, LS (lsT intT) u.fNext, LS (lsT (lsT intT)) u.fSays, LS (lsT intT) u.fLast] 33 false, .box [I v.fIn, I v.fOut, I v.fStart, LS intT v.fFirst, LS (lsT intT) v.fNext, LS (lsT (lsT intT)) v.fSays, LS (lsT intT) v.fLast] 33 false, .gone, .gone, .gone, .gone, .gone, .gone, .gone, .gone, .gone]⟩ (by kernel_rfl) ?_
        refine WL.nil ?_
        exact En.at (I := fun zz => J zz) (T := fun zz => ⟨[(3, .sv (.one (.ptr 0 0))), (4, .sv (.one (.ptr 1 0))), (5, .sv (.one (.ptr 2 0))), (58, .sv (.one (B zz)))], [.box [I t.fIn, I t.fOut, I t.fStart, LS intT t.fFirst, LS (lsT intT) t.fNext, LS (lsT (lsT intT)) t.fSays, LS (lsT intT) t.fLast] 33 false, .box [I u.fIn, I u.fOut, I u.fStart, LS intT u.fFirst, LS (lsT intT) u.fNext, LS (lsT (lsT intT)) u.fSays, LS (lsT intT) u.fLast] 33 false, .box [I v.fIn, I v.fOut, I v.fStart, LS intT v.fFirst, LS (lsT intT) v.fNext, LS (lsT (lsT intT)) v.fSays, LS (lsT intT) v.fLast] 33 false, .gone, .gone, .gone, .gone, .gone, .gone, .gone, .gone, .gone]⟩) true h (by kernel_rfl)
      · replace h := h.2 hb
        refine WL.setB 45 hb (by kernel_rfl) ?_
        refine WL.run ht hn 6 ⟨[(3, .sv (.one (.ptr 0 0))), (4, .sv (.one (.ptr 1 0))), (5, .sv (.one (.ptr 2 0))), (8, .sv (.one (.ptr 11 0))), (51, .sv (.one (B (((leastE (ApiTrans.mk 1 1 0 [] ([([0] : (List Int))] : (List (List Int))) ([([([0] : (List Int))] : (List (List Int)))] : (List (List (List Int)))) ([([0] : (List Int))] : (List (List Int))))).1.fLast.length : Int) != 1))))], [.box [I t.fIn, I t.fOut, I t.fStart, LS intT t.fFirst, LS (lsT intT) t.fNext, LS (lsT (lsT intT)) t.fSays, LS (lsT intT) t.fLast] 33 false, .box [I u.fIn, I u.fOut, I u.fStart, LS intT u.fFirst, LS (lsT intT) u.fNext, LS (lsT (lsT intT)) u.fSays, LS (lsT intT) u.fLast] 33 false, .box [I v.fIn, I v.fOut, I v.fStart, LS intT v.fFirst, LS (lsT intT) v.fNext, LS (lsT (lsT intT)) v.fSays, LS (lsT intT) v.fLast] 33 false, .gone, .gone, .gone, .gone, .gone, .gone, .gone, .gone, .box [I (leastE (ApiTrans.mk 1 1 0 [] ([([0] : (List Int))] : (List (List Int))) ([([([0] : (List Int))] : (List (List Int)))] : (List (List (List Int)))) ([([0] : (List Int))] : (List (List Int))))).1.fIn, I (leastE (ApiTrans.mk 1 1 0 [] ([([0] : (List Int))] : (List (List Int))) ([([([0] : (List Int))] : (List (List Int)))] : (List (List (List Int)))) ([([0] : (List Int))] : (List (List Int))))).1.fOut, I (leastE (ApiTrans.mk 1 1 0 [] ([([0] : (List Int))] : (List (List Int))) ([([([0] : (List Int))] : (List (List Int)))] : (List (List (List Int)))) ([([0] : (List Int))] : (List (List Int))))).1.fStart, LS intT (leastE (ApiTrans.mk 1 1 0 [] ([([0] : (List Int))] : (List (List Int))) ([([([0] : (List Int))] : (List (List Int)))] : (List (List (List Int)))) ([([0] : (List Int))] : (List (List Int))))).1.fFirst, LS (lsT intT) (leastE (ApiTrans.mk 1 1 0 [] ([([0] : (List Int))] : (List (List Int))) ([([([0] : (List Int))] : (List (List Int)))] : (List (List (List Int)))) ([([0] : (List Int))] : (List (List Int))))).1.fNext, LS (lsT (lsT intT)) (leastE (ApiTrans.mk 1 1 0 [] ([([0] : (List Int))] : (List (List Int))) ([([([0] : (List Int))] : (List (List Int)))] : (List (List (List Int)))) ([([0] : (List Int))] : (List (List Int))))).1.fSays, LS (lsT intT) (leastE (ApiTrans.mk 1 1 0 [] ([([0] : (List Int))] : (List (List Int))) ([([([0] : (List Int))] : (List (List Int)))] : (List (List (List Int)))) ([([0] : (List Int))] : (List (List Int))))).1.fLast] 33 false]⟩ (by kernel_rfl) ?_
        refine splitB (((leastE (ApiTrans.mk 1 1 0 [] ([([0] : (List Int))] : (List (List Int))) ([([([0] : (List Int))] : (List (List Int)))] : (List (List (List Int)))) ([([0] : (List Int))] : (List (List Int))))).1.fLast.length : Int) != 1) (fun hb => ?_) (fun hb => ?_)
        · replace h := h.1 hb
          refine WL.setB 51 hb (by kernel_rfl) ?_
          refine WL.run ht hn 7 ⟨[(3, .sv (.one (.ptr 0 0))), (4, .sv (.one (.ptr 1 0))), (5, .sv (.one (.ptr 2 0))), (58, .sv (.one (B true)))], [.box [I t.fIn, I t.fOut, I t.fStart, LS intT t.fFirst, LS (lsT intT) t.fNext, LS (lsT (lsT intT)) t.fSays, LS (lsT intT) t.fLast] 33 false, .box [I u.fIn, I u.fOut, I u.fStart, LS intT u.fFirst, LS (lsT intT) u.fNext, LS (lsT (lsT intT)) u.fSays, LS (lsT intT) u.fLast] 33 false, .box [I v.fIn, I v.fOut, I v.fStart, LS intT v.fFirst, LS (lsT intT) v.fNext, LS (lsT (lsT intT)) v.fSays, LS (lsT intT) v.fLast] 33 false, .gone, .gone, .gone, .gone, .gone, .gone, .gone, .gone, .gone]⟩ (by kernel_rfl) ?_
          refine WL.nil ?_
          exact En.at (I := fun zz => J zz) (T := fun zz => ⟨[(3, .sv (.one (.ptr 0 0))), (4, .sv (.one (.ptr 1 0))), (5, .sv (.one (.ptr 2 0))), (58, .sv (.one (B zz)))], [.box [I t.fIn, I t.fOut, I t.fStart, LS intT t.fFirst, LS (lsT intT) t.fNext, LS (lsT (lsT intT)) t.fSays, LS (lsT intT) t.fLast] 33 false, .box [I u.fIn, I u.fOut, I u.fStart, LS intT u.fFirst, LS (lsT intT) u.fNext, LS (lsT (lsT intT)) u.fSays, LS (lsT intT) u.fLast] 33 false, .box [I v.fIn, I v.fOut, I v.fStart, LS intT v.fFirst, LS (lsT intT) v.fNext, LS (lsT (lsT intT)) v.fSays, LS (lsT intT) v.fLast] 33 false, .gone, .gone, .gone, .gone, .gone, .gone, .gone, .gone, .gone]⟩) true h (by kernel_rfl)
        · replace h := h.2 hb
          refine WL.setB 51 hb (by kernel_rfl) ?_
          refine WL.run ht hn 2 ⟨[(3, .sv (.one (.ptr 0 0))), (4, .sv (.one (.ptr 1 0))), (5, .sv (.one (.ptr 2 0))), (51, .sv (.one (B false))), (53, .sv (.one (LS (lsT intT) (leastE (ApiTrans.mk 1 1 0 [] ([([0] : (List Int))] : (List (List Int))) ([([([0] : (List Int))] : (List (List Int)))] : (List (List (List Int)))) ([([0] : (List Int))] : (List (List Int))))).1.fLast)))], [.box [I t.fIn, I t.fOut, I t.fStart, LS intT t.fFirst, LS (lsT intT) t.fNext, LS (lsT (lsT intT)) t.fSays, LS (lsT intT) t.fLast] 33 false, .box [I u.fIn, I u.fOut, I u.fStart, LS intT u.fFirst, LS (lsT intT) u.fNext, LS (lsT (lsT intT)) u.fSays, LS (lsT intT) u.fLast] 33 false, .box [I v.fIn, I v.fOut, I v.fStart, LS intT v.fFirst, LS (lsT intT) v.fNext, LS (lsT (lsT intT)) v.fSays, LS (lsT intT) v.fLast] 33 false, .gone, .gone, .gone, .gone, .gone, .gone, .gone, .gone, .gone]⟩ (by kernel_rfl) ?_
          obtain ⟨e, he, h⟩ := h
          refine WL.val hn (by rfl) (val_index (T := (lsT intT)) (l := (leastE (ApiTrans.mk 1 1 0 [] ([([0] : (List Int))] : (List (List Int))) ([([([0] : (List Int))] : (List (List Int)))] : (List (List (List Int)))) ([([0] : (List Int))] : (List (List Int))))).1.fLast) (i := 0) ht rfl (by rfl) (by rfl) (by rfl) (by rfl) (by rfl) (by rfl) he) (by rfl) ?_
          refine WL.val hn (by rfl) (val_load (s := .one (LS intT e)) ht rfl (by rfl) (by rfl) (by rfl) (by rfl) (by rfl)) (by rfl) ?_
          refine WL.run ht hn 3 ⟨[(3, .sv (.one (.ptr 0 0))), (4, .sv (.one (.ptr 1 0))), (5, .sv (.one (.ptr 2 0))), (58, .sv (.one (B ((e.length : Int) != 0))))], [.box [I t.fIn, I t.fOut, I t.fStart, LS intT t.fFirst, LS (lsT intT) t.fNext, LS (lsT (lsT intT)) t.fSays, LS (lsT intT) t.fLast] 33 false, .box [I u.fIn, I u.fOut, I u.fStart, LS intT u.fFirst, LS (lsT intT) u.fNext, LS (lsT (lsT intT)) u.fSays, LS (lsT intT) u.fLast] 33 false, .box [I v.fIn, I v.fOut, I v.fStart, LS intT v.fFirst, LS (lsT intT) v.fNext, LS (lsT (lsT intT)) v.fSays, LS (lsT intT) v.fLast] 33 false, .gone, .gone, .gone, .gone, .gone, .gone, .gone, .gone, .gone]⟩ (by kernel_rfl) ?_
          refine WL.nil ?_
          exact En.at (I := fun zz => J zz) (T := fun zz => ⟨[(3, .sv (.one (.ptr 0 0))), (4, .sv (.one (.ptr 1 0))), (5, .sv (.one (.ptr 2 0))), (58, .sv (.one (B zz)))], [.box [I t.fIn, I t.fOut, I t.fStart, LS intT t.fFirst, LS (lsT intT) t.fNext, LS (lsT (lsT intT)) t.fSays, LS (lsT intT) t.fLast] 33 false, .box [I u.fIn, I u.fOut, I u.fStart, LS intT u.fFirst, LS (lsT intT) u.fNext, LS (lsT (lsT intT)) u.fSays, LS (lsT intT) u.fLast] 33 false, .box [I v.fIn, I v.fOut, I v.fStart, LS intT v.fFirst, LS (lsT intT) v.fNext, LS (lsT (lsT intT)) v.fSays, LS (lsT intT) v.fLast] 33 false, .gone, .gone, .gone, .gone, .gone, .gone, .gone, .gone, .gone]⟩) ((e.length : Int) != 0) h (by kernel_rfl)
  · intro x58 h
    replace h := hJ _ h
    show En c ⟨[(3, .sv (.one (.ptr 0 0))), (4, .sv (.one (.ptr 1 0))), (5, .sv (.one (.ptr 2 0))), (58, .sv (.one (B x58)))], [.box [I t.fIn, I t.fOut, I t.fStart, LS intT t.fFirst, LS (lsT intT) t.fNext, LS (lsT (lsT intT)) t.fSays, LS (lsT intT) t.fLast] 33 false, .box [I u.fIn, I u.fOut, I u.fStart, LS intT u.fFirst, LS (lsT intT) u.fNext, LS (lsT (lsT intT)) u.fSays, LS (lsT intT) u.fLast] 33 false, .box [I v.fIn, I v.fOut, I v.fStart, LS intT v.fFirst, LS (lsT intT) v.fNext, LS (lsT (lsT intT)) v.fSays, LS (lsT intT) v.fLast] 33 false, .gone, .gone, .gone, .gone, .gone, .gone, .gone, .gone, .gone]⟩ _
    refine En.cond (b := x58) (by kernel_rfl) (fun hb => ?_) (fun hb => ?_)
    · replace h := h.1 hb
      refine En.seq ?_
      refine En.region ?_
      refine WL.run ht hn 1 ⟨[(6, .sv (.one (B false)))], [.gone, .gone, .gone, .gone, .gone, .gone, .gone, .gone, .gone, .gone, .gone, .gone]⟩ (by kernel_rfl) ?_
      refine WL.nil ?_
      refine En.ret ?_
      exact En.back ht false h (by kernel_rfl) rfl
    · replace h := h.2 hb
      refine En.skip ?_
      refine En.seq ?_
      refine En.region ?_
      refine WL.run ht hn 2 ⟨[(3, .sv (.one (.ptr 0 0))), (4, .sv (.one (.ptr 1 0))), (5, .sv (.one (.ptr 2 0))), (60, .sv (.agg [I t.fIn, I t.fOut, I t.fStart, LS intT t.fFirst, LS (lsT intT) t.fNext, LS (lsT (lsT intT)) t.fSays, LS (lsT intT) t.fLast])), (61, .sv (.agg [I u.fIn, I u.fOut, I u.fStart, LS intT u.fFirst, LS (lsT intT) u.fNext, LS (lsT (lsT intT)) u.fSays, LS (lsT intT) u.fLast]))], [.box [I t.fIn, I t.fOut, I t.fStart, LS intT t.fFirst, LS (lsT intT) t.fNext, LS (lsT (lsT intT)) t.fSays, LS (lsT intT) t.fLast] 33 false, .box [I u.fIn, I u.fOut, I u.fStart, LS intT u.fFirst, LS (lsT intT) u.fNext, LS (lsT (lsT intT)) u.fSays, LS (lsT intT) u.fLast] 33 false, .box [I v.fIn, I v.fOut, I v.fStart, LS intT v.fFirst, LS (lsT intT) v.fNext, LS (lsT (lsT intT)) v.fSays, LS (lsT intT) v.fLast] 33 false, .gone, .gone, .gone, .gone, .gone, .gone, .gone, .gone, .gone]⟩ (by kernel_rfl) ?_
      refine WL.mt0 (K := []) (p := none) hn (by rfl) (mt_call (trBehind_ct t u) en20 (caps := []) [] rfl (by rfl) (by kernel_rfl) (by kernel_rfl) (by rfl) (by rfl) (by rfl)) (by rfl) (by rfl) (by rfl) ?_
      refine WL.run ht hn 6 ⟨[(3, .sv (.one (.ptr 0 0))), (4, .sv (.one (.ptr 1 0))), (5, .sv (.one (.ptr 2 0))), (9, .sv (.one (I (behindR t u).2))), (10, .sv (.one (.ptr 12 0)))], [.box [I t.fIn, I t.fOut, I t.fStart, LS intT t.fFirst, LS (lsT intT) t.fNext, LS (lsT (lsT intT)) t.fSays, LS (lsT intT) t.fLast] 33 false, .box [I u.fIn, I u.fOut, I u.fStart, LS intT u.fFirst, LS (lsT intT) u.fNext, LS (lsT (lsT intT)) u.fSays, LS (lsT intT) u.fLast] 33 false, .box [I v.fIn, I v.fOut, I v.fStart, LS intT v.fFirst, LS (lsT intT) v.fNext, LS (lsT (lsT intT)) v.fSays, LS (lsT intT) v.fLast] 33 false, .gone, .gone, .gone, .gone, .gone, .gone, .gone, .gone, .gone, .box [I (behindR t u).1.fIn, I (behindR t u).1.fOut, I (behindR t u).1.fStart, LS intT (behindR t u).1.fFirst, LS (lsT intT) (behindR t u).1.fNext, LS (lsT (lsT intT)) (behindR t u).1.fSays, LS (lsT intT) (behindR t u).1.fLast] 33 false]⟩ (by kernel_rfl) ?_
      refine WL.nil ?_
      refine En.seq ?_
      refine En.region ?_
      refine WL.run ht hn 2 ⟨[(3, .sv (.one (.ptr 0 0))), (4, .sv (.one (.ptr 1 0))), (5, .sv (.one (.ptr 2 0))), (9, .sv (.one (I (behindR t u).2))), (10, .sv (.one (.ptr 12 0))), (66, .sv (.agg [I u.fIn, I u.fOut, I u.fStart, LS intT u.fFirst, LS (lsT intT) u.fNext, LS (lsT (lsT intT)) u.fSays, LS (lsT intT) u.fLast])), (67, .sv (.agg [I v.fIn, I v.fOut, I v.fStart, LS intT v.fFirst, LS (lsT intT) v.fNext, LS (lsT (lsT intT)) v.fSays, LS (lsT intT) v.fLast]))], [.box [I t.fIn, I t.fOut, I t.fStart, LS intT t.fFirst, LS (lsT intT) t.fNext, LS (lsT (lsT intT)) t.fSays, LS (lsT intT) t.fLast] 33 false, .box [I u.fIn, I u.fOut, I u.fStart, LS intT u.fFirst, LS (lsT intT) u.fNext, LS (lsT (lsT intT)) u.fSays, LS (lsT intT) u.fLast] 33 false, .box [I v.fIn, I v.fOut, I v.fStart, LS intT v.fFirst, LS (lsT intT) v.fNext, LS (lsT (lsT intT)) v.fSays, LS (lsT intT) v.fLast] 33 false, .gone, .gone, .gone, .gone, .gone, .gone, .gone, .gone, .gone, .box [I (behindR t u).1.fIn, I (behindR t u).1.fOut, I (behindR t u).1.fStart, LS intT (behindR t u).1.fFirst, LS (lsT intT) (behindR t u).1.fNext, LS (lsT (lsT intT)) (behindR t u).1.fSays, LS (lsT intT) (behindR t u).1.fLast] 33 false]⟩ (by kernel_rfl) ?_
      refine WL.mt0 (K := []) (p := none) hn (by rfl) (mt_call (trBehind_ct u v) en20 (caps := []) [] rfl (by rfl) (by kernel_rfl) (by kernel_rfl) (by rfl) (by rfl) (by rfl)) (by rfl) (by rfl) (by rfl) ?_
      refine WL.run ht hn 6 ⟨[(3, .sv (.one (.ptr 0 0))), (4, .sv (.one (.ptr 1 0))), (5, .sv (.one (.ptr 2 0))), (9, .sv (.one (I (behindR t u).2))), (10, .sv (.one (.ptr 12 0))), (11, .sv (.one (.ptr 13 0))), (12, .sv (.one (I (behindR u v).2)))], [.box [I t.fIn, I t.fOut, I t.fStart, LS intT t.fFirst, LS (lsT intT) t.fNext, LS (lsT (lsT intT)) t.fSays, LS (lsT intT) t.fLast] 33 false, .box [I u.fIn, I u.fOut, I u.fStart, LS intT u.fFirst, LS (lsT intT) u.fNext, LS (lsT (lsT intT)) u.fSays, LS (lsT intT) u.fLast] 33 false, .box [I v.fIn, I v.fOut, I v.fStart, LS intT v.fFirst, LS (lsT intT) v.fNext, LS (lsT (lsT intT)) v.fSays, LS (lsT intT) v.fLast] 33 false, .gone, .gone, .gone, .gone, .gone, .gone, .gone, .gone, .gone, .box [I (behindR t u).1.fIn, I (behindR t u).1.fOut, I (behindR t u).1.fStart, LS intT (behindR t u).1.fFirst, LS (lsT intT) (behindR t u).1.fNext, LS (lsT (lsT intT)) (behindR t u).1.fSays, LS (lsT intT) (behindR t u).1.fLast] 33 false, .box [I (behindR u v).1.fIn, I (behindR u v).1.fOut, I (behindR u v).1.fStart, LS intT (behindR u v).1.fFirst, LS (lsT intT) (behindR u v).1.fNext, LS (lsT (lsT intT)) (behindR u v).1.fSays, LS (lsT intT) (behindR u v).1.fLast] 33 false]⟩ (by kernel_rfl) ?_
      refine WL.nil ?_
      obtain ⟨J_2, h, hJ_2⟩ := h
      refine En.seqJ (σ := Unit) (fun _ => J_2) (fun _ => ⟨[(3, .sv (.one (.ptr 0 0))), (4, .sv (.one (.ptr 1 0)))], [.box [I t.fIn, I t.fOut, I t.fStart, LS intT t.fFirst, LS (lsT intT) t.fNext, LS (lsT (lsT intT)) t.fSays, LS (lsT intT) t.fLast] 33 false, .box [I u.fIn, I u.fOut, I u.fStart, LS intT u.fFirst, LS (lsT intT) u.fNext, LS (lsT (lsT intT)) u.fSays, LS (lsT intT) u.fLast] 33 false, .gone, .gone, .gone, .gone, .gone, .gone, .gone, .gone, .gone, .gone, .gone, .gone]⟩) ?_ ?_
      · refine En.seq ?_
        refine En.region ?_
        refine WL.run ht hn 3 ⟨[(3, .sv (.one (.ptr 0 0))), (4, .sv (.one (.ptr 1 0))), (5, .sv (.one (.ptr 2 0))), (10, .sv (.one (.ptr 12 0))), (11, .sv (.one (.ptr 13 0))), (12, .sv (.one (I (behindR u v).2))), (73, .sv (.one (B ((behindR t u).2 == 0))))], [.box [I t.fIn, I t.fOut, I t.fStart, LS intT t.fFirst, LS (lsT intT) t.fNext, LS (lsT (lsT intT)) t.fSays, LS (lsT intT) t.fLast] 33 false, .box [I u.fIn, I u.fOut, I u.fStart, LS intT u.fFirst, LS (lsT intT) u.fNext, LS (lsT (lsT intT)) u.fSays, LS (lsT intT) u.fLast] 33 false, .box [I v.fIn, I v.fOut, I v.fStart, LS intT v.fFirst, LS (lsT intT) v.fNext, LS (lsT (lsT intT)) v.fSays, LS (lsT intT) v.fLast] 33 false, .gone, .gone, .gone, .gone, .gone, .gone, .gone, .gone, .gone, .box [I (behindR t u).1.fIn, I (behindR t u).1.fOut, I (behindR t u).1.fStart, LS intT (behindR t u).1.fFirst, LS (lsT intT) (behindR t u).1.fNext, LS (lsT (lsT intT)) (behindR t u).1.fSays, LS (lsT intT) (behindR t u).1.fLast] 33 false, .box [I (behindR u v).1.fIn, I (behindR u v).1.fOut, I (behindR u v).1.fStart, LS intT (behindR u v).1.fFirst, LS (lsT intT) (behindR u v).1.fNext, LS (lsT (lsT intT)) (behindR u v).1.fSays, LS (lsT intT) (behindR u v).1.fLast] 33 false]⟩ (by kernel_rfl) ?_
        refine WL.thru ⟨[(3, .sv (.one (.ptr 0 0))), (4, .sv (.one (.ptr 1 0))), (5, .sv (.one (.ptr 2 0))), (10, .sv (.one (.ptr 12 0))), (11, .sv (.one (.ptr 13 0))), (76, .sv (.one (B (((behindR t u).2 == 0) && ((behindR u v).2 == 0)))))], [.box [I t.fIn, I t.fOut, I t.fStart, LS intT t.fFirst, LS (lsT intT) t.fNext, LS (lsT (lsT intT)) t.fSays, LS (lsT intT) t.fLast] 33 false, .box [I u.fIn, I u.fOut, I u.fStart, LS intT u.fFirst, LS (lsT intT) u.fNext, LS (lsT (lsT intT)) u.fSays, LS (lsT intT) u.fLast] 33 false, .box [I v.fIn, I v.fOut, I v.fStart, LS intT v.fFirst, LS (lsT intT) v.fNext, LS (lsT (lsT intT)) v.fSays, LS (lsT intT) v.fLast] 33 false, .gone, .gone, .gone, .gone, .gone, .gone, .gone, .gone, .gone, .box [I (behindR t u).1.fIn, I (behindR t u).1.fOut, I (behindR t u).1.fStart, LS intT (behindR t u).1.fFirst, LS (lsT intT) (behindR t u).1.fNext, LS (lsT (lsT intT)) (behindR t u).1.fSays, LS (lsT intT) (behindR t u).1.fLast] 33 false, .box [I (behindR u v).1.fIn, I (behindR u v).1.fOut, I (behindR u v).1.fStart, LS intT (behindR u v).1.fFirst, LS (lsT intT) (behindR u v).1.fNext, LS (lsT (lsT intT)) (behindR u v).1.fSays, LS (lsT intT) (behindR u v).1.fLast] 33 false]⟩ ?_ ?_
        · refine splitB ((behindR t u).2 == 0) (fun hb0 => ?_) (fun hb0 => ?_)
          · refine WL.setB 73 hb0 (by kernel_rfl) ?_
            refine WL.run ht hn 3 ⟨[(3, .sv (.one (.ptr 0 0))), (4, .sv (.one (.ptr 1 0))), (5, .sv (.one (.ptr 2 0))), (10, .sv (.one (.ptr 12 0))), (11, .sv (.one (.ptr 13 0))), (76, .sv (.one (B ((behindR u v).2 == 0))))], [.box [I t.fIn, I t.fOut, I t.fStart, LS intT t.fFirst, LS (lsT intT) t.fNext, LS (lsT (lsT intT)) t.fSays, LS (lsT intT) t.fLast] 33 false, .box [I u.fIn, I u.fOut, I u.fStart, LS intT u.fFirst, LS (lsT intT) u.fNext, LS (lsT (lsT intT)) u.fSays, LS (lsT intT) u.fLast] 33 false, .box [I v.fIn, I v.fOut, I v.fStart, LS intT v.fFirst, LS (lsT intT) v.fNext, LS (lsT (lsT intT)) v.fSays, LS (lsT intT) v.fLast] 33 false, .gone, .gone, .gone, .gone, .gone, .gone, .gone, .gone, .gone, .box [I (behindR t u).1.fIn, I (behindR t u).1.fOut, I (behindR t u).1.fStart, LS intT (behindR t u).1.fFirst, LS (lsT intT) (behindR t u).1.fNext, LS (lsT (lsT intT)) (behindR t u).1.fSays, LS (lsT intT) (behindR t u).1.fLast] 33 false, .box [I (behindR u v).1.fIn, I (behindR u v).1.fOut, I (behindR u v).1.fStart, LS intT (behindR u v).1.fFirst, LS (lsT intT) (behindR u v).1.fNext, LS (lsT (lsT intT)) (behindR u v).1.fSays, LS (lsT intT) (behindR u v).1.fLast] 33 false]⟩ (by kernel_rfl) ?_
            exact WL.nil (sub_ok (by simp only [hb0]; kernel_rfl))
          · refine WL.setB 73 hb0 (by kernel_rfl) ?_
            refine WL.run ht hn 3 ⟨[(3, .sv (.one (.ptr 0 0))), (4, .sv (.one (.ptr 1 0))), (5, .sv (.one (.ptr 2 0))), (10, .sv (.one (.ptr 12 0))), (11, .sv (.one (.ptr 13 0))), (76, .sv (.one (B false)))], [.box [I t.fIn, I t.fOut, I t.fStart, LS intT t.fFirst, LS (lsT intT) t.fNext, LS (lsT (lsT intT)) t.fSays, LS (lsT intT) t.fLast] 33 false, .box [I u.fIn, I u.fOut, I u.fStart, LS intT u.fFirst, LS (lsT intT) u.fNext, LS (lsT (lsT intT)) u.fSays, LS (lsT intT) u.fLast] 33 false, .box [I v.fIn, I v.fOut, I v.fStart, LS intT v.fFirst, LS (lsT intT) v.fNext, LS (lsT (lsT intT)) v.fSays, LS (lsT intT) v.fLast] 33 false, .gone, .gone, .gone, .gone, .gone, .gone, .gone, .gone, .gone, .box [I (behindR t u).1.fIn, I (behindR t u).1.fOut, I (behindR t u).1.fStart, LS intT (behindR t u).1.fFirst, LS (lsT intT) (behindR t u).1.fNext, LS (lsT (lsT intT)) (behindR t u).1.fSays, LS (lsT intT) (behindR t u).1.fLast] 33 false, .box [I (behindR u v).1.fIn, I (behindR u v).1.fOut, I (behindR u v).1.fStart, LS intT (behindR u v).1.fFirst, LS (lsT intT) (behindR u v).1.fNext, LS (lsT (lsT intT)) (behindR u v).1.fSays, LS (lsT intT) (behindR u v).1.fLast] 33 false]⟩ (by kernel_rfl) ?_
            exact WL.nil (sub_ok (by simp only [hb0]; kernel_rfl))
        · refine En.cond (b := (((behindR t u).2 == 0) && ((behindR u v).2 == 0))) (by kernel_rfl) (fun hb => ?_) (fun hb => ?_)
          · replace h := h.1 hb
            refine En.seq ?_
            refine En.region ?_
            refine WL.run ht hn 2 ⟨[(3, .sv (.one (.ptr 0 0))), (4, .sv (.one (.ptr 1 0))), (11, .sv (.one (.ptr 13 0))), (78, .sv (.agg [I (behindR t u).1.fIn, I (behindR t u).1.fOut, I (behindR t u).1.fStart, LS intT (behindR t u).1.fFirst, LS (lsT intT) (behindR t u).1.fNext, LS (lsT (lsT intT)) (behindR t u).1.fSays, LS (lsT intT) (behindR t u).1.fLast])), (79, .sv (.agg [I v.fIn, I v.fOut, I v.fStart, LS intT v.fFirst, LS (lsT intT) v.fNext, LS (lsT (lsT intT)) v.fSays, LS (lsT intT) v.fLast]))], [.box [I t.fIn, I t.fOut, I t.fStart, LS intT t.fFirst, LS (lsT intT) t.fNext, LS (lsT (lsT intT)) t.fSays, LS (lsT intT) t.fLast] 33 false, .box [I u.fIn, I u.fOut, I u.fStart, LS intT u.fFirst, LS (lsT intT) u.fNext, LS (lsT (lsT intT)) u.fSays, LS (lsT intT) u.fLast] 33 false, .gone, .gone, .gone, .gone, .gone, .gone, .gone, .gone, .gone, .gone, .gone, .box [I (behindR u v).1.fIn, I (behindR u v).1.fOut, I (behindR u v).1.fStart, LS intT (behindR u v).1.fFirst, LS (lsT intT) (behindR u v).1.fNext, LS (lsT (lsT intT)) (behindR u v).1.fSays, LS (lsT intT) (behindR u v).1.fLast] 33 false]⟩ (by kernel_rfl) ?_
            refine WL.mt0 (K := []) (p := none) hn (by rfl) (mt_call (trBehind_ct (behindR t u).1 v) en20 (caps := []) [] rfl (by rfl) (by kernel_rfl) (by kernel_rfl) (by rfl) (by rfl) (by rfl)) (by rfl) (by rfl) (by rfl) ?_
            refine WL.run ht hn 6 ⟨[(3, .sv (.one (.ptr 0 0))), (4, .sv (.one (.ptr 1 0))), (11, .sv (.one (.ptr 13 0))), (13, .sv (.one (.ptr 14 0))), (14, .sv (.one (I (behindR (behindR t u).1 v).2)))], [.box [I t.fIn, I t.fOut, I t.fStart, LS intT t.fFirst, LS (lsT intT) t.fNext, LS (lsT (lsT intT)) t.fSays, LS (lsT intT) t.fLast] 33 false, .box [I u.fIn, I u.fOut, I u.fStart, LS intT u.fFirst, LS (lsT intT) u.fNext, LS (lsT (lsT intT)) u.fSays, LS (lsT intT) u.fLast] 33 false, .gone, .gone, .gone, .gone, .gone, .gone, .gone, .gone, .gone, .gone, .gone, .box [I (behindR u v).1.fIn, I (behindR u v).1.fOut, I (behindR u v).1.fStart, LS intT (behindR u v).1.fFirst, LS (lsT intT) (behindR u v).1.fNext, LS (lsT (lsT intT)) (behindR u v).1.fSays, LS (lsT intT) (behindR u v).1.fLast] 33 false, .box [I (behindR (behindR t u).1 v).1.fIn, I (behindR (behindR t u).1 v).1.fOut, I (behindR (behindR t u).1 v).1.fStart, LS intT (behindR (behindR t u).1 v).1.fFirst, LS (lsT intT) (behindR (behindR t u).1 v).1.fNext, LS (lsT (lsT intT)) (behindR (behindR t u).1 v).1.fSays, LS (lsT intT) (behindR (behindR t u).1 v).1.fLast] 33 false]⟩ (by kernel_rfl) ?_
            refine WL.nil ?_
            refine En.seq ?_
            refine En.region ?_
            refine WL.run ht hn 2 ⟨[(3, .sv (.one (.ptr 0 0))), (4, .sv (.one (.ptr 1 0))), (13, .sv (.one (.ptr 14 0))), (14, .sv (.one (I (behindR (behindR t u).1 v).2))), (84, .sv (.agg [I t.fIn, I t.fOut, I t.fStart, LS intT t.fFirst, LS (lsT intT) t.fNext, LS (lsT (lsT intT)) t.fSays, LS (lsT intT) t.fLast])), (85, .sv (.agg [I (behindR u v).1.fIn, I (behindR u v).1.fOut, I (behindR u v).1.fStart, LS intT (behindR u v).1.fFirst, LS (lsT intT) (behindR u v).1.fNext, LS (lsT (lsT intT)) (behindR u v).1.fSays, LS (lsT intT) (behindR u v).1.fLast]))], [.box [I t.fIn, I t.fOut, I t.fStart, LS intT t.fFirst, LS (lsT intT) t.fNext, LS (lsT (lsT intT)) t.fSays, LS (lsT intT) t.fLast] 33 false, .box [I u.fIn, I u.fOut, I u.fStart, LS intT u.fFirst, LS (lsT intT) u.fNext, LS (lsT (lsT intT)) u.fSays, LS (lsT intT) u.fLast] 33 false, .gone, .gone, .gone, .gone, .gone, .gone, .gone, .gone, .gone, .gone, .gone, .gone, .box [I (behindR (behindR t u).1 v).1.fIn, I (behindR (behindR t u).1 v).1.fOut, I (behindR (behindR t u).1 v).1.fStart, LS intT (behindR (behindR t u).1 v).1.fFirst, LS (lsT intT) (behindR (behindR t u).1 v).1.fNext, LS (lsT (lsT intT)) (behindR (behindR t u).1 v).1.fSays, LS (lsT intT) (behindR (behindR t u).1 v).1.fLast] 33 false]⟩ (by kernel_rfl) ?_
            refine WL.mt0 (K := []) (p := none) hn (by rfl) (mt_call (trBehind_ct t (behindR u v).1) en20 (caps := []) [] rfl (by rfl) (by kernel_rfl) (by kernel_rfl) (by rfl) (by rfl) (by rfl)) (by rfl) (by rfl) (by rfl) ?_
            refine WL.run ht hn 6 ⟨[(3, .sv (.one (.ptr 0 0))), (4, .sv (.one (.ptr 1 0))), (13, .sv (.one (.ptr 14 0))), (14, .sv (.one (I (behindR (behindR t u).1 v).2))), (15, .sv (.one (.ptr 15 0))), (16, .sv (.one (I (behindR t (behindR u v).1).2)))], [.box [I t.fIn, I t.fOut, I t.fStart, LS intT t.fFirst, LS (lsT intT) t.fNext, LS (lsT (lsT intT)) t.fSays, LS (lsT intT) t.fLast] 33 false, .box [I u.fIn, I u.fOut, I u.fStart, LS intT u.fFirst, LS (lsT intT) u.fNext, LS (lsT (lsT intT)) u.fSays, LS (lsT intT) u.fLast] 33 false, .gone, .gone, .gone, .gone, .gone, .gone, .gone, .gone, .gone, .gone, .gone, .gone, .box [I (behindR (behindR t u).1 v).1.fIn, I (behindR (behindR t u).1 v).1.fOut, I (behindR (behindR t u).1 v).1.fStart, LS intT (behindR (behindR t u).1 v).1.fFirst, LS (lsT intT) (behindR (behindR t u).1 v).1.fNext, LS (lsT (lsT intT)) (behindR (behindR t u).1 v).1.fSays, LS (lsT intT) (behindR (behindR t u).1 v).1.fLast] 33 false, .box [I (behindR t (behindR u v).1).1.fIn, I (behindR t (behindR u v).1).1.fOut, I (behindR t (behindR u v).1).1.fStart, LS intT (behindR t (behindR u v).1).1.fFirst, LS (lsT intT) (behindR t (behindR u v).1).1.fNext, LS (lsT (lsT intT)) (behindR t (behindR u v).1).1.fSays, LS (lsT intT) (behindR t (behindR u v).1).1.fLast] 33 false]⟩ (by kernel_rfl) ?_
            refine WL.nil ?_
            refine En.seq ?_
            refine En.region ?_
            refine WL.run ht hn 3 ⟨[(3, .sv (.one (.ptr 0 0))), (4, .sv (.one (.ptr 1 0))), (13, .sv (.one (.ptr 14 0))), (15, .sv (.one (.ptr 15 0))), (16, .sv (.one (I (behindR t (behindR u v).1).2))), (91, .sv (.one (B ((behindR (behindR t u).1 v).2 == 0))))], [.box [I t.fIn, I t.fOut, I t.fStart, LS intT t.fFirst, LS (lsT intT) t.fNext, LS (lsT (lsT intT)) t.fSays, LS (lsT intT) t.fLast] 33 false, .box [I u.fIn, I u.fOut, I u.fStart, LS intT u.fFirst, LS (lsT intT) u.fNext, LS (lsT (lsT intT)) u.fSays, LS (lsT intT) u.fLast] 33 false, .gone, .gone, .gone, .gone, .gone, .gone, .gone, .gone, .gone, .gone, .gone, .gone, .box [I (behindR (behindR t u).1 v).1.fIn, I (behindR (behindR t u).1 v).1.fOut, I (behindR (behindR t u).1 v).1.fStart, LS intT (behindR (behindR t u).1 v).1.fFirst, LS (lsT intT) (behindR (behindR t u).1 v).1.fNext, LS (lsT (lsT intT)) (behindR (behindR t u).1 v).1.fSays, LS (lsT intT) (behindR (behindR t u).1 v).1.fLast] 33 false, .box [I (behindR t (behindR u v).1).1.fIn, I (behindR t (behindR u v).1).1.fOut, I (behindR t (behindR u v).1).1.fStart, LS intT (behindR t (behindR u v).1).1.fFirst, LS (lsT intT) (behindR t (behindR u v).1).1.fNext, LS (lsT (lsT intT)) (behindR t (behindR u v).1).1.fSays, LS (lsT intT) (behindR t (behindR u v).1).1.fLast] 33 false]⟩ (by kernel_rfl) ?_
            refine WL.thru ⟨[(3, .sv (.one (.ptr 0 0))), (4, .sv (.one (.ptr 1 0))), (13, .sv (.one (.ptr 14 0))), (15, .sv (.one (.ptr 15 0))), (94, .sv (.one (B (((behindR (behindR t u).1 v).2 == 0) && ((behindR t (behindR u v).1).2 == 0)))))], [.box [I t.fIn, I t.fOut, I t.fStart, LS intT t.fFirst, LS (lsT intT) t.fNext, LS (lsT (lsT intT)) t.fSays, LS (lsT intT) t.fLast] 33 false, .box [I u.fIn, I u.fOut, I u.fStart, LS intT u.fFirst, LS (lsT intT) u.fNext, LS (lsT (lsT intT)) u.fSays, LS (lsT intT) u.fLast] 33 false, .gone, .gone, .gone, .gone, .gone, .gone, .gone, .gone, .gone, .gone, .gone, .gone, .box [I (behindR (behindR t u).1 v).1.fIn, I (behindR (behindR t u).1 v).1.fOut, I (behindR (behindR t u).1 v).1.fStart, LS intT (behindR (behindR t u).1 v).1.fFirst, LS (lsT intT) (behindR (behindR t u).1 v).1.fNext, LS (lsT (lsT intT)) (behindR (behindR t u).1 v).1.fSays, LS (lsT intT) (behindR (behindR t u).1 v).1.fLast] 33 false, .box [I (behindR t (behindR u v).1).1.fIn, I (behindR t (behindR u v).1).1.fOut, I (behindR t (behindR u v).1).1.fStart, LS intT (behindR t (behindR u v).1).1.fFirst, LS (lsT intT) (behindR t (behindR u v).1).1.fNext, LS (lsT (lsT intT)) (behindR t (behindR u v).1).1.fSays, LS (lsT intT) (behindR t (behindR u v).1).1.fLast] 33 false]⟩ ?_ ?_
            · refine splitB ((behindR (behindR t u).1 v).2 == 0) (fun hb0 => ?_) (fun hb0 => ?_)
              · refine WL.setB 91 hb0 (by kernel_rfl) ?_
                refine WL.run ht hn 3 ⟨[(3, .sv (.one (.ptr 0 0))), (4, .sv (.one (.ptr 1 0))), (13, .sv (.one (.ptr 14 0))), (15, .sv (.one (.ptr 15 0))), (94, .sv (.one (B ((behindR t (behindR u v).1).2 == 0))))], [.box [I t.fIn, I t.fOut, I t.fStart, LS intT t.fFirst, LS (lsT intT) t.fNext, LS (lsT (lsT intT)) t.fSays, LS (lsT intT) t.fLast] 33 false, .box [I u.fIn, I u.fOut, I u.fStart, LS intT u.fFirst, LS (lsT intT) u.fNext, LS (lsT (lsT intT)) u.fSays, LS (lsT intT) u.fLast] 33 false, .gone, .gone, .gone, .gone, .gone, .gone, .gone, .gone, .gone, .gone, .gone, .gone, .box [I (behindR (behindR t u).1 v).1.fIn, I (behindR (behindR t u).1 v).1.fOut, I (behindR (behindR t u).1 v).1.fStart, LS intT (behindR (behindR t u).1 v).1.fFirst, LS (lsT intT) (behindR (behindR t u).1 v).1.fNext, LS (lsT (lsT intT)) (behindR (behindR t u).1 v).1.fSays, LS (lsT intT) (behindR (behindR t u).1 v).1.fLast] 33 false, .box [I (behindR t (behindR u v).1).1.fIn, I (behindR t (behindR u v).1).1.fOut, I (behindR t (behindR u v).1).1.fStart, LS intT (behindR t (behindR u v).1).1.fFirst, LS (lsT intT) (behindR t (behindR u v).1).1.fNext, LS (lsT (lsT intT)) (behindR t (behindR u v).1).1.fSays, LS (lsT intT) (behindR t (behindR u v).1).1.fLast] 33 false]⟩ (by kernel_rfl) ?_
                exact WL.nil (sub_ok (by simp only [hb0]; kernel_rfl))
              · refine WL.setB 91 hb0 (by kernel_rfl) ?_
                refine WL.run ht hn 3 ⟨[(3, .sv (.one (.ptr 0 0))), (4, .sv (.one (.ptr 1 0))), (13, .sv (.one (.ptr 14 0))), (15, .sv (.one (.ptr 15 0))), (94, .sv (.one (B false)))], [.box [I t.fIn, I t.fOut, I t.fStart, LS intT t.fFirst, LS (lsT intT) t.fNext, LS (lsT (lsT intT)) t.fSays, LS (lsT intT) t.fLast] 33 false, .box [I u.fIn, I u.fOut, I u.fStart, LS intT u.fFirst, LS (lsT intT) u.fNext, LS (lsT (lsT intT)) u.fSays, LS (lsT intT) u.fLast] 33 false, .gone, .gone, .gone, .gone, .gone, .gone, .gone, .gone, .gone, .gone, .gone, .gone, .box [I (behindR (behindR t u).1 v).1.fIn, I (behindR (behindR t u).1 v).1.fOut, I (behindR (behindR t u).1 v).1.fStart, LS intT (behindR (behindR t u).1 v).1.fFirst, LS (lsT intT) (behindR (behindR t u).1 v).1.fNext, LS (lsT (lsT intT)) (behindR (behindR t u).1 v).1.fSays, LS (lsT intT) (behindR (behindR t u).1 v).1.fLast] 33 false, .box [I (behindR t (behindR u v).1).1.fIn, I (behindR t (behindR u v).1).1.fOut, I (behindR t (behindR u v).1).1.fStart, LS intT (behindR t (behindR u v).1).1.fFirst, LS (lsT intT) (behindR t (behindR u v).1).1.fNext, LS (lsT (lsT intT)) (behindR t (behindR u v).1).1.fSays, LS (lsT intT) (behindR t (behindR u v).1).1.fLast] 33 false]⟩ (by kernel_rfl) ?_
                exact WL.nil (sub_ok (by simp only [hb0]; kernel_rfl))
            · refine En.cond (b := (((behindR (behindR t u).1 v).2 == 0) && ((behindR t (behindR u v).1).2 == 0))) (by kernel_rfl) (fun hb => ?_) (fun hb => ?_)
              · replace h := h.1 hb
                refine En.seq ?_
                refine En.region ?_
                refine WL.run ht hn 2 ⟨[(3, .sv (.one (.ptr 0 0))), (4, .sv (.one (.ptr 1 0))), (95, .sv (.agg [I (behindR (behindR t u).1 v).1.fIn, I (behindR (behindR t u).1 v).1.fOut, I (behindR (behindR t u).1 v).1.fStart, LS intT (behindR (behindR t u).1 v).1.fFirst, LS (lsT intT) (behindR (behindR t u).1 v).1.fNext, LS (lsT (lsT intT)) (behindR (behindR t u).1 v).1.fSays, LS (lsT intT) (behindR (behindR t u).1 v).1.fLast])), (96, .sv (.agg [I (behindR t (behindR u v).1).1.fIn, I (behindR t (behindR u v).1).1.fOut, I (behindR t (behindR u v).1).1.fStart, LS intT (behindR t (behindR u v).1).1.fFirst, LS (lsT intT) (behindR t (behindR u v).1).1.fNext, LS (lsT (lsT intT)) (behindR t (behindR u v).1).1.fSays, LS (lsT intT) (behindR t (behindR u v).1).1.fLast]))], [.box [I t.fIn, I t.fOut, I t.fStart, LS intT t.fFirst, LS (lsT intT) t.fNext, LS (lsT (lsT intT)) t.fSays, LS (lsT intT) t.fLast] 33 false, .box [I u.fIn, I u.fOut, I u.fStart, LS intT u.fFirst, LS (lsT intT) u.fNext, LS (lsT (lsT intT)) u.fSays, LS (lsT intT) u.fLast] 33 false, .gone, .gone, .gone, .gone, .gone, .gone, .gone, .gone, .gone, .gone, .gone, .gone, .gone, .gone]⟩ (by kernel_rfl) ?_
                have hp := h.1
                replace h := h.2
                refine WL.mt0 (K := []) (p := none) hn (by rfl) (mt_call (sameTrans_ct (behindR (behindR t u).1 v).1 (behindR t (behindR u v).1).1 hp) en27 (caps := []) [] rfl (by rfl) (by kernel_rfl) (by kernel_rfl) (by rfl) (by rfl) (by rfl)) (by rfl) (by rfl) (by rfl) ?_
                refine WL.run ht hn 1 ⟨[(3, .sv (.one (.ptr 0 0))), (4, .sv (.one (.ptr 1 0))), (17, .sv (.one (B (decide ((behindR (behindR t u).1 v).1 = (behindR t (behindR u v).1).1)))))], [.box [I t.fIn, I t.fOut, I t.fStart, LS intT t.fFirst, LS (lsT intT) t.fNext, LS (lsT (lsT intT)) t.fSays, LS (lsT intT) t.fLast] 33 false, .box [I u.fIn, I u.fOut, I u.fStart, LS intT u.fFirst, LS (lsT intT) u.fNext, LS (lsT (lsT intT)) u.fSays, LS (lsT intT) u.fLast] 33 false, .gone, .gone, .gone, .gone, .gone, .gone, .gone, .gone, .gone, .gone, .gone, .gone, .gone, .gone]⟩ (by kernel_rfl) ?_
                refine WL.nil ?_
                refine En.seq ?_
                refine En.region ?_
                refine WL.run ht hn 2 ⟨[(3, .sv (.one (.ptr 0 0))), (4, .sv (.one (.ptr 1 0))), (99, .sv (.one (B (!(decide ((behindR (behindR t u).1 v).1 = (behindR t (behindR u v).1).1))))))], [.box [I t.fIn, I t.fOut, I t.fStart, LS intT t.fFirst, LS (lsT intT) t.fNext, LS (lsT (lsT intT)) t.fSays, LS (lsT intT) t.fLast] 33 false, .box [I u.fIn, I u.fOut, I u.fStart, LS intT u.fFirst, LS (lsT intT) u.fNext, LS (lsT (lsT intT)) u.fSays, LS (lsT intT) u.fLast] 33 false, .gone, .gone, .gone, .gone, .gone, .gone, .gone, .gone, .gone, .gone, .gone, .gone, .gone, .gone]⟩ (by kernel_rfl) ?_
                refine WL.nil ?_
                refine En.cond (b := (!(decide ((behindR (behindR t u).1 v).1 = (behindR t (behindR u v).1).1)))) (by kernel_rfl) (fun hb => ?_) (fun hb => ?_)
                · replace h := h.1 hb
                  refine En.seq ?_
                  refine En.region ?_
                  refine WL.run ht hn 1 ⟨[(6, .sv (.one (B false)))], [.gone, .gone, .gone, .gone, .gone, .gone, .gone, .gone, .gone, .gone, .gone, .gone, .gone, .gone, .gone, .gone]⟩ (by kernel_rfl) ?_
                  refine WL.nil ?_
                  refine En.ret ?_
                  exact En.back ht false h (by kernel_rfl) rfl
                · replace h := h.2 hb
                  refine En.skip ?_
                  exact En.at (I := fun _ => J_2) (T := fun _ => ⟨[(3, .sv (.one (.ptr 0 0))), (4, .sv (.one (.ptr 1 0)))], [.box [I t.fIn, I t.fOut, I t.fStart, LS intT t.fFirst, LS (lsT intT) t.fNext, LS (lsT (lsT intT)) t.fSays, LS (lsT intT) t.fLast] 33 false, .box [I u.fIn, I u.fOut, I u.fStart, LS intT u.fFirst, LS (lsT intT) u.fNext, LS (lsT (lsT intT)) u.fSays, LS (lsT intT) u.fLast] 33 false, .gone, .gone, .gone, .gone, .gone, .gone, .gone, .gone, .gone, .gone, .gone, .gone]⟩) () h (by kernel_rfl)
              · replace h := h.2 hb
                refine En.skip ?_
                exact En.at (I := fun _ => J_2) (T := fun _ => ⟨[(3, .sv (.one (.ptr 0 0))), (4, .sv (.one (.ptr 1 0)))], [.box [I t.fIn, I t.fOut, I t.fStart, LS intT t.fFirst, LS (lsT intT) t.fNext, LS (lsT (lsT intT)) t.fSays, LS (lsT intT) t.fLast] 33 false, .box [I u.fIn, I u.fOut, I u.fStart, LS intT u.fFirst, LS (lsT intT) u.fNext, LS (lsT (lsT intT)) u.fSays, LS (lsT intT) u.fLast] 33 false, .gone, .gone, .gone, .gone, .gone, .gone, .gone, .gone, .gone, .gone, .gone, .gone]⟩) () h (by kernel_rfl)
          · replace h := h.2 hb
            refine En.skip ?_
            exact En.at (I := fun _ => J_2) (T := fun _ => ⟨[(3, .sv (.one (.ptr 0 0))), (4, .sv (.one (.ptr 1 0)))], [.box [I t.fIn, I t.fOut, I t.fStart, LS intT t.fFirst, LS (lsT intT) t.fNext, LS (lsT (lsT intT)) t.fSays, LS (lsT intT) t.fLast] 33 false, .box [I u.fIn, I u.fOut, I u.fStart, LS intT u.fFirst, LS (lsT intT) u.fNext, LS (lsT (lsT intT)) u.fSays, LS (lsT intT) u.fLast] 33 false, .gone, .gone, .gone, .gone, .gone, .gone, .gone, .gone, .gone, .gone, .gone, .gone]⟩) () h (by kernel_rfl)
      · intro _ h
        replace h := hJ_2 h
        show En c ⟨[(3, .sv (.one (.ptr 0 0))), (4, .sv (.one (.ptr 1 0)))], [.box [I t.fIn, I t.fOut, I t.fStart, LS intT t.fFirst, LS (lsT intT) t.fNext, LS (lsT (lsT intT)) t.fSays, LS (lsT intT) t.fLast] 33 false, .box [I u.fIn, I u.fOut, I u.fStart, LS intT u.fFirst, LS (lsT intT) u.fNext, LS (lsT (lsT intT)) u.fSays, LS (lsT intT) u.fLast] 33 false, .gone, .gone, .gone, .gone, .gone, .gone, .gone, .gone, .gone, .gone, .gone, .gone]⟩ _
        refine En.seq ?_
        refine En.region ?_
        refine WL.run ht hn 2 ⟨[(3, .sv (.one (.ptr 0 0))), (4, .sv (.one (.ptr 1 0))), (101, .sv (.agg [I t.fIn, I t.fOut, I t.fStart, LS intT t.fFirst, LS (lsT intT) t.fNext, LS (lsT (lsT intT)) t.fSays, LS (lsT intT) t.fLast])), (102, .sv (.agg [I u.fIn, I u.fOut, I u.fStart, LS intT u.fFirst, LS (lsT intT) u.fNext, LS (lsT (lsT intT)) u.fSays, LS (lsT intT) u.fLast]))], [.box [I t.fIn, I t.fOut, I t.fStart, LS intT t.fFirst, LS (lsT intT) t.fNext, LS (lsT (lsT intT)) t.fSays, LS (lsT intT) t.fLast] 33 false, .box [I u.fIn, I u.fOut, I u.fStart, LS intT u.fFirst, LS (lsT intT) u.fNext, LS (lsT (lsT intT)) u.fSays, LS (lsT intT) u.fLast] 33 false, .gone, .gone, .gone, .gone, .gone, .gone, .gone, .gone, .gone, .gone, .gone, .gone]⟩ (by kernel_rfl) ?_
        refine WL.mtQ (Q := DiffQ t u) (x := fun (r : ((List Int) × Bool × Int)) => .tup [.one (LS intT r.1), .one (B r.2.1), .one (I r.2.2)]) (p := fun _ => none) hn (by rfl) (mtq_call (trDiffer_ct t u) en21 (caps := []) [] rfl (by rfl) (by kernel_rfl) (by kernel_rfl) (by rfl) (fun _ => rfl) (by rfl)) (fun r hr_2 => ⟨by rfl, _, by rfl, ?_⟩)
        replace h := h r hr_2
        refine WL.run ht hn 7 ⟨[(3, .sv (.one (.ptr 0 0))), (4, .sv (.one (.ptr 1 0))), (9, .sv (.one (I r.2.2))), (19, .sv (.one (B r.2.1)))], [.box [I t.fIn, I t.fOut, I t.fStart, LS intT t.fFirst, LS (lsT intT) t.fNext, LS (lsT (lsT intT)) t.fSays, LS (lsT intT) t.fLast] 33 false, .box [I u.fIn, I u.fOut, I u.fStart, LS intT u.fFirst, LS (lsT intT) u.fNext, LS (lsT (lsT intT)) u.fSays, LS (lsT intT) u.fLast] 33 false, .gone, .gone, .gone, .gone, .gone, .gone, .gone, .gone, .gone, .gone, .gone, .gone]⟩ (by kernel_rfl) ?_
        refine WL.nil ?_
        refine En.seq ?_
        refine En.region ?_
        refine WL.run ht hn 1 ⟨[(4, .sv (.one (.ptr 1 0))), (9, .sv (.one (I r.2.2))), (19, .sv (.one (B r.2.1))), (108, .sv (.agg [I t.fIn, I t.fOut, I t.fStart, LS intT t.fFirst, LS (lsT intT) t.fNext, LS (lsT (lsT intT)) t.fSays, LS (lsT intT) t.fLast]))], [.gone, .box [I u.fIn, I u.fOut, I u.fStart, LS intT u.fFirst, LS (lsT intT) u.fNext, LS (lsT (lsT intT)) u.fSays, LS (lsT intT) u.fLast] 33 false, .gone, .gone, .gone, .gone, .gone, .gone, .gone, .gone, .gone, .gone, .gone, .gone]⟩ (by kernel_rfl) ?_
        refine WL.mt0 (K := []) (p := none) hn (by rfl) (mt_call (trLeastE_ct t) en19 (caps := []) [] rfl (by rfl) (by kernel_rfl) (by kernel_rfl) (by rfl) (by rfl) (by rfl)) (by rfl) (by rfl) (by rfl) ?_
        refine WL.run ht hn 6 ⟨[(4, .sv (.one (.ptr 1 0))), (9, .sv (.one (I r.2.2))), (12, .sv (.one (I (leastE t).2))), (19, .sv (.one (B r.2.1))), (20, .sv (.one (.ptr 14 0)))], [.gone, .box [I u.fIn, I u.fOut, I u.fStart, LS intT u.fFirst, LS (lsT intT) u.fNext, LS (lsT (lsT intT)) u.fSays, LS (lsT intT) u.fLast] 33 false, .gone, .gone, .gone, .gone, .gone, .gone, .gone, .gone, .gone, .gone, .gone, .gone, .box [I (leastE t).1.fIn, I (leastE t).1.fOut, I (leastE t).1.fStart, LS intT (leastE t).1.fFirst, LS (lsT intT) (leastE t).1.fNext, LS (lsT (lsT intT)) (leastE t).1.fSays, LS (lsT intT) (leastE t).1.fLast] 33 false]⟩ (by kernel_rfl) ?_
        refine WL.nil ?_
        refine En.seq ?_
        refine En.region ?_
        refine WL.run ht hn 1 ⟨[(9, .sv (.one (I r.2.2))), (12, .sv (.one (I (leastE t).2))), (19, .sv (.one (B r.2.1))), (20, .sv (.one (.ptr 14 0))), (113, .sv (.agg [I u.fIn, I u.fOut, I u.fStart, LS intT u.fFirst, LS (lsT intT) u.fNext, LS (lsT (lsT intT)) u.fSays, LS (lsT intT) u.fLast]))], [.gone, .gone, .gone, .gone, .gone, .gone, .gone, .gone, .gone, .gone, .gone, .gone, .gone, .gone, .box [I (leastE t).1.fIn, I (leastE t).1.fOut, I (leastE t).1.fStart, LS intT (leastE t).1.fFirst, LS (lsT intT) (leastE t).1.fNext, LS (lsT (lsT intT)) (leastE t).1.fSays, LS (lsT intT) (leastE t).1.fLast] 33 false]⟩ (by kernel_rfl) ?_
        refine WL.mt0 (K := []) (p := none) hn (by rfl) (mt_call (trLeastE_ct u) en19 (caps := []) [] rfl (by rfl) (by kernel_rfl) (by kernel_rfl) (by rfl) (by rfl) (by rfl)) (by rfl) (by rfl) (by rfl) ?_
        refine WL.run ht hn 6 ⟨[(9, .sv (.one (I r.2.2))), (12, .sv (.one (I (leastE t).2))), (19, .sv (.one (B r.2.1))), (20, .sv (.one (.ptr 14 0))), (21, .sv (.one (.ptr 15 0))), (22, .sv (.one (I (leastE u).2)))], [.gone, .gone, .gone, .gone, .gone, .gone, .gone, .gone, .gone, .gone, .gone, .gone, .gone, .gone, .box [I (leastE t).1.fIn, I (leastE t).1.fOut, I (leastE t).1.fStart, LS intT (leastE t).1.fFirst, LS (lsT intT) (leastE t).1.fNext, LS (lsT (lsT intT)) (leastE t).1.fSays, LS (lsT intT) (leastE t).1.fLast] 33 false, .box [I (leastE u).1.fIn, I (leastE u).1.fOut, I (leastE u).1.fStart, LS intT (leastE u).1.fFirst, LS (lsT intT) (leastE u).1.fNext, LS (lsT (lsT intT)) (leastE u).1.fSays, LS (lsT intT) (leastE u).1.fLast] 33 false]⟩ (by kernel_rfl) ?_
        refine WL.nil ?_
        refine En.seq ?_
        refine En.seq ?_
        refine En.region ?_
        refine WL.run ht hn 3 ⟨[(12, .sv (.one (I (leastE t).2))), (19, .sv (.one (B r.2.1))), (20, .sv (.one (.ptr 14 0))), (21, .sv (.one (.ptr 15 0))), (22, .sv (.one (I (leastE u).2))), (119, .sv (.one (B (r.2.2 != 0))))], [.gone, .gone, .gone, .gone, .gone, .gone, .gone, .gone, .gone, .gone, .gone, .gone, .gone, .gone, .box [I (leastE t).1.fIn, I (leastE t).1.fOut, I (leastE t).1.fStart, LS intT (leastE t).1.fFirst, LS (lsT intT) (leastE t).1.fNext, LS (lsT (lsT intT)) (leastE t).1.fSays, LS (lsT intT) (leastE t).1.fLast] 33 false, .box [I (leastE u).1.fIn, I (leastE u).1.fOut, I (leastE u).1.fStart, LS intT (leastE u).1.fFirst, LS (lsT intT) (leastE u).1.fNext, LS (lsT (lsT intT)) (leastE u).1.fSays, LS (lsT intT) (leastE u).1.fLast] 33 false]⟩ (by kernel_rfl) ?_
        refine WL.thru ⟨[(19, .sv (.one (B r.2.1))), (20, .sv (.one (.ptr 14 0))), (21, .sv (.one (.ptr 15 0))), (126, .sv (.one (B (((r.2.2 != 0) || ((leastE t).2 != 0)) || ((leastE u).2 != 0)))))], [.gone, .gone, .gone, .gone, .gone, .gone, .gone, .gone, .gone, .gone, .gone, .gone, .gone, .gone, .box [I (leastE t).1.fIn, I (leastE t).1.fOut, I (leastE t).1.fStart, LS intT (leastE t).1.fFirst, LS (lsT intT) (leastE t).1.fNext, LS (lsT (lsT intT)) (leastE t).1.fSays, LS (lsT intT) (leastE t).1.fLast] 33 false, .box [I (leastE u).1.fIn, I (leastE u).1.fOut, I (leastE u).1.fStart, LS intT (leastE u).1.fFirst, LS (lsT intT) (leastE u).1.fNext, LS (lsT (lsT intT)) (leastE u).1.fSays, LS (lsT intT) (leastE u).1.fLast] 33 false]⟩ ?_ ?_
        · refine splitB (r.2.2 != 0) (fun hb0 => ?_) (fun hb0 => ?_)
          · refine WL.setB 119 hb0 (by kernel_rfl) ?_
            refine WL.run ht hn 7 ⟨[(19, .sv (.one (B r.2.1))), (20, .sv (.one (.ptr 14 0))), (21, .sv (.one (.ptr 15 0))), (126, .sv (.one (B true)))], [.gone, .gone, .gone, .gone, .gone, .gone, .gone, .gone, .gone, .gone, .gone, .gone, .gone, .gone, .box [I (leastE t).1.fIn, I (leastE t).1.fOut, I (leastE t).1.fStart, LS intT (leastE t).1.fFirst, LS (lsT intT) (leastE t).1.fNext, LS (lsT (lsT intT)) (leastE t).1.fSays, LS (lsT intT) (leastE t).1.fLast] 33 false, .box [I (leastE u).1.fIn, I (leastE u).1.fOut, I (leastE u).1.fStart, LS intT (leastE u).1.fFirst, LS (lsT intT) (leastE u).1.fNext, LS (lsT (lsT intT)) (leastE u).1.fSays, LS (lsT intT) (leastE u).1.fLast] 33 false]⟩ (by kernel_rfl) ?_
            exact WL.nil (sub_ok (by simp only [hb0]; kernel_rfl))
          · refine WL.setB 119 hb0 (by kernel_rfl) ?_
            refine WL.run ht hn 4 ⟨[(19, .sv (.one (B r.2.1))), (20, .sv (.one (.ptr 14 0))), (21, .sv (.one (.ptr 15 0))), (22, .sv (.one (I (leastE u).2))), (123, .sv (.one (B ((leastE t).2 != 0))))], [.gone, .gone, .gone, .gone, .gone, .gone, .gone, .gone, .gone, .gone, .gone, .gone, .gone, .gone, .box [I (leastE t).1.fIn, I (leastE t).1.fOut, I (leastE t).1.fStart, LS intT (leastE t).1.fFirst, LS (lsT intT) (leastE t).1.fNext, LS (lsT (lsT intT)) (leastE t).1.fSays, LS (lsT intT) (leastE t).1.fLast] 33 false, .box [I (leastE u).1.fIn, I (leastE u).1.fOut, I (leastE u).1.fStart, LS intT (leastE u).1.fFirst, LS (lsT intT) (leastE u).1.fNext, LS (lsT (lsT intT)) (leastE u).1.fSays, LS (lsT intT) (leastE u).1.fLast] 33 false]⟩ (by kernel_rfl) ?_
            refine splitB ((leastE t).2 != 0) (fun hb1 => ?_) (fun hb1 => ?_)
            · refine WL.setB 123 hb1 (by kernel_rfl) ?_
              refine WL.run ht hn 3 ⟨[(19, .sv (.one (B r.2.1))), (20, .sv (.one (.ptr 14 0))), (21, .sv (.one (.ptr 15 0))), (126, .sv (.one (B true)))], [.gone, .gone, .gone, .gone, .gone, .gone, .gone, .gone, .gone, .gone, .gone, .gone, .gone, .gone, .box [I (leastE t).1.fIn, I (leastE t).1.fOut, I (leastE t).1.fStart, LS intT (leastE t).1.fFirst, LS (lsT intT) (leastE t).1.fNext, LS (lsT (lsT intT)) (leastE t).1.fSays, LS (lsT intT) (leastE t).1.fLast] 33 false, .box [I (leastE u).1.fIn, I (leastE u).1.fOut, I (leastE u).1.fStart, LS intT (leastE u).1.fFirst, LS (lsT intT) (leastE u).1.fNext, LS (lsT (lsT intT)) (leastE u).1.fSays, LS (lsT intT) (leastE u).1.fLast] 33 false]⟩ (by kernel_rfl) ?_
              exact WL.nil (sub_ok (by simp only [hb0, hb1]; kernel_rfl))
            · refine WL.setB 123 hb1 (by kernel_rfl) ?_
              refine WL.run ht hn 3 ⟨[(19, .sv (.one (B r.2.1))), (20, .sv (.one (.ptr 14 0))), (21, .sv (.one (.ptr 15 0))), (126, .sv (.one (B ((leastE u).2 != 0))))], [.gone, .gone, .gone, .gone, .gone, .gone, .gone, .gone, .gone, .gone, .gone, .gone, .gone, .gone, .box [I (leastE t).1.fIn, I (leastE t).1.fOut, I (leastE t).1.fStart, LS intT (leastE t).1.fFirst, LS (lsT intT) (leastE t).1.fNext, LS (lsT (lsT intT)) (leastE t).1.fSays, LS (lsT intT) (leastE t).1.fLast] 33 false, .box [I (leastE u).1.fIn, I (leastE u).1.fOut, I (leastE u).1.fStart, LS intT (leastE u).1.fFirst, LS (lsT intT) (leastE u).1.fNext, LS (lsT (lsT intT)) (leastE u).1.fSays, LS (lsT intT) (leastE u).1.fLast] 33 false]⟩ (by kernel_rfl) ?_
              exact WL.nil (sub_ok (by simp only [hb0, hb1]; kernel_rfl))
        · refine En.cond (b := (((r.2.2 != 0) || ((leastE t).2 != 0)) || ((leastE u).2 != 0))) (by kernel_rfl) (fun hb => ?_) (fun hb => ?_)
          · replace h := h.1 hb
            refine En.seq ?_
            refine En.region ?_
            refine WL.run ht hn 1 ⟨[(6, .sv (.one (B true)))], [.gone, .gone, .gone, .gone, .gone, .gone, .gone, .gone, .gone, .gone, .gone, .gone, .gone, .gone, .gone, .gone]⟩ (by kernel_rfl) ?_
            refine WL.nil ?_
            refine En.ret ?_
            exact En.back ht true h (by kernel_rfl) rfl
          · replace h := h.2 hb
            refine En.skip ?_
            refine En.seq ?_
            refine En.region ?_
            refine WL.run ht hn 2 ⟨[(19, .sv (.one (B r.2.1))), (127, .sv (.agg [I (leastE t).1.fIn, I (leastE t).1.fOut, I (leastE t).1.fStart, LS intT (leastE t).1.fFirst, LS (lsT intT) (leastE t).1.fNext, LS (lsT (lsT intT)) (leastE t).1.fSays, LS (lsT intT) (leastE t).1.fLast])), (128, .sv (.agg [I (leastE u).1.fIn, I (leastE u).1.fOut, I (leastE u).1.fStart, LS intT (leastE u).1.fFirst, LS (lsT intT) (leastE u).1.fNext, LS (lsT (lsT intT)) (leastE u).1.fSays, LS (lsT intT) (leastE u).1.fLast]))], [.gone, .gone, .gone, .gone, .gone, .gone, .gone, .gone, .gone, .gone, .gone, .gone, .gone, .gone, .gone, .gone]⟩ (by kernel_rfl) ?_
            have hp := h.1
            replace h := h.2
            refine WL.mt0 (K := []) (p := none) hn (by rfl) (mt_call (sameTrans_ct (leastE t).1 (leastE u).1 hp) en27 (caps := []) [] rfl (by rfl) (by kernel_rfl) (by kernel_rfl) (by rfl) (by rfl) (by rfl)) (by rfl) (by rfl) (by rfl) ?_
            refine WL.run ht hn 1 ⟨[(19, .sv (.one (B r.2.1))), (23, .sv (.one (B (decide ((leastE t).1 = (leastE u).1)))))], [.gone, .gone, .gone, .gone, .gone, .gone, .gone, .gone, .gone, .gone, .gone, .gone, .gone, .gone, .gone, .gone]⟩ (by kernel_rfl) ?_
            refine WL.nil ?_
            refine En.seq ?_
            refine En.region ?_
            refine WL.run ht hn 2 ⟨[(130, .sv (.one (B (decide ((leastE t).1 = (leastE u).1))))), (131, .sv (.one (B r.2.1)))], [.gone, .gone, .gone, .gone, .gone, .gone, .gone, .gone, .gone, .gone, .gone, .gone, .gone, .gone, .gone, .gone]⟩ (by kernel_rfl) ?_
            refine WL.val hn (by rfl) (val_eqB (u := (decide ((leastE t).1 = (leastE u).1))) (v := r.2.1) rfl Try.underlying4 (by rfl) (by rfl) (.inr ⟨rfl, rfl⟩)) (by rfl) ?_
            refine WL.run ht hn 1 ⟨[(6, .sv (.one (B ((decide ((leastE t).1 = (leastE u).1)) != r.2.1))))], [.gone, .gone, .gone, .gone, .gone, .gone, .gone, .gone, .gone, .gone, .gone, .gone, .gone, .gone, .gone, .gone]⟩ (by kernel_rfl) ?_
            refine WL.nil ?_
            refine En.ret ?_
            exact En.back ht ((decide ((leastE t).1 = (leastE u).1)) != r.2.1) h (by kernel_rfl) rfl
theorem transRow_ct (t : ApiTrans) (u : ApiTrans) (v : ApiTrans)  : Ct 7 [.sv (.agg [I t.fIn, I t.fOut, I t.fStart, LS intT t.fFirst, LS (lsT intT) t.fNext, LS (lsT (lsT intT)) t.fSays, LS (lsT intT) t.fLast]), .sv (.agg [I u.fIn, I u.fOut, I u.fStart, LS intT u.fFirst, LS (lsT intT) u.fNext, LS (lsT (lsT intT)) u.fSays, LS (lsT intT) u.fLast]), .sv (.agg [I v.fIn, I v.fOut, I v.fStart, LS intT v.fFirst, LS (lsT intT) v.fNext, LS (lsT (lsT intT)) v.fSays, LS (lsT intT) v.fLast])] [] (fun (_ : Unit) => True) (fun _ => .sv (.one (B (true)))) := by
  refine (transRow_walk t u v (fun res_ => res_ = (true)) ?_).fun
  intro _ _ _ _ _ _ _ _ _ _ _ _
  have hone : leastE (ApiTrans.mk 1 1 0 [] [[0]] [[[0]]] [[0]]) = (⟨1, 1, 0, [0], [[0]], [[[0]]], [[]]⟩, 0) := oneA_least
  rw [hone]
  refine ⟨fun b => b = false, ⟨fun h => absurd h (by decide), fun _ => ⟨fun h => absurd h (by decide), fun _ => ⟨fun h => absurd h (by decide), fun _ => ⟨[], rfl, rfl⟩⟩⟩⟩, ?_⟩
  rintro b rfl
  refine ⟨fun h => (by cases h), fun _ => ⟨True, ⟨fun h => ⟨fun h' => ?_, fun _ => trivial⟩, fun _ => trivial⟩, fun _ r hr => ⟨fun _ => rfl, fun h => ?_⟩⟩⟩
  · rw [Bool.and_eq_true] at h h'
    obtain ⟨k1, k2, k3⟩ := three (t := t) (u := u) (v := v) (by simpa using h.1) (by simpa using h.2) (by simpa using h'.1) (by simpa using h'.2)
    refine ⟨⟨k2, k3⟩, fun h => ?_, fun _ => trivial⟩
    rw [decide_eq_true k1] at h
    cases h
  · simp only [Bool.or_eq_false_iff, bne_eq_false_iff_eq] at h
    obtain ⟨⟨h1, h2⟩, h3⟩ := h
    obtain ⟨ct, e1, _, _⟩ := leastE_ok h2
    obtain ⟨cu, e2, _, _⟩ := leastE_ok h3
    have hd : difErr t u = 0 := hr.1.symm.trans h1
    obtain ⟨_, _, hi, ho⟩ := difErr_ok hd
    have hit := ct.in_
    have hiu := cu.in_
    rw [e1, e2]
    refine ⟨⟨canG_shape (by omega), canG_shape (by omega)⟩, ?_⟩
    show (decide (canG t.fIn t.fOut (funT t) = canG u.fIn u.fOut (funT u)) != r.2.1) = true
    rw [← hi, ← ho]
    cases hb : r.2.1 with
    | true =>
      obtain ⟨w, hw, hne⟩ := (hr.2 hd).1 hb
      rw [decide_eq_false fun e => hne (canG_inj (realT ct.ok) (by have := realT cu.ok; rwa [← hi] at this) e hw)]
      rfl
    | false =>
      have := (hr.2 hd).2 hb
      rw [decide_eq_true (canG_congr this)]
      rfl
end Go.Proofs.Ytiinkohfldopbaa

