/- Lemmas towards the statement: mirrors of functions, and plain laws. No condition. -/
import Derived.Test.YtfpdnigihjmohaaPackSeqsGoes3

/- seqs.Differ, for a row and itself. No condition. -/
namespace Go.Proofs.Ytfpdnigihjmohaa
open Go.RowKit Go.MapKept
set_option linter.unusedSimpArgs false
set_option linter.unusedVariables false
set_option maxRecDepth 100000

def seqDiffer_vc (a : ApiMorph) (b : ApiMorph) (Q : (Int × Bool × Int) → Prop) : Prop :=
  a.fImages.length ≤ 9223372036854775807 →
  a.fCoding.length ≤ 9223372036854775807 →
  b.fImages.length ≤ 9223372036854775807 →
  b.fCoding.length ≤ 9223372036854775807 →
  (∃ (Inv : Int → Prop) (mu : Int → Nat), Inv 0 ∧
  ∀ (x20 : Int) , Inv x20 → (IfP (decide (x20 < (([a, b] : (List ApiMorph)).length : Int))) (∃ e, idx ([a, b] : (List ApiMorph)) x20 = some e ∧
  IfP ((seqErr e) != 0) (Q (0, false, (seqErr e))) ((Inv (wr (x20 + 1)) ∧ mu (wr (x20 + 1)) < mu x20))) (IfP (a.fBase != b.fBase) (Q (0, false, 3)) (∃ (Inv_2 : (List (St158 × Int)) → (List SeqsPlace) → Prop) (mu_2 : (List (St158 × Int)) → (List SeqsPlace) → Nat), Inv_2 (mput (St158.mk 0 0) 1 ([] : List (St158 × Int))) ([(SeqsPlace.mk 0 0 0)] : (List SeqsPlace)) ∧
  ∀ (m3 : (List (St158 × Int))) (l4 : (List SeqsPlace)) , Inv_2 m3 l4 → (IfP (decide ((l4.length : Int) > 0)) (∃ e_2, idx l4 0 = some e_2 ∧
  ∃ e_3, idx a.fCoding e_2.fA = some e_3 ∧
  ∃ e_4, idx b.fCoding e_2.fB = some e_4 ∧
  IfP (e_3 != e_4) (Q (e_2.fN, true, 0)) (∃ (Inv_3 : Int → (List (St158 × Int)) → (List SeqsPlace) → Prop) (mu_3 : Int → (List (St158 × Int)) → (List SeqsPlace) → Nat), Inv_3 0 m3 l4 ∧
  ∀ (x65 : Int) (m3_2 : (List (St158 × Int))) (l4_2 : (List SeqsPlace)) , Inv_3 x65 m3_2 l4_2 → (IfP (decide (x65 < a.fBase)) (∃ J : (List (St158 × Int)) → (List SeqsPlace) → Prop, (∃ e_5, idx a.fImages e_2.fA = some e_5 ∧
  ∃ e_6, idx e_5 x65 = some e_6 ∧
  ∃ e_7, idx b.fImages e_2.fB = some e_7 ∧
  ∃ e_8, idx e_7 x65 = some e_8 ∧
  IfP (((mget (St158.mk e_6 e_8) m3_2).getD (0 : Int)) == 0) (capOk l4_2.length (([(SeqsPlace.mk e_6 e_8 (wr ((wr (e_2.fN * a.fBase)) + x65)))] : (List SeqsPlace)) : (List SeqsPlace)).length 24 ∧
  J (mput (St158.mk e_6 e_8) 1 m3_2) (l4_2 ++ ([(SeqsPlace.mk e_6 e_8 (wr ((wr (e_2.fN * a.fBase)) + x65)))] : (List SeqsPlace)))) (J m3_2 l4_2)) ∧
  (∀ (m3_3 : (List (St158 × Int))) (l4_3 : (List SeqsPlace)), J m3_3 l4_3 → (Inv_3 (wr (x65 + 1)) m3_3 l4_3 ∧ mu_3 (wr (x65 + 1)) m3_3 l4_3 < mu_3 x65 m3_2 l4_2))) ((0 ≤ (1 : Int) ∧ (1 : Int) ≤ (l4_2.length : Int)) ∧
  (Inv_2 m3_2 (l4_2.drop (1 : Int).toNat) ∧ mu_2 m3_2 (l4_2.drop (1 : Int).toNat) < mu_2 m3 l4))))) (Q (0, false, 0)))))))
set_option maxHeartbeats 2000000 in
theorem seqDiffer_walk (a : ApiMorph) (b : ApiMorph) (Q : (Int × Bool × Int) → Prop) (h : seqDiffer_vc a b Q) : Ct 31 [.sv (.agg [I a.fBase, LS (lsT intT) a.fImages, LS intT a.fCoding]), .sv (.agg [I b.fBase, LS (lsT intT) b.fImages, LS intT b.fCoding])] [] Q (fun (r : (Int × Bool × Int)) => .tup [.one (I r.1), .one (B r.2.1), .one (I r.2.2)]) := by
  have ht := tab_ok
  refine Ct.body Try.func31 rfl rfl rfl rfl (fun c hn => ?_)
  unfold seqDiffer_vc at h
  refine En.lenA 0 1 (by rfl) (by rfl) (fun hl => ?_)
  replace h := h hl
  clear hl
  refine En.lenA 0 2 (by rfl) (by rfl) (fun hl => ?_)
  replace h := h hl
  clear hl
  refine En.lenA 1 1 (by rfl) (by rfl) (fun hl => ?_)
  replace h := h hl
  clear hl
  refine En.lenA 1 2 (by rfl) (by rfl) (fun hl => ?_)
  replace h := h hl
  clear hl
  refine En.seq ?_
  refine En.region ?_
  refine WL.run ht hn 5 ⟨[(2, .sv (.one (.ptr 0 0))), (3, .sv (.one (.ptr 1 0)))], [.box [I a.fBase, LS (lsT intT) a.fImages, LS intT a.fCoding] 67 false, .box [I b.fBase, LS (lsT intT) b.fImages, LS intT b.fCoding] 67 false]⟩ (by kernel_rfl) ?_
  refine WL.nil ?_
  refine En.seq ?_
  refine En.seq ?_
  refine En.region ?_
  refine WL.run ht hn 2 ⟨[(2, .sv (.one (.ptr 0 0))), (3, .sv (.one (.ptr 1 0))), (16, .sv (.agg [I a.fBase, LS (lsT intT) a.fImages, LS intT a.fCoding])), (17, .sv (.agg [I b.fBase, LS (lsT intT) b.fImages, LS intT b.fCoding]))], [.box [I a.fBase, LS (lsT intT) a.fImages, LS intT a.fCoding] 67 false, .box [I b.fBase, LS (lsT intT) b.fImages, LS intT b.fCoding] 67 false]⟩ (by kernel_rfl) ?_
  refine WL.mt0 (K := []) (p := some (2, rowI 67 ApiMorph.ty ([a, b] : (List ApiMorph)))) hn (by rfl) (mt_lit (T := ApiMorph.ty) ([a, b] : (List ApiMorph)) (mt_bsl 2 (r := cellsOf ApiMorph.ty ([a, b] : (List ApiMorph))) ht rfl (by rfl) (by rfl) (by rfl) (by kernel_rfl) (by rfl)) (fun _ h => by cases h) (fun _ => rfl) (fun _ => rfl) (by rfl) (Nat.le_of_ble_eq_true rfl)) (by rfl) (by rfl) (by rfl) ?_
  refine WL.run ht hn 2 ⟨[(2, .sv (.one (.ptr 0 0))), (3, .sv (.one (.ptr 1 0))), (18, .sv (.one (.own 2))), (19, .sv (.one (I (([a, b] : (List ApiMorph)).length : Int)))), (20, .sv (.one (I 0)))], [.box [I a.fBase, LS (lsT intT) a.fImages, LS intT a.fCoding] 67 false, .box [I b.fBase, LS (lsT intT) b.fImages, LS intT b.fCoding] 67 false, rowI 67 ApiMorph.ty ([a, b] : (List ApiMorph))]⟩ (by kernel_rfl) ?_
  refine WL.nil ?_
  refine En.block ?_
  obtain ⟨Inv, mu, h0_3, hI_3⟩ := h
  refine En.loop (σ := Int) (fun zz => Inv zz) (fun zz => mu zz) (fun zz => ⟨[(2, .sv (.one (.ptr 0 0))), (3, .sv (.one (.ptr 1 0))), (18, .sv (.one (.own 2))), (19, .sv (.one (I (([a, b] : (List ApiMorph)).length : Int)))), (20, .sv (.one (I zz)))], [.box [I a.fBase, LS (lsT intT) a.fImages, LS intT a.fCoding] 67 false, .box [I b.fBase, LS (lsT intT) b.fImages, LS intT b.fCoding] 67 false, rowI 67 ApiMorph.ty ([a, b] : (List ApiMorph))]⟩) 0 h0_3 (sub_ok (by kernel_rfl)) ?_
  intro x20 h
  replace h := hI_3 _ h
  show En c ⟨[(2, .sv (.one (.ptr 0 0))), (3, .sv (.one (.ptr 1 0))), (18, .sv (.one (.own 2))), (19, .sv (.one (I (([a, b] : (List ApiMorph)).length : Int)))), (20, .sv (.one (I x20)))], [.box [I a.fBase, LS (lsT intT) a.fImages, LS intT a.fCoding] 67 false, .box [I b.fBase, LS (lsT intT) b.fImages, LS intT b.fCoding] 67 false, rowI 67 ApiMorph.ty ([a, b] : (List ApiMorph))]⟩ _
  refine En.seq ?_
  refine En.region ?_
  refine WL.run ht hn 1 ⟨[(2, .sv (.one (.ptr 0 0))), (3, .sv (.one (.ptr 1 0))), (18, .sv (.one (.own 2))), (19, .sv (.one (I (([a, b] : (List ApiMorph)).length : Int)))), (20, .sv (.one (I x20))), (21, .sv (.one (B (decide (x20 < (([a, b] : (List ApiMorph)).length : Int))))))], [.box [I a.fBase, LS (lsT intT) a.fImages, LS intT a.fCoding] 67 false, .box [I b.fBase, LS (lsT intT) b.fImages, LS intT b.fCoding] 67 false, rowI 67 ApiMorph.ty ([a, b] : (List ApiMorph))]⟩ (by kernel_rfl) ?_
  refine WL.nil ?_
  refine En.seq ?_
  refine En.cond (b := (decide (x20 < (([a, b] : (List ApiMorph)).length : Int)))) (by kernel_rfl) (fun hb => ?_) (fun hb => ?_)
  · replace h := h.1 hb
    refine En.skip ?_
    refine En.seq ?_
    refine En.block ?_
    refine En.seq ?_
    refine En.region ?_
    obtain ⟨e, he, h⟩ := h
    refine WL.val hn (by rfl) (val_indexO (T := ApiMorph.ty) (l := ([a, b] : (List ApiMorph))) (k := x20) ht rfl (by rfl) (by rfl) (by rfl) (by rfl) (by decide) (by rfl) (by rfl) (by rfl) he) (by rfl) ?_
    refine WL.val hn (by rfl) (val_loadO (T := ApiMorph.ty) (l := ([a, b] : (List ApiMorph))) (y := e) ht rfl (by rfl) (by rfl) (by rfl) (by rfl) (by rfl) (idx_some he).2.2 (by rfl)) (by rfl) ?_
    refine WL.run ht hn 2 ⟨[(2, .sv (.one (.ptr 0 0))), (3, .sv (.one (.ptr 1 0))), (8, .sv (.one (.ptr 3 0))), (18, .sv (.one (.own 2))), (19, .sv (.one (I (([a, b] : (List ApiMorph)).length : Int)))), (20, .sv (.one (I x20)))], [.box [I a.fBase, LS (lsT intT) a.fImages, LS intT a.fCoding] 67 false, .box [I b.fBase, LS (lsT intT) b.fImages, LS intT b.fCoding] 67 false, rowI 67 ApiMorph.ty ([a, b] : (List ApiMorph)), .box [I e.fBase, LS (lsT intT) e.fImages, LS intT e.fCoding] 67 false]⟩ (by kernel_rfl) ?_
    refine WL.nil ?_
    refine En.seq ?_
    refine En.region ?_
    refine WL.run ht hn 1 ⟨[(2, .sv (.one (.ptr 0 0))), (3, .sv (.one (.ptr 1 0))), (18, .sv (.one (.own 2))), (19, .sv (.one (I (([a, b] : (List ApiMorph)).length : Int)))), (20, .sv (.one (I x20))), (24, .sv (.agg [I e.fBase, LS (lsT intT) e.fImages, LS intT e.fCoding]))], [.box [I a.fBase, LS (lsT intT) a.fImages, LS intT a.fCoding] 67 false, .box [I b.fBase, LS (lsT intT) b.fImages, LS intT b.fCoding] 67 false, rowI 67 ApiMorph.ty ([a, b] : (List ApiMorph)), .gone]⟩ (by kernel_rfl) ?_
    refine WL.mt0 (K := []) (p := none) hn (by rfl) (mt_call (seqCheck_ct e) en64 (caps := []) [] rfl (by rfl) (by kernel_rfl) (by kernel_rfl) (by rfl) (by rfl) (by rfl)) (by rfl) (by rfl) (by rfl) ?_
    refine WL.run ht hn 1 ⟨[(2, .sv (.one (.ptr 0 0))), (3, .sv (.one (.ptr 1 0))), (9, .sv (.one (I (seqErr e)))), (18, .sv (.one (.own 2))), (19, .sv (.one (I (([a, b] : (List ApiMorph)).length : Int)))), (20, .sv (.one (I x20)))], [.box [I a.fBase, LS (lsT intT) a.fImages, LS intT a.fCoding] 67 false, .box [I b.fBase, LS (lsT intT) b.fImages, LS intT b.fCoding] 67 false, rowI 67 ApiMorph.ty ([a, b] : (List ApiMorph)), .gone]⟩ (by kernel_rfl) ?_
    refine WL.nil ?_
    refine En.seq ?_
    refine En.region ?_
    refine WL.run ht hn 2 ⟨[(2, .sv (.one (.ptr 0 0))), (3, .sv (.one (.ptr 1 0))), (9, .sv (.one (I (seqErr e)))), (18, .sv (.one (.own 2))), (19, .sv (.one (I (([a, b] : (List ApiMorph)).length : Int)))), (20, .sv (.one (I x20))), (27, .sv (.one (B ((seqErr e) != 0))))], [.box [I a.fBase, LS (lsT intT) a.fImages, LS intT a.fCoding] 67 false, .box [I b.fBase, LS (lsT intT) b.fImages, LS intT b.fCoding] 67 false, rowI 67 ApiMorph.ty ([a, b] : (List ApiMorph)), .gone]⟩ (by kernel_rfl) ?_
    refine WL.nil ?_
    refine En.cond (b := ((seqErr e) != 0)) (by kernel_rfl) (fun hb => ?_) (fun hb => ?_)
    · replace h := h.1 hb
      refine En.seq ?_
      refine En.region ?_
      refine WL.run ht hn 4 ⟨[(4, .sv (.one (I 0))), (5, .sv (.one (B false))), (6, .sv (.one (I (seqErr e))))], [.gone, .gone, .gone, .gone]⟩ (by kernel_rfl) ?_
      refine WL.nil ?_
      refine En.ret ?_
      exact En.back ht (0, false, (seqErr e)) h (by kernel_rfl) rfl
    · replace h := h.2 hb
      refine En.skip ?_
      refine En.region ?_
      refine WL.run ht hn 2 ⟨[(2, .sv (.one (.ptr 0 0))), (3, .sv (.one (.ptr 1 0))), (18, .sv (.one (.own 2))), (19, .sv (.one (I (([a, b] : (List ApiMorph)).length : Int)))), (20, .sv (.one (I (wr (x20 + 1)))))], [.box [I a.fBase, LS (lsT intT) a.fImages, LS intT a.fCoding] 67 false, .box [I b.fBase, LS (lsT intT) b.fImages, LS intT b.fCoding] 67 false, rowI 67 ApiMorph.ty ([a, b] : (List ApiMorph)), .gone]⟩ (by kernel_rfl) ?_
      refine WL.nil ?_
      exact En.at (I := fun zz => Inv zz ∧ mu zz < mu x20) (T := fun zz => ⟨[(2, .sv (.one (.ptr 0 0))), (3, .sv (.one (.ptr 1 0))), (18, .sv (.one (.own 2))), (19, .sv (.one (I (([a, b] : (List ApiMorph)).length : Int)))), (20, .sv (.one (I zz)))], [.box [I a.fBase, LS (lsT intT) a.fImages, LS intT a.fCoding] 67 false, .box [I b.fBase, LS (lsT intT) b.fImages, LS intT b.fCoding] 67 false, rowI 67 ApiMorph.ty ([a, b] : (List ApiMorph))]⟩) (wr (x20 + 1)) h (by kernel_rfl)
  · replace h := h.2 hb
    refine En.exit rfl ?_
    refine En.seq ?_
    refine En.seq ?_
    refine En.region ?_
    refine WL.run ht hn 5 ⟨[(2, .sv (.one (.ptr 0 0))), (3, .sv (.one (.ptr 1 0))), (34, .sv (.one (B (a.fBase != b.fBase))))], [.box [I a.fBase, LS (lsT intT) a.fImages, LS intT a.fCoding] 67 false, .box [I b.fBase, LS (lsT intT) b.fImages, LS intT b.fCoding] 67 false, .gone]⟩ (by kernel_rfl) ?_
    refine WL.nil ?_
    refine En.cond (b := (a.fBase != b.fBase)) (by kernel_rfl) (fun hb => ?_) (fun hb => ?_)
    · replace h := h.1 hb
      refine En.seq ?_
      refine En.region ?_
      refine WL.run ht hn 3 ⟨[(4, .sv (.one (I 0))), (5, .sv (.one (B false))), (6, .sv (.one (I 3)))], [.gone, .gone, .gone]⟩ (by kernel_rfl) ?_
      refine WL.nil ?_
      refine En.ret ?_
      exact En.back ht (0, false, 3) h (by kernel_rfl) rfl
    · replace h := h.2 hb
      refine En.skip ?_
      refine En.seq ?_
      refine En.region ?_
      refine WL.mt0 (K := []) (p := some (3, mapI St158.enc intT ([] : List (St158 × Int)))) hn (by rfl) (mt_makeMap St158.enc intT 3 rfl) (by rfl) (by rfl) (by rfl) ?_
      refine WL.run ht hn 1 ⟨[(2, .sv (.one (.ptr 0 0))), (3, .sv (.one (.ptr 1 0))), (35, .sv (.one (.own 3))), (36, .sv (.agg [I 0, I 0]))], [.box [I a.fBase, LS (lsT intT) a.fImages, LS intT a.fCoding] 67 false, .box [I b.fBase, LS (lsT intT) b.fImages, LS intT b.fCoding] 67 false, .gone, mapI St158.enc intT ([] : List (St158 × Int))]⟩ (by kernel_rfl) ?_
      refine WL.mapPut (T := intT) St158.keyLaw (k := (St158.mk 0 0)) (y := 1) hn (by rfl) (.inr rfl) Try.underlying159 (by rfl) (by rfl) (by rfl) (by rfl) (by rfl) (by rfl) ?_
      refine WL.run ht hn 2 ⟨[(2, .sv (.one (.ptr 0 0))), (3, .sv (.one (.ptr 1 0))), (10, .sv (.one (.own 3)))], [.box [I a.fBase, LS (lsT intT) a.fImages, LS intT a.fCoding] 67 false, .box [I b.fBase, LS (lsT intT) b.fImages, LS intT b.fCoding] 67 false, .gone, mapI St158.enc intT (mput (St158.mk 0 0) 1 ([] : List (St158 × Int)))]⟩ (by kernel_rfl) ?_
      refine WL.nil ?_
      refine En.seq ?_
      refine En.seq ?_
      refine En.region ?_
      refine WL.run ht hn 1 ⟨[(2, .sv (.one (.ptr 0 0))), (3, .sv (.one (.ptr 1 0))), (10, .sv (.one (.own 3))), (38, .sv (.agg [I 0, I 0, I 0]))], [.box [I a.fBase, LS (lsT intT) a.fImages, LS intT a.fCoding] 67 false, .box [I b.fBase, LS (lsT intT) b.fImages, LS intT b.fCoding] 67 false, .gone, mapI St158.enc intT (mput (St158.mk 0 0) 1 ([] : List (St158 × Int)))]⟩ (by kernel_rfl) ?_
      refine WL.mt0 (K := []) (p := some (4, rowI 161 SeqsPlace.ty ([(SeqsPlace.mk 0 0 0)] : (List SeqsPlace)))) hn (by rfl) (mt_lit (T := SeqsPlace.ty) ([(SeqsPlace.mk 0 0 0)] : (List SeqsPlace)) (mt_bsl 4 (r := cellsOf SeqsPlace.ty ([(SeqsPlace.mk 0 0 0)] : (List SeqsPlace))) ht rfl (by rfl) (by rfl) (by rfl) (by kernel_rfl) (by rfl)) (fun _ h => by cases h) (fun _ => rfl) (fun _ => rfl) (by rfl) (Nat.le_of_ble_eq_true rfl)) (by rfl) (by rfl) (by rfl) ?_
      refine WL.run ht hn 1 ⟨[(2, .sv (.one (.ptr 0 0))), (3, .sv (.one (.ptr 1 0))), (10, .sv (.one (.own 3))), (11, .sv (.one (.own 4)))], [.box [I a.fBase, LS (lsT intT) a.fImages, LS intT a.fCoding] 67 false, .box [I b.fBase, LS (lsT intT) b.fImages, LS intT b.fCoding] 67 false, .gone, mapI St158.enc intT (mput (St158.mk 0 0) 1 ([] : List (St158 × Int))), rowI 161 SeqsPlace.ty ([(SeqsPlace.mk 0 0 0)] : (List SeqsPlace))]⟩ (by kernel_rfl) ?_
      refine WL.nil ?_
      refine En.block ?_
      obtain ⟨Inv_2, mu_2, h0_2, hI_2⟩ := h
      refine En.loop (σ := (List (St158 × Int)) × (List SeqsPlace)) (fun zz => Inv_2 zz.1 zz.2) (fun zz => mu_2 zz.1 zz.2) (fun zz => ⟨[(2, .sv (.one (.ptr 0 0))), (3, .sv (.one (.ptr 1 0))), (10, .sv (.one (.own 3))), (11, .sv (.one (.own 4)))], [.box [I a.fBase, LS (lsT intT) a.fImages, LS intT a.fCoding] 67 false, .box [I b.fBase, LS (lsT intT) b.fImages, LS intT b.fCoding] 67 false, .gone, mapI St158.enc intT zz.1, rowI 161 SeqsPlace.ty zz.2]⟩) ((mput (St158.mk 0 0) 1 ([] : List (St158 × Int))), ([(SeqsPlace.mk 0 0 0)] : (List SeqsPlace))) h0_2 (sub_ok (by kernel_rfl)) ?_
      rintro ⟨m3, l4⟩ h
      replace h := hI_2 _ _ h
      show En c ⟨[(2, .sv (.one (.ptr 0 0))), (3, .sv (.one (.ptr 1 0))), (10, .sv (.one (.own 3))), (11, .sv (.one (.own 4)))], [.box [I a.fBase, LS (lsT intT) a.fImages, LS intT a.fCoding] 67 false, .box [I b.fBase, LS (lsT intT) b.fImages, LS intT b.fCoding] 67 false, .gone, mapI St158.enc intT m3, rowI 161 SeqsPlace.ty l4]⟩ _
      refine En.seq ?_
      refine En.seq ?_
      refine En.region ?_
      refine WL.run ht hn 3 ⟨[(2, .sv (.one (.ptr 0 0))), (3, .sv (.one (.ptr 1 0))), (10, .sv (.one (.own 3))), (11, .sv (.one (.own 4))), (42, .sv (.one (B (decide ((l4.length : Int) > 0)))))], [.box [I a.fBase, LS (lsT intT) a.fImages, LS intT a.fCoding] 67 false, .box [I b.fBase, LS (lsT intT) b.fImages, LS intT b.fCoding] 67 false, .gone, mapI St158.enc intT m3, rowI 161 SeqsPlace.ty l4]⟩ (by kernel_rfl) ?_
      refine WL.nil ?_
      refine En.cond (b := (decide ((l4.length : Int) > 0))) (by kernel_rfl) (fun hb => ?_) (fun hb => ?_)
      · replace h := h.1 hb
        refine En.skip ?_
        refine En.seq ?_
        refine En.block ?_
        refine En.seq ?_
        refine En.region ?_
        refine WL.run ht hn 1 ⟨[(2, .sv (.one (.ptr 0 0))), (3, .sv (.one (.ptr 1 0))), (10, .sv (.one (.own 3))), (11, .sv (.one (.own 4))), (45, .sv (.one (.own 4)))], [.box [I a.fBase, LS (lsT intT) a.fImages, LS intT a.fCoding] 67 false, .box [I b.fBase, LS (lsT intT) b.fImages, LS intT b.fCoding] 67 false, .gone, mapI St158.enc intT m3, rowI 161 SeqsPlace.ty l4]⟩ (by kernel_rfl) ?_
        obtain ⟨e_2, he_2, h⟩ := h
        refine WL.val hn (by rfl) (val_indexO (T := SeqsPlace.ty) (l := l4) (k := 0) ht rfl (by rfl) (by rfl) (by rfl) (by rfl) (by decide) (by rfl) (by rfl) (by rfl) he_2) (by rfl) ?_
        refine WL.val hn (by rfl) (val_loadO (T := SeqsPlace.ty) (l := l4) (y := e_2) ht rfl (by rfl) (by rfl) (by rfl) (by rfl) (by rfl) (idx_some he_2).2.2 (by rfl)) (by rfl) ?_
        refine WL.run ht hn 2 ⟨[(2, .sv (.one (.ptr 0 0))), (3, .sv (.one (.ptr 1 0))), (10, .sv (.one (.own 3))), (11, .sv (.one (.own 4))), (12, .sv (.one (.ptr 5 0)))], [.box [I a.fBase, LS (lsT intT) a.fImages, LS intT a.fCoding] 67 false, .box [I b.fBase, LS (lsT intT) b.fImages, LS intT b.fCoding] 67 false, .gone, mapI St158.enc intT m3, rowI 161 SeqsPlace.ty l4, .box [I e_2.fA, I e_2.fB, I e_2.fN] 161 false]⟩ (by kernel_rfl) ?_
        refine WL.nil ?_
        refine En.seq ?_
        refine En.seq ?_
        refine En.regionS (by kernel_rfl) (by kernel_rfl) ?_
        refine SL.run ht hn 4 ⟨[(2, .sv (.one (.ptr 0 0))), (3, .sv (.one (.ptr 1 0))), (10, .sv (.one (.own 3))), (11, .sv (.one (.own 4))), (12, .sv (.one (.ptr 5 0))), (48, .sv (.one (.ptr 0 2))), (49, .sv (.one (LS intT a.fCoding))), (50, .sv (.one (.ptr 5 0))), (51, .sv (.one (I e_2.fA)))], [.box [I a.fBase, LS (lsT intT) a.fImages, LS intT a.fCoding] 67 false, .box [I b.fBase, LS (lsT intT) b.fImages, LS intT b.fCoding] 67 false, .gone, mapI St158.enc intT m3, rowI 161 SeqsPlace.ty l4, .box [I e_2.fA, I e_2.fB, I e_2.fN] 161 false]⟩ (by kernel_rfl) ?_
        obtain ⟨e_3, he_3, h⟩ := h
        refine SL.val hn (by rfl) (val_index (T := intT) (l := a.fCoding) (i := e_2.fA) ht rfl (by rfl) (by rfl) (by rfl) (by rfl) (by rfl) (by rfl) he_3) (by rfl) ?_
        refine SL.val hn (by rfl) (val_load (s := .one (I e_3)) ht rfl (by rfl) (by rfl) (by rfl) (by rfl) (by rfl)) (by rfl) ?_
        refine SL.run ht hn 4 ⟨[(2, .sv (.one (.ptr 0 0))), (3, .sv (.one (.ptr 1 0))), (10, .sv (.one (.own 3))), (11, .sv (.one (.own 4))), (12, .sv (.one (.ptr 5 0))), (48, .sv (.one (.ptr 0 2))), (49, .sv (.one (LS intT a.fCoding))), (50, .sv (.one (.ptr 5 0))), (51, .sv (.one (I e_2.fA))), (52, .sv (.one (.pe (svR (.one (I e_3))) 1))), (53, .sv (.one (I e_3))), (54, .sv (.one (.ptr 1 2))), (55, .sv (.one (LS intT b.fCoding))), (56, .sv (.one (.ptr 5 1))), (57, .sv (.one (I e_2.fB)))], [.box [I a.fBase, LS (lsT intT) a.fImages, LS intT a.fCoding] 67 false, .box [I b.fBase, LS (lsT intT) b.fImages, LS intT b.fCoding] 67 false, .gone, mapI St158.enc intT m3, rowI 161 SeqsPlace.ty l4, .box [I e_2.fA, I e_2.fB, I e_2.fN] 161 false]⟩ (by kernel_rfl) ?_
        obtain ⟨e_4, he_4, h⟩ := h
        refine SL.val hn (by rfl) (val_index (T := intT) (l := b.fCoding) (i := e_2.fB) ht rfl (by rfl) (by rfl) (by rfl) (by rfl) (by rfl) (by rfl) he_4) (by rfl) ?_
        refine SL.val hn (by rfl) (val_load (s := .one (I e_4)) ht rfl (by rfl) (by rfl) (by rfl) (by rfl) (by rfl)) (by rfl) ?_
        refine SL.run ht hn 1 ⟨[(2, .sv (.one (.ptr 0 0))), (3, .sv (.one (.ptr 1 0))), (10, .sv (.one (.own 3))), (11, .sv (.one (.own 4))), (12, .sv (.one (.ptr 5 0))), (48, .sv (.one (.ptr 0 2))), (49, .sv (.one (LS intT a.fCoding))), (50, .sv (.one (.ptr 5 0))), (51, .sv (.one (I e_2.fA))), (52, .sv (.one (.pe (svR (.one (I e_3))) 1))), (53, .sv (.one (I e_3))), (54, .sv (.one (.ptr 1 2))), (55, .sv (.one (LS intT b.fCoding))), (56, .sv (.one (.ptr 5 1))), (57, .sv (.one (I e_2.fB))), (58, .sv (.one (.pe (svR (.one (I e_4))) 1))), (59, .sv (.one (I e_4))), (60, .sv (.one (B (e_3 != e_4))))], [.box [I a.fBase, LS (lsT intT) a.fImages, LS intT a.fCoding] 67 false, .box [I b.fBase, LS (lsT intT) b.fImages, LS intT b.fCoding] 67 false, .gone, mapI St158.enc intT m3, rowI 161 SeqsPlace.ty l4, .box [I e_2.fA, I e_2.fB, I e_2.fN] 161 false]⟩ (by kernel_rfl) ?_
        refine SL.nil ⟨by kernel_rfl, ?_⟩
        refine En.cond (b := (e_3 != e_4)) (by kernel_rfl) (fun hb => ?_) (fun hb => ?_)
        · replace h := h.1 hb
          refine En.seq ?_
          refine En.region ?_
          refine WL.run ht hn 5 ⟨[(4, .sv (.one (I e_2.fN))), (5, .sv (.one (B true))), (6, .sv (.one (I 0)))], [.gone, .gone, .gone, .gone, .gone, .gone]⟩ (by kernel_rfl) ?_
          refine WL.nil ?_
          refine En.ret ?_
          exact En.back ht (e_2.fN, true, 0) h (by kernel_rfl) rfl
        · replace h := h.2 hb
          refine En.skip ?_
          refine En.seq ?_
          refine En.region ?_
          refine WL.run ht hn 3 ⟨[(2, .sv (.one (.ptr 0 0))), (3, .sv (.one (.ptr 1 0))), (10, .sv (.one (.own 3))), (11, .sv (.one (.own 4))), (12, .sv (.one (.ptr 5 0))), (64, .sv (.one (I a.fBase))), (65, .sv (.one (I 0)))], [.box [I a.fBase, LS (lsT intT) a.fImages, LS intT a.fCoding] 67 false, .box [I b.fBase, LS (lsT intT) b.fImages, LS intT b.fCoding] 67 false, .gone, mapI St158.enc intT m3, rowI 161 SeqsPlace.ty l4, .box [I e_2.fA, I e_2.fB, I e_2.fN] 161 false]⟩ (by kernel_rfl) ?_
          refine WL.nil ?_
          refine En.block ?_
          obtain ⟨Inv_3, mu_3, h0, hI⟩ := h
          refine En.loop (σ := Int × (List (St158 × Int)) × (List SeqsPlace)) (fun zz => Inv_3 zz.1 zz.2.1 zz.2.2) (fun zz => mu_3 zz.1 zz.2.1 zz.2.2) (fun zz => ⟨[(2, .sv (.one (.ptr 0 0))), (3, .sv (.one (.ptr 1 0))), (10, .sv (.one (.own 3))), (11, .sv (.one (.own 4))), (12, .sv (.one (.ptr 5 0))), (64, .sv (.one (I a.fBase))), (65, .sv (.one (I zz.1)))], [.box [I a.fBase, LS (lsT intT) a.fImages, LS intT a.fCoding] 67 false, .box [I b.fBase, LS (lsT intT) b.fImages, LS intT b.fCoding] 67 false, .gone, mapI St158.enc intT zz.2.1, rowI 161 SeqsPlace.ty zz.2.2, .box [I e_2.fA, I e_2.fB, I e_2.fN] 161 false]⟩) (0, m3, l4) h0 (sub_ok (by kernel_rfl)) ?_
          rintro ⟨x65, m3_2, l4_2⟩ h
          replace h := hI _ _ _ h
          show En c ⟨[(2, .sv (.one (.ptr 0 0))), (3, .sv (.one (.ptr 1 0))), (10, .sv (.one (.own 3))), (11, .sv (.one (.own 4))), (12, .sv (.one (.ptr 5 0))), (64, .sv (.one (I a.fBase))), (65, .sv (.one (I x65)))], [.box [I a.fBase, LS (lsT intT) a.fImages, LS intT a.fCoding] 67 false, .box [I b.fBase, LS (lsT intT) b.fImages, LS intT b.fCoding] 67 false, .gone, mapI St158.enc intT m3_2, rowI 161 SeqsPlace.ty l4_2, .box [I e_2.fA, I e_2.fB, I e_2.fN] 161 false]⟩ _
          refine En.seq ?_
          refine En.region ?_
          refine WL.run ht hn 1 ⟨[(2, .sv (.one (.ptr 0 0))), (3, .sv (.one (.ptr 1 0))), (10, .sv (.one (.own 3))), (11, .sv (.one (.own 4))), (12, .sv (.one (.ptr 5 0))), (64, .sv (.one (I a.fBase))), (65, .sv (.one (I x65))), (66, .sv (.one (B (decide (x65 < a.fBase)))))], [.box [I a.fBase, LS (lsT intT) a.fImages, LS intT a.fCoding] 67 false, .box [I b.fBase, LS (lsT intT) b.fImages, LS intT b.fCoding] 67 false, .gone, mapI St158.enc intT m3_2, rowI 161 SeqsPlace.ty l4_2, .box [I e_2.fA, I e_2.fB, I e_2.fN] 161 false]⟩ (by kernel_rfl) ?_
          refine WL.nil ?_
          refine En.seq ?_
          refine En.cond (b := (decide (x65 < a.fBase))) (by kernel_rfl) (fun hb => ?_) (fun hb => ?_)
          · replace h := h.1 hb
            refine En.skip ?_
            obtain ⟨J, h, hJ⟩ := h
            refine En.seqJ (σ := (List (St158 × Int)) × (List SeqsPlace)) (fun zz => J zz.1 zz.2) (fun zz => ⟨[(2, .sv (.one (.ptr 0 0))), (3, .sv (.one (.ptr 1 0))), (10, .sv (.one (.own 3))), (11, .sv (.one (.own 4))), (12, .sv (.one (.ptr 5 0))), (64, .sv (.one (I a.fBase))), (65, .sv (.one (I x65)))], [.box [I a.fBase, LS (lsT intT) a.fImages, LS intT a.fCoding] 67 false, .box [I b.fBase, LS (lsT intT) b.fImages, LS intT b.fCoding] 67 false, .gone, mapI St158.enc intT zz.1, rowI 161 SeqsPlace.ty zz.2, .box [I e_2.fA, I e_2.fB, I e_2.fN] 161 false]⟩) ?_ ?_
            · refine En.block ?_
              refine En.seq ?_
              refine En.region ?_
              refine WL.run ht hn 2 ⟨[(2, .sv (.one (.ptr 0 0))), (3, .sv (.one (.ptr 1 0))), (10, .sv (.one (.own 3))), (11, .sv (.one (.own 4))), (12, .sv (.one (.ptr 5 0))), (13, .sv (.one (I x65))), (64, .sv (.one (I a.fBase))), (65, .sv (.one (I x65)))], [.box [I a.fBase, LS (lsT intT) a.fImages, LS intT a.fCoding] 67 false, .box [I b.fBase, LS (lsT intT) b.fImages, LS intT b.fCoding] 67 false, .gone, mapI St158.enc intT m3_2, rowI 161 SeqsPlace.ty l4_2, .box [I e_2.fA, I e_2.fB, I e_2.fN] 161 false]⟩ (by kernel_rfl) ?_
              refine WL.nil ?_
              refine En.seq ?_
              refine En.regionS (by kernel_rfl) (by kernel_rfl) ?_
              refine SL.run ht hn 4 ⟨[(2, .sv (.one (.ptr 0 0))), (3, .sv (.one (.ptr 1 0))), (10, .sv (.one (.own 3))), (11, .sv (.one (.own 4))), (12, .sv (.one (.ptr 5 0))), (13, .sv (.one (I x65))), (64, .sv (.one (I a.fBase))), (65, .sv (.one (I x65))), (68, .sv (.one (.ptr 0 1))), (69, .sv (.one (LS (lsT intT) a.fImages))), (70, .sv (.one (.ptr 5 0))), (71, .sv (.one (I e_2.fA)))], [.box [I a.fBase, LS (lsT intT) a.fImages, LS intT a.fCoding] 67 false, .box [I b.fBase, LS (lsT intT) b.fImages, LS intT b.fCoding] 67 false, .gone, mapI St158.enc intT m3_2, rowI 161 SeqsPlace.ty l4_2, .box [I e_2.fA, I e_2.fB, I e_2.fN] 161 false]⟩ (by kernel_rfl) ?_
              obtain ⟨e_5, he_5, h⟩ := h
              refine SL.val hn (by rfl) (val_index (T := (lsT intT)) (l := a.fImages) (i := e_2.fA) ht rfl (by rfl) (by rfl) (by rfl) (by rfl) (by rfl) (by rfl) he_5) (by rfl) ?_
              refine SL.val hn (by rfl) (val_load (s := .one (LS intT e_5)) ht rfl (by rfl) (by rfl) (by rfl) (by rfl) (by rfl)) (by rfl) ?_
              refine SL.run ht hn 1 ⟨[(2, .sv (.one (.ptr 0 0))), (3, .sv (.one (.ptr 1 0))), (10, .sv (.one (.own 3))), (11, .sv (.one (.own 4))), (12, .sv (.one (.ptr 5 0))), (13, .sv (.one (I x65))), (64, .sv (.one (I a.fBase))), (65, .sv (.one (I x65))), (68, .sv (.one (.ptr 0 1))), (69, .sv (.one (LS (lsT intT) a.fImages))), (70, .sv (.one (.ptr 5 0))), (71, .sv (.one (I e_2.fA))), (72, .sv (.one (.pe (svR (.one (LS intT e_5))) 1))), (73, .sv (.one (LS intT e_5))), (74, .sv (.one (I x65)))], [.box [I a.fBase, LS (lsT intT) a.fImages, LS intT a.fCoding] 67 false, .box [I b.fBase, LS (lsT intT) b.fImages, LS intT b.fCoding] 67 false, .gone, mapI St158.enc intT m3_2, rowI 161 SeqsPlace.ty l4_2, .box [I e_2.fA, I e_2.fB, I e_2.fN] 161 false]⟩ (by kernel_rfl) ?_
              obtain ⟨e_6, he_6, h⟩ := h
              refine SL.val hn (by rfl) (val_index (T := intT) (l := e_5) (i := x65) ht rfl (by rfl) (by rfl) (by rfl) (by rfl) (by rfl) (by rfl) he_6) (by rfl) ?_
              refine SL.val hn (by rfl) (val_load (s := .one (I e_6)) ht rfl (by rfl) (by rfl) (by rfl) (by rfl) (by rfl)) (by rfl) ?_
              refine SL.run ht hn 4 ⟨[(2, .sv (.one (.ptr 0 0))), (3, .sv (.one (.ptr 1 0))), (10, .sv (.one (.own 3))), (11, .sv (.one (.own 4))), (12, .sv (.one (.ptr 5 0))), (13, .sv (.one (I x65))), (64, .sv (.one (I a.fBase))), (65, .sv (.one (I x65))), (68, .sv (.one (.ptr 0 1))), (69, .sv (.one (LS (lsT intT) a.fImages))), (70, .sv (.one (.ptr 5 0))), (71, .sv (.one (I e_2.fA))), (72, .sv (.one (.pe (svR (.one (LS intT e_5))) 1))), (73, .sv (.one (LS intT e_5))), (74, .sv (.one (I x65))), (75, .sv (.one (.pe (svR (.one (I e_6))) 1))), (76, .sv (.one (I e_6))), (77, .sv (.one (.ptr 1 1))), (78, .sv (.one (LS (lsT intT) b.fImages))), (79, .sv (.one (.ptr 5 1))), (80, .sv (.one (I e_2.fB)))], [.box [I a.fBase, LS (lsT intT) a.fImages, LS intT a.fCoding] 67 false, .box [I b.fBase, LS (lsT intT) b.fImages, LS intT b.fCoding] 67 false, .gone, mapI St158.enc intT m3_2, rowI 161 SeqsPlace.ty l4_2, .box [I e_2.fA, I e_2.fB, I e_2.fN] 161 false]⟩ (by kernel_rfl) ?_
              obtain ⟨e_7, he_7, h⟩ := h
              refine SL.val hn (by rfl) (val_index (T := (lsT intT)) (l := b.fImages) (i := e_2.fB) ht rfl (by rfl) (by rfl) (by rfl) (by rfl) (by rfl) (by rfl) he_7) (by rfl) ?_
              refine SL.val hn (by rfl) (val_load (s := .one (LS intT e_7)) ht rfl (by rfl) (by rfl) (by rfl) (by rfl) (by rfl)) (by rfl) ?_
              refine SL.run ht hn 1 ⟨[(2, .sv (.one (.ptr 0 0))), (3, .sv (.one (.ptr 1 0))), (10, .sv (.one (.own 3))), (11, .sv (.one (.own 4))), (12, .sv (.one (.ptr 5 0))), (13, .sv (.one (I x65))), (64, .sv (.one (I a.fBase))), (65, .sv (.one (I x65))), (68, .sv (.one (.ptr 0 1))), (69, .sv (.one (LS (lsT intT) a.fImages))), (70, .sv (.one (.ptr 5 0))), (71, .sv (.one (I e_2.fA))), (72, .sv (.one (.pe (svR (.one (LS intT e_5))) 1))), (73, .sv (.one (LS intT e_5))), (74, .sv (.one (I x65))), (75, .sv (.one (.pe (svR (.one (I e_6))) 1))), (76, .sv (.one (I e_6))), (77, .sv (.one (.ptr 1 1))), (78, .sv (.one (LS (lsT intT) b.fImages))), (79, .sv (.one (.ptr 5 1))), (80, .sv (.one (I e_2.fB))), (81, .sv (.one (.pe (svR (.one (LS intT e_7))) 1))), (82, .sv (.one (LS intT e_7))), (83, .sv (.one (I x65)))], [.box [I a.fBase, LS (lsT intT) a.fImages, LS intT a.fCoding] 67 false, .box [I b.fBase, LS (lsT intT) b.fImages, LS intT b.fCoding] 67 false, .gone, mapI St158.enc intT m3_2, rowI 161 SeqsPlace.ty l4_2, .box [I e_2.fA, I e_2.fB, I e_2.fN] 161 false]⟩ (by kernel_rfl) ?_
              obtain ⟨e_8, he_8, h⟩ := h
              refine SL.val hn (by rfl) (val_index (T := intT) (l := e_7) (i := x65) ht rfl (by rfl) (by rfl) (by rfl) (by rfl) (by rfl) (by rfl) he_8) (by rfl) ?_
              refine SL.val hn (by rfl) (val_load (s := .one (I e_8)) ht rfl (by rfl) (by rfl) (by rfl) (by rfl) (by rfl)) (by rfl) ?_
              refine SL.run ht hn 2 ⟨[(2, .sv (.one (.ptr 0 0))), (3, .sv (.one (.ptr 1 0))), (10, .sv (.one (.own 3))), (11, .sv (.one (.own 4))), (12, .sv (.one (.ptr 5 0))), (13, .sv (.one (I x65))), (14, .sv (.one (I e_6))), (15, .sv (.one (I e_8))), (64, .sv (.one (I a.fBase))), (65, .sv (.one (I x65))), (68, .sv (.one (.ptr 0 1))), (69, .sv (.one (LS (lsT intT) a.fImages))), (70, .sv (.one (.ptr 5 0))), (71, .sv (.one (I e_2.fA))), (72, .sv (.one (.pe (svR (.one (LS intT e_5))) 1))), (73, .sv (.one (LS intT e_5))), (74, .sv (.one (I x65))), (75, .sv (.one (.pe (svR (.one (I e_6))) 1))), (76, .sv (.one (I e_6))), (77, .sv (.one (.ptr 1 1))), (78, .sv (.one (LS (lsT intT) b.fImages))), (79, .sv (.one (.ptr 5 1))), (80, .sv (.one (I e_2.fB))), (81, .sv (.one (.pe (svR (.one (LS intT e_7))) 1))), (82, .sv (.one (LS intT e_7))), (83, .sv (.one (I x65))), (84, .sv (.one (.pe (svR (.one (I e_8))) 1))), (85, .sv (.one (I e_8)))], [.box [I a.fBase, LS (lsT intT) a.fImages, LS intT a.fCoding] 67 false, .box [I b.fBase, LS (lsT intT) b.fImages, LS intT b.fCoding] 67 false, .gone, mapI St158.enc intT m3_2, rowI 161 SeqsPlace.ty l4_2, .box [I e_2.fA, I e_2.fB, I e_2.fN] 161 false]⟩ (by kernel_rfl) ?_
              refine SL.nil ⟨by kernel_rfl, ?_⟩
              refine En.seq ?_
              refine En.region ?_
              refine WL.run ht hn 4 ⟨[(2, .sv (.one (.ptr 0 0))), (3, .sv (.one (.ptr 1 0))), (10, .sv (.one (.own 3))), (11, .sv (.one (.own 4))), (12, .sv (.one (.ptr 5 0))), (13, .sv (.one (I x65))), (14, .sv (.one (I e_6))), (15, .sv (.one (I e_8))), (64, .sv (.one (I a.fBase))), (65, .sv (.one (I x65))), (86, .sv (.one (.own 3))), (89, .sv (.agg [I e_6, I e_8]))], [.box [I a.fBase, LS (lsT intT) a.fImages, LS intT a.fCoding] 67 false, .box [I b.fBase, LS (lsT intT) b.fImages, LS intT b.fCoding] 67 false, .gone, mapI St158.enc intT m3_2, rowI 161 SeqsPlace.ty l4_2, .box [I e_2.fA, I e_2.fB, I e_2.fN] 161 false]⟩ (by kernel_rfl) ?_
              refine WL.val hn (by rfl) (val_lookup (T := intT) (D := m3_2) St158.keyLaw (k := (St158.mk e_6 e_8)) (ok := false) (0 : Int) (zv := (.int .i64 0)) rfl Try.underlying159 (fun _ => by kernel_rfl) (fun _ => ⟨rfl, trivial⟩) (mapAs St158.enc intT m3_2) (by rfl) (by rfl) (by rfl) (fun _ => rfl)) (by rfl) ?_
              refine WL.run ht hn 1 ⟨[(2, .sv (.one (.ptr 0 0))), (3, .sv (.one (.ptr 1 0))), (10, .sv (.one (.own 3))), (11, .sv (.one (.own 4))), (12, .sv (.one (.ptr 5 0))), (13, .sv (.one (I x65))), (14, .sv (.one (I e_6))), (15, .sv (.one (I e_8))), (64, .sv (.one (I a.fBase))), (65, .sv (.one (I x65))), (91, .sv (.one (B (((mget (St158.mk e_6 e_8) m3_2).getD (0 : Int)) == 0))))], [.box [I a.fBase, LS (lsT intT) a.fImages, LS intT a.fCoding] 67 false, .box [I b.fBase, LS (lsT intT) b.fImages, LS intT b.fCoding] 67 false, .gone, mapI St158.enc intT m3_2, rowI 161 SeqsPlace.ty l4_2, .box [I e_2.fA, I e_2.fB, I e_2.fN] 161 false]⟩ (by kernel_rfl) ?_
              refine WL.nil ?_
              refine En.cond (b := (((mget (St158.mk e_6 e_8) m3_2).getD (0 : Int)) == 0)) (by kernel_rfl) (fun hb => ?_) (fun hb => ?_)
              · replace h := h.1 hb
                refine En.seq ?_
                refine En.region ?_
                refine WL.run ht hn 4 ⟨[(2, .sv (.one (.ptr 0 0))), (3, .sv (.one (.ptr 1 0))), (10, .sv (.one (.own 3))), (11, .sv (.one (.own 4))), (12, .sv (.one (.ptr 5 0))), (13, .sv (.one (I x65))), (14, .sv (.one (I e_6))), (15, .sv (.one (I e_8))), (64, .sv (.one (I a.fBase))), (65, .sv (.one (I x65))), (92, .sv (.one (.own 3))), (95, .sv (.agg [I e_6, I e_8]))], [.box [I a.fBase, LS (lsT intT) a.fImages, LS intT a.fCoding] 67 false, .box [I b.fBase, LS (lsT intT) b.fImages, LS intT b.fCoding] 67 false, .gone, mapI St158.enc intT m3_2, rowI 161 SeqsPlace.ty l4_2, .box [I e_2.fA, I e_2.fB, I e_2.fN] 161 false]⟩ (by kernel_rfl) ?_
                refine WL.mapPut (T := intT) St158.keyLaw (k := (St158.mk e_6 e_8)) (y := 1) hn (by rfl) (.inl rfl) Try.underlying159 (by rfl) (by rfl) (by rfl) (by rfl) (by rfl) (by rfl) ?_
                refine WL.nil ?_
                refine En.region ?_
                refine WL.run ht hn 11 ⟨[(2, .sv (.one (.ptr 0 0))), (3, .sv (.one (.ptr 1 0))), (10, .sv (.one (.own 3))), (12, .sv (.one (.ptr 5 0))), (64, .sv (.one (I a.fBase))), (65, .sv (.one (I x65))), (96, .sv (.one (.own 4))), (106, .sv (.agg [I e_6, I e_8, I (wr ((wr (e_2.fN * a.fBase)) + x65))]))], [.box [I a.fBase, LS (lsT intT) a.fImages, LS intT a.fCoding] 67 false, .box [I b.fBase, LS (lsT intT) b.fImages, LS intT b.fCoding] 67 false, .gone, mapI St158.enc intT (mput (St158.mk e_6 e_8) 1 m3_2), rowI 161 SeqsPlace.ty l4_2, .box [I e_2.fA, I e_2.fB, I e_2.fN] 161 false]⟩ (by kernel_rfl) ?_
                refine WL.mt0 (K := []) (p := some (6, rowI 161 SeqsPlace.ty ([(SeqsPlace.mk e_6 e_8 (wr ((wr (e_2.fN * a.fBase)) + x65)))] : (List SeqsPlace)))) hn (by rfl) (mt_lit (T := SeqsPlace.ty) ([(SeqsPlace.mk e_6 e_8 (wr ((wr (e_2.fN * a.fBase)) + x65)))] : (List SeqsPlace)) (mt_bsl 6 (r := cellsOf SeqsPlace.ty ([(SeqsPlace.mk e_6 e_8 (wr ((wr (e_2.fN * a.fBase)) + x65)))] : (List SeqsPlace))) ht rfl (by rfl) (by rfl) (by rfl) (by kernel_rfl) (by rfl)) (fun _ h => by cases h) (fun _ => rfl) (fun _ => rfl) (by rfl) (Nat.le_of_ble_eq_true rfl)) (by rfl) (by rfl) (by rfl) ?_
                refine WL.seal (T := SeqsPlace.ty) (l := ([(SeqsPlace.mk e_6 e_8 (wr ((wr (e_2.fN * a.fBase)) + x65)))] : (List SeqsPlace))) (e := 161) 6 rfl ?_
                refine WL.run ht hn 0 ⟨[(2, .sv (.one (.ptr 0 0))), (3, .sv (.one (.ptr 1 0))), (10, .sv (.one (.own 3))), (12, .sv (.one (.ptr 5 0))), (64, .sv (.one (I a.fBase))), (65, .sv (.one (I x65))), (96, .sv (.one (.own 4))), (106, .sv (.agg [I e_6, I e_8, I (wr ((wr (e_2.fN * a.fBase)) + x65))])), (107, .sv (.one (LS SeqsPlace.ty ([(SeqsPlace.mk e_6 e_8 (wr ((wr (e_2.fN * a.fBase)) + x65)))] : (List SeqsPlace)))))], [.box [I a.fBase, LS (lsT intT) a.fImages, LS intT a.fCoding] 67 false, .box [I b.fBase, LS (lsT intT) b.fImages, LS intT b.fCoding] 67 false, .gone, mapI St158.enc intT (mput (St158.mk e_6 e_8) 1 m3_2), rowI 161 SeqsPlace.ty l4_2, .box [I e_2.fA, I e_2.fB, I e_2.fN] 161 false, .gone]⟩ (by kernel_rfl) ?_
                have hp := h.1
                replace h := h.2
                refine WL.mt (S2 := ⟨[(2, .sv (.one (.ptr 0 0))), (3, .sv (.one (.ptr 1 0))), (10, .sv (.one (.own 3))), (12, .sv (.one (.ptr 5 0))), (64, .sv (.one (I a.fBase))), (65, .sv (.one (I x65))), (106, .sv (.agg [I e_6, I e_8, I (wr ((wr (e_2.fN * a.fBase)) + x65))])), (107, .sv (.one (LS SeqsPlace.ty ([(SeqsPlace.mk e_6 e_8 (wr ((wr (e_2.fN * a.fBase)) + x65)))] : (List SeqsPlace)))))], [.box [I a.fBase, LS (lsT intT) a.fImages, LS intT a.fCoding] 67 false, .box [I b.fBase, LS (lsT intT) b.fImages, LS intT b.fCoding] 67 false, .gone, mapI St158.enc intT (mput (St158.mk e_6 e_8) 1 m3_2), rowI 161 SeqsPlace.ty l4_2, .box [I e_2.fA, I e_2.fB, I e_2.fN] 161 false, .gone]⟩) (K := [4]) (p := some (4, rowI 161 SeqsPlace.ty (l4_2 ++ ([(SeqsPlace.mk e_6 e_8 (wr ((wr (e_2.fN * a.fBase)) + x65)))] : (List SeqsPlace))))) hn (by rfl) (mt_append (T := SeqsPlace.ty) (l := l4_2) (es := ([(SeqsPlace.mk e_6 e_8 (wr ((wr (e_2.fN * a.fBase)) + x65)))] : (List SeqsPlace))) ht rfl (by rfl) (by rfl) (by rfl) (by rfl) (by decide) (by rfl) (by rfl) (srcLS (T := SeqsPlace.ty) (es := ([(SeqsPlace.mk e_6 e_8 (wr ((wr (e_2.fN * a.fBase)) + x65)))] : (List SeqsPlace))) (fun _ h => by cases h) (by decide) (by rfl)) (by exact hp) (by exact hp.le (by decide))) (by kernel_rfl) (by rfl) (by rfl) (by rfl) ?_
                refine WL.run ht hn 1 ⟨[(2, .sv (.one (.ptr 0 0))), (3, .sv (.one (.ptr 1 0))), (10, .sv (.one (.own 3))), (11, .sv (.one (.own 4))), (12, .sv (.one (.ptr 5 0))), (64, .sv (.one (I a.fBase))), (65, .sv (.one (I x65)))], [.box [I a.fBase, LS (lsT intT) a.fImages, LS intT a.fCoding] 67 false, .box [I b.fBase, LS (lsT intT) b.fImages, LS intT b.fCoding] 67 false, .gone, mapI St158.enc intT (mput (St158.mk e_6 e_8) 1 m3_2), rowI 161 SeqsPlace.ty (l4_2 ++ ([(SeqsPlace.mk e_6 e_8 (wr ((wr (e_2.fN * a.fBase)) + x65)))] : (List SeqsPlace))), .box [I e_2.fA, I e_2.fB, I e_2.fN] 161 false, .gone]⟩ (by kernel_rfl) ?_
                refine WL.nil ?_
                exact En.at (I := fun zz => J zz.1 zz.2) (T := fun zz => ⟨[(2, .sv (.one (.ptr 0 0))), (3, .sv (.one (.ptr 1 0))), (10, .sv (.one (.own 3))), (11, .sv (.one (.own 4))), (12, .sv (.one (.ptr 5 0))), (64, .sv (.one (I a.fBase))), (65, .sv (.one (I x65)))], [.box [I a.fBase, LS (lsT intT) a.fImages, LS intT a.fCoding] 67 false, .box [I b.fBase, LS (lsT intT) b.fImages, LS intT b.fCoding] 67 false, .gone, mapI St158.enc intT zz.1, rowI 161 SeqsPlace.ty zz.2, .box [I e_2.fA, I e_2.fB, I e_2.fN] 161 false]⟩) ((mput (St158.mk e_6 e_8) 1 m3_2), (l4_2 ++ ([(SeqsPlace.mk e_6 e_8 (wr ((wr (e_2.fN * a.fBase)) + x65)))] : (List SeqsPlace)))) h (by kernel_rfl)
              · replace h := h.2 hb
                refine En.skip ?_
                exact En.at (I := fun zz => J zz.1 zz.2) (T := fun zz => ⟨[(2, .sv (.one (.ptr 0 0))), (3, .sv (.one (.ptr 1 0))), (10, .sv (.one (.own 3))), (11, .sv (.one (.own 4))), (12, .sv (.one (.ptr 5 0))), (64, .sv (.one (I a.fBase))), (65, .sv (.one (I x65)))], [.box [I a.fBase, LS (lsT intT) a.fImages, LS intT a.fCoding] 67 false, .box [I b.fBase, LS (lsT intT) b.fImages, LS intT b.fCoding] 67 false, .gone, mapI St158.enc intT zz.1, rowI 161 SeqsPlace.ty zz.2, .box [I e_2.fA, I e_2.fB, I e_2.fN] 161 false]⟩) (m3_2, l4_2) h (by kernel_rfl)
            · rintro ⟨m3_3, l4_3⟩ h
              replace h := hJ _ _ h
              show En c ⟨[(2, .sv (.one (.ptr 0 0))), (3, .sv (.one (.ptr 1 0))), (10, .sv (.one (.own 3))), (11, .sv (.one (.own 4))), (12, .sv (.one (.ptr 5 0))), (64, .sv (.one (I a.fBase))), (65, .sv (.one (I x65)))], [.box [I a.fBase, LS (lsT intT) a.fImages, LS intT a.fCoding] 67 false, .box [I b.fBase, LS (lsT intT) b.fImages, LS intT b.fCoding] 67 false, .gone, mapI St158.enc intT m3_3, rowI 161 SeqsPlace.ty l4_3, .box [I e_2.fA, I e_2.fB, I e_2.fN] 161 false]⟩ _
              refine En.region ?_
              refine WL.run ht hn 2 ⟨[(2, .sv (.one (.ptr 0 0))), (3, .sv (.one (.ptr 1 0))), (10, .sv (.one (.own 3))), (11, .sv (.one (.own 4))), (12, .sv (.one (.ptr 5 0))), (64, .sv (.one (I a.fBase))), (65, .sv (.one (I (wr (x65 + 1)))))], [.box [I a.fBase, LS (lsT intT) a.fImages, LS intT a.fCoding] 67 false, .box [I b.fBase, LS (lsT intT) b.fImages, LS intT b.fCoding] 67 false, .gone, mapI St158.enc intT m3_3, rowI 161 SeqsPlace.ty l4_3, .box [I e_2.fA, I e_2.fB, I e_2.fN] 161 false]⟩ (by kernel_rfl) ?_
              refine WL.nil ?_
              exact En.at (I := fun zz => Inv_3 zz.1 zz.2.1 zz.2.2 ∧ mu_3 zz.1 zz.2.1 zz.2.2 < mu_3 x65 m3_2 l4_2) (T := fun zz => ⟨[(2, .sv (.one (.ptr 0 0))), (3, .sv (.one (.ptr 1 0))), (10, .sv (.one (.own 3))), (11, .sv (.one (.own 4))), (12, .sv (.one (.ptr 5 0))), (64, .sv (.one (I a.fBase))), (65, .sv (.one (I zz.1)))], [.box [I a.fBase, LS (lsT intT) a.fImages, LS intT a.fCoding] 67 false, .box [I b.fBase, LS (lsT intT) b.fImages, LS intT b.fCoding] 67 false, .gone, mapI St158.enc intT zz.2.1, rowI 161 SeqsPlace.ty zz.2.2, .box [I e_2.fA, I e_2.fB, I e_2.fN] 161 false]⟩) ((wr (x65 + 1)), m3_3, l4_3) h (by kernel_rfl)
          · replace h := h.2 hb
            refine En.exit rfl ?_
            refine En.region ?_
            refine WL.run ht hn 1 ⟨[(2, .sv (.one (.ptr 0 0))), (3, .sv (.one (.ptr 1 0))), (10, .sv (.one (.own 3))), (43, .sv (.one (.own 4)))], [.box [I a.fBase, LS (lsT intT) a.fImages, LS intT a.fCoding] 67 false, .box [I b.fBase, LS (lsT intT) b.fImages, LS intT b.fCoding] 67 false, .gone, mapI St158.enc intT m3_2, rowI 161 SeqsPlace.ty l4_2, .gone]⟩ (by kernel_rfl) ?_
            have hp_2 := h.1
            replace h := h.2
            refine WL.mt (S2 := ⟨[(2, .sv (.one (.ptr 0 0))), (3, .sv (.one (.ptr 1 0))), (10, .sv (.one (.own 3)))], [.box [I a.fBase, LS (lsT intT) a.fImages, LS intT a.fCoding] 67 false, .box [I b.fBase, LS (lsT intT) b.fImages, LS intT b.fCoding] 67 false, .gone, mapI St158.enc intT m3_2, rowI 161 SeqsPlace.ty l4_2, .gone]⟩) (K := [4]) (p := some (4, rowI 161 SeqsPlace.ty (l4_2.drop (1 : Int).toNat))) hn (by rfl) (mt_sliceF (T := SeqsPlace.ty) (l := l4_2) (p := 4) (lv := 1) ht rfl (by rfl) (by rfl) (by rfl) (by rfl) (by rfl) (by rfl) (by rfl) hp_2) (by kernel_rfl) (by rfl) (by rfl) (by rfl) ?_
            refine WL.run ht hn 1 ⟨[(2, .sv (.one (.ptr 0 0))), (3, .sv (.one (.ptr 1 0))), (10, .sv (.one (.own 3))), (11, .sv (.one (.own 4)))], [.box [I a.fBase, LS (lsT intT) a.fImages, LS intT a.fCoding] 67 false, .box [I b.fBase, LS (lsT intT) b.fImages, LS intT b.fCoding] 67 false, .gone, mapI St158.enc intT m3_2, rowI 161 SeqsPlace.ty (l4_2.drop (1 : Int).toNat), .gone]⟩ (by kernel_rfl) ?_
            refine WL.nil ?_
            exact En.at (I := fun zz => Inv_2 zz.1 zz.2 ∧ mu_2 zz.1 zz.2 < mu_2 m3 l4) (T := fun zz => ⟨[(2, .sv (.one (.ptr 0 0))), (3, .sv (.one (.ptr 1 0))), (10, .sv (.one (.own 3))), (11, .sv (.one (.own 4)))], [.box [I a.fBase, LS (lsT intT) a.fImages, LS intT a.fCoding] 67 false, .box [I b.fBase, LS (lsT intT) b.fImages, LS intT b.fCoding] 67 false, .gone, mapI St158.enc intT zz.1, rowI 161 SeqsPlace.ty zz.2]⟩) (m3_2, (l4_2.drop (1 : Int).toNat)) h (by kernel_rfl)
      · replace h := h.2 hb
        refine En.exit rfl ?_
        refine En.seq ?_
        refine En.region ?_
        refine WL.run ht hn 3 ⟨[(4, .sv (.one (I 0))), (5, .sv (.one (B false))), (6, .sv (.one (I 0)))], [.gone, .gone, .gone, .gone, .gone]⟩ (by kernel_rfl) ?_
        refine WL.nil ?_
        refine En.ret ?_
        exact En.back ht (0, false, 0) h (by kernel_rfl) rfl
theorem en31 : ∀ args w, (callFunc 31 args).run Try.prog w = .ok (.enter 31 args) w := enters_of Try.func31 (by kernel_rfl) rfl
def twins (N : Nat) : List St158 := (List.range N).map fun (i : Nat) => ⟨(i : Int), (i : Int)⟩
structure MetOk (N : Nat) (D : List (St158 × Int)) : Prop where
  nodup : (D.map (·.1)).Nodup
  in_ : ∀ k ∈ D.map (·.1), k ∈ twins N
  ones : ∀ k v, mget k D = some v → v = 1
theorem MetOk.len {N : Nat} {D : List (St158 × Int)} (h : MetOk N D) : D.length ≤ N := by
  have := nodup_le h.nodup h.in_
  simpa [twins] using this
def RowOk (N : Nat) (l : List SeqsPlace) : Prop := ∀ p ∈ l, p.fA = p.fB ∧ 0 ≤ p.fA ∧ p.fA < (N : Int)
theorem mem_twins {N : Nat} {x : Int} (h : 0 ≤ x ∧ x < (N : Int)) : (⟨x, x⟩ : St158) ∈ twins N :=
  List.mem_map.2 ⟨x.toNat, List.mem_range.2 (by omega), by rw [show ((x.toNat : Nat) : Int) = x by omega]⟩
theorem MetOk.put {N : Nat} {D : List (St158 × Int)} (h : MetOk N D) {x : Int} (hx : 0 ≤ x ∧ x < (N : Int)) : MetOk N (mput ⟨x, x⟩ 1 D) := by
  refine ⟨mput_nodup h.nodup, fun k hk => ?_, fun k v hk => ?_⟩
  · rw [mput_keys] at hk
    split at hk
    · exact h.in_ k hk
    · rcases List.mem_append.1 hk with hk | hk
      · exact h.in_ k hk
      · rw [List.mem_singleton.1 hk]; exact mem_twins hx
  · rw [mget_put] at hk
    split at hk
    · cases hk; rfl
    · exact h.ones k v hk
theorem put_len {D : List (St158 × Int)} {k : St158} (h : mget k D = none) : (mput k (1 : Int) D).length = D.length + 1 := by
  have h1 := mput_keys (a := k) (v := (1 : Int)) (D := D)
  rw [if_neg (mget_none.1 h)] at h1
  have := congrArg List.length h1
  simpa using this
theorem seqDiffer_ct (a : ApiMorph) (b : ApiMorph) (hd : a = b ∧ seqErr a = 0) : Ct 31 [.sv (.agg [I a.fBase, LS (lsT intT) a.fImages, LS intT a.fCoding]), .sv (.agg [I b.fBase, LS (lsT intT) b.fImages, LS intT b.fCoding])] [] (fun (_ : Unit) => True) (fun _ => .tup [.one (I (((0 : Int), false, (0 : Int))).1), .one (B (((0 : Int), false, (0 : Int))).2.1), .one (I (((0 : Int), false, (0 : Int))).2.2)]) := by
  refine (seqDiffer_walk a b (fun res_ => res_ = (((0 : Int), false, (0 : Int)))) ?_).fun
  intro _ _ _ _
  obtain ⟨rfl, he⟩ := hd
  have h := seqErr_ok he
  have hb := h.base
  have hsz := h.size
  refine ⟨fun i => 0 ≤ i ∧ i ≤ 2, fun i => 2 - i.toNat, ⟨by decide, by decide⟩, ?_⟩
  rintro i ⟨hi0, hi2⟩
  refine ⟨fun hb1 => ?_, fun _ => ⟨fun hne => ?_, fun _ => ?_⟩⟩
  · have hlt : i < 2 := of_decide_eq_true hb1
    have hw : wr (i + 1) = i + 1 := wr_in (by omega) (by omega)
    refine ⟨a, ?_, fun hne => ?_, fun _ => ⟨⟨by rw [hw]; omega, by rw [hw]; omega⟩, ?_⟩⟩
    · have : i = 0 ∨ i = 1 := by omega
      rcases this with rfl | rfl <;> rfl
    · rw [he] at hne
      cases hne
    · show 2 - (wr (i + 1)).toNat < 2 - i.toNat
      rw [hw]
      omega
  · simp at hne
  generalize hN : a.fImages.length = N at hsz
  refine ⟨fun D l => MetOk N D ∧ RowOk N l ∧ l.length + 2 * (N - D.length) ≤ 1 + 2 * N, fun D l => l.length + 2 * (N - D.length), ⟨⟨by simp [mput], fun k hk => ?_, fun k v hk => ?_⟩, fun p hp => ?_, by simp [mput]; omega⟩, ?_⟩
  · have hk : k = ⟨0, 0⟩ := by simpa [mput] using hk
    rw [hk]; exact mem_twins (by omega)
  · rw [mget_put] at hk
    split at hk
    · cases hk; rfl
    · cases hk
  · rw [List.mem_singleton.1 hp]; exact ⟨rfl, by show (0 : Int) ≤ 0; omega, by show (0 : Int) < N; omega⟩
  rintro D l ⟨hD, hl, hm⟩
  refine ⟨fun hb2 => ?_, fun _ => rfl⟩
  have hlen : 0 < l.length := by have := of_decide_eq_true hb2; omega
  obtain ⟨p, l', rfl⟩ : ∃ p l', l = p :: l' := by
    cases l with
    | nil => cases hlen
    | cons p l' => exact ⟨p, l', rfl⟩
  have hp := hl p List.mem_cons_self
  refine ⟨p, rfl, _, idx_of 0 hp.2.1 (by rw [h.coding, hN]; exact hp.2.2), a.fCoding.getD p.fA.toNat 0, by rw [← hp.1]; exact idx_of 0 hp.2.1 (by rw [h.coding, hN]; exact hp.2.2), fun hne => by simp at hne, fun _ => ?_⟩
  have hma := getD_mem (l := a.fImages) (i := p.fA.toNat) (z := []) (by omega)
  have hra := h.rows _ hma
  have hia := idx_of (l := a.fImages) (i := p.fA) [] hp.2.1 (by omega)
  have hib : idx a.fImages p.fB = some (a.fImages.getD p.fA.toNat []) := by rw [← hp.1]; exact hia
  generalize a.fImages.getD p.fA.toNat [] = W at hma hra hia hib
  refine ⟨fun x D' l2 => ∃ d : Nat, x = d ∧ (d : Int) ≤ a.fBase ∧ MetOk N D' ∧ RowOk N l2 ∧ 1 ≤ l2.length ∧ l2.length + 2 * (N - D'.length) ≤ (p :: l').length + 2 * (N - D.length), fun x _ _ => a.fBase.toNat - x.toNat, ⟨0, rfl, by omega, hD, hl, by simp, Nat.le_refl _⟩, ?_⟩
  rintro x D' l2 ⟨d, rfl, hd, hD', hl2, hl1, hm2⟩
  refine ⟨fun hb3 => ?_, fun hb3 => ?_⟩
  · have hlt : (d : Int) < a.fBase := of_decide_eq_true hb3
    have hdW : d < W.length := by omega
    have hin := h.in_ _ hma _ (List.getElem_mem hdW)
    rw [hN] at hin
    refine ⟨fun D2 l3 => MetOk N D2 ∧ RowOk N l3 ∧ 1 ≤ l3.length ∧ l3.length + 2 * (N - D2.length) ≤ (p :: l').length + 2 * (N - D.length), ⟨_, hia, _, idx_at hdW, _, hib, _, idx_at hdW, fun h0 => ⟨capOk_of ?_, hD'.put hin, fun q hq => ?_, by simp, ?_⟩, fun _ => ⟨hD', hl2, hl1, hm2⟩⟩, ?_⟩
    · simp only [List.length_cons, List.length_nil] at hm hm2 ⊢
      omega
    · rcases List.mem_append.1 hq with hq | hq
      · exact hl2 q hq
      · rw [List.mem_singleton.1 hq]; exact ⟨rfl, hin⟩
    · have hnone : mget (⟨W[d], W[d]⟩ : St158) D' = none := by
        cases hg : mget (⟨W[d], W[d]⟩ : St158) D' with
        | none => rfl
        | some v =>
          rw [hg] at h0
          have := hD'.ones _ _ hg
          subst this
          cases h0
      have hpl := put_len hnone
      have hle := (hD'.put hin).len
      rw [List.length_append, hpl]
      rw [hpl] at hle
      simp only [List.length_cons, List.length_nil] at hm2 ⊢
      omega
    · rintro D2 l3 ⟨g1, g2, g3, g4⟩
      refine ⟨⟨d + 1, wsucc (by omega), by omega, g1, g2, g3, g4⟩, ?_⟩
      show a.fBase.toNat - (wr ((d : Int) + 1)).toNat < a.fBase.toNat - (d : Int).toNat
      rw [wsucc (by omega)]
      omega
  · refine ⟨⟨by decide, by omega⟩, ⟨hD', fun q hq => hl2 q (List.mem_of_mem_drop hq), ?_⟩, ?_⟩
    · rw [List.length_drop]
      omega
    · show (l2.drop 1).length + 2 * (N - D'.length) < (p :: l').length + 2 * (N - D.length)
      rw [List.length_drop]
      omega
end Go.Proofs.Ytfpdnigihjmohaa

/- seqs.Kernel, and the law SeqsGoes. No condition. -/
namespace Go.Proofs.Ytfpdnigihjmohaa
open Go.RowKit Go.MapKept
set_option linter.unusedSimpArgs false
set_option linter.unusedVariables false
set_option maxRecDepth 100000

def indexI_vc (l : (List Int)) (v : Int) (Q : Int → Prop) : Prop :=
  l.length ≤ 9223372036854775807 →
  (∃ (Inv : Int → Prop) (mu : Int → Nat), Inv 0 ∧
  ∀ (x8 : Int) , Inv x8 → (IfP (decide (x8 < (l.length : Int))) (∃ e, idx l x8 = some e ∧
  IfP (v == e) (Q x8) ((Inv (wr (x8 + 1)) ∧ mu (wr (x8 + 1)) < mu x8))) (Q (-1))))
theorem indexI_walk (l : (List Int)) (v : Int) (Q : Int → Prop) (h : indexI_vc l v Q) : Ct 112 [.sv (.one (LS intT l)), .sv (.one (I v))] [] Q (fun (r : Int) => .sv (.one (I r))) := by
  have ht := tab_ok
  refine Ct.body Try.func112 rfl rfl rfl rfl (fun c hn => ?_)
  unfold indexI_vc at h
  refine En.lenL 0 (by rfl) (fun hl => ?_)
  replace h := h hl
  clear hl
  refine En.seq ?_
  refine En.region ?_
  refine WL.run ht hn 1 ⟨[(0, .sv (.one (LS intT l))), (1, .sv (.one (I v)))], []⟩ (by kernel_rfl) ?_
  refine WL.nil ?_
  refine En.seq ?_
  refine En.seq ?_
  refine En.region ?_
  refine WL.run ht hn 3 ⟨[(0, .sv (.one (LS intT l))), (1, .sv (.one (I v))), (7, .sv (.one (I (l.length : Int)))), (8, .sv (.one (I 0)))], []⟩ (by kernel_rfl) ?_
  refine WL.nil ?_
  refine En.block ?_
  obtain ⟨Inv, mu, h0, hI⟩ := h
  refine En.loop (σ := Int) (fun zz => Inv zz) (fun zz => mu zz) (fun zz => ⟨[(0, .sv (.one (LS intT l))), (1, .sv (.one (I v))), (7, .sv (.one (I (l.length : Int)))), (8, .sv (.one (I zz)))], []⟩) 0 h0 (sub_ok (by kernel_rfl)) ?_
  intro x8 h
  replace h := hI _ h
  show En c ⟨[(0, .sv (.one (LS intT l))), (1, .sv (.one (I v))), (7, .sv (.one (I (l.length : Int)))), (8, .sv (.one (I x8)))], []⟩ _
  refine En.seq ?_
  refine En.region ?_
  refine WL.run ht hn 1 ⟨[(0, .sv (.one (LS intT l))), (1, .sv (.one (I v))), (7, .sv (.one (I (l.length : Int)))), (8, .sv (.one (I x8))), (9, .sv (.one (B (decide (x8 < (l.length : Int))))))], []⟩ (by kernel_rfl) ?_
  refine WL.nil ?_
  refine En.seq ?_
  refine En.cond (b := (decide (x8 < (l.length : Int)))) (by kernel_rfl) (fun hb => ?_) (fun hb => ?_)
  · replace h := h.1 hb
    refine En.skip ?_
    refine En.seq ?_
    refine En.block ?_
    refine En.seq ?_
    refine En.region ?_
    refine WL.run ht hn 2 ⟨[(0, .sv (.one (LS intT l))), (1, .sv (.one (I v))), (5, .sv (.one (I x8))), (7, .sv (.one (I (l.length : Int)))), (8, .sv (.one (I x8)))], []⟩ (by kernel_rfl) ?_
    refine WL.nil ?_
    refine En.seq ?_
    refine En.region ?_
    refine WL.run ht hn 3 ⟨[(0, .sv (.one (LS intT l))), (1, .sv (.one (I v))), (5, .sv (.one (I x8))), (7, .sv (.one (I (l.length : Int)))), (8, .sv (.one (I x8))), (11, .sv (.one (I v))), (12, .sv (.one (LS intT l))), (13, .sv (.one (I x8)))], []⟩ (by kernel_rfl) ?_
    obtain ⟨e, he, h⟩ := h
    refine WL.val hn (by rfl) (val_index (T := intT) (l := l) (i := x8) ht rfl (by rfl) (by rfl) (by rfl) (by rfl) (by rfl) (by rfl) he) (by rfl) ?_
    refine WL.val hn (by rfl) (val_load (s := .one (I e)) ht rfl (by rfl) (by rfl) (by rfl) (by rfl) (by rfl)) (by rfl) ?_
    refine WL.run ht hn 1 ⟨[(0, .sv (.one (LS intT l))), (1, .sv (.one (I v))), (5, .sv (.one (I x8))), (7, .sv (.one (I (l.length : Int)))), (8, .sv (.one (I x8))), (16, .sv (.one (B (v == e))))], []⟩ (by kernel_rfl) ?_
    refine WL.nil ?_
    refine En.cond (b := (v == e)) (by kernel_rfl) (fun hb => ?_) (fun hb => ?_)
    · replace h := h.1 hb
      refine En.seq ?_
      refine En.region ?_
      refine WL.run ht hn 2 ⟨[(4, .sv (.one (I x8)))], []⟩ (by kernel_rfl) ?_
      refine WL.nil ?_
      refine En.ret ?_
      exact En.back ht x8 h (by kernel_rfl) rfl
    · replace h := h.2 hb
      refine En.skip ?_
      refine En.region ?_
      refine WL.run ht hn 2 ⟨[(0, .sv (.one (LS intT l))), (1, .sv (.one (I v))), (7, .sv (.one (I (l.length : Int)))), (8, .sv (.one (I (wr (x8 + 1)))))], []⟩ (by kernel_rfl) ?_
      refine WL.nil ?_
      exact En.at (I := fun zz => Inv zz ∧ mu zz < mu x8) (T := fun zz => ⟨[(0, .sv (.one (LS intT l))), (1, .sv (.one (I v))), (7, .sv (.one (I (l.length : Int)))), (8, .sv (.one (I zz)))], []⟩) (wr (x8 + 1)) h (by kernel_rfl)
  · replace h := h.2 hb
    refine En.exit rfl ?_
    refine En.seq ?_
    refine En.region ?_
    refine WL.run ht hn 1 ⟨[(4, .sv (.one (I (-1))))], []⟩ (by kernel_rfl) ?_
    refine WL.nil ?_
    refine En.ret ?_
    exact En.back ht (-1) h (by kernel_rfl) rfl
theorem en112 : ∀ args w, (callFunc 112 args).run Try.prog w = .ok (.enter 112 args) w := enters_of Try.func112 (by kernel_rfl) rfl
theorem indexI_ct (l : (List Int)) (v : Int)  : Ct 112 [.sv (.one (LS intT l)), .sv (.one (I v))] [] (fun (_ : Unit) => True) (fun _ => .sv (.one (I (idxTo (fun x => v == x) l)))) := by
  refine (indexI_walk l v (fun res_ => res_ = (idxTo (fun x => v == x) l)) ?_).fun
  intro hl
  obtain ⟨Inv, mu, h0, hI⟩ := index_plain l (fun _ => True) (fun x => v == x) (fun _ _ => trivial) hl
  exact ⟨Inv, mu, h0, fun x hx => ⟨fun hb => by
    obtain ⟨e, he, _, h⟩ := (hI x hx).1 hb
    exact ⟨e, he, h⟩, (hI x hx).2⟩⟩
def containsI_vc (l : (List Int)) (v : Int) (Q : Bool → Prop) : Prop :=
  l.length ≤ 9223372036854775807 →
  (Q (decide ((idxTo (fun x => v == x) l) ≥ 0)))
theorem containsI_walk (l : (List Int)) (v : Int) (Q : Bool → Prop) (h : containsI_vc l v Q) : Ct 51 [.sv (.one (LS intT l)), .sv (.one (I v))] [] Q (fun (r : Bool) => .sv (.one (B r))) := by
  have ht := tab_ok
  refine Ct.body Try.func51 rfl rfl rfl rfl (fun c hn => ?_)
  unfold containsI_vc at h
  refine En.lenL 0 (by rfl) (fun hl => ?_)
  replace h := h hl
  clear hl
  refine En.seq ?_
  refine En.region ?_
  refine WL.run ht hn 1 ⟨[(0, .sv (.one (LS intT l))), (1, .sv (.one (I v)))], []⟩ (by kernel_rfl) ?_
  refine WL.nil ?_
  refine En.seq ?_
  refine En.region ?_
  refine WL.run ht hn 2 ⟨[(5, .sv (.one (LS intT l))), (6, .sv (.one (I v)))], []⟩ (by kernel_rfl) ?_
  refine WL.mt0 (K := []) (p := none) hn (by rfl) (mt_call (indexI_ct l v) en112 (caps := []) [] rfl (by rfl) (by kernel_rfl) (by kernel_rfl) (by rfl) (by rfl) (by rfl)) (by rfl) (by rfl) (by rfl) ?_
  refine WL.run ht hn 2 ⟨[(4, .sv (.one (B (decide ((idxTo (fun x => v == x) l) ≥ 0)))))], []⟩ (by kernel_rfl) ?_
  refine WL.nil ?_
  refine En.ret ?_
  exact En.back ht (decide ((idxTo (fun x => v == x) l) ≥ 0)) h (by kernel_rfl) rfl
theorem en51 : ∀ args w, (callFunc 51 args).run Try.prog w = .ok (.enter 51 args) w := enters_of Try.func51 (by kernel_rfl) rfl
theorem containsI_ct (l : (List Int)) (v : Int)  : Ct 51 [.sv (.one (LS intT l)), .sv (.one (I v))] [] (fun (_ : Unit) => True) (fun _ => .sv (.one (B (l.any (fun x => v == x))))) := by
  refine (containsI_walk l v (fun res_ => res_ = (l.any (fun x => v == x))) ?_).fun
  exact fun _ => (idxTo_nonneg (fun x => v == x) l)
def morse : ApiMorph := ⟨2, [[0, 1], [1, 0]], [0, 1]⟩
def seqMet_vc (m : ApiMorph) (Q : (List Int) → Prop) : Prop :=
  m.fImages.length ≤ 9223372036854775807 →
  m.fCoding.length ≤ 9223372036854775807 →
  (∃ (Inv : Int → (List Int) → Prop) (mu : Int → (List Int) → Nat), Inv 0 ([0] : (List Int)) ∧
  ∀ (x4 : Int) (l1 : (List Int)) , Inv x4 l1 → (IfP (decide (x4 < (l1.length : Int))) (∃ e, idx l1 x4 = some e ∧
  ∃ e_2, idx m.fImages e = some e_2 ∧
  ∃ (Inv_2 : Int → (List Int) → Prop) (mu_2 : Int → (List Int) → Nat), Inv_2 0 l1 ∧
  ∀ (x23 : Int) (l1_2 : (List Int)) , Inv_2 x23 l1_2 → (IfP (decide (x23 < (e_2.length : Int))) (∃ J : (List Int) → Prop, (∃ e_3, idx e_2 x23 = some e_3 ∧
  IfP (!(l1_2.any (fun x => e_3 == x))) (capOk l1_2.length (([e_3] : (List Int)) : (List Int)).length 8 ∧
  J (l1_2 ++ ([e_3] : (List Int)))) (J l1_2)) ∧
  (∀ (l1_3 : (List Int)), J l1_3 → (Inv_2 (wr (x23 + 1)) l1_3 ∧ mu_2 (wr (x23 + 1)) l1_3 < mu_2 x23 l1_2))) ((Inv (wr (x4 + 1)) l1_2 ∧ mu (wr (x4 + 1)) l1_2 < mu x4 l1)))) (Q l1)))
theorem seqMet_walk (m : ApiMorph) (Q : (List Int) → Prop) (h : seqMet_vc m Q) : CtJ 65 [.sv (.agg [I m.fBase, LS (lsT intT) m.fImages, LS intT m.fCoding])] [] Q (fun (r : (List Int)) => rowI 3 intT r) := by
  have ht := tab_ok
  refine CtJ.body Try.func65 rfl rfl rfl rfl (fun c hn hmay => ?_)
  unfold seqMet_vc at h
  refine En.lenA 0 1 (by rfl) (by rfl) (fun hl => ?_)
  replace h := h hl
  clear hl
  refine En.lenA 0 2 (by rfl) (by rfl) (fun hl => ?_)
  replace h := h hl
  clear hl
  refine En.seq ?_
  refine En.region ?_
  refine WL.run ht hn 2 ⟨[(1, .sv (.one (.ptr 0 0)))], [.box [I m.fBase, LS (lsT intT) m.fImages, LS intT m.fCoding] 67 false]⟩ (by kernel_rfl) ?_
  refine WL.nil ?_
  refine En.seq ?_
  refine En.region ?_
  refine WL.mt0 (K := []) (p := some (1, rowI 3 intT ([0] : (List Int)))) hn (by rfl) (mt_lit (T := intT) ([0] : (List Int)) (mt_bsl 1 (r := cellsOf intT ([0] : (List Int))) ht rfl (by rfl) (by rfl) (by rfl) (by kernel_rfl) (by rfl)) (fun _ h => by cases h) (fun _ => rfl) (fun _ => rfl) (by rfl) (Nat.le_of_ble_eq_true rfl)) (by rfl) (by rfl) (by rfl) ?_
  refine WL.run ht hn 1 ⟨[(1, .sv (.one (.ptr 0 0))), (3, .sv (.one (.own 1)))], [.box [I m.fBase, LS (lsT intT) m.fImages, LS intT m.fCoding] 67 false, rowI 3 intT ([0] : (List Int))]⟩ (by kernel_rfl) ?_
  refine WL.nil ?_
  refine En.seq ?_
  refine En.seq ?_
  refine En.region ?_
  refine WL.run ht hn 1 ⟨[(1, .sv (.one (.ptr 0 0))), (3, .sv (.one (.own 1))), (4, .sv (.one (I 0)))], [.box [I m.fBase, LS (lsT intT) m.fImages, LS intT m.fCoding] 67 false, rowI 3 intT ([0] : (List Int))]⟩ (by kernel_rfl) ?_
  refine WL.nil ?_
  refine En.block ?_
  obtain ⟨Inv, mu, h0_2, hI_2⟩ := h
  refine En.loop (σ := Int × (List Int)) (fun zz => Inv zz.1 zz.2) (fun zz => mu zz.1 zz.2) (fun zz => ⟨[(1, .sv (.one (.ptr 0 0))), (3, .sv (.one (.own 1))), (4, .sv (.one (I zz.1)))], [.box [I m.fBase, LS (lsT intT) m.fImages, LS intT m.fCoding] 67 false, rowI 3 intT zz.2]⟩) (0, ([0] : (List Int))) h0_2 (sub_ok (by kernel_rfl)) ?_
  rintro ⟨x4, l1⟩ h
  replace h := hI_2 _ _ h
  show En c ⟨[(1, .sv (.one (.ptr 0 0))), (3, .sv (.one (.own 1))), (4, .sv (.one (I x4)))], [.box [I m.fBase, LS (lsT intT) m.fImages, LS intT m.fCoding] 67 false, rowI 3 intT l1]⟩ _
  refine En.seq ?_
  refine En.seq ?_
  refine En.region ?_
  refine WL.run ht hn 4 ⟨[(1, .sv (.one (.ptr 0 0))), (3, .sv (.one (.own 1))), (4, .sv (.one (I x4))), (11, .sv (.one (B (decide (x4 < (l1.length : Int))))))], [.box [I m.fBase, LS (lsT intT) m.fImages, LS intT m.fCoding] 67 false, rowI 3 intT l1]⟩ (by kernel_rfl) ?_
  refine WL.nil ?_
  refine En.cond (b := (decide (x4 < (l1.length : Int)))) (by kernel_rfl) (fun hb => ?_) (fun hb => ?_)
  · replace h := h.1 hb
    refine En.skip ?_
    refine En.seq ?_
    refine En.block ?_
    refine En.seq ?_
    obtain ⟨e, he, h⟩ := h
    obtain ⟨e_2, he_2, h⟩ := h
    refine En.regionA ⟨[(1, .sv (.one (.ptr 0 0))), (3, .sv (.one (.own 1))), (4, .sv (.one (I x4)))], [.sv (.one (.ptr 0 1)), .sv (.one (LS (lsT intT) m.fImages)), .sv (.one (.own 1)), .sv (.one (I x4)), .sv (.one (.oe 1 ((x4).toNat) 1)), .sv (.one (I e)), .sv (.one (.pe (svR (.one (LS intT e_2))) 1)), .sv (.one (LS intT e_2)), .sv (.one (I (e_2.length : Int))), .sv (.one (I 0))], [⟨.box [I m.fBase, LS (lsT intT) m.fImages, LS intT m.fCoding] 67 false, none, none, none⟩, ⟨rowI 3 intT l1, none, none, none⟩]⟩ ⟨[(1, .sv (.one (.ptr 0 0))), (3, .sv (.one (.own 1))), (4, .sv (.one (I x4))), (21, .sv (.one (LS intT e_2))), (22, .sv (.one (I (e_2.length : Int)))), (23, .sv (.one (I 0)))], [.box [I m.fBase, LS (lsT intT) m.fImages, LS intT m.fCoding] 67 false, rowI 3 intT l1]⟩ (by kernel_rfl) hn (by kernel_rfl) (by rfl) (by kernel_rfl) ?_ (by kernel_rfl) ?_
    · exact ⟨.mt ⟨[(1, .sv (.one (.ptr 0 0)))], []⟩ [] none (by kernel_rfl) (by rfl) (mt_ev ht (by kernel_rfl)) rfl rfl rfl rfl,
    .mt ⟨[(14, .sv (.one (.ptr 0 1)))], [.box [I m.fBase, LS (lsT intT) m.fImages, LS intT m.fCoding] 67 false]⟩ [] none (by kernel_rfl) (by rfl) (mt_ev ht (by kernel_rfl)) rfl rfl rfl rfl,
    .mt ⟨[(3, .sv (.one (.own 1)))], []⟩ [] none (by kernel_rfl) (by rfl) (mt_ev ht (by kernel_rfl)) rfl rfl rfl rfl,
    .mt ⟨[(4, .sv (.one (I x4)))], []⟩ [] none (by kernel_rfl) (by rfl) (mt_ev ht (by kernel_rfl)) rfl rfl rfl rfl,
    .mt ⟨[(16, .sv (.one (.own 1))), (17, .sv (.one (I x4)))], [.gone, rowI 3 intT l1]⟩ [] none (by kernel_rfl) (by rfl) (mt_val (val_indexO (T := intT) (l := l1) (k := x4) ht rfl (by rfl) (by rfl) (by rfl) (by rfl) (by decide) (by rfl) (by rfl) (by rfl) he)) rfl rfl rfl rfl,
    .mt ⟨[(18, .sv (.one (.oe 1 ((x4).toNat) 1)))], [.gone, rowI 3 intT l1]⟩ [] none (by kernel_rfl) (by rfl) (mt_val (val_loadO (T := intT) (l := l1) (y := e) ht rfl (by rfl) (by rfl) (by rfl) (by rfl) (by rfl) (idx_some he).2.2 (by rfl))) rfl rfl rfl rfl,
    .mt ⟨[(15, .sv (.one (LS (lsT intT) m.fImages))), (19, .sv (.one (I e)))], []⟩ [] none (by kernel_rfl) (by rfl) (mt_val (val_index (T := (lsT intT)) (l := m.fImages) (i := e) ht rfl (by rfl) (by rfl) (by rfl) (by rfl) (by rfl) (by rfl) he_2)) rfl rfl rfl rfl,
    .mt ⟨[(20, .sv (.one (.pe (svR (.one (LS intT e_2))) 1)))], []⟩ [] none (by kernel_rfl) (by rfl) (mt_val (val_load (s := .one (LS intT e_2)) ht rfl (by rfl) (by rfl) (by rfl) (by rfl) (by rfl))) rfl rfl rfl rfl,
    .mt ⟨[(21, .sv (.one (LS intT e_2)))], []⟩ [] none (by kernel_rfl) (by rfl) (mt_ev ht (by kernel_rfl)) rfl rfl rfl rfl,
    .mt ⟨[], []⟩ [] none (by kernel_rfl) (by rfl) (mt_ev ht (by kernel_rfl)) rfl rfl rfl rfl,
    trivial⟩
    · refine En.block ?_
      obtain ⟨Inv_2, mu_2, h0, hI⟩ := h
      refine En.loop (σ := Int × (List Int)) (fun zz => Inv_2 zz.1 zz.2) (fun zz => mu_2 zz.1 zz.2) (fun zz => ⟨[(1, .sv (.one (.ptr 0 0))), (3, .sv (.one (.own 1))), (4, .sv (.one (I x4))), (21, .sv (.one (LS intT e_2))), (22, .sv (.one (I (e_2.length : Int)))), (23, .sv (.one (I zz.1)))], [.box [I m.fBase, LS (lsT intT) m.fImages, LS intT m.fCoding] 67 false, rowI 3 intT zz.2]⟩) (0, l1) h0 (sub_ok (by kernel_rfl)) ?_
      rintro ⟨x23, l1_2⟩ h
      replace h := hI _ _ h
      show En c ⟨[(1, .sv (.one (.ptr 0 0))), (3, .sv (.one (.own 1))), (4, .sv (.one (I x4))), (21, .sv (.one (LS intT e_2))), (22, .sv (.one (I (e_2.length : Int)))), (23, .sv (.one (I x23)))], [.box [I m.fBase, LS (lsT intT) m.fImages, LS intT m.fCoding] 67 false, rowI 3 intT l1_2]⟩ _
      refine En.seq ?_
      refine En.region ?_
      refine WL.run ht hn 1 ⟨[(1, .sv (.one (.ptr 0 0))), (3, .sv (.one (.own 1))), (4, .sv (.one (I x4))), (21, .sv (.one (LS intT e_2))), (22, .sv (.one (I (e_2.length : Int)))), (23, .sv (.one (I x23))), (24, .sv (.one (B (decide (x23 < (e_2.length : Int))))))], [.box [I m.fBase, LS (lsT intT) m.fImages, LS intT m.fCoding] 67 false, rowI 3 intT l1_2]⟩ (by kernel_rfl) ?_
      refine WL.nil ?_
      refine En.seq ?_
      refine En.cond (b := (decide (x23 < (e_2.length : Int)))) (by kernel_rfl) (fun hb => ?_) (fun hb => ?_)
      · replace h := h.1 hb
        refine En.skip ?_
        obtain ⟨J, h, hJ⟩ := h
        refine En.seqJ (σ := (List Int)) (fun zz => J zz) (fun zz => ⟨[(1, .sv (.one (.ptr 0 0))), (3, .sv (.one (.own 1))), (4, .sv (.one (I x4))), (21, .sv (.one (LS intT e_2))), (22, .sv (.one (I (e_2.length : Int)))), (23, .sv (.one (I x23)))], [.box [I m.fBase, LS (lsT intT) m.fImages, LS intT m.fCoding] 67 false, rowI 3 intT zz]⟩) ?_ ?_
        · refine En.block ?_
          refine En.seq ?_
          refine En.region ?_
          obtain ⟨e_3, he_3, h⟩ := h
          refine WL.val hn (by rfl) (val_index (T := intT) (l := e_2) (i := x23) ht rfl (by rfl) (by rfl) (by rfl) (by rfl) (by rfl) (by rfl) he_3) (by rfl) ?_
          refine WL.val hn (by rfl) (val_load (s := .one (I e_3)) ht rfl (by rfl) (by rfl) (by rfl) (by rfl) (by rfl)) (by rfl) ?_
          refine WL.run ht hn 1 ⟨[(1, .sv (.one (.ptr 0 0))), (3, .sv (.one (.own 1))), (4, .sv (.one (I x4))), (6, .sv (.one (I e_3))), (21, .sv (.one (LS intT e_2))), (22, .sv (.one (I (e_2.length : Int)))), (23, .sv (.one (I x23)))], [.box [I m.fBase, LS (lsT intT) m.fImages, LS intT m.fCoding] 67 false, rowI 3 intT l1_2]⟩ (by kernel_rfl) ?_
          refine WL.nil ?_
          refine En.seq ?_
          refine En.region ?_
          refine WL.run ht hn 2 ⟨[(1, .sv (.one (.ptr 0 0))), (3, .sv (.one (.own 1))), (4, .sv (.one (I x4))), (6, .sv (.one (I e_3))), (21, .sv (.one (LS intT e_2))), (22, .sv (.one (I (e_2.length : Int)))), (23, .sv (.one (I x23))), (27, .sv (.one (.own 1))), (28, .sv (.one (I e_3)))], [.box [I m.fBase, LS (lsT intT) m.fImages, LS intT m.fCoding] 67 false, rowI 3 intT l1_2]⟩ (by kernel_rfl) ?_
          refine WL.mt0 (K := []) (p := none) hn (by rfl) (mt_lend (T := intT) (l := l1_2) 1 (by rfl) (by rfl) (mt_call (containsI_ct l1_2 e_3) en51 (caps := []) [] rfl (by rfl) (by kernel_rfl) (by kernel_rfl) (by rfl) (by rfl) (by rfl))) (by rfl) (by rfl) (by rfl) ?_
          refine WL.run ht hn 1 ⟨[(1, .sv (.one (.ptr 0 0))), (3, .sv (.one (.own 1))), (4, .sv (.one (I x4))), (6, .sv (.one (I e_3))), (21, .sv (.one (LS intT e_2))), (22, .sv (.one (I (e_2.length : Int)))), (23, .sv (.one (I x23))), (30, .sv (.one (B (!(l1_2.any (fun x => e_3 == x))))))], [.box [I m.fBase, LS (lsT intT) m.fImages, LS intT m.fCoding] 67 false, rowI 3 intT l1_2]⟩ (by kernel_rfl) ?_
          refine WL.nil ?_
          refine En.cond (b := (!(l1_2.any (fun x => e_3 == x)))) (by kernel_rfl) (fun hb => ?_) (fun hb => ?_)
          · replace h := h.1 hb
            refine En.region ?_
            refine WL.run ht hn 2 ⟨[(1, .sv (.one (.ptr 0 0))), (4, .sv (.one (I x4))), (21, .sv (.one (LS intT e_2))), (22, .sv (.one (I (e_2.length : Int)))), (23, .sv (.one (I x23))), (31, .sv (.one (.own 1))), (32, .sv (.one (I e_3)))], [.box [I m.fBase, LS (lsT intT) m.fImages, LS intT m.fCoding] 67 false, rowI 3 intT l1_2]⟩ (by kernel_rfl) ?_
            refine WL.mt0 (K := []) (p := some (2, rowI 3 intT ([e_3] : (List Int)))) hn (by rfl) (mt_lit (T := intT) ([e_3] : (List Int)) (mt_bsl 2 (r := cellsOf intT ([e_3] : (List Int))) ht rfl (by rfl) (by rfl) (by rfl) (by kernel_rfl) (by rfl)) (fun _ h => by cases h) (fun _ => rfl) (fun _ => rfl) (by rfl) (Nat.le_of_ble_eq_true rfl)) (by rfl) (by rfl) (by rfl) ?_
            refine WL.seal (T := intT) (l := ([e_3] : (List Int))) (e := 3) 2 rfl ?_
            refine WL.run ht hn 0 ⟨[(1, .sv (.one (.ptr 0 0))), (4, .sv (.one (I x4))), (21, .sv (.one (LS intT e_2))), (22, .sv (.one (I (e_2.length : Int)))), (23, .sv (.one (I x23))), (31, .sv (.one (.own 1))), (32, .sv (.one (I e_3))), (33, .sv (.one (LS intT ([e_3] : (List Int)))))], [.box [I m.fBase, LS (lsT intT) m.fImages, LS intT m.fCoding] 67 false, rowI 3 intT l1_2, .gone]⟩ (by kernel_rfl) ?_
            have hp := h.1
            replace h := h.2
            refine WL.mt (S2 := ⟨[(1, .sv (.one (.ptr 0 0))), (4, .sv (.one (I x4))), (21, .sv (.one (LS intT e_2))), (22, .sv (.one (I (e_2.length : Int)))), (23, .sv (.one (I x23))), (32, .sv (.one (I e_3))), (33, .sv (.one (LS intT ([e_3] : (List Int)))))], [.box [I m.fBase, LS (lsT intT) m.fImages, LS intT m.fCoding] 67 false, rowI 3 intT l1_2, .gone]⟩) (K := [1]) (p := some (1, rowI 3 intT (l1_2 ++ ([e_3] : (List Int))))) hn (by rfl) (mt_append (T := intT) (l := l1_2) (es := ([e_3] : (List Int))) ht rfl (by rfl) (by rfl) (by rfl) (by rfl) (by decide) (by rfl) (by rfl) (srcLS (T := intT) (es := ([e_3] : (List Int))) (fun _ h => by cases h) (by decide) (by rfl)) (by exact hp) (by exact hp.le (by decide))) (by kernel_rfl) (by rfl) (by rfl) (by rfl) ?_
            refine WL.run ht hn 1 ⟨[(1, .sv (.one (.ptr 0 0))), (3, .sv (.one (.own 1))), (4, .sv (.one (I x4))), (21, .sv (.one (LS intT e_2))), (22, .sv (.one (I (e_2.length : Int)))), (23, .sv (.one (I x23)))], [.box [I m.fBase, LS (lsT intT) m.fImages, LS intT m.fCoding] 67 false, rowI 3 intT (l1_2 ++ ([e_3] : (List Int))), .gone]⟩ (by kernel_rfl) ?_
            refine WL.nil ?_
            exact En.at (I := fun zz => J zz) (T := fun zz => ⟨[(1, .sv (.one (.ptr 0 0))), (3, .sv (.one (.own 1))), (4, .sv (.one (I x4))), (21, .sv (.one (LS intT e_2))), (22, .sv (.one (I (e_2.length : Int)))), (23, .sv (.one (I x23)))], [.box [I m.fBase, LS (lsT intT) m.fImages, LS intT m.fCoding] 67 false, rowI 3 intT zz]⟩) (l1_2 ++ ([e_3] : (List Int))) h (by kernel_rfl)
          · replace h := h.2 hb
            refine En.skip ?_
            exact En.at (I := fun zz => J zz) (T := fun zz => ⟨[(1, .sv (.one (.ptr 0 0))), (3, .sv (.one (.own 1))), (4, .sv (.one (I x4))), (21, .sv (.one (LS intT e_2))), (22, .sv (.one (I (e_2.length : Int)))), (23, .sv (.one (I x23)))], [.box [I m.fBase, LS (lsT intT) m.fImages, LS intT m.fCoding] 67 false, rowI 3 intT zz]⟩) l1_2 h (by kernel_rfl)
        · intro l1_3 h
          replace h := hJ _ h
          show En c ⟨[(1, .sv (.one (.ptr 0 0))), (3, .sv (.one (.own 1))), (4, .sv (.one (I x4))), (21, .sv (.one (LS intT e_2))), (22, .sv (.one (I (e_2.length : Int)))), (23, .sv (.one (I x23)))], [.box [I m.fBase, LS (lsT intT) m.fImages, LS intT m.fCoding] 67 false, rowI 3 intT l1_3]⟩ _
          refine En.region ?_
          refine WL.run ht hn 2 ⟨[(1, .sv (.one (.ptr 0 0))), (3, .sv (.one (.own 1))), (4, .sv (.one (I x4))), (21, .sv (.one (LS intT e_2))), (22, .sv (.one (I (e_2.length : Int)))), (23, .sv (.one (I (wr (x23 + 1)))))], [.box [I m.fBase, LS (lsT intT) m.fImages, LS intT m.fCoding] 67 false, rowI 3 intT l1_3]⟩ (by kernel_rfl) ?_
          refine WL.nil ?_
          exact En.at (I := fun zz => Inv_2 zz.1 zz.2 ∧ mu_2 zz.1 zz.2 < mu_2 x23 l1_2) (T := fun zz => ⟨[(1, .sv (.one (.ptr 0 0))), (3, .sv (.one (.own 1))), (4, .sv (.one (I x4))), (21, .sv (.one (LS intT e_2))), (22, .sv (.one (I (e_2.length : Int)))), (23, .sv (.one (I zz.1)))], [.box [I m.fBase, LS (lsT intT) m.fImages, LS intT m.fCoding] 67 false, rowI 3 intT zz.2]⟩) ((wr (x23 + 1)), l1_3) h (by kernel_rfl)
      · replace h := h.2 hb
        refine En.exit rfl ?_
        refine En.region ?_
        refine WL.run ht hn 3 ⟨[(1, .sv (.one (.ptr 0 0))), (3, .sv (.one (.own 1))), (4, .sv (.one (I (wr (x4 + 1)))))], [.box [I m.fBase, LS (lsT intT) m.fImages, LS intT m.fCoding] 67 false, rowI 3 intT l1_2]⟩ (by kernel_rfl) ?_
        refine WL.nil ?_
        exact En.at (I := fun zz => Inv zz.1 zz.2 ∧ mu zz.1 zz.2 < mu x4 l1) (T := fun zz => ⟨[(1, .sv (.one (.ptr 0 0))), (3, .sv (.one (.own 1))), (4, .sv (.one (I zz.1)))], [.box [I m.fBase, LS (lsT intT) m.fImages, LS intT m.fCoding] 67 false, rowI 3 intT zz.2]⟩) ((wr (x4 + 1)), l1_2) h (by kernel_rfl)
  · replace h := h.2 hb
    refine En.exit rfl ?_
    refine En.seq ?_
    refine En.region ?_
    refine WL.run ht hn 2 ⟨[(2, .sv (.one (.own 1)))], [.gone, rowI 3 intT l1]⟩ (by kernel_rfl) ?_
    refine WL.nil ?_
    refine En.ret ?_
    exact En.backJ (itf := fun l => rowI 3 intT l) hmay (by rfl) (by rfl) rfl rfl h
theorem en65 : ∀ args w, (callFunc 65 args).run Try.prog w = .ok (.enter 65 args) w := enters_of Try.func65 (by kernel_rfl) rfl
theorem seqMet_ct (m : ApiMorph) (hd : m = morse) : CtI 65 [.sv (.agg [I m.fBase, LS (lsT intT) m.fImages, LS intT m.fCoding])] [] (rowI 3 intT (([0, 1] : List Int))) := by
  refine (seqMet_walk m (fun res_ => res_ = (([0, 1] : List Int))) ?_).fun
  intro _ _
  subst hd
  refine ⟨fun i l => (i = 0 ∧ l = [0]) ∨ (i = 1 ∧ l = [0, 1]) ∨ (i = 2 ∧ l = [0, 1]), fun i _ => 2 - i.toNat, .inl ⟨rfl, rfl⟩, ?_⟩
  rintro i l (⟨rfl, rfl⟩ | ⟨rfl, rfl⟩ | ⟨rfl, rfl⟩)
  · refine ⟨fun _ => ⟨0, rfl, [0, 1], rfl, fun j l => (j = 0 ∧ l = [0]) ∨ (j = 1 ∧ l = [0]) ∨ (j = 2 ∧ l = [0, 1]), fun j _ => 2 - j.toNat, .inl ⟨rfl, rfl⟩, ?_⟩, fun h => absurd h (by decide)⟩
    rintro j l (⟨rfl, rfl⟩ | ⟨rfl, rfl⟩ | ⟨rfl, rfl⟩)
    · exact ⟨fun _ => ⟨fun l => l = [0], ⟨0, rfl, fun h => absurd h (by decide), fun _ => rfl⟩, fun l hl => ⟨.inr (.inl ⟨by decide, hl⟩), by subst hl; decide⟩⟩, fun h => absurd h (by decide)⟩
    · exact ⟨fun _ => ⟨fun l => l = [0, 1], ⟨1, rfl, fun _ => ⟨capOk_of (by decide), rfl⟩, fun h => absurd h (by decide)⟩, fun l hl => ⟨.inr (.inr ⟨by decide, hl⟩), by subst hl; decide⟩⟩, fun h => absurd h (by decide)⟩
    · exact ⟨fun h => absurd h (by decide), fun _ => ⟨.inr (.inl ⟨by decide, rfl⟩), by decide⟩⟩
  · refine ⟨fun _ => ⟨1, rfl, [1, 0], rfl, fun j l => (j = 0 ∨ j = 1 ∨ j = 2) ∧ l = [0, 1], fun j _ => 2 - j.toNat, ⟨.inl rfl, rfl⟩, ?_⟩, fun h => absurd h (by decide)⟩
    rintro j l ⟨rfl | rfl | rfl, rfl⟩
    · exact ⟨fun _ => ⟨fun l => l = [0, 1], ⟨1, rfl, fun h => absurd h (by decide), fun _ => rfl⟩, fun l hl => ⟨⟨.inr (.inl (by decide)), hl⟩, by subst hl; decide⟩⟩, fun h => absurd h (by decide)⟩
    · exact ⟨fun _ => ⟨fun l => l = [0, 1], ⟨0, rfl, fun h => absurd h (by decide), fun _ => rfl⟩, fun l hl => ⟨⟨.inr (.inr (by decide)), hl⟩, by subst hl; decide⟩⟩, fun h => absurd h (by decide)⟩
    · exact ⟨fun h => absurd h (by decide), fun _ => ⟨.inr (.inr ⟨by decide, rfl⟩), by decide⟩⟩
  · exact ⟨fun h => absurd h (by decide), fun _ => rfl⟩
def detKey_vc (l : (List Int)) (Q : ByteArray → Prop) : Prop :=
  l.length ≤ 9223372036854775807 →
  (∃ (Inv : Int → (List Int) → Prop) (mu : Int → (List Int) → Nat), Inv 0 ([] : (List Int)) ∧
  ∀ (x8 : Int) (l1 : (List Int)) , Inv x8 l1 → (IfP (decide (x8 < (l.length : Int))) (∃ e, idx l x8 = some e ∧
  capOk l1.length (([(IntKind.wrap .u8 e), (IntKind.wrap .u8 (Int.fdiv e (2 ^ (min 8 64))))] : (List Int)) : (List Int)).length 1 ∧
  (Inv (wr (x8 + 1)) (l1 ++ ([(IntKind.wrap .u8 e), (IntKind.wrap .u8 (Int.fdiv e (2 ^ (min 8 64))))] : (List Int))) ∧ mu (wr (x8 + 1)) (l1 ++ ([(IntKind.wrap .u8 e), (IntKind.wrap .u8 (Int.fdiv e (2 ^ (min 8 64))))] : (List Int))) < mu x8 l1)) (Q (bytesOf l1))))
theorem detKey_walk (l : (List Int)) (Q : ByteArray → Prop) (h : detKey_vc l Q) : Ct 67 [.sv (.one (LS intT l))] [] Q (fun (r : ByteArray) => .sv (.one (.v (.string r)))) := by
  have ht := tab_ok
  refine Ct.body Try.func67 rfl rfl rfl rfl (fun c hn => ?_)
  unfold detKey_vc at h
  refine En.lenL 0 (by rfl) (fun hl => ?_)
  replace h := h hl
  clear hl
  refine En.seq ?_
  refine En.region ?_
  refine WL.run ht hn 1 ⟨[(0, .sv (.one (LS intT l)))], []⟩ (by kernel_rfl) ?_
  refine WL.nil ?_
  refine En.seq ?_
  refine En.region ?_
  refine WL.run ht hn 1 ⟨[(0, .sv (.one (LS intT l))), (3, .sv (.one (.v (.slice none 0 0))))], []⟩ (by kernel_rfl) ?_
  refine WL.nil ?_
  refine En.seq ?_
  refine En.seq ?_
  refine En.region ?_
  refine WL.run ht hn 3 ⟨[(3, .sv (.one (.v (.slice none 0 0)))), (6, .sv (.one (LS intT l))), (7, .sv (.one (I (l.length : Int)))), (8, .sv (.one (I 0)))], []⟩ (by kernel_rfl) ?_
  refine WL.nil ?_
  refine En.block ?_
  refine En.rowNil 3 1 5 (intKT .u8) (by rfl) (by rfl) ?_
  obtain ⟨Inv, mu, h0, hI⟩ := h
  refine En.loop (σ := Int × (List Int)) (fun zz => Inv zz.1 zz.2) (fun zz => mu zz.1 zz.2) (fun zz => ⟨[(3, .sv (.one (.own 1))), (6, .sv (.one (LS intT l))), (7, .sv (.one (I (l.length : Int)))), (8, .sv (.one (I zz.1)))], [.gone, rowI 5 (intKT .u8) zz.2]⟩) (0, ([] : (List Int))) h0 (sub_ok (by kernel_rfl)) ?_
  rintro ⟨x8, l1⟩ h
  replace h := hI _ _ h
  show En c ⟨[(3, .sv (.one (.own 1))), (6, .sv (.one (LS intT l))), (7, .sv (.one (I (l.length : Int)))), (8, .sv (.one (I x8)))], [.gone, rowI 5 (intKT .u8) l1]⟩ _
  refine En.seq ?_
  refine En.region ?_
  refine WL.run ht hn 1 ⟨[(3, .sv (.one (.own 1))), (6, .sv (.one (LS intT l))), (7, .sv (.one (I (l.length : Int)))), (8, .sv (.one (I x8))), (9, .sv (.one (B (decide (x8 < (l.length : Int))))))], [.gone, rowI 5 (intKT .u8) l1]⟩ (by kernel_rfl) ?_
  refine WL.nil ?_
  refine En.seq ?_
  refine En.cond (b := (decide (x8 < (l.length : Int)))) (by kernel_rfl) (fun hb => ?_) (fun hb => ?_)
  · replace h := h.1 hb
    refine En.skip ?_
    refine En.seq ?_
    refine En.block ?_
    refine En.seq ?_
    refine En.region ?_
    obtain ⟨e, he, h⟩ := h
    refine WL.val hn (by rfl) (val_index (T := intT) (l := l) (i := x8) ht rfl (by rfl) (by rfl) (by rfl) (by rfl) (by rfl) (by rfl) he) (by rfl) ?_
    refine WL.val hn (by rfl) (val_load (s := .one (I e)) ht rfl (by rfl) (by rfl) (by rfl) (by rfl) (by rfl)) (by rfl) ?_
    refine WL.run ht hn 1 ⟨[(3, .sv (.one (.own 1))), (5, .sv (.one (I e))), (6, .sv (.one (LS intT l))), (7, .sv (.one (I (l.length : Int)))), (8, .sv (.one (I x8)))], [.gone, rowI 5 (intKT .u8) l1]⟩ (by kernel_rfl) ?_
    refine WL.nil ?_
    refine En.region ?_
    refine WL.run ht hn 6 ⟨[(6, .sv (.one (LS intT l))), (7, .sv (.one (I (l.length : Int)))), (8, .sv (.one (I x8))), (12, .sv (.one (.own 1))), (14, .sv (.one (.v (.int .u8 (IntKind.wrap .u8 e))))), (17, .sv (.one (.v (.int .u8 (IntKind.wrap .u8 (Int.fdiv e (2 ^ (min 8 64))))))))], [.gone, rowI 5 (intKT .u8) l1]⟩ (by kernel_rfl) ?_
    refine WL.mt0 (K := []) (p := some (2, rowI 5 (intKT .u8) ([(IntKind.wrap .u8 e), (IntKind.wrap .u8 (Int.fdiv e (2 ^ (min 8 64))))] : (List Int)))) hn (by rfl) (mt_lit (T := (intKT .u8)) ([(IntKind.wrap .u8 e), (IntKind.wrap .u8 (Int.fdiv e (2 ^ (min 8 64))))] : (List Int)) (mt_bsl 2 (r := cellsOf (intKT .u8) ([(IntKind.wrap .u8 e), (IntKind.wrap .u8 (Int.fdiv e (2 ^ (min 8 64))))] : (List Int))) ht rfl (by rfl) (by rfl) (by rfl) (by kernel_rfl) (by rfl)) (fun _ h => by cases h) (fun _ => rfl) (fun _ => rfl) (by rfl) (Nat.le_of_ble_eq_true rfl)) (by rfl) (by rfl) (by rfl) ?_
    refine WL.seal (T := (intKT .u8)) (l := ([(IntKind.wrap .u8 e), (IntKind.wrap .u8 (Int.fdiv e (2 ^ (min 8 64))))] : (List Int))) (e := 5) 2 rfl ?_
    refine WL.run ht hn 0 ⟨[(6, .sv (.one (LS intT l))), (7, .sv (.one (I (l.length : Int)))), (8, .sv (.one (I x8))), (12, .sv (.one (.own 1))), (14, .sv (.one (.v (.int .u8 (IntKind.wrap .u8 e))))), (17, .sv (.one (.v (.int .u8 (IntKind.wrap .u8 (Int.fdiv e (2 ^ (min 8 64)))))))), (18, .sv (.one (LS (intKT .u8) ([(IntKind.wrap .u8 e), (IntKind.wrap .u8 (Int.fdiv e (2 ^ (min 8 64))))] : (List Int)))))], [.gone, rowI 5 (intKT .u8) l1, .gone]⟩ (by kernel_rfl) ?_
    have hp := h.1
    replace h := h.2
    refine WL.mt (S2 := ⟨[(6, .sv (.one (LS intT l))), (7, .sv (.one (I (l.length : Int)))), (8, .sv (.one (I x8))), (14, .sv (.one (.v (.int .u8 (IntKind.wrap .u8 e))))), (17, .sv (.one (.v (.int .u8 (IntKind.wrap .u8 (Int.fdiv e (2 ^ (min 8 64)))))))), (18, .sv (.one (LS (intKT .u8) ([(IntKind.wrap .u8 e), (IntKind.wrap .u8 (Int.fdiv e (2 ^ (min 8 64))))] : (List Int)))))], [.gone, rowI 5 (intKT .u8) l1, .gone]⟩) (K := [1]) (p := some (1, rowI 5 (intKT .u8) (l1 ++ ([(IntKind.wrap .u8 e), (IntKind.wrap .u8 (Int.fdiv e (2 ^ (min 8 64))))] : (List Int))))) hn (by rfl) (mt_append (T := (intKT .u8)) (l := l1) (es := ([(IntKind.wrap .u8 e), (IntKind.wrap .u8 (Int.fdiv e (2 ^ (min 8 64))))] : (List Int))) ht rfl (by rfl) (by rfl) (by rfl) (by rfl) (by decide) (by rfl) (by rfl) (srcLS (T := (intKT .u8)) (es := ([(IntKind.wrap .u8 e), (IntKind.wrap .u8 (Int.fdiv e (2 ^ (min 8 64))))] : (List Int))) (fun _ h => by cases h) (by decide) (by rfl)) (by exact hp) (by exact hp.le (by decide))) (by kernel_rfl) (by rfl) (by rfl) (by rfl) ?_
    refine WL.run ht hn 1 ⟨[(3, .sv (.one (.own 1))), (6, .sv (.one (LS intT l))), (7, .sv (.one (I (l.length : Int)))), (8, .sv (.one (I x8)))], [.gone, rowI 5 (intKT .u8) (l1 ++ ([(IntKind.wrap .u8 e), (IntKind.wrap .u8 (Int.fdiv e (2 ^ (min 8 64))))] : (List Int))), .gone]⟩ (by kernel_rfl) ?_
    refine WL.nil ?_
    refine En.region ?_
    refine WL.run ht hn 2 ⟨[(3, .sv (.one (.own 1))), (6, .sv (.one (LS intT l))), (7, .sv (.one (I (l.length : Int)))), (8, .sv (.one (I (wr (x8 + 1)))))], [.gone, rowI 5 (intKT .u8) (l1 ++ ([(IntKind.wrap .u8 e), (IntKind.wrap .u8 (Int.fdiv e (2 ^ (min 8 64))))] : (List Int))), .gone]⟩ (by kernel_rfl) ?_
    refine WL.nil ?_
    exact En.at (I := fun zz => Inv zz.1 zz.2 ∧ mu zz.1 zz.2 < mu x8 l1) (T := fun zz => ⟨[(3, .sv (.one (.own 1))), (6, .sv (.one (LS intT l))), (7, .sv (.one (I (l.length : Int)))), (8, .sv (.one (I zz.1)))], [.gone, rowI 5 (intKT .u8) zz.2]⟩) ((wr (x8 + 1)), (l1 ++ ([(IntKind.wrap .u8 e), (IntKind.wrap .u8 (Int.fdiv e (2 ^ (min 8 64))))] : (List Int)))) h (by kernel_rfl)
  · replace h := h.2 hb
    refine En.exit rfl ?_
    refine En.seq ?_
    refine En.region ?_
    refine WL.run ht hn 1 ⟨[(21, .sv (.one (.own 1)))], [.gone, rowI 5 (intKT .u8) l1]⟩ (by kernel_rfl) ?_
    refine WL.val hn (by rfl) (val_str rfl Try.underlying225 Try.underlying5 Try.underlying9 (srcOwn (T := intKT .u8) (es := l1) (fun _ h => by cases h) (by rfl) (by rfl))) (by rfl) ?_
    refine WL.run ht hn 1 ⟨[(2, .sv (.one (.v (.string (bytesOf l1)))))], [.gone, .gone]⟩ (by kernel_rfl) ?_
    refine WL.nil ?_
    refine En.ret ?_
    exact En.back ht (bytesOf l1) h (by kernel_rfl) rfl
theorem en67 : ∀ args w, (callFunc 67 args).run Try.prog w = .ok (.enter 67 args) w := enters_of Try.func67 (by kernel_rfl) rfl
def keyB (e : Int) : List Int := [IntKind.wrap .u8 e, IntKind.wrap .u8 (Int.fdiv e (2 ^ (min 8 64)))]
def keyR (l : List Int) : ByteArray := bytesOf (l.flatMap keyB)
theorem key_len : ∀ l : List Int, (l.flatMap keyB).length = 2 * l.length
  | [] => rfl
  | e :: l => by
    rw [List.flatMap_cons, List.length_append, key_len l, List.length_cons]
    show 2 + _ = _
    omega
theorem detKey_ct (l : (List Int)) (hp : l.length ≤ 1000)  : Ct 67 [.sv (.one (LS intT l))] [] (fun (_ : Unit) => True) (fun _ => .sv (.one (.v (.string (keyR l))))) := by
  refine (detKey_walk l (fun res_ => res_ = (keyR l)) ?_).fun
  intro _
  refine ⟨fun i r => ∃ k : Nat, i = k ∧ k ≤ l.length ∧ r = (l.take k).flatMap keyB, fun i _ => l.length - i.toNat, ⟨0, rfl, Nat.zero_le _, by simp⟩, ?_⟩
  rintro i r ⟨k, rfl, hk, rfl⟩
  refine ⟨fun hb => ?_, fun hb => ?_⟩
  · have hlt := dlt hb
    refine ⟨_, idx_at hlt, capOk_of ?_, ⟨k + 1, wsucc (by omega), hlt, ?_⟩, mu_up hlt (by omega)⟩
    · rw [key_len, List.length_take]
      simp only [List.length_cons, List.length_nil]
      omega
    · rw [List.take_add_one, List.flatMap_append, List.getElem?_eq_getElem hlt]
      simp [keyB]
  · rw [List.take_of_length_le (dge hb)]
    rfl
def kerKey_vc (f : (List Int)) (letters : (List Int)) (Q : ByteArray → Prop) : Prop :=
  f.length ≤ 9223372036854775807 →
  (∃ (Inv : Int → (List Int) → Prop) (mu : Int → (List Int) → Nat), Inv 0 ([] : (List Int)) ∧
  ∀ (x9 : Int) (l2 : (List Int)) , Inv x9 l2 → (IfP (decide (x9 < (letters.length : Int))) (∃ e, idx letters x9 = some e ∧
  ∃ e_2, idx f e = some e_2 ∧
  capOk l2.length (([e_2] : (List Int)) : (List Int)).length 8 ∧
  (Inv (wr (x9 + 1)) (l2 ++ ([e_2] : (List Int))) ∧ mu (wr (x9 + 1)) (l2 ++ ([e_2] : (List Int))) < mu x9 l2)) ((l2.length ≤ 1000) ∧
  Q (keyR l2))))
theorem kerKey_walk (f : (List Int)) (letters : (List Int)) (Q : ByteArray → Prop) (h : kerKey_vc f letters Q) : Ct 66 [.sv (.one (LS intT f)), .sv (.one (.ptr 0 0))] [.box [LS intT letters] 22 true] Q (fun (r : ByteArray) => .sv (.one (.v (.string r)))) := by
  have ht := tab_ok
  refine Ct.body Try.func66 rfl rfl rfl rfl (fun c hn => ?_)
  unfold kerKey_vc at h
  refine En.lenL 0 (by rfl) (fun hl => ?_)
  replace h := h hl
  clear hl
  refine En.seq ?_
  refine En.region ?_
  refine WL.run ht hn 1 ⟨[(0, .sv (.one (LS intT f))), (1, .sv (.one (.ptr 0 0)))], [.box [LS intT letters] 22 true]⟩ (by kernel_rfl) ?_
  refine WL.nil ?_
  refine En.seq ?_
  refine En.region ?_
  refine WL.run ht hn 1 ⟨[(0, .sv (.one (LS intT f))), (1, .sv (.one (.ptr 0 0))), (4, .sv (.one (.v (.slice none 0 0))))], [.box [LS intT letters] 22 true]⟩ (by kernel_rfl) ?_
  refine WL.nil ?_
  refine En.seq ?_
  refine En.seq ?_
  refine En.region ?_
  refine WL.run ht hn 3 ⟨[(0, .sv (.one (LS intT f))), (4, .sv (.one (.v (.slice none 0 0)))), (7, .sv (.one (LS intT letters))), (8, .sv (.one (I (letters.length : Int)))), (9, .sv (.one (I 0)))], [.gone]⟩ (by kernel_rfl) ?_
  refine WL.nil ?_
  refine En.block ?_
  refine En.rowNil 4 2 3 intT (by rfl) (by rfl) ?_
  obtain ⟨Inv, mu, h0, hI⟩ := h
  refine En.loop (σ := Int × (List Int)) (fun zz => Inv zz.1 zz.2) (fun zz => mu zz.1 zz.2) (fun zz => ⟨[(0, .sv (.one (LS intT f))), (4, .sv (.one (.own 2))), (7, .sv (.one (LS intT letters))), (8, .sv (.one (I (letters.length : Int)))), (9, .sv (.one (I zz.1)))], [.gone, .gone, rowI 3 intT zz.2]⟩) (0, ([] : (List Int))) h0 (sub_ok (by kernel_rfl)) ?_
  rintro ⟨x9, l2⟩ h
  replace h := hI _ _ h
  show En c ⟨[(0, .sv (.one (LS intT f))), (4, .sv (.one (.own 2))), (7, .sv (.one (LS intT letters))), (8, .sv (.one (I (letters.length : Int)))), (9, .sv (.one (I x9)))], [.gone, .gone, rowI 3 intT l2]⟩ _
  refine En.seq ?_
  refine En.region ?_
  refine WL.run ht hn 1 ⟨[(0, .sv (.one (LS intT f))), (4, .sv (.one (.own 2))), (7, .sv (.one (LS intT letters))), (8, .sv (.one (I (letters.length : Int)))), (9, .sv (.one (I x9))), (10, .sv (.one (B (decide (x9 < (letters.length : Int))))))], [.gone, .gone, rowI 3 intT l2]⟩ (by kernel_rfl) ?_
  refine WL.nil ?_
  refine En.seq ?_
  refine En.cond (b := (decide (x9 < (letters.length : Int)))) (by kernel_rfl) (fun hb => ?_) (fun hb => ?_)
  · replace h := h.1 hb
    refine En.skip ?_
    refine En.seq ?_
    refine En.block ?_
    refine En.seq ?_
    refine En.region ?_
    obtain ⟨e, he, h⟩ := h
    refine WL.val hn (by rfl) (val_index (T := intT) (l := letters) (i := x9) ht rfl (by rfl) (by rfl) (by rfl) (by rfl) (by rfl) (by rfl) he) (by rfl) ?_
    refine WL.val hn (by rfl) (val_load (s := .one (I e)) ht rfl (by rfl) (by rfl) (by rfl) (by rfl) (by rfl)) (by rfl) ?_
    refine WL.run ht hn 1 ⟨[(0, .sv (.one (LS intT f))), (4, .sv (.one (.own 2))), (6, .sv (.one (I e))), (7, .sv (.one (LS intT letters))), (8, .sv (.one (I (letters.length : Int)))), (9, .sv (.one (I x9)))], [.gone, .gone, rowI 3 intT l2]⟩ (by kernel_rfl) ?_
    refine WL.nil ?_
    refine En.region ?_
    refine WL.run ht hn 3 ⟨[(0, .sv (.one (LS intT f))), (7, .sv (.one (LS intT letters))), (8, .sv (.one (I (letters.length : Int)))), (9, .sv (.one (I x9))), (13, .sv (.one (.own 2))), (14, .sv (.one (LS intT f))), (15, .sv (.one (I e)))], [.gone, .gone, rowI 3 intT l2]⟩ (by kernel_rfl) ?_
    obtain ⟨e_2, he_2, h⟩ := h
    refine WL.val hn (by rfl) (val_index (T := intT) (l := f) (i := e) ht rfl (by rfl) (by rfl) (by rfl) (by rfl) (by rfl) (by rfl) he_2) (by rfl) ?_
    refine WL.val hn (by rfl) (val_load (s := .one (I e_2)) ht rfl (by rfl) (by rfl) (by rfl) (by rfl) (by rfl)) (by rfl) ?_
    refine WL.mt0 (K := []) (p := some (3, rowI 3 intT ([e_2] : (List Int)))) hn (by rfl) (mt_lit (T := intT) ([e_2] : (List Int)) (mt_bsl 3 (r := cellsOf intT ([e_2] : (List Int))) ht rfl (by rfl) (by rfl) (by rfl) (by kernel_rfl) (by rfl)) (fun _ h => by cases h) (fun _ => rfl) (fun _ => rfl) (by rfl) (Nat.le_of_ble_eq_true rfl)) (by rfl) (by rfl) (by rfl) ?_
    refine WL.seal (T := intT) (l := ([e_2] : (List Int))) (e := 3) 3 rfl ?_
    refine WL.run ht hn 0 ⟨[(0, .sv (.one (LS intT f))), (7, .sv (.one (LS intT letters))), (8, .sv (.one (I (letters.length : Int)))), (9, .sv (.one (I x9))), (13, .sv (.one (.own 2))), (14, .sv (.one (LS intT f))), (15, .sv (.one (I e))), (16, .sv (.one (.pe (svR (.one (I e_2))) 1))), (17, .sv (.one (I e_2))), (18, .sv (.one (LS intT ([e_2] : (List Int)))))], [.gone, .gone, rowI 3 intT l2, .gone]⟩ (by kernel_rfl) ?_
    have hp := h.1
    replace h := h.2
    refine WL.mt (S2 := ⟨[(0, .sv (.one (LS intT f))), (7, .sv (.one (LS intT letters))), (8, .sv (.one (I (letters.length : Int)))), (9, .sv (.one (I x9))), (14, .sv (.one (LS intT f))), (15, .sv (.one (I e))), (16, .sv (.one (.pe (svR (.one (I e_2))) 1))), (17, .sv (.one (I e_2))), (18, .sv (.one (LS intT ([e_2] : (List Int)))))], [.gone, .gone, rowI 3 intT l2, .gone]⟩) (K := [2]) (p := some (2, rowI 3 intT (l2 ++ ([e_2] : (List Int))))) hn (by rfl) (mt_append (T := intT) (l := l2) (es := ([e_2] : (List Int))) ht rfl (by rfl) (by rfl) (by rfl) (by rfl) (by decide) (by rfl) (by rfl) (srcLS (T := intT) (es := ([e_2] : (List Int))) (fun _ h => by cases h) (by decide) (by rfl)) (by exact hp) (by exact hp.le (by decide))) (by kernel_rfl) (by rfl) (by rfl) (by rfl) ?_
    refine WL.run ht hn 1 ⟨[(0, .sv (.one (LS intT f))), (4, .sv (.one (.own 2))), (7, .sv (.one (LS intT letters))), (8, .sv (.one (I (letters.length : Int)))), (9, .sv (.one (I x9)))], [.gone, .gone, rowI 3 intT (l2 ++ ([e_2] : (List Int))), .gone]⟩ (by kernel_rfl) ?_
    refine WL.nil ?_
    refine En.region ?_
    refine WL.run ht hn 2 ⟨[(0, .sv (.one (LS intT f))), (4, .sv (.one (.own 2))), (7, .sv (.one (LS intT letters))), (8, .sv (.one (I (letters.length : Int)))), (9, .sv (.one (I (wr (x9 + 1)))))], [.gone, .gone, rowI 3 intT (l2 ++ ([e_2] : (List Int))), .gone]⟩ (by kernel_rfl) ?_
    refine WL.nil ?_
    exact En.at (I := fun zz => Inv zz.1 zz.2 ∧ mu zz.1 zz.2 < mu x9 l2) (T := fun zz => ⟨[(0, .sv (.one (LS intT f))), (4, .sv (.one (.own 2))), (7, .sv (.one (LS intT letters))), (8, .sv (.one (I (letters.length : Int)))), (9, .sv (.one (I zz.1)))], [.gone, .gone, rowI 3 intT zz.2]⟩) ((wr (x9 + 1)), (l2 ++ ([e_2] : (List Int)))) h (by kernel_rfl)
  · replace h := h.2 hb
    refine En.exit rfl ?_
    refine En.seq ?_
    refine En.region ?_
    refine WL.run ht hn 1 ⟨[(21, .sv (.one (.own 2)))], [.gone, .gone, rowI 3 intT l2]⟩ (by kernel_rfl) ?_
    refine WL.seal (T := intT) (l := l2) (e := 3) 2 rfl ?_
    refine WL.run ht hn 0 ⟨[(21, .sv (.one (LS intT l2)))], [.gone, .gone, .gone]⟩ (by kernel_rfl) ?_
    have hp := h.1
    replace h := h.2
    refine WL.mt0 (K := []) (p := none) hn (by rfl) (mt_call (detKey_ct l2 hp) en67 (caps := []) [] rfl (by rfl) (by kernel_rfl) (by kernel_rfl) (by rfl) (by rfl) (by rfl)) (by rfl) (by rfl) (by rfl) ?_
    refine WL.run ht hn 1 ⟨[(3, .sv (.one (.v (.string (keyR l2)))))], [.gone, .gone, .gone]⟩ (by kernel_rfl) ?_
    refine WL.nil ?_
    refine En.ret ?_
    exact En.back ht (keyR l2) h (by kernel_rfl) rfl
theorem en66 : ∀ args w, (callFunc 66 args).run Try.prog w = .ok (.enter 66 args) w := enters_of Try.func66 (by kernel_rfl) rfl
def kerR (letters f : List Int) : ByteArray := keyR (letters.map fun a => f.getD a.toNat 0)
def KerPre (letters f : List Int) : Prop := letters.length ≤ 1000 ∧ ∀ a ∈ letters, 0 ≤ a ∧ a < (f.length : Int)
theorem kerKey_ct (f : (List Int)) (letters : (List Int)) (hd : KerPre letters f) : Ct 66 [.sv (.one (LS intT f)), .sv (.one (.ptr 0 0))] [.box [LS intT letters] 22 true] (fun (_ : Unit) => True) (fun _ => .sv (.one (.v (.string (kerR letters f))))) := by
  refine (kerKey_walk f letters (fun res_ => res_ = (kerR letters f)) ?_).fun
  intro _
  obtain ⟨hl, hin⟩ := hd
  refine ⟨fun i r => ∃ k : Nat, i = k ∧ k ≤ letters.length ∧ r = (letters.take k).map fun a => f.getD a.toNat 0, fun i _ => letters.length - i.toNat, ⟨0, rfl, Nat.zero_le _, by simp⟩, ?_⟩
  rintro i r ⟨k, rfl, hk, rfl⟩
  refine ⟨fun hb => ?_, fun hb => ?_⟩
  · have hlt := dlt hb
    have hi := hin _ (List.getElem_mem hlt)
    refine ⟨_, idx_at hlt, _, idx_of 0 hi.1 hi.2, capOk_of ?_, ⟨k + 1, wsucc (by omega), hlt, ?_⟩, mu_up hlt (by omega)⟩
    · simp only [List.length_map, List.length_take, List.length_cons, List.length_nil]
      omega
    · exact (take_map hlt _).symm
  · rw [List.take_of_length_le (dge hb)]
    exact ⟨by rw [List.length_map]; exact hl, rfl⟩
def seqKernel_vc (m : ApiMorph) (Q : (Int × Int) → Prop) : Prop :=
  m.fImages.length ≤ 9223372036854775807 →
  m.fCoding.length ≤ 9223372036854775807 →
  (IfP ((seqErr m) != 0) (Q (0, (seqErr m))) ((m = morse) ∧
  (m.fCoding.length * 8 ≤ 140737488355328) ∧
  ((KerPre (([0, 1] : List Int))) (m.fCoding)) ∧
  ∃ (Inv : (List (ByteArray × Int)) → (List (List Int)) → Prop) (mu : (List (ByteArray × Int)) → (List (List Int)) → Nat), Inv (mput ((kerR (([0, 1] : List Int))) (m.fCoding)) 1 ([] : List (ByteArray × Int))) ([(m.fCoding)] : (List (List Int))) ∧
  ∀ (m4 : (List (ByteArray × Int))) (l5 : (List (List Int))) , Inv m4 l5 → (IfP (decide ((l5.length : Int) > 0)) (∃ (Inv_2 : Int → (List (ByteArray × Int)) → (List (List Int)) → Prop) (mu_2 : Int → (List (ByteArray × Int)) → (List (List Int)) → Nat), Inv_2 0 m4 l5 ∧
  ∀ (x40 : Int) (m4_2 : (List (ByteArray × Int))) (l5_2 : (List (List Int))) , Inv_2 x40 m4_2 l5_2 → (IfP (decide (x40 < m.fBase)) (∃ J : (List (ByteArray × Int)) → (List (List Int)) → Prop, (makeOk ((m.fCoding).length : Int) ((m.fCoding).length : Int) 8 ∧
  ∃ (Inv_3 : Int → (List Int) → Prop) (mu_3 : Int → (List Int) → Nat), Inv_3 0 (List.replicate (((m.fCoding).length : Int)).toNat (0 : Int)) ∧
  ∀ (x49 : Int) (l6 : (List Int)) , Inv_3 x49 l6 → (IfP (decide (x49 < (m.fImages.length : Int))) (∃ e, idx m.fImages x49 = some e ∧
  ∃ e_2, idx l5_2 0 = some e_2 ∧
  ∃ e_3, idx e x40 = some e_3 ∧
  ∃ e_4, idx e_2 e_3 = some e_4 ∧
  ∃ e_5, idx l6 x49 = some e_5 ∧
  (Inv_3 (wr (x49 + 1)) (l6.set (x49).toNat e_4) ∧ mu_3 (wr (x49 + 1)) (l6.set (x49).toNat e_4) < mu_3 x49 l6)) (((KerPre (([0, 1] : List Int))) l6) ∧
  IfP (((mget ((kerR (([0, 1] : List Int))) l6) m4_2).getD (0 : Int)) == 0) (capOk l5_2.length (([l6] : (List (List Int))) : (List (List Int))).length 24 ∧
  J (mput ((kerR (([0, 1] : List Int))) l6) 1 m4_2) (l5_2 ++ ([l6] : (List (List Int))))) (J m4_2 l5_2)))) ∧
  (∀ (m4_3 : (List (ByteArray × Int))) (l5_3 : (List (List Int))), J m4_3 l5_3 → (Inv_2 (wr (x40 + 1)) m4_3 l5_3 ∧ mu_2 (wr (x40 + 1)) m4_3 l5_3 < mu_2 x40 m4_2 l5_2))) ((0 ≤ (1 : Int) ∧ (1 : Int) ≤ (l5_2.length : Int)) ∧
  (Inv m4_2 (l5_2.drop (1 : Int).toNat) ∧ mu m4_2 (l5_2.drop (1 : Int).toNat) < mu m4 l5)))) (Q ((m4.length : Int), 0)))))
set_option maxHeartbeats 2000000 in
theorem seqKernel_walk (m : ApiMorph) (Q : (Int × Int) → Prop) (h : seqKernel_vc m Q) : Ct 28 [.sv (.agg [I m.fBase, LS (lsT intT) m.fImages, LS intT m.fCoding])] [] Q (fun (r : (Int × Int)) => .tup [.one (I r.1), .one (I r.2)]) := by
  have ht := tab_ok
  refine Ct.body Try.func28 rfl rfl rfl rfl (fun c hn => ?_)
  unfold seqKernel_vc at h
  refine En.lenA 0 1 (by rfl) (by rfl) (fun hl => ?_)
  replace h := h hl
  clear hl
  refine En.lenA 0 2 (by rfl) (by rfl) (fun hl => ?_)
  replace h := h hl
  clear hl
  refine En.seq ?_
  refine En.region ?_
  refine WL.run ht hn 3 ⟨[(1, .sv (.one (.ptr 0 0)))], [.box [I m.fBase, LS (lsT intT) m.fImages, LS intT m.fCoding] 67 false]⟩ (by kernel_rfl) ?_
  refine WL.nil ?_
  refine En.seq ?_
  refine En.seq ?_
  refine En.region ?_
  refine WL.run ht hn 1 ⟨[(1, .sv (.one (.ptr 0 0))), (15, .sv (.agg [I m.fBase, LS (lsT intT) m.fImages, LS intT m.fCoding]))], [.box [I m.fBase, LS (lsT intT) m.fImages, LS intT m.fCoding] 67 false]⟩ (by kernel_rfl) ?_
  refine WL.mt0 (K := []) (p := none) hn (by rfl) (mt_call (seqCheck_ct m) en64 (caps := []) [] rfl (by rfl) (by kernel_rfl) (by kernel_rfl) (by rfl) (by rfl) (by rfl)) (by rfl) (by rfl) (by rfl) ?_
  refine WL.run ht hn 1 ⟨[(1, .sv (.one (.ptr 0 0))), (4, .sv (.one (I (seqErr m))))], [.box [I m.fBase, LS (lsT intT) m.fImages, LS intT m.fCoding] 67 false]⟩ (by kernel_rfl) ?_
  refine WL.nil ?_
  refine En.seq ?_
  refine En.region ?_
  refine WL.run ht hn 2 ⟨[(1, .sv (.one (.ptr 0 0))), (4, .sv (.one (I (seqErr m)))), (18, .sv (.one (B ((seqErr m) != 0))))], [.box [I m.fBase, LS (lsT intT) m.fImages, LS intT m.fCoding] 67 false]⟩ (by kernel_rfl) ?_
  refine WL.nil ?_
  refine En.cond (b := ((seqErr m) != 0)) (by kernel_rfl) (fun hb => ?_) (fun hb => ?_)
  · replace h := h.1 hb
    refine En.seq ?_
    refine En.region ?_
    refine WL.run ht hn 3 ⟨[(2, .sv (.one (I 0))), (3, .sv (.one (I (seqErr m))))], [.gone]⟩ (by kernel_rfl) ?_
    refine WL.nil ?_
    refine En.ret ?_
    exact En.back ht (0, (seqErr m)) h (by kernel_rfl) rfl
  · replace h := h.2 hb
    refine En.skip ?_
    refine En.seq ?_
    refine En.region ?_
    refine WL.run ht hn 1 ⟨[(1, .sv (.one (.ptr 0 0))), (20, .sv (.agg [I m.fBase, LS (lsT intT) m.fImages, LS intT m.fCoding]))], [.box [I m.fBase, LS (lsT intT) m.fImages, LS intT m.fCoding] 67 false]⟩ (by kernel_rfl) ?_
    have hp := h.1
    replace h := h.2
    refine WL.mt0 (K := []) (p := some (1, rowI 3 intT (([0, 1] : List Int)))) hn (by rfl) (mt_callI 1 (seqMet_ct m hp) en65 (caps := []) [] rfl rfl (by rfl) (by kernel_rfl) (by kernel_rfl) (by rfl) (by rfl)) (by rfl) (by rfl) (by rfl) ?_
    refine WL.run ht hn 2 ⟨[(1, .sv (.one (.ptr 0 0))), (5, .sv (.one (.ptr 2 0)))], [.box [I m.fBase, LS (lsT intT) m.fImages, LS intT m.fCoding] 67 false, rowI 3 intT (([0, 1] : List Int)), .box [.own 1] 22 false]⟩ (by kernel_rfl) ?_
    refine WL.nil ?_
    refine En.seq ?_
    refine En.region ?_
    refine WL.run ht hn 2 ⟨[(1, .sv (.one (.ptr 0 0))), (5, .sv (.one (.ptr 2 0))), (23, .sv (.one (LS intT m.fCoding)))], [.box [I m.fBase, LS (lsT intT) m.fImages, LS intT m.fCoding] 67 false, rowI 3 intT (([0, 1] : List Int)), .box [.own 1] 22 false]⟩ (by kernel_rfl) ?_
    have hp := h.1
    replace h := h.2
    refine WL.mt0 (K := []) (p := some (3, rowI 3 intT (m.fCoding))) hn (by rfl) (mt_callI 3 (cloneInt_ct m.fCoding hp) en47 (caps := []) [] rfl rfl (by rfl) (by kernel_rfl) (by kernel_rfl) (by rfl) (by rfl)) (by rfl) (by rfl) (by rfl) ?_
    refine WL.run ht hn 1 ⟨[(1, .sv (.one (.ptr 0 0))), (5, .sv (.one (.ptr 2 0))), (6, .sv (.one (.own 3)))], [.box [I m.fBase, LS (lsT intT) m.fImages, LS intT m.fCoding] 67 false, rowI 3 intT (([0, 1] : List Int)), .box [.own 1] 22 false, rowI 3 intT (m.fCoding)]⟩ (by kernel_rfl) ?_
    refine WL.nil ?_
    refine En.seq ?_
    refine En.region ?_
    refine WL.mt0 (K := []) (p := some (4, mapI encS intT ([] : List (ByteArray × Int)))) hn (by rfl) (mt_makeMap encS intT 4 rfl) (by rfl) (by rfl) (by rfl) ?_
    refine WL.run ht hn 1 ⟨[(1, .sv (.one (.ptr 0 0))), (5, .sv (.one (.ptr 2 0))), (6, .sv (.one (.own 3))), (7, .sv (.one (.own 4)))], [.box [I m.fBase, LS (lsT intT) m.fImages, LS intT m.fCoding] 67 false, rowI 3 intT (([0, 1] : List Int)), .box [.own 1] 22 false, rowI 3 intT (m.fCoding), mapI encS intT ([] : List (ByteArray × Int))]⟩ (by kernel_rfl) ?_
    refine WL.nil ?_
    refine En.seq ?_
    refine En.region ?_
    refine WL.run ht hn 2 ⟨[(1, .sv (.one (.ptr 0 0))), (6, .sv (.one (.own 3))), (7, .sv (.one (.own 4))), (8, .sv (.one (.fn 66 [2])))], [.box [I m.fBase, LS (lsT intT) m.fImages, LS intT m.fCoding] 67 false, rowI 3 intT (([0, 1] : List Int)), .box [.own 1] 22 false, rowI 3 intT (m.fCoding), mapI encS intT ([] : List (ByteArray × Int))]⟩ (by kernel_rfl) ?_
    refine WL.nil ?_
    refine En.seq ?_
    refine En.region ?_
    refine WL.run ht hn 3 ⟨[(1, .sv (.one (.ptr 0 0))), (6, .sv (.one (.own 3))), (7, .sv (.one (.own 4))), (8, .sv (.one (.fn 66 [2]))), (27, .sv (.one (.own 4))), (28, .sv (.one (.fn 66 [2]))), (29, .sv (.one (.own 3)))], [.box [I m.fBase, LS (lsT intT) m.fImages, LS intT m.fCoding] 67 false, rowI 3 intT (([0, 1] : List Int)), .box [.own 1] 22 false, rowI 3 intT (m.fCoding), mapI encS intT ([] : List (ByteArray × Int))]⟩ (by kernel_rfl) ?_
    refine WL.seal (T := intT) (l := (([0, 1] : List Int))) (e := 3) 1 rfl ?_
    refine WL.run ht hn 0 ⟨[(1, .sv (.one (.ptr 0 0))), (6, .sv (.one (.own 3))), (7, .sv (.one (.own 4))), (8, .sv (.one (.fn 66 [2]))), (27, .sv (.one (.own 4))), (28, .sv (.one (.fn 66 [2]))), (29, .sv (.one (.own 3)))], [.box [I m.fBase, LS (lsT intT) m.fImages, LS intT m.fCoding] 67 false, .gone, .box [LS intT (([0, 1] : List Int))] 22 false, rowI 3 intT (m.fCoding), mapI encS intT ([] : List (ByteArray × Int))]⟩ (by kernel_rfl) ?_
    refine WL.freeze [2] (by rfl) ?_
    refine WL.ghost 28 (.sv (.one (.rd (fvR (fun (x_ : (List Int)) => [.sv (.one (LS intT x_))]) (fun (r : ByteArray) => .sv (.one (.v (.string r)))) (KerPre (([0, 1] : List Int))) (kerR (([0, 1] : List Int))))))) (by rfl) (fv_of (M := [.box [LS intT (([0, 1] : List Int))] 22 true]) (caps := [2]) (fun x_ hx => kerKey_ct x_ (([0, 1] : List Int)) hx) en66 rfl (by kernel_rfl) (by rfl) (fun _ => rfl)) ?_
    refine WL.seal (T := intT) (l := (m.fCoding)) (e := 3) 3 rfl ?_
    refine WL.run ht hn 0 ⟨[(1, .sv (.one (.ptr 0 0))), (6, .sv (.one (LS intT (m.fCoding)))), (7, .sv (.one (.own 4))), (8, .sv (.one (.fn 66 [2]))), (27, .sv (.one (.own 4))), (28, .sv (.one (.rd (fvR (fun (x_ : (List Int)) => [.sv (.one (LS intT x_))]) (fun (r : ByteArray) => .sv (.one (.v (.string r)))) (KerPre (([0, 1] : List Int))) (kerR (([0, 1] : List Int))))))), (29, .sv (.one (LS intT (m.fCoding))))], [.box [I m.fBase, LS (lsT intT) m.fImages, LS intT m.fCoding] 67 false, .gone, .box [LS intT (([0, 1] : List Int))] 22 true, .gone, mapI encS intT ([] : List (ByteArray × Int))]⟩ (by kernel_rfl) ?_
    have hp := h.1
    replace h := h.2
    refine WL.mt0 (K := []) (p := none) hn (by rfl) (mt_callv (m.fCoding) hp rfl (by rfl) (by rfl) (by rfl) (by rfl)) (by rfl) (by rfl) (by rfl) ?_
    refine WL.mapPut (T := intT) keyS9 (k := ((kerR (([0, 1] : List Int))) (m.fCoding))) (y := 1) hn (by rfl) (.inl rfl) Try.underlying153 (by rfl) (by rfl) (by rfl) (by rfl) (by rfl) (by rfl) ?_
    refine WL.nil ?_
    refine En.seq ?_
    refine En.seq ?_
    refine En.region ?_
    refine WL.run ht hn 1 ⟨[(1, .sv (.one (.ptr 0 0))), (6, .sv (.one (LS intT (m.fCoding)))), (7, .sv (.one (.own 4))), (8, .sv (.one (.fn 66 [2]))), (31, .sv (.one (LS intT (m.fCoding))))], [.box [I m.fBase, LS (lsT intT) m.fImages, LS intT m.fCoding] 67 false, .gone, .box [LS intT (([0, 1] : List Int))] 22 true, .gone, mapI encS intT (mput ((kerR (([0, 1] : List Int))) (m.fCoding)) 1 ([] : List (ByteArray × Int)))]⟩ (by kernel_rfl) ?_
    refine WL.mt0 (K := []) (p := some (5, rowI 22 (lsT intT) ([(m.fCoding)] : (List (List Int))))) hn (by rfl) (mt_lit (T := (lsT intT)) ([(m.fCoding)] : (List (List Int))) (mt_bsl 5 (r := cellsOf (lsT intT) ([(m.fCoding)] : (List (List Int)))) ht rfl (by rfl) (by rfl) (by rfl) (by kernel_rfl) (by rfl)) (fun _ h => by cases h) (fun _ => rfl) (fun _ => rfl) (by rfl) (Nat.le_of_ble_eq_true rfl)) (by rfl) (by rfl) (by rfl) ?_
    refine WL.run ht hn 1 ⟨[(1, .sv (.one (.ptr 0 0))), (6, .sv (.one (LS intT (m.fCoding)))), (7, .sv (.one (.own 4))), (8, .sv (.one (.fn 66 [2]))), (9, .sv (.one (.own 5)))], [.box [I m.fBase, LS (lsT intT) m.fImages, LS intT m.fCoding] 67 false, .gone, .box [LS intT (([0, 1] : List Int))] 22 true, .gone, mapI encS intT (mput ((kerR (([0, 1] : List Int))) (m.fCoding)) 1 ([] : List (ByteArray × Int))), rowI 22 (lsT intT) ([(m.fCoding)] : (List (List Int)))]⟩ (by kernel_rfl) ?_
    refine WL.nil ?_
    refine En.block ?_
    obtain ⟨Inv, mu, h0_3, hI_3⟩ := h
    refine En.loop (σ := (List (ByteArray × Int)) × (List (List Int))) (fun zz => Inv zz.1 zz.2) (fun zz => mu zz.1 zz.2) (fun zz => ⟨[(1, .sv (.one (.ptr 0 0))), (6, .sv (.one (LS intT (m.fCoding)))), (7, .sv (.one (.own 4))), (8, .sv (.one (.fn 66 [2]))), (9, .sv (.one (.own 5)))], [.box [I m.fBase, LS (lsT intT) m.fImages, LS intT m.fCoding] 67 false, .gone, .box [LS intT (([0, 1] : List Int))] 22 true, .gone, mapI encS intT zz.1, rowI 22 (lsT intT) zz.2]⟩) ((mput ((kerR (([0, 1] : List Int))) (m.fCoding)) 1 ([] : List (ByteArray × Int))), ([(m.fCoding)] : (List (List Int)))) h0_3 (sub_ok (by kernel_rfl)) ?_
    rintro ⟨m4, l5⟩ h
    replace h := hI_3 _ _ h
    show En c ⟨[(1, .sv (.one (.ptr 0 0))), (6, .sv (.one (LS intT (m.fCoding)))), (7, .sv (.one (.own 4))), (8, .sv (.one (.fn 66 [2]))), (9, .sv (.one (.own 5)))], [.box [I m.fBase, LS (lsT intT) m.fImages, LS intT m.fCoding] 67 false, .gone, .box [LS intT (([0, 1] : List Int))] 22 true, .gone, mapI encS intT m4, rowI 22 (lsT intT) l5]⟩ _
    refine En.seq ?_
    refine En.seq ?_
    refine En.region ?_
    refine WL.run ht hn 3 ⟨[(1, .sv (.one (.ptr 0 0))), (6, .sv (.one (LS intT (m.fCoding)))), (7, .sv (.one (.own 4))), (8, .sv (.one (.fn 66 [2]))), (9, .sv (.one (.own 5))), (35, .sv (.one (B (decide ((l5.length : Int) > 0)))))], [.box [I m.fBase, LS (lsT intT) m.fImages, LS intT m.fCoding] 67 false, .gone, .box [LS intT (([0, 1] : List Int))] 22 true, .gone, mapI encS intT m4, rowI 22 (lsT intT) l5]⟩ (by kernel_rfl) ?_
    refine WL.nil ?_
    refine En.cond (b := (decide ((l5.length : Int) > 0))) (by kernel_rfl) (fun hb => ?_) (fun hb => ?_)
    · replace h := h.1 hb
      refine En.skip ?_
      refine En.seq ?_
      refine En.block ?_
      refine En.seq ?_
      refine En.region ?_
      refine WL.run ht hn 3 ⟨[(1, .sv (.one (.ptr 0 0))), (6, .sv (.one (LS intT (m.fCoding)))), (7, .sv (.one (.own 4))), (8, .sv (.one (.fn 66 [2]))), (9, .sv (.one (.own 5))), (39, .sv (.one (I m.fBase))), (40, .sv (.one (I 0)))], [.box [I m.fBase, LS (lsT intT) m.fImages, LS intT m.fCoding] 67 false, .gone, .box [LS intT (([0, 1] : List Int))] 22 true, .gone, mapI encS intT m4, rowI 22 (lsT intT) l5]⟩ (by kernel_rfl) ?_
      refine WL.nil ?_
      refine En.block ?_
      obtain ⟨Inv_2, mu_2, h0_2, hI_2⟩ := h
      refine En.loop (σ := Int × (List (ByteArray × Int)) × (List (List Int))) (fun zz => Inv_2 zz.1 zz.2.1 zz.2.2) (fun zz => mu_2 zz.1 zz.2.1 zz.2.2) (fun zz => ⟨[(1, .sv (.one (.ptr 0 0))), (6, .sv (.one (LS intT (m.fCoding)))), (7, .sv (.one (.own 4))), (8, .sv (.one (.fn 66 [2]))), (9, .sv (.one (.own 5))), (39, .sv (.one (I m.fBase))), (40, .sv (.one (I zz.1)))], [.box [I m.fBase, LS (lsT intT) m.fImages, LS intT m.fCoding] 67 false, .gone, .box [LS intT (([0, 1] : List Int))] 22 true, .gone, mapI encS intT zz.2.1, rowI 22 (lsT intT) zz.2.2]⟩) (0, m4, l5) h0_2 (sub_ok (by kernel_rfl)) ?_
      rintro ⟨x40, m4_2, l5_2⟩ h
      replace h := hI_2 _ _ _ h
      show En c ⟨[(1, .sv (.one (.ptr 0 0))), (6, .sv (.one (LS intT (m.fCoding)))), (7, .sv (.one (.own 4))), (8, .sv (.one (.fn 66 [2]))), (9, .sv (.one (.own 5))), (39, .sv (.one (I m.fBase))), (40, .sv (.one (I x40)))], [.box [I m.fBase, LS (lsT intT) m.fImages, LS intT m.fCoding] 67 false, .gone, .box [LS intT (([0, 1] : List Int))] 22 true, .gone, mapI encS intT m4_2, rowI 22 (lsT intT) l5_2]⟩ _
      refine En.seq ?_
      refine En.region ?_
      refine WL.run ht hn 1 ⟨[(1, .sv (.one (.ptr 0 0))), (6, .sv (.one (LS intT (m.fCoding)))), (7, .sv (.one (.own 4))), (8, .sv (.one (.fn 66 [2]))), (9, .sv (.one (.own 5))), (39, .sv (.one (I m.fBase))), (40, .sv (.one (I x40))), (41, .sv (.one (B (decide (x40 < m.fBase)))))], [.box [I m.fBase, LS (lsT intT) m.fImages, LS intT m.fCoding] 67 false, .gone, .box [LS intT (([0, 1] : List Int))] 22 true, .gone, mapI encS intT m4_2, rowI 22 (lsT intT) l5_2]⟩ (by kernel_rfl) ?_
      refine WL.nil ?_
      refine En.seq ?_
      refine En.cond (b := (decide (x40 < m.fBase))) (by kernel_rfl) (fun hb => ?_) (fun hb => ?_)
      · replace h := h.1 hb
        refine En.skip ?_
        obtain ⟨J, h, hJ⟩ := h
        refine En.seqJ (σ := (List (ByteArray × Int)) × (List (List Int))) (fun zz => J zz.1 zz.2) (fun zz => ⟨[(1, .sv (.one (.ptr 0 0))), (6, .sv (.one (LS intT (m.fCoding)))), (7, .sv (.one (.own 4))), (8, .sv (.one (.fn 66 [2]))), (9, .sv (.one (.own 5))), (39, .sv (.one (I m.fBase))), (40, .sv (.one (I x40)))], [.box [I m.fBase, LS (lsT intT) m.fImages, LS intT m.fCoding] 67 false, .gone, .box [LS intT (([0, 1] : List Int))] 22 true, .gone, mapI encS intT zz.1, rowI 22 (lsT intT) zz.2, .gone]⟩) ?_ ?_
        · refine En.block ?_
          refine En.seq ?_
          refine En.region ?_
          refine WL.run ht hn 2 ⟨[(1, .sv (.one (.ptr 0 0))), (6, .sv (.one (LS intT (m.fCoding)))), (7, .sv (.one (.own 4))), (8, .sv (.one (.fn 66 [2]))), (9, .sv (.one (.own 5))), (10, .sv (.one (I x40))), (39, .sv (.one (I m.fBase))), (40, .sv (.one (I x40)))], [.box [I m.fBase, LS (lsT intT) m.fImages, LS intT m.fCoding] 67 false, .gone, .box [LS intT (([0, 1] : List Int))] 22 true, .gone, mapI encS intT m4_2, rowI 22 (lsT intT) l5_2]⟩ (by kernel_rfl) ?_
          refine WL.nil ?_
          refine En.seq ?_
          refine En.region ?_
          refine WL.run ht hn 2 ⟨[(1, .sv (.one (.ptr 0 0))), (6, .sv (.one (LS intT (m.fCoding)))), (7, .sv (.one (.own 4))), (8, .sv (.one (.fn 66 [2]))), (9, .sv (.one (.own 5))), (10, .sv (.one (I x40))), (39, .sv (.one (I m.fBase))), (40, .sv (.one (I x40))), (44, .sv (.one (I ((m.fCoding).length : Int))))], [.box [I m.fBase, LS (lsT intT) m.fImages, LS intT m.fCoding] 67 false, .gone, .box [LS intT (([0, 1] : List Int))] 22 true, .gone, mapI encS intT m4_2, rowI 22 (lsT intT) l5_2]⟩ (by kernel_rfl) ?_
          have hp := h.1
          replace h := h.2
          refine WL.mt0 (K := []) (p := some (6, rowI 3 intT (List.replicate (((m.fCoding).length : Int)).toNat (0 : Int)))) hn (by rfl) (mt_make (T := intT) (0 : Int) (zv := (.int .i64 0)) 6 (l := ((m.fCoding).length : Int)) (cp := ((m.fCoding).length : Int)) ht rfl (by rfl) (by rfl) (by rfl) (by rfl) (by decide) (by rfl) (by rfl) hp.1 hp.2.1 hp.2.2 (hp.le (by decide)) rfl (fun _ => ⟨rfl, trivial⟩)) (by rfl) (by rfl) (by rfl) ?_
          refine WL.run ht hn 1 ⟨[(1, .sv (.one (.ptr 0 0))), (6, .sv (.one (LS intT (m.fCoding)))), (7, .sv (.one (.own 4))), (8, .sv (.one (.fn 66 [2]))), (9, .sv (.one (.own 5))), (10, .sv (.one (I x40))), (11, .sv (.one (.own 6))), (39, .sv (.one (I m.fBase))), (40, .sv (.one (I x40)))], [.box [I m.fBase, LS (lsT intT) m.fImages, LS intT m.fCoding] 67 false, .gone, .box [LS intT (([0, 1] : List Int))] 22 true, .gone, mapI encS intT m4_2, rowI 22 (lsT intT) l5_2, rowI 3 intT (List.replicate (((m.fCoding).length : Int)).toNat (0 : Int))]⟩ (by kernel_rfl) ?_
          refine WL.nil ?_
          refine En.seq ?_
          refine En.seq ?_
          refine En.region ?_
          refine WL.run ht hn 4 ⟨[(1, .sv (.one (.ptr 0 0))), (6, .sv (.one (LS intT (m.fCoding)))), (7, .sv (.one (.own 4))), (8, .sv (.one (.fn 66 [2]))), (9, .sv (.one (.own 5))), (10, .sv (.one (I x40))), (11, .sv (.one (.own 6))), (39, .sv (.one (I m.fBase))), (40, .sv (.one (I x40))), (47, .sv (.one (LS (lsT intT) m.fImages))), (48, .sv (.one (I (m.fImages.length : Int)))), (49, .sv (.one (I 0)))], [.box [I m.fBase, LS (lsT intT) m.fImages, LS intT m.fCoding] 67 false, .gone, .box [LS intT (([0, 1] : List Int))] 22 true, .gone, mapI encS intT m4_2, rowI 22 (lsT intT) l5_2, rowI 3 intT (List.replicate (((m.fCoding).length : Int)).toNat (0 : Int))]⟩ (by kernel_rfl) ?_
          refine WL.nil ?_
          refine En.block ?_
          obtain ⟨Inv_3, mu_3, h0, hI⟩ := h
          refine En.loop (σ := Int × (List Int)) (fun zz => Inv_3 zz.1 zz.2) (fun zz => mu_3 zz.1 zz.2) (fun zz => ⟨[(1, .sv (.one (.ptr 0 0))), (6, .sv (.one (LS intT (m.fCoding)))), (7, .sv (.one (.own 4))), (8, .sv (.one (.fn 66 [2]))), (9, .sv (.one (.own 5))), (10, .sv (.one (I x40))), (11, .sv (.one (.own 6))), (39, .sv (.one (I m.fBase))), (40, .sv (.one (I x40))), (47, .sv (.one (LS (lsT intT) m.fImages))), (48, .sv (.one (I (m.fImages.length : Int)))), (49, .sv (.one (I zz.1)))], [.box [I m.fBase, LS (lsT intT) m.fImages, LS intT m.fCoding] 67 false, .gone, .box [LS intT (([0, 1] : List Int))] 22 true, .gone, mapI encS intT m4_2, rowI 22 (lsT intT) l5_2, rowI 3 intT zz.2]⟩) (0, (List.replicate (((m.fCoding).length : Int)).toNat (0 : Int))) h0 (sub_ok (by kernel_rfl)) ?_
          rintro ⟨x49, l6⟩ h
          replace h := hI _ _ h
          show En c ⟨[(1, .sv (.one (.ptr 0 0))), (6, .sv (.one (LS intT (m.fCoding)))), (7, .sv (.one (.own 4))), (8, .sv (.one (.fn 66 [2]))), (9, .sv (.one (.own 5))), (10, .sv (.one (I x40))), (11, .sv (.one (.own 6))), (39, .sv (.one (I m.fBase))), (40, .sv (.one (I x40))), (47, .sv (.one (LS (lsT intT) m.fImages))), (48, .sv (.one (I (m.fImages.length : Int)))), (49, .sv (.one (I x49)))], [.box [I m.fBase, LS (lsT intT) m.fImages, LS intT m.fCoding] 67 false, .gone, .box [LS intT (([0, 1] : List Int))] 22 true, .gone, mapI encS intT m4_2, rowI 22 (lsT intT) l5_2, rowI 3 intT l6]⟩ _
          refine En.seq ?_
          refine En.region ?_
          refine WL.run ht hn 1 ⟨[(1, .sv (.one (.ptr 0 0))), (6, .sv (.one (LS intT (m.fCoding)))), (7, .sv (.one (.own 4))), (8, .sv (.one (.fn 66 [2]))), (9, .sv (.one (.own 5))), (10, .sv (.one (I x40))), (11, .sv (.one (.own 6))), (39, .sv (.one (I m.fBase))), (40, .sv (.one (I x40))), (47, .sv (.one (LS (lsT intT) m.fImages))), (48, .sv (.one (I (m.fImages.length : Int)))), (49, .sv (.one (I x49))), (50, .sv (.one (B (decide (x49 < (m.fImages.length : Int))))))], [.box [I m.fBase, LS (lsT intT) m.fImages, LS intT m.fCoding] 67 false, .gone, .box [LS intT (([0, 1] : List Int))] 22 true, .gone, mapI encS intT m4_2, rowI 22 (lsT intT) l5_2, rowI 3 intT l6]⟩ (by kernel_rfl) ?_
          refine WL.nil ?_
          refine En.seq ?_
          refine En.cond (b := (decide (x49 < (m.fImages.length : Int)))) (by kernel_rfl) (fun hb => ?_) (fun hb => ?_)
          · replace h := h.1 hb
            refine En.skip ?_
            refine En.seq ?_
            refine En.block ?_
            refine En.seq ?_
            refine En.region ?_
            refine WL.run ht hn 1 ⟨[(1, .sv (.one (.ptr 0 0))), (6, .sv (.one (LS intT (m.fCoding)))), (7, .sv (.one (.own 4))), (8, .sv (.one (.fn 66 [2]))), (9, .sv (.one (.own 5))), (10, .sv (.one (I x40))), (11, .sv (.one (.own 6))), (39, .sv (.one (I m.fBase))), (40, .sv (.one (I x40))), (47, .sv (.one (LS (lsT intT) m.fImages))), (48, .sv (.one (I (m.fImages.length : Int)))), (49, .sv (.one (I x49))), (51, .sv (.one (I x49)))], [.box [I m.fBase, LS (lsT intT) m.fImages, LS intT m.fCoding] 67 false, .gone, .box [LS intT (([0, 1] : List Int))] 22 true, .gone, mapI encS intT m4_2, rowI 22 (lsT intT) l5_2, rowI 3 intT l6]⟩ (by kernel_rfl) ?_
            obtain ⟨e, he, h⟩ := h
            refine WL.val hn (by rfl) (val_index (T := (lsT intT)) (l := m.fImages) (i := x49) ht rfl (by rfl) (by rfl) (by rfl) (by rfl) (by rfl) (by rfl) he) (by rfl) ?_
            refine WL.val hn (by rfl) (val_load (s := .one (LS intT e)) ht rfl (by rfl) (by rfl) (by rfl) (by rfl) (by rfl)) (by rfl) ?_
            refine WL.run ht hn 2 ⟨[(1, .sv (.one (.ptr 0 0))), (6, .sv (.one (LS intT (m.fCoding)))), (7, .sv (.one (.own 4))), (8, .sv (.one (.fn 66 [2]))), (9, .sv (.one (.own 5))), (10, .sv (.one (I x40))), (11, .sv (.one (.own 6))), (12, .sv (.one (I x49))), (13, .sv (.one (LS intT e))), (39, .sv (.one (I m.fBase))), (40, .sv (.one (I x40))), (47, .sv (.one (LS (lsT intT) m.fImages))), (48, .sv (.one (I (m.fImages.length : Int)))), (49, .sv (.one (I x49)))], [.box [I m.fBase, LS (lsT intT) m.fImages, LS intT m.fCoding] 67 false, .gone, .box [LS intT (([0, 1] : List Int))] 22 true, .gone, mapI encS intT m4_2, rowI 22 (lsT intT) l5_2, rowI 3 intT l6]⟩ (by kernel_rfl) ?_
            refine WL.nil ?_
            obtain ⟨e_2, he_2, h⟩ := h
            obtain ⟨e_3, he_3, h⟩ := h
            obtain ⟨e_4, he_4, h⟩ := h
            obtain ⟨e_5, he_5, h⟩ := h
            refine En.regionA ⟨[(1, .sv (.one (.ptr 0 0))), (6, .sv (.one (LS intT (m.fCoding)))), (7, .sv (.one (.own 4))), (8, .sv (.one (.fn 66 [2]))), (9, .sv (.one (.own 5))), (10, .sv (.one (I x40))), (11, .sv (.one (.own 6))), (12, .sv (.one (I x49))), (13, .sv (.one (LS intT e))), (39, .sv (.one (I m.fBase))), (40, .sv (.one (I x40))), (47, .sv (.one (LS (lsT intT) m.fImages))), (48, .sv (.one (I (m.fImages.length : Int)))), (49, .sv (.one (I x49)))], [.sv (.one (.own 6)), .sv (.one (I x49)), .sv (.one (.own 5)), .sv (.one (.oe 5 ((0 : Int).toNat) 1)), .sv (.one (LS intT e_2)), .sv (.one (LS intT e)), .sv (.one (I x40)), .sv (.one (.pe (svR (.one (I e_3))) 1)), .sv (.one (I e_3)), .sv (.one (.pe (svR (.one (I e_4))) 1)), .sv (.one (I e_4)), .sv (.one (.oe 6 ((x49).toNat) 1)), .tup []], [⟨.box [I m.fBase, LS (lsT intT) m.fImages, LS intT m.fCoding] 67 false, none, none, none⟩, ⟨.gone, none, none, none⟩, ⟨.box [LS intT (([0, 1] : List Int))] 22 true, none, none, none⟩, ⟨.gone, none, none, none⟩, ⟨mapI encS intT m4_2, none, none, none⟩, ⟨rowI 22 (lsT intT) l5_2, none, none, none⟩, ⟨rowI 3 intT l6, none, none, some (12, rowI 3 intT (l6.set (x49).toNat e_4))⟩]⟩ ⟨[(1, .sv (.one (.ptr 0 0))), (6, .sv (.one (LS intT (m.fCoding)))), (7, .sv (.one (.own 4))), (8, .sv (.one (.fn 66 [2]))), (9, .sv (.one (.own 5))), (10, .sv (.one (I x40))), (11, .sv (.one (.own 6))), (39, .sv (.one (I m.fBase))), (40, .sv (.one (I x40))), (47, .sv (.one (LS (lsT intT) m.fImages))), (48, .sv (.one (I (m.fImages.length : Int)))), (49, .sv (.one (I x49)))], [.box [I m.fBase, LS (lsT intT) m.fImages, LS intT m.fCoding] 67 false, .gone, .box [LS intT (([0, 1] : List Int))] 22 true, .gone, mapI encS intT m4_2, rowI 22 (lsT intT) l5_2, rowI 3 intT (l6.set (x49).toNat e_4)]⟩ (by kernel_rfl) hn (by kernel_rfl) (by rfl) (by kernel_rfl) ?_ (by kernel_rfl) ?_
            · exact ⟨.mt ⟨[(11, .sv (.one (.own 6)))], []⟩ [] none (by kernel_rfl) (by rfl) (mt_ev ht (by kernel_rfl)) rfl rfl rfl rfl,
    .mt ⟨[(12, .sv (.one (I x49)))], []⟩ [] none (by kernel_rfl) (by rfl) (mt_ev ht (by kernel_rfl)) rfl rfl rfl rfl,
    .mt ⟨[(9, .sv (.one (.own 5)))], []⟩ [] none (by kernel_rfl) (by rfl) (mt_ev ht (by kernel_rfl)) rfl rfl rfl rfl,
    .mt ⟨[(56, .sv (.one (.own 5)))], [.gone, .gone, .gone, .gone, .gone, rowI 22 (lsT intT) l5_2]⟩ [] none (by kernel_rfl) (by rfl) (mt_val (val_indexO (T := (lsT intT)) (l := l5_2) (k := 0) ht rfl (by rfl) (by rfl) (by rfl) (by rfl) (by decide) (by rfl) (by rfl) (by rfl) he_2)) rfl rfl rfl rfl,
    .mt ⟨[(57, .sv (.one (.oe 5 ((0 : Int).toNat) 1)))], [.gone, .gone, .gone, .gone, .gone, rowI 22 (lsT intT) l5_2]⟩ [] none (by kernel_rfl) (by rfl) (mt_val (val_loadO (T := (lsT intT)) (l := l5_2) (y := e_2) ht rfl (by rfl) (by rfl) (by rfl) (by rfl) (by rfl) (idx_some he_2).2.2 (by rfl))) rfl rfl rfl rfl,
    .mt ⟨[(13, .sv (.one (LS intT e)))], []⟩ [] none (by kernel_rfl) (by rfl) (mt_ev ht (by kernel_rfl)) rfl rfl rfl rfl,
    .mt ⟨[(10, .sv (.one (I x40)))], []⟩ [] none (by kernel_rfl) (by rfl) (mt_ev ht (by kernel_rfl)) rfl rfl rfl rfl,
    .mt ⟨[(59, .sv (.one (LS intT e))), (60, .sv (.one (I x40)))], []⟩ [] none (by kernel_rfl) (by rfl) (mt_val (val_index (T := intT) (l := e) (i := x40) ht rfl (by rfl) (by rfl) (by rfl) (by rfl) (by rfl) (by rfl) he_3)) rfl rfl rfl rfl,
    .mt ⟨[(61, .sv (.one (.pe (svR (.one (I e_3))) 1)))], []⟩ [] none (by kernel_rfl) (by rfl) (mt_val (val_load (s := .one (I e_3)) ht rfl (by rfl) (by rfl) (by rfl) (by rfl) (by rfl))) rfl rfl rfl rfl,
    .mt ⟨[(58, .sv (.one (LS intT e_2))), (62, .sv (.one (I e_3)))], []⟩ [] none (by kernel_rfl) (by rfl) (mt_val (val_index (T := intT) (l := e_2) (i := e_3) ht rfl (by rfl) (by rfl) (by rfl) (by rfl) (by rfl) (by rfl) he_4)) rfl rfl rfl rfl,
    .mt ⟨[(63, .sv (.one (.pe (svR (.one (I e_4))) 1)))], []⟩ [] none (by kernel_rfl) (by rfl) (mt_val (val_load (s := .one (I e_4)) ht rfl (by rfl) (by rfl) (by rfl) (by rfl) (by rfl))) rfl rfl rfl rfl,
    .mt ⟨[(54, .sv (.one (.own 6))), (55, .sv (.one (I x49)))], [.gone, .gone, .gone, .gone, .gone, .gone, rowI 3 intT l6]⟩ [] none (by kernel_rfl) (by rfl) (mt_val (val_indexO (T := intT) (l := l6) (k := x49) ht rfl (by rfl) (by rfl) (by rfl) (by rfl) (by decide) (by rfl) (by rfl) (by rfl) he_5)) rfl rfl rfl rfl,
    .mu ⟨[(64, .sv (.one (I e_4))), (65, .sv (.one (.oe 6 ((x49).toNat) 1)))], [.gone, .gone, .gone, .gone, .gone, .gone, rowI 3 intT l6]⟩ 6 _ _ rfl rfl (by kernel_rfl) (by rfl) (mu_storeO (T := intT) (l := l6) (y := e_4) ht rfl (by rfl) (by rfl) (fun _ h => by cases h) (by rfl) (by rfl) (idx_lt he_5) (by rfl) (by rfl) (by rfl)) rfl rfl rfl rfl rfl rfl rfl,
    trivial⟩
            · refine En.region ?_
              refine WL.run ht hn 2 ⟨[(1, .sv (.one (.ptr 0 0))), (6, .sv (.one (LS intT (m.fCoding)))), (7, .sv (.one (.own 4))), (8, .sv (.one (.fn 66 [2]))), (9, .sv (.one (.own 5))), (10, .sv (.one (I x40))), (11, .sv (.one (.own 6))), (39, .sv (.one (I m.fBase))), (40, .sv (.one (I x40))), (47, .sv (.one (LS (lsT intT) m.fImages))), (48, .sv (.one (I (m.fImages.length : Int)))), (49, .sv (.one (I (wr (x49 + 1)))))], [.box [I m.fBase, LS (lsT intT) m.fImages, LS intT m.fCoding] 67 false, .gone, .box [LS intT (([0, 1] : List Int))] 22 true, .gone, mapI encS intT m4_2, rowI 22 (lsT intT) l5_2, rowI 3 intT (l6.set (x49).toNat e_4)]⟩ (by kernel_rfl) ?_
              refine WL.nil ?_
              exact En.at (I := fun zz => Inv_3 zz.1 zz.2 ∧ mu_3 zz.1 zz.2 < mu_3 x49 l6) (T := fun zz => ⟨[(1, .sv (.one (.ptr 0 0))), (6, .sv (.one (LS intT (m.fCoding)))), (7, .sv (.one (.own 4))), (8, .sv (.one (.fn 66 [2]))), (9, .sv (.one (.own 5))), (10, .sv (.one (I x40))), (11, .sv (.one (.own 6))), (39, .sv (.one (I m.fBase))), (40, .sv (.one (I x40))), (47, .sv (.one (LS (lsT intT) m.fImages))), (48, .sv (.one (I (m.fImages.length : Int)))), (49, .sv (.one (I zz.1)))], [.box [I m.fBase, LS (lsT intT) m.fImages, LS intT m.fCoding] 67 false, .gone, .box [LS intT (([0, 1] : List Int))] 22 true, .gone, mapI encS intT m4_2, rowI 22 (lsT intT) l5_2, rowI 3 intT zz.2]⟩) ((wr (x49 + 1)), (l6.set (x49).toNat e_4)) h (by kernel_rfl)
          · replace h := h.2 hb
            refine En.exit rfl ?_
            refine En.seq ?_
            refine En.region ?_
            refine WL.run ht hn 2 ⟨[(1, .sv (.one (.ptr 0 0))), (6, .sv (.one (LS intT (m.fCoding)))), (7, .sv (.one (.own 4))), (8, .sv (.one (.fn 66 [2]))), (9, .sv (.one (.own 5))), (11, .sv (.one (.own 6))), (39, .sv (.one (I m.fBase))), (40, .sv (.one (I x40))), (67, .sv (.one (.fn 66 [2]))), (68, .sv (.one (.own 6)))], [.box [I m.fBase, LS (lsT intT) m.fImages, LS intT m.fCoding] 67 false, .gone, .box [LS intT (([0, 1] : List Int))] 22 true, .gone, mapI encS intT m4_2, rowI 22 (lsT intT) l5_2, rowI 3 intT l6]⟩ (by kernel_rfl) ?_
            refine WL.ghost 67 (.sv (.one (.rd (fvR (fun (x_ : (List Int)) => [.sv (.one (LS intT x_))]) (fun (r : ByteArray) => .sv (.one (.v (.string r)))) (KerPre (([0, 1] : List Int))) (kerR (([0, 1] : List Int))))))) (by rfl) (fv_of (M := [.box [LS intT (([0, 1] : List Int))] 22 true]) (caps := [2]) (fun x_ hx => kerKey_ct x_ (([0, 1] : List Int)) hx) en66 rfl (by kernel_rfl) (by rfl) (fun _ => rfl)) ?_
            refine WL.seal (T := intT) (l := l6) (e := 3) 6 rfl ?_
            refine WL.run ht hn 0 ⟨[(1, .sv (.one (.ptr 0 0))), (6, .sv (.one (LS intT (m.fCoding)))), (7, .sv (.one (.own 4))), (8, .sv (.one (.fn 66 [2]))), (9, .sv (.one (.own 5))), (11, .sv (.one (LS intT l6))), (39, .sv (.one (I m.fBase))), (40, .sv (.one (I x40))), (67, .sv (.one (.rd (fvR (fun (x_ : (List Int)) => [.sv (.one (LS intT x_))]) (fun (r : ByteArray) => .sv (.one (.v (.string r)))) (KerPre (([0, 1] : List Int))) (kerR (([0, 1] : List Int))))))), (68, .sv (.one (LS intT l6)))], [.box [I m.fBase, LS (lsT intT) m.fImages, LS intT m.fCoding] 67 false, .gone, .box [LS intT (([0, 1] : List Int))] 22 true, .gone, mapI encS intT m4_2, rowI 22 (lsT intT) l5_2, .gone]⟩ (by kernel_rfl) ?_
            have hp := h.1
            replace h := h.2
            refine WL.mt0 (K := []) (p := none) hn (by rfl) (mt_callv l6 hp rfl (by rfl) (by rfl) (by rfl) (by rfl)) (by rfl) (by rfl) (by rfl) ?_
            refine WL.run ht hn 1 ⟨[(1, .sv (.one (.ptr 0 0))), (6, .sv (.one (LS intT (m.fCoding)))), (7, .sv (.one (.own 4))), (8, .sv (.one (.fn 66 [2]))), (9, .sv (.one (.own 5))), (11, .sv (.one (LS intT l6))), (14, .sv (.one (.v (.string ((kerR (([0, 1] : List Int))) l6))))), (39, .sv (.one (I m.fBase))), (40, .sv (.one (I x40)))], [.box [I m.fBase, LS (lsT intT) m.fImages, LS intT m.fCoding] 67 false, .gone, .box [LS intT (([0, 1] : List Int))] 22 true, .gone, mapI encS intT m4_2, rowI 22 (lsT intT) l5_2, .gone]⟩ (by kernel_rfl) ?_
            refine WL.nil ?_
            refine En.seq ?_
            refine En.region ?_
            refine WL.run ht hn 2 ⟨[(1, .sv (.one (.ptr 0 0))), (6, .sv (.one (LS intT (m.fCoding)))), (7, .sv (.one (.own 4))), (8, .sv (.one (.fn 66 [2]))), (9, .sv (.one (.own 5))), (11, .sv (.one (LS intT l6))), (14, .sv (.one (.v (.string ((kerR (([0, 1] : List Int))) l6))))), (39, .sv (.one (I m.fBase))), (40, .sv (.one (I x40))), (70, .sv (.one (.own 4))), (71, .sv (.one (.v (.string ((kerR (([0, 1] : List Int))) l6)))))], [.box [I m.fBase, LS (lsT intT) m.fImages, LS intT m.fCoding] 67 false, .gone, .box [LS intT (([0, 1] : List Int))] 22 true, .gone, mapI encS intT m4_2, rowI 22 (lsT intT) l5_2, .gone]⟩ (by kernel_rfl) ?_
            refine WL.val hn (by rfl) (val_lookup (T := intT) (D := m4_2) keyS9 (k := ((kerR (([0, 1] : List Int))) l6)) (ok := false) (0 : Int) (zv := (.int .i64 0)) rfl Try.underlying153 (fun _ => by kernel_rfl) (fun _ => ⟨rfl, trivial⟩) (mapAs encS intT m4_2) (by rfl) (by rfl) (by rfl) (fun _ => rfl)) (by rfl) ?_
            refine WL.run ht hn 1 ⟨[(1, .sv (.one (.ptr 0 0))), (6, .sv (.one (LS intT (m.fCoding)))), (7, .sv (.one (.own 4))), (8, .sv (.one (.fn 66 [2]))), (9, .sv (.one (.own 5))), (11, .sv (.one (LS intT l6))), (14, .sv (.one (.v (.string ((kerR (([0, 1] : List Int))) l6))))), (39, .sv (.one (I m.fBase))), (40, .sv (.one (I x40))), (73, .sv (.one (B (((mget ((kerR (([0, 1] : List Int))) l6) m4_2).getD (0 : Int)) == 0))))], [.box [I m.fBase, LS (lsT intT) m.fImages, LS intT m.fCoding] 67 false, .gone, .box [LS intT (([0, 1] : List Int))] 22 true, .gone, mapI encS intT m4_2, rowI 22 (lsT intT) l5_2, .gone]⟩ (by kernel_rfl) ?_
            refine WL.nil ?_
            refine En.cond (b := (((mget ((kerR (([0, 1] : List Int))) l6) m4_2).getD (0 : Int)) == 0)) (by kernel_rfl) (fun hb => ?_) (fun hb => ?_)
            · replace h := h.1 hb
              refine En.seq ?_
              refine En.region ?_
              refine WL.run ht hn 2 ⟨[(1, .sv (.one (.ptr 0 0))), (6, .sv (.one (LS intT (m.fCoding)))), (7, .sv (.one (.own 4))), (8, .sv (.one (.fn 66 [2]))), (9, .sv (.one (.own 5))), (11, .sv (.one (LS intT l6))), (39, .sv (.one (I m.fBase))), (40, .sv (.one (I x40))), (74, .sv (.one (.own 4))), (75, .sv (.one (.v (.string ((kerR (([0, 1] : List Int))) l6)))))], [.box [I m.fBase, LS (lsT intT) m.fImages, LS intT m.fCoding] 67 false, .gone, .box [LS intT (([0, 1] : List Int))] 22 true, .gone, mapI encS intT m4_2, rowI 22 (lsT intT) l5_2, .gone]⟩ (by kernel_rfl) ?_
              refine WL.mapPut (T := intT) keyS9 (k := ((kerR (([0, 1] : List Int))) l6)) (y := 1) hn (by rfl) (.inl rfl) Try.underlying153 (by rfl) (by rfl) (by rfl) (by rfl) (by rfl) (by rfl) ?_
              refine WL.nil ?_
              refine En.region ?_
              refine WL.run ht hn 2 ⟨[(1, .sv (.one (.ptr 0 0))), (6, .sv (.one (LS intT (m.fCoding)))), (7, .sv (.one (.own 4))), (8, .sv (.one (.fn 66 [2]))), (39, .sv (.one (I m.fBase))), (40, .sv (.one (I x40))), (76, .sv (.one (.own 5))), (77, .sv (.one (LS intT l6)))], [.box [I m.fBase, LS (lsT intT) m.fImages, LS intT m.fCoding] 67 false, .gone, .box [LS intT (([0, 1] : List Int))] 22 true, .gone, mapI encS intT (mput ((kerR (([0, 1] : List Int))) l6) 1 m4_2), rowI 22 (lsT intT) l5_2, .gone]⟩ (by kernel_rfl) ?_
              refine WL.mt0 (K := []) (p := some (7, rowI 22 (lsT intT) ([l6] : (List (List Int))))) hn (by rfl) (mt_lit (T := (lsT intT)) ([l6] : (List (List Int))) (mt_bsl 7 (r := cellsOf (lsT intT) ([l6] : (List (List Int)))) ht rfl (by rfl) (by rfl) (by rfl) (by kernel_rfl) (by rfl)) (fun _ h => by cases h) (fun _ => rfl) (fun _ => rfl) (by rfl) (Nat.le_of_ble_eq_true rfl)) (by rfl) (by rfl) (by rfl) ?_
              refine WL.seal (T := (lsT intT)) (l := ([l6] : (List (List Int)))) (e := 22) 7 rfl ?_
              refine WL.run ht hn 0 ⟨[(1, .sv (.one (.ptr 0 0))), (6, .sv (.one (LS intT (m.fCoding)))), (7, .sv (.one (.own 4))), (8, .sv (.one (.fn 66 [2]))), (39, .sv (.one (I m.fBase))), (40, .sv (.one (I x40))), (76, .sv (.one (.own 5))), (77, .sv (.one (LS intT l6))), (78, .sv (.one (LS (lsT intT) ([l6] : (List (List Int))))))], [.box [I m.fBase, LS (lsT intT) m.fImages, LS intT m.fCoding] 67 false, .gone, .box [LS intT (([0, 1] : List Int))] 22 true, .gone, mapI encS intT (mput ((kerR (([0, 1] : List Int))) l6) 1 m4_2), rowI 22 (lsT intT) l5_2, .gone, .gone]⟩ (by kernel_rfl) ?_
              have hp := h.1
              replace h := h.2
              refine WL.mt (S2 := ⟨[(1, .sv (.one (.ptr 0 0))), (6, .sv (.one (LS intT (m.fCoding)))), (7, .sv (.one (.own 4))), (8, .sv (.one (.fn 66 [2]))), (39, .sv (.one (I m.fBase))), (40, .sv (.one (I x40))), (77, .sv (.one (LS intT l6))), (78, .sv (.one (LS (lsT intT) ([l6] : (List (List Int))))))], [.box [I m.fBase, LS (lsT intT) m.fImages, LS intT m.fCoding] 67 false, .gone, .box [LS intT (([0, 1] : List Int))] 22 true, .gone, mapI encS intT (mput ((kerR (([0, 1] : List Int))) l6) 1 m4_2), rowI 22 (lsT intT) l5_2, .gone, .gone]⟩) (K := [5]) (p := some (5, rowI 22 (lsT intT) (l5_2 ++ ([l6] : (List (List Int)))))) hn (by rfl) (mt_append (T := (lsT intT)) (l := l5_2) (es := ([l6] : (List (List Int)))) ht rfl (by rfl) (by rfl) (by rfl) (by rfl) (by decide) (by rfl) (by rfl) (srcLS (T := (lsT intT)) (es := ([l6] : (List (List Int)))) (fun _ h => by cases h) (by decide) (by rfl)) (by exact hp) (by exact hp.le (by decide))) (by kernel_rfl) (by rfl) (by rfl) (by rfl) ?_
              refine WL.run ht hn 1 ⟨[(1, .sv (.one (.ptr 0 0))), (6, .sv (.one (LS intT (m.fCoding)))), (7, .sv (.one (.own 4))), (8, .sv (.one (.fn 66 [2]))), (9, .sv (.one (.own 5))), (39, .sv (.one (I m.fBase))), (40, .sv (.one (I x40)))], [.box [I m.fBase, LS (lsT intT) m.fImages, LS intT m.fCoding] 67 false, .gone, .box [LS intT (([0, 1] : List Int))] 22 true, .gone, mapI encS intT (mput ((kerR (([0, 1] : List Int))) l6) 1 m4_2), rowI 22 (lsT intT) (l5_2 ++ ([l6] : (List (List Int)))), .gone, .gone]⟩ (by kernel_rfl) ?_
              refine WL.nil ?_
              exact En.at (I := fun zz => J zz.1 zz.2) (T := fun zz => ⟨[(1, .sv (.one (.ptr 0 0))), (6, .sv (.one (LS intT (m.fCoding)))), (7, .sv (.one (.own 4))), (8, .sv (.one (.fn 66 [2]))), (9, .sv (.one (.own 5))), (39, .sv (.one (I m.fBase))), (40, .sv (.one (I x40)))], [.box [I m.fBase, LS (lsT intT) m.fImages, LS intT m.fCoding] 67 false, .gone, .box [LS intT (([0, 1] : List Int))] 22 true, .gone, mapI encS intT zz.1, rowI 22 (lsT intT) zz.2, .gone]⟩) ((mput ((kerR (([0, 1] : List Int))) l6) 1 m4_2), (l5_2 ++ ([l6] : (List (List Int))))) h (by kernel_rfl)
            · replace h := h.2 hb
              refine En.skip ?_
              exact En.at (I := fun zz => J zz.1 zz.2) (T := fun zz => ⟨[(1, .sv (.one (.ptr 0 0))), (6, .sv (.one (LS intT (m.fCoding)))), (7, .sv (.one (.own 4))), (8, .sv (.one (.fn 66 [2]))), (9, .sv (.one (.own 5))), (39, .sv (.one (I m.fBase))), (40, .sv (.one (I x40)))], [.box [I m.fBase, LS (lsT intT) m.fImages, LS intT m.fCoding] 67 false, .gone, .box [LS intT (([0, 1] : List Int))] 22 true, .gone, mapI encS intT zz.1, rowI 22 (lsT intT) zz.2, .gone]⟩) (m4_2, l5_2) h (by kernel_rfl)
        · rintro ⟨m4_3, l5_3⟩ h
          replace h := hJ _ _ h
          show En c ⟨[(1, .sv (.one (.ptr 0 0))), (6, .sv (.one (LS intT (m.fCoding)))), (7, .sv (.one (.own 4))), (8, .sv (.one (.fn 66 [2]))), (9, .sv (.one (.own 5))), (39, .sv (.one (I m.fBase))), (40, .sv (.one (I x40)))], [.box [I m.fBase, LS (lsT intT) m.fImages, LS intT m.fCoding] 67 false, .gone, .box [LS intT (([0, 1] : List Int))] 22 true, .gone, mapI encS intT m4_3, rowI 22 (lsT intT) l5_3, .gone]⟩ _
          refine En.region ?_
          refine WL.run ht hn 2 ⟨[(1, .sv (.one (.ptr 0 0))), (6, .sv (.one (LS intT (m.fCoding)))), (7, .sv (.one (.own 4))), (8, .sv (.one (.fn 66 [2]))), (9, .sv (.one (.own 5))), (39, .sv (.one (I m.fBase))), (40, .sv (.one (I (wr (x40 + 1)))))], [.box [I m.fBase, LS (lsT intT) m.fImages, LS intT m.fCoding] 67 false, .gone, .box [LS intT (([0, 1] : List Int))] 22 true, .gone, mapI encS intT m4_3, rowI 22 (lsT intT) l5_3, .gone]⟩ (by kernel_rfl) ?_
          refine WL.nil ?_
          exact En.at (I := fun zz => Inv_2 zz.1 zz.2.1 zz.2.2 ∧ mu_2 zz.1 zz.2.1 zz.2.2 < mu_2 x40 m4_2 l5_2) (T := fun zz => ⟨[(1, .sv (.one (.ptr 0 0))), (6, .sv (.one (LS intT (m.fCoding)))), (7, .sv (.one (.own 4))), (8, .sv (.one (.fn 66 [2]))), (9, .sv (.one (.own 5))), (39, .sv (.one (I m.fBase))), (40, .sv (.one (I zz.1)))], [.box [I m.fBase, LS (lsT intT) m.fImages, LS intT m.fCoding] 67 false, .gone, .box [LS intT (([0, 1] : List Int))] 22 true, .gone, mapI encS intT zz.2.1, rowI 22 (lsT intT) zz.2.2]⟩) ((wr (x40 + 1)), m4_3, l5_3) h (by kernel_rfl)
      · replace h := h.2 hb
        refine En.exit rfl ?_
        refine En.region ?_
        refine WL.run ht hn 1 ⟨[(1, .sv (.one (.ptr 0 0))), (6, .sv (.one (LS intT (m.fCoding)))), (7, .sv (.one (.own 4))), (8, .sv (.one (.fn 66 [2]))), (36, .sv (.one (.own 5)))], [.box [I m.fBase, LS (lsT intT) m.fImages, LS intT m.fCoding] 67 false, .gone, .box [LS intT (([0, 1] : List Int))] 22 true, .gone, mapI encS intT m4_2, rowI 22 (lsT intT) l5_2]⟩ (by kernel_rfl) ?_
        have hp_2 := h.1
        replace h := h.2
        refine WL.mt (S2 := ⟨[(1, .sv (.one (.ptr 0 0))), (6, .sv (.one (LS intT (m.fCoding)))), (7, .sv (.one (.own 4))), (8, .sv (.one (.fn 66 [2])))], [.box [I m.fBase, LS (lsT intT) m.fImages, LS intT m.fCoding] 67 false, .gone, .box [LS intT (([0, 1] : List Int))] 22 true, .gone, mapI encS intT m4_2, rowI 22 (lsT intT) l5_2]⟩) (K := [5]) (p := some (5, rowI 22 (lsT intT) (l5_2.drop (1 : Int).toNat))) hn (by rfl) (mt_sliceF (T := (lsT intT)) (l := l5_2) (p := 5) (lv := 1) ht rfl (by rfl) (by rfl) (by rfl) (by rfl) (by rfl) (by rfl) (by rfl) hp_2) (by kernel_rfl) (by rfl) (by rfl) (by rfl) ?_
        refine WL.run ht hn 1 ⟨[(1, .sv (.one (.ptr 0 0))), (6, .sv (.one (LS intT (m.fCoding)))), (7, .sv (.one (.own 4))), (8, .sv (.one (.fn 66 [2]))), (9, .sv (.one (.own 5)))], [.box [I m.fBase, LS (lsT intT) m.fImages, LS intT m.fCoding] 67 false, .gone, .box [LS intT (([0, 1] : List Int))] 22 true, .gone, mapI encS intT m4_2, rowI 22 (lsT intT) (l5_2.drop (1 : Int).toNat)]⟩ (by kernel_rfl) ?_
        refine WL.nil ?_
        exact En.at (I := fun zz => Inv zz.1 zz.2 ∧ mu zz.1 zz.2 < mu m4 l5) (T := fun zz => ⟨[(1, .sv (.one (.ptr 0 0))), (6, .sv (.one (LS intT (m.fCoding)))), (7, .sv (.one (.own 4))), (8, .sv (.one (.fn 66 [2]))), (9, .sv (.one (.own 5)))], [.box [I m.fBase, LS (lsT intT) m.fImages, LS intT m.fCoding] 67 false, .gone, .box [LS intT (([0, 1] : List Int))] 22 true, .gone, mapI encS intT zz.1, rowI 22 (lsT intT) zz.2]⟩) (m4_2, (l5_2.drop (1 : Int).toNat)) h (by kernel_rfl)
    · replace h := h.2 hb
      refine En.exit rfl ?_
      refine En.seq ?_
      refine En.region ?_
      refine WL.run ht hn 1 ⟨[(81, .sv (.one (.own 4)))], [.gone, .gone, .gone, .gone, mapI encS intT m4, .gone]⟩ (by kernel_rfl) ?_
      refine WL.val hn (by rfl) (val_lenM (enc := encS) (T := intT) (D := m4) rfl Try.underlying153 (by rfl) (by rfl) (mapAs _ _ _)) (by rfl) ?_
      refine WL.run ht hn 2 ⟨[(2, .sv (.one (I (m4.length : Int)))), (3, .sv (.one (I 0)))], [.gone, .gone, .gone, .gone, .gone, .gone]⟩ (by kernel_rfl) ?_
      refine WL.nil ?_
      refine En.ret ?_
      exact En.back ht ((m4.length : Int), 0) h (by kernel_rfl) rfl
theorem en28 : ∀ args w, (callFunc 28 args).run Try.prog w = .ok (.enter 28 args) w := enters_of Try.func28 (by kernel_rfl) rfl
end Go.Proofs.Ytfpdnigihjmohaa

/- seqs.Kernel for one morphism; the law SeqsGoes. No condition. -/
namespace Go.Proofs.Ytfpdnigihjmohaa
open Go.RowKit Go.MapKept
set_option linter.unusedSimpArgs false
set_option linter.unusedVariables false
set_option maxRecDepth 100000

def kK0 : ByteArray := kerR ([0, 1] : List Int) [0, 1]
def kK1 : ByteArray := kerR ([0, 1] : List Int) [1, 0]
theorem kK_ne : kK0 ≠ kK1 := by
  intro h
  have := congrArg (fun b : ByteArray => b.data.toList) h
  revert this
  decide +kernel
def kD1 : List (ByteArray × Int) := mput kK0 1 []
def kD2 : List (ByteArray × Int) := mput kK1 1 kD1
theorem seenD10 : (mget (kerR ([0, 1] : List Int) [0, 1]) kD1).getD (0 : Int) = 1 := by
  show (mget kK0 (mput kK0 1 [])).getD 0 = 1
  rw [mget_put, if_pos rfl]
  rfl
theorem seenD11 : (mget (kerR ([0, 1] : List Int) [1, 0]) kD1).getD (0 : Int) = 0 := by
  show (mget kK1 (mput kK0 1 [])).getD 0 = 0
  rw [mget_put, if_neg (fun h => kK_ne h.symm)]
  rfl
theorem seenD20 : (mget (kerR ([0, 1] : List Int) [0, 1]) kD2).getD (0 : Int) = 1 := by
  show (mget kK0 (mput kK1 1 kD1)).getD 0 = 1
  rw [mget_put, if_neg kK_ne]
  exact seenD10
theorem seenD21 : (mget (kerR ([0, 1] : List Int) [1, 0]) kD2).getD (0 : Int) = 1 := by
  show (mget kK1 (mput kK1 1 kD1)).getD 0 = 1
  rw [mget_put, if_pos rfl]
  rfl
theorem put_lenS {D : List (ByteArray × Int)} {k : ByteArray} (h : mget k D = none) : (mput k (1 : Int) D).length = D.length + 1 := by
  have h1 := mput_keys (a := k) (v := (1 : Int)) (D := D)
  rw [if_neg (mget_none.1 h)] at h1
  have := congrArg List.length h1
  simpa using this
theorem lenD2 : kD2.length = 2 := by
  have h1 : mget kK1 kD1 = none := by
    show mget kK1 (mput kK0 1 []) = none
    rw [mget_put, if_neg (fun h => kK_ne h.symm)]
    rfl
  rw [kD2, put_lenS h1]
  rfl
theorem kerPre_two {f : List Int} (h : f.length = 2) (_ : True) : KerPre ([0, 1] : List Int) f := ⟨by decide, fun a ha => by
  rw [h]
  simp only [List.mem_cons, List.not_mem_nil, or_false] at ha
  omega⟩
theorem seqKernel_ct (m : ApiMorph) (hd : m = morse) : Ct 28 [.sv (.agg [I m.fBase, LS (lsT intT) m.fImages, LS intT m.fCoding])] [] (fun (_ : Unit) => True) (fun _ => .tup [.one (I (((2 : Int), (0 : Int))).1), .one (I (((2 : Int), (0 : Int))).2)]) := by
  refine (seqKernel_walk m (fun res_ => res_ = (((2 : Int), (0 : Int)))) ?_).fun
  intro _ _
  subst hd
  refine ⟨fun h => absurd h (by decide), fun _ => ⟨rfl, by decide, kerPre_two (by decide) trivial, fun D l => (D = kD1 ∧ l = [([0, 1] : List Int)]) ∨ (D = kD2 ∧ l = [([1, 0] : List Int)]) ∨ (D = kD2 ∧ l = []), fun D l => if l = [] then 0 else if l = [([1, 0] : List Int)] then 1 else 2, .inl ⟨rfl, rfl⟩, ?_⟩⟩
  rintro D l (⟨rfl, rfl⟩ | ⟨rfl, rfl⟩ | ⟨rfl, rfl⟩)
  · refine ⟨fun _ => ⟨fun x D l => (x = 0 ∧ D = kD1 ∧ l = [([0, 1] : List Int)]) ∨ (x = 1 ∧ D = kD1 ∧ l = [([0, 1] : List Int)]) ∨ (x = 2 ∧ D = kD2 ∧ l = [([0, 1] : List Int), [1, 0]]), fun x _ _ => 2 - x.toNat, .inl ⟨rfl, rfl, rfl⟩, ?_⟩, fun h => absurd h (by decide)⟩
    rintro x D l (⟨rfl, rfl, rfl⟩ | ⟨rfl, rfl, rfl⟩ | ⟨rfl, rfl, rfl⟩)
    · refine ⟨fun _ => ?_, fun h => absurd h (by decide)⟩
      refine ⟨fun m l => m = kD1 ∧ l = [([0, 1] : List Int)], ⟨⟨by decide, by decide, by decide⟩, fun x r => (x = 0 ∧ r = [0, 0]) ∨ (x = 1 ∧ r = [0, 0]) ∨ (x = 2 ∧ r = [0, 1]), fun x _ => 2 - x.toNat, .inl ⟨rfl, rfl⟩, ?_⟩, ?_⟩
      · rintro x r (⟨rfl, rfl⟩ | ⟨rfl, rfl⟩ | ⟨rfl, rfl⟩)
        · exact ⟨fun _ => ⟨[0, 1], rfl, [0, 1], rfl, 0, rfl, 0, rfl, 0, rfl, .inr (.inl ⟨by decide, rfl⟩), by decide⟩, fun h => absurd h (by decide)⟩
        · exact ⟨fun _ => ⟨[1, 0], rfl, [0, 1], rfl, 1, rfl, 1, rfl, 0, rfl, .inr (.inr ⟨by decide, rfl⟩), by decide⟩, fun h => absurd h (by decide)⟩
        · refine ⟨fun h => absurd h (by decide), fun _ => ⟨kerPre_two (by decide) (by decide), ?_⟩⟩
          exact ⟨fun h => by rw [seenD10] at h; exact absurd h (by decide), fun _ => ⟨rfl, rfl⟩⟩
      · rintro D l ⟨rfl, rfl⟩
        exact ⟨.inr (.inl ⟨by decide, rfl, rfl⟩), by decide⟩
    · refine ⟨fun _ => ?_, fun h => absurd h (by decide)⟩
      refine ⟨fun m l => m = kD2 ∧ l = [([0, 1] : List Int), [1, 0]], ⟨⟨by decide, by decide, by decide⟩, fun x r => (x = 0 ∧ r = [0, 0]) ∨ (x = 1 ∧ r = [1, 0]) ∨ (x = 2 ∧ r = [1, 0]), fun x _ => 2 - x.toNat, .inl ⟨rfl, rfl⟩, ?_⟩, ?_⟩
      · rintro x r (⟨rfl, rfl⟩ | ⟨rfl, rfl⟩ | ⟨rfl, rfl⟩)
        · exact ⟨fun _ => ⟨[0, 1], rfl, [0, 1], rfl, 1, rfl, 1, rfl, 0, rfl, .inr (.inl ⟨by decide, rfl⟩), by decide⟩, fun h => absurd h (by decide)⟩
        · exact ⟨fun _ => ⟨[1, 0], rfl, [0, 1], rfl, 0, rfl, 0, rfl, 0, rfl, .inr (.inr ⟨by decide, rfl⟩), by decide⟩, fun h => absurd h (by decide)⟩
        · refine ⟨fun h => absurd h (by decide), fun _ => ⟨kerPre_two (by decide) (by decide), ?_⟩⟩
          exact ⟨fun _ => ⟨capOk_of (by decide), rfl, rfl⟩, fun h => by rw [seenD11] at h; exact absurd h (by decide)⟩
      · rintro D l ⟨rfl, rfl⟩
        exact ⟨.inr (.inr ⟨by decide, rfl, rfl⟩), by decide⟩
    · exact ⟨fun h => absurd h (by decide), fun _ => ⟨by decide, .inr (.inl ⟨rfl, rfl⟩), by decide⟩⟩
  · refine ⟨fun _ => ⟨fun x D l => (x = 0 ∨ x = 1 ∨ x = 2) ∧ D = kD2 ∧ l = [([1, 0] : List Int)], fun x _ _ => 2 - x.toNat, ⟨.inl rfl, rfl, rfl⟩, ?_⟩, fun h => absurd h (by decide)⟩
    rintro x D l ⟨rfl | rfl | rfl, rfl, rfl⟩
    · refine ⟨fun _ => ?_, fun h => absurd h (by decide)⟩
      refine ⟨fun m l => m = kD2 ∧ l = [([1, 0] : List Int)], ⟨⟨by decide, by decide, by decide⟩, fun x r => (x = 0 ∧ r = [0, 0]) ∨ (x = 1 ∧ r = [1, 0]) ∨ (x = 2 ∧ r = [1, 0]), fun x _ => 2 - x.toNat, .inl ⟨rfl, rfl⟩, ?_⟩, ?_⟩
      · rintro x r (⟨rfl, rfl⟩ | ⟨rfl, rfl⟩ | ⟨rfl, rfl⟩)
        · exact ⟨fun _ => ⟨[0, 1], rfl, [1, 0], rfl, 0, rfl, 1, rfl, 0, rfl, .inr (.inl ⟨by decide, rfl⟩), by decide⟩, fun h => absurd h (by decide)⟩
        · exact ⟨fun _ => ⟨[1, 0], rfl, [1, 0], rfl, 1, rfl, 0, rfl, 0, rfl, .inr (.inr ⟨by decide, rfl⟩), by decide⟩, fun h => absurd h (by decide)⟩
        · refine ⟨fun h => absurd h (by decide), fun _ => ⟨kerPre_two (by decide) (by decide), ?_⟩⟩
          exact ⟨fun h => by rw [seenD21] at h; exact absurd h (by decide), fun _ => ⟨rfl, rfl⟩⟩
      · rintro D l ⟨rfl, rfl⟩
        exact ⟨⟨.inr (.inl (by decide)), rfl, rfl⟩, by decide⟩
    · refine ⟨fun _ => ?_, fun h => absurd h (by decide)⟩
      refine ⟨fun m l => m = kD2 ∧ l = [([1, 0] : List Int)], ⟨⟨by decide, by decide, by decide⟩, fun x r => (x = 0 ∧ r = [0, 0]) ∨ (x = 1 ∧ r = [0, 0]) ∨ (x = 2 ∧ r = [0, 1]), fun x _ => 2 - x.toNat, .inl ⟨rfl, rfl⟩, ?_⟩, ?_⟩
      · rintro x r (⟨rfl, rfl⟩ | ⟨rfl, rfl⟩ | ⟨rfl, rfl⟩)
        · exact ⟨fun _ => ⟨[0, 1], rfl, [1, 0], rfl, 1, rfl, 0, rfl, 0, rfl, .inr (.inl ⟨by decide, rfl⟩), by decide⟩, fun h => absurd h (by decide)⟩
        · exact ⟨fun _ => ⟨[1, 0], rfl, [1, 0], rfl, 0, rfl, 1, rfl, 0, rfl, .inr (.inr ⟨by decide, rfl⟩), by decide⟩, fun h => absurd h (by decide)⟩
        · refine ⟨fun h => absurd h (by decide), fun _ => ⟨kerPre_two (by decide) (by decide), ?_⟩⟩
          exact ⟨fun h => by rw [seenD20] at h; exact absurd h (by decide), fun _ => ⟨rfl, rfl⟩⟩
      · rintro D l ⟨rfl, rfl⟩
        exact ⟨⟨.inr (.inr (by decide)), rfl, rfl⟩, by decide⟩
    · exact ⟨fun h => absurd h (by decide), fun _ => ⟨by decide, .inr (.inr ⟨rfl, rfl⟩), by decide⟩⟩
  · refine ⟨fun h => absurd h (by decide), fun _ => ?_⟩
    show (((kD2.length : Nat) : Int), (0 : Int)) = _
    rw [lenD2]
    rfl
def kerTwo : Int × Int := (2, 0)
def noDiffer : Int × Bool × Int := (0, false, 0)
def seqsGoes_vc (m : ApiMorph) (n : Int) (Q : Bool → Prop) : Prop :=
  m.fImages.length ≤ 9223372036854775807 →
  m.fCoding.length ≤ 9223372036854775807 →
  (((ApiMorph.mk 2 ([([0, 1] : (List Int)), ([1, 0] : (List Int))] : (List (List Int))) ([0, 1] : (List Int))) = morse) ∧
  IfP (((kerTwo).2 != 0) || ((kerTwo).1 != 2)) (Q false) (IfP ((decide (n < 0)) || (decide (n > 1000000000000))) (Q true) (IfP ((countsR m n).2 != 0) (Q true) ((n ≤ 1000000000000000) ∧
  (m = m ∧ seqErr m = 0) ∧
  IfP (((((((((countsR m (wr (n + 1))).2 != 0) || ((atR m n).2 != 0)) || ((noDiffer).2.2 != 0)) || (noDiffer).2.1) || (((countsR m n).1.length : Int) != 10)) || (((countsR m (wr (n + 1))).1.length : Int) != 10)) || (decide ((atR m n).1 < 0))) || (decide ((atR m n).1 > 9))) (Q false) (∃ (Inv : Int → Int → Prop) (mu : Int → Int → Nat), Inv 0 0 ∧
  ∀ (x15 : Int) (x16 : Int) , Inv x15 x16 → (IfP (decide (x16 < 10)) (∃ e, idx (countsR m n).1 x16 = some e ∧
  ∃ J : Int → Prop, (IfP (x16 == (atR m n).1) (J (wr (e + 1))) (J e)) ∧
  (∀ (x17 : Int), J x17 → ∃ e_2, idx (countsR m (wr (n + 1))).1 x16 = some e_2 ∧
  IfP (e_2 != x17) (Q false) (∃ e_3, idx (countsR m n).1 x16 = some e_3 ∧
  (Inv (wr (x15 + e_3)) (wr (x16 + 1)) ∧ mu (wr (x15 + e_3)) (wr (x16 + 1)) < mu x15 x16)))) (Q (x15 == n))))))))
set_option maxHeartbeats 2000000 in
theorem seqsGoes_walk (m : ApiMorph) (n : Int) (Q : Bool → Prop) (h : seqsGoes_vc m n Q) : Ct 9 [.sv (.agg [I m.fBase, LS (lsT intT) m.fImages, LS intT m.fCoding]), .sv (.one (I n))] [] Q (fun (r : Bool) => .sv (.one (B r))) := by
  have ht := tab_ok
  refine Ct.body Try.func9 rfl rfl rfl rfl (fun c hn => ?_)
  unfold seqsGoes_vc at h
  refine En.lenA 0 1 (by rfl) (by rfl) (fun hl => ?_)
  replace h := h hl
  clear hl
  refine En.lenA 0 2 (by rfl) (by rfl) (fun hl => ?_)
  replace h := h hl
  clear hl
  refine En.seq ?_
  refine En.region ?_
  refine WL.run ht hn 2 ⟨[(1, .sv (.one (I n))), (2, .sv (.one (.ptr 0 0)))], [.box [I m.fBase, LS (lsT intT) m.fImages, LS intT m.fCoding] 67 false]⟩ (by kernel_rfl) ?_
  refine WL.nil ?_
  refine En.seq ?_
  refine En.region ?_
  refine WL.mt0 (K := []) (p := some (1, rowI 3 intT ([0, 1] : (List Int)))) hn (by rfl) (mt_lit (T := intT) ([0, 1] : (List Int)) (mt_bsl 1 (r := cellsOf intT ([0, 1] : (List Int))) ht rfl (by rfl) (by rfl) (by rfl) (by kernel_rfl) (by rfl)) (fun _ h => by cases h) (fun _ => rfl) (fun _ => rfl) (by rfl) (Nat.le_of_ble_eq_true rfl)) (by rfl) (by rfl) (by rfl) ?_
  refine WL.mt0 (K := []) (p := some (2, rowI 3 intT ([1, 0] : (List Int)))) hn (by rfl) (mt_lit (T := intT) ([1, 0] : (List Int)) (mt_bsl 2 (r := cellsOf intT ([1, 0] : (List Int))) ht rfl (by rfl) (by rfl) (by rfl) (by kernel_rfl) (by rfl)) (fun _ h => by cases h) (fun _ => rfl) (fun _ => rfl) (by rfl) (Nat.le_of_ble_eq_true rfl)) (by rfl) (by rfl) (by rfl) ?_
  refine WL.seal (T := intT) (l := ([0, 1] : (List Int))) (e := 3) 1 rfl ?_
  refine WL.run ht hn 0 ⟨[(1, .sv (.one (I n))), (2, .sv (.one (.ptr 0 0))), (19, .sv (.one (LS intT ([0, 1] : (List Int))))), (20, .sv (.one (.own 2)))], [.box [I m.fBase, LS (lsT intT) m.fImages, LS intT m.fCoding] 67 false, .gone, rowI 3 intT ([1, 0] : (List Int))]⟩ (by kernel_rfl) ?_
  refine WL.seal (T := intT) (l := ([1, 0] : (List Int))) (e := 3) 2 rfl ?_
  refine WL.run ht hn 0 ⟨[(1, .sv (.one (I n))), (2, .sv (.one (.ptr 0 0))), (19, .sv (.one (LS intT ([0, 1] : (List Int))))), (20, .sv (.one (LS intT ([1, 0] : (List Int)))))], [.box [I m.fBase, LS (lsT intT) m.fImages, LS intT m.fCoding] 67 false, .gone, .gone]⟩ (by kernel_rfl) ?_
  refine WL.mt0 (K := []) (p := some (3, rowI 22 (lsT intT) ([([0, 1] : (List Int)), ([1, 0] : (List Int))] : (List (List Int))))) hn (by rfl) (mt_lit (T := (lsT intT)) ([([0, 1] : (List Int)), ([1, 0] : (List Int))] : (List (List Int))) (mt_bsl 3 (r := cellsOf (lsT intT) ([([0, 1] : (List Int)), ([1, 0] : (List Int))] : (List (List Int)))) ht rfl (by rfl) (by rfl) (by rfl) (by kernel_rfl) (by rfl)) (fun _ h => by cases h) (fun _ => rfl) (fun _ => rfl) (by rfl) (Nat.le_of_ble_eq_true rfl)) (by rfl) (by rfl) (by rfl) ?_
  refine WL.mt0 (K := []) (p := some (4, rowI 3 intT ([0, 1] : (List Int)))) hn (by rfl) (mt_lit (T := intT) ([0, 1] : (List Int)) (mt_bsl 4 (r := cellsOf intT ([0, 1] : (List Int))) ht rfl (by rfl) (by rfl) (by rfl) (by kernel_rfl) (by rfl)) (fun _ h => by cases h) (fun _ => rfl) (fun _ => rfl) (by rfl) (Nat.le_of_ble_eq_true rfl)) (by rfl) (by rfl) (by rfl) ?_
  refine WL.run ht hn 1 ⟨[(1, .sv (.one (I n))), (2, .sv (.one (.ptr 0 0))), (23, .sv (.agg [I 2, .own 3, .own 4]))], [.box [I m.fBase, LS (lsT intT) m.fImages, LS intT m.fCoding] 67 false, .gone, .gone, rowI 22 (lsT intT) ([([0, 1] : (List Int)), ([1, 0] : (List Int))] : (List (List Int))), rowI 3 intT ([0, 1] : (List Int))]⟩ (by kernel_rfl) ?_
  have hp := h.1
  replace h := h.2
  refine WL.mt0 (K := []) (p := none) hn (by rfl) (mt_lend (T := (lsT intT)) (l := ([([0, 1] : (List Int)), ([1, 0] : (List Int))] : (List (List Int)))) 3 (by rfl) (by rfl) (mt_lend (T := intT) (l := ([0, 1] : (List Int))) 4 (by rfl) (by rfl) (mt_call (seqKernel_ct (ApiMorph.mk 2 ([([0, 1] : (List Int)), ([1, 0] : (List Int))] : (List (List Int))) ([0, 1] : (List Int))) hp) en28 (caps := []) [] rfl (by rfl) (by kernel_rfl) (by kernel_rfl) (by rfl) (by rfl) (by rfl)))) (by rfl) (by rfl) (by rfl) ?_
  refine WL.run ht hn 5 ⟨[(1, .sv (.one (I n))), (2, .sv (.one (.ptr 0 0))), (5, .sv (.one (I (kerTwo).1))), (6, .sv (.one (I (kerTwo).2)))], [.box [I m.fBase, LS (lsT intT) m.fImages, LS intT m.fCoding] 67 false, .gone, .gone, .gone, .gone]⟩ (by kernel_rfl) ?_
  refine WL.nil ?_
  refine En.seq ?_
  refine En.seq ?_
  refine En.region ?_
  refine WL.run ht hn 3 ⟨[(1, .sv (.one (I n))), (2, .sv (.one (.ptr 0 0))), (5, .sv (.one (I (kerTwo).1))), (29, .sv (.one (B ((kerTwo).2 != 0))))], [.box [I m.fBase, LS (lsT intT) m.fImages, LS intT m.fCoding] 67 false, .gone, .gone, .gone, .gone]⟩ (by kernel_rfl) ?_
  refine WL.thru ⟨[(1, .sv (.one (I n))), (2, .sv (.one (.ptr 0 0))), (32, .sv (.one (B (((kerTwo).2 != 0) || ((kerTwo).1 != 2)))))], [.box [I m.fBase, LS (lsT intT) m.fImages, LS intT m.fCoding] 67 false, .gone, .gone, .gone, .gone]⟩ ?_ ?_
  · refine splitB ((kerTwo).2 != 0) (fun hb0 => ?_) (fun hb0 => ?_)
    · refine WL.setB 29 hb0 (by kernel_rfl) ?_
      refine WL.run ht hn 3 ⟨[(1, .sv (.one (I n))), (2, .sv (.one (.ptr 0 0))), (32, .sv (.one (B true)))], [.box [I m.fBase, LS (lsT intT) m.fImages, LS intT m.fCoding] 67 false, .gone, .gone, .gone, .gone]⟩ (by kernel_rfl) ?_
      exact WL.nil (sub_ok (by simp only [hb0]; kernel_rfl))
    · refine WL.setB 29 hb0 (by kernel_rfl) ?_
      refine WL.run ht hn 3 ⟨[(1, .sv (.one (I n))), (2, .sv (.one (.ptr 0 0))), (32, .sv (.one (B ((kerTwo).1 != 2))))], [.box [I m.fBase, LS (lsT intT) m.fImages, LS intT m.fCoding] 67 false, .gone, .gone, .gone, .gone]⟩ (by kernel_rfl) ?_
      exact WL.nil (sub_ok (by simp only [hb0]; kernel_rfl))
  · refine En.cond (b := (((kerTwo).2 != 0) || ((kerTwo).1 != 2))) (by kernel_rfl) (fun hb => ?_) (fun hb => ?_)
    · replace h := h.1 hb
      refine En.seq ?_
      refine En.region ?_
      refine WL.run ht hn 1 ⟨[(4, .sv (.one (B false)))], [.gone, .gone, .gone, .gone, .gone]⟩ (by kernel_rfl) ?_
      refine WL.nil ?_
      refine En.ret ?_
      exact En.back ht false h (by kernel_rfl) rfl
    · replace h := h.2 hb
      refine En.skip ?_
      refine En.seq ?_
      refine En.seq ?_
      refine En.region ?_
      refine WL.run ht hn 3 ⟨[(1, .sv (.one (I n))), (2, .sv (.one (.ptr 0 0))), (35, .sv (.one (B (decide (n < 0)))))], [.box [I m.fBase, LS (lsT intT) m.fImages, LS intT m.fCoding] 67 false, .gone, .gone, .gone, .gone]⟩ (by kernel_rfl) ?_
      refine WL.thru ⟨[(1, .sv (.one (I n))), (2, .sv (.one (.ptr 0 0))), (38, .sv (.one (B ((decide (n < 0)) || (decide (n > 1000000000000))))))], [.box [I m.fBase, LS (lsT intT) m.fImages, LS intT m.fCoding] 67 false, .gone, .gone, .gone, .gone]⟩ ?_ ?_
      · refine splitB (decide (n < 0)) (fun hb0 => ?_) (fun hb0 => ?_)
        · refine WL.setB 35 hb0 (by kernel_rfl) ?_
          refine WL.run ht hn 3 ⟨[(1, .sv (.one (I n))), (2, .sv (.one (.ptr 0 0))), (38, .sv (.one (B true)))], [.box [I m.fBase, LS (lsT intT) m.fImages, LS intT m.fCoding] 67 false, .gone, .gone, .gone, .gone]⟩ (by kernel_rfl) ?_
          exact WL.nil (sub_ok (by simp only [hb0]; kernel_rfl))
        · refine WL.setB 35 hb0 (by kernel_rfl) ?_
          refine WL.run ht hn 3 ⟨[(1, .sv (.one (I n))), (2, .sv (.one (.ptr 0 0))), (38, .sv (.one (B (decide (n > 1000000000000)))))], [.box [I m.fBase, LS (lsT intT) m.fImages, LS intT m.fCoding] 67 false, .gone, .gone, .gone, .gone]⟩ (by kernel_rfl) ?_
          exact WL.nil (sub_ok (by simp only [hb0]; kernel_rfl))
      · refine En.cond (b := ((decide (n < 0)) || (decide (n > 1000000000000)))) (by kernel_rfl) (fun hb => ?_) (fun hb => ?_)
        · replace h := h.1 hb
          refine En.seq ?_
          refine En.region ?_
          refine WL.run ht hn 1 ⟨[(4, .sv (.one (B true)))], [.gone, .gone, .gone, .gone, .gone]⟩ (by kernel_rfl) ?_
          refine WL.nil ?_
          refine En.ret ?_
          exact En.back ht true h (by kernel_rfl) rfl
        · replace h := h.2 hb
          refine En.skip ?_
          refine En.seq ?_
          refine En.region ?_
          refine WL.run ht hn 2 ⟨[(1, .sv (.one (I n))), (2, .sv (.one (.ptr 0 0))), (40, .sv (.agg [I m.fBase, LS (lsT intT) m.fImages, LS intT m.fCoding])), (41, .sv (.one (I n)))], [.box [I m.fBase, LS (lsT intT) m.fImages, LS intT m.fCoding] 67 false, .gone, .gone, .gone, .gone]⟩ (by kernel_rfl) ?_
          refine WL.mt0 (K := []) (p := none) hn (by rfl) (mt_call (seqCounts_ct m n) en29 (caps := []) [] rfl (by rfl) (by kernel_rfl) (by kernel_rfl) (by rfl) (by rfl) (by rfl)) (by rfl) (by rfl) (by rfl) ?_
          refine WL.run ht hn 5 ⟨[(1, .sv (.one (I n))), (2, .sv (.one (.ptr 0 0))), (6, .sv (.one (I (countsR m n).2))), (7, .sv (.one (LS intT (countsR m n).1)))], [.box [I m.fBase, LS (lsT intT) m.fImages, LS intT m.fCoding] 67 false, .gone, .gone, .gone, .gone]⟩ (by kernel_rfl) ?_
          refine WL.nil ?_
          refine En.seq ?_
          refine En.seq ?_
          refine En.region ?_
          refine WL.run ht hn 2 ⟨[(1, .sv (.one (I n))), (2, .sv (.one (.ptr 0 0))), (7, .sv (.one (LS intT (countsR m n).1))), (46, .sv (.one (B ((countsR m n).2 != 0))))], [.box [I m.fBase, LS (lsT intT) m.fImages, LS intT m.fCoding] 67 false, .gone, .gone, .gone, .gone]⟩ (by kernel_rfl) ?_
          refine WL.nil ?_
          refine En.cond (b := ((countsR m n).2 != 0)) (by kernel_rfl) (fun hb => ?_) (fun hb => ?_)
          · replace h := h.1 hb
            refine En.seq ?_
            refine En.region ?_
            refine WL.run ht hn 1 ⟨[(4, .sv (.one (B true)))], [.gone, .gone, .gone, .gone, .gone]⟩ (by kernel_rfl) ?_
            refine WL.nil ?_
            refine En.ret ?_
            exact En.back ht true h (by kernel_rfl) rfl
          · replace h := h.2 hb
            refine En.skip ?_
            refine En.seq ?_
            refine En.region ?_
            refine WL.run ht hn 3 ⟨[(1, .sv (.one (I n))), (2, .sv (.one (.ptr 0 0))), (7, .sv (.one (LS intT (countsR m n).1))), (48, .sv (.agg [I m.fBase, LS (lsT intT) m.fImages, LS intT m.fCoding])), (50, .sv (.one (I (wr (n + 1)))))], [.box [I m.fBase, LS (lsT intT) m.fImages, LS intT m.fCoding] 67 false, .gone, .gone, .gone, .gone]⟩ (by kernel_rfl) ?_
            refine WL.mt0 (K := []) (p := none) hn (by rfl) (mt_call (seqCounts_ct m (wr (n + 1))) en29 (caps := []) [] rfl (by rfl) (by kernel_rfl) (by kernel_rfl) (by rfl) (by rfl) (by rfl)) (by rfl) (by rfl) (by rfl) ?_
            refine WL.run ht hn 5 ⟨[(1, .sv (.one (I n))), (2, .sv (.one (.ptr 0 0))), (7, .sv (.one (LS intT (countsR m n).1))), (8, .sv (.one (LS intT (countsR m (wr (n + 1))).1))), (9, .sv (.one (I (countsR m (wr (n + 1))).2)))], [.box [I m.fBase, LS (lsT intT) m.fImages, LS intT m.fCoding] 67 false, .gone, .gone, .gone, .gone]⟩ (by kernel_rfl) ?_
            refine WL.nil ?_
            refine En.seq ?_
            refine En.region ?_
            refine WL.run ht hn 2 ⟨[(1, .sv (.one (I n))), (2, .sv (.one (.ptr 0 0))), (7, .sv (.one (LS intT (countsR m n).1))), (8, .sv (.one (LS intT (countsR m (wr (n + 1))).1))), (9, .sv (.one (I (countsR m (wr (n + 1))).2))), (55, .sv (.agg [I m.fBase, LS (lsT intT) m.fImages, LS intT m.fCoding])), (56, .sv (.one (I n)))], [.box [I m.fBase, LS (lsT intT) m.fImages, LS intT m.fCoding] 67 false, .gone, .gone, .gone, .gone]⟩ (by kernel_rfl) ?_
            have hp := h.1
            replace h := h.2
            refine WL.mt0 (K := []) (p := none) hn (by rfl) (mt_call (seqAt_ct m n hp) en30 (caps := []) [] rfl (by rfl) (by kernel_rfl) (by kernel_rfl) (by rfl) (by rfl) (by rfl)) (by rfl) (by rfl) (by rfl) ?_
            refine WL.run ht hn 5 ⟨[(1, .sv (.one (I n))), (2, .sv (.one (.ptr 0 0))), (7, .sv (.one (LS intT (countsR m n).1))), (8, .sv (.one (LS intT (countsR m (wr (n + 1))).1))), (9, .sv (.one (I (countsR m (wr (n + 1))).2))), (10, .sv (.one (I (atR m n).1))), (11, .sv (.one (I (atR m n).2)))], [.box [I m.fBase, LS (lsT intT) m.fImages, LS intT m.fCoding] 67 false, .gone, .gone, .gone, .gone]⟩ (by kernel_rfl) ?_
            refine WL.nil ?_
            refine En.seq ?_
            refine En.region ?_
            refine WL.run ht hn 2 ⟨[(1, .sv (.one (I n))), (7, .sv (.one (LS intT (countsR m n).1))), (8, .sv (.one (LS intT (countsR m (wr (n + 1))).1))), (9, .sv (.one (I (countsR m (wr (n + 1))).2))), (10, .sv (.one (I (atR m n).1))), (11, .sv (.one (I (atR m n).2))), (61, .sv (.agg [I m.fBase, LS (lsT intT) m.fImages, LS intT m.fCoding])), (62, .sv (.agg [I m.fBase, LS (lsT intT) m.fImages, LS intT m.fCoding]))], [.gone, .gone, .gone, .gone, .gone]⟩ (by kernel_rfl) ?_
            have hp := h.1
            replace h := h.2
            refine WL.mt0 (K := []) (p := none) hn (by rfl) (mt_call (seqDiffer_ct m m hp) en31 (caps := []) [] rfl (by rfl) (by kernel_rfl) (by kernel_rfl) (by rfl) (by rfl) (by rfl)) (by rfl) (by rfl) (by rfl) ?_
            refine WL.run ht hn 7 ⟨[(1, .sv (.one (I n))), (7, .sv (.one (LS intT (countsR m n).1))), (8, .sv (.one (LS intT (countsR m (wr (n + 1))).1))), (9, .sv (.one (I (countsR m (wr (n + 1))).2))), (10, .sv (.one (I (atR m n).1))), (11, .sv (.one (I (atR m n).2))), (13, .sv (.one (B (noDiffer).2.1))), (14, .sv (.one (I (noDiffer).2.2)))], [.gone, .gone, .gone, .gone, .gone]⟩ (by kernel_rfl) ?_
            refine WL.nil ?_
            refine En.seq ?_
            refine En.seq ?_
            refine En.region ?_
            refine WL.run ht hn 3 ⟨[(1, .sv (.one (I n))), (7, .sv (.one (LS intT (countsR m n).1))), (8, .sv (.one (LS intT (countsR m (wr (n + 1))).1))), (10, .sv (.one (I (atR m n).1))), (11, .sv (.one (I (atR m n).2))), (13, .sv (.one (B (noDiffer).2.1))), (14, .sv (.one (I (noDiffer).2.2))), (69, .sv (.one (B ((countsR m (wr (n + 1))).2 != 0))))], [.gone, .gone, .gone, .gone, .gone]⟩ (by kernel_rfl) ?_
            refine WL.thru ⟨[(1, .sv (.one (I n))), (7, .sv (.one (LS intT (countsR m n).1))), (8, .sv (.one (LS intT (countsR m (wr (n + 1))).1))), (10, .sv (.one (I (atR m n).1))), (97, .sv (.one (B (((((((((countsR m (wr (n + 1))).2 != 0) || ((atR m n).2 != 0)) || ((noDiffer).2.2 != 0)) || (noDiffer).2.1) || (((countsR m n).1.length : Int) != 10)) || (((countsR m (wr (n + 1))).1.length : Int) != 10)) || (decide ((atR m n).1 < 0))) || (decide ((atR m n).1 > 9))))))], [.gone, .gone, .gone, .gone, .gone]⟩ ?_ ?_
            · refine splitB ((countsR m (wr (n + 1))).2 != 0) (fun hb0 => ?_) (fun hb0 => ?_)
              · refine WL.setB 69 hb0 (by kernel_rfl) ?_
                refine WL.run ht hn 28 ⟨[(1, .sv (.one (I n))), (7, .sv (.one (LS intT (countsR m n).1))), (8, .sv (.one (LS intT (countsR m (wr (n + 1))).1))), (10, .sv (.one (I (atR m n).1))), (97, .sv (.one (B true)))], [.gone, .gone, .gone, .gone, .gone]⟩ (by kernel_rfl) ?_
                exact WL.nil (sub_ok (by simp only [hb0]; kernel_rfl))
              · refine WL.setB 69 hb0 (by kernel_rfl) ?_
                refine WL.run ht hn 4 ⟨[(1, .sv (.one (I n))), (7, .sv (.one (LS intT (countsR m n).1))), (8, .sv (.one (LS intT (countsR m (wr (n + 1))).1))), (10, .sv (.one (I (atR m n).1))), (13, .sv (.one (B (noDiffer).2.1))), (14, .sv (.one (I (noDiffer).2.2))), (73, .sv (.one (B ((atR m n).2 != 0))))], [.gone, .gone, .gone, .gone, .gone]⟩ (by kernel_rfl) ?_
                refine splitB ((atR m n).2 != 0) (fun hb1 => ?_) (fun hb1 => ?_)
                · refine WL.setB 73 hb1 (by kernel_rfl) ?_
                  refine WL.run ht hn 24 ⟨[(1, .sv (.one (I n))), (7, .sv (.one (LS intT (countsR m n).1))), (8, .sv (.one (LS intT (countsR m (wr (n + 1))).1))), (10, .sv (.one (I (atR m n).1))), (97, .sv (.one (B true)))], [.gone, .gone, .gone, .gone, .gone]⟩ (by kernel_rfl) ?_
                  exact WL.nil (sub_ok (by simp only [hb0, hb1]; kernel_rfl))
                · refine WL.setB 73 hb1 (by kernel_rfl) ?_
                  refine WL.run ht hn 4 ⟨[(1, .sv (.one (I n))), (7, .sv (.one (LS intT (countsR m n).1))), (8, .sv (.one (LS intT (countsR m (wr (n + 1))).1))), (10, .sv (.one (I (atR m n).1))), (13, .sv (.one (B (noDiffer).2.1))), (77, .sv (.one (B ((noDiffer).2.2 != 0))))], [.gone, .gone, .gone, .gone, .gone]⟩ (by kernel_rfl) ?_
                  refine splitB ((noDiffer).2.2 != 0) (fun hb2 => ?_) (fun hb2 => ?_)
                  · refine WL.setB 77 hb2 (by kernel_rfl) ?_
                    refine WL.run ht hn 20 ⟨[(1, .sv (.one (I n))), (7, .sv (.one (LS intT (countsR m n).1))), (8, .sv (.one (LS intT (countsR m (wr (n + 1))).1))), (10, .sv (.one (I (atR m n).1))), (97, .sv (.one (B true)))], [.gone, .gone, .gone, .gone, .gone]⟩ (by kernel_rfl) ?_
                    exact WL.nil (sub_ok (by simp only [hb0, hb1, hb2]; kernel_rfl))
                  · refine WL.setB 77 hb2 (by kernel_rfl) ?_
                    refine WL.run ht hn 3 ⟨[(1, .sv (.one (I n))), (7, .sv (.one (LS intT (countsR m n).1))), (8, .sv (.one (LS intT (countsR m (wr (n + 1))).1))), (10, .sv (.one (I (atR m n).1))), (80, .sv (.one (B (noDiffer).2.1)))], [.gone, .gone, .gone, .gone, .gone]⟩ (by kernel_rfl) ?_
                    refine splitB (noDiffer).2.1 (fun hb3 => ?_) (fun hb3 => ?_)
                    · refine WL.setB 80 hb3 (by kernel_rfl) ?_
                      refine WL.run ht hn 17 ⟨[(1, .sv (.one (I n))), (7, .sv (.one (LS intT (countsR m n).1))), (8, .sv (.one (LS intT (countsR m (wr (n + 1))).1))), (10, .sv (.one (I (atR m n).1))), (97, .sv (.one (B true)))], [.gone, .gone, .gone, .gone, .gone]⟩ (by kernel_rfl) ?_
                      exact WL.nil (sub_ok (by simp only [hb0, hb1, hb2, hb3]; kernel_rfl))
                    · refine WL.setB 80 hb3 (by kernel_rfl) ?_
                      refine WL.run ht hn 5 ⟨[(1, .sv (.one (I n))), (7, .sv (.one (LS intT (countsR m n).1))), (8, .sv (.one (LS intT (countsR m (wr (n + 1))).1))), (10, .sv (.one (I (atR m n).1))), (85, .sv (.one (B (((countsR m n).1.length : Int) != 10))))], [.gone, .gone, .gone, .gone, .gone]⟩ (by kernel_rfl) ?_
                      refine splitB (((countsR m n).1.length : Int) != 10) (fun hb4 => ?_) (fun hb4 => ?_)
                      · refine WL.setB 85 hb4 (by kernel_rfl) ?_
                        refine WL.run ht hn 12 ⟨[(1, .sv (.one (I n))), (7, .sv (.one (LS intT (countsR m n).1))), (8, .sv (.one (LS intT (countsR m (wr (n + 1))).1))), (10, .sv (.one (I (atR m n).1))), (97, .sv (.one (B true)))], [.gone, .gone, .gone, .gone, .gone]⟩ (by kernel_rfl) ?_
                        exact WL.nil (sub_ok (by simp only [hb0, hb1, hb2, hb3, hb4]; kernel_rfl))
                      · refine WL.setB 85 hb4 (by kernel_rfl) ?_
                        refine WL.run ht hn 5 ⟨[(1, .sv (.one (I n))), (7, .sv (.one (LS intT (countsR m n).1))), (8, .sv (.one (LS intT (countsR m (wr (n + 1))).1))), (10, .sv (.one (I (atR m n).1))), (90, .sv (.one (B (((countsR m (wr (n + 1))).1.length : Int) != 10))))], [.gone, .gone, .gone, .gone, .gone]⟩ (by kernel_rfl) ?_
                        refine splitB (((countsR m (wr (n + 1))).1.length : Int) != 10) (fun hb5 => ?_) (fun hb5 => ?_)
                        · refine WL.setB 90 hb5 (by kernel_rfl) ?_
                          refine WL.run ht hn 7 ⟨[(1, .sv (.one (I n))), (7, .sv (.one (LS intT (countsR m n).1))), (8, .sv (.one (LS intT (countsR m (wr (n + 1))).1))), (10, .sv (.one (I (atR m n).1))), (97, .sv (.one (B true)))], [.gone, .gone, .gone, .gone, .gone]⟩ (by kernel_rfl) ?_
                          exact WL.nil (sub_ok (by simp only [hb0, hb1, hb2, hb3, hb4, hb5]; kernel_rfl))
                        · refine WL.setB 90 hb5 (by kernel_rfl) ?_
                          refine WL.run ht hn 4 ⟨[(1, .sv (.one (I n))), (7, .sv (.one (LS intT (countsR m n).1))), (8, .sv (.one (LS intT (countsR m (wr (n + 1))).1))), (10, .sv (.one (I (atR m n).1))), (94, .sv (.one (B (decide ((atR m n).1 < 0)))))], [.gone, .gone, .gone, .gone, .gone]⟩ (by kernel_rfl) ?_
                          refine splitB (decide ((atR m n).1 < 0)) (fun hb6 => ?_) (fun hb6 => ?_)
                          · refine WL.setB 94 hb6 (by kernel_rfl) ?_
                            refine WL.run ht hn 3 ⟨[(1, .sv (.one (I n))), (7, .sv (.one (LS intT (countsR m n).1))), (8, .sv (.one (LS intT (countsR m (wr (n + 1))).1))), (10, .sv (.one (I (atR m n).1))), (97, .sv (.one (B true)))], [.gone, .gone, .gone, .gone, .gone]⟩ (by kernel_rfl) ?_
                            exact WL.nil (sub_ok (by simp only [hb0, hb1, hb2, hb3, hb4, hb5, hb6]; kernel_rfl))
                          · refine WL.setB 94 hb6 (by kernel_rfl) ?_
                            refine WL.run ht hn 3 ⟨[(1, .sv (.one (I n))), (7, .sv (.one (LS intT (countsR m n).1))), (8, .sv (.one (LS intT (countsR m (wr (n + 1))).1))), (10, .sv (.one (I (atR m n).1))), (97, .sv (.one (B (decide ((atR m n).1 > 9)))))], [.gone, .gone, .gone, .gone, .gone]⟩ (by kernel_rfl) ?_
                            exact WL.nil (sub_ok (by simp only [hb0, hb1, hb2, hb3, hb4, hb5, hb6]; kernel_rfl))
            · refine En.cond (b := (((((((((countsR m (wr (n + 1))).2 != 0) || ((atR m n).2 != 0)) || ((noDiffer).2.2 != 0)) || (noDiffer).2.1) || (((countsR m n).1.length : Int) != 10)) || (((countsR m (wr (n + 1))).1.length : Int) != 10)) || (decide ((atR m n).1 < 0))) || (decide ((atR m n).1 > 9)))) (by kernel_rfl) (fun hb => ?_) (fun hb => ?_)
              · replace h := h.1 hb
                refine En.seq ?_
                refine En.region ?_
                refine WL.run ht hn 1 ⟨[(4, .sv (.one (B false)))], [.gone, .gone, .gone, .gone, .gone]⟩ (by kernel_rfl) ?_
                refine WL.nil ?_
                refine En.ret ?_
                exact En.back ht false h (by kernel_rfl) rfl
              · replace h := h.2 hb
                refine En.skip ?_
                refine En.seq ?_
                refine En.region ?_
                refine WL.run ht hn 1 ⟨[(1, .sv (.one (I n))), (7, .sv (.one (LS intT (countsR m n).1))), (8, .sv (.one (LS intT (countsR m (wr (n + 1))).1))), (10, .sv (.one (I (atR m n).1))), (15, .sv (.one (I 0)))], [.gone, .gone, .gone, .gone, .gone]⟩ (by kernel_rfl) ?_
                refine WL.nil ?_
                refine En.seq ?_
                refine En.seq ?_
                refine En.region ?_
                refine WL.run ht hn 1 ⟨[(1, .sv (.one (I n))), (7, .sv (.one (LS intT (countsR m n).1))), (8, .sv (.one (LS intT (countsR m (wr (n + 1))).1))), (10, .sv (.one (I (atR m n).1))), (15, .sv (.one (I 0))), (16, .sv (.one (I 0)))], [.gone, .gone, .gone, .gone, .gone]⟩ (by kernel_rfl) ?_
                refine WL.nil ?_
                refine En.block ?_
                obtain ⟨Inv, mu, h0, hI⟩ := h
                refine En.loop (σ := Int × Int) (fun zz => Inv zz.1 zz.2) (fun zz => mu zz.1 zz.2) (fun zz => ⟨[(1, .sv (.one (I n))), (7, .sv (.one (LS intT (countsR m n).1))), (8, .sv (.one (LS intT (countsR m (wr (n + 1))).1))), (10, .sv (.one (I (atR m n).1))), (15, .sv (.one (I zz.1))), (16, .sv (.one (I zz.2)))], [.gone, .gone, .gone, .gone, .gone]⟩) (0, 0) h0 (sub_ok (by kernel_rfl)) ?_
                rintro ⟨x15, x16⟩ h
                replace h := hI _ _ h
                show En c ⟨[(1, .sv (.one (I n))), (7, .sv (.one (LS intT (countsR m n).1))), (8, .sv (.one (LS intT (countsR m (wr (n + 1))).1))), (10, .sv (.one (I (atR m n).1))), (15, .sv (.one (I x15))), (16, .sv (.one (I x16)))], [.gone, .gone, .gone, .gone, .gone]⟩ _
                refine En.seq ?_
                refine En.seq ?_
                refine En.region ?_
                refine WL.run ht hn 2 ⟨[(1, .sv (.one (I n))), (7, .sv (.one (LS intT (countsR m n).1))), (8, .sv (.one (LS intT (countsR m (wr (n + 1))).1))), (10, .sv (.one (I (atR m n).1))), (15, .sv (.one (I x15))), (16, .sv (.one (I x16))), (99, .sv (.one (B (decide (x16 < 10)))))], [.gone, .gone, .gone, .gone, .gone]⟩ (by kernel_rfl) ?_
                refine WL.nil ?_
                refine En.cond (b := (decide (x16 < 10))) (by kernel_rfl) (fun hb => ?_) (fun hb => ?_)
                · replace h := h.1 hb
                  refine En.skip ?_
                  refine En.seq ?_
                  refine En.block ?_
                  refine En.seq ?_
                  refine En.region ?_
                  refine WL.run ht hn 2 ⟨[(1, .sv (.one (I n))), (7, .sv (.one (LS intT (countsR m n).1))), (8, .sv (.one (LS intT (countsR m (wr (n + 1))).1))), (10, .sv (.one (I (atR m n).1))), (15, .sv (.one (I x15))), (16, .sv (.one (I x16))), (102, .sv (.one (LS intT (countsR m n).1))), (103, .sv (.one (I x16)))], [.gone, .gone, .gone, .gone, .gone]⟩ (by kernel_rfl) ?_
                  obtain ⟨e, he, h⟩ := h
                  refine WL.val hn (by rfl) (val_index (T := intT) (l := (countsR m n).1) (i := x16) ht rfl (by rfl) (by rfl) (by rfl) (by rfl) (by rfl) (by rfl) he) (by rfl) ?_
                  refine WL.val hn (by rfl) (val_load (s := .one (I e)) ht rfl (by rfl) (by rfl) (by rfl) (by rfl) (by rfl)) (by rfl) ?_
                  refine WL.run ht hn 1 ⟨[(1, .sv (.one (I n))), (7, .sv (.one (LS intT (countsR m n).1))), (8, .sv (.one (LS intT (countsR m (wr (n + 1))).1))), (10, .sv (.one (I (atR m n).1))), (15, .sv (.one (I x15))), (16, .sv (.one (I x16))), (17, .sv (.one (I e)))], [.gone, .gone, .gone, .gone, .gone]⟩ (by kernel_rfl) ?_
                  refine WL.nil ?_
                  obtain ⟨J, h, hJ⟩ := h
                  refine En.seqJ (σ := Int) (fun zz => J zz) (fun zz => ⟨[(1, .sv (.one (I n))), (7, .sv (.one (LS intT (countsR m n).1))), (8, .sv (.one (LS intT (countsR m (wr (n + 1))).1))), (10, .sv (.one (I (atR m n).1))), (15, .sv (.one (I x15))), (16, .sv (.one (I x16))), (17, .sv (.one (I zz)))], [.gone, .gone, .gone, .gone, .gone]⟩) ?_ ?_
                  · refine En.seq ?_
                    refine En.region ?_
                    refine WL.run ht hn 3 ⟨[(1, .sv (.one (I n))), (7, .sv (.one (LS intT (countsR m n).1))), (8, .sv (.one (LS intT (countsR m (wr (n + 1))).1))), (10, .sv (.one (I (atR m n).1))), (15, .sv (.one (I x15))), (16, .sv (.one (I x16))), (17, .sv (.one (I e))), (108, .sv (.one (B (x16 == (atR m n).1))))], [.gone, .gone, .gone, .gone, .gone]⟩ (by kernel_rfl) ?_
                    refine WL.nil ?_
                    refine En.cond (b := (x16 == (atR m n).1)) (by kernel_rfl) (fun hb => ?_) (fun hb => ?_)
                    · replace h := h.1 hb
                      refine En.region ?_
                      refine WL.run ht hn 3 ⟨[(1, .sv (.one (I n))), (7, .sv (.one (LS intT (countsR m n).1))), (8, .sv (.one (LS intT (countsR m (wr (n + 1))).1))), (10, .sv (.one (I (atR m n).1))), (15, .sv (.one (I x15))), (16, .sv (.one (I x16))), (17, .sv (.one (I (wr (e + 1)))))], [.gone, .gone, .gone, .gone, .gone]⟩ (by kernel_rfl) ?_
                      refine WL.nil ?_
                      exact En.at (I := fun zz => J zz) (T := fun zz => ⟨[(1, .sv (.one (I n))), (7, .sv (.one (LS intT (countsR m n).1))), (8, .sv (.one (LS intT (countsR m (wr (n + 1))).1))), (10, .sv (.one (I (atR m n).1))), (15, .sv (.one (I x15))), (16, .sv (.one (I x16))), (17, .sv (.one (I zz)))], [.gone, .gone, .gone, .gone, .gone]⟩) (wr (e + 1)) h (by kernel_rfl)
                    · replace h := h.2 hb
                      refine En.skip ?_
                      exact En.at (I := fun zz => J zz) (T := fun zz => ⟨[(1, .sv (.one (I n))), (7, .sv (.one (LS intT (countsR m n).1))), (8, .sv (.one (LS intT (countsR m (wr (n + 1))).1))), (10, .sv (.one (I (atR m n).1))), (15, .sv (.one (I x15))), (16, .sv (.one (I x16))), (17, .sv (.one (I zz)))], [.gone, .gone, .gone, .gone, .gone]⟩) e h (by kernel_rfl)
                  · intro x17 h
                    replace h := hJ _ h
                    show En c ⟨[(1, .sv (.one (I n))), (7, .sv (.one (LS intT (countsR m n).1))), (8, .sv (.one (LS intT (countsR m (wr (n + 1))).1))), (10, .sv (.one (I (atR m n).1))), (15, .sv (.one (I x15))), (16, .sv (.one (I x16))), (17, .sv (.one (I x17)))], [.gone, .gone, .gone, .gone, .gone]⟩ _
                    refine En.seq ?_
                    refine En.seq ?_
                    refine En.region ?_
                    refine WL.run ht hn 2 ⟨[(1, .sv (.one (I n))), (7, .sv (.one (LS intT (countsR m n).1))), (8, .sv (.one (LS intT (countsR m (wr (n + 1))).1))), (10, .sv (.one (I (atR m n).1))), (15, .sv (.one (I x15))), (16, .sv (.one (I x16))), (17, .sv (.one (I x17))), (111, .sv (.one (LS intT (countsR m (wr (n + 1))).1))), (112, .sv (.one (I x16)))], [.gone, .gone, .gone, .gone, .gone]⟩ (by kernel_rfl) ?_
                    obtain ⟨e_2, he_2, h⟩ := h
                    refine WL.val hn (by rfl) (val_index (T := intT) (l := (countsR m (wr (n + 1))).1) (i := x16) ht rfl (by rfl) (by rfl) (by rfl) (by rfl) (by rfl) (by rfl) he_2) (by rfl) ?_
                    refine WL.val hn (by rfl) (val_load (s := .one (I e_2)) ht rfl (by rfl) (by rfl) (by rfl) (by rfl) (by rfl)) (by rfl) ?_
                    refine WL.run ht hn 2 ⟨[(1, .sv (.one (I n))), (7, .sv (.one (LS intT (countsR m n).1))), (8, .sv (.one (LS intT (countsR m (wr (n + 1))).1))), (10, .sv (.one (I (atR m n).1))), (15, .sv (.one (I x15))), (16, .sv (.one (I x16))), (116, .sv (.one (B (e_2 != x17))))], [.gone, .gone, .gone, .gone, .gone]⟩ (by kernel_rfl) ?_
                    refine WL.nil ?_
                    refine En.cond (b := (e_2 != x17)) (by kernel_rfl) (fun hb => ?_) (fun hb => ?_)
                    · replace h := h.1 hb
                      refine En.seq ?_
                      refine En.region ?_
                      refine WL.run ht hn 1 ⟨[(4, .sv (.one (B false)))], [.gone, .gone, .gone, .gone, .gone]⟩ (by kernel_rfl) ?_
                      refine WL.nil ?_
                      refine En.ret ?_
                      exact En.back ht false h (by kernel_rfl) rfl
                    · replace h := h.2 hb
                      refine En.skip ?_
                      refine En.region ?_
                      refine WL.run ht hn 3 ⟨[(1, .sv (.one (I n))), (7, .sv (.one (LS intT (countsR m n).1))), (8, .sv (.one (LS intT (countsR m (wr (n + 1))).1))), (10, .sv (.one (I (atR m n).1))), (16, .sv (.one (I x16))), (117, .sv (.one (I x15))), (118, .sv (.one (LS intT (countsR m n).1))), (119, .sv (.one (I x16)))], [.gone, .gone, .gone, .gone, .gone]⟩ (by kernel_rfl) ?_
                      obtain ⟨e_3, he_3, h⟩ := h
                      refine WL.val hn (by rfl) (val_index (T := intT) (l := (countsR m n).1) (i := x16) ht rfl (by rfl) (by rfl) (by rfl) (by rfl) (by rfl) (by rfl) he_3) (by rfl) ?_
                      refine WL.val hn (by rfl) (val_load (s := .one (I e_3)) ht rfl (by rfl) (by rfl) (by rfl) (by rfl) (by rfl)) (by rfl) ?_
                      refine WL.run ht hn 2 ⟨[(1, .sv (.one (I n))), (7, .sv (.one (LS intT (countsR m n).1))), (8, .sv (.one (LS intT (countsR m (wr (n + 1))).1))), (10, .sv (.one (I (atR m n).1))), (15, .sv (.one (I (wr (x15 + e_3))))), (16, .sv (.one (I x16)))], [.gone, .gone, .gone, .gone, .gone]⟩ (by kernel_rfl) ?_
                      refine WL.nil ?_
                      refine En.region ?_
                      refine WL.run ht hn 3 ⟨[(1, .sv (.one (I n))), (7, .sv (.one (LS intT (countsR m n).1))), (8, .sv (.one (LS intT (countsR m (wr (n + 1))).1))), (10, .sv (.one (I (atR m n).1))), (15, .sv (.one (I (wr (x15 + e_3))))), (16, .sv (.one (I (wr (x16 + 1)))))], [.gone, .gone, .gone, .gone, .gone]⟩ (by kernel_rfl) ?_
                      refine WL.nil ?_
                      exact En.at (I := fun zz => Inv zz.1 zz.2 ∧ mu zz.1 zz.2 < mu x15 x16) (T := fun zz => ⟨[(1, .sv (.one (I n))), (7, .sv (.one (LS intT (countsR m n).1))), (8, .sv (.one (LS intT (countsR m (wr (n + 1))).1))), (10, .sv (.one (I (atR m n).1))), (15, .sv (.one (I zz.1))), (16, .sv (.one (I zz.2)))], [.gone, .gone, .gone, .gone, .gone]⟩) ((wr (x15 + e_3)), (wr (x16 + 1))) h (by kernel_rfl)
                · replace h := h.2 hb
                  refine En.exit rfl ?_
                  refine En.seq ?_
                  refine En.region ?_
                  refine WL.run ht hn 4 ⟨[(4, .sv (.one (B (x15 == n))))], [.gone, .gone, .gone, .gone, .gone]⟩ (by kernel_rfl) ?_
                  refine WL.nil ?_
                  refine En.ret ?_
                  exact En.back ht (x15 == n) h (by kernel_rfl) rfl
theorem codeN_in {m : ApiMorph} (h : MorOk m) (n : Nat) : 0 ≤ codeN m (letN m n).toNat ∧ codeN m (letN m n).toNat ≤ 9 := by
  have hin := letN_in h n
  have hc : (letN m n).toNat < m.fCoding.length := by rw [h.coding]; omega
  exact h.code _ (getD_mem (l := m.fCoding) (i := (letN m n).toNat) (z := 0) hc)
theorem valN_all {m : ApiMorph} (h : MorOk m) : ∀ n, ((List.range 10).map (valN m n)).sum = n
  | 0 => by
    have : ∀ v, valN m 0 v = 0 := fun v => by simp [valN]
    rw [List.map_congr_left fun a _ => this a]
    rfl
  | n + 1 => by
    obtain ⟨c, hc⟩ := Int.eq_ofNat_of_zero_le (codeN_in h n).1
    have h9 := (codeN_in h n).2
    have e : ∀ v, valN m (n + 1) v = valN m n v + if c = v then 1 else 0 := fun v => by
      rw [valN_succ, hc]
      by_cases e : c = v
      · rw [if_pos e, if_pos (by omega)]
      · rw [if_neg e, if_neg (by omega)]
    rw [List.map_congr_left fun a _ => e a, sum_add, sum_pick (f := fun _ => 1), if_pos (by omega)]
    have := valN_all h n
    omega
theorem countsR_ok {m : ApiMorph} (h : seqErr m = 0) {k : Nat} (hk : k ≤ 1000000000000000) : countsR m (k : Int) = (cntL 10 (valN m k), 0) := by
  unfold countsR
  rw [if_pos h, if_neg (by omega)]
  rfl
theorem seqsGoes_ct (m : ApiMorph) (n : Int)  : Ct 9 [.sv (.agg [I m.fBase, LS (lsT intT) m.fImages, LS intT m.fCoding]), .sv (.one (I n))] [] (fun (_ : Unit) => True) (fun _ => .sv (.one (B (true)))) := by
  refine (seqsGoes_walk m n (fun res_ => res_ = (true)) ?_).fun
  intro _ _
  refine ⟨rfl, fun h => absurd h (by decide), fun _ => ⟨fun _ => rfl, fun h1 => ⟨fun _ => rfl, fun h2 => ?_⟩⟩⟩
  simp only [Bool.or_eq_false_iff, decide_eq_false_iff_not] at h1
  have hE : seqErr m = 0 := Decidable.byContradiction fun hc => by
    unfold countsR at h2
    rw [if_neg hc] at h2
    exact hc (by simpa using h2)
  have hm := seqErr_ok hE
  obtain ⟨k, rfl⟩ := Int.eq_ofNat_of_zero_le (a := n) (by omega)
  have hk12 : k ≤ 1000000000000 := by omega
  have hw : wr ((k : Int) + 1) = ((k + 1 : Nat) : Int) := wsucc (by omega)
  have hA : atR m (k : Int) = (codeN m (letN m k).toNat, 0) := by
    unfold atR
    rw [if_pos hE, if_neg (by omega)]
    rfl
  have hcd := codeN_in hm k
  refine ⟨by omega, ⟨rfl, hE⟩, ?_⟩
  rw [hw, countsR_ok hE (show k ≤ _ by omega), countsR_ok hE (show k + 1 ≤ _ by omega), hA]
  refine ⟨fun h => absurd h ?_, fun _ => ⟨fun s i => ∃ j : Nat, i = j ∧ j ≤ 10 ∧ s = ((((List.range j).map (valN m k)).sum : Nat) : Int), fun _ i => 10 - i.toNat, ⟨0, rfl, Nat.zero_le _, rfl⟩, ?_⟩⟩
  · rw [cntL_len, cntL_len]
    simp only [Bool.not_eq_true, Bool.or_eq_false_iff, decide_eq_false_iff_not]
    refine ⟨⟨⟨⟨⟨⟨⟨?_, ?_⟩, ?_⟩, ?_⟩, ?_⟩, ?_⟩, ?_⟩, ?_⟩ <;> first | rfl | omega
  rintro s i ⟨j, rfl, hj, rfl⟩
  refine ⟨fun hb => ?_, fun hb => ?_⟩
  · have hlt : j < 10 := by have := of_decide_eq_true hb; omega
    have hi : ∀ f : Nat → Nat, idx (cntL 10 f) (j : Int) = some ((f j : Nat) : Int) := fun f => by
      rw [idx_of 0 (by omega) (by rw [cntL_len]; omega), Int.toNat_natCast, cntL_at hlt]
    have hle := valN_le m k j
    refine ⟨_, hi _, fun x => x = ((valN m (k + 1) j : Nat) : Int), ⟨fun hb2 => ?_, fun hb2 => ?_⟩, ?_⟩
    · have he : (j : Int) = codeN m (letN m k).toNat := by simpa using hb2
      show wr _ = _
      rw [valN_succ, if_pos he.symm]
      exact wsucc (by omega)
    · have he : ¬ (j : Int) = codeN m (letN m k).toNat := by simpa using hb2
      show _ = _
      rw [valN_succ, if_neg (fun h => he h.symm)]
      rfl
    · rintro x rfl
      refine ⟨_, hi _, fun hb2 => by simp at hb2, fun _ => ⟨_, hi _, ⟨j + 1, wsucc (by omega), hlt, ?_⟩, ?_⟩⟩
      · have hall := valN_all hm k
        have hs : ((List.range j).map (valN m k)).sum + valN m k j ≤ 10 * k + k := by
          have : ∀ j, ((List.range j).map (valN m k)).sum ≤ j * k := by
            intro j
            induction j with
            | zero => simp
            | succ j ih =>
              rw [List.range_succ, List.map_append, List.sum_append, Nat.succ_mul]
              have := valN_le m k j
              simp
              omega
          have h3 := this j
          have h4 : j * k ≤ 10 * k := Nat.mul_le_mul_right _ hj
          omega
        rw [wr_in (by omega) (by omega), List.range_succ, List.map_append, List.sum_append]
        simp
      · show 10 - (wr ((j : Int) + 1)).toNat < 10 - ((j : Int)).toNat
        rw [wr_in (by omega) (by omega)]
        omega
  · have hj10 : j = 10 := by have := of_decide_eq_false hb; omega
    subst hj10
    rw [valN_all hm k]
    show ((k : Int) == (k : Int)) = true
    simp
end Go.Proofs.Ytfpdnigihjmohaa

