/- Lemmas towards the statement: mirrors of functions, and plain laws. No condition. -/
import Derived.Test.YtiejmeedkhkfgaaPackFixUnfolds5


namespace Go.Proofs.Ytiejmeedkhkfgaa
open Go.RowKit Go.MapKept
set_option linter.unusedSimpArgs false
set_option linter.unusedVariables false
set_option maxRecDepth 100000
def PreW (k : Nat) (nd : FTr) (gr : ApiGraph) (ss : List (List Bool)) : Prop := GraphOk gr ∧ ∃ fl, WfF k fl nd ∧ SOk gr fl ss
def WhF (k : Nat) : Prop := ∀ (nd : FTr) (gr : ApiGraph) (ss : List (List Bool)), PreW k nd gr ss → Ct 34 [.sv (.one (.rd (trR fLab nd))), .sv (.agg [I gr.fLetters, I gr.fPlaces, LS ApiArrow.ty gr.fArrows]), .sv (.one (LS (lsT boolT) ss))] [] (fun (_ : Unit) => True) (fun _ => .sv (.one (LS boolT (semF gr k nd ss))))
theorem whF (k : Nat) (ih : WhF k) (nd : FTr) (gr : ApiGraph) (ss : List (List Bool)) (hp : PreW k nd gr ss) : Ct 34 [.sv (.one (.rd (trR fLab nd))), .sv (.agg [I gr.fLetters, I gr.fPlaces, LS ApiArrow.ty gr.fArrows]), .sv (.one (LS (lsT boolT) ss))] [] (fun (_ : Unit) => True) (fun _ => .sv (.one (LS boolT (semF gr k nd ss)))) := ih nd gr ss hp
theorem en34 : ∀ args w, (callFunc 34 args).run Try.prog w = .ok (.enter 34 args) w := enters_of Try.func34 (by kernel_rfl) rfl
def fKid_vc (k : Nat) (q : Int) (nd : (Tr FLab)) (gr : ApiGraph) (ss : (List (List Bool))) (Q : (List Bool) → Prop) : Prop :=
 ∃ e, idx nd.kids q = some e ∧
 (PreW k e gr ss) ∧
 Q (semF gr k e ss)
theorem fKid_walk (k : Nat) (q : Int) (nd : (Tr FLab)) (gr : ApiGraph) (ss : (List (List Bool))) (ih : WhF k) (Q : (List Bool) → Prop) (h : fKid_vc k q nd gr ss Q) : Ct 76 [.sv (.one (I q)), .sv (.one (.ptr 0 0)), .sv (.one (.ptr 1 0)), .sv (.one (.ptr 2 0))] [.box [.rd (trR fLab nd)] 83 true, .box [I gr.fLetters, I gr.fPlaces, LS ApiArrow.ty gr.fArrows] 24 true, .box [LS (lsT boolT) ss] 146 true] Q (fun (r : (List Bool)) => .sv (.one (LS boolT r))) := by
 have ht := tab_ok
 refine Ct.body Try.func76 rfl rfl rfl rfl (fun c hn => ?_)
 unfold fKid_vc at h
 refine En.seq ?_
 refine En.region ?_
 refine WL.run ht hn 1 ⟨[sl 0 (I q), sl 1 (.ptr 0 0), sl 2 (.ptr 1 0), sl 3 (.ptr 2 0)], [.box [.rd (trR fLab nd)] 83 true, .box (ApiGraph.cl gr) 24 true, .box [LS (lsT boolT) ss] 146 true]⟩ (by kernel_rfl) ?_
 refine WL.nil ?_
 refine En.seq ?_
 obtain ⟨e, he, h⟩ := h
 have hp_2 := h.1
 replace h := h.2
 refine En.regionA ⟨[sl 0 (I q), sl 1 (.ptr 0 0), sl 2 (.ptr 1 0), sl 3 (.ptr 2 0)], [.sv (.one (.rd (trR fLab nd))), .sv (.one (.pe (svR (.agg [.v (.int .u8 nd.lab.fSign), I nd.lab.fN, LS (TT fLab) nd.kids])) 3)), .sv (.one (.pe (svR (.one (LS (TT fLab) nd.kids))) 1)), .sv (.one (LS (TT fLab) nd.kids)), .sv (.one (I q)), .sv (.one (.pe (svR (.one (.rd (trR fLab e)))) 1)), .sv (.one (.rd (trR fLab e))), .sv (.agg (ApiGraph.cl gr)), .sv (.one (LS (lsT boolT) ss)), .sv (.one (LS boolT (semF gr k e ss))), .sv (.one (LS boolT (semF gr k e ss)))], [⟨.box [.rd (trR fLab nd)] 83 true, none, none, none⟩, ⟨.box (ApiGraph.cl gr) 24 true, none, none, none⟩, ⟨.box [LS (lsT boolT) ss] 146 true, none, none, none⟩]⟩ ⟨[sl 5 (LS boolT (semF gr k e ss))], [.gone, .gone, .gone]⟩ (by kernel_rfl) hn (by kernel_rfl) (by rfl) (by kernel_rfl) ?_ (by kernel_rfl) ?_
 exact ⟨.mt ⟨[sl 1 (.ptr 0 0)], [.box [.rd (trR fLab nd)] 83 true]⟩ [] none (by kernel_rfl) (by rfl) (mt_ev ht (by kernel_rfl)) rfl rfl rfl rfl,
 .mt ⟨[sl 6 (.rd (trR fLab nd))], []⟩ [] none (by kernel_rfl) (by rfl) (mt_val (val_node (s := .agg [.v (.int .u8 nd.lab.fSign), I nd.lab.fN, LS (TT fLab) nd.kids]) (t := nd) (lab := fLab) fLabH rfl (by rfl) rfl rfl)) rfl rfl rfl rfl,
 .mt ⟨[sl 7 (.pe (svR (.agg [.v (.int .u8 nd.lab.fSign), I nd.lab.fN, LS (TT fLab) nd.kids])) 3)], []⟩ [] none (by kernel_rfl) (by rfl) (mt_val (val_field (l := [.v (.int .u8 nd.lab.fSign), I nd.lab.fN, LS (TT fLab) nd.kids]) (r := .one (LS (TT fLab) nd.kids)) ht rfl (by rfl) (by rfl) (by rfl) (by rfl) (by rfl) (by rfl))) rfl rfl rfl rfl,
 .mt ⟨[sl 8 (.pe (svR (.one (LS (TT fLab) nd.kids))) 1)], []⟩ [] none (by kernel_rfl) (by rfl) (mt_val (val_load (s := .one (LS (TT fLab) nd.kids)) ht rfl (by rfl) (by rfl) (by rfl) (by rfl) (by rfl))) rfl rfl rfl rfl,
 .mt ⟨[sl 0 (I q)], []⟩ [] none (by kernel_rfl) (by rfl) (mt_ev ht (by kernel_rfl)) rfl rfl rfl rfl,
 .mt ⟨[sl 9 (LS (TT fLab) nd.kids), sl 10 (I q)], []⟩ [] none (by kernel_rfl) (by rfl) (mt_val (val_index (T := (TT fLab)) (l := nd.kids) (i := q) ht rfl (by rfl) (by rfl) (by rfl) (by rfl) (by rfl) (by rfl) he)) rfl rfl rfl rfl,
 .mt ⟨[sl 11 (.pe (svR (.one (.rd (trR fLab e)))) 1)], []⟩ [] none (by kernel_rfl) (by rfl) (mt_val (val_load (s := .one (.rd (trR fLab e))) ht rfl (by rfl) (by rfl) (by rfl) (by rfl) (by rfl))) rfl rfl rfl rfl,
 .mt ⟨[sl 2 (.ptr 1 0)], [.gone, .box (ApiGraph.cl gr) 24 true]⟩ [] none (by kernel_rfl) (by rfl) (mt_ev ht (by kernel_rfl)) rfl rfl rfl rfl,
 .mt ⟨[sl 3 (.ptr 2 0)], [.gone, .gone, .box [LS (lsT boolT) ss] 146 true]⟩ [] none (by kernel_rfl) (by rfl) (mt_ev ht (by kernel_rfl)) rfl rfl rfl rfl,
 .mt ⟨[sl 12 (.rd (trR fLab e)), (13, .sv (.agg (ApiGraph.cl gr))), sl 14 (LS (lsT boolT) ss)], []⟩ [] none (by kernel_rfl) (by rfl) (mt_call (whF k ih e gr ss hp_2) en34 (caps := []) [] rfl (by rfl) (by kernel_rfl) (by kernel_rfl) (by rfl) (by rfl) (by rfl)) rfl rfl rfl rfl,
 .mt ⟨[sl 15 (LS boolT (semF gr k e ss))], []⟩ [] none (by kernel_rfl) (by rfl) (mt_ev ht (by kernel_rfl)) rfl rfl rfl rfl,
 trivial⟩
 refine En.ret ?_
 exact En.back ht (semF gr k e ss) h (by kernel_rfl) rfl
theorem en76 : ∀ args w, (callFunc 76 args).run Try.prog w = .ok (.enter 76 args) w := enters_of Try.func76 (by kernel_rfl) rfl
theorem idx_getF {α : Type} {l : List α} {q : Int} (d : α) (h0 : 0 ≤ q) (h1 : q < l.length) : idx l q = some (l.getD q.toNat d) := by
 unfold idx
 rw [if_pos h0, List.getD_eq_getElem?_getD, List.getElem?_eq_getElem (by omega)]
 rfl
theorem fKid_ct (k : Nat) (ih : WhF k) (q : Int) (nd : FTr) (gr : ApiGraph) (ss : List (List Bool)) (hp : 0 ≤ q ∧ q < (nd.kids.length : Int) ∧ PreW k (nd.kids.getD q.toNat (fn 48 0 [])) gr ss) : Ct 76 [.sv (.one (I q)), .sv (.one (.ptr 0 0)), .sv (.one (.ptr 1 0)), .sv (.one (.ptr 2 0))] [.box [.rd (trR fLab nd)] 83 true, .box [I gr.fLetters, I gr.fPlaces, LS ApiArrow.ty gr.fArrows] 24 true, .box [LS (lsT boolT) ss] 146 true] (fun (_ : Unit) => True) (fun _ => .sv (.one (LS boolT (semF gr k (nd.kids.getD q.toNat (fn 48 0 [])) ss)))) :=
 (fKid_walk k q nd gr ss ih (fun r => r = semF gr k (nd.kids.getD q.toNat (fn 48 0 [])) ss) ⟨_, idx_getF (fn 48 0 []) hp.1 hp.2.1, hp.2.2, rfl⟩).fun
def eqBools_vc (a : (List Bool)) (b : (List Bool)) (Q : Bool → Prop) : Prop :=
 a.length ≤ 9223372036854775807 →
 b.length ≤ 9223372036854775807 →
 (IfP ((a.length : Int) != (b.length : Int)) (Q false) (∃ (Inv : Int → Prop) (mu : Int → Nat), Inv 0 ∧
 ∀ (x13 : Int) , Inv x13 → (IfP (decide (x13 < (a.length : Int))) (∃ e, idx a x13 = some e ∧
 ∃ e_2, idx b x13 = some e_2 ∧
 IfP (e != e_2) (Q false) ((Inv (wr (x13 + 1)) ∧ mu (wr (x13 + 1)) < mu x13))) (Q true))))
theorem eqBools_walk (a : (List Bool)) (b : (List Bool)) (Q : Bool → Prop) (h : eqBools_vc a b Q) : Ct 78 [.sv (.one (LS boolT a)), .sv (.one (LS boolT b))] [] Q (fun (r : Bool) => .sv (.one (B r))) := by
 have ht := tab_ok
 refine Ct.body Try.func78 rfl rfl rfl rfl (fun c hn => ?_)
 unfold eqBools_vc at h
 refine En.lenL 0 (by rfl) (fun hl => ?_)
 replace h := h hl
 clear hl
 refine En.lenL 1 (by rfl) (fun hl => ?_)
 replace h := h hl
 clear hl
 refine En.seq ?_
 refine En.region ?_
 refine WL.run ht hn 1 ⟨[sl 0 (LS boolT a), sl 1 (LS boolT b)], []⟩ (by kernel_rfl) ?_
 refine WL.nil ?_
 refine En.seq ?_
 refine En.seq ?_
 refine En.region ?_
 refine WL.run ht hn 5 ⟨[sl 0 (LS boolT a), sl 1 (LS boolT b), sl 10 (B ((a.length : Int) != (b.length : Int)))], []⟩ (by kernel_rfl) ?_
 refine WL.nil ?_
 refine En.cond (b := ((a.length : Int) != (b.length : Int))) (by kernel_rfl) (fun hb => ?_) (fun hb => ?_)
 replace h := h.1 hb
 refine En.seq ?_
 refine En.region ?_
 refine WL.run ht hn 1 ⟨[sl 4 (B false)], []⟩ (by kernel_rfl) ?_
 refine WL.nil ?_
 refine En.ret ?_
 exact En.back ht false h (by kernel_rfl) rfl
 replace h := h.2 hb
 refine En.skip ?_
 refine En.seq ?_
 refine En.seq ?_
 refine En.region ?_
 refine WL.run ht hn 3 ⟨[sl 0 (LS boolT a), sl 1 (LS boolT b), sl 12 (I (a.length : Int)), sl 13 (I 0)], []⟩ (by kernel_rfl) ?_
 refine WL.nil ?_
 refine En.block ?_
 obtain ⟨Inv, mu, h0, hI⟩ := h
 refine En.loop (σ := Int) (fun zz => Inv zz) (fun zz => mu zz) (fun zz => ⟨[sl 0 (LS boolT a), sl 1 (LS boolT b), sl 12 (I (a.length : Int)), sl 13 (I zz)], []⟩) 0 h0 (sub_ok (by kernel_rfl)) ?_
 intro x13 h
 replace h := hI _ h
 show En c ⟨[sl 0 (LS boolT a), sl 1 (LS boolT b), sl 12 (I (a.length : Int)), sl 13 (I x13)], []⟩ _
 refine En.seq ?_
 refine En.region ?_
 refine WL.run ht hn 1 ⟨[sl 0 (LS boolT a), sl 1 (LS boolT b), sl 12 (I (a.length : Int)), sl 13 (I x13), sl 14 (B (decide (x13 < (a.length : Int))))], []⟩ (by kernel_rfl) ?_
 refine WL.nil ?_
 refine En.seq ?_
 refine En.cond (b := (decide (x13 < (a.length : Int)))) (by kernel_rfl) (fun hb => ?_) (fun hb => ?_)
 replace h := h.1 hb
 refine En.skip ?_
 refine En.seq ?_
 refine En.block ?_
 refine En.seq ?_
 refine En.region ?_
 refine WL.run ht hn 2 ⟨[sl 0 (LS boolT a), sl 1 (LS boolT b), sl 5 (I x13), sl 12 (I (a.length : Int)), sl 13 (I x13)], []⟩ (by kernel_rfl) ?_
 refine WL.nil ?_
 refine En.seq ?_
 obtain ⟨e, he, h⟩ := h
 obtain ⟨e_2, he_2, h⟩ := h
 refine En.regionA ⟨[sl 0 (LS boolT a), sl 1 (LS boolT b), sl 5 (I x13), sl 12 (I (a.length : Int)), sl 13 (I x13)], [.sv (.one (LS boolT a)), .sv (.one (I x13)), .sv (.one (.pe (svR (.one (B e))) 1)), .sv (.one (B e)), .sv (.one (LS boolT b)), .sv (.one (I x13)), .sv (.one (.pe (svR (.one (B e_2))) 1)), .sv (.one (B e_2)), .sv (.one (B (e != e_2)))], []⟩ ⟨[sl 0 (LS boolT a), sl 1 (LS boolT b), sl 12 (I (a.length : Int)), sl 13 (I x13), sl 24 (B (e != e_2))], []⟩ (by kernel_rfl) hn (by kernel_rfl) (by rfl) (by kernel_rfl) ?_ (by kernel_rfl) ?_
 exact ⟨.mt ⟨[sl 0 (LS boolT a)], []⟩ [] none (by kernel_rfl) (by rfl) (mt_ev ht (by kernel_rfl)) rfl rfl rfl rfl,
 .mt ⟨[sl 5 (I x13)], []⟩ [] none (by kernel_rfl) (by rfl) (mt_ev ht (by kernel_rfl)) rfl rfl rfl rfl,
 .mt ⟨[sl 16 (LS boolT a), sl 17 (I x13)], []⟩ [] none (by kernel_rfl) (by rfl) (mt_val (val_index (T := boolT) (l := a) (i := x13) ht rfl (by rfl) (by rfl) (by rfl) (by rfl) (by rfl) (by rfl) he)) rfl rfl rfl rfl,
 .mt ⟨[sl 18 (.pe (svR (.one (B e))) 1)], []⟩ [] none (by kernel_rfl) (by rfl) (mt_val (val_load (s := .one (B e)) ht rfl (by rfl) (by rfl) (by rfl) (by rfl) (by rfl))) rfl rfl rfl rfl,
 .mt ⟨[sl 1 (LS boolT b)], []⟩ [] none (by kernel_rfl) (by rfl) (mt_ev ht (by kernel_rfl)) rfl rfl rfl rfl,
 .mt ⟨[sl 5 (I x13)], []⟩ [] none (by kernel_rfl) (by rfl) (mt_ev ht (by kernel_rfl)) rfl rfl rfl rfl,
 .mt ⟨[sl 20 (LS boolT b), sl 21 (I x13)], []⟩ [] none (by kernel_rfl) (by rfl) (mt_val (val_index (T := boolT) (l := b) (i := x13) ht rfl (by rfl) (by rfl) (by rfl) (by rfl) (by rfl) (by rfl) he_2)) rfl rfl rfl rfl,
 .mt ⟨[sl 22 (.pe (svR (.one (B e_2))) 1)], []⟩ [] none (by kernel_rfl) (by rfl) (mt_val (val_load (s := .one (B e_2)) ht rfl (by rfl) (by rfl) (by rfl) (by rfl) (by rfl))) rfl rfl rfl rfl,
 .mt ⟨[sl 19 (B e), sl 23 (B e_2)], []⟩ [] none (by kernel_rfl) (by rfl) (mt_val (val_eqB (u := e) (v := e_2) rfl Try.underlying4 (by rfl) (by rfl) (.inr ⟨rfl, rfl⟩))) rfl rfl rfl rfl,
 trivial⟩
 refine En.cond (b := (e != e_2)) (by kernel_rfl) (fun hb => ?_) (fun hb => ?_)
 replace h := h.1 hb
 refine En.seq ?_
 refine En.region ?_
 refine WL.run ht hn 1 ⟨[sl 4 (B false)], []⟩ (by kernel_rfl) ?_
 refine WL.nil ?_
 refine En.ret ?_
 exact En.back ht false h (by kernel_rfl) rfl
 replace h := h.2 hb
 refine En.skip ?_
 refine En.region ?_
 refine WL.run ht hn 2 ⟨[sl 0 (LS boolT a), sl 1 (LS boolT b), sl 12 (I (a.length : Int)), sl 13 (I (wr (x13 + 1)))], []⟩ (by kernel_rfl) ?_
 refine WL.nil ?_
 exact En.at (I := fun zz => Inv zz ∧ mu zz < mu x13) (T := fun zz => ⟨[sl 0 (LS boolT a), sl 1 (LS boolT b), sl 12 (I (a.length : Int)), sl 13 (I zz)], []⟩) (wr (x13 + 1)) h (by kernel_rfl)
 replace h := h.2 hb
 refine En.exit rfl ?_
 refine En.seq ?_
 refine En.region ?_
 refine WL.run ht hn 1 ⟨[sl 4 (B true)], []⟩ (by kernel_rfl) ?_
 refine WL.nil ?_
 refine En.ret ?_
 exact En.back ht true h (by kernel_rfl) rfl
theorem en78 : ∀ args w, (callFunc 78 args).run Try.prog w = .ok (.enter 78 args) w := enters_of Try.func78 (by kernel_rfl) rfl
theorem eqBools_ct (a : (List Bool)) (b : (List Bool))  : Ct 78 [.sv (.one (LS boolT a)), .sv (.one (LS boolT b))] [] (fun (_ : Unit) => True) (fun _ => .sv (.one (B (decide (a = b))))) := by
 refine (eqBools_walk a b (fun res_ => res_ = (decide (a = b))) ?_).fun
 intro ha hb
 refine ⟨fun h => ?_, fun h => ?_⟩
 ·show false = decide (a = b)
  rw [eq_comm, decide_eq_false_iff_not]
  rintro rfl
  simp at h
 have hl : a.length = b.length := by have := h; simp only [bne_eq_false_iff_eq] at this; omega
 refine ⟨fun i => ∃ k : Nat, i = k ∧ k ≤ a.length ∧ a.take k = b.take k, fun i => a.length - i.toNat, ⟨0, rfl, Nat.zero_le _, by simp⟩, ?_⟩
 rintro i ⟨k, rfl, hk, ht⟩
 refine ⟨fun hb1 => ?_, fun hb1 => ?_⟩
 ·have hlt := dlt hb1
  have hlt2 : k < b.length := by omega
  refine ⟨_, idx_at hlt, _, idx_at hlt2, fun hne => ?_, fun he => ⟨⟨k + 1, wsucc (by omega), hlt, ?_⟩, mu_up hlt (by omega)⟩⟩
  ·show false = decide (a = b)
   rw [eq_comm, decide_eq_false_iff_not]
   rintro rfl
   simp at hne
  ·have he : a[k] = b[k] := by simpa using he
   rw [List.take_add_one, List.take_add_one, ht, List.getElem?_eq_getElem hlt, List.getElem?_eq_getElem hlt2, he]
 ·have hge := dge hb1
  rw [List.take_of_length_le hge, List.take_of_length_le (by omega)] at ht
  show true = decide (a = b)
  rw [ht]
  simp
def cloneBool_vc (l : (List Bool)) (Q : (List Bool) → Prop) : Prop :=
 l.length ≤ 9223372036854775807 →
 (∀ isnil : Bool, (isnil = true → l = []) →
 (IfP (isnil != false) (Q []) (capOk ([] : (List Bool)).length (l : (List Bool)).length 1 ∧
 Q (([] : (List Bool)) ++ l))))
theorem cloneBool_walk (l : (List Bool)) (Q : (List Bool) → Prop) (h : cloneBool_vc l Q) : CtJ 33 [.sv (.one (LS boolT l))] [] Q (fun (r : (List Bool)) => rowI 4 boolT r) := by
 have ht := tab_ok
 refine CtJ.body Try.func33 rfl rfl rfl rfl (fun c hn hmay => ?_)
 unfold cloneBool_vc at h
 refine En.lenL 0 (by rfl) (fun hl => ?_)
 replace h := h hl
 clear hl
 refine En.seq ?_
 refine En.region ?_
 refine WL.run ht hn 1 ⟨[sl 0 (LS boolT l)], []⟩ (by kernel_rfl) ?_
 refine WL.nil ?_
 refine En.seq ?_
 refine En.seq ?_
 refine En.region ?_
 refine WL.run ht hn 1 ⟨[sl 0 (LS boolT l), sl 3 (LS boolT l)], []⟩ (by kernel_rfl) ?_
 refine WL.eqNil (T := boolT) (l := l) .eql false (by simp) ht hn (by rfl) rfl (by rfl) (by rfl) (by rfl) rfl (by rfl) (fun isnil hisnil => ?_)
 replace h := h isnil hisnil
 clear hisnil
 refine WL.nil ?_
 refine En.cond (b := (isnil != false)) (by kernel_rfl) (fun hb => ?_) (fun hb => ?_)
 replace h := h.1 hb
 refine En.seq ?_
 refine En.region ?_
 refine WL.run ht hn 1 ⟨[sl 2 (.v (.slice none 0 0))], []⟩ (by kernel_rfl) ?_
 refine WL.nil ?_
 refine En.ret ?_
 exact En.backN (by rfl) h
 replace h := h.2 hb
 refine En.skip ?_
 refine En.seq ?_
 refine En.region ?_
 refine WL.mt0 (K := []) (p := some (0, rowI 4 boolT ([] : (List Bool)))) hn (by rfl) (mt_empty boolT 0 ht rfl (by rfl) (by rfl) (by rfl)) (by rfl) (by rfl) (by rfl) ?_
 refine WL.run ht hn 1 ⟨[sl 5 (.own 0), sl 6 (LS boolT l)], [rowI 4 boolT ([] : (List Bool))]⟩ (by kernel_rfl) ?_
 have hp := h.1
 replace h := h.2
 refine WL.mt (S2 := ⟨[sl 6 (LS boolT l)], [rowI 4 boolT ([] : (List Bool))]⟩) (K := [0]) (p := some (0, rowI 4 boolT (([] : (List Bool)) ++ l))) hn (by rfl) (mt_append (T := boolT) (l := ([] : (List Bool))) (es := l) ht rfl (by rfl) (by rfl) (by rfl) (by rfl) (by decide) (by rfl) (by rfl) (srcLS (T := boolT) (es := l) (fun _ h => by cases h) (by decide) (by rfl)) (by exact hp) (by exact hp.le (by decide))) (by kernel_rfl) (by rfl) (by rfl) (by rfl) ?_
 refine WL.run ht hn 1 ⟨[sl 2 (.own 0)], [rowI 4 boolT (([] : (List Bool)) ++ l)]⟩ (by kernel_rfl) ?_
 refine WL.nil ?_
 refine En.ret ?_
 exact En.backJ (itf := fun l => rowI 4 boolT l) hmay (by rfl) (by rfl) rfl rfl h
theorem en33 : ∀ args w, (callFunc 33 args).run Try.prog w = .ok (.enter 33 args) w := enters_of Try.func33 (by kernel_rfl) rfl
theorem cloneBool_ct (l : List Bool) (hp : l.length * 1 ≤ 140737488355328) : CtI 33 [.sv (.one (LS boolT l))] [] (rowI 4 boolT l) := by
 refine (cloneBool_walk l (fun r => r = l) ?_).fun
 unfold cloneBool_vc
 refine fun _ isnil h => ⟨fun hb => (h (by simpa using hb)).symm, fun _ => ⟨?_, by simp⟩⟩
 unfold capOk
 simpa using hp
def fWhr_vc (k : Nat) (nd : FTr) (gr : ApiGraph) (ss : (List (List Bool))) (Q : (List Bool) → Prop) : Prop :=
 gr.fArrows.length ≤ 9223372036854775807 →
 ss.length ≤ 9223372036854775807 →
 (makeOk gr.fPlaces gr.fPlaces 1 ∧
 ∃ J : (List Bool) → Prop, (IfP (nd.lab.fSign == 49) ((([true] : (List Bool)).length = 1 ∧ 0 ≤ gr.fPlaces ∧ gr.fPlaces < 2147483648) ∧
 Q ((List.replicate (gr.fPlaces).toNat ((([true] : (List Bool))).headD false)))) (IfP (nd.lab.fSign == 88) (∃ e, idx ss nd.lab.fN = some e ∧
 Q e) (IfP (nd.lab.fSign == 33) (((fun q_ => 0 ≤ q_ ∧ q_ < (nd.kids.length : Int) ∧ PreW k (nd.kids.getD (q_ : Int).toNat (fn 48 0 [])) gr ss) 0) ∧
 ∃ (Inv : Int → (List Bool) → Prop) (mu : Int → (List Bool) → Nat), Inv 0 (List.replicate (gr.fPlaces).toNat false) ∧
 ∀ (x48 : Int) (l3_2 : (List Bool)) , Inv x48 l3_2 → (IfP (decide (x48 < (((fun q_ => semF gr k (nd.kids.getD (q_ : Int).toNat (fn 48 0 [])) ss) 0).length : Int))) (∃ e_2, idx ((fun q_ => semF gr k (nd.kids.getD (q_ : Int).toNat (fn 48 0 [])) ss) 0) x48 = some e_2 ∧
 ∃ e_3, idx l3_2 x48 = some e_3 ∧
 (Inv (wr (x48 + 1)) (l3_2.set (x48).toNat (!e_2)) ∧ mu (wr (x48 + 1)) (l3_2.set (x48).toNat (!e_2)) < mu x48 l3_2)) (J l3_2))) (∃ J_2 : Bool → Prop, (IfP (nd.lab.fSign == 38) (J_2 (nd.lab.fSign == 38)) (J_2 (nd.lab.fSign == 124))) ∧
 (∀ (x59 : Bool), J_2 x59 → IfP x59 (((fun q_ => 0 ≤ q_ ∧ q_ < (nd.kids.length : Int) ∧ PreW k (nd.kids.getD (q_ : Int).toNat (fn 48 0 [])) gr ss) 0) ∧
 ((fun q_ => 0 ≤ q_ ∧ q_ < (nd.kids.length : Int) ∧ PreW k (nd.kids.getD (q_ : Int).toNat (fn 48 0 [])) gr ss) 1) ∧
 ∃ (Inv_2 : Int → (List Bool) → Prop) (mu_2 : Int → (List Bool) → Nat), Inv_2 0 (List.replicate (gr.fPlaces).toNat false) ∧
 ∀ (x68 : Int) (l3_3 : (List Bool)) , Inv_2 x68 l3_3 → (IfP (decide (x68 < ((List.replicate (gr.fPlaces).toNat false).length : Int))) (∃ J_3 : (List Bool) → Prop, (∃ e_4, idx ((fun q_ => semF gr k (nd.kids.getD (q_ : Int).toNat (fn 48 0 [])) ss) 0) x68 = some e_4 ∧
 IfP e_4 (∃ e_5, idx ((fun q_ => semF gr k (nd.kids.getD (q_ : Int).toNat (fn 48 0 [])) ss) 1) x68 = some e_5 ∧
 IfP e_5 (∃ e_6, idx l3_3 x68 = some e_6 ∧
 J_3 (l3_3.set (x68).toNat true)) (IfP (nd.lab.fSign == 124) (∃ e_7, idx ((fun q_ => semF gr k (nd.kids.getD (q_ : Int).toNat (fn 48 0 [])) ss) 0) x68 = some e_7 ∧
 IfP e_7 (∃ e_8, idx l3_3 x68 = some e_8 ∧
 J_3 (l3_3.set (x68).toNat true)) (∃ e_9, idx ((fun q_ => semF gr k (nd.kids.getD (q_ : Int).toNat (fn 48 0 [])) ss) 1) x68 = some e_9 ∧
 ∃ e_10, idx l3_3 x68 = some e_10 ∧
 J_3 (l3_3.set (x68).toNat e_9))) (∃ e_11, idx l3_3 x68 = some e_11 ∧
 J_3 (l3_3.set (x68).toNat false)))) (IfP (nd.lab.fSign == 124) (∃ e_12, idx ((fun q_ => semF gr k (nd.kids.getD (q_ : Int).toNat (fn 48 0 [])) ss) 0) x68 = some e_12 ∧
 IfP e_12 (∃ e_13, idx l3_3 x68 = some e_13 ∧
 J_3 (l3_3.set (x68).toNat true)) (∃ e_14, idx ((fun q_ => semF gr k (nd.kids.getD (q_ : Int).toNat (fn 48 0 [])) ss) 1) x68 = some e_14 ∧
 ∃ e_15, idx l3_3 x68 = some e_15 ∧
 J_3 (l3_3.set (x68).toNat e_14))) (∃ e_16, idx l3_3 x68 = some e_16 ∧
 J_3 (l3_3.set (x68).toNat false)))) ∧
 (∀ (l3_4 : (List Bool)), J_3 l3_4 → (Inv_2 (wr (x68 + 1)) l3_4 ∧ mu_2 (wr (x68 + 1)) l3_4 < mu_2 x68 l3_3))) (J l3_3))) (∃ J_4 : Bool → Prop, (IfP (nd.lab.fSign == 60) (J_4 (nd.lab.fSign == 60)) (J_4 (nd.lab.fSign == 91))) ∧
 (∀ (x104 : Bool), J_4 x104 → IfP x104 (((fun q_ => 0 ≤ q_ ∧ q_ < (nd.kids.length : Int) ∧ PreW k (nd.kids.getD (q_ : Int).toNat (fn 48 0 [])) gr ss) 0) ∧
 ∃ (Inv_3 : Int → (List Bool) → Prop) (mu_3 : Int → (List Bool) → Nat), Inv_3 0 (List.replicate (gr.fPlaces).toNat false) ∧
 ∀ (x111 : Int) (l3_5 : (List Bool)) , Inv_3 x111 l3_5 → (IfP (decide (x111 < ((List.replicate (gr.fPlaces).toNat false).length : Int))) (∃ e_17, idx l3_5 x111 = some e_17 ∧
 (Inv_3 (wr (x111 + 1)) (l3_5.set (x111).toNat (nd.lab.fSign == 91)) ∧ mu_3 (wr (x111 + 1)) (l3_5.set (x111).toNat (nd.lab.fSign == 91)) < mu_3 x111 l3_5)) (∃ (Inv_4 : Int → (List Bool) → Prop) (mu_4 : Int → (List Bool) → Nat), Inv_4 0 l3_5 ∧
 ∀ (x126 : Int) (l3_6 : (List Bool)) , Inv_4 x126 l3_6 → (IfP (decide (x126 < (gr.fArrows.length : Int))) (∃ J_5 : (List Bool) → Prop, (∃ e_18, idx gr.fArrows x126 = some e_18 ∧
 ∃ J_6 : Bool → Prop, (IfP (e_18.fLetter == nd.lab.fN) (∃ e_19, idx ((fun q_ => semF gr k (nd.kids.getD (q_ : Int).toNat (fn 48 0 [])) ss) 0) e_18.fTo = some e_19 ∧
 J_6 (e_19 == (nd.lab.fSign == 60))) (J_6 false)) ∧
 (∀ (x149 : Bool), J_6 x149 → IfP x149 (∃ e_20, idx l3_6 e_18.fFrom = some e_20 ∧
 J_5 (l3_6.set (e_18.fFrom).toNat (nd.lab.fSign == 60))) (J_5 l3_6))) ∧
 (∀ (l3_7 : (List Bool)), J_5 l3_7 → (Inv_4 (wr (x126 + 1)) l3_7 ∧ mu_4 (wr (x126 + 1)) l3_7 < mu_4 x126 l3_6))) (J l3_6))))) (∃ J_7 : Bool → Prop, (IfP (nd.lab.fSign == 109) (J_7 (nd.lab.fSign == 109)) (J_7 (nd.lab.fSign == 110))) ∧
 (∀ (x160 : Bool), J_7 x160 → IfP x160 (∃ (Inv_5 : Int → (List Bool) → Prop) (mu_5 : Int → (List Bool) → Nat), Inv_5 0 (List.replicate (gr.fPlaces).toNat false) ∧
 ∀ (x165 : Int) (l3_8 : (List Bool)) , Inv_5 x165 l3_8 → (IfP (decide (x165 < ((List.replicate (gr.fPlaces).toNat false).length : Int))) (∃ e_21, idx l3_8 x165 = some e_21 ∧
 (Inv_5 (wr (x165 + 1)) (l3_8.set (x165).toNat (nd.lab.fSign == 110)) ∧ mu_5 (wr (x165 + 1)) (l3_8.set (x165).toNat (nd.lab.fSign == 110)) < mu_5 x165 l3_8)) (∃ (Inv_6 : (List Bool) → Prop) (mu_6 : (List Bool) → Nat), Inv_6 l3_8 ∧
 ∀ (x7 : (List Bool)) , Inv_6 x7 → (∃ e_22, idx nd.kids 0 = some e_22 ∧
 capOk ss.length (([x7] : (List (List Bool))) : (List (List Bool))).length 24 ∧
 (PreW k e_22 gr (ss ++ ([x7] : (List (List Bool))))) ∧
 IfP (decide ((semF gr k e_22 (ss ++ ([x7] : (List (List Bool))))) = x7)) (Q x7) ((Inv_6 (semF gr k e_22 (ss ++ ([x7] : (List (List Bool))))) ∧ mu_6 (semF gr k e_22 (ss ++ ([x7] : (List (List Bool))))) < mu_6 x7)))))) (J (List.replicate (gr.fPlaces).toNat false))))))))))) ∧
 (∀ (l3 : (List Bool)), J l3 → Q l3))
noncomputable abbrev qfWhr0 (nd : FTr) := (svR (.agg [.v (.int .u8 nd.lab.fSign), I nd.lab.fN, LS (TT fLab) nd.kids]))
noncomputable abbrev qfWhr1 (gr : ApiGraph) := (LS ApiArrow.ty gr.fArrows)
noncomputable abbrev qfWhr2 (gr : ApiGraph) := (ApiGraph.cl gr)
set_option maxHeartbeats 2000000 in
theorem fWhr_walk (k : Nat) (nd : FTr) (gr : ApiGraph) (ss : (List (List Bool))) (ih : WhF k) (Q : (List Bool) → Prop) (h : fWhr_vc k nd gr ss Q) : Ct 34 [.sv (.one (.rd (trR fLab nd))), .sv (.agg [I gr.fLetters, I gr.fPlaces, LS ApiArrow.ty gr.fArrows]), .sv (.one (LS (lsT boolT) ss))] [] Q (fun (r : (List Bool)) => .sv (.one (LS boolT r))) := by
 have ht := tab_ok
 refine Ct.body Try.func34 rfl rfl rfl rfl (fun c hn => ?_)
 unfold fWhr_vc at h
 refine En.lenA 1 2 (by rfl) (by rfl) (fun hl => ?_)
 replace h := h hl
 clear hl
 refine En.lenL 2 (by rfl) (fun hl => ?_)
 replace h := h hl
 clear hl
 refine En.seq ?_
 refine En.region ?_
 refine WL.run ht hn 4 ⟨[sl 3 (.ptr 0 0), sl 4 (.ptr 1 0), sl 5 (.ptr 2 0)], [.box [.rd (trR fLab nd)] 83 false, .box (qfWhr2 gr) 24 false, .box [LS (lsT boolT) ss] 146 false]⟩ (by kernel_rfl) ?_
 refine WL.nil ?_
 refine En.seq ?_
 refine En.region ?_
 refine WL.run ht hn 2 ⟨[sl 3 (.ptr 0 0), sl 4 (.ptr 1 0), sl 5 (.ptr 2 0), sl 21 (I gr.fPlaces)], [.box [.rd (trR fLab nd)] 83 false, .box (qfWhr2 gr) 24 false, .box [LS (lsT boolT) ss] 146 false]⟩ (by kernel_rfl) ?_
 have hp := h.1
 replace h := h.2
 refine WL.mt0 (K := []) (p := some (3, rowI 4 boolT (List.replicate (gr.fPlaces).toNat false))) hn (by rfl) (mt_make (T := boolT) false (zv := (.bool false)) 3 (l := gr.fPlaces) (cp := gr.fPlaces) ht rfl (by rfl) (by rfl) (by rfl) (by rfl) (by decide) (by rfl) (by rfl) hp.1 hp.2.1 hp.2.2 (hp.le (by decide)) rfl (fun _ => ⟨rfl, trivial⟩)) (by rfl) (by rfl) (by rfl) ?_
 refine WL.run ht hn 1 ⟨[sl 3 (.ptr 0 0), sl 4 (.ptr 1 0), sl 5 (.ptr 2 0), sl 7 (.own 3)], [.box [.rd (trR fLab nd)] 83 false, .box (qfWhr2 gr) 24 false, .box [LS (lsT boolT) ss] 146 false, rowI 4 boolT (List.replicate (gr.fPlaces).toNat false)]⟩ (by kernel_rfl) ?_
 refine WL.nil ?_
 refine En.seq ?_
 refine En.region ?_
 refine WL.run ht hn 2 ⟨[sl 3 (.ptr 0 0), sl 4 (.ptr 1 0), sl 5 (.ptr 2 0), sl 7 (.own 3), sl 8 (.fn 76 [0, 1, 2])], [.box [.rd (trR fLab nd)] 83 false, .box (qfWhr2 gr) 24 false, .box [LS (lsT boolT) ss] 146 false, rowI 4 boolT (List.replicate (gr.fPlaces).toNat false)]⟩ (by kernel_rfl) ?_
 refine WL.nil ?_
 obtain ⟨J, h, hJ⟩ := h
 refine En.seqJ (σ := (List Bool)) (fun zz => J zz) (fun zz => ⟨[sl 7 (.own 3)], [.gone, .gone, .gone, rowI 4 boolT zz]⟩) ?_ ?_
 refine En.seq ?_
 refine En.region ?_
 refine WL.run ht hn 1 ⟨[sl 3 (.ptr 0 0), sl 4 (.ptr 1 0), sl 5 (.ptr 2 0), sl 7 (.own 3), sl 8 (.fn 76 [0, 1, 2]), sl 24 (.rd (trR fLab nd))], [.box [.rd (trR fLab nd)] 83 false, .box (qfWhr2 gr) 24 false, .box [LS (lsT boolT) ss] 146 false, rowI 4 boolT (List.replicate (gr.fPlaces).toNat false)]⟩ (by kernel_rfl) ?_
 refine WL.val hn (by rfl) (val_node (s := .agg [.v (.int .u8 nd.lab.fSign), I nd.lab.fN, LS (TT fLab) nd.kids]) (t := nd) (lab := fLab) fLabH rfl (by rfl) rfl rfl) (by rfl) ?_
 refine WL.val hn (by rfl) (val_field (l := [.v (.int .u8 nd.lab.fSign), I nd.lab.fN, LS (TT fLab) nd.kids]) (r := .one (.v (.int .u8 nd.lab.fSign))) ht rfl (by rfl) (by rfl) (by rfl) (by rfl) (by rfl) (by rfl)) (by rfl) ?_
 refine WL.val hn (by rfl) (val_load (s := .one (.v (.int .u8 nd.lab.fSign))) ht rfl (by rfl) (by rfl) (by rfl) (by rfl) (by rfl)) (by rfl) ?_
 refine WL.nil ?_
 refine En.block ?_
 refine En.seq ?_
 refine En.region ?_
 refine WL.run ht hn 2 ⟨[sl 3 (.ptr 0 0), sl 4 (.ptr 1 0), sl 5 (.ptr 2 0), sl 7 (.own 3), sl 8 (.fn 76 [0, 1, 2]), sl 27 (.v (.int .u8 nd.lab.fSign)), sl 28 (B (nd.lab.fSign == 49))], [.box [.rd (trR fLab nd)] 83 false, .box (qfWhr2 gr) 24 false, .box [LS (lsT boolT) ss] 146 false, rowI 4 boolT (List.replicate (gr.fPlaces).toNat false)]⟩ (by kernel_rfl) ?_
 refine WL.nil ?_
 refine En.cond (b := (nd.lab.fSign == 49)) (by kernel_rfl) (fun hb => ?_) (fun hb => ?_)
 replace h := h.1 hb
 refine En.seq ?_
 refine En.region ?_
 refine WL.mt0 (K := []) (p := some (4, rowI 4 boolT ([true] : (List Bool)))) hn (by rfl) (mt_lit (T := boolT) ([true] : (List Bool)) (mt_bsl 4 (r := cellsOf boolT ([true] : (List Bool))) ht rfl (by rfl) (by rfl) (by rfl) (by kernel_rfl) (by rfl)) (fun _ h => by cases h) (fun _ => rfl) (fun _ => rfl) (by rfl) (Nat.le_of_ble_eq_true rfl)) (by rfl) (by rfl) (by rfl) ?_
 refine WL.run ht hn 2 ⟨[sl 30 (.own 4), sl 32 (I gr.fPlaces)], [.gone, .gone, .gone, .gone, rowI 4 boolT ([true] : (List Bool))]⟩ (by kernel_rfl) ?_
 have hp := h.1
 replace h := h.2
 refine WL.mt0 (K := []) (p := some (5, rowI 4 boolT ((List.replicate (gr.fPlaces).toNat ((([true] : (List Bool))).headD false))))) hn (by rfl) (mt_lendI (T := boolT) (l := ([true] : (List Bool))) 4 (by rfl) (plain_row fun _ => rfl) (mt_callI 5 (repB_ct ([true] : (List Bool)) gr.fPlaces hp) en77 (caps := []) [] rfl rfl (by rfl) (by kernel_rfl) (by kernel_rfl) (by rfl) (by rfl))) (by rfl) (by rfl) (by rfl) ?_
 refine WL.run ht hn 1 ⟨[sl 6 (.own 5)], [.gone, .gone, .gone, .gone, .gone, rowI 4 boolT ((List.replicate (gr.fPlaces).toNat ((([true] : (List Bool))).headD false)))]⟩ (by kernel_rfl) ?_
 refine WL.nil ?_
 refine En.ret ?_
 refine En.seal (T := boolT) (l := ((List.replicate (gr.fPlaces).toNat ((([true] : (List Bool))).headD false)))) (e := 4) 5 rfl ?_
 exact En.back ht ((List.replicate (gr.fPlaces).toNat ((([true] : (List Bool))).headD false))) h (by kernel_rfl) rfl
 replace h := h.2 hb
 refine En.seq ?_
 refine En.region ?_
 refine WL.run ht hn 2 ⟨[sl 3 (.ptr 0 0), sl 4 (.ptr 1 0), sl 5 (.ptr 2 0), sl 7 (.own 3), sl 8 (.fn 76 [0, 1, 2]), sl 27 (.v (.int .u8 nd.lab.fSign)), sl 34 (B (nd.lab.fSign == 88))], [.box [.rd (trR fLab nd)] 83 false, .box (qfWhr2 gr) 24 false, .box [LS (lsT boolT) ss] 146 false, rowI 4 boolT (List.replicate (gr.fPlaces).toNat false)]⟩ (by kernel_rfl) ?_
 refine WL.nil ?_
 refine En.cond (b := (nd.lab.fSign == 88)) (by kernel_rfl) (fun hb => ?_) (fun hb => ?_)
 replace h := h.1 hb
 refine En.seq ?_
 obtain ⟨e, he, h⟩ := h
 refine En.regionA ⟨[sl 3 (.ptr 0 0), sl 5 (.ptr 2 0)], [.sv (.one (LS (lsT boolT) ss)), .sv (.one (.rd (trR fLab nd))), .sv (.one (.pe (qfWhr0 nd) 3)), .sv (.one (.pe (svR (.one (I nd.lab.fN))) 1)), .sv (.one (I nd.lab.fN)), .sv (.one (.pe (svR (.one (LS boolT e))) 1)), .sv (.one (LS boolT e)), .sv (.one (LS boolT e))], [⟨.box [.rd (trR fLab nd)] 83 false, none, none, none⟩, ⟨.gone, none, none, none⟩, ⟨.box [LS (lsT boolT) ss] 146 false, none, none, none⟩, ⟨.gone, none, none, none⟩]⟩ ⟨[sl 6 (LS boolT e)], [.gone, .gone, .gone, .gone]⟩ (by kernel_rfl) hn (by kernel_rfl) (by rfl) (by kernel_rfl) ?_ (by kernel_rfl) ?_
 exact ⟨.mt ⟨[sl 5 (.ptr 2 0)], [.gone, .gone, .box [LS (lsT boolT) ss] 146 false]⟩ [] none (by kernel_rfl) (by rfl) (mt_ev ht (by kernel_rfl)) rfl rfl rfl rfl,
 .mt ⟨[sl 3 (.ptr 0 0)], [.box [.rd (trR fLab nd)] 83 false]⟩ [] none (by kernel_rfl) (by rfl) (mt_ev ht (by kernel_rfl)) rfl rfl rfl rfl,
 .mt ⟨[sl 37 (.rd (trR fLab nd))], []⟩ [] none (by kernel_rfl) (by rfl) (mt_val (val_node (s := .agg [.v (.int .u8 nd.lab.fSign), I nd.lab.fN, LS (TT fLab) nd.kids]) (t := nd) (lab := fLab) fLabH rfl (by rfl) rfl rfl)) rfl rfl rfl rfl,
 .mt ⟨[sl 38 (.pe (qfWhr0 nd) 3)], []⟩ [] none (by kernel_rfl) (by rfl) (mt_val (val_field (l := [.v (.int .u8 nd.lab.fSign), I nd.lab.fN, LS (TT fLab) nd.kids]) (r := .one (I nd.lab.fN)) ht rfl (by rfl) (by rfl) (by rfl) (by rfl) (by rfl) (by rfl))) rfl rfl rfl rfl,
 .mt ⟨[sl 39 (.pe (svR (.one (I nd.lab.fN))) 1)], []⟩ [] none (by kernel_rfl) (by rfl) (mt_val (val_load (s := .one (I nd.lab.fN)) ht rfl (by rfl) (by rfl) (by rfl) (by rfl) (by rfl))) rfl rfl rfl rfl,
 .mt ⟨[sl 36 (LS (lsT boolT) ss), sl 40 (I nd.lab.fN)], []⟩ [] none (by kernel_rfl) (by rfl) (mt_val (val_index (T := (lsT boolT)) (l := ss) (i := nd.lab.fN) ht rfl (by rfl) (by rfl) (by rfl) (by rfl) (by rfl) (by rfl) he)) rfl rfl rfl rfl,
 .mt ⟨[sl 41 (.pe (svR (.one (LS boolT e))) 1)], []⟩ [] none (by kernel_rfl) (by rfl) (mt_val (val_load (s := .one (LS boolT e)) ht rfl (by rfl) (by rfl) (by rfl) (by rfl) (by rfl))) rfl rfl rfl rfl,
 .mt ⟨[sl 42 (LS boolT e)], []⟩ [] none (by kernel_rfl) (by rfl) (mt_ev ht (by kernel_rfl)) rfl rfl rfl rfl,
 trivial⟩
 refine En.ret ?_
 exact En.back ht e h (by kernel_rfl) rfl
 replace h := h.2 hb
 refine En.seq ?_
 refine En.region ?_
 refine WL.run ht hn 2 ⟨[sl 3 (.ptr 0 0), sl 4 (.ptr 1 0), sl 5 (.ptr 2 0), sl 7 (.own 3), sl 8 (.fn 76 [0, 1, 2]), sl 27 (.v (.int .u8 nd.lab.fSign)), sl 43 (B (nd.lab.fSign == 33))], [.box [.rd (trR fLab nd)] 83 false, .box (qfWhr2 gr) 24 false, .box [LS (lsT boolT) ss] 146 false, rowI 4 boolT (List.replicate (gr.fPlaces).toNat false)]⟩ (by kernel_rfl) ?_
 refine WL.nil ?_
 refine En.cond (b := (nd.lab.fSign == 33)) (by kernel_rfl) (fun hb => ?_) (fun hb => ?_)
 replace h := h.1 hb
 refine En.seq ?_
 refine En.region ?_
 refine WL.run ht hn 1 ⟨[sl 7 (.own 3), sl 45 (.fn 76 [0, 1, 2])], [.box [.rd (trR fLab nd)] 83 false, .box (qfWhr2 gr) 24 false, .box [LS (lsT boolT) ss] 146 false, rowI 4 boolT (List.replicate (gr.fPlaces).toNat false)]⟩ (by kernel_rfl) ?_
 refine WL.freeze [0, 1, 2] (by rfl) ?_
 refine WL.ghost 45 (o1 (.rd (fvR (fun (x_ : Int) => [.sv (.one (I x_))]) (fun (r : (List Bool)) => .sv (.one (LS boolT r))) (fun q_ => 0 ≤ q_ ∧ q_ < (nd.kids.length : Int) ∧ PreW k (nd.kids.getD (q_ : Int).toNat (fn 48 0 [])) gr ss) (fun q_ => semF gr k (nd.kids.getD (q_ : Int).toNat (fn 48 0 [])) ss)))) (by rfl) (fv_of (M := [.box [.rd (trR fLab nd)] 83 true, .box (qfWhr2 gr) 24 true, .box [LS (lsT boolT) ss] 146 true]) (caps := [0, 1, 2]) (fun x_ hx => fKid_ct k ih x_ nd gr ss hx) en76 rfl (by kernel_rfl) (by rfl) (fun _ => rfl)) ?_
 have hp := h.1
 replace h := h.2
 refine WL.mt0 (K := []) (p := none) hn (by rfl) (mt_callv (0 : Int) hp rfl (by rfl) (by rfl) (by rfl) (by rfl)) (by rfl) (by rfl) (by rfl) ?_
 refine WL.run ht hn 2 ⟨[sl 7 (.own 3), sl 46 (LS boolT ((fun q_ => semF gr k (nd.kids.getD (q_ : Int).toNat (fn 48 0 [])) ss) 0)), sl 47 (I (((fun q_ => semF gr k (nd.kids.getD (q_ : Int).toNat (fn 48 0 [])) ss) 0).length : Int)), sl 48 (I 0)], [.gone, .gone, .gone, rowI 4 boolT (List.replicate (gr.fPlaces).toNat false)]⟩ (by kernel_rfl) ?_
 refine WL.nil ?_
 refine En.block ?_
 obtain ⟨Inv, mu, h0, hI⟩ := h
 refine En.loop (σ := Int × (List Bool)) (fun zz => Inv zz.1 zz.2) (fun zz => mu zz.1 zz.2) (fun zz => ⟨[sl 7 (.own 3), sl 46 (LS boolT ((fun q_ => semF gr k (nd.kids.getD (q_ : Int).toNat (fn 48 0 [])) ss) 0)), sl 47 (I (((fun q_ => semF gr k (nd.kids.getD (q_ : Int).toNat (fn 48 0 [])) ss) 0).length : Int)), sl 48 (I zz.1)], [.gone, .gone, .gone, rowI 4 boolT zz.2]⟩) (0, (List.replicate (gr.fPlaces).toNat false)) h0 (sub_ok (by kernel_rfl)) ?_
 rintro ⟨x48, l3_2⟩ h
 replace h := hI _ _ h
 show En c ⟨[sl 7 (.own 3), sl 46 (LS boolT ((fun q_ => semF gr k (nd.kids.getD (q_ : Int).toNat (fn 48 0 [])) ss) 0)), sl 47 (I (((fun q_ => semF gr k (nd.kids.getD (q_ : Int).toNat (fn 48 0 [])) ss) 0).length : Int)), sl 48 (I x48)], [.gone, .gone, .gone, rowI 4 boolT l3_2]⟩ _
 refine En.seq ?_
 refine En.region ?_
 refine WL.run ht hn 1 ⟨[sl 7 (.own 3), sl 46 (LS boolT ((fun q_ => semF gr k (nd.kids.getD (q_ : Int).toNat (fn 48 0 [])) ss) 0)), sl 47 (I (((fun q_ => semF gr k (nd.kids.getD (q_ : Int).toNat (fn 48 0 [])) ss) 0).length : Int)), sl 48 (I x48), sl 49 (B (decide (x48 < (((fun q_ => semF gr k (nd.kids.getD (q_ : Int).toNat (fn 48 0 [])) ss) 0).length : Int))))], [.gone, .gone, .gone, rowI 4 boolT l3_2]⟩ (by kernel_rfl) ?_
 refine WL.nil ?_
 refine En.seq ?_
 refine En.cond (b := (decide (x48 < (((fun q_ => semF gr k (nd.kids.getD (q_ : Int).toNat (fn 48 0 [])) ss) 0).length : Int)))) (by kernel_rfl) (fun hb => ?_) (fun hb => ?_)
 replace h := h.1 hb
 refine En.skip ?_
 refine En.seq ?_
 refine En.block ?_
 refine En.seq ?_
 refine En.region ?_
 refine WL.run ht hn 1 ⟨[sl 7 (.own 3), sl 46 (LS boolT ((fun q_ => semF gr k (nd.kids.getD (q_ : Int).toNat (fn 48 0 [])) ss) 0)), sl 47 (I (((fun q_ => semF gr k (nd.kids.getD (q_ : Int).toNat (fn 48 0 [])) ss) 0).length : Int)), sl 48 (I x48), sl 50 (I x48)], [.gone, .gone, .gone, rowI 4 boolT l3_2]⟩ (by kernel_rfl) ?_
 obtain ⟨e_2, he_2, h⟩ := h
 refine WL.val hn (by rfl) (val_index (T := boolT) (l := ((fun q_ => semF gr k (nd.kids.getD (q_ : Int).toNat (fn 48 0 [])) ss) 0)) (i := x48) ht rfl (by rfl) (by rfl) (by rfl) (by rfl) (by rfl) (by rfl) he_2) (by rfl) ?_
 refine WL.val hn (by rfl) (val_load (s := .one (B e_2)) ht rfl (by rfl) (by rfl) (by rfl) (by rfl) (by rfl)) (by rfl) ?_
 refine WL.run ht hn 2 ⟨[sl 7 (.own 3), sl 9 (I x48), sl 10 (B e_2), sl 46 (LS boolT ((fun q_ => semF gr k (nd.kids.getD (q_ : Int).toNat (fn 48 0 [])) ss) 0)), sl 47 (I (((fun q_ => semF gr k (nd.kids.getD (q_ : Int).toNat (fn 48 0 [])) ss) 0).length : Int)), sl 48 (I x48)], [.gone, .gone, .gone, rowI 4 boolT l3_2]⟩ (by kernel_rfl) ?_
 refine WL.nil ?_
 refine En.region ?_
 refine WL.run ht hn 4 ⟨[sl 7 (.own 3), sl 46 (LS boolT ((fun q_ => semF gr k (nd.kids.getD (q_ : Int).toNat (fn 48 0 [])) ss) 0)), sl 47 (I (((fun q_ => semF gr k (nd.kids.getD (q_ : Int).toNat (fn 48 0 [])) ss) 0).length : Int)), sl 48 (I x48), sl 53 (.own 3), sl 54 (I x48), sl 56 (B (!e_2))], [.gone, .gone, .gone, rowI 4 boolT l3_2]⟩ (by kernel_rfl) ?_
 obtain ⟨e_3, he_3, h⟩ := h
 refine WL.val hn (by rfl) (val_indexO (T := boolT) (l := l3_2) (k := x48) ht rfl (by rfl) (by rfl) (by rfl) (by rfl) (by decide) (by rfl) (by rfl) (by rfl) he_3) (by rfl) ?_
 refine WL.storeO (T := boolT) (l := l3_2) (y := (!e_2)) ht hn (by rfl) rfl (by rfl) (by rfl) (fun _ h => by cases h) (by rfl) (by rfl) (idx_lt he_3) (by rfl) (by rfl) (by rfl) (by rfl) ?_
 refine WL.nil ?_
 refine En.region ?_
 refine WL.run ht hn 2 ⟨[sl 7 (.own 3), sl 46 (LS boolT ((fun q_ => semF gr k (nd.kids.getD (q_ : Int).toNat (fn 48 0 [])) ss) 0)), sl 47 (I (((fun q_ => semF gr k (nd.kids.getD (q_ : Int).toNat (fn 48 0 [])) ss) 0).length : Int)), sl 48 (I (wr (x48 + 1)))], [.gone, .gone, .gone, rowI 4 boolT (l3_2.set (x48).toNat (!e_2))]⟩ (by kernel_rfl) ?_
 refine WL.nil ?_
 exact En.at (I := fun zz => Inv zz.1 zz.2 ∧ mu zz.1 zz.2 < mu x48 l3_2) (T := fun zz => ⟨[sl 7 (.own 3), sl 46 (LS boolT ((fun q_ => semF gr k (nd.kids.getD (q_ : Int).toNat (fn 48 0 [])) ss) 0)), sl 47 (I (((fun q_ => semF gr k (nd.kids.getD (q_ : Int).toNat (fn 48 0 [])) ss) 0).length : Int)), sl 48 (I zz.1)], [.gone, .gone, .gone, rowI 4 boolT zz.2]⟩) ((wr (x48 + 1)), (l3_2.set (x48).toNat (!e_2))) h (by kernel_rfl)
 replace h := h.2 hb
 refine En.exit rfl ?_
 exact En.at (I := fun zz => J zz) (T := fun zz => ⟨[sl 7 (.own 3)], [.gone, .gone, .gone, rowI 4 boolT zz]⟩) l3_2 h (by kernel_rfl)
 replace h := h.2 hb
 obtain ⟨J_2, h, hJ_2⟩ := h
 refine En.seqJ (σ := Bool) (fun zz => J_2 zz) (fun zz => ⟨[sl 3 (.ptr 0 0), sl 4 (.ptr 1 0), sl 5 (.ptr 2 0), sl 7 (.own 3), sl 8 (.fn 76 [0, 1, 2]), sl 27 (.v (.int .u8 nd.lab.fSign)), sl 59 (B zz)], [.box [.rd (trR fLab nd)] 83 false, .box (qfWhr2 gr) 24 false, .box [LS (lsT boolT) ss] 146 false, rowI 4 boolT (List.replicate (gr.fPlaces).toNat false)]⟩) ?_ ?_
 refine En.seq ?_
 refine En.region ?_
 refine WL.run ht hn 2 ⟨[sl 3 (.ptr 0 0), sl 4 (.ptr 1 0), sl 5 (.ptr 2 0), sl 7 (.own 3), sl 8 (.fn 76 [0, 1, 2]), sl 27 (.v (.int .u8 nd.lab.fSign)), sl 59 (B (nd.lab.fSign == 38))], [.box [.rd (trR fLab nd)] 83 false, .box (qfWhr2 gr) 24 false, .box [LS (lsT boolT) ss] 146 false, rowI 4 boolT (List.replicate (gr.fPlaces).toNat false)]⟩ (by kernel_rfl) ?_
 refine WL.nil ?_
 refine En.cond (b := (nd.lab.fSign == 38)) (by kernel_rfl) (fun hb => ?_) (fun hb => ?_)
 replace h := h.1 hb
 refine En.skip ?_
 exact En.at (I := fun zz => J_2 zz) (T := fun zz => ⟨[sl 3 (.ptr 0 0), sl 4 (.ptr 1 0), sl 5 (.ptr 2 0), sl 7 (.own 3), sl 8 (.fn 76 [0, 1, 2]), sl 27 (.v (.int .u8 nd.lab.fSign)), sl 59 (B zz)], [.box [.rd (trR fLab nd)] 83 false, .box (qfWhr2 gr) 24 false, .box [LS (lsT boolT) ss] 146 false, rowI 4 boolT (List.replicate (gr.fPlaces).toNat false)]⟩) (nd.lab.fSign == 38) h (by kernel_rfl)
 replace h := h.2 hb
 refine En.region ?_
 refine WL.run ht hn 2 ⟨[sl 3 (.ptr 0 0), sl 4 (.ptr 1 0), sl 5 (.ptr 2 0), sl 7 (.own 3), sl 8 (.fn 76 [0, 1, 2]), sl 27 (.v (.int .u8 nd.lab.fSign)), sl 59 (B (nd.lab.fSign == 124))], [.box [.rd (trR fLab nd)] 83 false, .box (qfWhr2 gr) 24 false, .box [LS (lsT boolT) ss] 146 false, rowI 4 boolT (List.replicate (gr.fPlaces).toNat false)]⟩ (by kernel_rfl) ?_
 refine WL.nil ?_
 exact En.at (I := fun zz => J_2 zz) (T := fun zz => ⟨[sl 3 (.ptr 0 0), sl 4 (.ptr 1 0), sl 5 (.ptr 2 0), sl 7 (.own 3), sl 8 (.fn 76 [0, 1, 2]), sl 27 (.v (.int .u8 nd.lab.fSign)), sl 59 (B zz)], [.box [.rd (trR fLab nd)] 83 false, .box (qfWhr2 gr) 24 false, .box [LS (lsT boolT) ss] 146 false, rowI 4 boolT (List.replicate (gr.fPlaces).toNat false)]⟩) (nd.lab.fSign == 124) h (by kernel_rfl)
 intro x59 h
 replace h := hJ_2 _ h
 show En c ⟨[sl 3 (.ptr 0 0), sl 4 (.ptr 1 0), sl 5 (.ptr 2 0), sl 7 (.own 3), sl 8 (.fn 76 [0, 1, 2]), sl 27 (.v (.int .u8 nd.lab.fSign)), sl 59 (B x59)], [.box [.rd (trR fLab nd)] 83 false, .box (qfWhr2 gr) 24 false, .box [LS (lsT boolT) ss] 146 false, rowI 4 boolT (List.replicate (gr.fPlaces).toNat false)]⟩ _
 refine En.cond (b := x59) (by kernel_rfl) (fun hb => ?_) (fun hb => ?_)
 replace h := h.1 hb
 refine En.seq ?_
 refine En.region ?_
 refine WL.run ht hn 1 ⟨[sl 3 (.ptr 0 0), sl 7 (.own 3), sl 8 (.fn 76 [0, 1, 2]), sl 62 (.fn 76 [0, 1, 2])], [.box [.rd (trR fLab nd)] 83 false, .box (qfWhr2 gr) 24 false, .box [LS (lsT boolT) ss] 146 false, rowI 4 boolT (List.replicate (gr.fPlaces).toNat false)]⟩ (by kernel_rfl) ?_
 refine WL.freeze [0, 1, 2] (by rfl) ?_
 refine WL.ghost 62 (o1 (.rd (fvR (fun (x_ : Int) => [.sv (.one (I x_))]) (fun (r : (List Bool)) => .sv (.one (LS boolT r))) (fun q_ => 0 ≤ q_ ∧ q_ < (nd.kids.length : Int) ∧ PreW k (nd.kids.getD (q_ : Int).toNat (fn 48 0 [])) gr ss) (fun q_ => semF gr k (nd.kids.getD (q_ : Int).toNat (fn 48 0 [])) ss)))) (by rfl) (fv_of (M := [.box [.rd (trR fLab nd)] 83 true, .box (qfWhr2 gr) 24 true, .box [LS (lsT boolT) ss] 146 true]) (caps := [0, 1, 2]) (fun x_ hx => fKid_ct k ih x_ nd gr ss hx) en76 rfl (by kernel_rfl) (by rfl) (fun _ => rfl)) ?_
 have hp := h.1
 replace h := h.2
 refine WL.mt0 (K := []) (p := none) hn (by rfl) (mt_callv (0 : Int) hp rfl (by rfl) (by rfl) (by rfl) (by rfl)) (by rfl) (by rfl) (by rfl) ?_
 refine WL.run ht hn 1 ⟨[sl 3 (.ptr 0 0), sl 7 (.own 3), sl 63 (LS boolT ((fun q_ => semF gr k (nd.kids.getD (q_ : Int).toNat (fn 48 0 [])) ss) 0)), sl 64 (.fn 76 [0, 1, 2])], [.box [.rd (trR fLab nd)] 83 true, .box (qfWhr2 gr) 24 true, .box [LS (lsT boolT) ss] 146 true, rowI 4 boolT (List.replicate (gr.fPlaces).toNat false)]⟩ (by kernel_rfl) ?_
 refine WL.ghost 64 (o1 (.rd (fvR (fun (x_ : Int) => [.sv (.one (I x_))]) (fun (r : (List Bool)) => .sv (.one (LS boolT r))) (fun q_ => 0 ≤ q_ ∧ q_ < (nd.kids.length : Int) ∧ PreW k (nd.kids.getD (q_ : Int).toNat (fn 48 0 [])) gr ss) (fun q_ => semF gr k (nd.kids.getD (q_ : Int).toNat (fn 48 0 [])) ss)))) (by rfl) (fv_of (M := [.box [.rd (trR fLab nd)] 83 true, .box (qfWhr2 gr) 24 true, .box [LS (lsT boolT) ss] 146 true]) (caps := [0, 1, 2]) (fun x_ hx => fKid_ct k ih x_ nd gr ss hx) en76 rfl (by kernel_rfl) (by rfl) (fun _ => rfl)) ?_
 have hp := h.1
 replace h := h.2
 refine WL.mt0 (K := []) (p := none) hn (by rfl) (mt_callv (1 : Int) hp rfl (by rfl) (by rfl) (by rfl) (by rfl)) (by rfl) (by rfl) (by rfl) ?_
 refine WL.run ht hn 2 ⟨[sl 3 (.ptr 0 0), sl 7 (.own 3), sl 11 (LS boolT ((fun q_ => semF gr k (nd.kids.getD (q_ : Int).toNat (fn 48 0 [])) ss) 0)), sl 12 (LS boolT ((fun q_ => semF gr k (nd.kids.getD (q_ : Int).toNat (fn 48 0 [])) ss) 1))], [.box [.rd (trR fLab nd)] 83 true, .gone, .gone, rowI 4 boolT (List.replicate (gr.fPlaces).toNat false)]⟩ (by kernel_rfl) ?_
 refine WL.nil ?_
 refine En.seq ?_
 refine En.region ?_
 refine WL.run ht hn 3 ⟨[sl 3 (.ptr 0 0), sl 7 (.own 3), sl 11 (LS boolT ((fun q_ => semF gr k (nd.kids.getD (q_ : Int).toNat (fn 48 0 [])) ss) 0)), sl 12 (LS boolT ((fun q_ => semF gr k (nd.kids.getD (q_ : Int).toNat (fn 48 0 [])) ss) 1)), sl 67 (I ((List.replicate (gr.fPlaces).toNat false).length : Int)), sl 68 (I 0)], [.box [.rd (trR fLab nd)] 83 true, .gone, .gone, rowI 4 boolT (List.replicate (gr.fPlaces).toNat false)]⟩ (by kernel_rfl) ?_
 refine WL.nil ?_
 refine En.block ?_
 obtain ⟨Inv_2, mu_2, h0_2, hI_2⟩ := h
 refine En.loop (σ := Int × (List Bool)) (fun zz => Inv_2 zz.1 zz.2) (fun zz => mu_2 zz.1 zz.2) (fun zz => ⟨[sl 3 (.ptr 0 0), sl 7 (.own 3), sl 11 (LS boolT ((fun q_ => semF gr k (nd.kids.getD (q_ : Int).toNat (fn 48 0 [])) ss) 0)), sl 12 (LS boolT ((fun q_ => semF gr k (nd.kids.getD (q_ : Int).toNat (fn 48 0 [])) ss) 1)), sl 67 (I ((List.replicate (gr.fPlaces).toNat false).length : Int)), sl 68 (I zz.1)], [.box [.rd (trR fLab nd)] 83 true, .gone, .gone, rowI 4 boolT zz.2]⟩) (0, (List.replicate (gr.fPlaces).toNat false)) h0_2 (sub_ok (by kernel_rfl)) ?_
 rintro ⟨x68, l3_3⟩ h
 replace h := hI_2 _ _ h
 show En c ⟨[sl 3 (.ptr 0 0), sl 7 (.own 3), sl 11 (LS boolT ((fun q_ => semF gr k (nd.kids.getD (q_ : Int).toNat (fn 48 0 [])) ss) 0)), sl 12 (LS boolT ((fun q_ => semF gr k (nd.kids.getD (q_ : Int).toNat (fn 48 0 [])) ss) 1)), sl 67 (I ((List.replicate (gr.fPlaces).toNat false).length : Int)), sl 68 (I x68)], [.box [.rd (trR fLab nd)] 83 true, .gone, .gone, rowI 4 boolT l3_3]⟩ _
 refine En.seq ?_
 refine En.region ?_
 refine WL.run ht hn 1 ⟨[sl 3 (.ptr 0 0), sl 7 (.own 3), sl 11 (LS boolT ((fun q_ => semF gr k (nd.kids.getD (q_ : Int).toNat (fn 48 0 [])) ss) 0)), sl 12 (LS boolT ((fun q_ => semF gr k (nd.kids.getD (q_ : Int).toNat (fn 48 0 [])) ss) 1)), sl 67 (I ((List.replicate (gr.fPlaces).toNat false).length : Int)), sl 68 (I x68), sl 69 (B (decide (x68 < ((List.replicate (gr.fPlaces).toNat false).length : Int))))], [.box [.rd (trR fLab nd)] 83 true, .gone, .gone, rowI 4 boolT l3_3]⟩ (by kernel_rfl) ?_
 refine WL.nil ?_
 refine En.seq ?_
 refine En.cond (b := (decide (x68 < ((List.replicate (gr.fPlaces).toNat false).length : Int)))) (by kernel_rfl) (fun hb => ?_) (fun hb => ?_)
 replace h := h.1 hb
 refine En.skip ?_
 obtain ⟨J_3, h, hJ_3⟩ := h
 refine En.seqJ (σ := (List Bool)) (fun zz => J_3 zz) (fun zz => ⟨[sl 3 (.ptr 0 0), sl 7 (.own 3), sl 11 (LS boolT ((fun q_ => semF gr k (nd.kids.getD (q_ : Int).toNat (fn 48 0 [])) ss) 0)), sl 12 (LS boolT ((fun q_ => semF gr k (nd.kids.getD (q_ : Int).toNat (fn 48 0 [])) ss) 1)), sl 67 (I ((List.replicate (gr.fPlaces).toNat false).length : Int)), sl 68 (I x68)], [.box [.rd (trR fLab nd)] 83 true, .gone, .gone, rowI 4 boolT zz]⟩) ?_ ?_
 refine En.block ?_
 refine En.seq ?_
 refine En.region ?_
 refine WL.run ht hn 2 ⟨[sl 3 (.ptr 0 0), sl 7 (.own 3), sl 11 (LS boolT ((fun q_ => semF gr k (nd.kids.getD (q_ : Int).toNat (fn 48 0 [])) ss) 0)), sl 12 (LS boolT ((fun q_ => semF gr k (nd.kids.getD (q_ : Int).toNat (fn 48 0 [])) ss) 1)), sl 13 (I x68), sl 67 (I ((List.replicate (gr.fPlaces).toNat false).length : Int)), sl 68 (I x68)], [.box [.rd (trR fLab nd)] 83 true, .gone, .gone, rowI 4 boolT l3_3]⟩ (by kernel_rfl) ?_
 refine WL.nil ?_
 refine En.region ?_
 refine WL.run ht hn 4 ⟨[sl 3 (.ptr 0 0), sl 7 (.own 3), sl 11 (LS boolT ((fun q_ => semF gr k (nd.kids.getD (q_ : Int).toNat (fn 48 0 [])) ss) 0)), sl 12 (LS boolT ((fun q_ => semF gr k (nd.kids.getD (q_ : Int).toNat (fn 48 0 [])) ss) 1)), sl 13 (I x68), sl 67 (I ((List.replicate (gr.fPlaces).toNat false).length : Int)), sl 68 (I x68), sl 71 (.own 3), sl 72 (I x68), sl 73 (LS boolT ((fun q_ => semF gr k (nd.kids.getD (q_ : Int).toNat (fn 48 0 [])) ss) 0)), sl 74 (I x68)], [.box [.rd (trR fLab nd)] 83 true, .gone, .gone, rowI 4 boolT l3_3]⟩ (by kernel_rfl) ?_
 obtain ⟨e_4, he_4, h⟩ := h
 refine WL.val hn (by rfl) (val_index (T := boolT) (l := ((fun q_ => semF gr k (nd.kids.getD (q_ : Int).toNat (fn 48 0 [])) ss) 0)) (i := x68) ht rfl (by rfl) (by rfl) (by rfl) (by rfl) (by rfl) (by rfl) he_4) (by rfl) ?_
 refine WL.val hn (by rfl) (val_load (s := .one (B e_4)) ht rfl (by rfl) (by rfl) (by rfl) (by rfl) (by rfl)) (by rfl) ?_
 refine WL.run ht hn 1 ⟨[sl 3 (.ptr 0 0), sl 7 (.own 3), sl 11 (LS boolT ((fun q_ => semF gr k (nd.kids.getD (q_ : Int).toNat (fn 48 0 [])) ss) 0)), sl 12 (LS boolT ((fun q_ => semF gr k (nd.kids.getD (q_ : Int).toNat (fn 48 0 [])) ss) 1)), sl 13 (I x68), sl 67 (I ((List.replicate (gr.fPlaces).toNat false).length : Int)), sl 68 (I x68), sl 71 (.own 3), sl 72 (I x68), sl 77 (B e_4)], [.box [.rd (trR fLab nd)] 83 true, .gone, .gone, rowI 4 boolT l3_3]⟩ (by kernel_rfl) ?_
 refine splitB e_4 (fun hb => ?_) (fun hb => ?_)
 replace h := h.1 hb
 refine WL.setB 77 hb (by kernel_rfl) ?_
 refine WL.run ht hn 2 ⟨[sl 3 (.ptr 0 0), sl 7 (.own 3), sl 11 (LS boolT ((fun q_ => semF gr k (nd.kids.getD (q_ : Int).toNat (fn 48 0 [])) ss) 0)), sl 12 (LS boolT ((fun q_ => semF gr k (nd.kids.getD (q_ : Int).toNat (fn 48 0 [])) ss) 1)), sl 13 (I x68), sl 67 (I ((List.replicate (gr.fPlaces).toNat false).length : Int)), sl 68 (I x68), sl 71 (.own 3), sl 72 (I x68), sl 77 (B true), sl 78 (LS boolT ((fun q_ => semF gr k (nd.kids.getD (q_ : Int).toNat (fn 48 0 [])) ss) 1)), sl 79 (I x68)], [.box [.rd (trR fLab nd)] 83 true, .gone, .gone, rowI 4 boolT l3_3]⟩ (by kernel_rfl) ?_
 obtain ⟨e_5, he_5, h⟩ := h
 refine WL.val hn (by rfl) (val_index (T := boolT) (l := ((fun q_ => semF gr k (nd.kids.getD (q_ : Int).toNat (fn 48 0 [])) ss) 1)) (i := x68) ht rfl (by rfl) (by rfl) (by rfl) (by rfl) (by rfl) (by rfl) he_5) (by rfl) ?_
 refine WL.val hn (by rfl) (val_load (s := .one (B e_5)) ht rfl (by rfl) (by rfl) (by rfl) (by rfl) (by rfl)) (by rfl) ?_
 refine WL.run ht hn 2 ⟨[sl 3 (.ptr 0 0), sl 7 (.own 3), sl 11 (LS boolT ((fun q_ => semF gr k (nd.kids.getD (q_ : Int).toNat (fn 48 0 [])) ss) 0)), sl 12 (LS boolT ((fun q_ => semF gr k (nd.kids.getD (q_ : Int).toNat (fn 48 0 [])) ss) 1)), sl 13 (I x68), sl 67 (I ((List.replicate (gr.fPlaces).toNat false).length : Int)), sl 68 (I x68), sl 71 (.own 3), sl 72 (I x68), sl 83 (B e_5)], [.box [.rd (trR fLab nd)] 83 true, .gone, .gone, rowI 4 boolT l3_3]⟩ (by kernel_rfl) ?_
 refine splitB e_5 (fun hb => ?_) (fun hb => ?_)
 replace h := h.1 hb
 refine WL.setB 83 hb (by kernel_rfl) ?_
 refine WL.run ht hn 18 ⟨[sl 3 (.ptr 0 0), sl 7 (.own 3), sl 11 (LS boolT ((fun q_ => semF gr k (nd.kids.getD (q_ : Int).toNat (fn 48 0 [])) ss) 0)), sl 12 (LS boolT ((fun q_ => semF gr k (nd.kids.getD (q_ : Int).toNat (fn 48 0 [])) ss) 1)), sl 67 (I ((List.replicate (gr.fPlaces).toNat false).length : Int)), sl 68 (I x68), sl 71 (.own 3), sl 72 (I x68), sl 101 (B true)], [.box [.rd (trR fLab nd)] 83 true, .gone, .gone, rowI 4 boolT l3_3]⟩ (by kernel_rfl) ?_
 obtain ⟨e_6, he_6, h⟩ := h
 refine WL.val hn (by rfl) (val_indexO (T := boolT) (l := l3_3) (k := x68) ht rfl (by rfl) (by rfl) (by rfl) (by rfl) (by decide) (by rfl) (by rfl) (by rfl) he_6) (by rfl) ?_
 refine WL.storeO (T := boolT) (l := l3_3) (y := true) ht hn (by rfl) rfl (by rfl) (by rfl) (fun _ h => by cases h) (by rfl) (by rfl) (idx_lt he_6) (by rfl) (by rfl) (by rfl) (by rfl) ?_
 refine WL.nil ?_
 exact En.at (I := fun zz => J_3 zz) (T := fun zz => ⟨[sl 3 (.ptr 0 0), sl 7 (.own 3), sl 11 (LS boolT ((fun q_ => semF gr k (nd.kids.getD (q_ : Int).toNat (fn 48 0 [])) ss) 0)), sl 12 (LS boolT ((fun q_ => semF gr k (nd.kids.getD (q_ : Int).toNat (fn 48 0 [])) ss) 1)), sl 67 (I ((List.replicate (gr.fPlaces).toNat false).length : Int)), sl 68 (I x68)], [.box [.rd (trR fLab nd)] 83 true, .gone, .gone, rowI 4 boolT zz]⟩) (l3_3.set (x68).toNat true) h (by kernel_rfl)
 replace h := h.2 hb
 refine WL.setB 83 hb (by kernel_rfl) ?_
 refine WL.run ht hn 1 ⟨[sl 3 (.ptr 0 0), sl 7 (.own 3), sl 11 (LS boolT ((fun q_ => semF gr k (nd.kids.getD (q_ : Int).toNat (fn 48 0 [])) ss) 0)), sl 12 (LS boolT ((fun q_ => semF gr k (nd.kids.getD (q_ : Int).toNat (fn 48 0 [])) ss) 1)), sl 13 (I x68), sl 67 (I ((List.replicate (gr.fPlaces).toNat false).length : Int)), sl 68 (I x68), sl 71 (.own 3), sl 72 (I x68), sl 83 (B false), sl 84 (.rd (trR fLab nd))], [.box [.rd (trR fLab nd)] 83 true, .gone, .gone, rowI 4 boolT l3_3]⟩ (by kernel_rfl) ?_
 refine WL.val hn (by rfl) (val_node (s := .agg [.v (.int .u8 nd.lab.fSign), I nd.lab.fN, LS (TT fLab) nd.kids]) (t := nd) (lab := fLab) fLabH rfl (by rfl) rfl rfl) (by rfl) ?_
 refine WL.val hn (by rfl) (val_field (l := [.v (.int .u8 nd.lab.fSign), I nd.lab.fN, LS (TT fLab) nd.kids]) (r := .one (.v (.int .u8 nd.lab.fSign))) ht rfl (by rfl) (by rfl) (by rfl) (by rfl) (by rfl) (by rfl)) (by rfl) ?_
 refine WL.val hn (by rfl) (val_load (s := .one (.v (.int .u8 nd.lab.fSign))) ht rfl (by rfl) (by rfl) (by rfl) (by rfl) (by rfl)) (by rfl) ?_
 refine WL.run ht hn 2 ⟨[sl 3 (.ptr 0 0), sl 7 (.own 3), sl 11 (LS boolT ((fun q_ => semF gr k (nd.kids.getD (q_ : Int).toNat (fn 48 0 [])) ss) 0)), sl 12 (LS boolT ((fun q_ => semF gr k (nd.kids.getD (q_ : Int).toNat (fn 48 0 [])) ss) 1)), sl 13 (I x68), sl 67 (I ((List.replicate (gr.fPlaces).toNat false).length : Int)), sl 68 (I x68), sl 71 (.own 3), sl 72 (I x68), sl 83 (B false), sl 89 (B (nd.lab.fSign == 124))], [.box [.rd (trR fLab nd)] 83 true, .gone, .gone, rowI 4 boolT l3_3]⟩ (by kernel_rfl) ?_
 refine splitB (nd.lab.fSign == 124) (fun hb => ?_) (fun hb => ?_)
 replace h := h.1 hb
 refine WL.setB 89 hb (by kernel_rfl) ?_
 refine WL.run ht hn 2 ⟨[sl 3 (.ptr 0 0), sl 7 (.own 3), sl 11 (LS boolT ((fun q_ => semF gr k (nd.kids.getD (q_ : Int).toNat (fn 48 0 [])) ss) 0)), sl 12 (LS boolT ((fun q_ => semF gr k (nd.kids.getD (q_ : Int).toNat (fn 48 0 [])) ss) 1)), sl 13 (I x68), sl 67 (I ((List.replicate (gr.fPlaces).toNat false).length : Int)), sl 68 (I x68), sl 71 (.own 3), sl 72 (I x68), sl 83 (B false), sl 89 (B true), sl 90 (LS boolT ((fun q_ => semF gr k (nd.kids.getD (q_ : Int).toNat (fn 48 0 [])) ss) 0)), sl 91 (I x68)], [.box [.rd (trR fLab nd)] 83 true, .gone, .gone, rowI 4 boolT l3_3]⟩ (by kernel_rfl) ?_
 obtain ⟨e_7, he_7, h⟩ := h
 refine WL.val hn (by rfl) (val_index (T := boolT) (l := ((fun q_ => semF gr k (nd.kids.getD (q_ : Int).toNat (fn 48 0 [])) ss) 0)) (i := x68) ht rfl (by rfl) (by rfl) (by rfl) (by rfl) (by rfl) (by rfl) he_7) (by rfl) ?_
 refine WL.val hn (by rfl) (val_load (s := .one (B e_7)) ht rfl (by rfl) (by rfl) (by rfl) (by rfl) (by rfl)) (by rfl) ?_
 refine WL.run ht hn 1 ⟨[sl 3 (.ptr 0 0), sl 7 (.own 3), sl 11 (LS boolT ((fun q_ => semF gr k (nd.kids.getD (q_ : Int).toNat (fn 48 0 [])) ss) 0)), sl 12 (LS boolT ((fun q_ => semF gr k (nd.kids.getD (q_ : Int).toNat (fn 48 0 [])) ss) 1)), sl 13 (I x68), sl 67 (I ((List.replicate (gr.fPlaces).toNat false).length : Int)), sl 68 (I x68), sl 71 (.own 3), sl 72 (I x68), sl 83 (B false), sl 89 (B true), sl 94 (B e_7)], [.box [.rd (trR fLab nd)] 83 true, .gone, .gone, rowI 4 boolT l3_3]⟩ (by kernel_rfl) ?_
 refine splitB e_7 (fun hb => ?_) (fun hb => ?_)
 replace h := h.1 hb
 refine WL.setB 94 hb (by kernel_rfl) ?_
 refine WL.run ht hn 7 ⟨[sl 3 (.ptr 0 0), sl 7 (.own 3), sl 11 (LS boolT ((fun q_ => semF gr k (nd.kids.getD (q_ : Int).toNat (fn 48 0 [])) ss) 0)), sl 12 (LS boolT ((fun q_ => semF gr k (nd.kids.getD (q_ : Int).toNat (fn 48 0 [])) ss) 1)), sl 67 (I ((List.replicate (gr.fPlaces).toNat false).length : Int)), sl 68 (I x68), sl 71 (.own 3), sl 72 (I x68), sl 101 (B true)], [.box [.rd (trR fLab nd)] 83 true, .gone, .gone, rowI 4 boolT l3_3]⟩ (by kernel_rfl) ?_
 obtain ⟨e_8, he_8, h⟩ := h
 refine WL.val hn (by rfl) (val_indexO (T := boolT) (l := l3_3) (k := x68) ht rfl (by rfl) (by rfl) (by rfl) (by rfl) (by decide) (by rfl) (by rfl) (by rfl) he_8) (by rfl) ?_
 refine WL.storeO (T := boolT) (l := l3_3) (y := true) ht hn (by rfl) rfl (by rfl) (by rfl) (fun _ h => by cases h) (by rfl) (by rfl) (idx_lt he_8) (by rfl) (by rfl) (by rfl) (by rfl) ?_
 refine WL.nil ?_
 exact En.at (I := fun zz => J_3 zz) (T := fun zz => ⟨[sl 3 (.ptr 0 0), sl 7 (.own 3), sl 11 (LS boolT ((fun q_ => semF gr k (nd.kids.getD (q_ : Int).toNat (fn 48 0 [])) ss) 0)), sl 12 (LS boolT ((fun q_ => semF gr k (nd.kids.getD (q_ : Int).toNat (fn 48 0 [])) ss) 1)), sl 67 (I ((List.replicate (gr.fPlaces).toNat false).length : Int)), sl 68 (I x68)], [.box [.rd (trR fLab nd)] 83 true, .gone, .gone, rowI 4 boolT zz]⟩) (l3_3.set (x68).toNat true) h (by kernel_rfl)
 replace h := h.2 hb
 refine WL.setB 94 hb (by kernel_rfl) ?_
 refine WL.run ht hn 2 ⟨[sl 3 (.ptr 0 0), sl 7 (.own 3), sl 11 (LS boolT ((fun q_ => semF gr k (nd.kids.getD (q_ : Int).toNat (fn 48 0 [])) ss) 0)), sl 12 (LS boolT ((fun q_ => semF gr k (nd.kids.getD (q_ : Int).toNat (fn 48 0 [])) ss) 1)), sl 67 (I ((List.replicate (gr.fPlaces).toNat false).length : Int)), sl 68 (I x68), sl 71 (.own 3), sl 72 (I x68), sl 83 (B false), sl 89 (B true), sl 94 (B false), sl 95 (LS boolT ((fun q_ => semF gr k (nd.kids.getD (q_ : Int).toNat (fn 48 0 [])) ss) 1)), sl 96 (I x68)], [.box [.rd (trR fLab nd)] 83 true, .gone, .gone, rowI 4 boolT l3_3]⟩ (by kernel_rfl) ?_
 obtain ⟨e_9, he_9, h⟩ := h
 refine WL.val hn (by rfl) (val_index (T := boolT) (l := ((fun q_ => semF gr k (nd.kids.getD (q_ : Int).toNat (fn 48 0 [])) ss) 1)) (i := x68) ht rfl (by rfl) (by rfl) (by rfl) (by rfl) (by rfl) (by rfl) he_9) (by rfl) ?_
 refine WL.val hn (by rfl) (val_load (s := .one (B e_9)) ht rfl (by rfl) (by rfl) (by rfl) (by rfl) (by rfl)) (by rfl) ?_
 refine WL.run ht hn 3 ⟨[sl 3 (.ptr 0 0), sl 7 (.own 3), sl 11 (LS boolT ((fun q_ => semF gr k (nd.kids.getD (q_ : Int).toNat (fn 48 0 [])) ss) 0)), sl 12 (LS boolT ((fun q_ => semF gr k (nd.kids.getD (q_ : Int).toNat (fn 48 0 [])) ss) 1)), sl 67 (I ((List.replicate (gr.fPlaces).toNat false).length : Int)), sl 68 (I x68), sl 71 (.own 3), sl 72 (I x68), sl 101 (B e_9)], [.box [.rd (trR fLab nd)] 83 true, .gone, .gone, rowI 4 boolT l3_3]⟩ (by kernel_rfl) ?_
 obtain ⟨e_10, he_10, h⟩ := h
 refine WL.val hn (by rfl) (val_indexO (T := boolT) (l := l3_3) (k := x68) ht rfl (by rfl) (by rfl) (by rfl) (by rfl) (by decide) (by rfl) (by rfl) (by rfl) he_10) (by rfl) ?_
 refine WL.storeO (T := boolT) (l := l3_3) (y := e_9) ht hn (by rfl) rfl (by rfl) (by rfl) (fun _ h => by cases h) (by rfl) (by rfl) (idx_lt he_10) (by rfl) (by rfl) (by rfl) (by rfl) ?_
 refine WL.nil ?_
 exact En.at (I := fun zz => J_3 zz) (T := fun zz => ⟨[sl 3 (.ptr 0 0), sl 7 (.own 3), sl 11 (LS boolT ((fun q_ => semF gr k (nd.kids.getD (q_ : Int).toNat (fn 48 0 [])) ss) 0)), sl 12 (LS boolT ((fun q_ => semF gr k (nd.kids.getD (q_ : Int).toNat (fn 48 0 [])) ss) 1)), sl 67 (I ((List.replicate (gr.fPlaces).toNat false).length : Int)), sl 68 (I x68)], [.box [.rd (trR fLab nd)] 83 true, .gone, .gone, rowI 4 boolT zz]⟩) (l3_3.set (x68).toNat e_9) h (by kernel_rfl)
 replace h := h.2 hb
 refine WL.setB 89 hb (by kernel_rfl) ?_
 refine WL.run ht hn 12 ⟨[sl 3 (.ptr 0 0), sl 7 (.own 3), sl 11 (LS boolT ((fun q_ => semF gr k (nd.kids.getD (q_ : Int).toNat (fn 48 0 [])) ss) 0)), sl 12 (LS boolT ((fun q_ => semF gr k (nd.kids.getD (q_ : Int).toNat (fn 48 0 [])) ss) 1)), sl 67 (I ((List.replicate (gr.fPlaces).toNat false).length : Int)), sl 68 (I x68), sl 71 (.own 3), sl 72 (I x68), sl 101 (B false)], [.box [.rd (trR fLab nd)] 83 true, .gone, .gone, rowI 4 boolT l3_3]⟩ (by kernel_rfl) ?_
 obtain ⟨e_11, he_11, h⟩ := h
 refine WL.val hn (by rfl) (val_indexO (T := boolT) (l := l3_3) (k := x68) ht rfl (by rfl) (by rfl) (by rfl) (by rfl) (by decide) (by rfl) (by rfl) (by rfl) he_11) (by rfl) ?_
 refine WL.storeO (T := boolT) (l := l3_3) (y := false) ht hn (by rfl) rfl (by rfl) (by rfl) (fun _ h => by cases h) (by rfl) (by rfl) (idx_lt he_11) (by rfl) (by rfl) (by rfl) (by rfl) ?_
 refine WL.nil ?_
 exact En.at (I := fun zz => J_3 zz) (T := fun zz => ⟨[sl 3 (.ptr 0 0), sl 7 (.own 3), sl 11 (LS boolT ((fun q_ => semF gr k (nd.kids.getD (q_ : Int).toNat (fn 48 0 [])) ss) 0)), sl 12 (LS boolT ((fun q_ => semF gr k (nd.kids.getD (q_ : Int).toNat (fn 48 0 [])) ss) 1)), sl 67 (I ((List.replicate (gr.fPlaces).toNat false).length : Int)), sl 68 (I x68)], [.box [.rd (trR fLab nd)] 83 true, .gone, .gone, rowI 4 boolT zz]⟩) (l3_3.set (x68).toNat false) h (by kernel_rfl)
 replace h := h.2 hb
 refine WL.setB 77 hb (by kernel_rfl) ?_
 refine WL.run ht hn 7 ⟨[sl 3 (.ptr 0 0), sl 7 (.own 3), sl 11 (LS boolT ((fun q_ => semF gr k (nd.kids.getD (q_ : Int).toNat (fn 48 0 [])) ss) 0)), sl 12 (LS boolT ((fun q_ => semF gr k (nd.kids.getD (q_ : Int).toNat (fn 48 0 [])) ss) 1)), sl 13 (I x68), sl 67 (I ((List.replicate (gr.fPlaces).toNat false).length : Int)), sl 68 (I x68), sl 71 (.own 3), sl 72 (I x68), sl 83 (B false), sl 84 (.rd (trR fLab nd))], [.box [.rd (trR fLab nd)] 83 true, .gone, .gone, rowI 4 boolT l3_3]⟩ (by kernel_rfl) ?_
 refine WL.val hn (by rfl) (val_node (s := .agg [.v (.int .u8 nd.lab.fSign), I nd.lab.fN, LS (TT fLab) nd.kids]) (t := nd) (lab := fLab) fLabH rfl (by rfl) rfl rfl) (by rfl) ?_
 refine WL.val hn (by rfl) (val_field (l := [.v (.int .u8 nd.lab.fSign), I nd.lab.fN, LS (TT fLab) nd.kids]) (r := .one (.v (.int .u8 nd.lab.fSign))) ht rfl (by rfl) (by rfl) (by rfl) (by rfl) (by rfl) (by rfl)) (by rfl) ?_
 refine WL.val hn (by rfl) (val_load (s := .one (.v (.int .u8 nd.lab.fSign))) ht rfl (by rfl) (by rfl) (by rfl) (by rfl) (by rfl)) (by rfl) ?_
 refine WL.run ht hn 2 ⟨[sl 3 (.ptr 0 0), sl 7 (.own 3), sl 11 (LS boolT ((fun q_ => semF gr k (nd.kids.getD (q_ : Int).toNat (fn 48 0 [])) ss) 0)), sl 12 (LS boolT ((fun q_ => semF gr k (nd.kids.getD (q_ : Int).toNat (fn 48 0 [])) ss) 1)), sl 13 (I x68), sl 67 (I ((List.replicate (gr.fPlaces).toNat false).length : Int)), sl 68 (I x68), sl 71 (.own 3), sl 72 (I x68), sl 83 (B false), sl 89 (B (nd.lab.fSign == 124))], [.box [.rd (trR fLab nd)] 83 true, .gone, .gone, rowI 4 boolT l3_3]⟩ (by kernel_rfl) ?_
 refine splitB (nd.lab.fSign == 124) (fun hb => ?_) (fun hb => ?_)
 replace h := h.1 hb
 refine WL.setB 89 hb (by kernel_rfl) ?_
 refine WL.run ht hn 2 ⟨[sl 3 (.ptr 0 0), sl 7 (.own 3), sl 11 (LS boolT ((fun q_ => semF gr k (nd.kids.getD (q_ : Int).toNat (fn 48 0 [])) ss) 0)), sl 12 (LS boolT ((fun q_ => semF gr k (nd.kids.getD (q_ : Int).toNat (fn 48 0 [])) ss) 1)), sl 13 (I x68), sl 67 (I ((List.replicate (gr.fPlaces).toNat false).length : Int)), sl 68 (I x68), sl 71 (.own 3), sl 72 (I x68), sl 83 (B false), sl 89 (B true), sl 90 (LS boolT ((fun q_ => semF gr k (nd.kids.getD (q_ : Int).toNat (fn 48 0 [])) ss) 0)), sl 91 (I x68)], [.box [.rd (trR fLab nd)] 83 true, .gone, .gone, rowI 4 boolT l3_3]⟩ (by kernel_rfl) ?_
 obtain ⟨e_12, he_12, h⟩ := h
 refine WL.val hn (by rfl) (val_index (T := boolT) (l := ((fun q_ => semF gr k (nd.kids.getD (q_ : Int).toNat (fn 48 0 [])) ss) 0)) (i := x68) ht rfl (by rfl) (by rfl) (by rfl) (by rfl) (by rfl) (by rfl) he_12) (by rfl) ?_
 refine WL.val hn (by rfl) (val_load (s := .one (B e_12)) ht rfl (by rfl) (by rfl) (by rfl) (by rfl) (by rfl)) (by rfl) ?_
 refine WL.run ht hn 1 ⟨[sl 3 (.ptr 0 0), sl 7 (.own 3), sl 11 (LS boolT ((fun q_ => semF gr k (nd.kids.getD (q_ : Int).toNat (fn 48 0 [])) ss) 0)), sl 12 (LS boolT ((fun q_ => semF gr k (nd.kids.getD (q_ : Int).toNat (fn 48 0 [])) ss) 1)), sl 13 (I x68), sl 67 (I ((List.replicate (gr.fPlaces).toNat false).length : Int)), sl 68 (I x68), sl 71 (.own 3), sl 72 (I x68), sl 83 (B false), sl 89 (B true), sl 94 (B e_12)], [.box [.rd (trR fLab nd)] 83 true, .gone, .gone, rowI 4 boolT l3_3]⟩ (by kernel_rfl) ?_
 refine splitB e_12 (fun hb => ?_) (fun hb => ?_)
 replace h := h.1 hb
 refine WL.setB 94 hb (by kernel_rfl) ?_
 refine WL.run ht hn 7 ⟨[sl 3 (.ptr 0 0), sl 7 (.own 3), sl 11 (LS boolT ((fun q_ => semF gr k (nd.kids.getD (q_ : Int).toNat (fn 48 0 [])) ss) 0)), sl 12 (LS boolT ((fun q_ => semF gr k (nd.kids.getD (q_ : Int).toNat (fn 48 0 [])) ss) 1)), sl 67 (I ((List.replicate (gr.fPlaces).toNat false).length : Int)), sl 68 (I x68), sl 71 (.own 3), sl 72 (I x68), sl 101 (B true)], [.box [.rd (trR fLab nd)] 83 true, .gone, .gone, rowI 4 boolT l3_3]⟩ (by kernel_rfl) ?_
 obtain ⟨e_13, he_13, h⟩ := h
 refine WL.val hn (by rfl) (val_indexO (T := boolT) (l := l3_3) (k := x68) ht rfl (by rfl) (by rfl) (by rfl) (by rfl) (by decide) (by rfl) (by rfl) (by rfl) he_13) (by rfl) ?_
 refine WL.storeO (T := boolT) (l := l3_3) (y := true) ht hn (by rfl) rfl (by rfl) (by rfl) (fun _ h => by cases h) (by rfl) (by rfl) (idx_lt he_13) (by rfl) (by rfl) (by rfl) (by rfl) ?_
 refine WL.nil ?_
 exact En.at (I := fun zz => J_3 zz) (T := fun zz => ⟨[sl 3 (.ptr 0 0), sl 7 (.own 3), sl 11 (LS boolT ((fun q_ => semF gr k (nd.kids.getD (q_ : Int).toNat (fn 48 0 [])) ss) 0)), sl 12 (LS boolT ((fun q_ => semF gr k (nd.kids.getD (q_ : Int).toNat (fn 48 0 [])) ss) 1)), sl 67 (I ((List.replicate (gr.fPlaces).toNat false).length : Int)), sl 68 (I x68)], [.box [.rd (trR fLab nd)] 83 true, .gone, .gone, rowI 4 boolT zz]⟩) (l3_3.set (x68).toNat true) h (by kernel_rfl)
 replace h := h.2 hb
 refine WL.setB 94 hb (by kernel_rfl) ?_
 refine WL.run ht hn 2 ⟨[sl 3 (.ptr 0 0), sl 7 (.own 3), sl 11 (LS boolT ((fun q_ => semF gr k (nd.kids.getD (q_ : Int).toNat (fn 48 0 [])) ss) 0)), sl 12 (LS boolT ((fun q_ => semF gr k (nd.kids.getD (q_ : Int).toNat (fn 48 0 [])) ss) 1)), sl 67 (I ((List.replicate (gr.fPlaces).toNat false).length : Int)), sl 68 (I x68), sl 71 (.own 3), sl 72 (I x68), sl 83 (B false), sl 89 (B true), sl 94 (B false), sl 95 (LS boolT ((fun q_ => semF gr k (nd.kids.getD (q_ : Int).toNat (fn 48 0 [])) ss) 1)), sl 96 (I x68)], [.box [.rd (trR fLab nd)] 83 true, .gone, .gone, rowI 4 boolT l3_3]⟩ (by kernel_rfl) ?_
 obtain ⟨e_14, he_14, h⟩ := h
 refine WL.val hn (by rfl) (val_index (T := boolT) (l := ((fun q_ => semF gr k (nd.kids.getD (q_ : Int).toNat (fn 48 0 [])) ss) 1)) (i := x68) ht rfl (by rfl) (by rfl) (by rfl) (by rfl) (by rfl) (by rfl) he_14) (by rfl) ?_
 refine WL.val hn (by rfl) (val_load (s := .one (B e_14)) ht rfl (by rfl) (by rfl) (by rfl) (by rfl) (by rfl)) (by rfl) ?_
 refine WL.run ht hn 3 ⟨[sl 3 (.ptr 0 0), sl 7 (.own 3), sl 11 (LS boolT ((fun q_ => semF gr k (nd.kids.getD (q_ : Int).toNat (fn 48 0 [])) ss) 0)), sl 12 (LS boolT ((fun q_ => semF gr k (nd.kids.getD (q_ : Int).toNat (fn 48 0 [])) ss) 1)), sl 67 (I ((List.replicate (gr.fPlaces).toNat false).length : Int)), sl 68 (I x68), sl 71 (.own 3), sl 72 (I x68), sl 101 (B e_14)], [.box [.rd (trR fLab nd)] 83 true, .gone, .gone, rowI 4 boolT l3_3]⟩ (by kernel_rfl) ?_
 obtain ⟨e_15, he_15, h⟩ := h
 refine WL.val hn (by rfl) (val_indexO (T := boolT) (l := l3_3) (k := x68) ht rfl (by rfl) (by rfl) (by rfl) (by rfl) (by decide) (by rfl) (by rfl) (by rfl) he_15) (by rfl) ?_
 refine WL.storeO (T := boolT) (l := l3_3) (y := e_14) ht hn (by rfl) rfl (by rfl) (by rfl) (fun _ h => by cases h) (by rfl) (by rfl) (idx_lt he_15) (by rfl) (by rfl) (by rfl) (by rfl) ?_
 refine WL.nil ?_
 exact En.at (I := fun zz => J_3 zz) (T := fun zz => ⟨[sl 3 (.ptr 0 0), sl 7 (.own 3), sl 11 (LS boolT ((fun q_ => semF gr k (nd.kids.getD (q_ : Int).toNat (fn 48 0 [])) ss) 0)), sl 12 (LS boolT ((fun q_ => semF gr k (nd.kids.getD (q_ : Int).toNat (fn 48 0 [])) ss) 1)), sl 67 (I ((List.replicate (gr.fPlaces).toNat false).length : Int)), sl 68 (I x68)], [.box [.rd (trR fLab nd)] 83 true, .gone, .gone, rowI 4 boolT zz]⟩) (l3_3.set (x68).toNat e_14) h (by kernel_rfl)
 replace h := h.2 hb
 refine WL.setB 89 hb (by kernel_rfl) ?_
 refine WL.run ht hn 12 ⟨[sl 3 (.ptr 0 0), sl 7 (.own 3), sl 11 (LS boolT ((fun q_ => semF gr k (nd.kids.getD (q_ : Int).toNat (fn 48 0 [])) ss) 0)), sl 12 (LS boolT ((fun q_ => semF gr k (nd.kids.getD (q_ : Int).toNat (fn 48 0 [])) ss) 1)), sl 67 (I ((List.replicate (gr.fPlaces).toNat false).length : Int)), sl 68 (I x68), sl 71 (.own 3), sl 72 (I x68), sl 101 (B false)], [.box [.rd (trR fLab nd)] 83 true, .gone, .gone, rowI 4 boolT l3_3]⟩ (by kernel_rfl) ?_
 obtain ⟨e_16, he_16, h⟩ := h
 refine WL.val hn (by rfl) (val_indexO (T := boolT) (l := l3_3) (k := x68) ht rfl (by rfl) (by rfl) (by rfl) (by rfl) (by decide) (by rfl) (by rfl) (by rfl) he_16) (by rfl) ?_
 refine WL.storeO (T := boolT) (l := l3_3) (y := false) ht hn (by rfl) rfl (by rfl) (by rfl) (fun _ h => by cases h) (by rfl) (by rfl) (idx_lt he_16) (by rfl) (by rfl) (by rfl) (by rfl) ?_
 refine WL.nil ?_
 exact En.at (I := fun zz => J_3 zz) (T := fun zz => ⟨[sl 3 (.ptr 0 0), sl 7 (.own 3), sl 11 (LS boolT ((fun q_ => semF gr k (nd.kids.getD (q_ : Int).toNat (fn 48 0 [])) ss) 0)), sl 12 (LS boolT ((fun q_ => semF gr k (nd.kids.getD (q_ : Int).toNat (fn 48 0 [])) ss) 1)), sl 67 (I ((List.replicate (gr.fPlaces).toNat false).length : Int)), sl 68 (I x68)], [.box [.rd (trR fLab nd)] 83 true, .gone, .gone, rowI 4 boolT zz]⟩) (l3_3.set (x68).toNat false) h (by kernel_rfl)
 intro l3_4 h
 replace h := hJ_3 _ h
 show En c ⟨[sl 3 (.ptr 0 0), sl 7 (.own 3), sl 11 (LS boolT ((fun q_ => semF gr k (nd.kids.getD (q_ : Int).toNat (fn 48 0 [])) ss) 0)), sl 12 (LS boolT ((fun q_ => semF gr k (nd.kids.getD (q_ : Int).toNat (fn 48 0 [])) ss) 1)), sl 67 (I ((List.replicate (gr.fPlaces).toNat false).length : Int)), sl 68 (I x68)], [.box [.rd (trR fLab nd)] 83 true, .gone, .gone, rowI 4 boolT l3_4]⟩ _
 refine En.region ?_
 refine WL.run ht hn 2 ⟨[sl 3 (.ptr 0 0), sl 7 (.own 3), sl 11 (LS boolT ((fun q_ => semF gr k (nd.kids.getD (q_ : Int).toNat (fn 48 0 [])) ss) 0)), sl 12 (LS boolT ((fun q_ => semF gr k (nd.kids.getD (q_ : Int).toNat (fn 48 0 [])) ss) 1)), sl 67 (I ((List.replicate (gr.fPlaces).toNat false).length : Int)), sl 68 (I (wr (x68 + 1)))], [.box [.rd (trR fLab nd)] 83 true, .gone, .gone, rowI 4 boolT l3_4]⟩ (by kernel_rfl) ?_
 refine WL.nil ?_
 exact En.at (I := fun zz => Inv_2 zz.1 zz.2 ∧ mu_2 zz.1 zz.2 < mu_2 x68 l3_3) (T := fun zz => ⟨[sl 3 (.ptr 0 0), sl 7 (.own 3), sl 11 (LS boolT ((fun q_ => semF gr k (nd.kids.getD (q_ : Int).toNat (fn 48 0 [])) ss) 0)), sl 12 (LS boolT ((fun q_ => semF gr k (nd.kids.getD (q_ : Int).toNat (fn 48 0 [])) ss) 1)), sl 67 (I ((List.replicate (gr.fPlaces).toNat false).length : Int)), sl 68 (I zz.1)], [.box [.rd (trR fLab nd)] 83 true, .gone, .gone, rowI 4 boolT zz.2]⟩) ((wr (x68 + 1)), l3_4) h (by kernel_rfl)
 replace h := h.2 hb
 refine En.exit rfl ?_
 exact En.at (I := fun zz => J zz) (T := fun zz => ⟨[sl 7 (.own 3)], [.gone, .gone, .gone, rowI 4 boolT zz]⟩) l3_3 h (by kernel_rfl)
 replace h := h.2 hb
 obtain ⟨J_4, h, hJ_4⟩ := h
 refine En.seqJ (σ := Bool) (fun zz => J_4 zz) (fun zz => ⟨[sl 3 (.ptr 0 0), sl 4 (.ptr 1 0), sl 5 (.ptr 2 0), sl 7 (.own 3), sl 8 (.fn 76 [0, 1, 2]), sl 27 (.v (.int .u8 nd.lab.fSign)), sl 104 (B zz)], [.box [.rd (trR fLab nd)] 83 false, .box (qfWhr2 gr) 24 false, .box [LS (lsT boolT) ss] 146 false, rowI 4 boolT (List.replicate (gr.fPlaces).toNat false)]⟩) ?_ ?_
 refine En.seq ?_
 refine En.region ?_
 refine WL.run ht hn 2 ⟨[sl 3 (.ptr 0 0), sl 4 (.ptr 1 0), sl 5 (.ptr 2 0), sl 7 (.own 3), sl 8 (.fn 76 [0, 1, 2]), sl 27 (.v (.int .u8 nd.lab.fSign)), sl 104 (B (nd.lab.fSign == 60))], [.box [.rd (trR fLab nd)] 83 false, .box (qfWhr2 gr) 24 false, .box [LS (lsT boolT) ss] 146 false, rowI 4 boolT (List.replicate (gr.fPlaces).toNat false)]⟩ (by kernel_rfl) ?_
 refine WL.nil ?_
 refine En.cond (b := (nd.lab.fSign == 60)) (by kernel_rfl) (fun hb => ?_) (fun hb => ?_)
 replace h := h.1 hb
 refine En.skip ?_
 exact En.at (I := fun zz => J_4 zz) (T := fun zz => ⟨[sl 3 (.ptr 0 0), sl 4 (.ptr 1 0), sl 5 (.ptr 2 0), sl 7 (.own 3), sl 8 (.fn 76 [0, 1, 2]), sl 27 (.v (.int .u8 nd.lab.fSign)), sl 104 (B zz)], [.box [.rd (trR fLab nd)] 83 false, .box (qfWhr2 gr) 24 false, .box [LS (lsT boolT) ss] 146 false, rowI 4 boolT (List.replicate (gr.fPlaces).toNat false)]⟩) (nd.lab.fSign == 60) h (by kernel_rfl)
 replace h := h.2 hb
 refine En.region ?_
 refine WL.run ht hn 2 ⟨[sl 3 (.ptr 0 0), sl 4 (.ptr 1 0), sl 5 (.ptr 2 0), sl 7 (.own 3), sl 8 (.fn 76 [0, 1, 2]), sl 27 (.v (.int .u8 nd.lab.fSign)), sl 104 (B (nd.lab.fSign == 91))], [.box [.rd (trR fLab nd)] 83 false, .box (qfWhr2 gr) 24 false, .box [LS (lsT boolT) ss] 146 false, rowI 4 boolT (List.replicate (gr.fPlaces).toNat false)]⟩ (by kernel_rfl) ?_
 refine WL.nil ?_
 exact En.at (I := fun zz => J_4 zz) (T := fun zz => ⟨[sl 3 (.ptr 0 0), sl 4 (.ptr 1 0), sl 5 (.ptr 2 0), sl 7 (.own 3), sl 8 (.fn 76 [0, 1, 2]), sl 27 (.v (.int .u8 nd.lab.fSign)), sl 104 (B zz)], [.box [.rd (trR fLab nd)] 83 false, .box (qfWhr2 gr) 24 false, .box [LS (lsT boolT) ss] 146 false, rowI 4 boolT (List.replicate (gr.fPlaces).toNat false)]⟩) (nd.lab.fSign == 91) h (by kernel_rfl)
 intro x104 h
 replace h := hJ_4 _ h
 show En c ⟨[sl 3 (.ptr 0 0), sl 4 (.ptr 1 0), sl 5 (.ptr 2 0), sl 7 (.own 3), sl 8 (.fn 76 [0, 1, 2]), sl 27 (.v (.int .u8 nd.lab.fSign)), sl 104 (B x104)], [.box [.rd (trR fLab nd)] 83 false, .box (qfWhr2 gr) 24 false, .box [LS (lsT boolT) ss] 146 false, rowI 4 boolT (List.replicate (gr.fPlaces).toNat false)]⟩ _
 refine En.cond (b := x104) (by kernel_rfl) (fun hb => ?_) (fun hb => ?_)
 replace h := h.1 hb
 refine En.seq ?_
 refine En.region ?_
 refine WL.run ht hn 1 ⟨[sl 3 (.ptr 0 0), sl 4 (.ptr 1 0), sl 7 (.own 3), sl 107 (.fn 76 [0, 1, 2])], [.box [.rd (trR fLab nd)] 83 false, .box (qfWhr2 gr) 24 false, .box [LS (lsT boolT) ss] 146 false, rowI 4 boolT (List.replicate (gr.fPlaces).toNat false)]⟩ (by kernel_rfl) ?_
 refine WL.freeze [0, 1, 2] (by rfl) ?_
 refine WL.ghost 107 (o1 (.rd (fvR (fun (x_ : Int) => [.sv (.one (I x_))]) (fun (r : (List Bool)) => .sv (.one (LS boolT r))) (fun q_ => 0 ≤ q_ ∧ q_ < (nd.kids.length : Int) ∧ PreW k (nd.kids.getD (q_ : Int).toNat (fn 48 0 [])) gr ss) (fun q_ => semF gr k (nd.kids.getD (q_ : Int).toNat (fn 48 0 [])) ss)))) (by rfl) (fv_of (M := [.box [.rd (trR fLab nd)] 83 true, .box (qfWhr2 gr) 24 true, .box [LS (lsT boolT) ss] 146 true]) (caps := [0, 1, 2]) (fun x_ hx => fKid_ct k ih x_ nd gr ss hx) en76 rfl (by kernel_rfl) (by rfl) (fun _ => rfl)) ?_
 have hp := h.1
 replace h := h.2
 refine WL.mt0 (K := []) (p := none) hn (by rfl) (mt_callv (0 : Int) hp rfl (by rfl) (by rfl) (by rfl) (by rfl)) (by rfl) (by rfl) (by rfl) ?_
 refine WL.run ht hn 1 ⟨[sl 3 (.ptr 0 0), sl 4 (.ptr 1 0), sl 7 (.own 3), sl 14 (LS boolT ((fun q_ => semF gr k (nd.kids.getD (q_ : Int).toNat (fn 48 0 [])) ss) 0))], [.box [.rd (trR fLab nd)] 83 true, .box (qfWhr2 gr) 24 true, .gone, rowI 4 boolT (List.replicate (gr.fPlaces).toNat false)]⟩ (by kernel_rfl) ?_
 refine WL.nil ?_
 refine En.seq ?_
 refine En.seq ?_
 refine En.region ?_
 refine WL.run ht hn 3 ⟨[sl 3 (.ptr 0 0), sl 4 (.ptr 1 0), sl 7 (.own 3), sl 14 (LS boolT ((fun q_ => semF gr k (nd.kids.getD (q_ : Int).toNat (fn 48 0 [])) ss) 0)), sl 110 (I ((List.replicate (gr.fPlaces).toNat false).length : Int)), sl 111 (I 0)], [.box [.rd (trR fLab nd)] 83 true, .box (qfWhr2 gr) 24 true, .gone, rowI 4 boolT (List.replicate (gr.fPlaces).toNat false)]⟩ (by kernel_rfl) ?_
 refine WL.nil ?_
 refine En.block ?_
 obtain ⟨Inv_3, mu_3, h0_4, hI_4⟩ := h
 refine En.loop (σ := Int × (List Bool)) (fun zz => Inv_3 zz.1 zz.2) (fun zz => mu_3 zz.1 zz.2) (fun zz => ⟨[sl 3 (.ptr 0 0), sl 4 (.ptr 1 0), sl 7 (.own 3), sl 14 (LS boolT ((fun q_ => semF gr k (nd.kids.getD (q_ : Int).toNat (fn 48 0 [])) ss) 0)), sl 110 (I ((List.replicate (gr.fPlaces).toNat false).length : Int)), sl 111 (I zz.1)], [.box [.rd (trR fLab nd)] 83 true, .box (qfWhr2 gr) 24 true, .gone, rowI 4 boolT zz.2]⟩) (0, (List.replicate (gr.fPlaces).toNat false)) h0_4 (sub_ok (by kernel_rfl)) ?_
 rintro ⟨x111, l3_5⟩ h
 replace h := hI_4 _ _ h
 show En c ⟨[sl 3 (.ptr 0 0), sl 4 (.ptr 1 0), sl 7 (.own 3), sl 14 (LS boolT ((fun q_ => semF gr k (nd.kids.getD (q_ : Int).toNat (fn 48 0 [])) ss) 0)), sl 110 (I ((List.replicate (gr.fPlaces).toNat false).length : Int)), sl 111 (I x111)], [.box [.rd (trR fLab nd)] 83 true, .box (qfWhr2 gr) 24 true, .gone, rowI 4 boolT l3_5]⟩ _
 refine En.seq ?_
 refine En.region ?_
 refine WL.run ht hn 1 ⟨[sl 3 (.ptr 0 0), sl 4 (.ptr 1 0), sl 7 (.own 3), sl 14 (LS boolT ((fun q_ => semF gr k (nd.kids.getD (q_ : Int).toNat (fn 48 0 [])) ss) 0)), sl 110 (I ((List.replicate (gr.fPlaces).toNat false).length : Int)), sl 111 (I x111), sl 112 (B (decide (x111 < ((List.replicate (gr.fPlaces).toNat false).length : Int))))], [.box [.rd (trR fLab nd)] 83 true, .box (qfWhr2 gr) 24 true, .gone, rowI 4 boolT l3_5]⟩ (by kernel_rfl) ?_
 refine WL.nil ?_
 refine En.seq ?_
 refine En.cond (b := (decide (x111 < ((List.replicate (gr.fPlaces).toNat false).length : Int)))) (by kernel_rfl) (fun hb => ?_) (fun hb => ?_)
 replace h := h.1 hb
 refine En.skip ?_
 refine En.seq ?_
 refine En.block ?_
 refine En.seq ?_
 refine En.region ?_
 refine WL.run ht hn 2 ⟨[sl 3 (.ptr 0 0), sl 4 (.ptr 1 0), sl 7 (.own 3), sl 14 (LS boolT ((fun q_ => semF gr k (nd.kids.getD (q_ : Int).toNat (fn 48 0 [])) ss) 0)), sl 15 (I x111), sl 110 (I ((List.replicate (gr.fPlaces).toNat false).length : Int)), sl 111 (I x111)], [.box [.rd (trR fLab nd)] 83 true, .box (qfWhr2 gr) 24 true, .gone, rowI 4 boolT l3_5]⟩ (by kernel_rfl) ?_
 refine WL.nil ?_
 refine En.region ?_
 refine WL.run ht hn 3 ⟨[sl 3 (.ptr 0 0), sl 4 (.ptr 1 0), sl 7 (.own 3), sl 14 (LS boolT ((fun q_ => semF gr k (nd.kids.getD (q_ : Int).toNat (fn 48 0 [])) ss) 0)), sl 110 (I ((List.replicate (gr.fPlaces).toNat false).length : Int)), sl 111 (I x111), sl 114 (.own 3), sl 115 (I x111), sl 116 (.rd (trR fLab nd))], [.box [.rd (trR fLab nd)] 83 true, .box (qfWhr2 gr) 24 true, .gone, rowI 4 boolT l3_5]⟩ (by kernel_rfl) ?_
 refine WL.val hn (by rfl) (val_node (s := .agg [.v (.int .u8 nd.lab.fSign), I nd.lab.fN, LS (TT fLab) nd.kids]) (t := nd) (lab := fLab) fLabH rfl (by rfl) rfl rfl) (by rfl) ?_
 refine WL.val hn (by rfl) (val_field (l := [.v (.int .u8 nd.lab.fSign), I nd.lab.fN, LS (TT fLab) nd.kids]) (r := .one (.v (.int .u8 nd.lab.fSign))) ht rfl (by rfl) (by rfl) (by rfl) (by rfl) (by rfl) (by rfl)) (by rfl) ?_
 refine WL.val hn (by rfl) (val_load (s := .one (.v (.int .u8 nd.lab.fSign))) ht rfl (by rfl) (by rfl) (by rfl) (by rfl) (by rfl)) (by rfl) ?_
 refine WL.run ht hn 1 ⟨[sl 3 (.ptr 0 0), sl 4 (.ptr 1 0), sl 7 (.own 3), sl 14 (LS boolT ((fun q_ => semF gr k (nd.kids.getD (q_ : Int).toNat (fn 48 0 [])) ss) 0)), sl 110 (I ((List.replicate (gr.fPlaces).toNat false).length : Int)), sl 111 (I x111), sl 114 (.own 3), sl 115 (I x111), sl 120 (B (nd.lab.fSign == 91))], [.box [.rd (trR fLab nd)] 83 true, .box (qfWhr2 gr) 24 true, .gone, rowI 4 boolT l3_5]⟩ (by kernel_rfl) ?_
 obtain ⟨e_17, he_17, h⟩ := h
 refine WL.val hn (by rfl) (val_indexO (T := boolT) (l := l3_5) (k := x111) ht rfl (by rfl) (by rfl) (by rfl) (by rfl) (by decide) (by rfl) (by rfl) (by rfl) he_17) (by rfl) ?_
 refine WL.storeO (T := boolT) (l := l3_5) (y := (nd.lab.fSign == 91)) ht hn (by rfl) rfl (by rfl) (by rfl) (fun _ h => by cases h) (by rfl) (by rfl) (idx_lt he_17) (by rfl) (by rfl) (by rfl) (by rfl) ?_
 refine WL.nil ?_
 refine En.region ?_
 refine WL.run ht hn 2 ⟨[sl 3 (.ptr 0 0), sl 4 (.ptr 1 0), sl 7 (.own 3), sl 14 (LS boolT ((fun q_ => semF gr k (nd.kids.getD (q_ : Int).toNat (fn 48 0 [])) ss) 0)), sl 110 (I ((List.replicate (gr.fPlaces).toNat false).length : Int)), sl 111 (I (wr (x111 + 1)))], [.box [.rd (trR fLab nd)] 83 true, .box (qfWhr2 gr) 24 true, .gone, rowI 4 boolT (l3_5.set (x111).toNat (nd.lab.fSign == 91))]⟩ (by kernel_rfl) ?_
 refine WL.nil ?_
 exact En.at (I := fun zz => Inv_3 zz.1 zz.2 ∧ mu_3 zz.1 zz.2 < mu_3 x111 l3_5) (T := fun zz => ⟨[sl 3 (.ptr 0 0), sl 4 (.ptr 1 0), sl 7 (.own 3), sl 14 (LS boolT ((fun q_ => semF gr k (nd.kids.getD (q_ : Int).toNat (fn 48 0 [])) ss) 0)), sl 110 (I ((List.replicate (gr.fPlaces).toNat false).length : Int)), sl 111 (I zz.1)], [.box [.rd (trR fLab nd)] 83 true, .box (qfWhr2 gr) 24 true, .gone, rowI 4 boolT zz.2]⟩) ((wr (x111 + 1)), (l3_5.set (x111).toNat (nd.lab.fSign == 91))) h (by kernel_rfl)
 replace h := h.2 hb
 refine En.exit rfl ?_
 refine En.seq ?_
 refine En.region ?_
 refine WL.run ht hn 4 ⟨[sl 3 (.ptr 0 0), sl 7 (.own 3), sl 14 (LS boolT ((fun q_ => semF gr k (nd.kids.getD (q_ : Int).toNat (fn 48 0 [])) ss) 0)), sl 124 (qfWhr1 gr), sl 125 (I (gr.fArrows.length : Int)), sl 126 (I 0)], [.box [.rd (trR fLab nd)] 83 true, .gone, .gone, rowI 4 boolT l3_5]⟩ (by kernel_rfl) ?_
 refine WL.nil ?_
 refine En.block ?_
 obtain ⟨Inv_4, mu_4, h0_3, hI_3⟩ := h
 refine En.loop (σ := Int × (List Bool)) (fun zz => Inv_4 zz.1 zz.2) (fun zz => mu_4 zz.1 zz.2) (fun zz => ⟨[sl 3 (.ptr 0 0), sl 7 (.own 3), sl 14 (LS boolT ((fun q_ => semF gr k (nd.kids.getD (q_ : Int).toNat (fn 48 0 [])) ss) 0)), sl 124 (qfWhr1 gr), sl 125 (I (gr.fArrows.length : Int)), sl 126 (I zz.1)], [.box [.rd (trR fLab nd)] 83 true, .gone, .gone, rowI 4 boolT zz.2]⟩) (0, l3_5) h0_3 (sub_ok (by kernel_rfl)) ?_
 rintro ⟨x126, l3_6⟩ h
 replace h := hI_3 _ _ h
 show En c ⟨[sl 3 (.ptr 0 0), sl 7 (.own 3), sl 14 (LS boolT ((fun q_ => semF gr k (nd.kids.getD (q_ : Int).toNat (fn 48 0 [])) ss) 0)), sl 124 (qfWhr1 gr), sl 125 (I (gr.fArrows.length : Int)), sl 126 (I x126)], [.box [.rd (trR fLab nd)] 83 true, .gone, .gone, rowI 4 boolT l3_6]⟩ _
 refine En.seq ?_
 refine En.region ?_
 refine WL.run ht hn 1 ⟨[sl 3 (.ptr 0 0), sl 7 (.own 3), sl 14 (LS boolT ((fun q_ => semF gr k (nd.kids.getD (q_ : Int).toNat (fn 48 0 [])) ss) 0)), sl 124 (qfWhr1 gr), sl 125 (I (gr.fArrows.length : Int)), sl 126 (I x126), sl 127 (B (decide (x126 < (gr.fArrows.length : Int))))], [.box [.rd (trR fLab nd)] 83 true, .gone, .gone, rowI 4 boolT l3_6]⟩ (by kernel_rfl) ?_
 refine WL.nil ?_
 refine En.seq ?_
 refine En.cond (b := (decide (x126 < (gr.fArrows.length : Int)))) (by kernel_rfl) (fun hb => ?_) (fun hb => ?_)
 replace h := h.1 hb
 refine En.skip ?_
 obtain ⟨J_5, h, hJ_5⟩ := h
 refine En.seqJ (σ := (List Bool)) (fun zz => J_5 zz) (fun zz => ⟨[sl 3 (.ptr 0 0), sl 7 (.own 3), sl 14 (LS boolT ((fun q_ => semF gr k (nd.kids.getD (q_ : Int).toNat (fn 48 0 [])) ss) 0)), sl 124 (qfWhr1 gr), sl 125 (I (gr.fArrows.length : Int)), sl 126 (I x126)], [.box [.rd (trR fLab nd)] 83 true, .gone, .gone, rowI 4 boolT zz, .gone]⟩) ?_ ?_
 refine En.block ?_
 refine En.seq ?_
 refine En.region ?_
 obtain ⟨e_18, he_18, h⟩ := h
 refine WL.val hn (by rfl) (val_index (T := ApiArrow.ty) (l := gr.fArrows) (i := x126) ht rfl (by rfl) (by rfl) (by rfl) (by rfl) (by rfl) (by rfl) he_18) (by rfl) ?_
 refine WL.val hn (by rfl) (val_load (s := .agg (ApiArrow.cl e_18)) ht rfl (by rfl) (by rfl) (by rfl) (by rfl) (by rfl)) (by rfl) ?_
 refine WL.run ht hn 2 ⟨[sl 3 (.ptr 0 0), sl 7 (.own 3), sl 14 (LS boolT ((fun q_ => semF gr k (nd.kids.getD (q_ : Int).toNat (fn 48 0 [])) ss) 0)), sl 17 (.ptr 4 0), sl 124 (qfWhr1 gr), sl 125 (I (gr.fArrows.length : Int)), sl 126 (I x126)], [.box [.rd (trR fLab nd)] 83 true, .gone, .gone, rowI 4 boolT l3_6, .box (ApiArrow.cl e_18) 26 false]⟩ (by kernel_rfl) ?_
 refine WL.nil ?_
 obtain ⟨J_6, h, hJ_6⟩ := h
 refine En.seqJ (σ := Bool) (fun zz => J_6 zz) (fun zz => ⟨[sl 3 (.ptr 0 0), sl 7 (.own 3), sl 14 (LS boolT ((fun q_ => semF gr k (nd.kids.getD (q_ : Int).toNat (fn 48 0 [])) ss) 0)), sl 17 (.ptr 4 0), sl 124 (qfWhr1 gr), sl 125 (I (gr.fArrows.length : Int)), sl 126 (I x126), sl 149 (B zz)], [.box [.rd (trR fLab nd)] 83 true, .gone, .gone, rowI 4 boolT l3_6, .box (ApiArrow.cl e_18) 26 false]⟩) ?_ ?_
 refine splitB (e_18.fLetter == nd.lab.fN) (fun hb_2 => ?_) (fun hb_2 => ?_)
 replace h := h.1 hb_2
 obtain ⟨e_19, he_19, h⟩ := h
 refine En.regionA ⟨[sl 3 (.ptr 0 0), sl 7 (.own 3), sl 14 (LS boolT ((fun q_ => semF gr k (nd.kids.getD (q_ : Int).toNat (fn 48 0 [])) ss) 0)), sl 17 (.ptr 4 0), sl 124 (qfWhr1 gr), sl 125 (I (gr.fArrows.length : Int)), sl 126 (I x126)], [.sv (.one (.ptr 4 1)), .sv (.one (I e_18.fLetter)), .sv (.one (.rd (trR fLab nd))), .sv (.one (.pe (qfWhr0 nd) 3)), .sv (.one (.pe (svR (.one (I nd.lab.fN))) 1)), .sv (.one (I nd.lab.fN)), .sv (.one (B true)), .sv (.one (B true)), .sv (.one (LS boolT ((fun q_ => semF gr k (nd.kids.getD (q_ : Int).toNat (fn 48 0 [])) ss) 0))), .sv (.one (.ptr 4 2)), .sv (.one (I e_18.fTo)), .sv (.one (.pe (svR (.one (B e_19))) 1)), .sv (.one (B e_19)), .sv (.one (.rd (trR fLab nd))), .sv (.one (.pe (qfWhr0 nd) 3)), .sv (.one (.pe (svR (.one (.v (.int .u8 nd.lab.fSign)))) 1)), .sv (.one (.v (.int .u8 nd.lab.fSign))), .sv (.one (B (nd.lab.fSign == 60))), .sv (.one (B (e_19 == (nd.lab.fSign == 60)))), .sv (.one (B (e_19 == (nd.lab.fSign == 60))))], [⟨.box [.rd (trR fLab nd)] 83 true, none, none, none⟩, ⟨.gone, none, none, none⟩, ⟨.gone, none, none, none⟩, ⟨rowI 4 boolT l3_6, none, none, none⟩, ⟨.box (ApiArrow.cl e_18) 26 false, none, none, none⟩]⟩ ⟨[sl 3 (.ptr 0 0), sl 7 (.own 3), sl 14 (LS boolT ((fun q_ => semF gr k (nd.kids.getD (q_ : Int).toNat (fn 48 0 [])) ss) 0)), sl 17 (.ptr 4 0), sl 124 (qfWhr1 gr), sl 125 (I (gr.fArrows.length : Int)), sl 126 (I x126), sl 149 (B (e_19 == (nd.lab.fSign == 60)))], [.box [.rd (trR fLab nd)] 83 true, .gone, .gone, rowI 4 boolT l3_6, .box (ApiArrow.cl e_18) 26 false]⟩ (by kernel_rfl) hn (by kernel_rfl) (by rfl) (by kernel_rfl) ?_ (by kernel_rfl) ?_
 exact ⟨.mt ⟨[sl 17 (.ptr 4 0)], []⟩ [] none (by kernel_rfl) (by rfl) (mt_ev ht (by kernel_rfl)) rfl rfl rfl rfl,
 .mt ⟨[sl 130 (.ptr 4 1)], [.gone, .gone, .gone, .gone, .box (ApiArrow.cl e_18) 26 false]⟩ [] none (by kernel_rfl) (by rfl) (mt_ev ht (by kernel_rfl)) rfl rfl rfl rfl,
 .mt ⟨[sl 3 (.ptr 0 0)], [.box [.rd (trR fLab nd)] 83 true]⟩ [] none (by kernel_rfl) (by rfl) (mt_ev ht (by kernel_rfl)) rfl rfl rfl rfl,
 .mt ⟨[sl 132 (.rd (trR fLab nd))], []⟩ [] none (by kernel_rfl) (by rfl) (mt_val (val_node (s := .agg [.v (.int .u8 nd.lab.fSign), I nd.lab.fN, LS (TT fLab) nd.kids]) (t := nd) (lab := fLab) fLabH rfl (by rfl) rfl rfl)) rfl rfl rfl rfl,
 .mt ⟨[sl 133 (.pe (qfWhr0 nd) 3)], []⟩ [] none (by kernel_rfl) (by rfl) (mt_val (val_field (l := [.v (.int .u8 nd.lab.fSign), I nd.lab.fN, LS (TT fLab) nd.kids]) (r := .one (I nd.lab.fN)) ht rfl (by rfl) (by rfl) (by rfl) (by rfl) (by rfl) (by rfl))) rfl rfl rfl rfl,
 .mt ⟨[sl 134 (.pe (svR (.one (I nd.lab.fN))) 1)], []⟩ [] none (by kernel_rfl) (by rfl) (mt_val (val_load (s := .one (I nd.lab.fN)) ht rfl (by rfl) (by rfl) (by rfl) (by rfl) (by rfl))) rfl rfl rfl rfl,
 .mt ⟨[sl 131 (I e_18.fLetter), sl 135 (I nd.lab.fN)], []⟩ [] none (by kernel_rfl) (by rfl) (mt_castB hb_2 (mt_ev ht (by kernel_rfl))) rfl rfl rfl rfl,
 .mt ⟨[sl 136 (B true)], []⟩ [] none (by kernel_rfl) (by rfl) (mt_ev ht (by kernel_rfl)) rfl rfl rfl rfl,
 .mt ⟨[sl 14 (LS boolT ((fun q_ => semF gr k (nd.kids.getD (q_ : Int).toNat (fn 48 0 [])) ss) 0)), sl 137 (B true)], []⟩ [] none (by kernel_rfl) (by rfl) (mt_ev ht (by kernel_rfl)) rfl rfl rfl rfl,
 .mt ⟨[sl 17 (.ptr 4 0), sl 137 (B true)], []⟩ [] none (by kernel_rfl) (by rfl) (mt_ev ht (by kernel_rfl)) rfl rfl rfl rfl,
 .mt ⟨[sl 137 (B true), sl 139 (.ptr 4 2)], [.gone, .gone, .gone, .gone, .box (ApiArrow.cl e_18) 26 false]⟩ [] none (by kernel_rfl) (by rfl) (mt_ev ht (by kernel_rfl)) rfl rfl rfl rfl,
 .mt ⟨[sl 137 (B true), sl 138 (LS boolT ((fun q_ => semF gr k (nd.kids.getD (q_ : Int).toNat (fn 48 0 [])) ss) 0)), sl 140 (I e_18.fTo)], []⟩ [] none (by kernel_rfl) (by rfl) (mt_val (val_index (T := boolT) (l := ((fun q_ => semF gr k (nd.kids.getD (q_ : Int).toNat (fn 48 0 [])) ss) 0)) (i := e_18.fTo) ht rfl (by rfl) (by rfl) (by rfl) (by rfl) (by rfl) (by rfl) he_19)) rfl rfl rfl rfl,
 .mt ⟨[sl 137 (B true), sl 141 (.pe (svR (.one (B e_19))) 1)], []⟩ [] none (by kernel_rfl) (by rfl) (mt_val (val_load (s := .one (B e_19)) ht rfl (by rfl) (by rfl) (by rfl) (by rfl) (by rfl))) rfl rfl rfl rfl,
 .mt ⟨[sl 3 (.ptr 0 0), sl 137 (B true)], [.box [.rd (trR fLab nd)] 83 true]⟩ [] none (by kernel_rfl) (by rfl) (mt_ev ht (by kernel_rfl)) rfl rfl rfl rfl,
 .mt ⟨[sl 137 (B true), sl 143 (.rd (trR fLab nd))], []⟩ [] none (by kernel_rfl) (by rfl) (mt_val (val_node (s := .agg [.v (.int .u8 nd.lab.fSign), I nd.lab.fN, LS (TT fLab) nd.kids]) (t := nd) (lab := fLab) fLabH rfl (by rfl) rfl rfl)) rfl rfl rfl rfl,
 .mt ⟨[sl 137 (B true), sl 144 (.pe (qfWhr0 nd) 3)], []⟩ [] none (by kernel_rfl) (by rfl) (mt_val (val_field (l := [.v (.int .u8 nd.lab.fSign), I nd.lab.fN, LS (TT fLab) nd.kids]) (r := .one (.v (.int .u8 nd.lab.fSign))) ht rfl (by rfl) (by rfl) (by rfl) (by rfl) (by rfl) (by rfl))) rfl rfl rfl rfl,
 .mt ⟨[sl 137 (B true), sl 145 (.pe (svR (.one (.v (.int .u8 nd.lab.fSign)))) 1)], []⟩ [] none (by kernel_rfl) (by rfl) (mt_val (val_load (s := .one (.v (.int .u8 nd.lab.fSign))) ht rfl (by rfl) (by rfl) (by rfl) (by rfl) (by rfl))) rfl rfl rfl rfl,
 .mt ⟨[sl 137 (B true), sl 146 (.v (.int .u8 nd.lab.fSign))], []⟩ [] none (by kernel_rfl) (by rfl) (mt_ev ht (by kernel_rfl)) rfl rfl rfl rfl,
 .mt ⟨[sl 137 (B true), sl 142 (B e_19), sl 147 (B (nd.lab.fSign == 60))], []⟩ [] none (by kernel_rfl) (by rfl) (mt_val (val_eqB (u := e_19) (v := (nd.lab.fSign == 60)) rfl Try.underlying4 (by rfl) (by rfl) (.inl ⟨rfl, rfl⟩))) rfl rfl rfl rfl,
 .mt ⟨[sl 137 (B true), sl 148 (B (e_19 == (nd.lab.fSign == 60)))], []⟩ [] none (by kernel_rfl) (by rfl) (mt_ev ht (by kernel_rfl)) rfl rfl rfl rfl,
 trivial⟩
 exact En.at (I := fun zz => J_6 zz) (T := fun zz => ⟨[sl 3 (.ptr 0 0), sl 7 (.own 3), sl 14 (LS boolT ((fun q_ => semF gr k (nd.kids.getD (q_ : Int).toNat (fn 48 0 [])) ss) 0)), sl 17 (.ptr 4 0), sl 124 (qfWhr1 gr), sl 125 (I (gr.fArrows.length : Int)), sl 126 (I x126), sl 149 (B zz)], [.box [.rd (trR fLab nd)] 83 true, .gone, .gone, rowI 4 boolT l3_6, .box (ApiArrow.cl e_18) 26 false]⟩) (e_19 == (nd.lab.fSign == 60)) h (by kernel_rfl)
 replace h := h.2 hb_2
 refine En.regionA ⟨[sl 3 (.ptr 0 0), sl 7 (.own 3), sl 14 (LS boolT ((fun q_ => semF gr k (nd.kids.getD (q_ : Int).toNat (fn 48 0 [])) ss) 0)), sl 17 (.ptr 4 0), sl 124 (qfWhr1 gr), sl 125 (I (gr.fArrows.length : Int)), sl 126 (I x126)], [.sv (.one (.ptr 4 1)), .sv (.one (I e_18.fLetter)), .sv (.one (.rd (trR fLab nd))), .sv (.one (.pe (qfWhr0 nd) 3)), .sv (.one (.pe (svR (.one (I nd.lab.fN))) 1)), .sv (.one (I nd.lab.fN)), .sv (.one (B false)), .sv (.one (B false)), .tup [], .tup [], .tup [], .tup [], .tup [], .tup [], .tup [], .tup [], .tup [], .tup [], .tup [], .sv (.one (B false))], [⟨.box [.rd (trR fLab nd)] 83 true, none, none, none⟩, ⟨.gone, none, none, none⟩, ⟨.gone, none, none, none⟩, ⟨rowI 4 boolT l3_6, none, none, none⟩, ⟨.box (ApiArrow.cl e_18) 26 false, none, none, none⟩]⟩ ⟨[sl 3 (.ptr 0 0), sl 7 (.own 3), sl 14 (LS boolT ((fun q_ => semF gr k (nd.kids.getD (q_ : Int).toNat (fn 48 0 [])) ss) 0)), sl 17 (.ptr 4 0), sl 124 (qfWhr1 gr), sl 125 (I (gr.fArrows.length : Int)), sl 126 (I x126), sl 149 (B false)], [.box [.rd (trR fLab nd)] 83 true, .gone, .gone, rowI 4 boolT l3_6, .box (ApiArrow.cl e_18) 26 false]⟩ (by kernel_rfl) hn (by kernel_rfl) (by rfl) (by kernel_rfl) ?_ (by kernel_rfl) ?_
 exact ⟨.mt ⟨[sl 17 (.ptr 4 0)], []⟩ [] none (by kernel_rfl) (by rfl) (mt_ev ht (by kernel_rfl)) rfl rfl rfl rfl,
 .mt ⟨[sl 130 (.ptr 4 1)], [.gone, .gone, .gone, .gone, .box (ApiArrow.cl e_18) 26 false]⟩ [] none (by kernel_rfl) (by rfl) (mt_ev ht (by kernel_rfl)) rfl rfl rfl rfl,
 .mt ⟨[sl 3 (.ptr 0 0)], [.box [.rd (trR fLab nd)] 83 true]⟩ [] none (by kernel_rfl) (by rfl) (mt_ev ht (by kernel_rfl)) rfl rfl rfl rfl,
 .mt ⟨[sl 132 (.rd (trR fLab nd))], []⟩ [] none (by kernel_rfl) (by rfl) (mt_val (val_node (s := .agg [.v (.int .u8 nd.lab.fSign), I nd.lab.fN, LS (TT fLab) nd.kids]) (t := nd) (lab := fLab) fLabH rfl (by rfl) rfl rfl)) rfl rfl rfl rfl,
 .mt ⟨[sl 133 (.pe (qfWhr0 nd) 3)], []⟩ [] none (by kernel_rfl) (by rfl) (mt_val (val_field (l := [.v (.int .u8 nd.lab.fSign), I nd.lab.fN, LS (TT fLab) nd.kids]) (r := .one (I nd.lab.fN)) ht rfl (by rfl) (by rfl) (by rfl) (by rfl) (by rfl) (by rfl))) rfl rfl rfl rfl,
 .mt ⟨[sl 134 (.pe (svR (.one (I nd.lab.fN))) 1)], []⟩ [] none (by kernel_rfl) (by rfl) (mt_val (val_load (s := .one (I nd.lab.fN)) ht rfl (by rfl) (by rfl) (by rfl) (by rfl) (by rfl))) rfl rfl rfl rfl,
 .mt ⟨[sl 131 (I e_18.fLetter), sl 135 (I nd.lab.fN)], []⟩ [] none (by kernel_rfl) (by rfl) (mt_castB hb_2 (mt_ev ht (by kernel_rfl))) rfl rfl rfl rfl,
 .mt ⟨[sl 136 (B false)], []⟩ [] none (by kernel_rfl) (by rfl) (mt_ev ht (by kernel_rfl)) rfl rfl rfl rfl,
 .skip ⟨[sl 137 (B false)], []⟩ (by kernel_rfl) (by rfl) rfl rfl rfl rfl,
 .skip ⟨[sl 137 (B false)], []⟩ (by kernel_rfl) (by rfl) rfl rfl rfl rfl,
 .skip ⟨[sl 137 (B false)], []⟩ (by kernel_rfl) (by rfl) rfl rfl rfl rfl,
 .skip ⟨[sl 137 (B false)], []⟩ (by kernel_rfl) (by rfl) rfl rfl rfl rfl,
 .skip ⟨[sl 137 (B false)], []⟩ (by kernel_rfl) (by rfl) rfl rfl rfl rfl,
 .skip ⟨[sl 137 (B false)], []⟩ (by kernel_rfl) (by rfl) rfl rfl rfl rfl,
 .skip ⟨[sl 137 (B false)], []⟩ (by kernel_rfl) (by rfl) rfl rfl rfl rfl,
 .skip ⟨[sl 137 (B false)], []⟩ (by kernel_rfl) (by rfl) rfl rfl rfl rfl,
 .skip ⟨[sl 137 (B false)], []⟩ (by kernel_rfl) (by rfl) rfl rfl rfl rfl,
 .skip ⟨[sl 137 (B false)], []⟩ (by kernel_rfl) (by rfl) rfl rfl rfl rfl,
 .skip ⟨[sl 137 (B false)], []⟩ (by kernel_rfl) (by rfl) rfl rfl rfl rfl,
 .mt ⟨[sl 137 (B false), (148, .tup [])], []⟩ [] none (by kernel_rfl) (by rfl) (mt_ev ht (by kernel_rfl)) rfl rfl rfl rfl,
 trivial⟩
 exact En.at (I := fun zz => J_6 zz) (T := fun zz => ⟨[sl 3 (.ptr 0 0), sl 7 (.own 3), sl 14 (LS boolT ((fun q_ => semF gr k (nd.kids.getD (q_ : Int).toNat (fn 48 0 [])) ss) 0)), sl 17 (.ptr 4 0), sl 124 (qfWhr1 gr), sl 125 (I (gr.fArrows.length : Int)), sl 126 (I x126), sl 149 (B zz)], [.box [.rd (trR fLab nd)] 83 true, .gone, .gone, rowI 4 boolT l3_6, .box (ApiArrow.cl e_18) 26 false]⟩) false h (by kernel_rfl)
 intro x149 h
 replace h := hJ_6 _ h
 show En c ⟨[sl 3 (.ptr 0 0), sl 7 (.own 3), sl 14 (LS boolT ((fun q_ => semF gr k (nd.kids.getD (q_ : Int).toNat (fn 48 0 [])) ss) 0)), sl 17 (.ptr 4 0), sl 124 (qfWhr1 gr), sl 125 (I (gr.fArrows.length : Int)), sl 126 (I x126), sl 149 (B x149)], [.box [.rd (trR fLab nd)] 83 true, .gone, .gone, rowI 4 boolT l3_6, .box (ApiArrow.cl e_18) 26 false]⟩ _
 refine En.cond (b := x149) (by kernel_rfl) (fun hb => ?_) (fun hb => ?_)
 replace h := h.1 hb
 obtain ⟨e_20, he_20, h⟩ := h
 refine En.regionA ⟨[sl 3 (.ptr 0 0), sl 7 (.own 3), sl 14 (LS boolT ((fun q_ => semF gr k (nd.kids.getD (q_ : Int).toNat (fn 48 0 [])) ss) 0)), sl 17 (.ptr 4 0), sl 124 (qfWhr1 gr), sl 125 (I (gr.fArrows.length : Int)), sl 126 (I x126)], [.sv (.one (.own 3)), .sv (.one (.ptr 4 0)), .sv (.one (I e_18.fFrom)), .sv (.one (.rd (trR fLab nd))), .sv (.one (.pe (qfWhr0 nd) 3)), .sv (.one (.pe (svR (.one (.v (.int .u8 nd.lab.fSign)))) 1)), .sv (.one (.v (.int .u8 nd.lab.fSign))), .sv (.one (B (nd.lab.fSign == 60))), .sv (.one (.oe 3 ((e_18.fFrom).toNat) 1)), .tup []], [⟨.box [.rd (trR fLab nd)] 83 true, none, none, none⟩, ⟨.gone, none, none, none⟩, ⟨.gone, none, none, none⟩, ⟨rowI 4 boolT l3_6, none, none, some (9, rowI 4 boolT (l3_6.set (e_18.fFrom).toNat (nd.lab.fSign == 60)))⟩, ⟨.box (ApiArrow.cl e_18) 26 false, none, none, none⟩]⟩ ⟨[sl 3 (.ptr 0 0), sl 7 (.own 3), sl 14 (LS boolT ((fun q_ => semF gr k (nd.kids.getD (q_ : Int).toNat (fn 48 0 [])) ss) 0)), sl 124 (qfWhr1 gr), sl 125 (I (gr.fArrows.length : Int)), sl 126 (I x126)], [.box [.rd (trR fLab nd)] 83 true, .gone, .gone, rowI 4 boolT (l3_6.set (e_18.fFrom).toNat (nd.lab.fSign == 60)), .gone]⟩ (by kernel_rfl) hn (by kernel_rfl) (by rfl) (by kernel_rfl) ?_ (by kernel_rfl) ?_
 exact ⟨.mt ⟨[sl 7 (.own 3)], []⟩ [] none (by kernel_rfl) (by rfl) (mt_ev ht (by kernel_rfl)) rfl rfl rfl rfl,
 .mt ⟨[sl 17 (.ptr 4 0)], []⟩ [] none (by kernel_rfl) (by rfl) (mt_ev ht (by kernel_rfl)) rfl rfl rfl rfl,
 .mt ⟨[sl 151 (.ptr 4 0)], [.gone, .gone, .gone, .gone, .box (ApiArrow.cl e_18) 26 false]⟩ [] none (by kernel_rfl) (by rfl) (mt_ev ht (by kernel_rfl)) rfl rfl rfl rfl,
 .mt ⟨[sl 3 (.ptr 0 0)], [.box [.rd (trR fLab nd)] 83 true]⟩ [] none (by kernel_rfl) (by rfl) (mt_ev ht (by kernel_rfl)) rfl rfl rfl rfl,
 .mt ⟨[sl 153 (.rd (trR fLab nd))], []⟩ [] none (by kernel_rfl) (by rfl) (mt_val (val_node (s := .agg [.v (.int .u8 nd.lab.fSign), I nd.lab.fN, LS (TT fLab) nd.kids]) (t := nd) (lab := fLab) fLabH rfl (by rfl) rfl rfl)) rfl rfl rfl rfl,
 .mt ⟨[sl 154 (.pe (qfWhr0 nd) 3)], []⟩ [] none (by kernel_rfl) (by rfl) (mt_val (val_field (l := [.v (.int .u8 nd.lab.fSign), I nd.lab.fN, LS (TT fLab) nd.kids]) (r := .one (.v (.int .u8 nd.lab.fSign))) ht rfl (by rfl) (by rfl) (by rfl) (by rfl) (by rfl) (by rfl))) rfl rfl rfl rfl,
 .mt ⟨[sl 155 (.pe (svR (.one (.v (.int .u8 nd.lab.fSign)))) 1)], []⟩ [] none (by kernel_rfl) (by rfl) (mt_val (val_load (s := .one (.v (.int .u8 nd.lab.fSign))) ht rfl (by rfl) (by rfl) (by rfl) (by rfl) (by rfl))) rfl rfl rfl rfl,
 .mt ⟨[sl 156 (.v (.int .u8 nd.lab.fSign))], []⟩ [] none (by kernel_rfl) (by rfl) (mt_ev ht (by kernel_rfl)) rfl rfl rfl rfl,
 .mt ⟨[sl 150 (.own 3), sl 152 (I e_18.fFrom)], [.gone, .gone, .gone, rowI 4 boolT l3_6]⟩ [] none (by kernel_rfl) (by rfl) (mt_val (val_indexO (T := boolT) (l := l3_6) (k := e_18.fFrom) ht rfl (by rfl) (by rfl) (by rfl) (by rfl) (by decide) (by rfl) (by rfl) (by rfl) he_20)) rfl rfl rfl rfl,
 .mu ⟨[sl 157 (B (nd.lab.fSign == 60)), sl 158 (.oe 3 ((e_18.fFrom).toNat) 1)], [.gone, .gone, .gone, rowI 4 boolT l3_6]⟩ 3 _ _ rfl rfl (by kernel_rfl) (by rfl) (mu_storeO (T := boolT) (l := l3_6) (y := (nd.lab.fSign == 60)) ht rfl (by rfl) (by rfl) (fun _ h => by cases h) (by rfl) (by rfl) (idx_lt he_20) (by rfl) (by rfl) (by rfl)) rfl rfl rfl rfl rfl rfl rfl,
 trivial⟩
 exact En.at (I := fun zz => J_5 zz) (T := fun zz => ⟨[sl 3 (.ptr 0 0), sl 7 (.own 3), sl 14 (LS boolT ((fun q_ => semF gr k (nd.kids.getD (q_ : Int).toNat (fn 48 0 [])) ss) 0)), sl 124 (qfWhr1 gr), sl 125 (I (gr.fArrows.length : Int)), sl 126 (I x126)], [.box [.rd (trR fLab nd)] 83 true, .gone, .gone, rowI 4 boolT zz, .gone]⟩) (l3_6.set (e_18.fFrom).toNat (nd.lab.fSign == 60)) h (by kernel_rfl)
 replace h := h.2 hb
 refine En.skip ?_
 exact En.at (I := fun zz => J_5 zz) (T := fun zz => ⟨[sl 3 (.ptr 0 0), sl 7 (.own 3), sl 14 (LS boolT ((fun q_ => semF gr k (nd.kids.getD (q_ : Int).toNat (fn 48 0 [])) ss) 0)), sl 124 (qfWhr1 gr), sl 125 (I (gr.fArrows.length : Int)), sl 126 (I x126)], [.box [.rd (trR fLab nd)] 83 true, .gone, .gone, rowI 4 boolT zz, .gone]⟩) l3_6 h (by kernel_rfl)
 intro l3_7 h
 replace h := hJ_5 _ h
 show En c ⟨[sl 3 (.ptr 0 0), sl 7 (.own 3), sl 14 (LS boolT ((fun q_ => semF gr k (nd.kids.getD (q_ : Int).toNat (fn 48 0 [])) ss) 0)), sl 124 (qfWhr1 gr), sl 125 (I (gr.fArrows.length : Int)), sl 126 (I x126)], [.box [.rd (trR fLab nd)] 83 true, .gone, .gone, rowI 4 boolT l3_7, .gone]⟩ _
 refine En.region ?_
 refine WL.run ht hn 2 ⟨[sl 3 (.ptr 0 0), sl 7 (.own 3), sl 14 (LS boolT ((fun q_ => semF gr k (nd.kids.getD (q_ : Int).toNat (fn 48 0 [])) ss) 0)), sl 124 (qfWhr1 gr), sl 125 (I (gr.fArrows.length : Int)), sl 126 (I (wr (x126 + 1)))], [.box [.rd (trR fLab nd)] 83 true, .gone, .gone, rowI 4 boolT l3_7, .gone]⟩ (by kernel_rfl) ?_
 refine WL.nil ?_
 exact En.at (I := fun zz => Inv_4 zz.1 zz.2 ∧ mu_4 zz.1 zz.2 < mu_4 x126 l3_6) (T := fun zz => ⟨[sl 3 (.ptr 0 0), sl 7 (.own 3), sl 14 (LS boolT ((fun q_ => semF gr k (nd.kids.getD (q_ : Int).toNat (fn 48 0 [])) ss) 0)), sl 124 (qfWhr1 gr), sl 125 (I (gr.fArrows.length : Int)), sl 126 (I zz.1)], [.box [.rd (trR fLab nd)] 83 true, .gone, .gone, rowI 4 boolT zz.2]⟩) ((wr (x126 + 1)), l3_7) h (by kernel_rfl)
 replace h := h.2 hb
 refine En.exit rfl ?_
 exact En.at (I := fun zz => J zz) (T := fun zz => ⟨[sl 7 (.own 3)], [.gone, .gone, .gone, rowI 4 boolT zz]⟩) l3_6 h (by kernel_rfl)
 replace h := h.2 hb
 obtain ⟨J_7, h, hJ_7⟩ := h
 refine En.seqJ (σ := Bool) (fun zz => J_7 zz) (fun zz => ⟨[sl 3 (.ptr 0 0), sl 4 (.ptr 1 0), sl 5 (.ptr 2 0), sl 7 (.own 3), sl 160 (B zz)], [.box [.rd (trR fLab nd)] 83 false, .box (qfWhr2 gr) 24 false, .box [LS (lsT boolT) ss] 146 false, rowI 4 boolT (List.replicate (gr.fPlaces).toNat false)]⟩) ?_ ?_
 refine En.seq ?_
 refine En.region ?_
 refine WL.run ht hn 2 ⟨[sl 3 (.ptr 0 0), sl 4 (.ptr 1 0), sl 5 (.ptr 2 0), sl 7 (.own 3), sl 27 (.v (.int .u8 nd.lab.fSign)), sl 160 (B (nd.lab.fSign == 109))], [.box [.rd (trR fLab nd)] 83 false, .box (qfWhr2 gr) 24 false, .box [LS (lsT boolT) ss] 146 false, rowI 4 boolT (List.replicate (gr.fPlaces).toNat false)]⟩ (by kernel_rfl) ?_
 refine WL.nil ?_
 refine En.cond (b := (nd.lab.fSign == 109)) (by kernel_rfl) (fun hb => ?_) (fun hb => ?_)
 replace h := h.1 hb
 refine En.skip ?_
 exact En.at (I := fun zz => J_7 zz) (T := fun zz => ⟨[sl 3 (.ptr 0 0), sl 4 (.ptr 1 0), sl 5 (.ptr 2 0), sl 7 (.own 3), sl 160 (B zz)], [.box [.rd (trR fLab nd)] 83 false, .box (qfWhr2 gr) 24 false, .box [LS (lsT boolT) ss] 146 false, rowI 4 boolT (List.replicate (gr.fPlaces).toNat false)]⟩) (nd.lab.fSign == 109) h (by kernel_rfl)
 replace h := h.2 hb
 refine En.region ?_
 refine WL.run ht hn 2 ⟨[sl 3 (.ptr 0 0), sl 4 (.ptr 1 0), sl 5 (.ptr 2 0), sl 7 (.own 3), sl 160 (B (nd.lab.fSign == 110))], [.box [.rd (trR fLab nd)] 83 false, .box (qfWhr2 gr) 24 false, .box [LS (lsT boolT) ss] 146 false, rowI 4 boolT (List.replicate (gr.fPlaces).toNat false)]⟩ (by kernel_rfl) ?_
 refine WL.nil ?_
 exact En.at (I := fun zz => J_7 zz) (T := fun zz => ⟨[sl 3 (.ptr 0 0), sl 4 (.ptr 1 0), sl 5 (.ptr 2 0), sl 7 (.own 3), sl 160 (B zz)], [.box [.rd (trR fLab nd)] 83 false, .box (qfWhr2 gr) 24 false, .box [LS (lsT boolT) ss] 146 false, rowI 4 boolT (List.replicate (gr.fPlaces).toNat false)]⟩) (nd.lab.fSign == 110) h (by kernel_rfl)
 intro x160 h
 replace h := hJ_7 _ h
 show En c ⟨[sl 3 (.ptr 0 0), sl 4 (.ptr 1 0), sl 5 (.ptr 2 0), sl 7 (.own 3), sl 160 (B x160)], [.box [.rd (trR fLab nd)] 83 false, .box (qfWhr2 gr) 24 false, .box [LS (lsT boolT) ss] 146 false, rowI 4 boolT (List.replicate (gr.fPlaces).toNat false)]⟩ _
 refine En.cond (b := x160) (by kernel_rfl) (fun hb => ?_) (fun hb => ?_)
 replace h := h.1 hb
 refine En.seq ?_
 refine En.seq ?_
 refine En.region ?_
 refine WL.run ht hn 3 ⟨[sl 3 (.ptr 0 0), sl 4 (.ptr 1 0), sl 5 (.ptr 2 0), sl 7 (.own 3), sl 164 (I ((List.replicate (gr.fPlaces).toNat false).length : Int)), sl 165 (I 0)], [.box [.rd (trR fLab nd)] 83 false, .box (qfWhr2 gr) 24 false, .box [LS (lsT boolT) ss] 146 false, rowI 4 boolT (List.replicate (gr.fPlaces).toNat false)]⟩ (by kernel_rfl) ?_
 refine WL.nil ?_
 refine En.block ?_
 obtain ⟨Inv_5, mu_5, h0_6, hI_6⟩ := h
 refine En.loop (σ := Int × (List Bool)) (fun zz => Inv_5 zz.1 zz.2) (fun zz => mu_5 zz.1 zz.2) (fun zz => ⟨[sl 3 (.ptr 0 0), sl 4 (.ptr 1 0), sl 5 (.ptr 2 0), sl 7 (.own 3), sl 164 (I ((List.replicate (gr.fPlaces).toNat false).length : Int)), sl 165 (I zz.1)], [.box [.rd (trR fLab nd)] 83 false, .box (qfWhr2 gr) 24 false, .box [LS (lsT boolT) ss] 146 false, rowI 4 boolT zz.2]⟩) (0, (List.replicate (gr.fPlaces).toNat false)) h0_6 (sub_ok (by kernel_rfl)) ?_
 rintro ⟨x165, l3_8⟩ h
 replace h := hI_6 _ _ h
 show En c ⟨[sl 3 (.ptr 0 0), sl 4 (.ptr 1 0), sl 5 (.ptr 2 0), sl 7 (.own 3), sl 164 (I ((List.replicate (gr.fPlaces).toNat false).length : Int)), sl 165 (I x165)], [.box [.rd (trR fLab nd)] 83 false, .box (qfWhr2 gr) 24 false, .box [LS (lsT boolT) ss] 146 false, rowI 4 boolT l3_8]⟩ _
 refine En.seq ?_
 refine En.region ?_
 refine WL.run ht hn 1 ⟨[sl 3 (.ptr 0 0), sl 4 (.ptr 1 0), sl 5 (.ptr 2 0), sl 7 (.own 3), sl 164 (I ((List.replicate (gr.fPlaces).toNat false).length : Int)), sl 165 (I x165), sl 166 (B (decide (x165 < ((List.replicate (gr.fPlaces).toNat false).length : Int))))], [.box [.rd (trR fLab nd)] 83 false, .box (qfWhr2 gr) 24 false, .box [LS (lsT boolT) ss] 146 false, rowI 4 boolT l3_8]⟩ (by kernel_rfl) ?_
 refine WL.nil ?_
 refine En.seq ?_
 refine En.cond (b := (decide (x165 < ((List.replicate (gr.fPlaces).toNat false).length : Int)))) (by kernel_rfl) (fun hb => ?_) (fun hb => ?_)
 replace h := h.1 hb
 refine En.skip ?_
 refine En.seq ?_
 refine En.block ?_
 refine En.seq ?_
 refine En.region ?_
 refine WL.run ht hn 2 ⟨[sl 3 (.ptr 0 0), sl 4 (.ptr 1 0), sl 5 (.ptr 2 0), sl 7 (.own 3), sl 18 (I x165), sl 164 (I ((List.replicate (gr.fPlaces).toNat false).length : Int)), sl 165 (I x165)], [.box [.rd (trR fLab nd)] 83 false, .box (qfWhr2 gr) 24 false, .box [LS (lsT boolT) ss] 146 false, rowI 4 boolT l3_8]⟩ (by kernel_rfl) ?_
 refine WL.nil ?_
 refine En.region ?_
 refine WL.run ht hn 3 ⟨[sl 3 (.ptr 0 0), sl 4 (.ptr 1 0), sl 5 (.ptr 2 0), sl 7 (.own 3), sl 164 (I ((List.replicate (gr.fPlaces).toNat false).length : Int)), sl 165 (I x165), sl 168 (.own 3), sl 169 (I x165), sl 170 (.rd (trR fLab nd))], [.box [.rd (trR fLab nd)] 83 false, .box (qfWhr2 gr) 24 false, .box [LS (lsT boolT) ss] 146 false, rowI 4 boolT l3_8]⟩ (by kernel_rfl) ?_
 refine WL.val hn (by rfl) (val_node (s := .agg [.v (.int .u8 nd.lab.fSign), I nd.lab.fN, LS (TT fLab) nd.kids]) (t := nd) (lab := fLab) fLabH rfl (by rfl) rfl rfl) (by rfl) ?_
 refine WL.val hn (by rfl) (val_field (l := [.v (.int .u8 nd.lab.fSign), I nd.lab.fN, LS (TT fLab) nd.kids]) (r := .one (.v (.int .u8 nd.lab.fSign))) ht rfl (by rfl) (by rfl) (by rfl) (by rfl) (by rfl) (by rfl)) (by rfl) ?_
 refine WL.val hn (by rfl) (val_load (s := .one (.v (.int .u8 nd.lab.fSign))) ht rfl (by rfl) (by rfl) (by rfl) (by rfl) (by rfl)) (by rfl) ?_
 refine WL.run ht hn 1 ⟨[sl 3 (.ptr 0 0), sl 4 (.ptr 1 0), sl 5 (.ptr 2 0), sl 7 (.own 3), sl 164 (I ((List.replicate (gr.fPlaces).toNat false).length : Int)), sl 165 (I x165), sl 168 (.own 3), sl 169 (I x165), sl 174 (B (nd.lab.fSign == 110))], [.box [.rd (trR fLab nd)] 83 false, .box (qfWhr2 gr) 24 false, .box [LS (lsT boolT) ss] 146 false, rowI 4 boolT l3_8]⟩ (by kernel_rfl) ?_
 obtain ⟨e_21, he_21, h⟩ := h
 refine WL.val hn (by rfl) (val_indexO (T := boolT) (l := l3_8) (k := x165) ht rfl (by rfl) (by rfl) (by rfl) (by rfl) (by decide) (by rfl) (by rfl) (by rfl) he_21) (by rfl) ?_
 refine WL.storeO (T := boolT) (l := l3_8) (y := (nd.lab.fSign == 110)) ht hn (by rfl) rfl (by rfl) (by rfl) (fun _ h => by cases h) (by rfl) (by rfl) (idx_lt he_21) (by rfl) (by rfl) (by rfl) (by rfl) ?_
 refine WL.nil ?_
 refine En.region ?_
 refine WL.run ht hn 2 ⟨[sl 3 (.ptr 0 0), sl 4 (.ptr 1 0), sl 5 (.ptr 2 0), sl 7 (.own 3), sl 164 (I ((List.replicate (gr.fPlaces).toNat false).length : Int)), sl 165 (I (wr (x165 + 1)))], [.box [.rd (trR fLab nd)] 83 false, .box (qfWhr2 gr) 24 false, .box [LS (lsT boolT) ss] 146 false, rowI 4 boolT (l3_8.set (x165).toNat (nd.lab.fSign == 110))]⟩ (by kernel_rfl) ?_
 refine WL.nil ?_
 exact En.at (I := fun zz => Inv_5 zz.1 zz.2 ∧ mu_5 zz.1 zz.2 < mu_5 x165 l3_8) (T := fun zz => ⟨[sl 3 (.ptr 0 0), sl 4 (.ptr 1 0), sl 5 (.ptr 2 0), sl 7 (.own 3), sl 164 (I ((List.replicate (gr.fPlaces).toNat false).length : Int)), sl 165 (I zz.1)], [.box [.rd (trR fLab nd)] 83 false, .box (qfWhr2 gr) 24 false, .box [LS (lsT boolT) ss] 146 false, rowI 4 boolT zz.2]⟩) ((wr (x165 + 1)), (l3_8.set (x165).toNat (nd.lab.fSign == 110))) h (by kernel_rfl)
 replace h := h.2 hb
 refine En.exit rfl ?_
 refine En.block ?_
 refine En.seal (T := boolT) (l := l3_8) (e := 4) 3 rfl ?_
 obtain ⟨Inv_6, mu_6, h0_5, hI_5⟩ := h
 refine En.loop (σ := (List Bool)) (fun zz => Inv_6 zz) (fun zz => mu_6 zz) (fun zz => ⟨[sl 3 (.ptr 0 0), sl 4 (.ptr 1 0), sl 5 (.ptr 2 0), sl 7 (LS boolT zz)], [.box [.rd (trR fLab nd)] 83 false, .box (qfWhr2 gr) 24 false, .box [LS (lsT boolT) ss] 146 false, .gone]⟩) l3_8 h0_5 (sub_ok (by kernel_rfl)) ?_
 intro x7 h
 replace h := hI_5 _ h
 show En c ⟨[sl 3 (.ptr 0 0), sl 4 (.ptr 1 0), sl 5 (.ptr 2 0), sl 7 (LS boolT x7)], [.box [.rd (trR fLab nd)] 83 false, .box (qfWhr2 gr) 24 false, .box [LS (lsT boolT) ss] 146 false, .gone]⟩ _
 refine En.block ?_
 refine En.seq ?_
 obtain ⟨e_22, he_22, h⟩ := h
 have hp_2 := h.1
 replace h := h.2
 have hp_3 := h.1
 replace h := h.2
 refine En.regionA ⟨[sl 3 (.ptr 0 0), sl 4 (.ptr 1 0), sl 5 (.ptr 2 0), sl 7 (LS boolT x7)], [.sv (.one (.rd (trR fLab nd))), .sv (.one (.pe (qfWhr0 nd) 3)), .sv (.one (.pe (svR (.one (LS (TT fLab) nd.kids))) 1)), .sv (.one (LS (TT fLab) nd.kids)), .sv (.one (.pe (svR (.one (.rd (trR fLab e_22)))) 1)), .sv (.one (.rd (trR fLab e_22))), .sv (.agg (qfWhr2 gr)), .sv (.one (LS (lsT boolT) ss)), .sv (.one (LS (lsT boolT) ss)), .sv (.one (I (ss.length : Int))), .sv (.one (LS (lsT boolT) ss)), .sv (.one (I (ss.length : Int))), .sv (.one (.sl (slcR (lsT boolT) ss) ss.length)), .sv (.one (LS boolT x7)), .sv (.one (LS (lsT boolT) ([x7] : (List (List Bool))))), .sv (.one (LS (lsT boolT) (ss ++ ([x7] : (List (List Bool)))))), .sv (.one (LS boolT (semF gr k e_22 (ss ++ ([x7] : (List (List Bool))))))), .sv (.one (LS boolT (semF gr k e_22 (ss ++ ([x7] : (List (List Bool)))))))], [⟨.box [.rd (trR fLab nd)] 83 false, none, none, none⟩, ⟨.box (qfWhr2 gr) 24 false, none, none, none⟩, ⟨.box [LS (lsT boolT) ss] 146 false, none, none, none⟩, ⟨.gone, none, none, none⟩]⟩ ⟨[sl 3 (.ptr 0 0), sl 4 (.ptr 1 0), sl 5 (.ptr 2 0), sl 7 (LS boolT x7), sl 19 (LS boolT (semF gr k e_22 (ss ++ ([x7] : (List (List Bool))))))], [.box [.rd (trR fLab nd)] 83 false, .box (qfWhr2 gr) 24 false, .box [LS (lsT boolT) ss] 146 false, .gone]⟩ (by kernel_rfl) hn (by kernel_rfl) (by rfl) (by kernel_rfl) ?_ (by kernel_rfl) ?_
 exact ⟨.mt ⟨[sl 3 (.ptr 0 0)], [.box [.rd (trR fLab nd)] 83 false]⟩ [] none (by kernel_rfl) (by rfl) (mt_ev ht (by kernel_rfl)) rfl rfl rfl rfl,
 .mt ⟨[sl 177 (.rd (trR fLab nd))], []⟩ [] none (by kernel_rfl) (by rfl) (mt_val (val_node (s := .agg [.v (.int .u8 nd.lab.fSign), I nd.lab.fN, LS (TT fLab) nd.kids]) (t := nd) (lab := fLab) fLabH rfl (by rfl) rfl rfl)) rfl rfl rfl rfl,
 .mt ⟨[sl 178 (.pe (qfWhr0 nd) 3)], []⟩ [] none (by kernel_rfl) (by rfl) (mt_val (val_field (l := [.v (.int .u8 nd.lab.fSign), I nd.lab.fN, LS (TT fLab) nd.kids]) (r := .one (LS (TT fLab) nd.kids)) ht rfl (by rfl) (by rfl) (by rfl) (by rfl) (by rfl) (by rfl))) rfl rfl rfl rfl,
 .mt ⟨[sl 179 (.pe (svR (.one (LS (TT fLab) nd.kids))) 1)], []⟩ [] none (by kernel_rfl) (by rfl) (mt_val (val_load (s := .one (LS (TT fLab) nd.kids)) ht rfl (by rfl) (by rfl) (by rfl) (by rfl) (by rfl))) rfl rfl rfl rfl,
 .mt ⟨[sl 180 (LS (TT fLab) nd.kids)], []⟩ [] none (by kernel_rfl) (by rfl) (mt_val (val_index (T := (TT fLab)) (l := nd.kids) (i := 0) ht rfl (by rfl) (by rfl) (by rfl) (by rfl) (by rfl) (by rfl) he_22)) rfl rfl rfl rfl,
 .mt ⟨[sl 181 (.pe (svR (.one (.rd (trR fLab e_22)))) 1)], []⟩ [] none (by kernel_rfl) (by rfl) (mt_val (val_load (s := .one (.rd (trR fLab e_22))) ht rfl (by rfl) (by rfl) (by rfl) (by rfl) (by rfl))) rfl rfl rfl rfl,
 .mt ⟨[sl 4 (.ptr 1 0)], [.gone, .box (qfWhr2 gr) 24 false]⟩ [] none (by kernel_rfl) (by rfl) (mt_ev ht (by kernel_rfl)) rfl rfl rfl rfl,
 .mt ⟨[sl 5 (.ptr 2 0)], [.gone, .gone, .box [LS (lsT boolT) ss] 146 false]⟩ [] none (by kernel_rfl) (by rfl) (mt_ev ht (by kernel_rfl)) rfl rfl rfl rfl,
 .mt ⟨[sl 5 (.ptr 2 0)], [.gone, .gone, .box [LS (lsT boolT) ss] 146 false]⟩ [] none (by kernel_rfl) (by rfl) (mt_ev ht (by kernel_rfl)) rfl rfl rfl rfl,
 .mt ⟨[sl 185 (LS (lsT boolT) ss)], []⟩ [] none (by kernel_rfl) (by rfl) (mt_ev ht (by kernel_rfl)) rfl rfl rfl rfl,
 .mt ⟨[sl 5 (.ptr 2 0)], [.gone, .gone, .box [LS (lsT boolT) ss] 146 false]⟩ [] none (by kernel_rfl) (by rfl) (mt_ev ht (by kernel_rfl)) rfl rfl rfl rfl,
 .mt ⟨[sl 187 (LS (lsT boolT) ss)], []⟩ [] none (by kernel_rfl) (by rfl) (mt_ev ht (by kernel_rfl)) rfl rfl rfl rfl,
 .mt ⟨[sl 184 (LS (lsT boolT) ss), sl 186 (I (ss.length : Int)), sl 188 (I (ss.length : Int))], []⟩ [] none (by kernel_rfl) (by rfl) (mt_val (val_sliceC (T := (lsT boolT)) (l := ss) ht rfl (by rfl) (by rfl) (by rfl) (by rfl) (by rfl) (by rfl) (by rfl))) rfl rfl rfl rfl,
 .mt ⟨[sl 7 (LS boolT x7)], []⟩ [] none (by kernel_rfl) (by rfl) (mt_ev ht (by kernel_rfl)) rfl rfl rfl rfl,
 .mt ⟨[sl 190 (LS boolT x7)], []⟩ [] none (by kernel_rfl) (by rfl) (mt_seal (q := 4) (e := 27) (mt_lit (T := (lsT boolT)) ([x7] : (List (List Bool))) (mt_bsl 4 (r := cellsOf (lsT boolT) ([x7] : (List (List Bool)))) ht rfl (by rfl) (by rfl) (by rfl) (by kernel_rfl) (by rfl)) (fun _ h => by cases h) (fun _ => rfl) (fun _ => rfl) (by rfl) (Nat.le_of_ble_eq_true rfl))) rfl rfl rfl rfl,
 .mt ⟨[sl 189 (.sl (slcR (lsT boolT) ss) ss.length), sl 191 (LS (lsT boolT) ([x7] : (List (List Bool))))], []⟩ [] none (by kernel_rfl) (by rfl) (mt_seal (q := 4) (e := 27) (mt_appendC (T := (lsT boolT)) (l := ss) (es := ([x7] : (List (List Bool)))) (p := 4) ht rfl (by rfl) (by rfl) (by rfl) (by rfl) (by decide) (fun _ h => by cases h) (by rfl) (srcLS (T := (lsT boolT)) (es := ([x7] : (List (List Bool)))) (fun _ h => by cases h) (by decide) (by rfl)) (Nat.le_of_ble_eq_true rfl) (by exact hp_2) (by exact hp_2.le (by decide)))) rfl rfl rfl rfl,
 .mt ⟨[sl 182 (.rd (trR fLab e_22)), (183, .sv (.agg (qfWhr2 gr))), sl 192 (LS (lsT boolT) (ss ++ ([x7] : (List (List Bool)))))], []⟩ [] none (by kernel_rfl) (by rfl) (mt_call (whF k ih e_22 gr (ss ++ ([x7] : (List (List Bool)))) hp_3) en34 (caps := []) [] rfl (by rfl) (by kernel_rfl) (by kernel_rfl) (by rfl) (by rfl) (by rfl)) rfl rfl rfl rfl,
 .mt ⟨[sl 193 (LS boolT (semF gr k e_22 (ss ++ ([x7] : (List (List Bool))))))], []⟩ [] none (by kernel_rfl) (by rfl) (mt_ev ht (by kernel_rfl)) rfl rfl rfl rfl,
 trivial⟩
 refine En.seq ?_
 refine En.seq ?_
 refine En.region ?_
 refine WL.run ht hn 2 ⟨[sl 3 (.ptr 0 0), sl 4 (.ptr 1 0), sl 5 (.ptr 2 0), sl 7 (LS boolT x7), sl 19 (LS boolT (semF gr k e_22 (ss ++ ([x7] : (List (List Bool)))))), sl 194 (LS boolT (semF gr k e_22 (ss ++ ([x7] : (List (List Bool)))))), sl 195 (LS boolT x7)], [.box [.rd (trR fLab nd)] 83 false, .box (qfWhr2 gr) 24 false, .box [LS (lsT boolT) ss] 146 false, .gone]⟩ (by kernel_rfl) ?_
 refine WL.mt0 (K := []) (p := none) hn (by rfl) (mt_call (eqBools_ct (semF gr k e_22 (ss ++ ([x7] : (List (List Bool))))) x7) en78 (caps := []) [] rfl (by rfl) (by kernel_rfl) (by kernel_rfl) (by rfl) (by rfl) (by rfl)) (by rfl) (by rfl) (by rfl) ?_
 refine WL.nil ?_
 refine En.cond (b := (decide ((semF gr k e_22 (ss ++ ([x7] : (List (List Bool))))) = x7))) (by kernel_rfl) (fun hb => ?_) (fun hb => ?_)
 replace h := h.1 hb
 refine En.seq ?_
 refine En.region ?_
 refine WL.run ht hn 2 ⟨[sl 6 (LS boolT x7)], [.gone, .gone, .gone, .gone]⟩ (by kernel_rfl) ?_
 refine WL.nil ?_
 refine En.ret ?_
 exact En.back ht x7 h (by kernel_rfl) rfl
 replace h := h.2 hb
 refine En.skip ?_
 refine En.region ?_
 refine WL.run ht hn 2 ⟨[sl 3 (.ptr 0 0), sl 4 (.ptr 1 0), sl 5 (.ptr 2 0), sl 7 (LS boolT (semF gr k e_22 (ss ++ ([x7] : (List (List Bool))))))], [.box [.rd (trR fLab nd)] 83 false, .box (qfWhr2 gr) 24 false, .box [LS (lsT boolT) ss] 146 false, .gone]⟩ (by kernel_rfl) ?_
 refine WL.nil ?_
 exact En.at (I := fun zz => Inv_6 zz ∧ mu_6 zz < mu_6 x7) (T := fun zz => ⟨[sl 3 (.ptr 0 0), sl 4 (.ptr 1 0), sl 5 (.ptr 2 0), sl 7 (LS boolT zz)], [.box [.rd (trR fLab nd)] 83 false, .box (qfWhr2 gr) 24 false, .box [LS (lsT boolT) ss] 146 false, .gone]⟩) (semF gr k e_22 (ss ++ ([x7] : (List (List Bool))))) h (by kernel_rfl)
 replace h := h.2 hb
 refine En.skip ?_
 exact En.at (I := fun zz => J zz) (T := fun zz => ⟨[sl 7 (.own 3)], [.gone, .gone, .gone, rowI 4 boolT zz]⟩) (List.replicate (gr.fPlaces).toNat false) h (by kernel_rfl)
 intro l3 h
 replace h := hJ _ h
 show En c ⟨[sl 7 (.own 3)], [.gone, .gone, .gone, rowI 4 boolT l3]⟩ _
 refine En.seq ?_
 refine En.region ?_
 refine WL.run ht hn 2 ⟨[sl 6 (.own 3)], [.gone, .gone, .gone, rowI 4 boolT l3]⟩ (by kernel_rfl) ?_
 refine WL.nil ?_
 refine En.ret ?_
 refine En.seal (T := boolT) (l := l3) (e := 4) 3 rfl ?_
 exact En.back ht l3 h (by kernel_rfl) rfl
theorem ifp_no {b : Bool} {A B : Prop} (h : b = false) (hb : B) : IfP b A B := ⟨fun e => (by rw [h] at e; cases e), fun _ => hb⟩
theorem ifp_yes {b : Bool} {A B : Prop} (h : b = true) (ha : A) : IfP b A B := ⟨fun _ => ha, fun e => (by rw [h] at e; cases e)⟩
theorem onF_set {l : List Bool} {k : Nat} (hk : k < l.length) {v : Bool} {p : Int} (h0 : 0 ≤ p) : onF (l.set k v) p = if p = k then v else onF l p := by
 unfold onF
 rw [List.getD_eq_getElem?_getD, List.getD_eq_getElem?_getD, List.getElem?_set]
 by_cases h : p = k
 ·subst h
  rw [Int.toNat_natCast, if_pos rfl, if_pos hk, if_pos rfl]
  rfl
 ·rw [if_neg (by omega), if_neg h]
def FillI (n : Int) (f : Int → Bool) (i : Int) (l : List Bool) : Prop := ∃ m : Nat, i = m ∧ (m : Int) ≤ n ∧ l.length = n.toNat ∧ ∀ p : Int, 0 ≤ p → p < m → onF l p = f p
def FillM (n : Int) (i : Int) (_ : List Bool) : Nat := (n - i).toNat
section
variable {n i : Int} {f : Int → Bool} {l : List Bool}
theorem fill_0 (hn : 0 ≤ n) (hl : l.length = n.toNat) : FillI n f 0 l := ⟨0, rfl, hn, hl, fun p h0 h1 => by omega⟩
theorem fill_idx (h : FillI n f i l) (hb : i < n) : idx l i = some (onF l i) := by
 obtain ⟨m, rfl, _, hl, _⟩ := h
 exact idx_getF false (Int.natCast_nonneg _) (by omega)
theorem fill_row (h : FillI n f i l) (hb : i < n) {a : List Bool} (ha : a.length = n.toNat) : idx a i = some (onF a i) := by
 obtain ⟨m, rfl, _, _, _⟩ := h
 exact idx_getF false (Int.natCast_nonneg _) (by omega)
theorem fill_step (h : FillI n f i l) (hb : i < n) (hn : n ≤ 1000) {v : Bool} (hv : v = f i) : FillI n f (wr (i + 1)) (l.set i.toNat v) ∧ FillM n (wr (i + 1)) (l.set i.toNat v) < FillM n i l := by
 obtain ⟨m, rfl, hm, hl, hf⟩ := h
 rw [wr_in (by omega) (by omega), Int.toNat_natCast]
 refine ⟨⟨m + 1, by omega, by omega, by rw [List.length_set]; exact hl, fun p h0 h1 => ?_⟩, by unfold FillM; omega⟩
 rw [onF_set (by omega) h0]
 by_cases hp : p = m
 ·rw [if_pos hp, hv, hp]
 ·rw [if_neg hp]
  exact hf p h0 (by omega)
theorem fill_end (h : FillI n f i l) (hb : ¬ i < n) : l = eachF n f := by
 obtain ⟨m, rfl, hm, hl, hf⟩ := h
 refine rowF_ext hl (eachF_len _ _) fun p h0 h1 => ?_
 rw [onF_each h0 h1]
 exact hf p h0 (by omega)
end
theorem eachF_const (n : Int) (v : Bool) : eachF n (fun _ => v) = allF n v := rowF_ext (eachF_len _ _) (allF_len _ _) fun p h0 h1 => by rw [onF_each h0 h1, onF_all h0 h1]
def anyM (g : ApiGraph) (sg c : Int) (a : List Bool) (m : Nat) (p : Int) : Bool := (g.fArrows.take m).any fun x => x.fFrom == p && x.fLetter == c && onF a x.fTo == (sg == 60)
def wayM (g : ApiGraph) (sg c : Int) (a : List Bool) (m : Nat) (p : Int) : Bool := if sg = 60 then anyM g sg c a m p else !(anyM g sg c a m p)
def WayI (g : ApiGraph) (sg c : Int) (a : List Bool) (i : Int) (l : List Bool) : Prop := ∃ m : Nat, i = m ∧ m ≤ g.fArrows.length ∧ l.length = g.fPlaces.toNat ∧ ∀ p : Int, 0 ≤ p → p < g.fPlaces → onF l p = wayM g sg c a m p
section
variable {g : ApiGraph} {sg c i : Int} {a l : List Bool}
theorem anyM_step {m : Nat} {x : ApiArrow} (hx : g.fArrows[m]? = some x) (p : Int) : anyM g sg c a (m + 1) p = (anyM g sg c a m p || (x.fFrom == p && x.fLetter == c && onF a x.fTo == (sg == 60))) := by
 unfold anyM
 rw [List.take_add_one, hx, List.any_append]
 simp
theorem way_0 (hs : sg = 60 ∨ sg = 91) (hl : l = eachF g.fPlaces fun _ => sg == 91) : WayI g sg c a 0 l := ⟨0, rfl, Nat.zero_le _, by rw [hl]; exact eachF_len _ _, fun p h0 h1 => by
 rw [hl, onF_each h0 h1]
 unfold wayM anyM
 rcases hs with rfl | rfl <;> rfl⟩
theorem way_end (hs : sg = 60 ∨ sg = 91) (h : WayI g sg c a i l) (hb : ¬ i < g.fArrows.length) : l = wayF g sg c a := by
 obtain ⟨m, rfl, hm, hl, hf⟩ := h
 refine rowF_ext hl (eachF_len _ _) fun p h0 h1 => ?_
 unfold wayF
 rw [onF_each h0 h1, hf p h0 h1]
 unfold wayM anyM arrB
 rw [List.take_of_length_le (by omega)]
 rcases hs with rfl | rfl <;> rfl
theorem way_skip {m : Nat} (hm : g.fArrows.length ≤ 1000) (h : WayI g sg c a (m : Int) l) {x : ApiArrow} (hx : g.fArrows[m]? = some x) (hn : (x.fLetter == c && onF a x.fTo == (sg == 60)) = false) : WayI g sg c a (wr ((m : Int) + 1)) l := by
 obtain ⟨m', e, hm', hl, hf⟩ := h
 have e : m = m' := by omega
 subst e
 have hlt := (List.getElem?_eq_some_iff.1 hx).1
 rw [wr_in (by omega) (by omega)]
 refine ⟨m + 1, by omega, by omega, hl, fun p h0 h1 => ?_⟩
 rw [hf p h0 h1]
 unfold wayM
 rw [anyM_step hx, Bool.and_assoc, hn, Bool.and_false, Bool.or_false]
theorem way_set (hg : GraphOk g) (hs : sg = 60 ∨ sg = 91) {m : Nat} (h : WayI g sg c a (m : Int) l) {x : ApiArrow} (hx : g.fArrows[m]? = some x) (hn : (x.fLetter == c && onF a x.fTo == (sg == 60)) = true) : WayI g sg c a (wr ((m : Int) + 1)) (l.set x.fFrom.toNat (sg == 60)) := by
 obtain ⟨m', e, hm', hl, hf⟩ := h
 have e : m = m' := by omega
 subst e
 have hlt := (List.getElem?_eq_some_iff.1 hx).1
 have hr := (hg.arr x (List.mem_iff_getElem?.2 ⟨m, hx⟩)).1
 have := hg.len
 rw [wr_in (by omega) (by omega)]
 refine ⟨m + 1, by omega, by omega, by rw [List.length_set]; exact hl, fun p h0 h1 => ?_⟩
 rw [onF_set (by omega) h0]
 have e1 : anyM g sg c a (m + 1) p = (anyM g sg c a m p || (x.fFrom == p)) := by rw [anyM_step hx, Bool.and_assoc, hn, Bool.and_true]
 by_cases hp : p = x.fFrom
 ·rw [if_pos (by omega)]
  unfold wayM
  rw [e1, hp, beq_self_eq_true, Bool.or_true]
  rcases hs with rfl | rfl <;> rfl
 ·rw [if_neg (by omega), hf p h0 h1]
  unfold wayM
  rw [e1, show (x.fFrom == p) = false from beq_eq_false_iff_ne.2 (fun e => hp e.symm), Bool.or_false]
end
theorem ways_ok {g : ApiGraph} (h : GraphOk g) : ToOk g := fun x hx => (h.arr x hx).2.1
theorem fWhr_all (k : Nat) (nd : FTr) (gr : ApiGraph) (ss : List (List Bool)) (hp : PreW (k + 1) nd gr ss) : fWhr_vc k nd gr ss (fun r => r = semF gr (k + 1) nd ss) := by
 obtain ⟨hg, fl, hw, hS⟩ := hp
 have hpl := hg.pl
 have hal := hg.len
 have hz : (List.replicate gr.fPlaces.toNat false).length = gr.fPlaces.toNat := List.length_replicate
 obtain ⟨⟨sg, n⟩, kids⟩ := nd
 unfold fWhr_vc
 intro _ _
 refine ⟨⟨by omega, by omega, by omega⟩, fun l => l = semF gr (k + 1) (.node ⟨sg, n⟩ kids) ss, ?_, fun l h => h⟩
 rcases hw with ⟨h, _⟩ | ⟨h, _, j, h2, h3⟩ | ⟨h, x, e, hx⟩ | ⟨h, b, x, e, hx⟩ | ⟨h, b, b2, x, e, hx⟩ | ⟨h, x, y, e, hx, hy⟩
 ·rcases h with h | h
  ·have h : sg = 48 := h
   subst h
   exact ifp_no rfl (ifp_no rfl (ifp_no rfl ⟨fun b => b = false, ifp_no rfl rfl, fun b hb => ifp_no hb ⟨fun b => b = false, ifp_no rfl rfl, fun b hb => ifp_no hb ⟨fun b => b = false, ifp_no rfl rfl, fun b hb => ifp_no hb rfl⟩⟩⟩))
  ·have h : sg = 49 := h
   subst h
   exact ifp_yes rfl ⟨⟨rfl, by omega, by omega⟩, rfl⟩
 ·have h : sg = 88 := h
  subst h
  have h2 : n = j := h2
  subst h2
  have hj : j < ss.length := by
   rw [hS.1]
   exact (List.getElem?_eq_some_iff.1 h3).1
  exact ifp_no rfl (ifp_yes rfl ⟨_, idx_getF [] (Int.natCast_nonneg _) (by show (j : Int) < ss.length; omega), rfl⟩)
 ·have h : sg = 33 := h
  subst h e
  have hA := sem_len (g := gr) hx hS.not
  refine ifp_no rfl (ifp_no rfl (ifp_yes rfl ⟨⟨by decide, by show (0 : Int) < 1; decide, hg, _, hx, hS.not⟩, FillI gr.fPlaces (fun p => !(onF (semF gr k x ss) p)), FillM gr.fPlaces, fill_0 (by omega) hz, fun i l hI => ⟨fun hb => ?_, fun hb => ?_⟩⟩))
  ·have hb : i < ((semF gr k x ss).length : Int) := of_decide_eq_true hb
   have hlt : i < gr.fPlaces := by omega
   exact ⟨_, fill_row hI hlt hA, _, fill_idx hI hlt, fill_step hI hlt (by omega) rfl⟩
  ·have hb : ¬ i < ((semF gr k x ss).length : Int) := of_decide_eq_false hb
   exact (fill_end hI (by omega)).trans sem_not.symm
 ·have h : sg = 60 ∨ sg = 91 := h
  subst e
  have hA := sem_len (g := gr) hx hS
  have hz2 : ((List.replicate gr.fPlaces.toNat false).length : Int) = gr.fPlaces := by rw [hz]; omega
  have n49 : ((.node ⟨sg, n⟩ [x] : FTr).lab.fSign == 49) = false := by rcases h with rfl | rfl <;> rfl
  have n88 : ((.node ⟨sg, n⟩ [x] : FTr).lab.fSign == 88) = false := by rcases h with rfl | rfl <;> rfl
  have n33 : ((.node ⟨sg, n⟩ [x] : FTr).lab.fSign == 33) = false := by rcases h with rfl | rfl <;> rfl
  have n38 : ((.node ⟨sg, n⟩ [x] : FTr).lab.fSign == 38) = false := by rcases h with rfl | rfl <;> rfl
  have n124 : ((.node ⟨sg, n⟩ [x] : FTr).lab.fSign == 124) = false := by rcases h with rfl | rfl <;> rfl
  refine ifp_no n49 (ifp_no n88 (ifp_no n33 ⟨fun b => b = false, ifp_no n38 n124, fun b hb => ifp_no hb ⟨fun b => b = true, ⟨fun h => h, fun h60 => ?_⟩, fun b hb => ifp_yes hb ⟨⟨by decide, by show (0 : Int) < 1; decide, hg, _, hx, hS⟩, FillI gr.fPlaces (fun _ => sg == 91), FillM gr.fPlaces, fill_0 (by omega) hz, fun i l hI => ⟨fun hb => ?_, fun hb => ?_⟩⟩⟩⟩))
  ·rcases h with rfl | rfl
   ·cases h60
   ·rfl
  ·have hb := of_decide_eq_true hb
   have hlt : i < gr.fPlaces := by omega
   exact ⟨_, fill_idx hI hlt, fill_step hI hlt (by omega) rfl⟩
  ·have hb := of_decide_eq_false hb
   have hl := fill_end hI (by omega)
   refine ⟨WayI gr sg n (semF gr k x ss), fun i _ => (gr.fArrows.length - i).toNat, way_0 h hl, fun i l hI => ⟨fun hb => ?_, fun hb => ?_⟩⟩
   ·have hb := of_decide_eq_true hb
    have hI' := hI
    obtain ⟨m, rfl, _, hll, _⟩ := hI'
    obtain ⟨a, ha⟩ : ∃ a, gr.fArrows[m]? = some a := ⟨gr.fArrows[m], List.getElem?_eq_getElem (by omega)⟩
    have hidx : idx gr.fArrows (m : Int) = some a := by
     unfold idx
     rw [if_pos (Int.natCast_nonneg _), Int.toNat_natCast, ha]
    have hr := hg.arr a (List.mem_iff_getElem?.2 ⟨m, ha⟩)
    have hto : idx (semF gr k x ss) a.fTo = some (onF (semF gr k x ss) a.fTo) := idx_getF false hr.2.1.1 (by omega)
    have hfr : idx l a.fFrom = some (onF l a.fFrom) := idx_getF false hr.1.1 (by omega)
    have hmu : ((gr.fArrows.length : Int) - wr ((m : Int) + 1)).toNat < ((gr.fArrows.length : Int) - (m : Int)).toNat := by rw [wr_in (by omega) (by omega)]; omega
    refine ⟨fun l' => l' = if (a.fLetter == n && onF (semF gr k x ss) a.fTo == (sg == 60)) = true then l.set a.fFrom.toNat (sg == 60) else l, ⟨_, hidx, fun b => b = (a.fLetter == n && onF (semF gr k x ss) a.fTo == (sg == 60)), ⟨fun e => ⟨_, hto, ?_⟩, fun e => ?_⟩, fun b hb => ⟨fun e => ⟨_, hfr, ?_⟩, fun e => ?_⟩⟩, fun l' hl' => ?_⟩
    ·have e : (a.fLetter == n) = true := e
     rw [e, Bool.true_and]
     rfl
    ·have e : (a.fLetter == n) = false := e
     rw [e, Bool.false_and]
    ·rw [if_pos (by rw [← hb]; exact e)]
     rfl
    ·rw [if_neg (by rw [← hb, e]; decide)]
    ·subst hl'
     refine ⟨?_, hmu⟩
     by_cases hm : (a.fLetter == n && onF (semF gr k x ss) a.fTo == (sg == 60)) = true
     ·rw [if_pos hm]
      exact way_set hg h hI ha hm
     ·rw [if_neg hm]
      exact way_skip (by omega) hI ha (by simpa using hm)
   ·have hb := of_decide_eq_false hb
    exact (way_end h hI hb).trans (sem_way h).symm
 ·have h : sg = 109 ∨ sg = 110 := h
  subst e
  have hz2 : ((List.replicate gr.fPlaces.toNat false).length : Int) = gr.fPlaces := by rw [hz]; omega
  have n49 : ((.node ⟨sg, n⟩ [x] : FTr).lab.fSign == 49) = false := by rcases h with rfl | rfl <;> rfl
  have n88 : ((.node ⟨sg, n⟩ [x] : FTr).lab.fSign == 88) = false := by rcases h with rfl | rfl <;> rfl
  have n33 : ((.node ⟨sg, n⟩ [x] : FTr).lab.fSign == 33) = false := by rcases h with rfl | rfl <;> rfl
  have n38 : ((.node ⟨sg, n⟩ [x] : FTr).lab.fSign == 38) = false := by rcases h with rfl | rfl <;> rfl
  have n124 : ((.node ⟨sg, n⟩ [x] : FTr).lab.fSign == 124) = false := by rcases h with rfl | rfl <;> rfl
  have n60 : ((.node ⟨sg, n⟩ [x] : FTr).lab.fSign == 60) = false := by rcases h with rfl | rfl <;> rfl
  have n91 : ((.node ⟨sg, n⟩ [x] : FTr).lab.fSign == 91) = false := by rcases h with rfl | rfl <;> rfl
  refine ifp_no n49 (ifp_no n88 (ifp_no n33 ⟨fun b => b = false, ifp_no n38 n124, fun b hb => ifp_no hb ⟨fun b => b = false, ifp_no n60 n91, fun b hb => ifp_no hb ⟨fun b => b = true, ⟨fun h => h, fun h60 => ?_⟩, fun b hb => ifp_yes hb ⟨FillI gr.fPlaces (fun _ => sg == 110), FillM gr.fPlaces, fill_0 (by omega) hz, fun i l hI => ⟨fun hb => ?_, fun hb => ?_⟩⟩⟩⟩⟩))
  ·rcases h with rfl | rfl
   ·cases h60
   ·rfl
  ·have hb := of_decide_eq_true hb
   have hlt : i < gr.fPlaces := by omega
   exact ⟨_, fill_idx hI hlt, fill_step hI hlt (by omega) rfl⟩
  ·have hb := of_decide_eq_false hb
   have hl := (fill_end hI (by omega)).trans (eachF_const _ _)
   obtain ⟨v, hv⟩ : ∃ v : Bool, v = !(sg == 110) := ⟨_, rfl⟩
   have hl : l = allF gr.fPlaces (!v) := by rw [hl, hv, Bool.not_not]
   have hfl : ∀ o : List Bool, o.length = gr.fPlaces.toNat → (semF gr k x (ss ++ [o])).length = gr.fPlaces.toNat := fun o ho => sem_len hx (hS.add ho false)
   have hfm : ∀ a b : List Bool, a.length = gr.fPlaces.toNat → b.length = gr.fPlaces.toNat → leV gr.fPlaces v a b → leV gr.fPlaces v (semF gr k x (ss ++ [a])) (semF gr k x (ss ++ [b])) := fun a b ha hb h => lp_mono (ways_ok hg) hx hS v ha hb h
   refine ⟨fun o => ∃ m, o = itF (fun o => semF gr k x (ss ++ [o])) m (allF gr.fPlaces (!v)), fun o => gr.fPlaces.toNat - o.count v, ⟨0, hl⟩, ?_⟩
   rintro _ ⟨m, rfl⟩
   have hlm := itF_len hfl (allF_len gr.fPlaces (!v)) m
   refine ⟨x, rfl, by unfold capOk; simp only [List.length_singleton]; have h1 := hS.1; omega, ⟨hg, _, hx, hS.add hlm false⟩, fun hd => ?_, fun hd => ⟨⟨m + 1, rfl⟩, ?_⟩⟩
   ·have hd : semF gr k x (ss ++ [itF (fun o => semF gr k x (ss ++ [o])) m (allF gr.fPlaces (!v))]) = itF (fun o => semF gr k x (ss ++ [o])) m (allF gr.fPlaces (!v)) := of_decide_eq_true hd
    show _ = semF gr (k + 1) (fn sg n [x]) ss
    rw [sem_lp h, ← itF_any hfl hfm hd]
    congr 2
    rw [hv, Bool.not_not]
    rfl
   ·have hd := of_decide_eq_false hd
    have hup := leV_cnt hlm (itF_len hfl (allF_len gr.fPlaces (!v)) (m + 1)) (itF_up hfl hfm m) (fun e => hd e.symm)
    have hle : (itF (fun o => semF gr k x (ss ++ [o])) (m + 1) (allF gr.fPlaces (!v))).count v ≤ _ := List.count_le_length
    rw [itF_len hfl (allF_len gr.fPlaces (!v)) (m + 1)] at hle
    show gr.fPlaces.toNat - (itF (fun o => semF gr k x (ss ++ [o])) (m + 1) (allF gr.fPlaces (!v))).count v < gr.fPlaces.toNat - (itF (fun o => semF gr k x (ss ++ [o])) m (allF gr.fPlaces (!v))).count v
    omega
 ·have h : sg = 38 ∨ sg = 124 := h
  subst e
  have hA := sem_len (g := gr) hx hS
  have hB := sem_len (g := gr) hy hS
  have hz2 : ((List.replicate gr.fPlaces.toNat false).length : Int) = gr.fPlaces := by rw [hz]; omega
  have n49 : ((.node ⟨sg, n⟩ [x, y] : FTr).lab.fSign == 49) = false := by rcases h with rfl | rfl <;> rfl
  have n88 : ((.node ⟨sg, n⟩ [x, y] : FTr).lab.fSign == 88) = false := by rcases h with rfl | rfl <;> rfl
  have n33 : ((.node ⟨sg, n⟩ [x, y] : FTr).lab.fSign == 33) = false := by rcases h with rfl | rfl <;> rfl
  refine ifp_no n49 (ifp_no n88 (ifp_no n33 ⟨fun b => b = true, ⟨fun h => h, fun h60 => ?_⟩, fun b hb => ifp_yes hb ⟨⟨by decide, by show (0 : Int) < 2; decide, hg, _, hx, hS⟩, ⟨by decide, by show (1 : Int) < 2; decide, hg, _, hy, hS⟩, FillI gr.fPlaces (fun p => if sg = 38 then onF (semF gr k x ss) p && onF (semF gr k y ss) p else onF (semF gr k x ss) p || onF (semF gr k y ss) p), FillM gr.fPlaces, fill_0 (by omega) hz, fun i l hI => ⟨fun hb => ?_, fun hb => ?_⟩⟩⟩))
  ·rcases h with rfl | rfl
   ·cases h60
   ·rfl
  ·have hb := of_decide_eq_true hb
   have hlt : i < gr.fPlaces := by omega
   have eA := fill_row hI hlt hA
   have eB := fill_row hI hlt hB
   have eL := fill_idx hI hlt
   refine ⟨fun l' => l' = l.set i.toNat (if sg = 38 then onF (semF gr k x ss) i && onF (semF gr k y ss) i else onF (semF gr k x ss) i || onF (semF gr k y ss) i), ⟨_, eA, fun h1 => ⟨_, eB, fun h2 => ⟨_, eL, ?_⟩, fun h2 => ⟨fun h3 => ⟨_, eA, fun _ => ⟨_, eL, ?_⟩, fun h5 => ?_⟩, fun h3 => ⟨_, eL, ?_⟩⟩⟩, fun h1 => ⟨fun h3 => ⟨_, eA, fun h4 => ?_, fun _ => ⟨_, eB, _, eL, ?_⟩⟩, fun h3 => ⟨_, eL, ?_⟩⟩⟩, fun l' hl' => ?_⟩
   ·rw [h1, h2]
    congr 1
    split <;> rfl
   ·have h3 : sg = 124 := eq_of_beq h3
    rw [if_neg (by omega), h1]
    rfl
   ·rw [h1] at h5
    cases h5
   ·have h3 : ¬ sg = 124 := beq_eq_false_iff_ne.1 h3
    rw [if_pos (by omega), h1, h2]
    rfl
   ·rw [h1] at h4
    cases h4
   ·have h3 : sg = 124 := eq_of_beq h3
    rw [if_neg (by omega), h1]
    rfl
   ·have h3 : ¬ sg = 124 := beq_eq_false_iff_ne.1 h3
    rw [if_pos (by omega), h1]
    rfl
   ·subst hl'
    exact fill_step hI hlt (by omega) rfl
  ·have hb := of_decide_eq_false hb
   refine (fill_end hI (by omega)).trans ?_
   rcases h with rfl | rfl
   ·exact sem_and.symm
   ·exact sem_or.symm
theorem fWhere_all : ∀ k, WhF k
 | 0 => fun nd gr ss hp => by
  obtain ⟨_, _, h, _⟩ := hp
  exact h.elim
 | k + 1 => fun nd gr ss hp => (fWhr_walk k nd gr ss (fWhere_all k) _ (fWhr_all k nd gr ss hp)).fun
def fHolds_vc (g : ApiGraph) (text : ByteArray) (Q : ((List Bool) × Int) → Prop) : Prop :=
 g.fArrows.length ≤ 9223372036854775807 →
 (IfP ((samErr g) != 0) (Q ([], (samErr g))) (∀ r : (Option FTr × ApiFault), (ParsedF text) r →
 (IfP (r.2.fCode != 0) (Q ([], 4)) (∃ t, r.1 = some t ∧
 (PreW 30 t g ([] : (List (List Bool)))) ∧
 ((semF g 30 t ([] : (List (List Bool)))).length * 1 ≤ 140737488355328) ∧
 Q (((semF g 30 t ([] : (List (List Bool))))), 0)))))
theorem fHolds_walk (g : ApiGraph) (text : ByteArray) (Q : ((List Bool) × Int) → Prop) (h : fHolds_vc g text Q) : Ct 14 [.sv (.agg [I g.fLetters, I g.fPlaces, LS ApiArrow.ty g.fArrows]), .sv (.one (.v (.string text)))] [] Q (fun (r : ((List Bool) × Int)) => .tup [.one (LS boolT r.1), .one (I r.2)]) := by
 have ht := tab_ok
 refine Ct.body Try.func14 rfl rfl rfl rfl (fun c hn => ?_)
 unfold fHolds_vc at h
 refine En.lenA 0 2 (by rfl) (by rfl) (fun hl => ?_)
 replace h := h hl
 clear hl
 refine En.seq ?_
 refine En.region ?_
 refine WL.run ht hn 3 ⟨[sl 1 (.v (.string text)), sl 2 (.ptr 0 0)], [.box (ApiGraph.cl g) 24 false]⟩ (by kernel_rfl) ?_
 refine WL.nil ?_
 refine En.seq ?_
 refine En.seq ?_
 refine En.region ?_
 refine WL.run ht hn 1 ⟨[sl 1 (.v (.string text)), sl 2 (.ptr 0 0), (9, .sv (.agg (ApiGraph.cl g)))], [.box (ApiGraph.cl g) 24 false]⟩ (by kernel_rfl) ?_
 refine WL.mt0 (K := []) (p := none) hn (by rfl) (mt_call (samCheck_ct g) en20 (caps := []) [] rfl (by rfl) (by kernel_rfl) (by kernel_rfl) (by rfl) (by rfl) (by rfl)) (by rfl) (by rfl) (by rfl) ?_
 refine WL.run ht hn 1 ⟨[sl 1 (.v (.string text)), sl 2 (.ptr 0 0), sl 6 (I (samErr g))], [.box (ApiGraph.cl g) 24 false]⟩ (by kernel_rfl) ?_
 refine WL.nil ?_
 refine En.seq ?_
 refine En.region ?_
 refine WL.run ht hn 2 ⟨[sl 1 (.v (.string text)), sl 2 (.ptr 0 0), sl 6 (I (samErr g)), sl 12 (B ((samErr g) != 0))], [.box (ApiGraph.cl g) 24 false]⟩ (by kernel_rfl) ?_
 refine WL.nil ?_
 refine En.cond (b := ((samErr g) != 0)) (by kernel_rfl) (fun hb => ?_) (fun hb => ?_)
 replace h := h.1 hb
 refine En.seq ?_
 refine En.region ?_
 refine WL.run ht hn 3 ⟨[sl 4 (.v (.slice none 0 0)), sl 5 (I (samErr g))], [.gone]⟩ (by kernel_rfl) ?_
 refine WL.nil ?_
 refine En.ret ?_
 refine En.nilLS 4 boolT (by rfl) ?_
 exact En.back ht ([], (samErr g)) h (by kernel_rfl) rfl
 replace h := h.2 hb
 refine En.skip ?_
 refine En.seq ?_
 refine En.region ?_
 refine WL.run ht hn 1 ⟨[sl 2 (.ptr 0 0), sl 15 (.v (.string text))], [.box (ApiGraph.cl g) 24 false]⟩ (by kernel_rfl) ?_
 refine WL.mtQ (Q := ParsedF text) (x := fun (r : (Option FTr × ApiFault)) => .tup [.one (.rd (optR fLab r.1)), .agg (ApiFault.cl r.2)]) (p := fun _ => none) hn (by rfl) (mtq_call (fParse_ct text) en32 (caps := []) [] rfl (by rfl) (by kernel_rfl) (by kernel_rfl) (by rfl) (fun _ => rfl) (by rfl)) (fun r hr_2 => ⟨by rfl, _, by rfl, ?_⟩)
 replace h := h r hr_2
 refine WL.run ht hn 6 ⟨[sl 2 (.ptr 0 0), sl 7 (.rd (optR fLab r.1)), sl 8 (.ptr 1 0)], [.box (ApiGraph.cl g) 24 false, .box (ApiFault.cl r.2) 32 false]⟩ (by kernel_rfl) ?_
 refine WL.nil ?_
 refine En.seq ?_
 refine En.seq ?_
 refine En.region ?_
 refine WL.run ht hn 3 ⟨[sl 2 (.ptr 0 0), sl 7 (.rd (optR fLab r.1)), sl 21 (B (r.2.fCode != 0))], [.box (ApiGraph.cl g) 24 false, .gone]⟩ (by kernel_rfl) ?_
 refine WL.nil ?_
 refine En.cond (b := (r.2.fCode != 0)) (by kernel_rfl) (fun hb => ?_) (fun hb => ?_)
 replace h := h.1 hb
 refine En.seq ?_
 refine En.region ?_
 refine WL.run ht hn 2 ⟨[sl 4 (.v (.slice none 0 0)), sl 5 (I 4)], [.gone, .gone]⟩ (by kernel_rfl) ?_
 refine WL.nil ?_
 refine En.ret ?_
 refine En.nilLS 4 boolT (by rfl) ?_
 exact En.back ht ([], 4) h (by kernel_rfl) rfl
 replace h := h.2 hb
 refine En.skip ?_
 refine En.seq ?_
 refine En.region ?_
 refine WL.run ht hn 2 ⟨[sl 22 (.rd (optR fLab r.1)), (23, .sv (.agg (ApiGraph.cl g)))], [.gone, .gone]⟩ (by kernel_rfl) ?_
 obtain ⟨t, ht_2, h⟩ := h
 refine WL.ghost 22 (o1 (.rd (trR fLab t))) (by rfl) (some_of ht_2) ?_
 have hp := h.1
 replace h := h.2
 refine WL.mt0 (K := []) (p := none) hn (by rfl) (mt_call (Ct.args (fWhere_all 30 t g ([] : (List (List Bool))) hp) (argLe_same (argLe_same (argLe_to (nil_LS (T := (lsT boolT))) argLe_nil)))) en34 (caps := []) [] rfl (by rfl) (by kernel_rfl) (by kernel_rfl) (by rfl) (by rfl) (by rfl)) (by rfl) (by rfl) (by rfl) ?_
 have hp := h.1
 replace h := h.2
 refine WL.mt0 (K := []) (p := some (2, rowI 4 boolT ((semF g 30 t ([] : (List (List Bool))))))) hn (by rfl) (mt_callI 2 (cloneBool_ct (semF g 30 t ([] : (List (List Bool)))) hp) en33 (caps := []) [] rfl rfl (by rfl) (by kernel_rfl) (by kernel_rfl) (by rfl) (by rfl)) (by rfl) (by rfl) (by rfl) ?_
 refine WL.run ht hn 2 ⟨[sl 4 (.own 2), sl 5 (I 0)], [.gone, .gone, rowI 4 boolT ((semF g 30 t ([] : (List (List Bool)))))]⟩ (by kernel_rfl) ?_
 refine WL.nil ?_
 refine En.ret ?_
 refine En.seal (T := boolT) (l := ((semF g 30 t ([] : (List (List Bool)))))) (e := 4) 2 rfl ?_
 exact En.back ht (((semF g 30 t ([] : (List (List Bool))))), 0) h (by kernel_rfl) rfl
theorem en14 : ∀ args w, (callFunc 14 args).run Try.prog w = .ok (.enter 14 args) w := enters_of Try.func14 (by kernel_rfl) rfl
def HoldsF (g : ApiGraph) (text : ByteArray) : List Bool × Int := if samErr g ≠ 0 then ([], samErr g) else match fullF text with
 | none => ([], 4)
 | some t => (semF g 30 t [], 0)
theorem fHolds_ct (g : ApiGraph) (text : ByteArray)  : Ct 14 [.sv (.agg [I g.fLetters, I g.fPlaces, LS ApiArrow.ty g.fArrows]), .sv (.one (.v (.string text)))] [] (fun (_ : Unit) => True) (fun _ => .tup [.one (LS boolT (HoldsF g text).1), .one (I (HoldsF g text).2)]) := by
 refine (fHolds_walk g text (fun res_ => res_ = (HoldsF g text)) ?_).fun
 unfold fHolds_vc
 intro _
 refine ⟨fun h => ?_, fun h => fun r hr => ?_⟩
 ·show _ = HoldsF g text
  unfold HoldsF
  rw [if_pos (bne_iff_ne.1 h)]
 rw [bne_eq_false_iff_eq] at h
 have hg := samErr_ok h
 have e0 : HoldsF g text = match fullF text with | none => ([], 4) | some t => (semF g 30 t [], 0) := by
  unfold HoldsF
  rw [if_neg (fun hh => hh h)]
 rw [e0]
 rcases hr with ⟨_, h1, h2⟩ | ⟨t, h1, rfl⟩
 ·refine ⟨fun _ => by rw [h2], fun e => absurd ?_ h1⟩
  rwa [bne_eq_false_iff_eq] at e
 ·have hw := (fullF_some h1).2.1
  have hS : SOk g [] [] := ⟨rfl, fun s hs => by cases hs⟩
  refine ⟨fun e => (by cases e), fun _ => ⟨t, rfl, ⟨hg, [], hw, hS⟩, ?_, by rw [h1]⟩⟩
  rw [sem_len hw hS]
  have := hg.pl
  omega
end Go.Proofs.Ytiejmeedkhkfgaa


namespace Go.Proofs.Ytiejmeedkhkfgaa
set_option linter.unusedSimpArgs false
set_option linter.unusedVariables false
set_option maxRecDepth 100000
theorem bindF_mono {α β : Type} {x y : Option α} {f g : α → Option β} {r : β} (hx : ∀ a, x = some a → y = some a) (hf : ∀ a r, f a = some r → g a = some r) (e : x.bind f = some r) : y.bind g = some r := by
 obtain ⟨a, z, e⟩ := Option.bind_eq_some_iff.1 e
 rw [hx a z]
 exact hf a r e
def LeF (f g : FQ) : Prop := ∀ ar p r, f ar p = some r → g ar p = some r
theorem lopQFL_mono {c : ByteArray} {ch : Int} {f g : Int → Option (FTr × Int)} (hfg : ∀ p r, f p = some r → g p = some r) : ∀ (m : Nat) (t : FTr) (p : Int) (r : FTr × Int), lopQFL ch f c m t p = some r → lopQFL ch g c m t p = some r
 | 0, _, _, _, e => by simp [lopQFL] at e
 | m + 1, t, p, r, e => by
  rw [lopQFL] at e ⊢
  by_cases hc : fch c p = ch
  ·rw [if_pos hc] at e ⊢
   exact bindF_mono (hfg _) (fun _ _ e => lopQFL_mono hfg m _ _ _ e) e
  ·rw [if_neg hc] at e ⊢
   exact e
theorem lopQF_mono {c : ByteArray} {ch : Int} {f g : Int → Option (FTr × Int)} (hfg : ∀ p r, f p = some r → g p = some r) (p : Int) (r : FTr × Int) (e : lopQF ch f c p = some r) : lopQF ch g c p = some r := bindF_mono (hfg p) (fun _ _ e => lopQFL_mono hfg _ _ _ _ e) e
theorem arrQ_mono {c : ByteArray} {f g : FQ} (h : LeF f g) {ar : Nms} {ch p : Int} {r : FTr × Int} (e : arrQ f c ar ch p = some r) : arrQ g c ar ch p = some r := by
 unfold arrQ at e ⊢
 by_cases h1 : (97 ≤ fch c (p + 1) ∧ fch c (p + 1) ≤ 100) ∧ fch c (p + 1 + 1) = (if ch = 60 then 62 else 93)
 ·rw [if_pos h1] at e ⊢
  exact bindF_mono (h _ _) (fun _ _ h => h) e
 ·rw [if_neg h1] at e
  cases e
theorem lpQ_mono {c : ByteArray} {f g : FQ} (h : LeF f g) {ar : Nms} {ch p : Int} {r : FTr × Int} (e : lpQ f c ar ch p = some r) : lpQ g c ar ch p = some r := by
 unfold lpQ at e ⊢
 split at e
 ·rename_i h1
  rw [if_pos h1]
  exact bindF_mono (h _ _) (fun _ _ h => h) e
 ·cases e
theorem parQF_mono {c : ByteArray} {f g f3 g3 : FQ} (h : LeF f g) (h3 : LeF f3 g3) : LeF (parQF f f3 c) (parQF g g3 c) := fun ar p r e => by
 unfold parQF at e ⊢
 by_cases c1 : fch c p = 48 ∨ fch c p = 49
 ·rw [if_pos c1] at e ⊢
  exact e
 rw [if_neg c1] at e ⊢
 by_cases c2 : fch c p = 33
 ·rw [if_pos c2] at e ⊢
  exact bindF_mono (h _ _) (fun _ _ h => h) e
 rw [if_neg c2] at e ⊢
 by_cases c3 : fch c p = 60 ∨ fch c p = 91
 ·rw [if_pos c3] at e ⊢
  exact arrQ_mono h e
 rw [if_neg c3] at e ⊢
 by_cases c4 : fch c p = 109 ∨ fch c p = 110
 ·rw [if_pos c4] at e ⊢
  exact lpQ_mono h e
 rw [if_neg c4] at e ⊢
 by_cases c5 : 88 ≤ fch c p ∧ fch c p ≤ 90
 ·rw [if_pos c5] at e ⊢
  exact e
 rw [if_neg c5] at e ⊢
 by_cases c6 : fch c p = 40
 ·rw [if_pos c6] at e ⊢
  exact bindF_mono (h3 _ _) (fun _ _ h => h) e
 rw [if_neg c6] at e
 cases e
theorem qF_mono1 {c : ByteArray} : ∀ (k kd : Nat), LeF (qF c k kd) (qF c (k + 1) kd)
 | 0, _ => fun ar p r e => by simp [qF] at e
 | k + 1, 0 => parQF_mono (qF_mono1 k 0) (qF_mono1 k 2)
 | k + 1, 1 => fun ar p r e => lopQF_mono (fun p r => qF_mono1 k 0 ar p r) p r e
 | k + 1, 2 => fun ar p r e => lopQF_mono (fun p r => qF_mono1 k 1 ar p r) p r e
 | k + 1, n + 3 => fun ar p r e => lopQF_mono (fun p r => qF_mono1 k 1 ar p r) p r e
theorem qF_mono {c : ByteArray} {k kd : Nat} {ar : Nms} {p : Int} {r : FTr × Int} (e : qF c k kd ar p = some r) : ∀ {k'}, k ≤ k' → qF c k' kd ar p = some r
 | 0, h => by
  have : k = 0 := by omega
  subst this
  exact e
 | k' + 1, h => by
  by_cases hk : k = k' + 1
  ·subst hk
   exact e
  ·exact qF_mono1 k' kd ar p r (qF_mono e (by omega))
theorem qF_one {c : ByteArray} {k k' kd : Nat} {ar : Nms} {p : Int} {r r' : FTr × Int} (e : qF c k kd ar p = some r) (e' : qF c k' kd ar p = some r') : r = r' := by
 have h := qF_mono e (Nat.le_max_left k k')
 rw [qF_mono e' (Nat.le_max_right k k')] at h
 cases h
 rfl
structure InF (s c : ByteArray) (o : Int) : Prop where
 o0 : 0 ≤ o
 at_ : ∀ p : Int, 0 ≤ p → p < s.size → fch c (o + p) = fch s p
 close : fch c (o + s.size) = 41
section
variable {s c : ByteArray} {o : Int}
theorem InF.ch (h : InF s c o) {p x : Int} (h0 : 0 ≤ p) (h1 : p ≤ s.size) (hx : x ≠ 41) (hz : x ≠ 0) : fch c (o + p) = x ↔ fch s p = x := by
 by_cases hp : p < s.size
 ·rw [h.at_ p h0 hp]
 ·have : p = s.size := by omega
  subst this
  rw [h.close, fch_end (Int.le_refl _)]
  omega
def ExF (s : ByteArray) (o : Int) (f g : FQ) : Prop := ∀ (ar : Nms) (p : Int) (r : FTr × Int), 0 ≤ p → p ≤ s.size → f ar p = some r → (p < r.2 ∧ r.2 ≤ s.size) ∧ g ar (o + p) = some (r.1, o + r.2)
theorem arrQ_ext (h : InF s c o) {f g : FQ} (he : ExF s o f g) {ar : Nms} {ch p : Int} {r : FTr × Int} (h0 : 0 ≤ p) (e : arrQ f s ar ch p = some r) : (p < r.2 ∧ r.2 ≤ s.size) ∧ arrQ g c ar ch (o + p) = some (r.1, o + r.2) := by
 unfold arrQ at e ⊢
 by_cases h1 : (97 ≤ fch s (p + 1) ∧ fch s (p + 1) ≤ 100) ∧ fch s (p + 1 + 1) = (if ch = 60 then 62 else 93)
 ·rw [if_pos h1] at e
  have l1 := fch_lt (text := s) (p := p + 1) (by omega)
  have l2 := fch_lt (text := s) (p := p + 1 + 1) (by rw [h1.2]; split <;> decide)
  obtain ⟨x, z, e⟩ := Option.bind_eq_some_iff.1 e
  cases e
  obtain ⟨⟨k1, k2⟩, k3⟩ := he ar (p + 1 + 1 + 1) x (by omega) (by omega) z
  rw [show o + p + 1 = o + (p + 1) by omega, h.at_ (p + 1) (by omega) l1, show o + (p + 1) + 1 = o + (p + 1 + 1) by omega, h.at_ (p + 1 + 1) (by omega) l2, if_pos h1, show o + (p + 1 + 1) + 1 = o + (p + 1 + 1 + 1) by omega, k3]
  exact ⟨⟨by show p < x.2; omega, k2⟩, rfl⟩
 ·rw [if_neg h1] at e
  cases e
theorem lpQ_ext (h : InF s c o) {f g : FQ} (he : ExF s o f g) {ar : Nms} {ch p : Int} {r : FTr × Int} (h0 : 0 ≤ p) (e : lpQ f s ar ch p = some r) : (p < r.2 ∧ r.2 ≤ s.size) ∧ lpQ g c ar ch (o + p) = some (r.1, o + r.2) := by
 unfold lpQ at e ⊢
 split at e
 ·rename_i h1
  have l1 := fch_lt (text := s) (p := p + 1) (by omega)
  have l2 := fch_lt (text := s) (p := p + 1 + 1) (by rw [h1.2]; decide)
  obtain ⟨x, z, e⟩ := Option.bind_eq_some_iff.1 e
  cases e
  obtain ⟨⟨k1, k2⟩, k3⟩ := he _ (p + 1 + 1 + 1) x (by omega) (by omega) z
  rw [show o + p + 1 = o + (p + 1) by omega, h.at_ (p + 1) (by omega) l1, show o + (p + 1) + 1 = o + (p + 1 + 1) by omega, h.at_ (p + 1 + 1) (by omega) l2, if_pos h1, show o + (p + 1 + 1) + 1 = o + (p + 1 + 1 + 1) by omega, k3]
  exact ⟨⟨by show p < x.2; omega, k2⟩, rfl⟩
 ·cases e
theorem parQF_ext (h : InF s c o) {f g f3 g3 : FQ} (he : ExF s o f g) (he3 : ExF s o f3 g3) : ExF s o (parQF f f3 s) (parQF g g3 c) := fun ar p r h0 h1 e => by
 have hlt : p < s.size := by
  refine Decidable.byContradiction fun hn => ?_
  have hz := fch_end (text := s) (i := p) (by omega)
  unfold parQF at e
  rw [hz] at e
  simp at e
 have hch := h.at_ p h0 hlt
 unfold parQF at e ⊢
 rw [hch]
 by_cases c1 : fch s p = 48 ∨ fch s p = 49
 ·rw [if_pos c1] at e ⊢
  cases e
  exact ⟨⟨by show p < p + 1; omega, by show p + 1 ≤ (s.size : Int); omega⟩, by rw [show o + p + 1 = o + (p + 1) by omega]⟩
 rw [if_neg c1] at e ⊢
 by_cases c2 : fch s p = 33
 ·rw [if_pos c2] at e ⊢
  obtain ⟨x, z, e⟩ := Option.bind_eq_some_iff.1 e
  cases e
  obtain ⟨⟨k1, k2⟩, k3⟩ := he _ (p + 1) x (by omega) (by omega) z
  rw [show o + p + 1 = o + (p + 1) by omega, k3]
  exact ⟨⟨by show p < x.2; omega, k2⟩, rfl⟩
 rw [if_neg c2] at e ⊢
 by_cases c3 : fch s p = 60 ∨ fch s p = 91
 ·rw [if_pos c3] at e ⊢
  exact arrQ_ext h he h0 e
 rw [if_neg c3] at e ⊢
 by_cases c4 : fch s p = 109 ∨ fch s p = 110
 ·rw [if_pos c4] at e ⊢
  exact lpQ_ext h he h0 e
 rw [if_neg c4] at e ⊢
 by_cases c5 : 88 ≤ fch s p ∧ fch s p ≤ 90
 ·rw [if_pos c5] at e ⊢
  obtain ⟨j, z, e⟩ := Option.bind_eq_some_iff.1 e
  cases e
  rw [z]
  refine ⟨⟨by show p < p + 1; omega, by show p + 1 ≤ (s.size : Int); omega⟩, ?_⟩
  show some (fn 88 j [], o + p + 1) = _
  rw [show o + p + 1 = o + (p + 1) by omega]
 rw [if_neg c5] at e ⊢
 by_cases c6 : fch s p = 40
 ·rw [if_pos c6] at e ⊢
  obtain ⟨x, z, e⟩ := Option.bind_eq_some_iff.1 e
  obtain ⟨⟨k1, k2⟩, k3⟩ := he3 ar (p + 1) x (by omega) (by omega) z
  split at e
  ·rename_i hc
   have hl := fch_lt (text := s) (p := x.2) (by omega)
   cases e
   rw [show o + p + 1 = o + (p + 1) by omega, k3]
   refine ⟨⟨by show p < x.2 + 1; omega, by show x.2 + 1 ≤ (s.size : Int); omega⟩, ?_⟩
   show (if fch c (o + x.2) = 41 then some (x.1, o + x.2 + 1) else none) = _
   rw [if_pos (by rw [h.at_ x.2 (by omega) hl]; exact hc)]
   show some (x.1, o + x.2 + 1) = some (x.1, o + (x.2 + 1))
   rw [show o + x.2 + 1 = o + (x.2 + 1) by omega]
  ·cases e
 rw [if_neg c6] at e
 cases e
theorem lopQFL_ext (h : InF s c o) {ch : Int} (hc1 : ch ≠ 41) (hc0 : ch ≠ 0) {f g : FQ} (he : ExF s o f g) {ar : Nms} : ∀ (m m' : Nat) (t : FTr) (p : Int) (r : FTr × Int), m ≤ m' → 0 ≤ p → p ≤ s.size → lopQFL ch (f ar) s m t p = some r → (p ≤ r.2 ∧ r.2 ≤ s.size) ∧ lopQFL ch (g ar) c m' t (o + p) = some (r.1, o + r.2)
 | 0, _, _, _, _, _, _, _, e => by simp [lopQFL] at e
 | m + 1, 0, _, _, _, hm, _, _, _ => by omega
 | m + 1, m' + 1, t, p, r, hm, h0, h1, e => by
  rw [lopQFL] at e ⊢
  by_cases hc : fch s p = ch
  ·rw [if_pos hc] at e
   rw [if_pos ((h.ch h0 h1 hc1 hc0).2 hc)]
   have hl := fch_lt (text := s) (p := p) (by omega)
   obtain ⟨x, z, e⟩ := Option.bind_eq_some_iff.1 e
   obtain ⟨⟨k1, k2⟩, k3⟩ := he ar (p + 1) x (by omega) (by omega) z
   obtain ⟨⟨j1, j2⟩, j3⟩ := lopQFL_ext h hc1 hc0 he m m' _ x.2 r (by omega) (by omega) k2 e
   rw [show o + p + 1 = o + (p + 1) by omega, k3]
   exact ⟨⟨by omega, j2⟩, j3⟩
  ·rw [if_neg hc] at e
   rw [if_neg fun e => hc ((h.ch h0 h1 hc1 hc0).1 e)]
   cases e
   exact ⟨⟨Int.le_refl _, h1⟩, rfl⟩
theorem lopQF_ext (h : InF s c o) (hsz : s.size ≤ c.size) {ch : Int} (hc1 : ch ≠ 41) (hc0 : ch ≠ 0) {f g : FQ} (he : ExF s o f g) : ExF s o (fun ar p => lopQF ch (f ar) s p) (fun ar p => lopQF ch (g ar) c p) := fun ar p r h0 h1 e => by
 obtain ⟨x, z, e⟩ := Option.bind_eq_some_iff.1 e
 obtain ⟨⟨k1, k2⟩, k3⟩ := he ar p x h0 h1 z
 obtain ⟨⟨j1, j2⟩, j3⟩ := lopQFL_ext h hc1 hc0 he (s.size + 1) (c.size + 1) x.1 x.2 r (by omega) (by omega) k2 e
 refine ⟨⟨by omega, j2⟩, ?_⟩
 show lopQF ch (g ar) c (o + p) = _
 unfold lopQF
 rw [k3]
 exact j3
theorem qF_ext (h : InF s c o) (hsz : s.size ≤ c.size) : ∀ k kd, ExF s o (qF s k kd) (qF c k kd)
 | 0, _ => fun ar p r _ _ e => by simp [qF] at e
 | k + 1, 0 => parQF_ext h (qF_ext h hsz k 0) (qF_ext h hsz k 2)
 | k + 1, 1 => lopQF_ext h hsz (by decide) (by decide) (qF_ext h hsz k 0)
 | k + 1, 2 => lopQF_ext h hsz (by decide) (by decide) (qF_ext h hsz k 1)
 | k + 1, n + 3 => lopQF_ext h hsz (by decide) (by decide) (qF_ext h hsz k 1)
theorem rf_in {K : Nat} {S : FTr} {ar : Nms} {p q : Int} (h : InF s c o) (hsz : s.size ≤ c.size) (hs : qF s K 2 ar 0 = some (S, (s.size : Int))) (h1 : fch c p = 40) (hp : p + 1 = o) (hq : q = o + s.size + 1) : qF c (K + 1) 0 ar p = some (S, q) := by
 subst hp
 subst hq
 have := (qF_ext h hsz K 2 ar 0 _ (Int.le_refl _) (Int.natCast_nonneg _) hs).2
 rw [Int.add_zero] at this
 show parQF (qF c K 0) (qF c K 2) c ar p = _
 unfold parQF
 rw [h1, if_neg (by decide), if_neg (by decide), if_neg (by decide), if_neg (by decide), if_neg (by decide), if_pos rfl, this]
 show (if fch c (p + 1 + s.size) = 41 then _ else none) = _
 rw [if_pos h.close]
end
theorem byteF_data (s : ByteArray) (i : Nat) : s[i]? = s.data[i]? := by
 by_cases h : i < s.size
 ·rw [getElem?_pos s i h]
  have h2 : i < s.data.size := h
  rw [getElem?_pos s.data i h2]
  rfl
 ·rw [getElem?_neg s i h]
  have h2 : ¬ i < s.data.size := h
  rw [getElem?_neg s.data i h2]
theorem fch_app (a b : ByteArray) (i : Int) : fch (a ++ b) i = if i < a.size then fch a i else fch b (i - a.size) := by
 unfold fch byteAt
 by_cases h0 : 0 ≤ i
 ·rw [if_pos h0, byteF_data, ByteArray.data_append, Array.getElem?_append]
  have hs : a.data.size = a.size := rfl
  rw [hs]
  by_cases h : i < a.size
  ·rw [if_pos h, if_pos (by omega), if_pos h0, byteF_data]
  ·rw [if_neg h, if_neg (by omega), if_pos (by omega), byteF_data, show (i - a.size).toNat = i.toNat - a.size by omega]
 ·rw [if_neg h0, if_pos (by omega), if_neg h0]
theorem fch_l {a b : ByteArray} {i : Int} (h : i < a.size) : fch (a ++ b) i = fch a i := by rw [fch_app, if_pos h]
theorem fch_r {a b : ByteArray} {i j : Int} (e : i = a.size + j) (h : 0 ≤ j) : fch (a ++ b) i = fch b j := by
 rw [fch_app, if_neg (by omega), show i - a.size = j by omega]
end Go.Proofs.Ytiejmeedkhkfgaa


namespace Go.Proofs.Ytiejmeedkhkfgaa
set_option linter.unusedSimpArgs false
set_option linter.unusedVariables false
set_option maxRecDepth 100000
inductive SubR (W : FTr) : FTr → FTr → Prop
 | name : SubR W (fn 88 0 []) W
 | leaf (a : FLab) (h : a.fSign = 48 ∨ a.fSign = 49) : SubR W (.node a []) (.node a [])
 | one (a : FLab) (h : a.fSign = 33 ∨ a.fSign = 60 ∨ a.fSign = 91) {y x : FTr} (k : SubR W y x) : SubR W (.node a [y]) (.node a [x])
 | two (a : FLab) (h : a.fSign = 38 ∨ a.fSign = 124) {y x y' x' : FTr} (k : SubR W y x) (k' : SubR W y' x') : SubR W (.node a [y, y']) (.node a [x, x'])
structure SimT (s wh put : ByteArray) (φ : Nat → Int) (W : FTr) : Prop where
 z : φ 0 = 0
 e : φ s.size = put.size
 ch : ∀ i : Nat, i < s.size → fch s i ≠ 88 → fch put (φ i) = fch s i ∧ φ (i + 1) = φ i + 1
 chX : ∀ i : Nat, i < s.size → fch s i = 88 → fch put (φ i) = 40 ∧ ∃ K, qF put K 0 [] (φ i) = some (W, φ (i + 1))
 inn : ∀ i : Nat, i < s.size → fch wh (4 + (i : Int)) = fch s i
 close : fch wh (4 + (s.size : Int)) = 41
 no : ∀ i : Nat, i < s.size → fch s i ≠ 109 ∧ fch s i ≠ 110
section
variable {s wh put : ByteArray} {φ : Nat → Int} {W : FTr}
theorem SimT.same (h : SimT s wh put φ W) {i : Nat} (hi : i ≤ s.size) {x : Int} (hx : fch put (φ i) = x) (h40 : x ≠ 40) (h0 : x ≠ 0) : i < s.size ∧ fch wh (4 + (i : Int)) = x ∧ φ (i + 1) = φ i + 1 := by
 by_cases hl : i < s.size
 ·by_cases h8 : fch s i = 88
  ·have := (h.chX i hl h8).1
   omega
  ·obtain ⟨h1, h2⟩ := h.ch i hl h8
   exact ⟨hl, by rw [h.inn i hl, ← h1, hx], h2⟩
 ·have : i = s.size := by omega
  subst this
  rw [h.e, fch_end (Int.le_refl _)] at hx
  omega
theorem SimT.loop (h : SimT s wh put φ W) {i : Nat} (hi : i ≤ s.size) {x : Int} (hx : x = 38 ∨ x = 124) : fch put (φ i) = x ↔ fch wh (4 + (i : Int)) = x := by
 by_cases hl : i < s.size
 ·by_cases h8 : fch s i = 88
  ·rw [(h.chX i hl h8).1, h.inn i hl, h8]
   omega
  ·rw [(h.ch i hl h8).1, h.inn i hl]
 ·have : i = s.size := by omega
  subst this
  rw [h.e, fch_end (Int.le_refl _), h.close]
  omega
def SimF (s : ByteArray) (φ : Nat → Int) (W : FTr) (f g : FQ) : Prop := ∀ (i : Nat) (b : Bool) (x y : FTr) (e e' : Int), i ≤ s.size → f [] (φ i) = some (x, e) → g [⟨88, b⟩] (4 + (i : Int)) = some (y, e') → ∃ j : Nat, i < j ∧ j ≤ s.size ∧ e = φ j ∧ e' = 4 + (j : Int) ∧ SubR W y x
theorem arr_sim (h : SimT s wh put φ W) {f g : FQ} (hf : SimF s φ W f g) {i : Nat} {c : Int} (hc : c = 60 ∨ c = 91) {b : Bool} {x y : FTr} {e e' : Int} (hi : i < s.size) (hphi : φ (i + 1) = φ i + 1) (h1 : arrQ f put [] c (φ i) = some (x, e)) (h2 : arrQ g wh [⟨88, b⟩] c (4 + (i : Int)) = some (y, e')) : ∃ j : Nat, i < j ∧ j ≤ s.size ∧ e = φ j ∧ e' = 4 + (j : Int) ∧ SubR W y x := by
 unfold arrQ at h1 h2
 by_cases k1 : (97 ≤ fch put (φ i + 1) ∧ fch put (φ i + 1) ≤ 100) ∧ fch put (φ i + 1 + 1) = (if c = 60 then 62 else 93)
 ·rw [if_pos k1] at h1
  by_cases k2 : (97 ≤ fch wh (4 + (i : Int) + 1) ∧ fch wh (4 + (i : Int) + 1) ≤ 100) ∧ fch wh (4 + (i : Int) + 1 + 1) = (if c = 60 then 62 else 93)
  ·rw [if_pos k2] at h2
   obtain ⟨⟨x1, e1⟩, z1, h1⟩ := Option.bind_eq_some_iff.1 h1
   obtain ⟨⟨y1, e2⟩, z2, h2⟩ := Option.bind_eq_some_iff.1 h2
   cases h1
   cases h2
   rw [← hphi] at k1 z1 ⊢
   obtain ⟨l1, m1, p1⟩ := h.same (i := i + 1) (by omega) rfl (by omega) (by omega)
   rw [← p1] at k1 z1
   obtain ⟨l2, m2, p2⟩ := h.same (i := i + 1 + 1) (by omega) k1.2 (by split <;> decide) (by split <;> decide)
   rw [← p2] at z1
   rw [show 4 + (i : Int) + 1 + 1 + 1 = 4 + ((i + 1 + 1 + 1 : Nat) : Int) by omega] at z2
   obtain ⟨j, j1, j2, j3, j4, j5⟩ := hf (i + 1 + 1 + 1) b x1 y1 _ _ (by omega) z1 z2
   refine ⟨j, by omega, j2, j3, j4, ?_⟩
   rw [show 4 + (i : Int) + 1 = 4 + ((i + 1 : Nat) : Int) by omega, m1]
   exact .one ⟨c, fch put (φ (i + 1)) - 97⟩ (.inr hc) j5
  ·rw [if_neg k2] at h2
   cases h2
 ·rw [if_neg k1] at h1
  cases h1
theorem part_sim (h : SimT s wh put φ W) {k k' : Nat} (h0 : SimF s φ W (qF put k 0) (qF wh k' 0)) (h3 : SimF s φ W (qF put k 2) (qF wh k' 2)) : SimF s φ W (qF put (k + 1) 0) (qF wh (k' + 1) 0) := fun i b x y e e' hi h1 h2 => by
 have h1' : parQF (qF put k 0) (qF put k 2) put [] (φ i) = some (x, e) := h1
 have h2' : parQF (qF wh k' 0) (qF wh k' 2) wh [⟨88, b⟩] (4 + (i : Int)) = some (y, e') := h2
 unfold parQF at h1' h2'
 by_cases hl : i < s.size
 ·by_cases h8 : fch s i = 88
  ·obtain ⟨_, K, hK⟩ := h.chX i hl h8
   have := qF_one h1 hK
   cases this
   rw [h.inn i hl, h8, if_neg (by decide), if_neg (by decide), if_neg (by decide), if_neg (by decide), if_pos (by decide)] at h2'
   obtain ⟨j, zj, h2'⟩ := Option.bind_eq_some_iff.1 h2'
   cases h2'
   have hj : j = 0 := by
    have := (seekF_some zj).2
    simp at this
    exact this
   subst hj
   exact ⟨i + 1, by omega, by omega, rfl, by omega, .name⟩
  ·obtain ⟨c1, hphi⟩ := h.ch i hl h8
   have hno := h.no i hl
   rw [c1] at h1'
   rw [h.inn i hl] at h2'
   have hphi2 : ∀ v : Int, v = φ i + 1 → v = φ (i + 1) := fun v e => by omega
   by_cases d1 : fch s i = 48 ∨ fch s i = 49
   ·rw [if_pos d1] at h1' h2'
    cases h1'
    cases h2'
    exact ⟨i + 1, by omega, by omega, hphi.symm, by omega, .leaf _ d1⟩
   rw [if_neg d1] at h1' h2'
   by_cases d2 : fch s i = 33
   ·rw [if_pos d2] at h1' h2'
    obtain ⟨⟨x1, e1⟩, z1, h1'⟩ := Option.bind_eq_some_iff.1 h1'
    obtain ⟨⟨y1, e2⟩, z2, h2'⟩ := Option.bind_eq_some_iff.1 h2'
    cases h1'
    cases h2'
    rw [← hphi] at z1
    rw [show 4 + (i : Int) + 1 = 4 + ((i + 1 : Nat) : Int) by omega] at z2
    obtain ⟨j, j1, j2, j3, j4, j5⟩ := h0 (i + 1) (!b) x1 y1 _ _ (by omega) z1 z2
    exact ⟨j, by omega, j2, j3, j4, .one ⟨33, 0⟩ (.inl rfl) j5⟩
   rw [if_neg d2] at h1' h2'
   by_cases d3 : fch s i = 60 ∨ fch s i = 91
   ·rw [if_pos d3] at h1' h2'
    exact arr_sim h h0 d3 hl hphi h1' h2'
   rw [if_neg d3] at h1' h2'
   rw [if_neg (by omega)] at h1' h2'
   by_cases d5 : 88 ≤ fch s i ∧ fch s i ≤ 90
   ·rw [if_pos d5] at h1'
    cases h1'
   rw [if_neg d5] at h1' h2'
   by_cases d6 : fch s i = 40
   ·rw [if_pos d6] at h1' h2'
    obtain ⟨⟨x1, e1⟩, z1, h1'⟩ := Option.bind_eq_some_iff.1 h1'
    obtain ⟨⟨y1, e2⟩, z2, h2'⟩ := Option.bind_eq_some_iff.1 h2'
    rw [← hphi] at z1
    rw [show 4 + (i : Int) + 1 = 4 + ((i + 1 : Nat) : Int) by omega] at z2
    obtain ⟨j, j1, j2, j3, j4, j5⟩ := h3 (i + 1) b x1 y1 e1 e2 (by omega) z1 z2
    subst j3 j4
    simp only at h1' h2'
    split at h1'
    ·rename_i k1
     split at h2'
     ·cases h1'
      cases h2'
      obtain ⟨l1, _, p1⟩ := h.same j2 k1 (by decide) (by decide)
      exact ⟨j + 1, by omega, by omega, p1.symm, by omega, j5⟩
     ·cases h2'
    ·cases h1'
   ·rw [if_neg d6] at h1'
    cases h1'
 ·have : i = s.size := by omega
  subst this
  rw [h.e, fch_end (Int.le_refl _)] at h1'
  simp at h1'
theorem lopL_sim (h : SimT s wh put φ W) {ch : Int} (hch : ch = 38 ∨ ch = 124) {f g : FQ} (hf : SimF s φ W f g) {b : Bool} : ∀ (m m' : Nat) (i : Nat) (t u x y : FTr) (e e' : Int), i ≤ s.size → SubR W u t → lopQFL ch (f []) put m t (φ i) = some (x, e) → lopQFL ch (g [⟨88, b⟩]) wh m' u (4 + (i : Int)) = some (y, e') → ∃ j : Nat, i ≤ j ∧ j ≤ s.size ∧ e = φ j ∧ e' = 4 + (j : Int) ∧ SubR W y x
 | 0, _, _, _, _, _, _, _, _, _, _, h1, _ => by simp [lopQFL] at h1
 | m + 1, 0, _, _, _, _, _, _, _, _, _, _, h2 => by simp [lopQFL] at h2
 | m + 1, m' + 1, i, t, u, x, y, e, e', hi, hs, h1, h2 => by
  rw [lopQFL] at h1 h2
  by_cases hc : fch put (φ i) = ch
  ·have hc2 := (h.loop hi hch).1 hc
   rw [if_pos hc] at h1
   rw [if_pos hc2] at h2
   obtain ⟨l1, _, p1⟩ := h.same hi hc (by omega) (by omega)
   obtain ⟨⟨x1, e1⟩, z1, h1⟩ := Option.bind_eq_some_iff.1 h1
   obtain ⟨⟨y1, e2⟩, z2, h2⟩ := Option.bind_eq_some_iff.1 h2
   rw [← p1] at z1
   rw [show 4 + (i : Int) + 1 = 4 + ((i + 1 : Nat) : Int) by omega] at z2
   obtain ⟨j, j1, j2, j3, j4, j5⟩ := hf (i + 1) b x1 y1 e1 e2 (by omega) z1 z2
   subst j3 j4
   obtain ⟨j', k1, k2, k3, k4, k5⟩ := lopL_sim h hch hf m m' j _ _ x y e e' j2 (.two ⟨ch, 0⟩ hch hs j5) h1 h2
   exact ⟨j', by omega, k2, k3, k4, k5⟩
  ·have hc2 : ¬ fch wh (4 + (i : Int)) = ch := fun hh => hc ((h.loop hi hch).2 hh)
   rw [if_neg hc] at h1
   rw [if_neg hc2] at h2
   cases h1
   cases h2
   exact ⟨i, Nat.le_refl _, hi, rfl, rfl, hs⟩
theorem lop_sim (h : SimT s wh put φ W) {ch : Int} (hch : ch = 38 ∨ ch = 124) {f g : FQ} (hf : SimF s φ W f g) : SimF s φ W (fun ar p => lopQF ch (f ar) put p) (fun ar p => lopQF ch (g ar) wh p) := fun i b x y e e' hi h1 h2 => by
 obtain ⟨⟨x1, e1⟩, z1, h1⟩ := Option.bind_eq_some_iff.1 h1
 obtain ⟨⟨y1, e2⟩, z2, h2⟩ := Option.bind_eq_some_iff.1 h2
 obtain ⟨j, j1, j2, j3, j4, j5⟩ := hf i b x1 y1 e1 e2 hi z1 z2
 subst j3 j4
 obtain ⟨j', k1, k2, k3, k4, k5⟩ := lopL_sim h hch hf _ _ j _ _ x y e e' j2 j5 h1 h2
 exact ⟨j', by omega, k2, k3, k4, k5⟩
theorem sim_all (h : SimT s wh put φ W) : ∀ k k' kd, SimF s φ W (qF put k kd) (qF wh k' kd)
 | 0, _, _ => fun i b x y e e' _ h1 _ => by simp [qF] at h1
 | k + 1, 0, _ => fun i b x y e e' _ _ h2 => by simp [qF] at h2
 | k + 1, k' + 1, 0 => part_sim h (sim_all h k k' 0) (sim_all h k k' 2)
 | k + 1, k' + 1, 1 => lop_sim h (.inl rfl) (sim_all h k k' 0)
 | k + 1, k' + 1, 2 => lop_sim h (.inr rfl) (sim_all h k k' 1)
 | k + 1, k' + 1, n + 3 => lop_sim h (.inr rfl) (sim_all h k k' 1)
end
theorem sem_up {g : ApiGraph} : ∀ {k k' : Nat} {fl : List Bool} {t : FTr} {S : List (List Bool)}, WfF k fl t → k ≤ k' → semF g k' t S = semF g k t S
 | 0, _, _, _, _, h, _ => h.elim
 | k + 1, 0, _, _, _, _, hk => absurd hk (by omega)
 | k + 1, k' + 1, fl, .node ⟨sg, n⟩ kids, S, h, hk => by
  rcases h with ⟨h, e⟩ | ⟨h, e, _⟩ | ⟨h, x, e, hx⟩ | ⟨h, b, x, e, hx⟩ | ⟨h, b, b2, x, e, hx⟩ | ⟨h, x, y, e, hx, hy⟩
  ·subst e
   rcases h with h | h <;> (have h : sg = _ := h; subst h; rfl)
  ·have h : sg = 88 := h
   subst h
   rfl
  ·have h : sg = 33 := h
   subst h e
   show semF g (k' + 1) (fn 33 n [x]) S = semF g (k + 1) (fn 33 n [x]) S
   rw [sem_not, sem_not, sem_up hx (by omega)]
  ·subst e
   show semF g (k' + 1) (fn sg n [x]) S = semF g (k + 1) (fn sg n [x]) S
   rw [sem_way h, sem_way h, sem_up hx (by omega)]
  ·subst e
   show semF g (k' + 1) (fn sg n [x]) S = semF g (k + 1) (fn sg n [x]) S
   rw [sem_lp h, sem_lp h]
   congr 1
   funext o
   exact sem_up hx (by omega)
  ·subst e
   rcases h with h | h
   ·have h : sg = 38 := h
    subst h
    show semF g (k' + 1) (fn 38 n [x, y]) S = semF g (k + 1) (fn 38 n [x, y]) S
    rw [sem_and, sem_and, sem_up hx (by omega), sem_up hy (by omega)]
   ·have h : sg = 124 := h
    subst h
    show semF g (k' + 1) (fn 124 n [x, y]) S = semF g (k + 1) (fn 124 n [x, y]) S
    rw [sem_or, sem_or, sem_up hx (by omega), sem_up hy (by omega)]
def SemE (g : ApiGraph) (t : FTr) (v : List Bool) : Prop := ∃ N, ∀ k, N ≤ k → semF g k t [] = v
theorem sub_sem {g : ApiGraph} {W : FTr} {w : List Bool} (hW : SemE g W w) {y x : FTr} (h : SubR W y x) : ∀ {m : Nat} {fl : List Bool}, WfF m fl y → SemE g x (semF g m y [w]) := by
 induction h with
 | name =>
  intro m fl hy
  cases m with
  | zero => exact hy.elim
  | succ m => exact hW
 | leaf a h =>
  intro m fl hy
  cases m with
  | zero => exact hy.elim
  | succ m =>
   refine ⟨1, fun k hk => ?_⟩
   obtain ⟨k, rfl⟩ : ∃ k', k = k' + 1 := ⟨k - 1, by omega⟩
   obtain ⟨sg, n⟩ := a
   rcases h with h | h <;> (have h : sg = _ := h; subst h; rfl)
 | @one a h y x _ ih =>
  intro m fl hy
  cases m with
  | zero => exact hy.elim
  | succ m =>
   obtain ⟨sg, n⟩ := a
   have hk : ∃ fl', WfF m fl' y := by
    rcases hy with ⟨_, e⟩ | ⟨_, e, _⟩ | ⟨_, z, e, hz⟩ | ⟨_, _, z, e, hz⟩ | ⟨_, _, _, z, e, hz⟩ | ⟨_, z, z', e, _, _⟩
    ·cases e
    ·cases e
    ·cases e; exact ⟨_, hz⟩
    ·cases e; exact ⟨_, hz⟩
    ·cases e; exact ⟨_, hz⟩
    ·cases e
   obtain ⟨fl', hz⟩ := hk
   obtain ⟨N, hN⟩ := ih hz
   refine ⟨N + 1, fun k hk => ?_⟩
   obtain ⟨k, rfl⟩ : ∃ k', k = k' + 1 := ⟨k - 1, by omega⟩
   have e := hN k (by omega)
   rcases h with h | h
   ·have h : sg = 33 := h
    subst h
    show semF g (k + 1) (fn 33 n [x]) [] = semF g (m + 1) (fn 33 n [y]) [w]
    rw [sem_not, sem_not, e]
   ·show semF g (k + 1) (fn sg n [x]) [] = semF g (m + 1) (fn sg n [y]) [w]
    rw [sem_way h, sem_way h, e]
 | @two a h y x y' x' _ _ ih ih' =>
  intro m fl hy
  cases m with
  | zero => exact hy.elim
  | succ m =>
   obtain ⟨sg, n⟩ := a
   have hk : ∃ fl', WfF m fl' y ∧ WfF m fl' y' := by
    rcases hy with ⟨_, e⟩ | ⟨_, e, _⟩ | ⟨_, z, e, hz⟩ | ⟨_, _, z, e, hz⟩ | ⟨_, _, _, z, e, hz⟩ | ⟨_, z, z', e, hz, hz'⟩
    ·cases e
    ·cases e
    ·cases e
    ·cases e
    ·cases e
    ·cases e; exact ⟨_, hz, hz'⟩
   obtain ⟨fl', hz, hz'⟩ := hk
   obtain ⟨N, hN⟩ := ih hz
   obtain ⟨N', hN'⟩ := ih' hz'
   refine ⟨N + N' + 1, fun k hk => ?_⟩
   obtain ⟨k, rfl⟩ : ∃ k', k = k' + 1 := ⟨k - 1, by omega⟩
   have e := hN k (by omega)
   have e' := hN' k (by omega)
   rcases h with h | h
   ·have h : sg = 38 := h
    subst h
    show semF g (k + 1) (fn 38 n [x, x']) [] = semF g (m + 1) (fn 38 n [y, y']) [w]
    rw [sem_and, sem_and, e, e']
   ·have h : sg = 124 := h
    subst h
    show semF g (k + 1) (fn 124 n [x, x']) [] = semF g (m + 1) (fn 124 n [y, y']) [w]
    rw [sem_or, sem_or, e, e']
theorem unfold_sem {g : ApiGraph} (hg : ToOk g) {c : Int} (hc : c = 109 ∨ c = 110) {ts x : FTr} {n : Int} (hw : WfF 30 [] (fn c n [ts])) (hx : WfF 30 [] x) (h : SubR (fn c n [ts]) ts x) : semF g 30 x [] = semF g 30 (fn c n [ts]) [] := by
 have hts : WfF 29 [false] ts := by
  rcases hw with ⟨h1, e⟩ | ⟨_, e, _⟩ | ⟨h1, z, e, hz⟩ | ⟨h1, _, z, e, hz⟩ | ⟨_, _, _, z, e, hz⟩ | ⟨_, z, z', e, _, _⟩
  ·cases e
  ·cases e
  ·have h1 : c = 33 := h1
   omega
  ·have h1 : c = 60 ∨ c = 91 := h1
   omega
  ·cases e
   exact hz
  ·cases e
 have hW : SemE g (fn c n [ts]) (semF g 30 (fn c n [ts]) []) := ⟨30, fun k hk => sem_up hw hk⟩
 obtain ⟨N, hN⟩ := sub_sem hW h hts
 have e1 := hN (N + 30) (by omega)
 rw [sem_up hx (show 30 ≤ N + 30 by omega)] at e1
 have e2 : semF g 29 ts [semF g 30 (fn c n [ts]) []] = semF g 30 (fn c n [ts]) [] := sem_fix (fl := []) (S := []) hg hc hts ⟨rfl, fun s hs => by cases hs⟩
 exact e1.trans e2
end Go.Proofs.Ytiejmeedkhkfgaa


namespace Go.Proofs.Ytiejmeedkhkfgaa
open Go.RowKit Go.MapKept
set_option linter.unusedSimpArgs false
set_option linter.unusedVariables false
set_option maxRecDepth 100000
def fixUnf_vc (g : ApiGraph) (s : ByteArray) (Q : Bool → Prop) : Prop :=
 g.fArrows.length ≤ 9223372036854775807 →
 (∃ J : Bool → Prop, (IfP ((HoldsF (ApiGraph.mk 1 1 ([(ApiArrow.mk 0 0 0)] : (List ApiArrow))) (ByteArray.mk #[110, 88, 46, 60, 97, 62, 88])).2 != 0) (J true) (IfP (((HoldsF (ApiGraph.mk 1 1 ([(ApiArrow.mk 0 0 0)] : (List ApiArrow))) (ByteArray.mk #[110, 88, 46, 60, 97, 62, 88])).1.length : Int) != 1) (J true) (∃ e, idx (HoldsF (ApiGraph.mk 1 1 ([(ApiArrow.mk 0 0 0)] : (List ApiArrow))) (ByteArray.mk #[110, 88, 46, 60, 97, 62, 88])).1 0 = some e ∧
 J (!e)))) ∧
 (∀ (x38 : Bool), J x38 → IfP x38 (Q false) (∃ (Inv : Int → Prop) (mu : Int → Nat), Inv 0 ∧
 ∀ (x7 : Int) , Inv x7 → (IfP (decide (x7 < (s.size : Int))) (∃ J_2 : Bool → Prop, (∃ b, byteAt s x7 = some b ∧
 IfP (b == 109) (J_2 true) (∃ b_2, byteAt s x7 = some b_2 ∧
 J_2 (b_2 == 110))) ∧
 (∀ (x54 : Bool), J_2 x54 → IfP x54 (Q true) ((Inv (wr (x7 + 1)) ∧ mu (wr (x7 + 1)) < mu x7)))) (IfP (decide ((s.size : Int) > 200)) (Q true) (∃ (Inv_2 : Int → Prop) (mu_2 : Int → Nat), Inv_2 0 ∧
 ∀ (x8 : Int) , Inv_2 x8 → (IfP (decide (x8 < 2)) (∃ J_3 : Prop, (partOk x8 (wr (x8 + 1)) (ByteArray.mk #[109, 110]).size ∧
 (((ByteArray.mk #[109, 110]).extract (x8 : Int).toNat ((wr (x8 + 1)) : Int).toNat).size + (ByteArray.mk #[88, 46, 40]).size ≤ 1048576) ∧
 ((((ByteArray.mk #[109, 110]).extract (x8 : Int).toNat ((wr (x8 + 1)) : Int).toNat) ++ (ByteArray.mk #[88, 46, 40])).size + s.size ≤ 1048576) ∧
 (((((ByteArray.mk #[109, 110]).extract (x8 : Int).toNat ((wr (x8 + 1)) : Int).toNat) ++ (ByteArray.mk #[88, 46, 40])) ++ s).size + (ByteArray.mk #[41]).size ≤ 1048576) ∧
 ∀ r : ApiFault, (CheckF (((((ByteArray.mk #[109, 110]).extract (x8 : Int).toNat ((wr (x8 + 1)) : Int).toNat) ++ (ByteArray.mk #[88, 46, 40])) ++ s) ++ (ByteArray.mk #[41]))) r →
 (IfP (r.fCode != 0) (Q true) (∃ (Inv_3 : ByteArray → Int → Prop) (mu_3 : ByteArray → Int → Nat), Inv_3 (ByteArray.mk #[]) 0 ∧
 ∀ (x12 : ByteArray) (x13 : Int) , Inv_3 x12 x13 → (IfP (decide (x13 < (s.size : Int))) (∃ J_4 : ByteArray → Prop, (∃ b_3, byteAt s x13 = some b_3 ∧
 IfP (b_3 == 88) ((x12.size + (ByteArray.mk #[40]).size ≤ 1048576) ∧
 ((x12 ++ (ByteArray.mk #[40])).size + (((((ByteArray.mk #[109, 110]).extract (x8 : Int).toNat ((wr (x8 + 1)) : Int).toNat) ++ (ByteArray.mk #[88, 46, 40])) ++ s) ++ (ByteArray.mk #[41])).size ≤ 1048576) ∧
 (((x12 ++ (ByteArray.mk #[40])) ++ (((((ByteArray.mk #[109, 110]).extract (x8 : Int).toNat ((wr (x8 + 1)) : Int).toNat) ++ (ByteArray.mk #[88, 46, 40])) ++ s) ++ (ByteArray.mk #[41]))).size + (ByteArray.mk #[41]).size ≤ 1048576) ∧
 J_4 (((x12 ++ (ByteArray.mk #[40])) ++ (((((ByteArray.mk #[109, 110]).extract (x8 : Int).toNat ((wr (x8 + 1)) : Int).toNat) ++ (ByteArray.mk #[88, 46, 40])) ++ s) ++ (ByteArray.mk #[41]))) ++ (ByteArray.mk #[41]))) (partOk x13 (wr (x13 + 1)) s.size ∧
 (x12.size + (s.extract (x13 : Int).toNat ((wr (x13 + 1)) : Int).toNat).size ≤ 1048576) ∧
 J_4 (x12 ++ (s.extract (x13 : Int).toNat ((wr (x13 + 1)) : Int).toNat)))) ∧
 (∀ (x12_2 : ByteArray), J_4 x12_2 → (Inv_3 x12_2 (wr (x13 + 1)) ∧ mu_3 x12_2 (wr (x13 + 1)) < mu_3 x12 x13))) (IfP (((HoldsF g (((((ByteArray.mk #[109, 110]).extract (x8 : Int).toNat ((wr (x8 + 1)) : Int).toNat) ++ (ByteArray.mk #[88, 46, 40])) ++ s) ++ (ByteArray.mk #[41]))).2 != 0) || ((HoldsF g x12).2 != 0)) (J_3) (∃ (Inv_4 : Int → Prop) (mu_4 : Int → Nat), Inv_4 0 ∧
 ∀ (x18 : Int) , Inv_4 x18 → (IfP (decide (x18 < ((HoldsF g (((((ByteArray.mk #[109, 110]).extract (x8 : Int).toNat ((wr (x8 + 1)) : Int).toNat) ++ (ByteArray.mk #[88, 46, 40])) ++ s) ++ (ByteArray.mk #[41]))).1.length : Int))) (∃ e_2, idx (HoldsF g (((((ByteArray.mk #[109, 110]).extract (x8 : Int).toNat ((wr (x8 + 1)) : Int).toNat) ++ (ByteArray.mk #[88, 46, 40])) ++ s) ++ (ByteArray.mk #[41]))).1 x18 = some e_2 ∧
 ∃ e_3, idx (HoldsF g x12).1 x18 = some e_3 ∧
 IfP (e_2 != e_3) (Q false) ((Inv_4 (wr (x18 + 1)) ∧ mu_4 (wr (x18 + 1)) < mu_4 x18))) (J_3)))))))) ∧
 (J_3 → (Inv_2 (wr (x8 + 1)) ∧ mu_2 (wr (x8 + 1)) < mu_2 x8))) (Q true))))))))
noncomputable abbrev qfixUnf0 := (ByteArray.mk #[88, 46, 40])
noncomputable abbrev qfixUnf1 := (ByteArray.mk #[109, 110])
noncomputable abbrev qfixUnf2 := (HoldsF (ApiGraph.mk 1 1 ([(ApiArrow.mk 0 0 0)] : (List ApiArrow))) (ByteArray.mk #[110, 88, 46, 60, 97, 62, 88]))
noncomputable abbrev qfixUnf3 := (ByteArray.mk #[41])
noncomputable abbrev qfixUnf4 (g : ApiGraph) := (ApiGraph.cl g)
set_option maxHeartbeats 2000000 in
theorem fixUnf_walk (g : ApiGraph) (s : ByteArray) (Q : Bool → Prop) (h : fixUnf_vc g s Q) : Ct 6 [.sv (.agg [I g.fLetters, I g.fPlaces, LS ApiArrow.ty g.fArrows]), .sv (.one (.v (.string s)))] [] Q (fun (r : Bool) => .sv (.one (B r))) := by
 have ht := tab_ok
 refine Ct.body Try.func6 rfl rfl rfl rfl (fun c hn => ?_)
 unfold fixUnf_vc at h
 refine En.lenA 0 2 (by rfl) (by rfl) (fun hl => ?_)
 replace h := h hl
 clear hl
 refine En.seq ?_
 refine En.region ?_
 refine WL.run ht hn 2 ⟨[sl 1 (.v (.string s)), sl 2 (.ptr 0 0)], [.box (qfixUnf4 g) 24 false]⟩ (by kernel_rfl) ?_
 refine WL.nil ?_
 refine En.seq ?_
 refine En.region ?_
 refine WL.run ht hn 1 ⟨[sl 1 (.v (.string s)), sl 2 (.ptr 0 0), (20, .sv (.agg [I 0, I 0, I 0]))], [.box (qfixUnf4 g) 24 false]⟩ (by kernel_rfl) ?_
 refine WL.mt0 (K := []) (p := some (1, rowI 26 ApiArrow.ty ([(ApiArrow.mk 0 0 0)] : (List ApiArrow)))) hn (by rfl) (mt_lit (T := ApiArrow.ty) ([(ApiArrow.mk 0 0 0)] : (List ApiArrow)) (mt_bsl 1 (r := cellsOf ApiArrow.ty ([(ApiArrow.mk 0 0 0)] : (List ApiArrow))) ht rfl (by rfl) (by rfl) (by rfl) (by kernel_rfl) (by rfl)) (fun _ h => by cases h) (fun _ => rfl) (fun _ => rfl) (by rfl) (Nat.le_of_ble_eq_true rfl)) (by rfl) (by rfl) (by rfl) ?_
 refine WL.run ht hn 1 ⟨[sl 1 (.v (.string s)), sl 2 (.ptr 0 0), (22, .sv (.agg [I 1, I 1, .own 1]))], [.box (qfixUnf4 g) 24 false, rowI 26 ApiArrow.ty ([(ApiArrow.mk 0 0 0)] : (List ApiArrow))]⟩ (by kernel_rfl) ?_
 refine WL.seal (T := ApiArrow.ty) (l := ([(ApiArrow.mk 0 0 0)] : (List ApiArrow))) (e := 26) 1 rfl ?_
 refine WL.run ht hn 0 ⟨[sl 1 (.v (.string s)), sl 2 (.ptr 0 0), (22, .sv (.agg [I 1, I 1, LS ApiArrow.ty ([(ApiArrow.mk 0 0 0)] : (List ApiArrow))]))], [.box (qfixUnf4 g) 24 false, .gone]⟩ (by kernel_rfl) ?_
 refine WL.mt0 (K := []) (p := none) hn (by rfl) (mt_call (fHolds_ct (ApiGraph.mk 1 1 ([(ApiArrow.mk 0 0 0)] : (List ApiArrow))) (ByteArray.mk #[110, 88, 46, 60, 97, 62, 88])) en14 (caps := []) [] rfl (by rfl) (by kernel_rfl) (by kernel_rfl) (by rfl) (by rfl) (by rfl)) (by rfl) (by rfl) (by rfl) ?_
 refine WL.run ht hn 5 ⟨[sl 1 (.v (.string s)), sl 2 (.ptr 0 0), sl 5 (LS boolT (qfixUnf2).1), sl 6 (I (qfixUnf2).2)], [.box (qfixUnf4 g) 24 false, .gone]⟩ (by kernel_rfl) ?_
 refine WL.nil ?_
 refine En.seq ?_
 obtain ⟨J, h, hJ⟩ := h
 refine En.seqJ (σ := Bool) (fun zz => J zz) (fun zz => ⟨[sl 1 (.v (.string s)), sl 2 (.ptr 0 0), sl 38 (B zz)], [.box (qfixUnf4 g) 24 false, .gone]⟩) ?_ ?_
 refine En.region ?_
 refine WL.run ht hn 3 ⟨[sl 1 (.v (.string s)), sl 2 (.ptr 0 0), sl 5 (LS boolT (qfixUnf2).1), sl 28 (B ((qfixUnf2).2 != 0))], [.box (qfixUnf4 g) 24 false, .gone]⟩ (by kernel_rfl) ?_
 refine splitB ((qfixUnf2).2 != 0) (fun hb => ?_) (fun hb => ?_)
 replace h := h.1 hb
 refine WL.setB 28 hb (by kernel_rfl) ?_
 refine WL.run ht hn 10 ⟨[sl 1 (.v (.string s)), sl 2 (.ptr 0 0), sl 38 (B true)], [.box (qfixUnf4 g) 24 false, .gone]⟩ (by kernel_rfl) ?_
 refine WL.nil ?_
 exact En.at (I := fun zz => J zz) (T := fun zz => ⟨[sl 1 (.v (.string s)), sl 2 (.ptr 0 0), sl 38 (B zz)], [.box (qfixUnf4 g) 24 false, .gone]⟩) true h (by kernel_rfl)
 replace h := h.2 hb
 refine WL.setB 28 hb (by kernel_rfl) ?_
 refine WL.run ht hn 5 ⟨[sl 1 (.v (.string s)), sl 2 (.ptr 0 0), sl 5 (LS boolT (qfixUnf2).1), sl 33 (B (((qfixUnf2).1.length : Int) != 1))], [.box (qfixUnf4 g) 24 false, .gone]⟩ (by kernel_rfl) ?_
 refine splitB (((qfixUnf2).1.length : Int) != 1) (fun hb => ?_) (fun hb => ?_)
 replace h := h.1 hb
 refine WL.setB 33 hb (by kernel_rfl) ?_
 refine WL.run ht hn 5 ⟨[sl 1 (.v (.string s)), sl 2 (.ptr 0 0), sl 38 (B true)], [.box (qfixUnf4 g) 24 false, .gone]⟩ (by kernel_rfl) ?_
 refine WL.nil ?_
 exact En.at (I := fun zz => J zz) (T := fun zz => ⟨[sl 1 (.v (.string s)), sl 2 (.ptr 0 0), sl 38 (B zz)], [.box (qfixUnf4 g) 24 false, .gone]⟩) true h (by kernel_rfl)
 replace h := h.2 hb
 refine WL.setB 33 hb (by kernel_rfl) ?_
 refine WL.run ht hn 1 ⟨[sl 1 (.v (.string s)), sl 2 (.ptr 0 0), sl 33 (B false), sl 34 (LS boolT (qfixUnf2).1)], [.box (qfixUnf4 g) 24 false, .gone]⟩ (by kernel_rfl) ?_
 obtain ⟨e, he, h⟩ := h
 refine WL.val hn (by rfl) (val_index (T := boolT) (l := (qfixUnf2).1) (i := 0) ht rfl (by rfl) (by rfl) (by rfl) (by rfl) (by rfl) (by rfl) he) (by rfl) ?_
 refine WL.val hn (by rfl) (val_load (s := .one (B e)) ht rfl (by rfl) (by rfl) (by rfl) (by rfl) (by rfl)) (by rfl) ?_
 refine WL.run ht hn 2 ⟨[sl 1 (.v (.string s)), sl 2 (.ptr 0 0), sl 38 (B (!e))], [.box (qfixUnf4 g) 24 false, .gone]⟩ (by kernel_rfl) ?_
 refine WL.nil ?_
 exact En.at (I := fun zz => J zz) (T := fun zz => ⟨[sl 1 (.v (.string s)), sl 2 (.ptr 0 0), sl 38 (B zz)], [.box (qfixUnf4 g) 24 false, .gone]⟩) (!e) h (by kernel_rfl)
 intro x38 h
 replace h := hJ _ h
 show En c ⟨[sl 1 (.v (.string s)), sl 2 (.ptr 0 0), sl 38 (B x38)], [.box (qfixUnf4 g) 24 false, .gone]⟩ _
 refine En.cond (b := x38) (by kernel_rfl) (fun hb => ?_) (fun hb => ?_)
 replace h := h.1 hb
 refine En.seq ?_
 refine En.region ?_
 refine WL.run ht hn 1 ⟨[sl 4 (B false)], [.gone, .gone]⟩ (by kernel_rfl) ?_
 refine WL.nil ?_
 refine En.ret ?_
 exact En.back ht false h (by kernel_rfl) rfl
 replace h := h.2 hb
 refine En.skip ?_
 refine En.seq ?_
 refine En.seq ?_
 refine En.region ?_
 refine WL.run ht hn 1 ⟨[sl 1 (.v (.string s)), sl 2 (.ptr 0 0), sl 7 (I 0)], [.box (qfixUnf4 g) 24 false, .gone]⟩ (by kernel_rfl) ?_
 refine WL.nil ?_
 refine En.block ?_
 obtain ⟨Inv, mu, h0_4, hI_4⟩ := h
 refine En.loop (σ := Int) (fun zz => Inv zz) (fun zz => mu zz) (fun zz => ⟨[sl 1 (.v (.string s)), sl 2 (.ptr 0 0), sl 7 (I zz)], [.box (qfixUnf4 g) 24 false, .gone]⟩) 0 h0_4 (sub_ok (by kernel_rfl)) ?_
 intro x7 h
 replace h := hI_4 _ h
 show En c ⟨[sl 1 (.v (.string s)), sl 2 (.ptr 0 0), sl 7 (I x7)], [.box (qfixUnf4 g) 24 false, .gone]⟩ _
 refine En.seq ?_
 refine En.seq ?_
 refine En.region ?_
 refine WL.run ht hn 2 ⟨[sl 1 (.v (.string s)), sl 2 (.ptr 0 0), sl 7 (I x7), sl 39 (I x7), sl 40 (.v (.string s))], [.box (qfixUnf4 g) 24 false, .gone]⟩ (by kernel_rfl) ?_
 refine WL.val hn (by rfl) (val_lenS (s := s) rfl Try.underlying9 (by rfl)) (by rfl) ?_
 refine WL.run ht hn 1 ⟨[sl 1 (.v (.string s)), sl 2 (.ptr 0 0), sl 7 (I x7), sl 42 (B (decide (x7 < (s.size : Int))))], [.box (qfixUnf4 g) 24 false, .gone]⟩ (by kernel_rfl) ?_
 refine WL.nil ?_
 refine En.cond (b := (decide (x7 < (s.size : Int)))) (by kernel_rfl) (fun hb => ?_) (fun hb => ?_)
 replace h := h.1 hb
 refine En.skip ?_
 refine En.seq ?_
 refine En.block ?_
 obtain ⟨J_2, h, hJ_2⟩ := h
 refine En.seqJ (σ := Bool) (fun zz => J_2 zz) (fun zz => ⟨[sl 1 (.v (.string s)), sl 2 (.ptr 0 0), sl 7 (I x7), sl 54 (B zz)], [.box (qfixUnf4 g) 24 false, .gone]⟩) ?_ ?_
 refine En.region ?_
 refine WL.run ht hn 2 ⟨[sl 1 (.v (.string s)), sl 2 (.ptr 0 0), sl 7 (I x7), sl 45 (.v (.string s)), sl 46 (I x7)], [.box (qfixUnf4 g) 24 false, .gone]⟩ (by kernel_rfl) ?_
 obtain ⟨b, hb_2, h⟩ := h
 refine WL.val hn (by rfl) (val_indexS (s := s) (i := x7) rfl Try.underlying9 (by rfl) (by rfl) hb_2) (by rfl) ?_
 refine WL.run ht hn 2 ⟨[sl 1 (.v (.string s)), sl 2 (.ptr 0 0), sl 7 (I x7), sl 49 (B (b == 109))], [.box (qfixUnf4 g) 24 false, .gone]⟩ (by kernel_rfl) ?_
 refine splitB (b == 109) (fun hb => ?_) (fun hb => ?_)
 replace h := h.1 hb
 refine WL.setB 49 hb (by kernel_rfl) ?_
 refine WL.run ht hn 5 ⟨[sl 1 (.v (.string s)), sl 2 (.ptr 0 0), sl 7 (I x7), sl 54 (B true)], [.box (qfixUnf4 g) 24 false, .gone]⟩ (by kernel_rfl) ?_
 refine WL.nil ?_
 exact En.at (I := fun zz => J_2 zz) (T := fun zz => ⟨[sl 1 (.v (.string s)), sl 2 (.ptr 0 0), sl 7 (I x7), sl 54 (B zz)], [.box (qfixUnf4 g) 24 false, .gone]⟩) true h (by kernel_rfl)
 replace h := h.2 hb
 refine WL.setB 49 hb (by kernel_rfl) ?_
 refine WL.run ht hn 2 ⟨[sl 1 (.v (.string s)), sl 2 (.ptr 0 0), sl 7 (I x7), sl 49 (B false), sl 50 (.v (.string s)), sl 51 (I x7)], [.box (qfixUnf4 g) 24 false, .gone]⟩ (by kernel_rfl) ?_
 obtain ⟨b_2, hb_3, h⟩ := h
 refine WL.val hn (by rfl) (val_indexS (s := s) (i := x7) rfl Try.underlying9 (by rfl) (by rfl) hb_3) (by rfl) ?_
 refine WL.run ht hn 2 ⟨[sl 1 (.v (.string s)), sl 2 (.ptr 0 0), sl 7 (I x7), sl 54 (B (b_2 == 110))], [.box (qfixUnf4 g) 24 false, .gone]⟩ (by kernel_rfl) ?_
 refine WL.nil ?_
 exact En.at (I := fun zz => J_2 zz) (T := fun zz => ⟨[sl 1 (.v (.string s)), sl 2 (.ptr 0 0), sl 7 (I x7), sl 54 (B zz)], [.box (qfixUnf4 g) 24 false, .gone]⟩) (b_2 == 110) h (by kernel_rfl)
 intro x54 h
 replace h := hJ_2 _ h
 show En c ⟨[sl 1 (.v (.string s)), sl 2 (.ptr 0 0), sl 7 (I x7), sl 54 (B x54)], [.box (qfixUnf4 g) 24 false, .gone]⟩ _
 refine En.cond (b := x54) (by kernel_rfl) (fun hb => ?_) (fun hb => ?_)
 replace h := h.1 hb
 refine En.seq ?_
 refine En.region ?_
 refine WL.run ht hn 1 ⟨[sl 4 (B true)], [.gone, .gone]⟩ (by kernel_rfl) ?_
 refine WL.nil ?_
 refine En.ret ?_
 exact En.back ht true h (by kernel_rfl) rfl
 replace h := h.2 hb
 refine En.skip ?_
 refine En.region ?_
 refine WL.run ht hn 3 ⟨[sl 1 (.v (.string s)), sl 2 (.ptr 0 0), sl 7 (I (wr (x7 + 1)))], [.box (qfixUnf4 g) 24 false, .gone]⟩ (by kernel_rfl) ?_
 refine WL.nil ?_
 exact En.at (I := fun zz => Inv zz ∧ mu zz < mu x7) (T := fun zz => ⟨[sl 1 (.v (.string s)), sl 2 (.ptr 0 0), sl 7 (I zz)], [.box (qfixUnf4 g) 24 false, .gone]⟩) (wr (x7 + 1)) h (by kernel_rfl)
 replace h := h.2 hb
 refine En.exit rfl ?_
 refine En.seq ?_
 refine En.seq ?_
 refine En.region ?_
 refine WL.run ht hn 1 ⟨[sl 1 (.v (.string s)), sl 2 (.ptr 0 0), sl 55 (.v (.string s))], [.box (qfixUnf4 g) 24 false, .gone]⟩ (by kernel_rfl) ?_
 refine WL.val hn (by rfl) (val_lenS (s := s) rfl Try.underlying9 (by rfl)) (by rfl) ?_
 refine WL.run ht hn 1 ⟨[sl 1 (.v (.string s)), sl 2 (.ptr 0 0), sl 57 (B (decide ((s.size : Int) > 200)))], [.box (qfixUnf4 g) 24 false, .gone]⟩ (by kernel_rfl) ?_
 refine WL.nil ?_
 refine En.cond (b := (decide ((s.size : Int) > 200))) (by kernel_rfl) (fun hb => ?_) (fun hb => ?_)
 replace h := h.1 hb
 refine En.seq ?_
 refine En.region ?_
 refine WL.run ht hn 1 ⟨[sl 4 (B true)], [.gone, .gone]⟩ (by kernel_rfl) ?_
 refine WL.nil ?_
 refine En.ret ?_
 exact En.back ht true h (by kernel_rfl) rfl
 replace h := h.2 hb
 refine En.skip ?_
 refine En.seq ?_
 refine En.seq ?_
 refine En.region ?_
 refine WL.run ht hn 1 ⟨[sl 1 (.v (.string s)), sl 2 (.ptr 0 0), sl 8 (I 0)], [.box (qfixUnf4 g) 24 false, .gone]⟩ (by kernel_rfl) ?_
 refine WL.nil ?_
 refine En.block ?_
 obtain ⟨Inv_2, mu_2, h0_3, hI_3⟩ := h
 refine En.loop (σ := Int) (fun zz => Inv_2 zz) (fun zz => mu_2 zz) (fun zz => ⟨[sl 1 (.v (.string s)), sl 2 (.ptr 0 0), sl 8 (I zz)], [.box (qfixUnf4 g) 24 false, .gone]⟩) 0 h0_3 (sub_ok (by kernel_rfl)) ?_
 intro x8 h
 replace h := hI_3 _ h
 show En c ⟨[sl 1 (.v (.string s)), sl 2 (.ptr 0 0), sl 8 (I x8)], [.box (qfixUnf4 g) 24 false, .gone]⟩ _
 refine En.seq ?_
 refine En.seq ?_
 refine En.region ?_
 refine WL.run ht hn 2 ⟨[sl 1 (.v (.string s)), sl 2 (.ptr 0 0), sl 8 (I x8), sl 59 (B (decide (x8 < 2)))], [.box (qfixUnf4 g) 24 false, .gone]⟩ (by kernel_rfl) ?_
 refine WL.nil ?_
 refine En.cond (b := (decide (x8 < 2))) (by kernel_rfl) (fun hb => ?_) (fun hb => ?_)
 replace h := h.1 hb
 refine En.skip ?_
 obtain ⟨J_3, h, hJ_3⟩ := h
 refine En.seqJ (σ := Unit) (fun _ => J_3) (fun _ => ⟨[sl 1 (.v (.string s)), sl 2 (.ptr 0 0), sl 8 (I x8)], [.box (qfixUnf4 g) 24 false, .gone, .gone]⟩) ?_ ?_
 refine En.block ?_
 refine En.seq ?_
 refine En.region ?_
 refine WL.run ht hn 3 ⟨[sl 1 (.v (.string s)), sl 2 (.ptr 0 0), sl 8 (I x8), sl 62 (I x8), sl 64 (I (wr (x8 + 1)))], [.box (qfixUnf4 g) 24 false, .gone]⟩ (by kernel_rfl) ?_
 have hp_2 := h.1
 replace h := h.2
 refine WL.val hn (by rfl) (val_sliceS (s := (qfixUnf1)) (lv := x8) (hv := (wr (x8 + 1))) rfl Try.underlying9 (by rfl) (by rfl) (by rfl) hp_2) (by rfl) ?_
 refine WL.run ht hn 1 ⟨[sl 1 (.v (.string s)), sl 2 (.ptr 0 0), sl 8 (I x8), sl 9 (.v (.string ((qfixUnf1).extract (x8 : Int).toNat ((wr (x8 + 1)) : Int).toNat)))], [.box (qfixUnf4 g) 24 false, .gone]⟩ (by kernel_rfl) ?_
 refine WL.nil ?_
 refine En.seq ?_
 refine En.region ?_
 refine WL.run ht hn 1 ⟨[sl 1 (.v (.string s)), sl 2 (.ptr 0 0), sl 8 (I x8), sl 66 (.v (.string ((qfixUnf1).extract (x8 : Int).toNat ((wr (x8 + 1)) : Int).toNat)))], [.box (qfixUnf4 g) 24 false, .gone]⟩ (by kernel_rfl) ?_
 have hp_3 := h.1
 replace h := h.2
 refine WL.val hn (by rfl) (val_addS (u := ((qfixUnf1).extract (x8 : Int).toNat ((wr (x8 + 1)) : Int).toNat)) (v := (qfixUnf0)) rfl (by rfl) (by rfl) hp_3) (by rfl) ?_
 refine WL.run ht hn 1 ⟨[sl 1 (.v (.string s)), sl 2 (.ptr 0 0), sl 8 (I x8), sl 67 (.v (.string (((qfixUnf1).extract (x8 : Int).toNat ((wr (x8 + 1)) : Int).toNat) ++ (qfixUnf0)))), sl 68 (.v (.string s))], [.box (qfixUnf4 g) 24 false, .gone]⟩ (by kernel_rfl) ?_
 have hp_4 := h.1
 replace h := h.2
 refine WL.val hn (by rfl) (val_addS (u := (((qfixUnf1).extract (x8 : Int).toNat ((wr (x8 + 1)) : Int).toNat) ++ (qfixUnf0))) (v := s) rfl (by rfl) (by rfl) hp_4) (by rfl) ?_
 have hp_5 := h.1
 replace h := h.2
 refine WL.val hn (by rfl) (val_addS (u := ((((qfixUnf1).extract (x8 : Int).toNat ((wr (x8 + 1)) : Int).toNat) ++ (qfixUnf0)) ++ s)) (v := (qfixUnf3)) rfl (by rfl) (by rfl) hp_5) (by rfl) ?_
 refine WL.run ht hn 1 ⟨[sl 1 (.v (.string s)), sl 2 (.ptr 0 0), sl 8 (I x8), sl 10 (.v (.string (((((qfixUnf1).extract (x8 : Int).toNat ((wr (x8 + 1)) : Int).toNat) ++ (qfixUnf0)) ++ s) ++ (qfixUnf3))))], [.box (qfixUnf4 g) 24 false, .gone]⟩ (by kernel_rfl) ?_
 refine WL.nil ?_
 refine En.seq ?_
 refine En.region ?_
 refine WL.run ht hn 1 ⟨[sl 1 (.v (.string s)), sl 2 (.ptr 0 0), sl 8 (I x8), sl 10 (.v (.string (((((qfixUnf1).extract (x8 : Int).toNat ((wr (x8 + 1)) : Int).toNat) ++ (qfixUnf0)) ++ s) ++ (qfixUnf3)))), sl 71 (.v (.string (((((qfixUnf1).extract (x8 : Int).toNat ((wr (x8 + 1)) : Int).toNat) ++ (qfixUnf0)) ++ s) ++ (qfixUnf3))))], [.box (qfixUnf4 g) 24 false, .gone]⟩ (by kernel_rfl) ?_
 refine WL.mtQ (Q := CheckF (((((qfixUnf1).extract (x8 : Int).toNat ((wr (x8 + 1)) : Int).toNat) ++ (qfixUnf0)) ++ s) ++ (qfixUnf3))) (x := fun (r : ApiFault) => .sv (.agg (ApiFault.cl r))) (p := fun _ => none) hn (by rfl) (mtq_call (fCheck_ct (((((qfixUnf1).extract (x8 : Int).toNat ((wr (x8 + 1)) : Int).toNat) ++ (qfixUnf0)) ++ s) ++ (qfixUnf3))) en15 (caps := []) [] rfl (by rfl) (by kernel_rfl) (by kernel_rfl) (by rfl) (fun _ => rfl) (by rfl)) (fun r hr_2 => ⟨by rfl, _, by rfl, ?_⟩)
 replace h := h r hr_2
 refine WL.run ht hn 2 ⟨[sl 1 (.v (.string s)), sl 2 (.ptr 0 0), sl 8 (I x8), sl 10 (.v (.string (((((qfixUnf1).extract (x8 : Int).toNat ((wr (x8 + 1)) : Int).toNat) ++ (qfixUnf0)) ++ s) ++ (qfixUnf3)))), sl 11 (.ptr 2 0)], [.box (qfixUnf4 g) 24 false, .gone, .box (ApiFault.cl r) 32 false]⟩ (by kernel_rfl) ?_
 refine WL.nil ?_
 refine En.seq ?_
 refine En.seq ?_
 refine En.region ?_
 refine WL.run ht hn 3 ⟨[sl 1 (.v (.string s)), sl 2 (.ptr 0 0), sl 8 (I x8), sl 10 (.v (.string (((((qfixUnf1).extract (x8 : Int).toNat ((wr (x8 + 1)) : Int).toNat) ++ (qfixUnf0)) ++ s) ++ (qfixUnf3)))), sl 75 (B (r.fCode != 0))], [.box (qfixUnf4 g) 24 false, .gone, .gone]⟩ (by kernel_rfl) ?_
 refine WL.nil ?_
 refine En.cond (b := (r.fCode != 0)) (by kernel_rfl) (fun hb => ?_) (fun hb => ?_)
 replace h := h.1 hb
 refine En.seq ?_
 refine En.region ?_
 refine WL.run ht hn 1 ⟨[sl 4 (B true)], [.gone, .gone, .gone]⟩ (by kernel_rfl) ?_
 refine WL.nil ?_
 refine En.ret ?_
 exact En.back ht true h (by kernel_rfl) rfl
 replace h := h.2 hb
 refine En.skip ?_
 refine En.seq ?_
 refine En.region ?_
 refine WL.run ht hn 1 ⟨[sl 1 (.v (.string s)), sl 2 (.ptr 0 0), sl 8 (I x8), sl 10 (.v (.string (((((qfixUnf1).extract (x8 : Int).toNat ((wr (x8 + 1)) : Int).toNat) ++ (qfixUnf0)) ++ s) ++ (qfixUnf3)))), sl 12 (.v (.string (ByteArray.mk #[])))], [.box (qfixUnf4 g) 24 false, .gone, .gone]⟩ (by kernel_rfl) ?_
 refine WL.nil ?_
 refine En.seq ?_
 refine En.seq ?_
 refine En.region ?_
 refine WL.run ht hn 1 ⟨[sl 1 (.v (.string s)), sl 2 (.ptr 0 0), sl 8 (I x8), sl 10 (.v (.string (((((qfixUnf1).extract (x8 : Int).toNat ((wr (x8 + 1)) : Int).toNat) ++ (qfixUnf0)) ++ s) ++ (qfixUnf3)))), sl 12 (.v (.string (ByteArray.mk #[]))), sl 13 (I 0)], [.box (qfixUnf4 g) 24 false, .gone, .gone]⟩ (by kernel_rfl) ?_
 refine WL.nil ?_
 refine En.block ?_
 obtain ⟨Inv_3, mu_3, h0_2, hI_2⟩ := h
 refine En.loop (σ := ByteArray × Int) (fun zz => Inv_3 zz.1 zz.2) (fun zz => mu_3 zz.1 zz.2) (fun zz => ⟨[sl 1 (.v (.string s)), sl 2 (.ptr 0 0), sl 8 (I x8), sl 10 (.v (.string (((((qfixUnf1).extract (x8 : Int).toNat ((wr (x8 + 1)) : Int).toNat) ++ (qfixUnf0)) ++ s) ++ (qfixUnf3)))), sl 12 (.v (.string zz.1)), sl 13 (I zz.2)], [.box (qfixUnf4 g) 24 false, .gone, .gone]⟩) ((ByteArray.mk #[]), 0) h0_2 (sub_ok (by kernel_rfl)) ?_
 rintro ⟨x12, x13⟩ h
 replace h := hI_2 _ _ h
 show En c ⟨[sl 1 (.v (.string s)), sl 2 (.ptr 0 0), sl 8 (I x8), sl 10 (.v (.string (((((qfixUnf1).extract (x8 : Int).toNat ((wr (x8 + 1)) : Int).toNat) ++ (qfixUnf0)) ++ s) ++ (qfixUnf3)))), sl 12 (.v (.string x12)), sl 13 (I x13)], [.box (qfixUnf4 g) 24 false, .gone, .gone]⟩ _
 refine En.seq ?_
 refine En.seq ?_
 refine En.region ?_
 refine WL.run ht hn 2 ⟨[sl 1 (.v (.string s)), sl 2 (.ptr 0 0), sl 8 (I x8), sl 10 (.v (.string (((((qfixUnf1).extract (x8 : Int).toNat ((wr (x8 + 1)) : Int).toNat) ++ (qfixUnf0)) ++ s) ++ (qfixUnf3)))), sl 12 (.v (.string x12)), sl 13 (I x13), sl 76 (I x13), sl 77 (.v (.string s))], [.box (qfixUnf4 g) 24 false, .gone, .gone]⟩ (by kernel_rfl) ?_
 refine WL.val hn (by rfl) (val_lenS (s := s) rfl Try.underlying9 (by rfl)) (by rfl) ?_
 refine WL.run ht hn 1 ⟨[sl 1 (.v (.string s)), sl 2 (.ptr 0 0), sl 8 (I x8), sl 10 (.v (.string (((((qfixUnf1).extract (x8 : Int).toNat ((wr (x8 + 1)) : Int).toNat) ++ (qfixUnf0)) ++ s) ++ (qfixUnf3)))), sl 12 (.v (.string x12)), sl 13 (I x13), sl 79 (B (decide (x13 < (s.size : Int))))], [.box (qfixUnf4 g) 24 false, .gone, .gone]⟩ (by kernel_rfl) ?_
 refine WL.nil ?_
 refine En.cond (b := (decide (x13 < (s.size : Int)))) (by kernel_rfl) (fun hb => ?_) (fun hb => ?_)
 replace h := h.1 hb
 refine En.skip ?_
 obtain ⟨J_4, h, hJ_4⟩ := h
 refine En.seqJ (σ := ByteArray) (fun zz => J_4 zz) (fun zz => ⟨[sl 1 (.v (.string s)), sl 2 (.ptr 0 0), sl 8 (I x8), sl 10 (.v (.string (((((qfixUnf1).extract (x8 : Int).toNat ((wr (x8 + 1)) : Int).toNat) ++ (qfixUnf0)) ++ s) ++ (qfixUnf3)))), sl 12 (.v (.string zz)), sl 13 (I x13)], [.box (qfixUnf4 g) 24 false, .gone, .gone]⟩) ?_ ?_
 refine En.block ?_
 refine En.seq ?_
 refine En.region ?_
 refine WL.run ht hn 2 ⟨[sl 1 (.v (.string s)), sl 2 (.ptr 0 0), sl 8 (I x8), sl 10 (.v (.string (((((qfixUnf1).extract (x8 : Int).toNat ((wr (x8 + 1)) : Int).toNat) ++ (qfixUnf0)) ++ s) ++ (qfixUnf3)))), sl 12 (.v (.string x12)), sl 13 (I x13), sl 82 (.v (.string s)), sl 83 (I x13)], [.box (qfixUnf4 g) 24 false, .gone, .gone]⟩ (by kernel_rfl) ?_
 obtain ⟨b_3, hb_4, h⟩ := h
 refine WL.val hn (by rfl) (val_indexS (s := s) (i := x13) rfl Try.underlying9 (by rfl) (by rfl) hb_4) (by rfl) ?_
 refine WL.run ht hn 1 ⟨[sl 1 (.v (.string s)), sl 2 (.ptr 0 0), sl 8 (I x8), sl 10 (.v (.string (((((qfixUnf1).extract (x8 : Int).toNat ((wr (x8 + 1)) : Int).toNat) ++ (qfixUnf0)) ++ s) ++ (qfixUnf3)))), sl 12 (.v (.string x12)), sl 13 (I x13), sl 85 (B (b_3 == 88))], [.box (qfixUnf4 g) 24 false, .gone, .gone]⟩ (by kernel_rfl) ?_
 refine WL.nil ?_
 refine En.cond (b := (b_3 == 88)) (by kernel_rfl) (fun hb => ?_) (fun hb => ?_)
 replace h := h.1 hb
 refine En.region ?_
 refine WL.run ht hn 1 ⟨[sl 1 (.v (.string s)), sl 2 (.ptr 0 0), sl 8 (I x8), sl 10 (.v (.string (((((qfixUnf1).extract (x8 : Int).toNat ((wr (x8 + 1)) : Int).toNat) ++ (qfixUnf0)) ++ s) ++ (qfixUnf3)))), sl 13 (I x13), sl 86 (.v (.string x12))], [.box (qfixUnf4 g) 24 false, .gone, .gone]⟩ (by kernel_rfl) ?_
 have hp_6 := h.1
 replace h := h.2
 refine WL.val hn (by rfl) (val_addS (u := x12) (v := (ByteArray.mk #[40])) rfl (by rfl) (by rfl) hp_6) (by rfl) ?_
 refine WL.run ht hn 1 ⟨[sl 1 (.v (.string s)), sl 2 (.ptr 0 0), sl 8 (I x8), sl 10 (.v (.string (((((qfixUnf1).extract (x8 : Int).toNat ((wr (x8 + 1)) : Int).toNat) ++ (qfixUnf0)) ++ s) ++ (qfixUnf3)))), sl 13 (I x13), sl 87 (.v (.string (x12 ++ (ByteArray.mk #[40])))), sl 88 (.v (.string (((((qfixUnf1).extract (x8 : Int).toNat ((wr (x8 + 1)) : Int).toNat) ++ (qfixUnf0)) ++ s) ++ (qfixUnf3))))], [.box (qfixUnf4 g) 24 false, .gone, .gone]⟩ (by kernel_rfl) ?_
 have hp_7 := h.1
 replace h := h.2
 refine WL.val hn (by rfl) (val_addS (u := (x12 ++ (ByteArray.mk #[40]))) (v := (((((qfixUnf1).extract (x8 : Int).toNat ((wr (x8 + 1)) : Int).toNat) ++ (qfixUnf0)) ++ s) ++ (qfixUnf3))) rfl (by rfl) (by rfl) hp_7) (by rfl) ?_
 have hp_8 := h.1
 replace h := h.2
 refine WL.val hn (by rfl) (val_addS (u := ((x12 ++ (ByteArray.mk #[40])) ++ (((((qfixUnf1).extract (x8 : Int).toNat ((wr (x8 + 1)) : Int).toNat) ++ (qfixUnf0)) ++ s) ++ (qfixUnf3)))) (v := (qfixUnf3)) rfl (by rfl) (by rfl) hp_8) (by rfl) ?_
 refine WL.run ht hn 1 ⟨[sl 1 (.v (.string s)), sl 2 (.ptr 0 0), sl 8 (I x8), sl 10 (.v (.string (((((qfixUnf1).extract (x8 : Int).toNat ((wr (x8 + 1)) : Int).toNat) ++ (qfixUnf0)) ++ s) ++ (qfixUnf3)))), sl 12 (.v (.string (((x12 ++ (ByteArray.mk #[40])) ++ (((((qfixUnf1).extract (x8 : Int).toNat ((wr (x8 + 1)) : Int).toNat) ++ (qfixUnf0)) ++ s) ++ (qfixUnf3))) ++ (qfixUnf3)))), sl 13 (I x13)], [.box (qfixUnf4 g) 24 false, .gone, .gone]⟩ (by kernel_rfl) ?_
 refine WL.nil ?_
 exact En.at (I := fun zz => J_4 zz) (T := fun zz => ⟨[sl 1 (.v (.string s)), sl 2 (.ptr 0 0), sl 8 (I x8), sl 10 (.v (.string (((((qfixUnf1).extract (x8 : Int).toNat ((wr (x8 + 1)) : Int).toNat) ++ (qfixUnf0)) ++ s) ++ (qfixUnf3)))), sl 12 (.v (.string zz)), sl 13 (I x13)], [.box (qfixUnf4 g) 24 false, .gone, .gone]⟩) (((x12 ++ (ByteArray.mk #[40])) ++ (((((qfixUnf1).extract (x8 : Int).toNat ((wr (x8 + 1)) : Int).toNat) ++ (qfixUnf0)) ++ s) ++ (qfixUnf3))) ++ (qfixUnf3)) h (by kernel_rfl)
 replace h := h.2 hb
 refine En.region ?_
 refine WL.run ht hn 5 ⟨[sl 1 (.v (.string s)), sl 2 (.ptr 0 0), sl 8 (I x8), sl 10 (.v (.string (((((qfixUnf1).extract (x8 : Int).toNat ((wr (x8 + 1)) : Int).toNat) ++ (qfixUnf0)) ++ s) ++ (qfixUnf3)))), sl 13 (I x13), sl 91 (.v (.string x12)), sl 92 (.v (.string s)), sl 93 (I x13), sl 95 (I (wr (x13 + 1)))], [.box (qfixUnf4 g) 24 false, .gone, .gone]⟩ (by kernel_rfl) ?_
 have hp_9 := h.1
 replace h := h.2
 refine WL.val hn (by rfl) (val_sliceS (s := s) (lv := x13) (hv := (wr (x13 + 1))) rfl Try.underlying9 (by rfl) (by rfl) (by rfl) hp_9) (by rfl) ?_
 have hp_10 := h.1
 replace h := h.2
 refine WL.val hn (by rfl) (val_addS (u := x12) (v := (s.extract (x13 : Int).toNat ((wr (x13 + 1)) : Int).toNat)) rfl (by rfl) (by rfl) hp_10) (by rfl) ?_
 refine WL.run ht hn 1 ⟨[sl 1 (.v (.string s)), sl 2 (.ptr 0 0), sl 8 (I x8), sl 10 (.v (.string (((((qfixUnf1).extract (x8 : Int).toNat ((wr (x8 + 1)) : Int).toNat) ++ (qfixUnf0)) ++ s) ++ (qfixUnf3)))), sl 12 (.v (.string (x12 ++ (s.extract (x13 : Int).toNat ((wr (x13 + 1)) : Int).toNat)))), sl 13 (I x13)], [.box (qfixUnf4 g) 24 false, .gone, .gone]⟩ (by kernel_rfl) ?_
 refine WL.nil ?_
 exact En.at (I := fun zz => J_4 zz) (T := fun zz => ⟨[sl 1 (.v (.string s)), sl 2 (.ptr 0 0), sl 8 (I x8), sl 10 (.v (.string (((((qfixUnf1).extract (x8 : Int).toNat ((wr (x8 + 1)) : Int).toNat) ++ (qfixUnf0)) ++ s) ++ (qfixUnf3)))), sl 12 (.v (.string zz)), sl 13 (I x13)], [.box (qfixUnf4 g) 24 false, .gone, .gone]⟩) (x12 ++ (s.extract (x13 : Int).toNat ((wr (x13 + 1)) : Int).toNat)) h (by kernel_rfl)
 intro x12_2 h
 replace h := hJ_4 _ h
 show En c ⟨[sl 1 (.v (.string s)), sl 2 (.ptr 0 0), sl 8 (I x8), sl 10 (.v (.string (((((qfixUnf1).extract (x8 : Int).toNat ((wr (x8 + 1)) : Int).toNat) ++ (qfixUnf0)) ++ s) ++ (qfixUnf3)))), sl 12 (.v (.string x12_2)), sl 13 (I x13)], [.box (qfixUnf4 g) 24 false, .gone, .gone]⟩ _
 refine En.region ?_
 refine WL.run ht hn 3 ⟨[sl 1 (.v (.string s)), sl 2 (.ptr 0 0), sl 8 (I x8), sl 10 (.v (.string (((((qfixUnf1).extract (x8 : Int).toNat ((wr (x8 + 1)) : Int).toNat) ++ (qfixUnf0)) ++ s) ++ (qfixUnf3)))), sl 12 (.v (.string x12_2)), sl 13 (I (wr (x13 + 1)))], [.box (qfixUnf4 g) 24 false, .gone, .gone]⟩ (by kernel_rfl) ?_
 refine WL.nil ?_
 exact En.at (I := fun zz => Inv_3 zz.1 zz.2 ∧ mu_3 zz.1 zz.2 < mu_3 x12 x13) (T := fun zz => ⟨[sl 1 (.v (.string s)), sl 2 (.ptr 0 0), sl 8 (I x8), sl 10 (.v (.string (((((qfixUnf1).extract (x8 : Int).toNat ((wr (x8 + 1)) : Int).toNat) ++ (qfixUnf0)) ++ s) ++ (qfixUnf3)))), sl 12 (.v (.string zz.1)), sl 13 (I zz.2)], [.box (qfixUnf4 g) 24 false, .gone, .gone]⟩) (x12_2, (wr (x13 + 1))) h (by kernel_rfl)
 replace h := h.2 hb
 refine En.exit rfl ?_
 refine En.seq ?_
 refine En.region ?_
 refine WL.run ht hn 2 ⟨[sl 1 (.v (.string s)), sl 2 (.ptr 0 0), sl 8 (I x8), sl 12 (.v (.string x12)), (99, .sv (.agg (qfixUnf4 g))), sl 100 (.v (.string (((((qfixUnf1).extract (x8 : Int).toNat ((wr (x8 + 1)) : Int).toNat) ++ (qfixUnf0)) ++ s) ++ (qfixUnf3))))], [.box (qfixUnf4 g) 24 false, .gone, .gone]⟩ (by kernel_rfl) ?_
 refine WL.mt0 (K := []) (p := none) hn (by rfl) (mt_call (fHolds_ct g (((((qfixUnf1).extract (x8 : Int).toNat ((wr (x8 + 1)) : Int).toNat) ++ (qfixUnf0)) ++ s) ++ (qfixUnf3))) en14 (caps := []) [] rfl (by rfl) (by kernel_rfl) (by kernel_rfl) (by rfl) (by rfl) (by rfl)) (by rfl) (by rfl) (by rfl) ?_
 refine WL.run ht hn 5 ⟨[sl 1 (.v (.string s)), sl 2 (.ptr 0 0), sl 8 (I x8), sl 12 (.v (.string x12)), sl 14 (LS boolT (HoldsF g (((((qfixUnf1).extract (x8 : Int).toNat ((wr (x8 + 1)) : Int).toNat) ++ (qfixUnf0)) ++ s) ++ (qfixUnf3))).1), sl 15 (I (HoldsF g (((((qfixUnf1).extract (x8 : Int).toNat ((wr (x8 + 1)) : Int).toNat) ++ (qfixUnf0)) ++ s) ++ (qfixUnf3))).2)], [.box (qfixUnf4 g) 24 false, .gone, .gone]⟩ (by kernel_rfl) ?_
 refine WL.nil ?_
 refine En.seq ?_
 refine En.region ?_
 refine WL.run ht hn 2 ⟨[sl 1 (.v (.string s)), sl 2 (.ptr 0 0), sl 8 (I x8), sl 14 (LS boolT (HoldsF g (((((qfixUnf1).extract (x8 : Int).toNat ((wr (x8 + 1)) : Int).toNat) ++ (qfixUnf0)) ++ s) ++ (qfixUnf3))).1), sl 15 (I (HoldsF g (((((qfixUnf1).extract (x8 : Int).toNat ((wr (x8 + 1)) : Int).toNat) ++ (qfixUnf0)) ++ s) ++ (qfixUnf3))).2), (105, .sv (.agg (qfixUnf4 g))), sl 106 (.v (.string x12))], [.box (qfixUnf4 g) 24 false, .gone, .gone]⟩ (by kernel_rfl) ?_
 refine WL.mt0 (K := []) (p := none) hn (by rfl) (mt_call (fHolds_ct g x12) en14 (caps := []) [] rfl (by rfl) (by kernel_rfl) (by kernel_rfl) (by rfl) (by rfl) (by rfl)) (by rfl) (by rfl) (by rfl) ?_
 refine WL.run ht hn 5 ⟨[sl 1 (.v (.string s)), sl 2 (.ptr 0 0), sl 8 (I x8), sl 14 (LS boolT (HoldsF g (((((qfixUnf1).extract (x8 : Int).toNat ((wr (x8 + 1)) : Int).toNat) ++ (qfixUnf0)) ++ s) ++ (qfixUnf3))).1), sl 15 (I (HoldsF g (((((qfixUnf1).extract (x8 : Int).toNat ((wr (x8 + 1)) : Int).toNat) ++ (qfixUnf0)) ++ s) ++ (qfixUnf3))).2), sl 16 (LS boolT (HoldsF g x12).1), sl 17 (I (HoldsF g x12).2)], [.box (qfixUnf4 g) 24 false, .gone, .gone]⟩ (by kernel_rfl) ?_
 refine WL.nil ?_
 refine En.seq ?_
 refine En.seq ?_
 refine En.region ?_
 refine WL.run ht hn 3 ⟨[sl 1 (.v (.string s)), sl 2 (.ptr 0 0), sl 8 (I x8), sl 14 (LS boolT (HoldsF g (((((qfixUnf1).extract (x8 : Int).toNat ((wr (x8 + 1)) : Int).toNat) ++ (qfixUnf0)) ++ s) ++ (qfixUnf3))).1), sl 16 (LS boolT (HoldsF g x12).1), sl 17 (I (HoldsF g x12).2), sl 112 (B ((HoldsF g (((((qfixUnf1).extract (x8 : Int).toNat ((wr (x8 + 1)) : Int).toNat) ++ (qfixUnf0)) ++ s) ++ (qfixUnf3))).2 != 0))], [.box (qfixUnf4 g) 24 false, .gone, .gone]⟩ (by kernel_rfl) ?_
 refine WL.thru ⟨[sl 1 (.v (.string s)), sl 2 (.ptr 0 0), sl 8 (I x8), sl 14 (LS boolT (HoldsF g (((((qfixUnf1).extract (x8 : Int).toNat ((wr (x8 + 1)) : Int).toNat) ++ (qfixUnf0)) ++ s) ++ (qfixUnf3))).1), sl 16 (LS boolT (HoldsF g x12).1), sl 115 (B (((HoldsF g (((((qfixUnf1).extract (x8 : Int).toNat ((wr (x8 + 1)) : Int).toNat) ++ (qfixUnf0)) ++ s) ++ (qfixUnf3))).2 != 0) || ((HoldsF g x12).2 != 0)))], [.box (qfixUnf4 g) 24 false, .gone, .gone]⟩ ?_ ?_
 refine splitB ((HoldsF g (((((qfixUnf1).extract (x8 : Int).toNat ((wr (x8 + 1)) : Int).toNat) ++ (qfixUnf0)) ++ s) ++ (qfixUnf3))).2 != 0) (fun hb0 => ?_) (fun hb0 => ?_)
 refine WL.setB 112 hb0 (by kernel_rfl) ?_
 refine WL.run ht hn 3 ⟨[sl 1 (.v (.string s)), sl 2 (.ptr 0 0), sl 8 (I x8), sl 14 (LS boolT (HoldsF g (((((qfixUnf1).extract (x8 : Int).toNat ((wr (x8 + 1)) : Int).toNat) ++ (qfixUnf0)) ++ s) ++ (qfixUnf3))).1), sl 16 (LS boolT (HoldsF g x12).1), sl 115 (B true)], [.box (qfixUnf4 g) 24 false, .gone, .gone]⟩ (by kernel_rfl) ?_
 exact WL.nil (sub_ok (by simp only [hb0]; kernel_rfl))
 refine WL.setB 112 hb0 (by kernel_rfl) ?_
 refine WL.run ht hn 3 ⟨[sl 1 (.v (.string s)), sl 2 (.ptr 0 0), sl 8 (I x8), sl 14 (LS boolT (HoldsF g (((((qfixUnf1).extract (x8 : Int).toNat ((wr (x8 + 1)) : Int).toNat) ++ (qfixUnf0)) ++ s) ++ (qfixUnf3))).1), sl 16 (LS boolT (HoldsF g x12).1), sl 115 (B ((HoldsF g x12).2 != 0))], [.box (qfixUnf4 g) 24 false, .gone, .gone]⟩ (by kernel_rfl) ?_
 exact WL.nil (sub_ok (by simp only [hb0]; kernel_rfl))
 refine En.cond (b := (((HoldsF g (((((qfixUnf1).extract (x8 : Int).toNat ((wr (x8 + 1)) : Int).toNat) ++ (qfixUnf0)) ++ s) ++ (qfixUnf3))).2 != 0) || ((HoldsF g x12).2 != 0))) (by kernel_rfl) (fun hb => ?_) (fun hb => ?_)
 replace h := h.1 hb
 refine En.exit rfl ?_
 exact En.at (I := fun _ => J_3) (T := fun _ => ⟨[sl 1 (.v (.string s)), sl 2 (.ptr 0 0), sl 8 (I x8)], [.box (qfixUnf4 g) 24 false, .gone, .gone]⟩) () h (by kernel_rfl)
 replace h := h.2 hb
 refine En.skip ?_
 refine En.seq ?_
 refine En.region ?_
 refine WL.run ht hn 1 ⟨[sl 1 (.v (.string s)), sl 2 (.ptr 0 0), sl 8 (I x8), sl 14 (LS boolT (HoldsF g (((((qfixUnf1).extract (x8 : Int).toNat ((wr (x8 + 1)) : Int).toNat) ++ (qfixUnf0)) ++ s) ++ (qfixUnf3))).1), sl 16 (LS boolT (HoldsF g x12).1), sl 18 (I 0)], [.box (qfixUnf4 g) 24 false, .gone, .gone]⟩ (by kernel_rfl) ?_
 refine WL.nil ?_
 refine En.block ?_
 obtain ⟨Inv_4, mu_4, h0, hI⟩ := h
 refine En.loop (σ := Int) (fun zz => Inv_4 zz) (fun zz => mu_4 zz) (fun zz => ⟨[sl 1 (.v (.string s)), sl 2 (.ptr 0 0), sl 8 (I x8), sl 14 (LS boolT (HoldsF g (((((qfixUnf1).extract (x8 : Int).toNat ((wr (x8 + 1)) : Int).toNat) ++ (qfixUnf0)) ++ s) ++ (qfixUnf3))).1), sl 16 (LS boolT (HoldsF g x12).1), sl 18 (I zz)], [.box (qfixUnf4 g) 24 false, .gone, .gone]⟩) 0 h0 (sub_ok (by kernel_rfl)) ?_
 intro x18 h
 replace h := hI _ h
 show En c ⟨[sl 1 (.v (.string s)), sl 2 (.ptr 0 0), sl 8 (I x8), sl 14 (LS boolT (HoldsF g (((((qfixUnf1).extract (x8 : Int).toNat ((wr (x8 + 1)) : Int).toNat) ++ (qfixUnf0)) ++ s) ++ (qfixUnf3))).1), sl 16 (LS boolT (HoldsF g x12).1), sl 18 (I x18)], [.box (qfixUnf4 g) 24 false, .gone, .gone]⟩ _
 refine En.seq ?_
 refine En.seq ?_
 refine En.region ?_
 refine WL.run ht hn 4 ⟨[sl 1 (.v (.string s)), sl 2 (.ptr 0 0), sl 8 (I x8), sl 14 (LS boolT (HoldsF g (((((qfixUnf1).extract (x8 : Int).toNat ((wr (x8 + 1)) : Int).toNat) ++ (qfixUnf0)) ++ s) ++ (qfixUnf3))).1), sl 16 (LS boolT (HoldsF g x12).1), sl 18 (I x18), sl 119 (B (decide (x18 < ((HoldsF g (((((qfixUnf1).extract (x8 : Int).toNat ((wr (x8 + 1)) : Int).toNat) ++ (qfixUnf0)) ++ s) ++ (qfixUnf3))).1.length : Int))))], [.box (qfixUnf4 g) 24 false, .gone, .gone]⟩ (by kernel_rfl) ?_
 refine WL.nil ?_
 refine En.cond (b := (decide (x18 < ((HoldsF g (((((qfixUnf1).extract (x8 : Int).toNat ((wr (x8 + 1)) : Int).toNat) ++ (qfixUnf0)) ++ s) ++ (qfixUnf3))).1.length : Int)))) (by kernel_rfl) (fun hb => ?_) (fun hb => ?_)
 replace h := h.1 hb
 refine En.skip ?_
 refine En.seq ?_
 refine En.block ?_
 refine En.seq ?_
 obtain ⟨e_2, he_2, h⟩ := h
 obtain ⟨e_3, he_3, h⟩ := h
 refine En.regionA ⟨[sl 1 (.v (.string s)), sl 2 (.ptr 0 0), sl 8 (I x8), sl 14 (LS boolT (HoldsF g (((((qfixUnf1).extract (x8 : Int).toNat ((wr (x8 + 1)) : Int).toNat) ++ (qfixUnf0)) ++ s) ++ (qfixUnf3))).1), sl 16 (LS boolT (HoldsF g x12).1), sl 18 (I x18)], [.sv (.one (LS boolT (HoldsF g (((((qfixUnf1).extract (x8 : Int).toNat ((wr (x8 + 1)) : Int).toNat) ++ (qfixUnf0)) ++ s) ++ (qfixUnf3))).1)), .sv (.one (I x18)), .sv (.one (.pe (svR (.one (B e_2))) 1)), .sv (.one (B e_2)), .sv (.one (LS boolT (HoldsF g x12).1)), .sv (.one (I x18)), .sv (.one (.pe (svR (.one (B e_3))) 1)), .sv (.one (B e_3)), .sv (.one (B (e_2 != e_3)))], [⟨.box (qfixUnf4 g) 24 false, none, none, none⟩, ⟨.gone, none, none, none⟩, ⟨.gone, none, none, none⟩]⟩ ⟨[sl 1 (.v (.string s)), sl 2 (.ptr 0 0), sl 8 (I x8), sl 14 (LS boolT (HoldsF g (((((qfixUnf1).extract (x8 : Int).toNat ((wr (x8 + 1)) : Int).toNat) ++ (qfixUnf0)) ++ s) ++ (qfixUnf3))).1), sl 16 (LS boolT (HoldsF g x12).1), sl 18 (I x18), sl 130 (B (e_2 != e_3))], [.box (qfixUnf4 g) 24 false, .gone, .gone]⟩ (by kernel_rfl) hn (by kernel_rfl) (by rfl) (by kernel_rfl) ?_ (by kernel_rfl) ?_
 exact ⟨.mt ⟨[sl 14 (LS boolT (HoldsF g (((((qfixUnf1).extract (x8 : Int).toNat ((wr (x8 + 1)) : Int).toNat) ++ (qfixUnf0)) ++ s) ++ (qfixUnf3))).1)], []⟩ [] none (by kernel_rfl) (by rfl) (mt_ev ht (by kernel_rfl)) rfl rfl rfl rfl,
 .mt ⟨[sl 18 (I x18)], []⟩ [] none (by kernel_rfl) (by rfl) (mt_ev ht (by kernel_rfl)) rfl rfl rfl rfl,
 .mt ⟨[sl 122 (LS boolT (HoldsF g (((((qfixUnf1).extract (x8 : Int).toNat ((wr (x8 + 1)) : Int).toNat) ++ (qfixUnf0)) ++ s) ++ (qfixUnf3))).1), sl 123 (I x18)], []⟩ [] none (by kernel_rfl) (by rfl) (mt_val (val_index (T := boolT) (l := (HoldsF g (((((qfixUnf1).extract (x8 : Int).toNat ((wr (x8 + 1)) : Int).toNat) ++ (qfixUnf0)) ++ s) ++ (qfixUnf3))).1) (i := x18) ht rfl (by rfl) (by rfl) (by rfl) (by rfl) (by rfl) (by rfl) he_2)) rfl rfl rfl rfl,
 .mt ⟨[sl 124 (.pe (svR (.one (B e_2))) 1)], []⟩ [] none (by kernel_rfl) (by rfl) (mt_val (val_load (s := .one (B e_2)) ht rfl (by rfl) (by rfl) (by rfl) (by rfl) (by rfl))) rfl rfl rfl rfl,
 .mt ⟨[sl 16 (LS boolT (HoldsF g x12).1)], []⟩ [] none (by kernel_rfl) (by rfl) (mt_ev ht (by kernel_rfl)) rfl rfl rfl rfl,
 .mt ⟨[sl 18 (I x18)], []⟩ [] none (by kernel_rfl) (by rfl) (mt_ev ht (by kernel_rfl)) rfl rfl rfl rfl,
 .mt ⟨[sl 126 (LS boolT (HoldsF g x12).1), sl 127 (I x18)], []⟩ [] none (by kernel_rfl) (by rfl) (mt_val (val_index (T := boolT) (l := (HoldsF g x12).1) (i := x18) ht rfl (by rfl) (by rfl) (by rfl) (by rfl) (by rfl) (by rfl) he_3)) rfl rfl rfl rfl,
 .mt ⟨[sl 128 (.pe (svR (.one (B e_3))) 1)], []⟩ [] none (by kernel_rfl) (by rfl) (mt_val (val_load (s := .one (B e_3)) ht rfl (by rfl) (by rfl) (by rfl) (by rfl) (by rfl))) rfl rfl rfl rfl,
 .mt ⟨[sl 125 (B e_2), sl 129 (B e_3)], []⟩ [] none (by kernel_rfl) (by rfl) (mt_val (val_eqB (u := e_2) (v := e_3) rfl Try.underlying4 (by rfl) (by rfl) (.inr ⟨rfl, rfl⟩))) rfl rfl rfl rfl,
 trivial⟩
 refine En.cond (b := (e_2 != e_3)) (by kernel_rfl) (fun hb => ?_) (fun hb => ?_)
 replace h := h.1 hb
 refine En.seq ?_
 refine En.region ?_
 refine WL.run ht hn 1 ⟨[sl 4 (B false)], [.gone, .gone, .gone]⟩ (by kernel_rfl) ?_
 refine WL.nil ?_
 refine En.ret ?_
 exact En.back ht false h (by kernel_rfl) rfl
 replace h := h.2 hb
 refine En.skip ?_
 refine En.region ?_
 refine WL.run ht hn 3 ⟨[sl 1 (.v (.string s)), sl 2 (.ptr 0 0), sl 8 (I x8), sl 14 (LS boolT (HoldsF g (((((qfixUnf1).extract (x8 : Int).toNat ((wr (x8 + 1)) : Int).toNat) ++ (qfixUnf0)) ++ s) ++ (qfixUnf3))).1), sl 16 (LS boolT (HoldsF g x12).1), sl 18 (I (wr (x18 + 1)))], [.box (qfixUnf4 g) 24 false, .gone, .gone]⟩ (by kernel_rfl) ?_
 refine WL.nil ?_
 exact En.at (I := fun zz => Inv_4 zz ∧ mu_4 zz < mu_4 x18) (T := fun zz => ⟨[sl 1 (.v (.string s)), sl 2 (.ptr 0 0), sl 8 (I x8), sl 14 (LS boolT (HoldsF g (((((qfixUnf1).extract (x8 : Int).toNat ((wr (x8 + 1)) : Int).toNat) ++ (qfixUnf0)) ++ s) ++ (qfixUnf3))).1), sl 16 (LS boolT (HoldsF g x12).1), sl 18 (I zz)], [.box (qfixUnf4 g) 24 false, .gone, .gone]⟩) (wr (x18 + 1)) h (by kernel_rfl)
 replace h := h.2 hb
 refine En.exit rfl ?_
 exact En.at (I := fun _ => J_3) (T := fun _ => ⟨[sl 1 (.v (.string s)), sl 2 (.ptr 0 0), sl 8 (I x8)], [.box (qfixUnf4 g) 24 false, .gone, .gone]⟩) () h (by kernel_rfl)
 intro _ h
 replace h := hJ_3 h
 show En c ⟨[sl 1 (.v (.string s)), sl 2 (.ptr 0 0), sl 8 (I x8)], [.box (qfixUnf4 g) 24 false, .gone, .gone]⟩ _
 refine En.region ?_
 refine WL.run ht hn 3 ⟨[sl 1 (.v (.string s)), sl 2 (.ptr 0 0), sl 8 (I (wr (x8 + 1)))], [.box (qfixUnf4 g) 24 false, .gone, .gone]⟩ (by kernel_rfl) ?_
 refine WL.nil ?_
 exact En.at (I := fun zz => Inv_2 zz ∧ mu_2 zz < mu_2 x8) (T := fun zz => ⟨[sl 1 (.v (.string s)), sl 2 (.ptr 0 0), sl 8 (I zz)], [.box (qfixUnf4 g) 24 false, .gone]⟩) (wr (x8 + 1)) h (by kernel_rfl)
 replace h := h.2 hb
 refine En.exit rfl ?_
 refine En.seq ?_
 refine En.region ?_
 refine WL.run ht hn 1 ⟨[sl 4 (B true)], [.gone, .gone]⟩ (by kernel_rfl) ?_
 refine WL.nil ?_
 refine En.ret ?_
 exact En.back ht true h (by kernel_rfl) rfl
def putP (s wh : ByteArray) : Nat → ByteArray
 | 0 => ByteArray.mk #[]
 | m + 1 => if fch s m = 88 then ((putP s wh m ++ ByteArray.mk #[40]) ++ wh) ++ ByteArray.mk #[41] else putP s wh m ++ s.extract m (m + 1)
section
variable {s wh : ByteArray}
theorem ext1_size {m : Nat} (h : m < s.size) : (s.extract m (m + 1)).size = 1 := by
 rw [ByteArray.size_extract]
 omega
theorem ext1_ch {m : Nat} (h : m < s.size) : fch (s.extract m (m + 1)) 0 = fch s m := by
 unfold fch byteAt
 rw [if_pos (by decide), if_pos (Int.natCast_nonneg _), byteF_data, byteF_data, ByteArray.data_extract, Array.getElem?_extract, Int.toNat_natCast]
 rw [if_pos (by have : s.data.size = s.size := rfl; simp only [Int.toNat_zero]; omega)]
 simp
theorem put_X {m : Nat} (h : fch s m = 88) : putP s wh (m + 1) = ((putP s wh m ++ ByteArray.mk #[40]) ++ wh) ++ ByteArray.mk #[41] := by rw [putP, if_pos h]
theorem put_c {m : Nat} (h : fch s m ≠ 88) : putP s wh (m + 1) = putP s wh m ++ s.extract m (m + 1) := by rw [putP, if_neg h]
theorem put_sizeX {m : Nat} (h : fch s m = 88) : ((putP s wh (m + 1)).size : Int) = (putP s wh m).size + wh.size + 2 := by
 have z1 : (ByteArray.mk #[40]).size = 1 := rfl
 have z2 : (ByteArray.mk #[41]).size = 1 := rfl
 rw [put_X h]
 simp only [ByteArray.size_append]
 omega
theorem put_sizeC {m : Nat} (hm : m < s.size) (h : fch s m ≠ 88) : ((putP s wh (m + 1)).size : Int) = (putP s wh m).size + 1 := by
 rw [put_c h, ByteArray.size_append, ext1_size hm]
 omega
theorem put_up {m : Nat} (hm : m < s.size) : (putP s wh m).size < (putP s wh (m + 1)).size := by
 by_cases h : fch s m = 88
 ·have := put_sizeX (wh := wh) h; omega
 ·have := put_sizeC (wh := wh) hm h; omega
theorem put_le {m : Nat} : ∀ {n : Nat}, n ≤ s.size → m ≤ n → (putP s wh m).size ≤ (putP s wh n).size
 | 0, _, h => by
  have : m = 0 := by omega
  rw [this]
  exact Nat.le_refl _
 | n + 1, hn, h => by
  by_cases e : m = n + 1
  ·rw [e]
   exact Nat.le_refl _
  ·have := put_up (wh := wh) (s := s) (m := n) (by omega)
   have := put_le (m := m) (n := n) (by omega) (by omega)
   omega
theorem put_inj {m : Nat} (hm : m ≤ s.size) (h : (putP s wh m).size = (putP s wh s.size).size) : m = s.size := by
 by_cases e : m = s.size
 ·exact e
 ·have h1 := put_up (wh := wh) (s := s) (m := m) (by omega)
  have h2 := put_le (s := s) (wh := wh) (m := m + 1) (n := s.size) (Nat.le_refl _) (by omega)
  omega
theorem put_pre {m : Nat} {p : Int} (hp : p < (putP s wh m).size) : ∀ {n : Nat}, n ≤ s.size → m ≤ n → fch (putP s wh n) p = fch (putP s wh m) p
 | 0, _, h => by
  have : m = 0 := by omega
  rw [this]
 | n + 1, hn, h => by
  by_cases e : m = n + 1
  ·rw [e]
  ·have hle := put_le (wh := wh) (s := s) (m := m) (n := n) (by omega) (by omega)
   rw [← put_pre hp (n := n) (by omega) (by omega)]
   by_cases hx : fch s n = 88
   ·rw [put_X hx, fch_l (by simp only [ByteArray.size_append]; omega), fch_l (by simp only [ByteArray.size_append]; omega), fch_l (by omega)]
   ·rw [put_c hx, fch_l (by omega)]
theorem simT_of {W : FTr} {K : Nat} (hW : qF wh K 2 [] 0 = some (W, (wh.size : Int))) (hin : ∀ i : Nat, i < s.size → fch wh (4 + (i : Int)) = fch s i) (hcl : fch wh (4 + (s.size : Int)) = 41) (hno : ∀ i : Nat, i < s.size → fch s i ≠ 109 ∧ fch s i ≠ 110) : SimT s wh (putP s wh s.size) (fun i => ((putP s wh i).size : Int)) W where
 z := rfl
 e := rfl
 ch := fun i hi h => by
  refine ⟨?_, put_sizeC hi h⟩
  have hz := put_sizeC (wh := wh) hi h
  show fch (putP s wh s.size) ((putP s wh i).size : Int) = _
  rw [put_pre (m := i + 1) (by omega) (Nat.le_refl _) (by omega), put_c h, fch_r (j := 0) (by omega) (by decide), ext1_ch hi]
 chX := fun i hi h => by
  have hz := put_sizeX (wh := wh) h
  have z1 : (ByteArray.mk #[40]).size = 1 := rfl
  have z2 : (ByteArray.mk #[41]).size = 1 := rfl
  have hle := put_le (wh := wh) (s := s) (m := i + 1) (n := s.size) (Nat.le_refl _) (by omega)
  have h40 : fch (putP s wh s.size) ((putP s wh i).size : Int) = 40 := by
   rw [put_pre (m := i + 1) (by omega) (Nat.le_refl _) (by omega), put_X h, fch_l (by simp only [ByteArray.size_append]; omega), fch_l (by simp only [ByteArray.size_append]; omega), fch_r (j := 0) (by omega) (by decide)]
   rfl
  refine ⟨h40, K + 1, rf_in (o := (putP s wh i).size + 1) ⟨by omega, fun p h0 h1 => ?_, ?_⟩ (by omega) hW h40 rfl (by show ((putP s wh (i + 1)).size : Int) = _; omega)⟩
  ·rw [put_pre (m := i + 1) (by omega) (Nat.le_refl _) (by omega), put_X h, fch_l (by simp only [ByteArray.size_append]; omega), fch_r (j := p) (by simp only [ByteArray.size_append]; omega) h0]
  ·rw [put_pre (m := i + 1) (by omega) (Nat.le_refl _) (by omega), put_X h, fch_r (j := 0) (by simp only [ByteArray.size_append]; omega) (by decide)]
   rfl
 inn := hin
 close := hcl
 no := hno
theorem lop_end {c : ByteArray} {ch : Int} {f : Int → Option (FTr × Int)} (hch : ch ≠ 0) : ∀ {m : Nat} {t x : FTr} {p e : Int}, c.size ≤ p → lopQFL ch f c m t p = some (x, e) → x = t ∧ e = p
 | 0, _, _, _, _, _, h => by simp [lopQFL] at h
 | m + 1, t, x, p, e, hp, h => by
  rw [lopQFL, if_neg (by rw [fch_end hp]; omega)] at h
  cases h
  exact ⟨rfl, rfl⟩
theorem unf_alike {g : ApiGraph} (hg : ToOk g) {c : Int} (hc : c = 109 ∨ c = 110) (h0 : fch wh 0 = c) (h1 : fch wh 1 = 88) (h2 : fch wh 2 = 46) (h3 : fch wh 3 = 40) (hz : (wh.size : Int) = 5 + s.size) (hin : ∀ i : Nat, i < s.size → fch wh (4 + (i : Int)) = fch s i) (hcl : fch wh (4 + (s.size : Int)) = 41) (hno : ∀ i : Nat, i < s.size → fch s i ≠ 109 ∧ fch s i ≠ 110) {W x : FTr} (hW : fullF wh = some W) (hx : fullF (putP s wh s.size) = some x) : semF g 30 x [] = semF g 30 W [] := by
 obtain ⟨_, wW, qW⟩ := fullF_some hW
 obtain ⟨_, wx, qx⟩ := fullF_some hx
 have sim := simT_of qW hin hcl hno
 obtain ⟨K, hK⟩ : ∃ K, 4 * wh.size + 4 = K + 4 := ⟨4 * wh.size, rfl⟩
 have q2 := qW
 rw [hK] at q2
 obtain ⟨⟨t1, p1⟩, z1, e1⟩ := Option.bind_eq_some_iff.1 (show (qF wh (K + 3) 1 [] 0).bind (fun r => lopQFL 124 (qF wh (K + 3) 1 []) wh (wh.size + 1) r.1 r.2) = some (W, (wh.size : Int)) from q2)
 obtain ⟨⟨t0, p0⟩, z0, e0⟩ := Option.bind_eq_some_iff.1 (show (qF wh (K + 2) 0 [] 0).bind (fun r => lopQFL 38 (qF wh (K + 2) 0 []) wh (wh.size + 1) r.1 r.2) = some (t1, p1) from z1)
 have z0 : parQF (qF wh (K + 1) 0) (qF wh (K + 1) 2) wh [] 0 = some (t0, p0) := z0
 unfold parQF at z0
 rw [h0, if_neg (by omega), if_neg (by omega), if_neg (by omega), if_pos hc] at z0
 unfold lpQ at z0
 rw [show (0 : Int) + 1 = 1 from rfl, show (1 : Int) + 1 = 2 from rfl, show (2 : Int) + 1 = 3 from rfl, h1, h2, if_pos (by decide)] at z0
 obtain ⟨⟨ts', q⟩, z3, z0⟩ := Option.bind_eq_some_iff.1 z0
 cases z0
 have z3 : parQF (qF wh K 0) (qF wh K 2) wh [⟨88, false⟩] 3 = some (ts', _) := z3
 unfold parQF at z3
 rw [h3, if_neg (by decide), if_neg (by decide), if_neg (by decide), if_neg (by decide), if_neg (by decide), if_pos rfl, show (3 : Int) + 1 = 4 from rfl] at z3
 obtain ⟨⟨ts, q'⟩, z4, z3⟩ := Option.bind_eq_some_iff.1 z3
 simp only at z3
 split at z3
 case isFalse => cases z3
 have ets : ts = ts' := by injection z3 with z; injection z
 have eq' : q = q' + 1 := by injection z3 with z; injection z with _ z; exact z.symm
 rw [ets] at z4
 obtain ⟨j, j1, j2, j3, j4, j5⟩ := sim_all sim _ K 2 0 false x ts' _ q' (Nat.zero_le _) qx (by rw [show (4 : Int) + ((0 : Nat) : Int) = 4 from rfl]; exact z4)
 have hj : j = s.size := put_inj (wh := wh) j2 (by have j3 : ((putP s wh s.size).size : Int) = (putP s wh j).size := j3; omega)
 rw [hj] at j4
 have hq : (wh.size : Int) ≤ q := by rw [eq', j4]; omega
 obtain ⟨a1, a2⟩ := lop_end (by decide) hq e0
 obtain ⟨b1, b2⟩ := lop_end (by decide) (by rw [a2]; exact hq) e1
 rw [b1, a1] at wW j5 ⊢
 exact unfold_sem hg hc wW wx j5
end
theorem holdsF_at {g : ApiGraph} {c : ByteArray} (h : (HoldsF g c).2 = 0) : samErr g = 0 ∧ ∃ t, fullF c = some t ∧ (HoldsF g c).1 = semF g 30 t [] := by
 unfold HoldsF at h ⊢
 by_cases hs : samErr g ≠ 0
 ·rw [if_pos hs] at h
  exact absurd h hs
 ·rw [if_neg hs] at h ⊢
  cases hf : fullF c with
  | none =>
   rw [hf] at h
   cases h
  | some t => exact ⟨Decidable.not_not.1 hs, t, rfl, rfl⟩
theorem holdsF_len {g : ApiGraph} {c : ByteArray} (h : (HoldsF g c).2 = 0) : (HoldsF g c).1.length = g.fPlaces.toNat ∧ GraphOk g := by
 obtain ⟨h1, t, h2, h3⟩ := holdsF_at h
 rw [h3]
 exact ⟨sem_len (fullF_some h2).2.1 ⟨rfl, fun s hs => by cases hs⟩, samErr_ok h1⟩
theorem heldF : HoldsF ⟨1, 1, [⟨0, 0, 0⟩]⟩ (ByteArray.mk #[110, 88, 46, 60, 97, 62, 88]) = ([true], 0) := by kernel_rfl
theorem fStep {a b : List Bool} {ca cb : Int} {Qf : Prop} (h : ca = 0 → cb = 0 → a = b ∧ a.length ≤ 1000) : IfP ((ca != 0) || (cb != 0)) True (∃ (Inv_2 : Int → Prop) (mu_2 : Int → Nat), Inv_2 0 ∧ ∀ (x19 : Int), Inv_2 x19 → (IfP (decide (x19 < (a.length : Int))) (∃ e_4, idx a x19 = some e_4 ∧ ∃ e_5, idx b x19 = some e_5 ∧ IfP (e_4 != e_5) Qf ((Inv_2 (wr (x19 + 1)) ∧ mu_2 (wr (x19 + 1)) < mu_2 x19))) True)) := by
 refine ⟨fun _ => trivial, fun hb => ?_⟩
 rw [Bool.or_eq_false_iff, bne_eq_false_iff_eq, bne_eq_false_iff_eq] at hb
 obtain ⟨e, hl⟩ := h hb.1 hb.2
 subst e
 refine ⟨fun j => ∃ m : Nat, j = m ∧ m ≤ a.length, fun j => (a.length - j).toNat, ⟨0, rfl, Nat.zero_le _⟩, ?_⟩
 rintro _ ⟨m, rfl, hm⟩
 refine ⟨fun hb => ?_, fun _ => trivial⟩
 have hlt : m < a.length := by have := of_decide_eq_true hb; omega
 have hi : idx a (m : Int) = some (a[m]) := by
  unfold idx
  rw [if_pos (Int.natCast_nonneg _), Int.toNat_natCast, List.getElem?_eq_getElem hlt]
 refine ⟨_, hi, _, hi, fun hne => ?_, fun _ => ?_⟩
 ·exact absurd rfl (bne_iff_ne.1 hne)
 ·rw [wr_in (by omega) (by omega)]
  refine ⟨⟨m + 1, by omega, by omega⟩, ?_⟩
  show (a.length - ((m : Int) + 1)).toNat < (a.length - (m : Int)).toNat
  omega
theorem fixUnf_ct (g : ApiGraph) (s : ByteArray) (hbk : s.size ≤ 9223372036854775807)  : Ct 6 [.sv (.agg [I g.fLetters, I g.fPlaces, LS ApiArrow.ty g.fArrows]), .sv (.one (.v (.string s)))] [] (fun (_ : Unit) => True) (fun _ => .sv (.one (B (true)))) := by
 refine (fixUnf_walk g s (fun res_ => res_ = (true)) ?_).fun
 unfold fixUnf_vc
 intro _
 refine ⟨fun b => b = false, ?_, ?_⟩
 ·have e : HoldsF (ApiGraph.mk 1 1 ([(ApiArrow.mk 0 0 0)] : (List ApiArrow))) (ByteArray.mk #[110, 88, 46, 60, 97, 62, 88]) = ([true], 0) := heldF
  rw [e]
  exact ⟨fun h => (by cases h), fun _ => ⟨fun h => (by cases h), fun _ => ⟨true, rfl, rfl⟩⟩⟩
 rintro _ rfl
 refine ⟨fun h => (by cases h), fun _ => ⟨fun i => ∃ m : Nat, i = m ∧ m ≤ s.size ∧ ∀ j : Nat, j < m → fch s j ≠ 109 ∧ fch s j ≠ 110, fun i => (s.size - i).toNat, ⟨0, rfl, Nat.zero_le _, fun j hj => by omega⟩, ?_⟩⟩
 rintro _ ⟨m, rfl, hm, hno⟩
 refine ⟨fun hb => ?_, fun hb => ⟨fun _ => rfl, fun h200 => ?_⟩⟩
 ·have hlt : m < s.size := by have := of_decide_eq_true hb; omega
  have hat : byteAt s (m : Int) = some (fch s m) := fAt_ok (Int.natCast_nonneg _) (by omega)
  refine ⟨fun b => b = (fch s m == 109 || fch s m == 110), ⟨_, hat, fun h => ?_, fun h => ⟨_, hat, ?_⟩⟩, fun b hb => ⟨fun _ => rfl, fun hf => ?_⟩⟩
  ·rw [h]
   rfl
  ·rw [h]
   rfl
  ·rw [hb, Bool.or_eq_false_iff, beq_eq_false_iff_ne, beq_eq_false_iff_ne] at hf
   have hw : wr ((m : Int) + 1) = ((m + 1 : Nat) : Int) := by rw [wr_in (by omega) (by omega)]; omega
   rw [hw]
   refine ⟨⟨m + 1, rfl, by omega, fun j hj => ?_⟩, by show (s.size - ((m + 1 : Nat) : Int)).toNat < (s.size - (m : Int)).toNat; omega⟩
   by_cases hjm : j = m
   ·rw [hjm]
    exact hf
   ·exact hno j (by omega)
 have hms : m = s.size := by have := of_decide_eq_false hb; omega
 subst hms
 have hz : s.size ≤ 200 := by have := of_decide_eq_false h200; omega
 have z0 : (ByteArray.mk #[109]).size = 1 := rfl
 have z1 : (ByteArray.mk #[110]).size = 1 := rfl
 have z2 : (ByteArray.mk #[88, 46, 40]).size = 3 := rfl
 have z3 : (ByteArray.mk #[41]).size = 1 := rfl
 have z4 : (ByteArray.mk #[40]).size = 1 := rfl
 have z5 : (ByteArray.mk #[109, 110]).size = 2 := rfl
 refine ⟨fun i => ∃ k : Nat, i = k ∧ k ≤ 2, fun i => (2 - i).toNat, ⟨0, rfl, by decide⟩, ?_⟩
 rintro _ ⟨k, rfl, hk⟩
 refine ⟨fun hi => ?_, fun _ => rfl⟩
 have hk2 : k < 2 := by have := of_decide_eq_true hi; omega
 have key : ∀ (C : ByteArray) (c : Int), C.size = 1 → fch C 0 = c → (c = 109 ∨ c = 110) → ∃ J_3 : Prop, (partOk (k : Int) (wr ((k : Int) + 1)) (ByteArray.mk #[109, 110]).size ∧ (C.size + (ByteArray.mk #[88, 46, 40]).size ≤ 1048576) ∧ ((C ++ (ByteArray.mk #[88, 46, 40])).size + s.size ≤ 1048576) ∧ (((C ++ (ByteArray.mk #[88, 46, 40])) ++ s).size + (ByteArray.mk #[41]).size ≤ 1048576) ∧
   ∀ r : ApiFault, (CheckF (((C ++ (ByteArray.mk #[88, 46, 40])) ++ s) ++ (ByteArray.mk #[41]))) r → (IfP (r.fCode != 0) (true = true) (∃ (Inv_3 : ByteArray → Int → Prop) (mu_3 : ByteArray → Int → Nat), Inv_3 (ByteArray.mk #[]) 0 ∧
   ∀ (x12 : ByteArray) (x13 : Int), Inv_3 x12 x13 → (IfP (decide (x13 < (s.size : Int))) (∃ J_4 : ByteArray → Prop, (∃ b_3, byteAt s x13 = some b_3 ∧
   IfP (b_3 == 88) ((x12.size + (ByteArray.mk #[40]).size ≤ 1048576) ∧ ((x12 ++ (ByteArray.mk #[40])).size + (((C ++ (ByteArray.mk #[88, 46, 40])) ++ s) ++ (ByteArray.mk #[41])).size ≤ 1048576) ∧ (((x12 ++ (ByteArray.mk #[40])) ++ (((C ++ (ByteArray.mk #[88, 46, 40])) ++ s) ++ (ByteArray.mk #[41]))).size + (ByteArray.mk #[41]).size ≤ 1048576) ∧
   J_4 (((x12 ++ (ByteArray.mk #[40])) ++ (((C ++ (ByteArray.mk #[88, 46, 40])) ++ s) ++ (ByteArray.mk #[41]))) ++ (ByteArray.mk #[41]))) (partOk x13 (wr (x13 + 1)) s.size ∧ (x12.size + (s.extract (x13 : Int).toNat ((wr (x13 + 1)) : Int).toNat).size ≤ 1048576) ∧ J_4 (x12 ++ (s.extract (x13 : Int).toNat ((wr (x13 + 1)) : Int).toNat)))) ∧
   (∀ (x12_2 : ByteArray), J_4 x12_2 → (Inv_3 x12_2 (wr (x13 + 1)) ∧ mu_3 x12_2 (wr (x13 + 1)) < mu_3 x12 x13))) (IfP (((HoldsF g (((C ++ (ByteArray.mk #[88, 46, 40])) ++ s) ++ (ByteArray.mk #[41]))).2 != 0) || ((HoldsF g x12).2 != 0)) (J_3) (∃ (Inv_4 : Int → Prop) (mu_4 : Int → Nat), Inv_4 0 ∧
   ∀ (x18 : Int), Inv_4 x18 → (IfP (decide (x18 < ((HoldsF g (((C ++ (ByteArray.mk #[88, 46, 40])) ++ s) ++ (ByteArray.mk #[41]))).1.length : Int))) (∃ e_2, idx (HoldsF g (((C ++ (ByteArray.mk #[88, 46, 40])) ++ s) ++ (ByteArray.mk #[41]))).1 x18 = some e_2 ∧ ∃ e_3, idx (HoldsF g x12).1 x18 = some e_3 ∧
   IfP (e_2 != e_3) (false = true) ((Inv_4 (wr (x18 + 1)) ∧ mu_4 (wr (x18 + 1)) < mu_4 x18))) (J_3)))))))) ∧ (J_3 → ((∃ k' : Nat, wr ((k : Int) + 1) = k' ∧ k' ≤ 2) ∧ (2 - wr ((k : Int) + 1)).toNat < (2 - (k : Int)).toNat)) := fun C c hC hc0 hc => by
  obtain ⟨wh, hwh⟩ : ∃ wh, wh = ((C ++ (ByteArray.mk #[88, 46, 40])) ++ s) ++ (ByteArray.mk #[41]) := ⟨_, rfl⟩
  rw [← hwh]
  have hzw : (wh.size : Int) = 5 + s.size := by rw [hwh]; simp only [ByteArray.size_append]; omega
  have ew : wr ((k : Int) + 1) = (k : Int) + 1 := by rw [wr_in (by omega) (by omega)]
  rw [ew]
  refine ⟨True, ⟨⟨by omega, by omega, by omega⟩, (by (try simp only [ByteArray.size_append]); omega), (by (try simp only [ByteArray.size_append]); omega), (by (try simp only [ByteArray.size_append]); omega), fun r _ => ⟨fun _ => rfl, fun _ => ?_⟩⟩, fun _ => ⟨⟨k + 1, by omega, by omega⟩, by omega⟩⟩
  refine ⟨fun p i => ∃ m : Nat, i = m ∧ m ≤ s.size ∧ p = putP s wh m ∧ p.size ≤ 210 * m, fun _ i => (s.size - i).toNat, ⟨0, rfl, Nat.zero_le _, rfl, Nat.le_refl _⟩, ?_⟩
  rintro _ _ ⟨m, rfl, hm, rfl, hpz⟩
  refine ⟨fun hb => ?_, fun hb => ?_⟩
  ·have hlt : m < s.size := by have := of_decide_eq_true hb; omega
   have em : wr ((m : Int) + 1) = ((m + 1 : Nat) : Int) := by rw [wr_in (by omega) (by omega)]; omega
   rw [em]
   refine ⟨fun p => p = putP s wh (m + 1), ⟨_, fAt_ok (Int.natCast_nonneg _) (by omega), fun h => ⟨(by (try simp only [ByteArray.size_append]); omega), (by (try simp only [ByteArray.size_append]); omega), (by (try simp only [ByteArray.size_append]); omega), ?_⟩, fun h => ⟨⟨by omega, by omega, by omega⟩, ?_, ?_⟩⟩, fun p hp => ?_⟩
   ·exact (put_X (eq_of_beq h)).symm
   ·rw [Int.toNat_natCast, Int.toNat_natCast, ext1_size hlt]
    omega
   ·rw [Int.toNat_natCast, Int.toNat_natCast]
    exact (put_c (beq_eq_false_iff_ne.1 h)).symm
   ·subst hp
    refine ⟨⟨m + 1, rfl, by omega, rfl, ?_⟩, by show (s.size - ((m + 1 : Nat) : Int)).toNat < (s.size - (m : Int)).toNat; omega⟩
    by_cases h8 : fch s m = 88
    ·have := put_sizeX (wh := wh) h8
     omega
    ·have := put_sizeC (wh := wh) hlt h8
     omega
  ·have hme : m = s.size := by have := of_decide_eq_false hb; omega
   subst hme
   refine fStep (fun h1 h2 => ?_)
   obtain ⟨hs, W, hW, e1⟩ := holdsF_at h1
   obtain ⟨_, x, hx, e2⟩ := holdsF_at h2
   have hl := holdsF_len h1
   have hpl := hl.2.pl
   refine ⟨?_, by rw [hl.1]; omega⟩
   rw [e1, e2]
   refine (unf_alike (ways_ok hl.2) hc ?_ ?_ ?_ ?_ hzw ?_ ?_ hno hW hx).symm
   ·rw [hwh, fch_l (by (try simp only [ByteArray.size_append]); omega), fch_l (by (try simp only [ByteArray.size_append]); omega), fch_l (by (try simp only [ByteArray.size_append]); omega)]
    exact hc0
   ·rw [hwh, fch_l (by (try simp only [ByteArray.size_append]); omega), fch_l (by (try simp only [ByteArray.size_append]); omega), fch_r (j := 0) (by (try simp only [ByteArray.size_append]); omega) (by decide)]
    rfl
   ·rw [hwh, fch_l (by (try simp only [ByteArray.size_append]); omega), fch_l (by (try simp only [ByteArray.size_append]); omega), fch_r (j := 1) (by (try simp only [ByteArray.size_append]); omega) (by decide)]
    rfl
   ·rw [hwh, fch_l (by (try simp only [ByteArray.size_append]); omega), fch_l (by (try simp only [ByteArray.size_append]); omega), fch_r (j := 2) (by (try simp only [ByteArray.size_append]); omega) (by decide)]
    rfl
   ·exact fun i hi => by rw [hwh, fch_l (by (try simp only [ByteArray.size_append]); omega), fch_r (j := i) (by (try simp only [ByteArray.size_append]); omega) (by omega)]
   ·rw [hwh, fch_r (j := 0) (by (try simp only [ByteArray.size_append]); omega) (by decide)]
    rfl
 rcases (show k = 0 ∨ k = 1 by omega) with rfl | rfl
 ·exact key (ByteArray.mk #[109]) 109 rfl rfl (.inl rfl)
 ·exact key (ByteArray.mk #[110]) 110 rfl rfl (.inr rfl)
end Go.Proofs.Ytiejmeedkhkfgaa

