/- Lemmas towards the statement: mirrors of functions, and plain laws. No condition. -/
import Derived.Test.YtiejmeedkhkfgaaPackTopSame5


namespace Go.Proofs.Ytiejmeedkhkfgaa
open Go.RowKit Go.MapKept
set_option linter.unusedSimpArgs false
set_option linter.unusedVariables false
set_option maxRecDepth 100000
def PreW (k : Nat) (nd : FTr) (gr : ApiGraph) (ss : List (List Bool)) : Prop := GraphOk gr ∧ ∃ fl, WfF k fl nd ∧ SOk gr fl ss
def WhF (k : Nat) : Prop := ∀ (nd : FTr) (gr : ApiGraph) (ss : List (List Bool)), PreW k nd gr ss → Ct 34 [.sv (.one (.rd (trR fLab nd))), .sv (.agg [I gr.fLetters, I gr.fPlaces, LS ApiArrow.ty gr.fArrows]), .sv (.one (LS (lsT boolT) ss))] [] (fun (_ : Unit) => True) (fun _ => .sv (.one (LS boolT (semF gr k nd ss))))
theorem whF (k : Nat) (ih : WhF k) (nd : FTr) (gr : ApiGraph) (ss : List (List Bool)) (hp : PreW k nd gr ss) : Ct 34 [.sv (.one (.rd (trR fLab nd))), .sv (.agg [I gr.fLetters, I gr.fPlaces, LS ApiArrow.ty gr.fArrows]), .sv (.one (LS (lsT boolT) ss))] [] (fun (_ : Unit) => True) (fun _ => .sv (.one (LS boolT (semF gr k nd ss)))) := ih nd gr ss hp
theorem en34 : ∀ args w, (callFunc 34 args).run Try.prog w = .ok (.enter 34 args) w := enters_of Try.func34 (by kernel_rfl) rfl
def fKid_vc (k : Nat) (q : Int) (nd : (Tr FLab)) (gr : ApiGraph) (ss : (List (List Bool))) (Q : (List Bool) → Prop) : Prop :=
 ∃ e, idx nd.kids q = some e ∧
 (PreW k e gr ss) ∧
 Q (semF gr k e ss)
theorem fKid_walk (k : Nat) (q : Int) (nd : (Tr FLab)) (gr : ApiGraph) (ss : (List (List Bool))) (ih : WhF k) (Q : (List Bool) → Prop) (h : fKid_vc k q nd gr ss Q) : Ct 76 [.sv (.one (I q)), .sv (.one (.ptr 0 0)), .sv (.one (.ptr 1 0)), .sv (.one (.ptr 2 0))] [.box [.rd (trR fLab nd)] 83 true, .box [I gr.fLetters, I gr.fPlaces, LS ApiArrow.ty gr.fArrows] 24 true, .box [LS (lsT boolT) ss] 146 true] Q (fun (r : (List Bool)) => .sv (.one (LS boolT r))) := by
 have ht := tab_ok
 refine Ct.body Try.func76 rfl rfl rfl rfl (fun c hn => ?_)
 unfold fKid_vc at h
 refine En.seq ?_
 refine En.region ?_
 refine WL.run ht hn 1 ⟨[sl 0 (I q), sl 1 (.ptr 0 0), sl 2 (.ptr 1 0), sl 3 (.ptr 2 0)], [.box [.rd (trR fLab nd)] 83 true, .box (ApiGraph.cl gr) 24 true, .box [LS (lsT boolT) ss] 146 true]⟩ (by kernel_rfl) ?_
 refine WL.nil ?_
 refine En.seq ?_
 obtain ⟨e, he, h⟩ := h
 have hp_2 := h.1
 replace h := h.2
 refine En.regionA ⟨[sl 0 (I q), sl 1 (.ptr 0 0), sl 2 (.ptr 1 0), sl 3 (.ptr 2 0)], [.sv (.one (.rd (trR fLab nd))), .sv (.one (.pe (svR (.agg [.v (.int .u8 nd.lab.fSign), I nd.lab.fN, LS (TT fLab) nd.kids])) 3)), .sv (.one (.pe (svR (.one (LS (TT fLab) nd.kids))) 1)), .sv (.one (LS (TT fLab) nd.kids)), .sv (.one (I q)), .sv (.one (.pe (svR (.one (.rd (trR fLab e)))) 1)), .sv (.one (.rd (trR fLab e))), .sv (.agg (ApiGraph.cl gr)), .sv (.one (LS (lsT boolT) ss)), .sv (.one (LS boolT (semF gr k e ss))), .sv (.one (LS boolT (semF gr k e ss)))], [⟨.box [.rd (trR fLab nd)] 83 true, none, none, none⟩, ⟨.box (ApiGraph.cl gr) 24 true, none, none, none⟩, ⟨.box [LS (lsT boolT) ss] 146 true, none, none, none⟩]⟩ ⟨[sl 5 (LS boolT (semF gr k e ss))], [.gone, .gone, .gone]⟩ (by kernel_rfl) hn (by kernel_rfl) (by rfl) (by kernel_rfl) ?_ (by kernel_rfl) ?_
 exact ⟨.mt ⟨[sl 1 (.ptr 0 0)], [.box [.rd (trR fLab nd)] 83 true]⟩ [] none (by kernel_rfl) (by rfl) (mt_ev ht (by kernel_rfl)) rfl rfl rfl rfl,
 .mt ⟨[sl 6 (.rd (trR fLab nd))], []⟩ [] none (by kernel_rfl) (by rfl) (mt_val (val_node (s := .agg [.v (.int .u8 nd.lab.fSign), I nd.lab.fN, LS (TT fLab) nd.kids]) (t := nd) (lab := fLab) fLabH rfl (by rfl) rfl rfl)) rfl rfl rfl rfl,
 .mt ⟨[sl 7 (.pe (svR (.agg [.v (.int .u8 nd.lab.fSign), I nd.lab.fN, LS (TT fLab) nd.kids])) 3)], []⟩ [] none (by kernel_rfl) (by rfl) (mt_val (val_field (l := [.v (.int .u8 nd.lab.fSign), I nd.lab.fN, LS (TT fLab) nd.kids]) (r := .one (LS (TT fLab) nd.kids)) ht rfl (by rfl) (by rfl) (by rfl) (by rfl) (by rfl) (by rfl))) rfl rfl rfl rfl,
 .mt ⟨[sl 8 (.pe (svR (.one (LS (TT fLab) nd.kids))) 1)], []⟩ [] none (by kernel_rfl) (by rfl) (mt_val (val_load (s := .one (LS (TT fLab) nd.kids)) ht rfl (by rfl) (by rfl) (by rfl) (by rfl) (by rfl))) rfl rfl rfl rfl,
 .mt ⟨[sl 0 (I q)], []⟩ [] none (by kernel_rfl) (by rfl) (mt_ev ht (by kernel_rfl)) rfl rfl rfl rfl,
 .mt ⟨[sl 9 (LS (TT fLab) nd.kids), sl 10 (I q)], []⟩ [] none (by kernel_rfl) (by rfl) (mt_val (val_index (T := (TT fLab)) (l := nd.kids) (i := q) ht rfl (by rfl) (by rfl) (by rfl) (by rfl) (by rfl) (by rfl) he)) rfl rfl rfl rfl,
 .mt ⟨[sl 11 (.pe (svR (.one (.rd (trR fLab e)))) 1)], []⟩ [] none (by kernel_rfl) (by rfl) (mt_val (val_load (s := .one (.rd (trR fLab e))) ht rfl (by rfl) (by rfl) (by rfl) (by rfl) (by rfl))) rfl rfl rfl rfl,
 .mt ⟨[sl 2 (.ptr 1 0)], [.gone, .box (ApiGraph.cl gr) 24 true]⟩ [] none (by kernel_rfl) (by rfl) (mt_ev ht (by kernel_rfl)) rfl rfl rfl rfl,
 .mt ⟨[sl 3 (.ptr 2 0)], [.gone, .gone, .box [LS (lsT boolT) ss] 146 true]⟩ [] none (by kernel_rfl) (by rfl) (mt_ev ht (by kernel_rfl)) rfl rfl rfl rfl,
 .mt ⟨[sl 12 (.rd (trR fLab e)), (13, .sv (.agg (ApiGraph.cl gr))), sl 14 (LS (lsT boolT) ss)], []⟩ [] none (by kernel_rfl) (by rfl) (mt_call (whF k ih e gr ss hp_2) en34 (caps := []) [] rfl (by rfl) (by kernel_rfl) (by kernel_rfl) (by rfl) (by rfl) (by rfl)) rfl rfl rfl rfl,
 .mt ⟨[sl 15 (LS boolT (semF gr k e ss))], []⟩ [] none (by kernel_rfl) (by rfl) (mt_ev ht (by kernel_rfl)) rfl rfl rfl rfl,
 trivial⟩
 refine En.ret ?_
 exact En.back ht (semF gr k e ss) h (by kernel_rfl) rfl
theorem en76 : ∀ args w, (callFunc 76 args).run Try.prog w = .ok (.enter 76 args) w := enters_of Try.func76 (by kernel_rfl) rfl
theorem idx_getF {α : Type} {l : List α} {q : Int} (d : α) (h0 : 0 ≤ q) (h1 : q < l.length) : idx l q = some (l.getD q.toNat d) := by
 unfold idx
 rw [if_pos h0, List.getD_eq_getElem?_getD, List.getElem?_eq_getElem (by omega)]
 rfl
theorem fKid_ct (k : Nat) (ih : WhF k) (q : Int) (nd : FTr) (gr : ApiGraph) (ss : List (List Bool)) (hp : 0 ≤ q ∧ q < (nd.kids.length : Int) ∧ PreW k (nd.kids.getD q.toNat (fn 48 0 [])) gr ss) : Ct 76 [.sv (.one (I q)), .sv (.one (.ptr 0 0)), .sv (.one (.ptr 1 0)), .sv (.one (.ptr 2 0))] [.box [.rd (trR fLab nd)] 83 true, .box [I gr.fLetters, I gr.fPlaces, LS ApiArrow.ty gr.fArrows] 24 true, .box [LS (lsT boolT) ss] 146 true] (fun (_ : Unit) => True) (fun _ => .sv (.one (LS boolT (semF gr k (nd.kids.getD q.toNat (fn 48 0 [])) ss)))) :=
 (fKid_walk k q nd gr ss ih (fun r => r = semF gr k (nd.kids.getD q.toNat (fn 48 0 [])) ss) ⟨_, idx_getF (fn 48 0 []) hp.1 hp.2.1, hp.2.2, rfl⟩).fun
def eqBools_vc (a : (List Bool)) (b : (List Bool)) (Q : Bool → Prop) : Prop :=
 a.length ≤ 9223372036854775807 →
 b.length ≤ 9223372036854775807 →
 (IfP ((a.length : Int) != (b.length : Int)) (Q false) (∃ (Inv : Int → Prop) (mu : Int → Nat), Inv 0 ∧
 ∀ (x13 : Int) , Inv x13 → (IfP (decide (x13 < (a.length : Int))) (∃ e, idx a x13 = some e ∧
 ∃ e_2, idx b x13 = some e_2 ∧
 IfP (e != e_2) (Q false) ((Inv (wr (x13 + 1)) ∧ mu (wr (x13 + 1)) < mu x13))) (Q true))))
theorem eqBools_walk (a : (List Bool)) (b : (List Bool)) (Q : Bool → Prop) (h : eqBools_vc a b Q) : Ct 78 [.sv (.one (LS boolT a)), .sv (.one (LS boolT b))] [] Q (fun (r : Bool) => .sv (.one (B r))) := by
 have ht := tab_ok
 refine Ct.body Try.func78 rfl rfl rfl rfl (fun c hn => ?_)
 unfold eqBools_vc at h
 refine En.lenL 0 (by rfl) (fun hl => ?_)
 replace h := h hl
 clear hl
 refine En.lenL 1 (by rfl) (fun hl => ?_)
 replace h := h hl
 clear hl
 refine En.seq ?_
 refine En.region ?_
 refine WL.run ht hn 1 ⟨[sl 0 (LS boolT a), sl 1 (LS boolT b)], []⟩ (by kernel_rfl) ?_
 refine WL.nil ?_
 refine En.seq ?_
 refine En.seq ?_
 refine En.region ?_
 refine WL.run ht hn 5 ⟨[sl 0 (LS boolT a), sl 1 (LS boolT b), sl 10 (B ((a.length : Int) != (b.length : Int)))], []⟩ (by kernel_rfl) ?_
 refine WL.nil ?_
 refine En.cond (b := ((a.length : Int) != (b.length : Int))) (by kernel_rfl) (fun hb => ?_) (fun hb => ?_)
 replace h := h.1 hb
 refine En.seq ?_
 refine En.region ?_
 refine WL.run ht hn 1 ⟨[sl 4 (B false)], []⟩ (by kernel_rfl) ?_
 refine WL.nil ?_
 refine En.ret ?_
 exact En.back ht false h (by kernel_rfl) rfl
 replace h := h.2 hb
 refine En.skip ?_
 refine En.seq ?_
 refine En.seq ?_
 refine En.region ?_
 refine WL.run ht hn 3 ⟨[sl 0 (LS boolT a), sl 1 (LS boolT b), sl 12 (I (a.length : Int)), sl 13 (I 0)], []⟩ (by kernel_rfl) ?_
 refine WL.nil ?_
 refine En.block ?_
 obtain ⟨Inv, mu, h0, hI⟩ := h
 refine En.loop (σ := Int) (fun zz => Inv zz) (fun zz => mu zz) (fun zz => ⟨[sl 0 (LS boolT a), sl 1 (LS boolT b), sl 12 (I (a.length : Int)), sl 13 (I zz)], []⟩) 0 h0 (sub_ok (by kernel_rfl)) ?_
 intro x13 h
 replace h := hI _ h
 show En c ⟨[sl 0 (LS boolT a), sl 1 (LS boolT b), sl 12 (I (a.length : Int)), sl 13 (I x13)], []⟩ _
 refine En.seq ?_
 refine En.region ?_
 refine WL.run ht hn 1 ⟨[sl 0 (LS boolT a), sl 1 (LS boolT b), sl 12 (I (a.length : Int)), sl 13 (I x13), sl 14 (B (decide (x13 < (a.length : Int))))], []⟩ (by kernel_rfl) ?_
 refine WL.nil ?_
 refine En.seq ?_
 refine En.cond (b := (decide (x13 < (a.length : Int)))) (by kernel_rfl) (fun hb => ?_) (fun hb => ?_)
 replace h := h.1 hb
 refine En.skip ?_
 refine En.seq ?_
 refine En.block ?_
 refine En.seq ?_
 refine En.region ?_
 refine WL.run ht hn 2 ⟨[sl 0 (LS boolT a), sl 1 (LS boolT b), sl 5 (I x13), sl 12 (I (a.length : Int)), sl 13 (I x13)], []⟩ (by kernel_rfl) ?_
 refine WL.nil ?_
 refine En.seq ?_
 obtain ⟨e, he, h⟩ := h
 obtain ⟨e_2, he_2, h⟩ := h
 refine En.regionA ⟨[sl 0 (LS boolT a), sl 1 (LS boolT b), sl 5 (I x13), sl 12 (I (a.length : Int)), sl 13 (I x13)], [.sv (.one (LS boolT a)), .sv (.one (I x13)), .sv (.one (.pe (svR (.one (B e))) 1)), .sv (.one (B e)), .sv (.one (LS boolT b)), .sv (.one (I x13)), .sv (.one (.pe (svR (.one (B e_2))) 1)), .sv (.one (B e_2)), .sv (.one (B (e != e_2)))], []⟩ ⟨[sl 0 (LS boolT a), sl 1 (LS boolT b), sl 12 (I (a.length : Int)), sl 13 (I x13), sl 24 (B (e != e_2))], []⟩ (by kernel_rfl) hn (by kernel_rfl) (by rfl) (by kernel_rfl) ?_ (by kernel_rfl) ?_
 exact ⟨.mt ⟨[sl 0 (LS boolT a)], []⟩ [] none (by kernel_rfl) (by rfl) (mt_ev ht (by kernel_rfl)) rfl rfl rfl rfl,
 .mt ⟨[sl 5 (I x13)], []⟩ [] none (by kernel_rfl) (by rfl) (mt_ev ht (by kernel_rfl)) rfl rfl rfl rfl,
 .mt ⟨[sl 16 (LS boolT a), sl 17 (I x13)], []⟩ [] none (by kernel_rfl) (by rfl) (mt_val (val_index (T := boolT) (l := a) (i := x13) ht rfl (by rfl) (by rfl) (by rfl) (by rfl) (by rfl) (by rfl) he)) rfl rfl rfl rfl,
 .mt ⟨[sl 18 (.pe (svR (.one (B e))) 1)], []⟩ [] none (by kernel_rfl) (by rfl) (mt_val (val_load (s := .one (B e)) ht rfl (by rfl) (by rfl) (by rfl) (by rfl) (by rfl))) rfl rfl rfl rfl,
 .mt ⟨[sl 1 (LS boolT b)], []⟩ [] none (by kernel_rfl) (by rfl) (mt_ev ht (by kernel_rfl)) rfl rfl rfl rfl,
 .mt ⟨[sl 5 (I x13)], []⟩ [] none (by kernel_rfl) (by rfl) (mt_ev ht (by kernel_rfl)) rfl rfl rfl rfl,
 .mt ⟨[sl 20 (LS boolT b), sl 21 (I x13)], []⟩ [] none (by kernel_rfl) (by rfl) (mt_val (val_index (T := boolT) (l := b) (i := x13) ht rfl (by rfl) (by rfl) (by rfl) (by rfl) (by rfl) (by rfl) he_2)) rfl rfl rfl rfl,
 .mt ⟨[sl 22 (.pe (svR (.one (B e_2))) 1)], []⟩ [] none (by kernel_rfl) (by rfl) (mt_val (val_load (s := .one (B e_2)) ht rfl (by rfl) (by rfl) (by rfl) (by rfl) (by rfl))) rfl rfl rfl rfl,
 .mt ⟨[sl 19 (B e), sl 23 (B e_2)], []⟩ [] none (by kernel_rfl) (by rfl) (mt_val (val_eqB (u := e) (v := e_2) rfl Try.underlying4 (by rfl) (by rfl) (.inr ⟨rfl, rfl⟩))) rfl rfl rfl rfl,
 trivial⟩
 refine En.cond (b := (e != e_2)) (by kernel_rfl) (fun hb => ?_) (fun hb => ?_)
 replace h := h.1 hb
 refine En.seq ?_
 refine En.region ?_
 refine WL.run ht hn 1 ⟨[sl 4 (B false)], []⟩ (by kernel_rfl) ?_
 refine WL.nil ?_
 refine En.ret ?_
 exact En.back ht false h (by kernel_rfl) rfl
 replace h := h.2 hb
 refine En.skip ?_
 refine En.region ?_
 refine WL.run ht hn 2 ⟨[sl 0 (LS boolT a), sl 1 (LS boolT b), sl 12 (I (a.length : Int)), sl 13 (I (wr (x13 + 1)))], []⟩ (by kernel_rfl) ?_
 refine WL.nil ?_
 exact En.at (I := fun zz => Inv zz ∧ mu zz < mu x13) (T := fun zz => ⟨[sl 0 (LS boolT a), sl 1 (LS boolT b), sl 12 (I (a.length : Int)), sl 13 (I zz)], []⟩) (wr (x13 + 1)) h (by kernel_rfl)
 replace h := h.2 hb
 refine En.exit rfl ?_
 refine En.seq ?_
 refine En.region ?_
 refine WL.run ht hn 1 ⟨[sl 4 (B true)], []⟩ (by kernel_rfl) ?_
 refine WL.nil ?_
 refine En.ret ?_
 exact En.back ht true h (by kernel_rfl) rfl
theorem en78 : ∀ args w, (callFunc 78 args).run Try.prog w = .ok (.enter 78 args) w := enters_of Try.func78 (by kernel_rfl) rfl
theorem eqBools_ct (a : (List Bool)) (b : (List Bool))  : Ct 78 [.sv (.one (LS boolT a)), .sv (.one (LS boolT b))] [] (fun (_ : Unit) => True) (fun _ => .sv (.one (B (decide (a = b))))) := by
 refine (eqBools_walk a b (fun res_ => res_ = (decide (a = b))) ?_).fun
 intro ha hb
 refine ⟨fun h => ?_, fun h => ?_⟩
 ·show false = decide (a = b)
  rw [eq_comm, decide_eq_false_iff_not]
  rintro rfl
  simp at h
 have hl : a.length = b.length := by have := h; simp only [bne_eq_false_iff_eq] at this; omega
 refine ⟨fun i => ∃ k : Nat, i = k ∧ k ≤ a.length ∧ a.take k = b.take k, fun i => a.length - i.toNat, ⟨0, rfl, Nat.zero_le _, by simp⟩, ?_⟩
 rintro i ⟨k, rfl, hk, ht⟩
 refine ⟨fun hb1 => ?_, fun hb1 => ?_⟩
 ·have hlt := dlt hb1
  have hlt2 : k < b.length := by omega
  refine ⟨_, idx_at hlt, _, idx_at hlt2, fun hne => ?_, fun he => ⟨⟨k + 1, wsucc (by omega), hlt, ?_⟩, mu_up hlt (by omega)⟩⟩
  ·show false = decide (a = b)
   rw [eq_comm, decide_eq_false_iff_not]
   rintro rfl
   simp at hne
  ·have he : a[k] = b[k] := by simpa using he
   rw [List.take_add_one, List.take_add_one, ht, List.getElem?_eq_getElem hlt, List.getElem?_eq_getElem hlt2, he]
 ·have hge := dge hb1
  rw [List.take_of_length_le hge, List.take_of_length_le (by omega)] at ht
  show true = decide (a = b)
  rw [ht]
  simp
def cloneBool_vc (l : (List Bool)) (Q : (List Bool) → Prop) : Prop :=
 l.length ≤ 9223372036854775807 →
 (∀ isnil : Bool, (isnil = true → l = []) →
 (IfP (isnil != false) (Q []) (capOk ([] : (List Bool)).length (l : (List Bool)).length 1 ∧
 Q (([] : (List Bool)) ++ l))))
theorem cloneBool_walk (l : (List Bool)) (Q : (List Bool) → Prop) (h : cloneBool_vc l Q) : CtJ 33 [.sv (.one (LS boolT l))] [] Q (fun (r : (List Bool)) => rowI 4 boolT r) := by
 have ht := tab_ok
 refine CtJ.body Try.func33 rfl rfl rfl rfl (fun c hn hmay => ?_)
 unfold cloneBool_vc at h
 refine En.lenL 0 (by rfl) (fun hl => ?_)
 replace h := h hl
 clear hl
 refine En.seq ?_
 refine En.region ?_
 refine WL.run ht hn 1 ⟨[sl 0 (LS boolT l)], []⟩ (by kernel_rfl) ?_
 refine WL.nil ?_
 refine En.seq ?_
 refine En.seq ?_
 refine En.region ?_
 refine WL.run ht hn 1 ⟨[sl 0 (LS boolT l), sl 3 (LS boolT l)], []⟩ (by kernel_rfl) ?_
 refine WL.eqNil (T := boolT) (l := l) .eql false (by simp) ht hn (by rfl) rfl (by rfl) (by rfl) (by rfl) rfl (by rfl) (fun isnil hisnil => ?_)
 replace h := h isnil hisnil
 clear hisnil
 refine WL.nil ?_
 refine En.cond (b := (isnil != false)) (by kernel_rfl) (fun hb => ?_) (fun hb => ?_)
 replace h := h.1 hb
 refine En.seq ?_
 refine En.region ?_
 refine WL.run ht hn 1 ⟨[sl 2 (.v (.slice none 0 0))], []⟩ (by kernel_rfl) ?_
 refine WL.nil ?_
 refine En.ret ?_
 exact En.backN (by rfl) h
 replace h := h.2 hb
 refine En.skip ?_
 refine En.seq ?_
 refine En.region ?_
 refine WL.mt0 (K := []) (p := some (0, rowI 4 boolT ([] : (List Bool)))) hn (by rfl) (mt_empty boolT 0 ht rfl (by rfl) (by rfl) (by rfl)) (by rfl) (by rfl) (by rfl) ?_
 refine WL.run ht hn 1 ⟨[sl 5 (.own 0), sl 6 (LS boolT l)], [rowI 4 boolT ([] : (List Bool))]⟩ (by kernel_rfl) ?_
 have hp := h.1
 replace h := h.2
 refine WL.mt (S2 := ⟨[sl 6 (LS boolT l)], [rowI 4 boolT ([] : (List Bool))]⟩) (K := [0]) (p := some (0, rowI 4 boolT (([] : (List Bool)) ++ l))) hn (by rfl) (mt_append (T := boolT) (l := ([] : (List Bool))) (es := l) ht rfl (by rfl) (by rfl) (by rfl) (by rfl) (by decide) (by rfl) (by rfl) (srcLS (T := boolT) (es := l) (fun _ h => by cases h) (by decide) (by rfl)) (by exact hp) (by exact hp.le (by decide))) (by kernel_rfl) (by rfl) (by rfl) (by rfl) ?_
 refine WL.run ht hn 1 ⟨[sl 2 (.own 0)], [rowI 4 boolT (([] : (List Bool)) ++ l)]⟩ (by kernel_rfl) ?_
 refine WL.nil ?_
 refine En.ret ?_
 exact En.backJ (itf := fun l => rowI 4 boolT l) hmay (by rfl) (by rfl) rfl rfl h
theorem en33 : ∀ args w, (callFunc 33 args).run Try.prog w = .ok (.enter 33 args) w := enters_of Try.func33 (by kernel_rfl) rfl
theorem cloneBool_ct (l : List Bool) (hp : l.length * 1 ≤ 140737488355328) : CtI 33 [.sv (.one (LS boolT l))] [] (rowI 4 boolT l) := by
 refine (cloneBool_walk l (fun r => r = l) ?_).fun
 unfold cloneBool_vc
 refine fun _ isnil h => ⟨fun hb => (h (by simpa using hb)).symm, fun _ => ⟨?_, by simp⟩⟩
 unfold capOk
 simpa using hp
def fWhr_vc (k : Nat) (nd : FTr) (gr : ApiGraph) (ss : (List (List Bool))) (Q : (List Bool) → Prop) : Prop :=
 gr.fArrows.length ≤ 9223372036854775807 →
 ss.length ≤ 9223372036854775807 →
 (makeOk gr.fPlaces gr.fPlaces 1 ∧
 ∃ J : (List Bool) → Prop, (IfP (nd.lab.fSign == 49) ((([true] : (List Bool)).length = 1 ∧ 0 ≤ gr.fPlaces ∧ gr.fPlaces < 2147483648) ∧
 Q ((List.replicate (gr.fPlaces).toNat ((([true] : (List Bool))).headD false)))) (IfP (nd.lab.fSign == 88) (∃ e, idx ss nd.lab.fN = some e ∧
 Q e) (IfP (nd.lab.fSign == 33) (((fun q_ => 0 ≤ q_ ∧ q_ < (nd.kids.length : Int) ∧ PreW k (nd.kids.getD (q_ : Int).toNat (fn 48 0 [])) gr ss) 0) ∧
 ∃ (Inv : Int → (List Bool) → Prop) (mu : Int → (List Bool) → Nat), Inv 0 (List.replicate (gr.fPlaces).toNat false) ∧
 ∀ (x48 : Int) (l3_2 : (List Bool)) , Inv x48 l3_2 → (IfP (decide (x48 < (((fun q_ => semF gr k (nd.kids.getD (q_ : Int).toNat (fn 48 0 [])) ss) 0).length : Int))) (∃ e_2, idx ((fun q_ => semF gr k (nd.kids.getD (q_ : Int).toNat (fn 48 0 [])) ss) 0) x48 = some e_2 ∧
 ∃ e_3, idx l3_2 x48 = some e_3 ∧
 (Inv (wr (x48 + 1)) (l3_2.set (x48).toNat (!e_2)) ∧ mu (wr (x48 + 1)) (l3_2.set (x48).toNat (!e_2)) < mu x48 l3_2)) (J l3_2))) (∃ J_2 : Bool → Prop, (IfP (nd.lab.fSign == 38) (J_2 (nd.lab.fSign == 38)) (J_2 (nd.lab.fSign == 124))) ∧
 (∀ (x59 : Bool), J_2 x59 → IfP x59 (((fun q_ => 0 ≤ q_ ∧ q_ < (nd.kids.length : Int) ∧ PreW k (nd.kids.getD (q_ : Int).toNat (fn 48 0 [])) gr ss) 0) ∧
 ((fun q_ => 0 ≤ q_ ∧ q_ < (nd.kids.length : Int) ∧ PreW k (nd.kids.getD (q_ : Int).toNat (fn 48 0 [])) gr ss) 1) ∧
 ∃ (Inv_2 : Int → (List Bool) → Prop) (mu_2 : Int → (List Bool) → Nat), Inv_2 0 (List.replicate (gr.fPlaces).toNat false) ∧
 ∀ (x68 : Int) (l3_3 : (List Bool)) , Inv_2 x68 l3_3 → (IfP (decide (x68 < ((List.replicate (gr.fPlaces).toNat false).length : Int))) (∃ J_3 : (List Bool) → Prop, (∃ e_4, idx ((fun q_ => semF gr k (nd.kids.getD (q_ : Int).toNat (fn 48 0 [])) ss) 0) x68 = some e_4 ∧
 IfP e_4 (∃ e_5, idx ((fun q_ => semF gr k (nd.kids.getD (q_ : Int).toNat (fn 48 0 [])) ss) 1) x68 = some e_5 ∧
 IfP e_5 (∃ e_6, idx l3_3 x68 = some e_6 ∧
 J_3 (l3_3.set (x68).toNat true)) (IfP (nd.lab.fSign == 124) (∃ e_7, idx ((fun q_ => semF gr k (nd.kids.getD (q_ : Int).toNat (fn 48 0 [])) ss) 0) x68 = some e_7 ∧
 IfP e_7 (∃ e_8, idx l3_3 x68 = some e_8 ∧
 J_3 (l3_3.set (x68).toNat true)) (∃ e_9, idx ((fun q_ => semF gr k (nd.kids.getD (q_ : Int).toNat (fn 48 0 [])) ss) 1) x68 = some e_9 ∧
 ∃ e_10, idx l3_3 x68 = some e_10 ∧
 J_3 (l3_3.set (x68).toNat e_9))) (∃ e_11, idx l3_3 x68 = some e_11 ∧
 J_3 (l3_3.set (x68).toNat false)))) (IfP (nd.lab.fSign == 124) (∃ e_12, idx ((fun q_ => semF gr k (nd.kids.getD (q_ : Int).toNat (fn 48 0 [])) ss) 0) x68 = some e_12 ∧
 IfP e_12 (∃ e_13, idx l3_3 x68 = some e_13 ∧
 J_3 (l3_3.set (x68).toNat true)) (∃ e_14, idx ((fun q_ => semF gr k (nd.kids.getD (q_ : Int).toNat (fn 48 0 [])) ss) 1) x68 = some e_14 ∧
 ∃ e_15, idx l3_3 x68 = some e_15 ∧
 J_3 (l3_3.set (x68).toNat e_14))) (∃ e_16, idx l3_3 x68 = some e_16 ∧
 J_3 (l3_3.set (x68).toNat false)))) ∧
 (∀ (l3_4 : (List Bool)), J_3 l3_4 → (Inv_2 (wr (x68 + 1)) l3_4 ∧ mu_2 (wr (x68 + 1)) l3_4 < mu_2 x68 l3_3))) (J l3_3))) (∃ J_4 : Bool → Prop, (IfP (nd.lab.fSign == 60) (J_4 (nd.lab.fSign == 60)) (J_4 (nd.lab.fSign == 91))) ∧
 (∀ (x104 : Bool), J_4 x104 → IfP x104 (((fun q_ => 0 ≤ q_ ∧ q_ < (nd.kids.length : Int) ∧ PreW k (nd.kids.getD (q_ : Int).toNat (fn 48 0 [])) gr ss) 0) ∧
 ∃ (Inv_3 : Int → (List Bool) → Prop) (mu_3 : Int → (List Bool) → Nat), Inv_3 0 (List.replicate (gr.fPlaces).toNat false) ∧
 ∀ (x111 : Int) (l3_5 : (List Bool)) , Inv_3 x111 l3_5 → (IfP (decide (x111 < ((List.replicate (gr.fPlaces).toNat false).length : Int))) (∃ e_17, idx l3_5 x111 = some e_17 ∧
 (Inv_3 (wr (x111 + 1)) (l3_5.set (x111).toNat (nd.lab.fSign == 91)) ∧ mu_3 (wr (x111 + 1)) (l3_5.set (x111).toNat (nd.lab.fSign == 91)) < mu_3 x111 l3_5)) (∃ (Inv_4 : Int → (List Bool) → Prop) (mu_4 : Int → (List Bool) → Nat), Inv_4 0 l3_5 ∧
 ∀ (x126 : Int) (l3_6 : (List Bool)) , Inv_4 x126 l3_6 → (IfP (decide (x126 < (gr.fArrows.length : Int))) (∃ J_5 : (List Bool) → Prop, (∃ e_18, idx gr.fArrows x126 = some e_18 ∧
 ∃ J_6 : Bool → Prop, (IfP (e_18.fLetter == nd.lab.fN) (∃ e_19, idx ((fun q_ => semF gr k (nd.kids.getD (q_ : Int).toNat (fn 48 0 [])) ss) 0) e_18.fTo = some e_19 ∧
 J_6 (e_19 == (nd.lab.fSign == 60))) (J_6 false)) ∧
 (∀ (x149 : Bool), J_6 x149 → IfP x149 (∃ e_20, idx l3_6 e_18.fFrom = some e_20 ∧
 J_5 (l3_6.set (e_18.fFrom).toNat (nd.lab.fSign == 60))) (J_5 l3_6))) ∧
 (∀ (l3_7 : (List Bool)), J_5 l3_7 → (Inv_4 (wr (x126 + 1)) l3_7 ∧ mu_4 (wr (x126 + 1)) l3_7 < mu_4 x126 l3_6))) (J l3_6))))) (∃ J_7 : Bool → Prop, (IfP (nd.lab.fSign == 109) (J_7 (nd.lab.fSign == 109)) (J_7 (nd.lab.fSign == 110))) ∧
 (∀ (x160 : Bool), J_7 x160 → IfP x160 (∃ (Inv_5 : Int → (List Bool) → Prop) (mu_5 : Int → (List Bool) → Nat), Inv_5 0 (List.replicate (gr.fPlaces).toNat false) ∧
 ∀ (x165 : Int) (l3_8 : (List Bool)) , Inv_5 x165 l3_8 → (IfP (decide (x165 < ((List.replicate (gr.fPlaces).toNat false).length : Int))) (∃ e_21, idx l3_8 x165 = some e_21 ∧
 (Inv_5 (wr (x165 + 1)) (l3_8.set (x165).toNat (nd.lab.fSign == 110)) ∧ mu_5 (wr (x165 + 1)) (l3_8.set (x165).toNat (nd.lab.fSign == 110)) < mu_5 x165 l3_8)) (∃ (Inv_6 : (List Bool) → Prop) (mu_6 : (List Bool) → Nat), Inv_6 l3_8 ∧
 ∀ (x7 : (List Bool)) , Inv_6 x7 → (∃ e_22, idx nd.kids 0 = some e_22 ∧
 capOk ss.length (([x7] : (List (List Bool))) : (List (List Bool))).length 24 ∧
 (PreW k e_22 gr (ss ++ ([x7] : (List (List Bool))))) ∧
 IfP (decide ((semF gr k e_22 (ss ++ ([x7] : (List (List Bool))))) = x7)) (Q x7) ((Inv_6 (semF gr k e_22 (ss ++ ([x7] : (List (List Bool))))) ∧ mu_6 (semF gr k e_22 (ss ++ ([x7] : (List (List Bool))))) < mu_6 x7)))))) (J (List.replicate (gr.fPlaces).toNat false))))))))))) ∧
 (∀ (l3 : (List Bool)), J l3 → Q l3))
noncomputable abbrev qfWhr0 (nd : FTr) := (svR (.agg [.v (.int .u8 nd.lab.fSign), I nd.lab.fN, LS (TT fLab) nd.kids]))
noncomputable abbrev qfWhr1 (gr : ApiGraph) := (LS ApiArrow.ty gr.fArrows)
noncomputable abbrev qfWhr2 (gr : ApiGraph) := (ApiGraph.cl gr)
set_option maxHeartbeats 2000000 in
theorem fWhr_walk (k : Nat) (nd : FTr) (gr : ApiGraph) (ss : (List (List Bool))) (ih : WhF k) (Q : (List Bool) → Prop) (h : fWhr_vc k nd gr ss Q) : Ct 34 [.sv (.one (.rd (trR fLab nd))), .sv (.agg [I gr.fLetters, I gr.fPlaces, LS ApiArrow.ty gr.fArrows]), .sv (.one (LS (lsT boolT) ss))] [] Q (fun (r : (List Bool)) => .sv (.one (LS boolT r))) := by
 have ht := tab_ok
 refine Ct.body Try.func34 rfl rfl rfl rfl (fun c hn => ?_)
 unfold fWhr_vc at h
 refine En.lenA 1 2 (by rfl) (by rfl) (fun hl => ?_)
 replace h := h hl
 clear hl
 refine En.lenL 2 (by rfl) (fun hl => ?_)
 replace h := h hl
 clear hl
 refine En.seq ?_
 refine En.region ?_
 refine WL.run ht hn 4 ⟨[sl 3 (.ptr 0 0), sl 4 (.ptr 1 0), sl 5 (.ptr 2 0)], [.box [.rd (trR fLab nd)] 83 false, .box (qfWhr2 gr) 24 false, .box [LS (lsT boolT) ss] 146 false]⟩ (by kernel_rfl) ?_
 refine WL.nil ?_
 refine En.seq ?_
 refine En.region ?_
 refine WL.run ht hn 2 ⟨[sl 3 (.ptr 0 0), sl 4 (.ptr 1 0), sl 5 (.ptr 2 0), sl 21 (I gr.fPlaces)], [.box [.rd (trR fLab nd)] 83 false, .box (qfWhr2 gr) 24 false, .box [LS (lsT boolT) ss] 146 false]⟩ (by kernel_rfl) ?_
 have hp := h.1
 replace h := h.2
 refine WL.mt0 (K := []) (p := some (3, rowI 4 boolT (List.replicate (gr.fPlaces).toNat false))) hn (by rfl) (mt_make (T := boolT) false (zv := (.bool false)) 3 (l := gr.fPlaces) (cp := gr.fPlaces) ht rfl (by rfl) (by rfl) (by rfl) (by rfl) (by decide) (by rfl) (by rfl) hp.1 hp.2.1 hp.2.2 (hp.le (by decide)) rfl (fun _ => ⟨rfl, trivial⟩)) (by rfl) (by rfl) (by rfl) ?_
 refine WL.run ht hn 1 ⟨[sl 3 (.ptr 0 0), sl 4 (.ptr 1 0), sl 5 (.ptr 2 0), sl 7 (.own 3)], [.box [.rd (trR fLab nd)] 83 false, .box (qfWhr2 gr) 24 false, .box [LS (lsT boolT) ss] 146 false, rowI 4 boolT (List.replicate (gr.fPlaces).toNat false)]⟩ (by kernel_rfl) ?_
 refine WL.nil ?_
 refine En.seq ?_
 refine En.region ?_
 refine WL.run ht hn 2 ⟨[sl 3 (.ptr 0 0), sl 4 (.ptr 1 0), sl 5 (.ptr 2 0), sl 7 (.own 3), sl 8 (.fn 76 [0, 1, 2])], [.box [.rd (trR fLab nd)] 83 false, .box (qfWhr2 gr) 24 false, .box [LS (lsT boolT) ss] 146 false, rowI 4 boolT (List.replicate (gr.fPlaces).toNat false)]⟩ (by kernel_rfl) ?_
 refine WL.nil ?_
 obtain ⟨J, h, hJ⟩ := h
 refine En.seqJ (σ := (List Bool)) (fun zz => J zz) (fun zz => ⟨[sl 7 (.own 3)], [.gone, .gone, .gone, rowI 4 boolT zz]⟩) ?_ ?_
 refine En.seq ?_
 refine En.region ?_
 refine WL.run ht hn 1 ⟨[sl 3 (.ptr 0 0), sl 4 (.ptr 1 0), sl 5 (.ptr 2 0), sl 7 (.own 3), sl 8 (.fn 76 [0, 1, 2]), sl 24 (.rd (trR fLab nd))], [.box [.rd (trR fLab nd)] 83 false, .box (qfWhr2 gr) 24 false, .box [LS (lsT boolT) ss] 146 false, rowI 4 boolT (List.replicate (gr.fPlaces).toNat false)]⟩ (by kernel_rfl) ?_
 refine WL.val hn (by rfl) (val_node (s := .agg [.v (.int .u8 nd.lab.fSign), I nd.lab.fN, LS (TT fLab) nd.kids]) (t := nd) (lab := fLab) fLabH rfl (by rfl) rfl rfl) (by rfl) ?_
 refine WL.val hn (by rfl) (val_field (l := [.v (.int .u8 nd.lab.fSign), I nd.lab.fN, LS (TT fLab) nd.kids]) (r := .one (.v (.int .u8 nd.lab.fSign))) ht rfl (by rfl) (by rfl) (by rfl) (by rfl) (by rfl) (by rfl)) (by rfl) ?_
 refine WL.val hn (by rfl) (val_load (s := .one (.v (.int .u8 nd.lab.fSign))) ht rfl (by rfl) (by rfl) (by rfl) (by rfl) (by rfl)) (by rfl) ?_
 refine WL.nil ?_
 refine En.block ?_
 refine En.seq ?_
 refine En.region ?_
 refine WL.run ht hn 2 ⟨[sl 3 (.ptr 0 0), sl 4 (.ptr 1 0), sl 5 (.ptr 2 0), sl 7 (.own 3), sl 8 (.fn 76 [0, 1, 2]), sl 27 (.v (.int .u8 nd.lab.fSign)), sl 28 (B (nd.lab.fSign == 49))], [.box [.rd (trR fLab nd)] 83 false, .box (qfWhr2 gr) 24 false, .box [LS (lsT boolT) ss] 146 false, rowI 4 boolT (List.replicate (gr.fPlaces).toNat false)]⟩ (by kernel_rfl) ?_
 refine WL.nil ?_
 refine En.cond (b := (nd.lab.fSign == 49)) (by kernel_rfl) (fun hb => ?_) (fun hb => ?_)
 replace h := h.1 hb
 refine En.seq ?_
 refine En.region ?_
 refine WL.mt0 (K := []) (p := some (4, rowI 4 boolT ([true] : (List Bool)))) hn (by rfl) (mt_lit (T := boolT) ([true] : (List Bool)) (mt_bsl 4 (r := cellsOf boolT ([true] : (List Bool))) ht rfl (by rfl) (by rfl) (by rfl) (by kernel_rfl) (by rfl)) (fun _ h => by cases h) (fun _ => rfl) (fun _ => rfl) (by rfl) (Nat.le_of_ble_eq_true rfl)) (by rfl) (by rfl) (by rfl) ?_
 refine WL.run ht hn 2 ⟨[sl 30 (.own 4), sl 32 (I gr.fPlaces)], [.gone, .gone, .gone, .gone, rowI 4 boolT ([true] : (List Bool))]⟩ (by kernel_rfl) ?_
 have hp := h.1
 replace h := h.2
 refine WL.mt0 (K := []) (p := some (5, rowI 4 boolT ((List.replicate (gr.fPlaces).toNat ((([true] : (List Bool))).headD false))))) hn (by rfl) (mt_lendI (T := boolT) (l := ([true] : (List Bool))) 4 (by rfl) (plain_row fun _ => rfl) (mt_callI 5 (repB_ct ([true] : (List Bool)) gr.fPlaces hp) en77 (caps := []) [] rfl rfl (by rfl) (by kernel_rfl) (by kernel_rfl) (by rfl) (by rfl))) (by rfl) (by rfl) (by rfl) ?_
 refine WL.run ht hn 1 ⟨[sl 6 (.own 5)], [.gone, .gone, .gone, .gone, .gone, rowI 4 boolT ((List.replicate (gr.fPlaces).toNat ((([true] : (List Bool))).headD false)))]⟩ (by kernel_rfl) ?_
 refine WL.nil ?_
 refine En.ret ?_
 refine En.seal (T := boolT) (l := ((List.replicate (gr.fPlaces).toNat ((([true] : (List Bool))).headD false)))) (e := 4) 5 rfl ?_
 exact En.back ht ((List.replicate (gr.fPlaces).toNat ((([true] : (List Bool))).headD false))) h (by kernel_rfl) rfl
 replace h := h.2 hb
 refine En.seq ?_
 refine En.region ?_
 refine WL.run ht hn 2 ⟨[sl 3 (.ptr 0 0), sl 4 (.ptr 1 0), sl 5 (.ptr 2 0), sl 7 (.own 3), sl 8 (.fn 76 [0, 1, 2]), sl 27 (.v (.int .u8 nd.lab.fSign)), sl 34 (B (nd.lab.fSign == 88))], [.box [.rd (trR fLab nd)] 83 false, .box (qfWhr2 gr) 24 false, .box [LS (lsT boolT) ss] 146 false, rowI 4 boolT (List.replicate (gr.fPlaces).toNat false)]⟩ (by kernel_rfl) ?_
 refine WL.nil ?_
 refine En.cond (b := (nd.lab.fSign == 88)) (by kernel_rfl) (fun hb => ?_) (fun hb => ?_)
 replace h := h.1 hb
 refine En.seq ?_
 obtain ⟨e, he, h⟩ := h
 refine En.regionA ⟨[sl 3 (.ptr 0 0), sl 5 (.ptr 2 0)], [.sv (.one (LS (lsT boolT) ss)), .sv (.one (.rd (trR fLab nd))), .sv (.one (.pe (qfWhr0 nd) 3)), .sv (.one (.pe (svR (.one (I nd.lab.fN))) 1)), .sv (.one (I nd.lab.fN)), .sv (.one (.pe (svR (.one (LS boolT e))) 1)), .sv (.one (LS boolT e)), .sv (.one (LS boolT e))], [⟨.box [.rd (trR fLab nd)] 83 false, none, none, none⟩, ⟨.gone, none, none, none⟩, ⟨.box [LS (lsT boolT) ss] 146 false, none, none, none⟩, ⟨.gone, none, none, none⟩]⟩ ⟨[sl 6 (LS boolT e)], [.gone, .gone, .gone, .gone]⟩ (by kernel_rfl) hn (by kernel_rfl) (by rfl) (by kernel_rfl) ?_ (by kernel_rfl) ?_
 exact ⟨.mt ⟨[sl 5 (.ptr 2 0)], [.gone, .gone, .box [LS (lsT boolT) ss] 146 false]⟩ [] none (by kernel_rfl) (by rfl) (mt_ev ht (by kernel_rfl)) rfl rfl rfl rfl,
 .mt ⟨[sl 3 (.ptr 0 0)], [.box [.rd (trR fLab nd)] 83 false]⟩ [] none (by kernel_rfl) (by rfl) (mt_ev ht (by kernel_rfl)) rfl rfl rfl rfl,
 .mt ⟨[sl 37 (.rd (trR fLab nd))], []⟩ [] none (by kernel_rfl) (by rfl) (mt_val (val_node (s := .agg [.v (.int .u8 nd.lab.fSign), I nd.lab.fN, LS (TT fLab) nd.kids]) (t := nd) (lab := fLab) fLabH rfl (by rfl) rfl rfl)) rfl rfl rfl rfl,
 .mt ⟨[sl 38 (.pe (qfWhr0 nd) 3)], []⟩ [] none (by kernel_rfl) (by rfl) (mt_val (val_field (l := [.v (.int .u8 nd.lab.fSign), I nd.lab.fN, LS (TT fLab) nd.kids]) (r := .one (I nd.lab.fN)) ht rfl (by rfl) (by rfl) (by rfl) (by rfl) (by rfl) (by rfl))) rfl rfl rfl rfl,
 .mt ⟨[sl 39 (.pe (svR (.one (I nd.lab.fN))) 1)], []⟩ [] none (by kernel_rfl) (by rfl) (mt_val (val_load (s := .one (I nd.lab.fN)) ht rfl (by rfl) (by rfl) (by rfl) (by rfl) (by rfl))) rfl rfl rfl rfl,
 .mt ⟨[sl 36 (LS (lsT boolT) ss), sl 40 (I nd.lab.fN)], []⟩ [] none (by kernel_rfl) (by rfl) (mt_val (val_index (T := (lsT boolT)) (l := ss) (i := nd.lab.fN) ht rfl (by rfl) (by rfl) (by rfl) (by rfl) (by rfl) (by rfl) he)) rfl rfl rfl rfl,
 .mt ⟨[sl 41 (.pe (svR (.one (LS boolT e))) 1)], []⟩ [] none (by kernel_rfl) (by rfl) (mt_val (val_load (s := .one (LS boolT e)) ht rfl (by rfl) (by rfl) (by rfl) (by rfl) (by rfl))) rfl rfl rfl rfl,
 .mt ⟨[sl 42 (LS boolT e)], []⟩ [] none (by kernel_rfl) (by rfl) (mt_ev ht (by kernel_rfl)) rfl rfl rfl rfl,
 trivial⟩
 refine En.ret ?_
 exact En.back ht e h (by kernel_rfl) rfl
 replace h := h.2 hb
 refine En.seq ?_
 refine En.region ?_
 refine WL.run ht hn 2 ⟨[sl 3 (.ptr 0 0), sl 4 (.ptr 1 0), sl 5 (.ptr 2 0), sl 7 (.own 3), sl 8 (.fn 76 [0, 1, 2]), sl 27 (.v (.int .u8 nd.lab.fSign)), sl 43 (B (nd.lab.fSign == 33))], [.box [.rd (trR fLab nd)] 83 false, .box (qfWhr2 gr) 24 false, .box [LS (lsT boolT) ss] 146 false, rowI 4 boolT (List.replicate (gr.fPlaces).toNat false)]⟩ (by kernel_rfl) ?_
 refine WL.nil ?_
 refine En.cond (b := (nd.lab.fSign == 33)) (by kernel_rfl) (fun hb => ?_) (fun hb => ?_)
 replace h := h.1 hb
 refine En.seq ?_
 refine En.region ?_
 refine WL.run ht hn 1 ⟨[sl 7 (.own 3), sl 45 (.fn 76 [0, 1, 2])], [.box [.rd (trR fLab nd)] 83 false, .box (qfWhr2 gr) 24 false, .box [LS (lsT boolT) ss] 146 false, rowI 4 boolT (List.replicate (gr.fPlaces).toNat false)]⟩ (by kernel_rfl) ?_
 refine WL.freeze [0, 1, 2] (by rfl) ?_
 refine WL.ghost 45 (o1 (.rd (fvR (fun (x_ : Int) => [.sv (.one (I x_))]) (fun (r : (List Bool)) => .sv (.one (LS boolT r))) (fun q_ => 0 ≤ q_ ∧ q_ < (nd.kids.length : Int) ∧ PreW k (nd.kids.getD (q_ : Int).toNat (fn 48 0 [])) gr ss) (fun q_ => semF gr k (nd.kids.getD (q_ : Int).toNat (fn 48 0 [])) ss)))) (by rfl) (fv_of (M := [.box [.rd (trR fLab nd)] 83 true, .box (qfWhr2 gr) 24 true, .box [LS (lsT boolT) ss] 146 true]) (caps := [0, 1, 2]) (fun x_ hx => fKid_ct k ih x_ nd gr ss hx) en76 rfl (by kernel_rfl) (by rfl) (fun _ => rfl)) ?_
 have hp := h.1
 replace h := h.2
 refine WL.mt0 (K := []) (p := none) hn (by rfl) (mt_callv (0 : Int) hp rfl (by rfl) (by rfl) (by rfl) (by rfl)) (by rfl) (by rfl) (by rfl) ?_
 refine WL.run ht hn 2 ⟨[sl 7 (.own 3), sl 46 (LS boolT ((fun q_ => semF gr k (nd.kids.getD (q_ : Int).toNat (fn 48 0 [])) ss) 0)), sl 47 (I (((fun q_ => semF gr k (nd.kids.getD (q_ : Int).toNat (fn 48 0 [])) ss) 0).length : Int)), sl 48 (I 0)], [.gone, .gone, .gone, rowI 4 boolT (List.replicate (gr.fPlaces).toNat false)]⟩ (by kernel_rfl) ?_
 refine WL.nil ?_
 refine En.block ?_
 obtain ⟨Inv, mu, h0, hI⟩ := h
 refine En.loop (σ := Int × (List Bool)) (fun zz => Inv zz.1 zz.2) (fun zz => mu zz.1 zz.2) (fun zz => ⟨[sl 7 (.own 3), sl 46 (LS boolT ((fun q_ => semF gr k (nd.kids.getD (q_ : Int).toNat (fn 48 0 [])) ss) 0)), sl 47 (I (((fun q_ => semF gr k (nd.kids.getD (q_ : Int).toNat (fn 48 0 [])) ss) 0).length : Int)), sl 48 (I zz.1)], [.gone, .gone, .gone, rowI 4 boolT zz.2]⟩) (0, (List.replicate (gr.fPlaces).toNat false)) h0 (sub_ok (by kernel_rfl)) ?_
 rintro ⟨x48, l3_2⟩ h
 replace h := hI _ _ h
 show En c ⟨[sl 7 (.own 3), sl 46 (LS boolT ((fun q_ => semF gr k (nd.kids.getD (q_ : Int).toNat (fn 48 0 [])) ss) 0)), sl 47 (I (((fun q_ => semF gr k (nd.kids.getD (q_ : Int).toNat (fn 48 0 [])) ss) 0).length : Int)), sl 48 (I x48)], [.gone, .gone, .gone, rowI 4 boolT l3_2]⟩ _
 refine En.seq ?_
 refine En.region ?_
 refine WL.run ht hn 1 ⟨[sl 7 (.own 3), sl 46 (LS boolT ((fun q_ => semF gr k (nd.kids.getD (q_ : Int).toNat (fn 48 0 [])) ss) 0)), sl 47 (I (((fun q_ => semF gr k (nd.kids.getD (q_ : Int).toNat (fn 48 0 [])) ss) 0).length : Int)), sl 48 (I x48), sl 49 (B (decide (x48 < (((fun q_ => semF gr k (nd.kids.getD (q_ : Int).toNat (fn 48 0 [])) ss) 0).length : Int))))], [.gone, .gone, .gone, rowI 4 boolT l3_2]⟩ (by kernel_rfl) ?_
 refine WL.nil ?_
 refine En.seq ?_
 refine En.cond (b := (decide (x48 < (((fun q_ => semF gr k (nd.kids.getD (q_ : Int).toNat (fn 48 0 [])) ss) 0).length : Int)))) (by kernel_rfl) (fun hb => ?_) (fun hb => ?_)
 replace h := h.1 hb
 refine En.skip ?_
 refine En.seq ?_
 refine En.block ?_
 refine En.seq ?_
 refine En.region ?_
 refine WL.run ht hn 1 ⟨[sl 7 (.own 3), sl 46 (LS boolT ((fun q_ => semF gr k (nd.kids.getD (q_ : Int).toNat (fn 48 0 [])) ss) 0)), sl 47 (I (((fun q_ => semF gr k (nd.kids.getD (q_ : Int).toNat (fn 48 0 [])) ss) 0).length : Int)), sl 48 (I x48), sl 50 (I x48)], [.gone, .gone, .gone, rowI 4 boolT l3_2]⟩ (by kernel_rfl) ?_
 obtain ⟨e_2, he_2, h⟩ := h
 refine WL.val hn (by rfl) (val_index (T := boolT) (l := ((fun q_ => semF gr k (nd.kids.getD (q_ : Int).toNat (fn 48 0 [])) ss) 0)) (i := x48) ht rfl (by rfl) (by rfl) (by rfl) (by rfl) (by rfl) (by rfl) he_2) (by rfl) ?_
 refine WL.val hn (by rfl) (val_load (s := .one (B e_2)) ht rfl (by rfl) (by rfl) (by rfl) (by rfl) (by rfl)) (by rfl) ?_
 refine WL.run ht hn 2 ⟨[sl 7 (.own 3), sl 9 (I x48), sl 10 (B e_2), sl 46 (LS boolT ((fun q_ => semF gr k (nd.kids.getD (q_ : Int).toNat (fn 48 0 [])) ss) 0)), sl 47 (I (((fun q_ => semF gr k (nd.kids.getD (q_ : Int).toNat (fn 48 0 [])) ss) 0).length : Int)), sl 48 (I x48)], [.gone, .gone, .gone, rowI 4 boolT l3_2]⟩ (by kernel_rfl) ?_
 refine WL.nil ?_
 refine En.region ?_
 refine WL.run ht hn 4 ⟨[sl 7 (.own 3), sl 46 (LS boolT ((fun q_ => semF gr k (nd.kids.getD (q_ : Int).toNat (fn 48 0 [])) ss) 0)), sl 47 (I (((fun q_ => semF gr k (nd.kids.getD (q_ : Int).toNat (fn 48 0 [])) ss) 0).length : Int)), sl 48 (I x48), sl 53 (.own 3), sl 54 (I x48), sl 56 (B (!e_2))], [.gone, .gone, .gone, rowI 4 boolT l3_2]⟩ (by kernel_rfl) ?_
 obtain ⟨e_3, he_3, h⟩ := h
 refine WL.val hn (by rfl) (val_indexO (T := boolT) (l := l3_2) (k := x48) ht rfl (by rfl) (by rfl) (by rfl) (by rfl) (by decide) (by rfl) (by rfl) (by rfl) he_3) (by rfl) ?_
 refine WL.storeO (T := boolT) (l := l3_2) (y := (!e_2)) ht hn (by rfl) rfl (by rfl) (by rfl) (fun _ h => by cases h) (by rfl) (by rfl) (idx_lt he_3) (by rfl) (by rfl) (by rfl) (by rfl) ?_
 refine WL.nil ?_
 refine En.region ?_
 refine WL.run ht hn 2 ⟨[sl 7 (.own 3), sl 46 (LS boolT ((fun q_ => semF gr k (nd.kids.getD (q_ : Int).toNat (fn 48 0 [])) ss) 0)), sl 47 (I (((fun q_ => semF gr k (nd.kids.getD (q_ : Int).toNat (fn 48 0 [])) ss) 0).length : Int)), sl 48 (I (wr (x48 + 1)))], [.gone, .gone, .gone, rowI 4 boolT (l3_2.set (x48).toNat (!e_2))]⟩ (by kernel_rfl) ?_
 refine WL.nil ?_
 exact En.at (I := fun zz => Inv zz.1 zz.2 ∧ mu zz.1 zz.2 < mu x48 l3_2) (T := fun zz => ⟨[sl 7 (.own 3), sl 46 (LS boolT ((fun q_ => semF gr k (nd.kids.getD (q_ : Int).toNat (fn 48 0 [])) ss) 0)), sl 47 (I (((fun q_ => semF gr k (nd.kids.getD (q_ : Int).toNat (fn 48 0 [])) ss) 0).length : Int)), sl 48 (I zz.1)], [.gone, .gone, .gone, rowI 4 boolT zz.2]⟩) ((wr (x48 + 1)), (l3_2.set (x48).toNat (!e_2))) h (by kernel_rfl)
 replace h := h.2 hb
 refine En.exit rfl ?_
 exact En.at (I := fun zz => J zz) (T := fun zz => ⟨[sl 7 (.own 3)], [.gone, .gone, .gone, rowI 4 boolT zz]⟩) l3_2 h (by kernel_rfl)
 replace h := h.2 hb
 obtain ⟨J_2, h, hJ_2⟩ := h
 refine En.seqJ (σ := Bool) (fun zz => J_2 zz) (fun zz => ⟨[sl 3 (.ptr 0 0), sl 4 (.ptr 1 0), sl 5 (.ptr 2 0), sl 7 (.own 3), sl 8 (.fn 76 [0, 1, 2]), sl 27 (.v (.int .u8 nd.lab.fSign)), sl 59 (B zz)], [.box [.rd (trR fLab nd)] 83 false, .box (qfWhr2 gr) 24 false, .box [LS (lsT boolT) ss] 146 false, rowI 4 boolT (List.replicate (gr.fPlaces).toNat false)]⟩) ?_ ?_
 refine En.seq ?_
 refine En.region ?_
 refine WL.run ht hn 2 ⟨[sl 3 (.ptr 0 0), sl 4 (.ptr 1 0), sl 5 (.ptr 2 0), sl 7 (.own 3), sl 8 (.fn 76 [0, 1, 2]), sl 27 (.v (.int .u8 nd.lab.fSign)), sl 59 (B (nd.lab.fSign == 38))], [.box [.rd (trR fLab nd)] 83 false, .box (qfWhr2 gr) 24 false, .box [LS (lsT boolT) ss] 146 false, rowI 4 boolT (List.replicate (gr.fPlaces).toNat false)]⟩ (by kernel_rfl) ?_
 refine WL.nil ?_
 refine En.cond (b := (nd.lab.fSign == 38)) (by kernel_rfl) (fun hb => ?_) (fun hb => ?_)
 replace h := h.1 hb
 refine En.skip ?_
 exact En.at (I := fun zz => J_2 zz) (T := fun zz => ⟨[sl 3 (.ptr 0 0), sl 4 (.ptr 1 0), sl 5 (.ptr 2 0), sl 7 (.own 3), sl 8 (.fn 76 [0, 1, 2]), sl 27 (.v (.int .u8 nd.lab.fSign)), sl 59 (B zz)], [.box [.rd (trR fLab nd)] 83 false, .box (qfWhr2 gr) 24 false, .box [LS (lsT boolT) ss] 146 false, rowI 4 boolT (List.replicate (gr.fPlaces).toNat false)]⟩) (nd.lab.fSign == 38) h (by kernel_rfl)
 replace h := h.2 hb
 refine En.region ?_
 refine WL.run ht hn 2 ⟨[sl 3 (.ptr 0 0), sl 4 (.ptr 1 0), sl 5 (.ptr 2 0), sl 7 (.own 3), sl 8 (.fn 76 [0, 1, 2]), sl 27 (.v (.int .u8 nd.lab.fSign)), sl 59 (B (nd.lab.fSign == 124))], [.box [.rd (trR fLab nd)] 83 false, .box (qfWhr2 gr) 24 false, .box [LS (lsT boolT) ss] 146 false, rowI 4 boolT (List.replicate (gr.fPlaces).toNat false)]⟩ (by kernel_rfl) ?_
 refine WL.nil ?_
 exact En.at (I := fun zz => J_2 zz) (T := fun zz => ⟨[sl 3 (.ptr 0 0), sl 4 (.ptr 1 0), sl 5 (.ptr 2 0), sl 7 (.own 3), sl 8 (.fn 76 [0, 1, 2]), sl 27 (.v (.int .u8 nd.lab.fSign)), sl 59 (B zz)], [.box [.rd (trR fLab nd)] 83 false, .box (qfWhr2 gr) 24 false, .box [LS (lsT boolT) ss] 146 false, rowI 4 boolT (List.replicate (gr.fPlaces).toNat false)]⟩) (nd.lab.fSign == 124) h (by kernel_rfl)
 intro x59 h
 replace h := hJ_2 _ h
 show En c ⟨[sl 3 (.ptr 0 0), sl 4 (.ptr 1 0), sl 5 (.ptr 2 0), sl 7 (.own 3), sl 8 (.fn 76 [0, 1, 2]), sl 27 (.v (.int .u8 nd.lab.fSign)), sl 59 (B x59)], [.box [.rd (trR fLab nd)] 83 false, .box (qfWhr2 gr) 24 false, .box [LS (lsT boolT) ss] 146 false, rowI 4 boolT (List.replicate (gr.fPlaces).toNat false)]⟩ _
 refine En.cond (b := x59) (by kernel_rfl) (fun hb => ?_) (fun hb => ?_)
 replace h := h.1 hb
 refine En.seq ?_
 refine En.region ?_
 refine WL.run ht hn 1 ⟨[sl 3 (.ptr 0 0), sl 7 (.own 3), sl 8 (.fn 76 [0, 1, 2]), sl 62 (.fn 76 [0, 1, 2])], [.box [.rd (trR fLab nd)] 83 false, .box (qfWhr2 gr) 24 false, .box [LS (lsT boolT) ss] 146 false, rowI 4 boolT (List.replicate (gr.fPlaces).toNat false)]⟩ (by kernel_rfl) ?_
 refine WL.freeze [0, 1, 2] (by rfl) ?_
 refine WL.ghost 62 (o1 (.rd (fvR (fun (x_ : Int) => [.sv (.one (I x_))]) (fun (r : (List Bool)) => .sv (.one (LS boolT r))) (fun q_ => 0 ≤ q_ ∧ q_ < (nd.kids.length : Int) ∧ PreW k (nd.kids.getD (q_ : Int).toNat (fn 48 0 [])) gr ss) (fun q_ => semF gr k (nd.kids.getD (q_ : Int).toNat (fn 48 0 [])) ss)))) (by rfl) (fv_of (M := [.box [.rd (trR fLab nd)] 83 true, .box (qfWhr2 gr) 24 true, .box [LS (lsT boolT) ss] 146 true]) (caps := [0, 1, 2]) (fun x_ hx => fKid_ct k ih x_ nd gr ss hx) en76 rfl (by kernel_rfl) (by rfl) (fun _ => rfl)) ?_
 have hp := h.1
 replace h := h.2
 refine WL.mt0 (K := []) (p := none) hn (by rfl) (mt_callv (0 : Int) hp rfl (by rfl) (by rfl) (by rfl) (by rfl)) (by rfl) (by rfl) (by rfl) ?_
 refine WL.run ht hn 1 ⟨[sl 3 (.ptr 0 0), sl 7 (.own 3), sl 63 (LS boolT ((fun q_ => semF gr k (nd.kids.getD (q_ : Int).toNat (fn 48 0 [])) ss) 0)), sl 64 (.fn 76 [0, 1, 2])], [.box [.rd (trR fLab nd)] 83 true, .box (qfWhr2 gr) 24 true, .box [LS (lsT boolT) ss] 146 true, rowI 4 boolT (List.replicate (gr.fPlaces).toNat false)]⟩ (by kernel_rfl) ?_
 refine WL.ghost 64 (o1 (.rd (fvR (fun (x_ : Int) => [.sv (.one (I x_))]) (fun (r : (List Bool)) => .sv (.one (LS boolT r))) (fun q_ => 0 ≤ q_ ∧ q_ < (nd.kids.length : Int) ∧ PreW k (nd.kids.getD (q_ : Int).toNat (fn 48 0 [])) gr ss) (fun q_ => semF gr k (nd.kids.getD (q_ : Int).toNat (fn 48 0 [])) ss)))) (by rfl) (fv_of (M := [.box [.rd (trR fLab nd)] 83 true, .box (qfWhr2 gr) 24 true, .box [LS (lsT boolT) ss] 146 true]) (caps := [0, 1, 2]) (fun x_ hx => fKid_ct k ih x_ nd gr ss hx) en76 rfl (by kernel_rfl) (by rfl) (fun _ => rfl)) ?_
 have hp := h.1
 replace h := h.2
 refine WL.mt0 (K := []) (p := none) hn (by rfl) (mt_callv (1 : Int) hp rfl (by rfl) (by rfl) (by rfl) (by rfl)) (by rfl) (by rfl) (by rfl) ?_
 refine WL.run ht hn 2 ⟨[sl 3 (.ptr 0 0), sl 7 (.own 3), sl 11 (LS boolT ((fun q_ => semF gr k (nd.kids.getD (q_ : Int).toNat (fn 48 0 [])) ss) 0)), sl 12 (LS boolT ((fun q_ => semF gr k (nd.kids.getD (q_ : Int).toNat (fn 48 0 [])) ss) 1))], [.box [.rd (trR fLab nd)] 83 true, .gone, .gone, rowI 4 boolT (List.replicate (gr.fPlaces).toNat false)]⟩ (by kernel_rfl) ?_
 refine WL.nil ?_
 refine En.seq ?_
 refine En.region ?_
 refine WL.run ht hn 3 ⟨[sl 3 (.ptr 0 0), sl 7 (.own 3), sl 11 (LS boolT ((fun q_ => semF gr k (nd.kids.getD (q_ : Int).toNat (fn 48 0 [])) ss) 0)), sl 12 (LS boolT ((fun q_ => semF gr k (nd.kids.getD (q_ : Int).toNat (fn 48 0 [])) ss) 1)), sl 67 (I ((List.replicate (gr.fPlaces).toNat false).length : Int)), sl 68 (I 0)], [.box [.rd (trR fLab nd)] 83 true, .gone, .gone, rowI 4 boolT (List.replicate (gr.fPlaces).toNat false)]⟩ (by kernel_rfl) ?_
 refine WL.nil ?_
 refine En.block ?_
 obtain ⟨Inv_2, mu_2, h0_2, hI_2⟩ := h
 refine En.loop (σ := Int × (List Bool)) (fun zz => Inv_2 zz.1 zz.2) (fun zz => mu_2 zz.1 zz.2) (fun zz => ⟨[sl 3 (.ptr 0 0), sl 7 (.own 3), sl 11 (LS boolT ((fun q_ => semF gr k (nd.kids.getD (q_ : Int).toNat (fn 48 0 [])) ss) 0)), sl 12 (LS boolT ((fun q_ => semF gr k (nd.kids.getD (q_ : Int).toNat (fn 48 0 [])) ss) 1)), sl 67 (I ((List.replicate (gr.fPlaces).toNat false).length : Int)), sl 68 (I zz.1)], [.box [.rd (trR fLab nd)] 83 true, .gone, .gone, rowI 4 boolT zz.2]⟩) (0, (List.replicate (gr.fPlaces).toNat false)) h0_2 (sub_ok (by kernel_rfl)) ?_
 rintro ⟨x68, l3_3⟩ h
 replace h := hI_2 _ _ h
 show En c ⟨[sl 3 (.ptr 0 0), sl 7 (.own 3), sl 11 (LS boolT ((fun q_ => semF gr k (nd.kids.getD (q_ : Int).toNat (fn 48 0 [])) ss) 0)), sl 12 (LS boolT ((fun q_ => semF gr k (nd.kids.getD (q_ : Int).toNat (fn 48 0 [])) ss) 1)), sl 67 (I ((List.replicate (gr.fPlaces).toNat false).length : Int)), sl 68 (I x68)], [.box [.rd (trR fLab nd)] 83 true, .gone, .gone, rowI 4 boolT l3_3]⟩ _
 refine En.seq ?_
 refine En.region ?_
 refine WL.run ht hn 1 ⟨[sl 3 (.ptr 0 0), sl 7 (.own 3), sl 11 (LS boolT ((fun q_ => semF gr k (nd.kids.getD (q_ : Int).toNat (fn 48 0 [])) ss) 0)), sl 12 (LS boolT ((fun q_ => semF gr k (nd.kids.getD (q_ : Int).toNat (fn 48 0 [])) ss) 1)), sl 67 (I ((List.replicate (gr.fPlaces).toNat false).length : Int)), sl 68 (I x68), sl 69 (B (decide (x68 < ((List.replicate (gr.fPlaces).toNat false).length : Int))))], [.box [.rd (trR fLab nd)] 83 true, .gone, .gone, rowI 4 boolT l3_3]⟩ (by kernel_rfl) ?_
 refine WL.nil ?_
 refine En.seq ?_
 refine En.cond (b := (decide (x68 < ((List.replicate (gr.fPlaces).toNat false).length : Int)))) (by kernel_rfl) (fun hb => ?_) (fun hb => ?_)
 replace h := h.1 hb
 refine En.skip ?_
 obtain ⟨J_3, h, hJ_3⟩ := h
 refine En.seqJ (σ := (List Bool)) (fun zz => J_3 zz) (fun zz => ⟨[sl 3 (.ptr 0 0), sl 7 (.own 3), sl 11 (LS boolT ((fun q_ => semF gr k (nd.kids.getD (q_ : Int).toNat (fn 48 0 [])) ss) 0)), sl 12 (LS boolT ((fun q_ => semF gr k (nd.kids.getD (q_ : Int).toNat (fn 48 0 [])) ss) 1)), sl 67 (I ((List.replicate (gr.fPlaces).toNat false).length : Int)), sl 68 (I x68)], [.box [.rd (trR fLab nd)] 83 true, .gone, .gone, rowI 4 boolT zz]⟩) ?_ ?_
 refine En.block ?_
 refine En.seq ?_
 refine En.region ?_
 refine WL.run ht hn 2 ⟨[sl 3 (.ptr 0 0), sl 7 (.own 3), sl 11 (LS boolT ((fun q_ => semF gr k (nd.kids.getD (q_ : Int).toNat (fn 48 0 [])) ss) 0)), sl 12 (LS boolT ((fun q_ => semF gr k (nd.kids.getD (q_ : Int).toNat (fn 48 0 [])) ss) 1)), sl 13 (I x68), sl 67 (I ((List.replicate (gr.fPlaces).toNat false).length : Int)), sl 68 (I x68)], [.box [.rd (trR fLab nd)] 83 true, .gone, .gone, rowI 4 boolT l3_3]⟩ (by kernel_rfl) ?_
 refine WL.nil ?_
 refine En.region ?_
 refine WL.run ht hn 4 ⟨[sl 3 (.ptr 0 0), sl 7 (.own 3), sl 11 (LS boolT ((fun q_ => semF gr k (nd.kids.getD (q_ : Int).toNat (fn 48 0 [])) ss) 0)), sl 12 (LS boolT ((fun q_ => semF gr k (nd.kids.getD (q_ : Int).toNat (fn 48 0 [])) ss) 1)), sl 13 (I x68), sl 67 (I ((List.replicate (gr.fPlaces).toNat false).length : Int)), sl 68 (I x68), sl 71 (.own 3), sl 72 (I x68), sl 73 (LS boolT ((fun q_ => semF gr k (nd.kids.getD (q_ : Int).toNat (fn 48 0 [])) ss) 0)), sl 74 (I x68)], [.box [.rd (trR fLab nd)] 83 true, .gone, .gone, rowI 4 boolT l3_3]⟩ (by kernel_rfl) ?_
 obtain ⟨e_4, he_4, h⟩ := h
 refine WL.val hn (by rfl) (val_index (T := boolT) (l := ((fun q_ => semF gr k (nd.kids.getD (q_ : Int).toNat (fn 48 0 [])) ss) 0)) (i := x68) ht rfl (by rfl) (by rfl) (by rfl) (by rfl) (by rfl) (by rfl) he_4) (by rfl) ?_
 refine WL.val hn (by rfl) (val_load (s := .one (B e_4)) ht rfl (by rfl) (by rfl) (by rfl) (by rfl) (by rfl)) (by rfl) ?_
 refine WL.run ht hn 1 ⟨[sl 3 (.ptr 0 0), sl 7 (.own 3), sl 11 (LS boolT ((fun q_ => semF gr k (nd.kids.getD (q_ : Int).toNat (fn 48 0 [])) ss) 0)), sl 12 (LS boolT ((fun q_ => semF gr k (nd.kids.getD (q_ : Int).toNat (fn 48 0 [])) ss) 1)), sl 13 (I x68), sl 67 (I ((List.replicate (gr.fPlaces).toNat false).length : Int)), sl 68 (I x68), sl 71 (.own 3), sl 72 (I x68), sl 77 (B e_4)], [.box [.rd (trR fLab nd)] 83 true, .gone, .gone, rowI 4 boolT l3_3]⟩ (by kernel_rfl) ?_
 refine splitB e_4 (fun hb => ?_) (fun hb => ?_)
 replace h := h.1 hb
 refine WL.setB 77 hb (by kernel_rfl) ?_
 refine WL.run ht hn 2 ⟨[sl 3 (.ptr 0 0), sl 7 (.own 3), sl 11 (LS boolT ((fun q_ => semF gr k (nd.kids.getD (q_ : Int).toNat (fn 48 0 [])) ss) 0)), sl 12 (LS boolT ((fun q_ => semF gr k (nd.kids.getD (q_ : Int).toNat (fn 48 0 [])) ss) 1)), sl 13 (I x68), sl 67 (I ((List.replicate (gr.fPlaces).toNat false).length : Int)), sl 68 (I x68), sl 71 (.own 3), sl 72 (I x68), sl 77 (B true), sl 78 (LS boolT ((fun q_ => semF gr k (nd.kids.getD (q_ : Int).toNat (fn 48 0 [])) ss) 1)), sl 79 (I x68)], [.box [.rd (trR fLab nd)] 83 true, .gone, .gone, rowI 4 boolT l3_3]⟩ (by kernel_rfl) ?_
 obtain ⟨e_5, he_5, h⟩ := h
 refine WL.val hn (by rfl) (val_index (T := boolT) (l := ((fun q_ => semF gr k (nd.kids.getD (q_ : Int).toNat (fn 48 0 [])) ss) 1)) (i := x68) ht rfl (by rfl) (by rfl) (by rfl) (by rfl) (by rfl) (by rfl) he_5) (by rfl) ?_
 refine WL.val hn (by rfl) (val_load (s := .one (B e_5)) ht rfl (by rfl) (by rfl) (by rfl) (by rfl) (by rfl)) (by rfl) ?_
 refine WL.run ht hn 2 ⟨[sl 3 (.ptr 0 0), sl 7 (.own 3), sl 11 (LS boolT ((fun q_ => semF gr k (nd.kids.getD (q_ : Int).toNat (fn 48 0 [])) ss) 0)), sl 12 (LS boolT ((fun q_ => semF gr k (nd.kids.getD (q_ : Int).toNat (fn 48 0 [])) ss) 1)), sl 13 (I x68), sl 67 (I ((List.replicate (gr.fPlaces).toNat false).length : Int)), sl 68 (I x68), sl 71 (.own 3), sl 72 (I x68), sl 83 (B e_5)], [.box [.rd (trR fLab nd)] 83 true, .gone, .gone, rowI 4 boolT l3_3]⟩ (by kernel_rfl) ?_
 refine splitB e_5 (fun hb => ?_) (fun hb => ?_)
 replace h := h.1 hb
 refine WL.setB 83 hb (by kernel_rfl) ?_
 refine WL.run ht hn 18 ⟨[sl 3 (.ptr 0 0), sl 7 (.own 3), sl 11 (LS boolT ((fun q_ => semF gr k (nd.kids.getD (q_ : Int).toNat (fn 48 0 [])) ss) 0)), sl 12 (LS boolT ((fun q_ => semF gr k (nd.kids.getD (q_ : Int).toNat (fn 48 0 [])) ss) 1)), sl 67 (I ((List.replicate (gr.fPlaces).toNat false).length : Int)), sl 68 (I x68), sl 71 (.own 3), sl 72 (I x68), sl 101 (B true)], [.box [.rd (trR fLab nd)] 83 true, .gone, .gone, rowI 4 boolT l3_3]⟩ (by kernel_rfl) ?_
 obtain ⟨e_6, he_6, h⟩ := h
 refine WL.val hn (by rfl) (val_indexO (T := boolT) (l := l3_3) (k := x68) ht rfl (by rfl) (by rfl) (by rfl) (by rfl) (by decide) (by rfl) (by rfl) (by rfl) he_6) (by rfl) ?_
 refine WL.storeO (T := boolT) (l := l3_3) (y := true) ht hn (by rfl) rfl (by rfl) (by rfl) (fun _ h => by cases h) (by rfl) (by rfl) (idx_lt he_6) (by rfl) (by rfl) (by rfl) (by rfl) ?_
 refine WL.nil ?_
 exact En.at (I := fun zz => J_3 zz) (T := fun zz => ⟨[sl 3 (.ptr 0 0), sl 7 (.own 3), sl 11 (LS boolT ((fun q_ => semF gr k (nd.kids.getD (q_ : Int).toNat (fn 48 0 [])) ss) 0)), sl 12 (LS boolT ((fun q_ => semF gr k (nd.kids.getD (q_ : Int).toNat (fn 48 0 [])) ss) 1)), sl 67 (I ((List.replicate (gr.fPlaces).toNat false).length : Int)), sl 68 (I x68)], [.box [.rd (trR fLab nd)] 83 true, .gone, .gone, rowI 4 boolT zz]⟩) (l3_3.set (x68).toNat true) h (by kernel_rfl)
 replace h := h.2 hb
 refine WL.setB 83 hb (by kernel_rfl) ?_
 refine WL.run ht hn 1 ⟨[sl 3 (.ptr 0 0), sl 7 (.own 3), sl 11 (LS boolT ((fun q_ => semF gr k (nd.kids.getD (q_ : Int).toNat (fn 48 0 [])) ss) 0)), sl 12 (LS boolT ((fun q_ => semF gr k (nd.kids.getD (q_ : Int).toNat (fn 48 0 [])) ss) 1)), sl 13 (I x68), sl 67 (I ((List.replicate (gr.fPlaces).toNat false).length : Int)), sl 68 (I x68), sl 71 (.own 3), sl 72 (I x68), sl 83 (B false), sl 84 (.rd (trR fLab nd))], [.box [.rd (trR fLab nd)] 83 true, .gone, .gone, rowI 4 boolT l3_3]⟩ (by kernel_rfl) ?_
 refine WL.val hn (by rfl) (val_node (s := .agg [.v (.int .u8 nd.lab.fSign), I nd.lab.fN, LS (TT fLab) nd.kids]) (t := nd) (lab := fLab) fLabH rfl (by rfl) rfl rfl) (by rfl) ?_
 refine WL.val hn (by rfl) (val_field (l := [.v (.int .u8 nd.lab.fSign), I nd.lab.fN, LS (TT fLab) nd.kids]) (r := .one (.v (.int .u8 nd.lab.fSign))) ht rfl (by rfl) (by rfl) (by rfl) (by rfl) (by rfl) (by rfl)) (by rfl) ?_
 refine WL.val hn (by rfl) (val_load (s := .one (.v (.int .u8 nd.lab.fSign))) ht rfl (by rfl) (by rfl) (by rfl) (by rfl) (by rfl)) (by rfl) ?_
 refine WL.run ht hn 2 ⟨[sl 3 (.ptr 0 0), sl 7 (.own 3), sl 11 (LS boolT ((fun q_ => semF gr k (nd.kids.getD (q_ : Int).toNat (fn 48 0 [])) ss) 0)), sl 12 (LS boolT ((fun q_ => semF gr k (nd.kids.getD (q_ : Int).toNat (fn 48 0 [])) ss) 1)), sl 13 (I x68), sl 67 (I ((List.replicate (gr.fPlaces).toNat false).length : Int)), sl 68 (I x68), sl 71 (.own 3), sl 72 (I x68), sl 83 (B false), sl 89 (B (nd.lab.fSign == 124))], [.box [.rd (trR fLab nd)] 83 true, .gone, .gone, rowI 4 boolT l3_3]⟩ (by kernel_rfl) ?_
 refine splitB (nd.lab.fSign == 124) (fun hb => ?_) (fun hb => ?_)
 replace h := h.1 hb
 refine WL.setB 89 hb (by kernel_rfl) ?_
 refine WL.run ht hn 2 ⟨[sl 3 (.ptr 0 0), sl 7 (.own 3), sl 11 (LS boolT ((fun q_ => semF gr k (nd.kids.getD (q_ : Int).toNat (fn 48 0 [])) ss) 0)), sl 12 (LS boolT ((fun q_ => semF gr k (nd.kids.getD (q_ : Int).toNat (fn 48 0 [])) ss) 1)), sl 13 (I x68), sl 67 (I ((List.replicate (gr.fPlaces).toNat false).length : Int)), sl 68 (I x68), sl 71 (.own 3), sl 72 (I x68), sl 83 (B false), sl 89 (B true), sl 90 (LS boolT ((fun q_ => semF gr k (nd.kids.getD (q_ : Int).toNat (fn 48 0 [])) ss) 0)), sl 91 (I x68)], [.box [.rd (trR fLab nd)] 83 true, .gone, .gone, rowI 4 boolT l3_3]⟩ (by kernel_rfl) ?_
 obtain ⟨e_7, he_7, h⟩ := h
 refine WL.val hn (by rfl) (val_index (T := boolT) (l := ((fun q_ => semF gr k (nd.kids.getD (q_ : Int).toNat (fn 48 0 [])) ss) 0)) (i := x68) ht rfl (by rfl) (by rfl) (by rfl) (by rfl) (by rfl) (by rfl) he_7) (by rfl) ?_
 refine WL.val hn (by rfl) (val_load (s := .one (B e_7)) ht rfl (by rfl) (by rfl) (by rfl) (by rfl) (by rfl)) (by rfl) ?_
 refine WL.run ht hn 1 ⟨[sl 3 (.ptr 0 0), sl 7 (.own 3), sl 11 (LS boolT ((fun q_ => semF gr k (nd.kids.getD (q_ : Int).toNat (fn 48 0 [])) ss) 0)), sl 12 (LS boolT ((fun q_ => semF gr k (nd.kids.getD (q_ : Int).toNat (fn 48 0 [])) ss) 1)), sl 13 (I x68), sl 67 (I ((List.replicate (gr.fPlaces).toNat false).length : Int)), sl 68 (I x68), sl 71 (.own 3), sl 72 (I x68), sl 83 (B false), sl 89 (B true), sl 94 (B e_7)], [.box [.rd (trR fLab nd)] 83 true, .gone, .gone, rowI 4 boolT l3_3]⟩ (by kernel_rfl) ?_
 refine splitB e_7 (fun hb => ?_) (fun hb => ?_)
 replace h := h.1 hb
 refine WL.setB 94 hb (by kernel_rfl) ?_
 refine WL.run ht hn 7 ⟨[sl 3 (.ptr 0 0), sl 7 (.own 3), sl 11 (LS boolT ((fun q_ => semF gr k (nd.kids.getD (q_ : Int).toNat (fn 48 0 [])) ss) 0)), sl 12 (LS boolT ((fun q_ => semF gr k (nd.kids.getD (q_ : Int).toNat (fn 48 0 [])) ss) 1)), sl 67 (I ((List.replicate (gr.fPlaces).toNat false).length : Int)), sl 68 (I x68), sl 71 (.own 3), sl 72 (I x68), sl 101 (B true)], [.box [.rd (trR fLab nd)] 83 true, .gone, .gone, rowI 4 boolT l3_3]⟩ (by kernel_rfl) ?_
 obtain ⟨e_8, he_8, h⟩ := h
 refine WL.val hn (by rfl) (val_indexO (T := boolT) (l := l3_3) (k := x68) ht rfl (by rfl) (by rfl) (by rfl) (by rfl) (by decide) (by rfl) (by rfl) (by rfl) he_8) (by rfl) ?_
 refine WL.storeO (T := boolT) (l := l3_3) (y := true) ht hn (by rfl) rfl (by rfl) (by rfl) (fun _ h => by cases h) (by rfl) (by rfl) (idx_lt he_8) (by rfl) (by rfl) (by rfl) (by rfl) ?_
 refine WL.nil ?_
 exact En.at (I := fun zz => J_3 zz) (T := fun zz => ⟨[sl 3 (.ptr 0 0), sl 7 (.own 3), sl 11 (LS boolT ((fun q_ => semF gr k (nd.kids.getD (q_ : Int).toNat (fn 48 0 [])) ss) 0)), sl 12 (LS boolT ((fun q_ => semF gr k (nd.kids.getD (q_ : Int).toNat (fn 48 0 [])) ss) 1)), sl 67 (I ((List.replicate (gr.fPlaces).toNat false).length : Int)), sl 68 (I x68)], [.box [.rd (trR fLab nd)] 83 true, .gone, .gone, rowI 4 boolT zz]⟩) (l3_3.set (x68).toNat true) h (by kernel_rfl)
 replace h := h.2 hb
 refine WL.setB 94 hb (by kernel_rfl) ?_
 refine WL.run ht hn 2 ⟨[sl 3 (.ptr 0 0), sl 7 (.own 3), sl 11 (LS boolT ((fun q_ => semF gr k (nd.kids.getD (q_ : Int).toNat (fn 48 0 [])) ss) 0)), sl 12 (LS boolT ((fun q_ => semF gr k (nd.kids.getD (q_ : Int).toNat (fn 48 0 [])) ss) 1)), sl 67 (I ((List.replicate (gr.fPlaces).toNat false).length : Int)), sl 68 (I x68), sl 71 (.own 3), sl 72 (I x68), sl 83 (B false), sl 89 (B true), sl 94 (B false), sl 95 (LS boolT ((fun q_ => semF gr k (nd.kids.getD (q_ : Int).toNat (fn 48 0 [])) ss) 1)), sl 96 (I x68)], [.box [.rd (trR fLab nd)] 83 true, .gone, .gone, rowI 4 boolT l3_3]⟩ (by kernel_rfl) ?_
 obtain ⟨e_9, he_9, h⟩ := h
 refine WL.val hn (by rfl) (val_index (T := boolT) (l := ((fun q_ => semF gr k (nd.kids.getD (q_ : Int).toNat (fn 48 0 [])) ss) 1)) (i := x68) ht rfl (by rfl) (by rfl) (by rfl) (by rfl) (by rfl) (by rfl) he_9) (by rfl) ?_
 refine WL.val hn (by rfl) (val_load (s := .one (B e_9)) ht rfl (by rfl) (by rfl) (by rfl) (by rfl) (by rfl)) (by rfl) ?_
 refine WL.run ht hn 3 ⟨[sl 3 (.ptr 0 0), sl 7 (.own 3), sl 11 (LS boolT ((fun q_ => semF gr k (nd.kids.getD (q_ : Int).toNat (fn 48 0 [])) ss) 0)), sl 12 (LS boolT ((fun q_ => semF gr k (nd.kids.getD (q_ : Int).toNat (fn 48 0 [])) ss) 1)), sl 67 (I ((List.replicate (gr.fPlaces).toNat false).length : Int)), sl 68 (I x68), sl 71 (.own 3), sl 72 (I x68), sl 101 (B e_9)], [.box [.rd (trR fLab nd)] 83 true, .gone, .gone, rowI 4 boolT l3_3]⟩ (by kernel_rfl) ?_
 obtain ⟨e_10, he_10, h⟩ := h
 refine WL.val hn (by rfl) (val_indexO (T := boolT) (l := l3_3) (k := x68) ht rfl (by rfl) (by rfl) (by rfl) (by rfl) (by decide) (by rfl) (by rfl) (by rfl) he_10) (by rfl) ?_
 refine WL.storeO (T := boolT) (l := l3_3) (y := e_9) ht hn (by rfl) rfl (by rfl) (by rfl) (fun _ h => by cases h) (by rfl) (by rfl) (idx_lt he_10) (by rfl) (by rfl) (by rfl) (by rfl) ?_
 refine WL.nil ?_
 exact En.at (I := fun zz => J_3 zz) (T := fun zz => ⟨[sl 3 (.ptr 0 0), sl 7 (.own 3), sl 11 (LS boolT ((fun q_ => semF gr k (nd.kids.getD (q_ : Int).toNat (fn 48 0 [])) ss) 0)), sl 12 (LS boolT ((fun q_ => semF gr k (nd.kids.getD (q_ : Int).toNat (fn 48 0 [])) ss) 1)), sl 67 (I ((List.replicate (gr.fPlaces).toNat false).length : Int)), sl 68 (I x68)], [.box [.rd (trR fLab nd)] 83 true, .gone, .gone, rowI 4 boolT zz]⟩) (l3_3.set (x68).toNat e_9) h (by kernel_rfl)
 replace h := h.2 hb
 refine WL.setB 89 hb (by kernel_rfl) ?_
 refine WL.run ht hn 12 ⟨[sl 3 (.ptr 0 0), sl 7 (.own 3), sl 11 (LS boolT ((fun q_ => semF gr k (nd.kids.getD (q_ : Int).toNat (fn 48 0 [])) ss) 0)), sl 12 (LS boolT ((fun q_ => semF gr k (nd.kids.getD (q_ : Int).toNat (fn 48 0 [])) ss) 1)), sl 67 (I ((List.replicate (gr.fPlaces).toNat false).length : Int)), sl 68 (I x68), sl 71 (.own 3), sl 72 (I x68), sl 101 (B false)], [.box [.rd (trR fLab nd)] 83 true, .gone, .gone, rowI 4 boolT l3_3]⟩ (by kernel_rfl) ?_
 obtain ⟨e_11, he_11, h⟩ := h
 refine WL.val hn (by rfl) (val_indexO (T := boolT) (l := l3_3) (k := x68) ht rfl (by rfl) (by rfl) (by rfl) (by rfl) (by decide) (by rfl) (by rfl) (by rfl) he_11) (by rfl) ?_
 refine WL.storeO (T := boolT) (l := l3_3) (y := false) ht hn (by rfl) rfl (by rfl) (by rfl) (fun _ h => by cases h) (by rfl) (by rfl) (idx_lt he_11) (by rfl) (by rfl) (by rfl) (by rfl) ?_
 refine WL.nil ?_
 exact En.at (I := fun zz => J_3 zz) (T := fun zz => ⟨[sl 3 (.ptr 0 0), sl 7 (.own 3), sl 11 (LS boolT ((fun q_ => semF gr k (nd.kids.getD (q_ : Int).toNat (fn 48 0 [])) ss) 0)), sl 12 (LS boolT ((fun q_ => semF gr k (nd.kids.getD (q_ : Int).toNat (fn 48 0 [])) ss) 1)), sl 67 (I ((List.replicate (gr.fPlaces).toNat false).length : Int)), sl 68 (I x68)], [.box [.rd (trR fLab nd)] 83 true, .gone, .gone, rowI 4 boolT zz]⟩) (l3_3.set (x68).toNat false) h (by kernel_rfl)
 replace h := h.2 hb
 refine WL.setB 77 hb (by kernel_rfl) ?_
 refine WL.run ht hn 7 ⟨[sl 3 (.ptr 0 0), sl 7 (.own 3), sl 11 (LS boolT ((fun q_ => semF gr k (nd.kids.getD (q_ : Int).toNat (fn 48 0 [])) ss) 0)), sl 12 (LS boolT ((fun q_ => semF gr k (nd.kids.getD (q_ : Int).toNat (fn 48 0 [])) ss) 1)), sl 13 (I x68), sl 67 (I ((List.replicate (gr.fPlaces).toNat false).length : Int)), sl 68 (I x68), sl 71 (.own 3), sl 72 (I x68), sl 83 (B false), sl 84 (.rd (trR fLab nd))], [.box [.rd (trR fLab nd)] 83 true, .gone, .gone, rowI 4 boolT l3_3]⟩ (by kernel_rfl) ?_
 refine WL.val hn (by rfl) (val_node (s := .agg [.v (.int .u8 nd.lab.fSign), I nd.lab.fN, LS (TT fLab) nd.kids]) (t := nd) (lab := fLab) fLabH rfl (by rfl) rfl rfl) (by rfl) ?_
 refine WL.val hn (by rfl) (val_field (l := [.v (.int .u8 nd.lab.fSign), I nd.lab.fN, LS (TT fLab) nd.kids]) (r := .one (.v (.int .u8 nd.lab.fSign))) ht rfl (by rfl) (by rfl) (by rfl) (by rfl) (by rfl) (by rfl)) (by rfl) ?_
 refine WL.val hn (by rfl) (val_load (s := .one (.v (.int .u8 nd.lab.fSign))) ht rfl (by rfl) (by rfl) (by rfl) (by rfl) (by rfl)) (by rfl) ?_
 refine WL.run ht hn 2 ⟨[sl 3 (.ptr 0 0), sl 7 (.own 3), sl 11 (LS boolT ((fun q_ => semF gr k (nd.kids.getD (q_ : Int).toNat (fn 48 0 [])) ss) 0)), sl 12 (LS boolT ((fun q_ => semF gr k (nd.kids.getD (q_ : Int).toNat (fn 48 0 [])) ss) 1)), sl 13 (I x68), sl 67 (I ((List.replicate (gr.fPlaces).toNat false).length : Int)), sl 68 (I x68), sl 71 (.own 3), sl 72 (I x68), sl 83 (B false), sl 89 (B (nd.lab.fSign == 124))], [.box [.rd (trR fLab nd)] 83 true, .gone, .gone, rowI 4 boolT l3_3]⟩ (by kernel_rfl) ?_
 refine splitB (nd.lab.fSign == 124) (fun hb => ?_) (fun hb => ?_)
 replace h := h.1 hb
 refine WL.setB 89 hb (by kernel_rfl) ?_
 refine WL.run ht hn 2 ⟨[sl 3 (.ptr 0 0), sl 7 (.own 3), sl 11 (LS boolT ((fun q_ => semF gr k (nd.kids.getD (q_ : Int).toNat (fn 48 0 [])) ss) 0)), sl 12 (LS boolT ((fun q_ => semF gr k (nd.kids.getD (q_ : Int).toNat (fn 48 0 [])) ss) 1)), sl 13 (I x68), sl 67 (I ((List.replicate (gr.fPlaces).toNat false).length : Int)), sl 68 (I x68), sl 71 (.own 3), sl 72 (I x68), sl 83 (B false), sl 89 (B true), sl 90 (LS boolT ((fun q_ => semF gr k (nd.kids.getD (q_ : Int).toNat (fn 48 0 [])) ss) 0)), sl 91 (I x68)], [.box [.rd (trR fLab nd)] 83 true, .gone, .gone, rowI 4 boolT l3_3]⟩ (by kernel_rfl) ?_
 obtain ⟨e_12, he_12, h⟩ := h
 refine WL.val hn (by rfl) (val_index (T := boolT) (l := ((fun q_ => semF gr k (nd.kids.getD (q_ : Int).toNat (fn 48 0 [])) ss) 0)) (i := x68) ht rfl (by rfl) (by rfl) (by rfl) (by rfl) (by rfl) (by rfl) he_12) (by rfl) ?_
 refine WL.val hn (by rfl) (val_load (s := .one (B e_12)) ht rfl (by rfl) (by rfl) (by rfl) (by rfl) (by rfl)) (by rfl) ?_
 refine WL.run ht hn 1 ⟨[sl 3 (.ptr 0 0), sl 7 (.own 3), sl 11 (LS boolT ((fun q_ => semF gr k (nd.kids.getD (q_ : Int).toNat (fn 48 0 [])) ss) 0)), sl 12 (LS boolT ((fun q_ => semF gr k (nd.kids.getD (q_ : Int).toNat (fn 48 0 [])) ss) 1)), sl 13 (I x68), sl 67 (I ((List.replicate (gr.fPlaces).toNat false).length : Int)), sl 68 (I x68), sl 71 (.own 3), sl 72 (I x68), sl 83 (B false), sl 89 (B true), sl 94 (B e_12)], [.box [.rd (trR fLab nd)] 83 true, .gone, .gone, rowI 4 boolT l3_3]⟩ (by kernel_rfl) ?_
 refine splitB e_12 (fun hb => ?_) (fun hb => ?_)
 replace h := h.1 hb
 refine WL.setB 94 hb (by kernel_rfl) ?_
 refine WL.run ht hn 7 ⟨[sl 3 (.ptr 0 0), sl 7 (.own 3), sl 11 (LS boolT ((fun q_ => semF gr k (nd.kids.getD (q_ : Int).toNat (fn 48 0 [])) ss) 0)), sl 12 (LS boolT ((fun q_ => semF gr k (nd.kids.getD (q_ : Int).toNat (fn 48 0 [])) ss) 1)), sl 67 (I ((List.replicate (gr.fPlaces).toNat false).length : Int)), sl 68 (I x68), sl 71 (.own 3), sl 72 (I x68), sl 101 (B true)], [.box [.rd (trR fLab nd)] 83 true, .gone, .gone, rowI 4 boolT l3_3]⟩ (by kernel_rfl) ?_
 obtain ⟨e_13, he_13, h⟩ := h
 refine WL.val hn (by rfl) (val_indexO (T := boolT) (l := l3_3) (k := x68) ht rfl (by rfl) (by rfl) (by rfl) (by rfl) (by decide) (by rfl) (by rfl) (by rfl) he_13) (by rfl) ?_
 refine WL.storeO (T := boolT) (l := l3_3) (y := true) ht hn (by rfl) rfl (by rfl) (by rfl) (fun _ h => by cases h) (by rfl) (by rfl) (idx_lt he_13) (by rfl) (by rfl) (by rfl) (by rfl) ?_
 refine WL.nil ?_
 exact En.at (I := fun zz => J_3 zz) (T := fun zz => ⟨[sl 3 (.ptr 0 0), sl 7 (.own 3), sl 11 (LS boolT ((fun q_ => semF gr k (nd.kids.getD (q_ : Int).toNat (fn 48 0 [])) ss) 0)), sl 12 (LS boolT ((fun q_ => semF gr k (nd.kids.getD (q_ : Int).toNat (fn 48 0 [])) ss) 1)), sl 67 (I ((List.replicate (gr.fPlaces).toNat false).length : Int)), sl 68 (I x68)], [.box [.rd (trR fLab nd)] 83 true, .gone, .gone, rowI 4 boolT zz]⟩) (l3_3.set (x68).toNat true) h (by kernel_rfl)
 replace h := h.2 hb
 refine WL.setB 94 hb (by kernel_rfl) ?_
 refine WL.run ht hn 2 ⟨[sl 3 (.ptr 0 0), sl 7 (.own 3), sl 11 (LS boolT ((fun q_ => semF gr k (nd.kids.getD (q_ : Int).toNat (fn 48 0 [])) ss) 0)), sl 12 (LS boolT ((fun q_ => semF gr k (nd.kids.getD (q_ : Int).toNat (fn 48 0 [])) ss) 1)), sl 67 (I ((List.replicate (gr.fPlaces).toNat false).length : Int)), sl 68 (I x68), sl 71 (.own 3), sl 72 (I x68), sl 83 (B false), sl 89 (B true), sl 94 (B false), sl 95 (LS boolT ((fun q_ => semF gr k (nd.kids.getD (q_ : Int).toNat (fn 48 0 [])) ss) 1)), sl 96 (I x68)], [.box [.rd (trR fLab nd)] 83 true, .gone, .gone, rowI 4 boolT l3_3]⟩ (by kernel_rfl) ?_
 obtain ⟨e_14, he_14, h⟩ := h
 refine WL.val hn (by rfl) (val_index (T := boolT) (l := ((fun q_ => semF gr k (nd.kids.getD (q_ : Int).toNat (fn 48 0 [])) ss) 1)) (i := x68) ht rfl (by rfl) (by rfl) (by rfl) (by rfl) (by rfl) (by rfl) he_14) (by rfl) ?_
 refine WL.val hn (by rfl) (val_load (s := .one (B e_14)) ht rfl (by rfl) (by rfl) (by rfl) (by rfl) (by rfl)) (by rfl) ?_
 refine WL.run ht hn 3 ⟨[sl 3 (.ptr 0 0), sl 7 (.own 3), sl 11 (LS boolT ((fun q_ => semF gr k (nd.kids.getD (q_ : Int).toNat (fn 48 0 [])) ss) 0)), sl 12 (LS boolT ((fun q_ => semF gr k (nd.kids.getD (q_ : Int).toNat (fn 48 0 [])) ss) 1)), sl 67 (I ((List.replicate (gr.fPlaces).toNat false).length : Int)), sl 68 (I x68), sl 71 (.own 3), sl 72 (I x68), sl 101 (B e_14)], [.box [.rd (trR fLab nd)] 83 true, .gone, .gone, rowI 4 boolT l3_3]⟩ (by kernel_rfl) ?_
 obtain ⟨e_15, he_15, h⟩ := h
 refine WL.val hn (by rfl) (val_indexO (T := boolT) (l := l3_3) (k := x68) ht rfl (by rfl) (by rfl) (by rfl) (by rfl) (by decide) (by rfl) (by rfl) (by rfl) he_15) (by rfl) ?_
 refine WL.storeO (T := boolT) (l := l3_3) (y := e_14) ht hn (by rfl) rfl (by rfl) (by rfl) (fun _ h => by cases h) (by rfl) (by rfl) (idx_lt he_15) (by rfl) (by rfl) (by rfl) (by rfl) ?_
 refine WL.nil ?_
 exact En.at (I := fun zz => J_3 zz) (T := fun zz => ⟨[sl 3 (.ptr 0 0), sl 7 (.own 3), sl 11 (LS boolT ((fun q_ => semF gr k (nd.kids.getD (q_ : Int).toNat (fn 48 0 [])) ss) 0)), sl 12 (LS boolT ((fun q_ => semF gr k (nd.kids.getD (q_ : Int).toNat (fn 48 0 [])) ss) 1)), sl 67 (I ((List.replicate (gr.fPlaces).toNat false).length : Int)), sl 68 (I x68)], [.box [.rd (trR fLab nd)] 83 true, .gone, .gone, rowI 4 boolT zz]⟩) (l3_3.set (x68).toNat e_14) h (by kernel_rfl)
 replace h := h.2 hb
 refine WL.setB 89 hb (by kernel_rfl) ?_
 refine WL.run ht hn 12 ⟨[sl 3 (.ptr 0 0), sl 7 (.own 3), sl 11 (LS boolT ((fun q_ => semF gr k (nd.kids.getD (q_ : Int).toNat (fn 48 0 [])) ss) 0)), sl 12 (LS boolT ((fun q_ => semF gr k (nd.kids.getD (q_ : Int).toNat (fn 48 0 [])) ss) 1)), sl 67 (I ((List.replicate (gr.fPlaces).toNat false).length : Int)), sl 68 (I x68), sl 71 (.own 3), sl 72 (I x68), sl 101 (B false)], [.box [.rd (trR fLab nd)] 83 true, .gone, .gone, rowI 4 boolT l3_3]⟩ (by kernel_rfl) ?_
 obtain ⟨e_16, he_16, h⟩ := h
 refine WL.val hn (by rfl) (val_indexO (T := boolT) (l := l3_3) (k := x68) ht rfl (by rfl) (by rfl) (by rfl) (by rfl) (by decide) (by rfl) (by rfl) (by rfl) he_16) (by rfl) ?_
 refine WL.storeO (T := boolT) (l := l3_3) (y := false) ht hn (by rfl) rfl (by rfl) (by rfl) (fun _ h => by cases h) (by rfl) (by rfl) (idx_lt he_16) (by rfl) (by rfl) (by rfl) (by rfl) ?_
 refine WL.nil ?_
 exact En.at (I := fun zz => J_3 zz) (T := fun zz => ⟨[sl 3 (.ptr 0 0), sl 7 (.own 3), sl 11 (LS boolT ((fun q_ => semF gr k (nd.kids.getD (q_ : Int).toNat (fn 48 0 [])) ss) 0)), sl 12 (LS boolT ((fun q_ => semF gr k (nd.kids.getD (q_ : Int).toNat (fn 48 0 [])) ss) 1)), sl 67 (I ((List.replicate (gr.fPlaces).toNat false).length : Int)), sl 68 (I x68)], [.box [.rd (trR fLab nd)] 83 true, .gone, .gone, rowI 4 boolT zz]⟩) (l3_3.set (x68).toNat false) h (by kernel_rfl)
 intro l3_4 h
 replace h := hJ_3 _ h
 show En c ⟨[sl 3 (.ptr 0 0), sl 7 (.own 3), sl 11 (LS boolT ((fun q_ => semF gr k (nd.kids.getD (q_ : Int).toNat (fn 48 0 [])) ss) 0)), sl 12 (LS boolT ((fun q_ => semF gr k (nd.kids.getD (q_ : Int).toNat (fn 48 0 [])) ss) 1)), sl 67 (I ((List.replicate (gr.fPlaces).toNat false).length : Int)), sl 68 (I x68)], [.box [.rd (trR fLab nd)] 83 true, .gone, .gone, rowI 4 boolT l3_4]⟩ _
 refine En.region ?_
 refine WL.run ht hn 2 ⟨[sl 3 (.ptr 0 0), sl 7 (.own 3), sl 11 (LS boolT ((fun q_ => semF gr k (nd.kids.getD (q_ : Int).toNat (fn 48 0 [])) ss) 0)), sl 12 (LS boolT ((fun q_ => semF gr k (nd.kids.getD (q_ : Int).toNat (fn 48 0 [])) ss) 1)), sl 67 (I ((List.replicate (gr.fPlaces).toNat false).length : Int)), sl 68 (I (wr (x68 + 1)))], [.box [.rd (trR fLab nd)] 83 true, .gone, .gone, rowI 4 boolT l3_4]⟩ (by kernel_rfl) ?_
 refine WL.nil ?_
 exact En.at (I := fun zz => Inv_2 zz.1 zz.2 ∧ mu_2 zz.1 zz.2 < mu_2 x68 l3_3) (T := fun zz => ⟨[sl 3 (.ptr 0 0), sl 7 (.own 3), sl 11 (LS boolT ((fun q_ => semF gr k (nd.kids.getD (q_ : Int).toNat (fn 48 0 [])) ss) 0)), sl 12 (LS boolT ((fun q_ => semF gr k (nd.kids.getD (q_ : Int).toNat (fn 48 0 [])) ss) 1)), sl 67 (I ((List.replicate (gr.fPlaces).toNat false).length : Int)), sl 68 (I zz.1)], [.box [.rd (trR fLab nd)] 83 true, .gone, .gone, rowI 4 boolT zz.2]⟩) ((wr (x68 + 1)), l3_4) h (by kernel_rfl)
 replace h := h.2 hb
 refine En.exit rfl ?_
 exact En.at (I := fun zz => J zz) (T := fun zz => ⟨[sl 7 (.own 3)], [.gone, .gone, .gone, rowI 4 boolT zz]⟩) l3_3 h (by kernel_rfl)
 replace h := h.2 hb
 obtain ⟨J_4, h, hJ_4⟩ := h
 refine En.seqJ (σ := Bool) (fun zz => J_4 zz) (fun zz => ⟨[sl 3 (.ptr 0 0), sl 4 (.ptr 1 0), sl 5 (.ptr 2 0), sl 7 (.own 3), sl 8 (.fn 76 [0, 1, 2]), sl 27 (.v (.int .u8 nd.lab.fSign)), sl 104 (B zz)], [.box [.rd (trR fLab nd)] 83 false, .box (qfWhr2 gr) 24 false, .box [LS (lsT boolT) ss] 146 false, rowI 4 boolT (List.replicate (gr.fPlaces).toNat false)]⟩) ?_ ?_
 refine En.seq ?_
 refine En.region ?_
 refine WL.run ht hn 2 ⟨[sl 3 (.ptr 0 0), sl 4 (.ptr 1 0), sl 5 (.ptr 2 0), sl 7 (.own 3), sl 8 (.fn 76 [0, 1, 2]), sl 27 (.v (.int .u8 nd.lab.fSign)), sl 104 (B (nd.lab.fSign == 60))], [.box [.rd (trR fLab nd)] 83 false, .box (qfWhr2 gr) 24 false, .box [LS (lsT boolT) ss] 146 false, rowI 4 boolT (List.replicate (gr.fPlaces).toNat false)]⟩ (by kernel_rfl) ?_
 refine WL.nil ?_
 refine En.cond (b := (nd.lab.fSign == 60)) (by kernel_rfl) (fun hb => ?_) (fun hb => ?_)
 replace h := h.1 hb
 refine En.skip ?_
 exact En.at (I := fun zz => J_4 zz) (T := fun zz => ⟨[sl 3 (.ptr 0 0), sl 4 (.ptr 1 0), sl 5 (.ptr 2 0), sl 7 (.own 3), sl 8 (.fn 76 [0, 1, 2]), sl 27 (.v (.int .u8 nd.lab.fSign)), sl 104 (B zz)], [.box [.rd (trR fLab nd)] 83 false, .box (qfWhr2 gr) 24 false, .box [LS (lsT boolT) ss] 146 false, rowI 4 boolT (List.replicate (gr.fPlaces).toNat false)]⟩) (nd.lab.fSign == 60) h (by kernel_rfl)
 replace h := h.2 hb
 refine En.region ?_
 refine WL.run ht hn 2 ⟨[sl 3 (.ptr 0 0), sl 4 (.ptr 1 0), sl 5 (.ptr 2 0), sl 7 (.own 3), sl 8 (.fn 76 [0, 1, 2]), sl 27 (.v (.int .u8 nd.lab.fSign)), sl 104 (B (nd.lab.fSign == 91))], [.box [.rd (trR fLab nd)] 83 false, .box (qfWhr2 gr) 24 false, .box [LS (lsT boolT) ss] 146 false, rowI 4 boolT (List.replicate (gr.fPlaces).toNat false)]⟩ (by kernel_rfl) ?_
 refine WL.nil ?_
 exact En.at (I := fun zz => J_4 zz) (T := fun zz => ⟨[sl 3 (.ptr 0 0), sl 4 (.ptr 1 0), sl 5 (.ptr 2 0), sl 7 (.own 3), sl 8 (.fn 76 [0, 1, 2]), sl 27 (.v (.int .u8 nd.lab.fSign)), sl 104 (B zz)], [.box [.rd (trR fLab nd)] 83 false, .box (qfWhr2 gr) 24 false, .box [LS (lsT boolT) ss] 146 false, rowI 4 boolT (List.replicate (gr.fPlaces).toNat false)]⟩) (nd.lab.fSign == 91) h (by kernel_rfl)
 intro x104 h
 replace h := hJ_4 _ h
 show En c ⟨[sl 3 (.ptr 0 0), sl 4 (.ptr 1 0), sl 5 (.ptr 2 0), sl 7 (.own 3), sl 8 (.fn 76 [0, 1, 2]), sl 27 (.v (.int .u8 nd.lab.fSign)), sl 104 (B x104)], [.box [.rd (trR fLab nd)] 83 false, .box (qfWhr2 gr) 24 false, .box [LS (lsT boolT) ss] 146 false, rowI 4 boolT (List.replicate (gr.fPlaces).toNat false)]⟩ _
 refine En.cond (b := x104) (by kernel_rfl) (fun hb => ?_) (fun hb => ?_)
 replace h := h.1 hb
 refine En.seq ?_
 refine En.region ?_
 refine WL.run ht hn 1 ⟨[sl 3 (.ptr 0 0), sl 4 (.ptr 1 0), sl 7 (.own 3), sl 107 (.fn 76 [0, 1, 2])], [.box [.rd (trR fLab nd)] 83 false, .box (qfWhr2 gr) 24 false, .box [LS (lsT boolT) ss] 146 false, rowI 4 boolT (List.replicate (gr.fPlaces).toNat false)]⟩ (by kernel_rfl) ?_
 refine WL.freeze [0, 1, 2] (by rfl) ?_
 refine WL.ghost 107 (o1 (.rd (fvR (fun (x_ : Int) => [.sv (.one (I x_))]) (fun (r : (List Bool)) => .sv (.one (LS boolT r))) (fun q_ => 0 ≤ q_ ∧ q_ < (nd.kids.length : Int) ∧ PreW k (nd.kids.getD (q_ : Int).toNat (fn 48 0 [])) gr ss) (fun q_ => semF gr k (nd.kids.getD (q_ : Int).toNat (fn 48 0 [])) ss)))) (by rfl) (fv_of (M := [.box [.rd (trR fLab nd)] 83 true, .box (qfWhr2 gr) 24 true, .box [LS (lsT boolT) ss] 146 true]) (caps := [0, 1, 2]) (fun x_ hx => fKid_ct k ih x_ nd gr ss hx) en76 rfl (by kernel_rfl) (by rfl) (fun _ => rfl)) ?_
 have hp := h.1
 replace h := h.2
 refine WL.mt0 (K := []) (p := none) hn (by rfl) (mt_callv (0 : Int) hp rfl (by rfl) (by rfl) (by rfl) (by rfl)) (by rfl) (by rfl) (by rfl) ?_
 refine WL.run ht hn 1 ⟨[sl 3 (.ptr 0 0), sl 4 (.ptr 1 0), sl 7 (.own 3), sl 14 (LS boolT ((fun q_ => semF gr k (nd.kids.getD (q_ : Int).toNat (fn 48 0 [])) ss) 0))], [.box [.rd (trR fLab nd)] 83 true, .box (qfWhr2 gr) 24 true, .gone, rowI 4 boolT (List.replicate (gr.fPlaces).toNat false)]⟩ (by kernel_rfl) ?_
 refine WL.nil ?_
 refine En.seq ?_
 refine En.seq ?_
 refine En.region ?_
 refine WL.run ht hn 3 ⟨[sl 3 (.ptr 0 0), sl 4 (.ptr 1 0), sl 7 (.own 3), sl 14 (LS boolT ((fun q_ => semF gr k (nd.kids.getD (q_ : Int).toNat (fn 48 0 [])) ss) 0)), sl 110 (I ((List.replicate (gr.fPlaces).toNat false).length : Int)), sl 111 (I 0)], [.box [.rd (trR fLab nd)] 83 true, .box (qfWhr2 gr) 24 true, .gone, rowI 4 boolT (List.replicate (gr.fPlaces).toNat false)]⟩ (by kernel_rfl) ?_
 refine WL.nil ?_
 refine En.block ?_
 obtain ⟨Inv_3, mu_3, h0_4, hI_4⟩ := h
 refine En.loop (σ := Int × (List Bool)) (fun zz => Inv_3 zz.1 zz.2) (fun zz => mu_3 zz.1 zz.2) (fun zz => ⟨[sl 3 (.ptr 0 0), sl 4 (.ptr 1 0), sl 7 (.own 3), sl 14 (LS boolT ((fun q_ => semF gr k (nd.kids.getD (q_ : Int).toNat (fn 48 0 [])) ss) 0)), sl 110 (I ((List.replicate (gr.fPlaces).toNat false).length : Int)), sl 111 (I zz.1)], [.box [.rd (trR fLab nd)] 83 true, .box (qfWhr2 gr) 24 true, .gone, rowI 4 boolT zz.2]⟩) (0, (List.replicate (gr.fPlaces).toNat false)) h0_4 (sub_ok (by kernel_rfl)) ?_
 rintro ⟨x111, l3_5⟩ h
 replace h := hI_4 _ _ h
 show En c ⟨[sl 3 (.ptr 0 0), sl 4 (.ptr 1 0), sl 7 (.own 3), sl 14 (LS boolT ((fun q_ => semF gr k (nd.kids.getD (q_ : Int).toNat (fn 48 0 [])) ss) 0)), sl 110 (I ((List.replicate (gr.fPlaces).toNat false).length : Int)), sl 111 (I x111)], [.box [.rd (trR fLab nd)] 83 true, .box (qfWhr2 gr) 24 true, .gone, rowI 4 boolT l3_5]⟩ _
 refine En.seq ?_
 refine En.region ?_
 refine WL.run ht hn 1 ⟨[sl 3 (.ptr 0 0), sl 4 (.ptr 1 0), sl 7 (.own 3), sl 14 (LS boolT ((fun q_ => semF gr k (nd.kids.getD (q_ : Int).toNat (fn 48 0 [])) ss) 0)), sl 110 (I ((List.replicate (gr.fPlaces).toNat false).length : Int)), sl 111 (I x111), sl 112 (B (decide (x111 < ((List.replicate (gr.fPlaces).toNat false).length : Int))))], [.box [.rd (trR fLab nd)] 83 true, .box (qfWhr2 gr) 24 true, .gone, rowI 4 boolT l3_5]⟩ (by kernel_rfl) ?_
 refine WL.nil ?_
 refine En.seq ?_
 refine En.cond (b := (decide (x111 < ((List.replicate (gr.fPlaces).toNat false).length : Int)))) (by kernel_rfl) (fun hb => ?_) (fun hb => ?_)
 replace h := h.1 hb
 refine En.skip ?_
 refine En.seq ?_
 refine En.block ?_
 refine En.seq ?_
 refine En.region ?_
 refine WL.run ht hn 2 ⟨[sl 3 (.ptr 0 0), sl 4 (.ptr 1 0), sl 7 (.own 3), sl 14 (LS boolT ((fun q_ => semF gr k (nd.kids.getD (q_ : Int).toNat (fn 48 0 [])) ss) 0)), sl 15 (I x111), sl 110 (I ((List.replicate (gr.fPlaces).toNat false).length : Int)), sl 111 (I x111)], [.box [.rd (trR fLab nd)] 83 true, .box (qfWhr2 gr) 24 true, .gone, rowI 4 boolT l3_5]⟩ (by kernel_rfl) ?_
 refine WL.nil ?_
 refine En.region ?_
 refine WL.run ht hn 3 ⟨[sl 3 (.ptr 0 0), sl 4 (.ptr 1 0), sl 7 (.own 3), sl 14 (LS boolT ((fun q_ => semF gr k (nd.kids.getD (q_ : Int).toNat (fn 48 0 [])) ss) 0)), sl 110 (I ((List.replicate (gr.fPlaces).toNat false).length : Int)), sl 111 (I x111), sl 114 (.own 3), sl 115 (I x111), sl 116 (.rd (trR fLab nd))], [.box [.rd (trR fLab nd)] 83 true, .box (qfWhr2 gr) 24 true, .gone, rowI 4 boolT l3_5]⟩ (by kernel_rfl) ?_
 refine WL.val hn (by rfl) (val_node (s := .agg [.v (.int .u8 nd.lab.fSign), I nd.lab.fN, LS (TT fLab) nd.kids]) (t := nd) (lab := fLab) fLabH rfl (by rfl) rfl rfl) (by rfl) ?_
 refine WL.val hn (by rfl) (val_field (l := [.v (.int .u8 nd.lab.fSign), I nd.lab.fN, LS (TT fLab) nd.kids]) (r := .one (.v (.int .u8 nd.lab.fSign))) ht rfl (by rfl) (by rfl) (by rfl) (by rfl) (by rfl) (by rfl)) (by rfl) ?_
 refine WL.val hn (by rfl) (val_load (s := .one (.v (.int .u8 nd.lab.fSign))) ht rfl (by rfl) (by rfl) (by rfl) (by rfl) (by rfl)) (by rfl) ?_
 refine WL.run ht hn 1 ⟨[sl 3 (.ptr 0 0), sl 4 (.ptr 1 0), sl 7 (.own 3), sl 14 (LS boolT ((fun q_ => semF gr k (nd.kids.getD (q_ : Int).toNat (fn 48 0 [])) ss) 0)), sl 110 (I ((List.replicate (gr.fPlaces).toNat false).length : Int)), sl 111 (I x111), sl 114 (.own 3), sl 115 (I x111), sl 120 (B (nd.lab.fSign == 91))], [.box [.rd (trR fLab nd)] 83 true, .box (qfWhr2 gr) 24 true, .gone, rowI 4 boolT l3_5]⟩ (by kernel_rfl) ?_
 obtain ⟨e_17, he_17, h⟩ := h
 refine WL.val hn (by rfl) (val_indexO (T := boolT) (l := l3_5) (k := x111) ht rfl (by rfl) (by rfl) (by rfl) (by rfl) (by decide) (by rfl) (by rfl) (by rfl) he_17) (by rfl) ?_
 refine WL.storeO (T := boolT) (l := l3_5) (y := (nd.lab.fSign == 91)) ht hn (by rfl) rfl (by rfl) (by rfl) (fun _ h => by cases h) (by rfl) (by rfl) (idx_lt he_17) (by rfl) (by rfl) (by rfl) (by rfl) ?_
 refine WL.nil ?_
 refine En.region ?_
 refine WL.run ht hn 2 ⟨[sl 3 (.ptr 0 0), sl 4 (.ptr 1 0), sl 7 (.own 3), sl 14 (LS boolT ((fun q_ => semF gr k (nd.kids.getD (q_ : Int).toNat (fn 48 0 [])) ss) 0)), sl 110 (I ((List.replicate (gr.fPlaces).toNat false).length : Int)), sl 111 (I (wr (x111 + 1)))], [.box [.rd (trR fLab nd)] 83 true, .box (qfWhr2 gr) 24 true, .gone, rowI 4 boolT (l3_5.set (x111).toNat (nd.lab.fSign == 91))]⟩ (by kernel_rfl) ?_
 refine WL.nil ?_
 exact En.at (I := fun zz => Inv_3 zz.1 zz.2 ∧ mu_3 zz.1 zz.2 < mu_3 x111 l3_5) (T := fun zz => ⟨[sl 3 (.ptr 0 0), sl 4 (.ptr 1 0), sl 7 (.own 3), sl 14 (LS boolT ((fun q_ => semF gr k (nd.kids.getD (q_ : Int).toNat (fn 48 0 [])) ss) 0)), sl 110 (I ((List.replicate (gr.fPlaces).toNat false).length : Int)), sl 111 (I zz.1)], [.box [.rd (trR fLab nd)] 83 true, .box (qfWhr2 gr) 24 true, .gone, rowI 4 boolT zz.2]⟩) ((wr (x111 + 1)), (l3_5.set (x111).toNat (nd.lab.fSign == 91))) h (by kernel_rfl)
 replace h := h.2 hb
 refine En.exit rfl ?_
 refine En.seq ?_
 refine En.region ?_
 refine WL.run ht hn 4 ⟨[sl 3 (.ptr 0 0), sl 7 (.own 3), sl 14 (LS boolT ((fun q_ => semF gr k (nd.kids.getD (q_ : Int).toNat (fn 48 0 [])) ss) 0)), sl 124 (qfWhr1 gr), sl 125 (I (gr.fArrows.length : Int)), sl 126 (I 0)], [.box [.rd (trR fLab nd)] 83 true, .gone, .gone, rowI 4 boolT l3_5]⟩ (by kernel_rfl) ?_
 refine WL.nil ?_
 refine En.block ?_
 obtain ⟨Inv_4, mu_4, h0_3, hI_3⟩ := h
 refine En.loop (σ := Int × (List Bool)) (fun zz => Inv_4 zz.1 zz.2) (fun zz => mu_4 zz.1 zz.2) (fun zz => ⟨[sl 3 (.ptr 0 0), sl 7 (.own 3), sl 14 (LS boolT ((fun q_ => semF gr k (nd.kids.getD (q_ : Int).toNat (fn 48 0 [])) ss) 0)), sl 124 (qfWhr1 gr), sl 125 (I (gr.fArrows.length : Int)), sl 126 (I zz.1)], [.box [.rd (trR fLab nd)] 83 true, .gone, .gone, rowI 4 boolT zz.2]⟩) (0, l3_5) h0_3 (sub_ok (by kernel_rfl)) ?_
 rintro ⟨x126, l3_6⟩ h
 replace h := hI_3 _ _ h
 show En c ⟨[sl 3 (.ptr 0 0), sl 7 (.own 3), sl 14 (LS boolT ((fun q_ => semF gr k (nd.kids.getD (q_ : Int).toNat (fn 48 0 [])) ss) 0)), sl 124 (qfWhr1 gr), sl 125 (I (gr.fArrows.length : Int)), sl 126 (I x126)], [.box [.rd (trR fLab nd)] 83 true, .gone, .gone, rowI 4 boolT l3_6]⟩ _
 refine En.seq ?_
 refine En.region ?_
 refine WL.run ht hn 1 ⟨[sl 3 (.ptr 0 0), sl 7 (.own 3), sl 14 (LS boolT ((fun q_ => semF gr k (nd.kids.getD (q_ : Int).toNat (fn 48 0 [])) ss) 0)), sl 124 (qfWhr1 gr), sl 125 (I (gr.fArrows.length : Int)), sl 126 (I x126), sl 127 (B (decide (x126 < (gr.fArrows.length : Int))))], [.box [.rd (trR fLab nd)] 83 true, .gone, .gone, rowI 4 boolT l3_6]⟩ (by kernel_rfl) ?_
 refine WL.nil ?_
 refine En.seq ?_
 refine En.cond (b := (decide (x126 < (gr.fArrows.length : Int)))) (by kernel_rfl) (fun hb => ?_) (fun hb => ?_)
 replace h := h.1 hb
 refine En.skip ?_
 obtain ⟨J_5, h, hJ_5⟩ := h
 refine En.seqJ (σ := (List Bool)) (fun zz => J_5 zz) (fun zz => ⟨[sl 3 (.ptr 0 0), sl 7 (.own 3), sl 14 (LS boolT ((fun q_ => semF gr k (nd.kids.getD (q_ : Int).toNat (fn 48 0 [])) ss) 0)), sl 124 (qfWhr1 gr), sl 125 (I (gr.fArrows.length : Int)), sl 126 (I x126)], [.box [.rd (trR fLab nd)] 83 true, .gone, .gone, rowI 4 boolT zz, .gone]⟩) ?_ ?_
 refine En.block ?_
 refine En.seq ?_
 refine En.region ?_
 obtain ⟨e_18, he_18, h⟩ := h
 refine WL.val hn (by rfl) (val_index (T := ApiArrow.ty) (l := gr.fArrows) (i := x126) ht rfl (by rfl) (by rfl) (by rfl) (by rfl) (by rfl) (by rfl) he_18) (by rfl) ?_
 refine WL.val hn (by rfl) (val_load (s := .agg (ApiArrow.cl e_18)) ht rfl (by rfl) (by rfl) (by rfl) (by rfl) (by rfl)) (by rfl) ?_
 refine WL.run ht hn 2 ⟨[sl 3 (.ptr 0 0), sl 7 (.own 3), sl 14 (LS boolT ((fun q_ => semF gr k (nd.kids.getD (q_ : Int).toNat (fn 48 0 [])) ss) 0)), sl 17 (.ptr 4 0), sl 124 (qfWhr1 gr), sl 125 (I (gr.fArrows.length : Int)), sl 126 (I x126)], [.box [.rd (trR fLab nd)] 83 true, .gone, .gone, rowI 4 boolT l3_6, .box (ApiArrow.cl e_18) 26 false]⟩ (by kernel_rfl) ?_
 refine WL.nil ?_
 obtain ⟨J_6, h, hJ_6⟩ := h
 refine En.seqJ (σ := Bool) (fun zz => J_6 zz) (fun zz => ⟨[sl 3 (.ptr 0 0), sl 7 (.own 3), sl 14 (LS boolT ((fun q_ => semF gr k (nd.kids.getD (q_ : Int).toNat (fn 48 0 [])) ss) 0)), sl 17 (.ptr 4 0), sl 124 (qfWhr1 gr), sl 125 (I (gr.fArrows.length : Int)), sl 126 (I x126), sl 149 (B zz)], [.box [.rd (trR fLab nd)] 83 true, .gone, .gone, rowI 4 boolT l3_6, .box (ApiArrow.cl e_18) 26 false]⟩) ?_ ?_
 refine splitB (e_18.fLetter == nd.lab.fN) (fun hb_2 => ?_) (fun hb_2 => ?_)
 replace h := h.1 hb_2
 obtain ⟨e_19, he_19, h⟩ := h
 refine En.regionA ⟨[sl 3 (.ptr 0 0), sl 7 (.own 3), sl 14 (LS boolT ((fun q_ => semF gr k (nd.kids.getD (q_ : Int).toNat (fn 48 0 [])) ss) 0)), sl 17 (.ptr 4 0), sl 124 (qfWhr1 gr), sl 125 (I (gr.fArrows.length : Int)), sl 126 (I x126)], [.sv (.one (.ptr 4 1)), .sv (.one (I e_18.fLetter)), .sv (.one (.rd (trR fLab nd))), .sv (.one (.pe (qfWhr0 nd) 3)), .sv (.one (.pe (svR (.one (I nd.lab.fN))) 1)), .sv (.one (I nd.lab.fN)), .sv (.one (B true)), .sv (.one (B true)), .sv (.one (LS boolT ((fun q_ => semF gr k (nd.kids.getD (q_ : Int).toNat (fn 48 0 [])) ss) 0))), .sv (.one (.ptr 4 2)), .sv (.one (I e_18.fTo)), .sv (.one (.pe (svR (.one (B e_19))) 1)), .sv (.one (B e_19)), .sv (.one (.rd (trR fLab nd))), .sv (.one (.pe (qfWhr0 nd) 3)), .sv (.one (.pe (svR (.one (.v (.int .u8 nd.lab.fSign)))) 1)), .sv (.one (.v (.int .u8 nd.lab.fSign))), .sv (.one (B (nd.lab.fSign == 60))), .sv (.one (B (e_19 == (nd.lab.fSign == 60)))), .sv (.one (B (e_19 == (nd.lab.fSign == 60))))], [⟨.box [.rd (trR fLab nd)] 83 true, none, none, none⟩, ⟨.gone, none, none, none⟩, ⟨.gone, none, none, none⟩, ⟨rowI 4 boolT l3_6, none, none, none⟩, ⟨.box (ApiArrow.cl e_18) 26 false, none, none, none⟩]⟩ ⟨[sl 3 (.ptr 0 0), sl 7 (.own 3), sl 14 (LS boolT ((fun q_ => semF gr k (nd.kids.getD (q_ : Int).toNat (fn 48 0 [])) ss) 0)), sl 17 (.ptr 4 0), sl 124 (qfWhr1 gr), sl 125 (I (gr.fArrows.length : Int)), sl 126 (I x126), sl 149 (B (e_19 == (nd.lab.fSign == 60)))], [.box [.rd (trR fLab nd)] 83 true, .gone, .gone, rowI 4 boolT l3_6, .box (ApiArrow.cl e_18) 26 false]⟩ (by kernel_rfl) hn (by kernel_rfl) (by rfl) (by kernel_rfl) ?_ (by kernel_rfl) ?_
 exact ⟨.mt ⟨[sl 17 (.ptr 4 0)], []⟩ [] none (by kernel_rfl) (by rfl) (mt_ev ht (by kernel_rfl)) rfl rfl rfl rfl,
 .mt ⟨[sl 130 (.ptr 4 1)], [.gone, .gone, .gone, .gone, .box (ApiArrow.cl e_18) 26 false]⟩ [] none (by kernel_rfl) (by rfl) (mt_ev ht (by kernel_rfl)) rfl rfl rfl rfl,
 .mt ⟨[sl 3 (.ptr 0 0)], [.box [.rd (trR fLab nd)] 83 true]⟩ [] none (by kernel_rfl) (by rfl) (mt_ev ht (by kernel_rfl)) rfl rfl rfl rfl,
 .mt ⟨[sl 132 (.rd (trR fLab nd))], []⟩ [] none (by kernel_rfl) (by rfl) (mt_val (val_node (s := .agg [.v (.int .u8 nd.lab.fSign), I nd.lab.fN, LS (TT fLab) nd.kids]) (t := nd) (lab := fLab) fLabH rfl (by rfl) rfl rfl)) rfl rfl rfl rfl,
 .mt ⟨[sl 133 (.pe (qfWhr0 nd) 3)], []⟩ [] none (by kernel_rfl) (by rfl) (mt_val (val_field (l := [.v (.int .u8 nd.lab.fSign), I nd.lab.fN, LS (TT fLab) nd.kids]) (r := .one (I nd.lab.fN)) ht rfl (by rfl) (by rfl) (by rfl) (by rfl) (by rfl) (by rfl))) rfl rfl rfl rfl,
 .mt ⟨[sl 134 (.pe (svR (.one (I nd.lab.fN))) 1)], []⟩ [] none (by kernel_rfl) (by rfl) (mt_val (val_load (s := .one (I nd.lab.fN)) ht rfl (by rfl) (by rfl) (by rfl) (by rfl) (by rfl))) rfl rfl rfl rfl,
 .mt ⟨[sl 131 (I e_18.fLetter), sl 135 (I nd.lab.fN)], []⟩ [] none (by kernel_rfl) (by rfl) (mt_castB hb_2 (mt_ev ht (by kernel_rfl))) rfl rfl rfl rfl,
 .mt ⟨[sl 136 (B true)], []⟩ [] none (by kernel_rfl) (by rfl) (mt_ev ht (by kernel_rfl)) rfl rfl rfl rfl,
 .mt ⟨[sl 14 (LS boolT ((fun q_ => semF gr k (nd.kids.getD (q_ : Int).toNat (fn 48 0 [])) ss) 0)), sl 137 (B true)], []⟩ [] none (by kernel_rfl) (by rfl) (mt_ev ht (by kernel_rfl)) rfl rfl rfl rfl,
 .mt ⟨[sl 17 (.ptr 4 0), sl 137 (B true)], []⟩ [] none (by kernel_rfl) (by rfl) (mt_ev ht (by kernel_rfl)) rfl rfl rfl rfl,
 .mt ⟨[sl 137 (B true), sl 139 (.ptr 4 2)], [.gone, .gone, .gone, .gone, .box (ApiArrow.cl e_18) 26 false]⟩ [] none (by kernel_rfl) (by rfl) (mt_ev ht (by kernel_rfl)) rfl rfl rfl rfl,
 .mt ⟨[sl 137 (B true), sl 138 (LS boolT ((fun q_ => semF gr k (nd.kids.getD (q_ : Int).toNat (fn 48 0 [])) ss) 0)), sl 140 (I e_18.fTo)], []⟩ [] none (by kernel_rfl) (by rfl) (mt_val (val_index (T := boolT) (l := ((fun q_ => semF gr k (nd.kids.getD (q_ : Int).toNat (fn 48 0 [])) ss) 0)) (i := e_18.fTo) ht rfl (by rfl) (by rfl) (by rfl) (by rfl) (by rfl) (by rfl) he_19)) rfl rfl rfl rfl,
 .mt ⟨[sl 137 (B true), sl 141 (.pe (svR (.one (B e_19))) 1)], []⟩ [] none (by kernel_rfl) (by rfl) (mt_val (val_load (s := .one (B e_19)) ht rfl (by rfl) (by rfl) (by rfl) (by rfl) (by rfl))) rfl rfl rfl rfl,
 .mt ⟨[sl 3 (.ptr 0 0), sl 137 (B true)], [.box [.rd (trR fLab nd)] 83 true]⟩ [] none (by kernel_rfl) (by rfl) (mt_ev ht (by kernel_rfl)) rfl rfl rfl rfl,
 .mt ⟨[sl 137 (B true), sl 143 (.rd (trR fLab nd))], []⟩ [] none (by kernel_rfl) (by rfl) (mt_val (val_node (s := .agg [.v (.int .u8 nd.lab.fSign), I nd.lab.fN, LS (TT fLab) nd.kids]) (t := nd) (lab := fLab) fLabH rfl (by rfl) rfl rfl)) rfl rfl rfl rfl,
 .mt ⟨[sl 137 (B true), sl 144 (.pe (qfWhr0 nd) 3)], []⟩ [] none (by kernel_rfl) (by rfl) (mt_val (val_field (l := [.v (.int .u8 nd.lab.fSign), I nd.lab.fN, LS (TT fLab) nd.kids]) (r := .one (.v (.int .u8 nd.lab.fSign))) ht rfl (by rfl) (by rfl) (by rfl) (by rfl) (by rfl) (by rfl))) rfl rfl rfl rfl,
 .mt ⟨[sl 137 (B true), sl 145 (.pe (svR (.one (.v (.int .u8 nd.lab.fSign)))) 1)], []⟩ [] none (by kernel_rfl) (by rfl) (mt_val (val_load (s := .one (.v (.int .u8 nd.lab.fSign))) ht rfl (by rfl) (by rfl) (by rfl) (by rfl) (by rfl))) rfl rfl rfl rfl,
 .mt ⟨[sl 137 (B true), sl 146 (.v (.int .u8 nd.lab.fSign))], []⟩ [] none (by kernel_rfl) (by rfl) (mt_ev ht (by kernel_rfl)) rfl rfl rfl rfl,
 .mt ⟨[sl 137 (B true), sl 142 (B e_19), sl 147 (B (nd.lab.fSign == 60))], []⟩ [] none (by kernel_rfl) (by rfl) (mt_val (val_eqB (u := e_19) (v := (nd.lab.fSign == 60)) rfl Try.underlying4 (by rfl) (by rfl) (.inl ⟨rfl, rfl⟩))) rfl rfl rfl rfl,
 .mt ⟨[sl 137 (B true), sl 148 (B (e_19 == (nd.lab.fSign == 60)))], []⟩ [] none (by kernel_rfl) (by rfl) (mt_ev ht (by kernel_rfl)) rfl rfl rfl rfl,
 trivial⟩
 exact En.at (I := fun zz => J_6 zz) (T := fun zz => ⟨[sl 3 (.ptr 0 0), sl 7 (.own 3), sl 14 (LS boolT ((fun q_ => semF gr k (nd.kids.getD (q_ : Int).toNat (fn 48 0 [])) ss) 0)), sl 17 (.ptr 4 0), sl 124 (qfWhr1 gr), sl 125 (I (gr.fArrows.length : Int)), sl 126 (I x126), sl 149 (B zz)], [.box [.rd (trR fLab nd)] 83 true, .gone, .gone, rowI 4 boolT l3_6, .box (ApiArrow.cl e_18) 26 false]⟩) (e_19 == (nd.lab.fSign == 60)) h (by kernel_rfl)
 replace h := h.2 hb_2
 refine En.regionA ⟨[sl 3 (.ptr 0 0), sl 7 (.own 3), sl 14 (LS boolT ((fun q_ => semF gr k (nd.kids.getD (q_ : Int).toNat (fn 48 0 [])) ss) 0)), sl 17 (.ptr 4 0), sl 124 (qfWhr1 gr), sl 125 (I (gr.fArrows.length : Int)), sl 126 (I x126)], [.sv (.one (.ptr 4 1)), .sv (.one (I e_18.fLetter)), .sv (.one (.rd (trR fLab nd))), .sv (.one (.pe (qfWhr0 nd) 3)), .sv (.one (.pe (svR (.one (I nd.lab.fN))) 1)), .sv (.one (I nd.lab.fN)), .sv (.one (B false)), .sv (.one (B false)), .tup [], .tup [], .tup [], .tup [], .tup [], .tup [], .tup [], .tup [], .tup [], .tup [], .tup [], .sv (.one (B false))], [⟨.box [.rd (trR fLab nd)] 83 true, none, none, none⟩, ⟨.gone, none, none, none⟩, ⟨.gone, none, none, none⟩, ⟨rowI 4 boolT l3_6, none, none, none⟩, ⟨.box (ApiArrow.cl e_18) 26 false, none, none, none⟩]⟩ ⟨[sl 3 (.ptr 0 0), sl 7 (.own 3), sl 14 (LS boolT ((fun q_ => semF gr k (nd.kids.getD (q_ : Int).toNat (fn 48 0 [])) ss) 0)), sl 17 (.ptr 4 0), sl 124 (qfWhr1 gr), sl 125 (I (gr.fArrows.length : Int)), sl 126 (I x126), sl 149 (B false)], [.box [.rd (trR fLab nd)] 83 true, .gone, .gone, rowI 4 boolT l3_6, .box (ApiArrow.cl e_18) 26 false]⟩ (by kernel_rfl) hn (by kernel_rfl) (by rfl) (by kernel_rfl) ?_ (by kernel_rfl) ?_
 exact ⟨.mt ⟨[sl 17 (.ptr 4 0)], []⟩ [] none (by kernel_rfl) (by rfl) (mt_ev ht (by kernel_rfl)) rfl rfl rfl rfl,
 .mt ⟨[sl 130 (.ptr 4 1)], [.gone, .gone, .gone, .gone, .box (ApiArrow.cl e_18) 26 false]⟩ [] none (by kernel_rfl) (by rfl) (mt_ev ht (by kernel_rfl)) rfl rfl rfl rfl,
 .mt ⟨[sl 3 (.ptr 0 0)], [.box [.rd (trR fLab nd)] 83 true]⟩ [] none (by kernel_rfl) (by rfl) (mt_ev ht (by kernel_rfl)) rfl rfl rfl rfl,
 .mt ⟨[sl 132 (.rd (trR fLab nd))], []⟩ [] none (by kernel_rfl) (by rfl) (mt_val (val_node (s := .agg [.v (.int .u8 nd.lab.fSign), I nd.lab.fN, LS (TT fLab) nd.kids]) (t := nd) (lab := fLab) fLabH rfl (by rfl) rfl rfl)) rfl rfl rfl rfl,
 .mt ⟨[sl 133 (.pe (qfWhr0 nd) 3)], []⟩ [] none (by kernel_rfl) (by rfl) (mt_val (val_field (l := [.v (.int .u8 nd.lab.fSign), I nd.lab.fN, LS (TT fLab) nd.kids]) (r := .one (I nd.lab.fN)) ht rfl (by rfl) (by rfl) (by rfl) (by rfl) (by rfl) (by rfl))) rfl rfl rfl rfl,
 .mt ⟨[sl 134 (.pe (svR (.one (I nd.lab.fN))) 1)], []⟩ [] none (by kernel_rfl) (by rfl) (mt_val (val_load (s := .one (I nd.lab.fN)) ht rfl (by rfl) (by rfl) (by rfl) (by rfl) (by rfl))) rfl rfl rfl rfl,
 .mt ⟨[sl 131 (I e_18.fLetter), sl 135 (I nd.lab.fN)], []⟩ [] none (by kernel_rfl) (by rfl) (mt_castB hb_2 (mt_ev ht (by kernel_rfl))) rfl rfl rfl rfl,
 .mt ⟨[sl 136 (B false)], []⟩ [] none (by kernel_rfl) (by rfl) (mt_ev ht (by kernel_rfl)) rfl rfl rfl rfl,
 .skip ⟨[sl 137 (B false)], []⟩ (by kernel_rfl) (by rfl) rfl rfl rfl rfl,
 .skip ⟨[sl 137 (B false)], []⟩ (by kernel_rfl) (by rfl) rfl rfl rfl rfl,
 .skip ⟨[sl 137 (B false)], []⟩ (by kernel_rfl) (by rfl) rfl rfl rfl rfl,
 .skip ⟨[sl 137 (B false)], []⟩ (by kernel_rfl) (by rfl) rfl rfl rfl rfl,
 .skip ⟨[sl 137 (B false)], []⟩ (by kernel_rfl) (by rfl) rfl rfl rfl rfl,
 .skip ⟨[sl 137 (B false)], []⟩ (by kernel_rfl) (by rfl) rfl rfl rfl rfl,
 .skip ⟨[sl 137 (B false)], []⟩ (by kernel_rfl) (by rfl) rfl rfl rfl rfl,
 .skip ⟨[sl 137 (B false)], []⟩ (by kernel_rfl) (by rfl) rfl rfl rfl rfl,
 .skip ⟨[sl 137 (B false)], []⟩ (by kernel_rfl) (by rfl) rfl rfl rfl rfl,
 .skip ⟨[sl 137 (B false)], []⟩ (by kernel_rfl) (by rfl) rfl rfl rfl rfl,
 .skip ⟨[sl 137 (B false)], []⟩ (by kernel_rfl) (by rfl) rfl rfl rfl rfl,
 .mt ⟨[sl 137 (B false), (148, .tup [])], []⟩ [] none (by kernel_rfl) (by rfl) (mt_ev ht (by kernel_rfl)) rfl rfl rfl rfl,
 trivial⟩
 exact En.at (I := fun zz => J_6 zz) (T := fun zz => ⟨[sl 3 (.ptr 0 0), sl 7 (.own 3), sl 14 (LS boolT ((fun q_ => semF gr k (nd.kids.getD (q_ : Int).toNat (fn 48 0 [])) ss) 0)), sl 17 (.ptr 4 0), sl 124 (qfWhr1 gr), sl 125 (I (gr.fArrows.length : Int)), sl 126 (I x126), sl 149 (B zz)], [.box [.rd (trR fLab nd)] 83 true, .gone, .gone, rowI 4 boolT l3_6, .box (ApiArrow.cl e_18) 26 false]⟩) false h (by kernel_rfl)
 intro x149 h
 replace h := hJ_6 _ h
 show En c ⟨[sl 3 (.ptr 0 0), sl 7 (.own 3), sl 14 (LS boolT ((fun q_ => semF gr k (nd.kids.getD (q_ : Int).toNat (fn 48 0 [])) ss) 0)), sl 17 (.ptr 4 0), sl 124 (qfWhr1 gr), sl 125 (I (gr.fArrows.length : Int)), sl 126 (I x126), sl 149 (B x149)], [.box [.rd (trR fLab nd)] 83 true, .gone, .gone, rowI 4 boolT l3_6, .box (ApiArrow.cl e_18) 26 false]⟩ _
 refine En.cond (b := x149) (by kernel_rfl) (fun hb => ?_) (fun hb => ?_)
 replace h := h.1 hb
 obtain ⟨e_20, he_20, h⟩ := h
 refine En.regionA ⟨[sl 3 (.ptr 0 0), sl 7 (.own 3), sl 14 (LS boolT ((fun q_ => semF gr k (nd.kids.getD (q_ : Int).toNat (fn 48 0 [])) ss) 0)), sl 17 (.ptr 4 0), sl 124 (qfWhr1 gr), sl 125 (I (gr.fArrows.length : Int)), sl 126 (I x126)], [.sv (.one (.own 3)), .sv (.one (.ptr 4 0)), .sv (.one (I e_18.fFrom)), .sv (.one (.rd (trR fLab nd))), .sv (.one (.pe (qfWhr0 nd) 3)), .sv (.one (.pe (svR (.one (.v (.int .u8 nd.lab.fSign)))) 1)), .sv (.one (.v (.int .u8 nd.lab.fSign))), .sv (.one (B (nd.lab.fSign == 60))), .sv (.one (.oe 3 ((e_18.fFrom).toNat) 1)), .tup []], [⟨.box [.rd (trR fLab nd)] 83 true, none, none, none⟩, ⟨.gone, none, none, none⟩, ⟨.gone, none, none, none⟩, ⟨rowI 4 boolT l3_6, none, none, some (9, rowI 4 boolT (l3_6.set (e_18.fFrom).toNat (nd.lab.fSign == 60)))⟩, ⟨.box (ApiArrow.cl e_18) 26 false, none, none, none⟩]⟩ ⟨[sl 3 (.ptr 0 0), sl 7 (.own 3), sl 14 (LS boolT ((fun q_ => semF gr k (nd.kids.getD (q_ : Int).toNat (fn 48 0 [])) ss) 0)), sl 124 (qfWhr1 gr), sl 125 (I (gr.fArrows.length : Int)), sl 126 (I x126)], [.box [.rd (trR fLab nd)] 83 true, .gone, .gone, rowI 4 boolT (l3_6.set (e_18.fFrom).toNat (nd.lab.fSign == 60)), .gone]⟩ (by kernel_rfl) hn (by kernel_rfl) (by rfl) (by kernel_rfl) ?_ (by kernel_rfl) ?_
 exact ⟨.mt ⟨[sl 7 (.own 3)], []⟩ [] none (by kernel_rfl) (by rfl) (mt_ev ht (by kernel_rfl)) rfl rfl rfl rfl,
 .mt ⟨[sl 17 (.ptr 4 0)], []⟩ [] none (by kernel_rfl) (by rfl) (mt_ev ht (by kernel_rfl)) rfl rfl rfl rfl,
 .mt ⟨[sl 151 (.ptr 4 0)], [.gone, .gone, .gone, .gone, .box (ApiArrow.cl e_18) 26 false]⟩ [] none (by kernel_rfl) (by rfl) (mt_ev ht (by kernel_rfl)) rfl rfl rfl rfl,
 .mt ⟨[sl 3 (.ptr 0 0)], [.box [.rd (trR fLab nd)] 83 true]⟩ [] none (by kernel_rfl) (by rfl) (mt_ev ht (by kernel_rfl)) rfl rfl rfl rfl,
 .mt ⟨[sl 153 (.rd (trR fLab nd))], []⟩ [] none (by kernel_rfl) (by rfl) (mt_val (val_node (s := .agg [.v (.int .u8 nd.lab.fSign), I nd.lab.fN, LS (TT fLab) nd.kids]) (t := nd) (lab := fLab) fLabH rfl (by rfl) rfl rfl)) rfl rfl rfl rfl,
 .mt ⟨[sl 154 (.pe (qfWhr0 nd) 3)], []⟩ [] none (by kernel_rfl) (by rfl) (mt_val (val_field (l := [.v (.int .u8 nd.lab.fSign), I nd.lab.fN, LS (TT fLab) nd.kids]) (r := .one (.v (.int .u8 nd.lab.fSign))) ht rfl (by rfl) (by rfl) (by rfl) (by rfl) (by rfl) (by rfl))) rfl rfl rfl rfl,
 .mt ⟨[sl 155 (.pe (svR (.one (.v (.int .u8 nd.lab.fSign)))) 1)], []⟩ [] none (by kernel_rfl) (by rfl) (mt_val (val_load (s := .one (.v (.int .u8 nd.lab.fSign))) ht rfl (by rfl) (by rfl) (by rfl) (by rfl) (by rfl))) rfl rfl rfl rfl,
 .mt ⟨[sl 156 (.v (.int .u8 nd.lab.fSign))], []⟩ [] none (by kernel_rfl) (by rfl) (mt_ev ht (by kernel_rfl)) rfl rfl rfl rfl,
 .mt ⟨[sl 150 (.own 3), sl 152 (I e_18.fFrom)], [.gone, .gone, .gone, rowI 4 boolT l3_6]⟩ [] none (by kernel_rfl) (by rfl) (mt_val (val_indexO (T := boolT) (l := l3_6) (k := e_18.fFrom) ht rfl (by rfl) (by rfl) (by rfl) (by rfl) (by decide) (by rfl) (by rfl) (by rfl) he_20)) rfl rfl rfl rfl,
 .mu ⟨[sl 157 (B (nd.lab.fSign == 60)), sl 158 (.oe 3 ((e_18.fFrom).toNat) 1)], [.gone, .gone, .gone, rowI 4 boolT l3_6]⟩ 3 _ _ rfl rfl (by kernel_rfl) (by rfl) (mu_storeO (T := boolT) (l := l3_6) (y := (nd.lab.fSign == 60)) ht rfl (by rfl) (by rfl) (fun _ h => by cases h) (by rfl) (by rfl) (idx_lt he_20) (by rfl) (by rfl) (by rfl)) rfl rfl rfl rfl rfl rfl rfl,
 trivial⟩
 exact En.at (I := fun zz => J_5 zz) (T := fun zz => ⟨[sl 3 (.ptr 0 0), sl 7 (.own 3), sl 14 (LS boolT ((fun q_ => semF gr k (nd.kids.getD (q_ : Int).toNat (fn 48 0 [])) ss) 0)), sl 124 (qfWhr1 gr), sl 125 (I (gr.fArrows.length : Int)), sl 126 (I x126)], [.box [.rd (trR fLab nd)] 83 true, .gone, .gone, rowI 4 boolT zz, .gone]⟩) (l3_6.set (e_18.fFrom).toNat (nd.lab.fSign == 60)) h (by kernel_rfl)
 replace h := h.2 hb
 refine En.skip ?_
 exact En.at (I := fun zz => J_5 zz) (T := fun zz => ⟨[sl 3 (.ptr 0 0), sl 7 (.own 3), sl 14 (LS boolT ((fun q_ => semF gr k (nd.kids.getD (q_ : Int).toNat (fn 48 0 [])) ss) 0)), sl 124 (qfWhr1 gr), sl 125 (I (gr.fArrows.length : Int)), sl 126 (I x126)], [.box [.rd (trR fLab nd)] 83 true, .gone, .gone, rowI 4 boolT zz, .gone]⟩) l3_6 h (by kernel_rfl)
 intro l3_7 h
 replace h := hJ_5 _ h
 show En c ⟨[sl 3 (.ptr 0 0), sl 7 (.own 3), sl 14 (LS boolT ((fun q_ => semF gr k (nd.kids.getD (q_ : Int).toNat (fn 48 0 [])) ss) 0)), sl 124 (qfWhr1 gr), sl 125 (I (gr.fArrows.length : Int)), sl 126 (I x126)], [.box [.rd (trR fLab nd)] 83 true, .gone, .gone, rowI 4 boolT l3_7, .gone]⟩ _
 refine En.region ?_
 refine WL.run ht hn 2 ⟨[sl 3 (.ptr 0 0), sl 7 (.own 3), sl 14 (LS boolT ((fun q_ => semF gr k (nd.kids.getD (q_ : Int).toNat (fn 48 0 [])) ss) 0)), sl 124 (qfWhr1 gr), sl 125 (I (gr.fArrows.length : Int)), sl 126 (I (wr (x126 + 1)))], [.box [.rd (trR fLab nd)] 83 true, .gone, .gone, rowI 4 boolT l3_7, .gone]⟩ (by kernel_rfl) ?_
 refine WL.nil ?_
 exact En.at (I := fun zz => Inv_4 zz.1 zz.2 ∧ mu_4 zz.1 zz.2 < mu_4 x126 l3_6) (T := fun zz => ⟨[sl 3 (.ptr 0 0), sl 7 (.own 3), sl 14 (LS boolT ((fun q_ => semF gr k (nd.kids.getD (q_ : Int).toNat (fn 48 0 [])) ss) 0)), sl 124 (qfWhr1 gr), sl 125 (I (gr.fArrows.length : Int)), sl 126 (I zz.1)], [.box [.rd (trR fLab nd)] 83 true, .gone, .gone, rowI 4 boolT zz.2]⟩) ((wr (x126 + 1)), l3_7) h (by kernel_rfl)
 replace h := h.2 hb
 refine En.exit rfl ?_
 exact En.at (I := fun zz => J zz) (T := fun zz => ⟨[sl 7 (.own 3)], [.gone, .gone, .gone, rowI 4 boolT zz]⟩) l3_6 h (by kernel_rfl)
 replace h := h.2 hb
 obtain ⟨J_7, h, hJ_7⟩ := h
 refine En.seqJ (σ := Bool) (fun zz => J_7 zz) (fun zz => ⟨[sl 3 (.ptr 0 0), sl 4 (.ptr 1 0), sl 5 (.ptr 2 0), sl 7 (.own 3), sl 160 (B zz)], [.box [.rd (trR fLab nd)] 83 false, .box (qfWhr2 gr) 24 false, .box [LS (lsT boolT) ss] 146 false, rowI 4 boolT (List.replicate (gr.fPlaces).toNat false)]⟩) ?_ ?_
 refine En.seq ?_
 refine En.region ?_
 refine WL.run ht hn 2 ⟨[sl 3 (.ptr 0 0), sl 4 (.ptr 1 0), sl 5 (.ptr 2 0), sl 7 (.own 3), sl 27 (.v (.int .u8 nd.lab.fSign)), sl 160 (B (nd.lab.fSign == 109))], [.box [.rd (trR fLab nd)] 83 false, .box (qfWhr2 gr) 24 false, .box [LS (lsT boolT) ss] 146 false, rowI 4 boolT (List.replicate (gr.fPlaces).toNat false)]⟩ (by kernel_rfl) ?_
 refine WL.nil ?_
 refine En.cond (b := (nd.lab.fSign == 109)) (by kernel_rfl) (fun hb => ?_) (fun hb => ?_)
 replace h := h.1 hb
 refine En.skip ?_
 exact En.at (I := fun zz => J_7 zz) (T := fun zz => ⟨[sl 3 (.ptr 0 0), sl 4 (.ptr 1 0), sl 5 (.ptr 2 0), sl 7 (.own 3), sl 160 (B zz)], [.box [.rd (trR fLab nd)] 83 false, .box (qfWhr2 gr) 24 false, .box [LS (lsT boolT) ss] 146 false, rowI 4 boolT (List.replicate (gr.fPlaces).toNat false)]⟩) (nd.lab.fSign == 109) h (by kernel_rfl)
 replace h := h.2 hb
 refine En.region ?_
 refine WL.run ht hn 2 ⟨[sl 3 (.ptr 0 0), sl 4 (.ptr 1 0), sl 5 (.ptr 2 0), sl 7 (.own 3), sl 160 (B (nd.lab.fSign == 110))], [.box [.rd (trR fLab nd)] 83 false, .box (qfWhr2 gr) 24 false, .box [LS (lsT boolT) ss] 146 false, rowI 4 boolT (List.replicate (gr.fPlaces).toNat false)]⟩ (by kernel_rfl) ?_
 refine WL.nil ?_
 exact En.at (I := fun zz => J_7 zz) (T := fun zz => ⟨[sl 3 (.ptr 0 0), sl 4 (.ptr 1 0), sl 5 (.ptr 2 0), sl 7 (.own 3), sl 160 (B zz)], [.box [.rd (trR fLab nd)] 83 false, .box (qfWhr2 gr) 24 false, .box [LS (lsT boolT) ss] 146 false, rowI 4 boolT (List.replicate (gr.fPlaces).toNat false)]⟩) (nd.lab.fSign == 110) h (by kernel_rfl)
 intro x160 h
 replace h := hJ_7 _ h
 show En c ⟨[sl 3 (.ptr 0 0), sl 4 (.ptr 1 0), sl 5 (.ptr 2 0), sl 7 (.own 3), sl 160 (B x160)], [.box [.rd (trR fLab nd)] 83 false, .box (qfWhr2 gr) 24 false, .box [LS (lsT boolT) ss] 146 false, rowI 4 boolT (List.replicate (gr.fPlaces).toNat false)]⟩ _
 refine En.cond (b := x160) (by kernel_rfl) (fun hb => ?_) (fun hb => ?_)
 replace h := h.1 hb
 refine En.seq ?_
 refine En.seq ?_
 refine En.region ?_
 refine WL.run ht hn 3 ⟨[sl 3 (.ptr 0 0), sl 4 (.ptr 1 0), sl 5 (.ptr 2 0), sl 7 (.own 3), sl 164 (I ((List.replicate (gr.fPlaces).toNat false).length : Int)), sl 165 (I 0)], [.box [.rd (trR fLab nd)] 83 false, .box (qfWhr2 gr) 24 false, .box [LS (lsT boolT) ss] 146 false, rowI 4 boolT (List.replicate (gr.fPlaces).toNat false)]⟩ (by kernel_rfl) ?_
 refine WL.nil ?_
 refine En.block ?_
 obtain ⟨Inv_5, mu_5, h0_6, hI_6⟩ := h
 refine En.loop (σ := Int × (List Bool)) (fun zz => Inv_5 zz.1 zz.2) (fun zz => mu_5 zz.1 zz.2) (fun zz => ⟨[sl 3 (.ptr 0 0), sl 4 (.ptr 1 0), sl 5 (.ptr 2 0), sl 7 (.own 3), sl 164 (I ((List.replicate (gr.fPlaces).toNat false).length : Int)), sl 165 (I zz.1)], [.box [.rd (trR fLab nd)] 83 false, .box (qfWhr2 gr) 24 false, .box [LS (lsT boolT) ss] 146 false, rowI 4 boolT zz.2]⟩) (0, (List.replicate (gr.fPlaces).toNat false)) h0_6 (sub_ok (by kernel_rfl)) ?_
 rintro ⟨x165, l3_8⟩ h
 replace h := hI_6 _ _ h
 show En c ⟨[sl 3 (.ptr 0 0), sl 4 (.ptr 1 0), sl 5 (.ptr 2 0), sl 7 (.own 3), sl 164 (I ((List.replicate (gr.fPlaces).toNat false).length : Int)), sl 165 (I x165)], [.box [.rd (trR fLab nd)] 83 false, .box (qfWhr2 gr) 24 false, .box [LS (lsT boolT) ss] 146 false, rowI 4 boolT l3_8]⟩ _
 refine En.seq ?_
 refine En.region ?_
 refine WL.run ht hn 1 ⟨[sl 3 (.ptr 0 0), sl 4 (.ptr 1 0), sl 5 (.ptr 2 0), sl 7 (.own 3), sl 164 (I ((List.replicate (gr.fPlaces).toNat false).length : Int)), sl 165 (I x165), sl 166 (B (decide (x165 < ((List.replicate (gr.fPlaces).toNat false).length : Int))))], [.box [.rd (trR fLab nd)] 83 false, .box (qfWhr2 gr) 24 false, .box [LS (lsT boolT) ss] 146 false, rowI 4 boolT l3_8]⟩ (by kernel_rfl) ?_
 refine WL.nil ?_
 refine En.seq ?_
 refine En.cond (b := (decide (x165 < ((List.replicate (gr.fPlaces).toNat false).length : Int)))) (by kernel_rfl) (fun hb => ?_) (fun hb => ?_)
 replace h := h.1 hb
 refine En.skip ?_
 refine En.seq ?_
 refine En.block ?_
 refine En.seq ?_
 refine En.region ?_
 refine WL.run ht hn 2 ⟨[sl 3 (.ptr 0 0), sl 4 (.ptr 1 0), sl 5 (.ptr 2 0), sl 7 (.own 3), sl 18 (I x165), sl 164 (I ((List.replicate (gr.fPlaces).toNat false).length : Int)), sl 165 (I x165)], [.box [.rd (trR fLab nd)] 83 false, .box (qfWhr2 gr) 24 false, .box [LS (lsT boolT) ss] 146 false, rowI 4 boolT l3_8]⟩ (by kernel_rfl) ?_
 refine WL.nil ?_
 refine En.region ?_
 refine WL.run ht hn 3 ⟨[sl 3 (.ptr 0 0), sl 4 (.ptr 1 0), sl 5 (.ptr 2 0), sl 7 (.own 3), sl 164 (I ((List.replicate (gr.fPlaces).toNat false).length : Int)), sl 165 (I x165), sl 168 (.own 3), sl 169 (I x165), sl 170 (.rd (trR fLab nd))], [.box [.rd (trR fLab nd)] 83 false, .box (qfWhr2 gr) 24 false, .box [LS (lsT boolT) ss] 146 false, rowI 4 boolT l3_8]⟩ (by kernel_rfl) ?_
 refine WL.val hn (by rfl) (val_node (s := .agg [.v (.int .u8 nd.lab.fSign), I nd.lab.fN, LS (TT fLab) nd.kids]) (t := nd) (lab := fLab) fLabH rfl (by rfl) rfl rfl) (by rfl) ?_
 refine WL.val hn (by rfl) (val_field (l := [.v (.int .u8 nd.lab.fSign), I nd.lab.fN, LS (TT fLab) nd.kids]) (r := .one (.v (.int .u8 nd.lab.fSign))) ht rfl (by rfl) (by rfl) (by rfl) (by rfl) (by rfl) (by rfl)) (by rfl) ?_
 refine WL.val hn (by rfl) (val_load (s := .one (.v (.int .u8 nd.lab.fSign))) ht rfl (by rfl) (by rfl) (by rfl) (by rfl) (by rfl)) (by rfl) ?_
 refine WL.run ht hn 1 ⟨[sl 3 (.ptr 0 0), sl 4 (.ptr 1 0), sl 5 (.ptr 2 0), sl 7 (.own 3), sl 164 (I ((List.replicate (gr.fPlaces).toNat false).length : Int)), sl 165 (I x165), sl 168 (.own 3), sl 169 (I x165), sl 174 (B (nd.lab.fSign == 110))], [.box [.rd (trR fLab nd)] 83 false, .box (qfWhr2 gr) 24 false, .box [LS (lsT boolT) ss] 146 false, rowI 4 boolT l3_8]⟩ (by kernel_rfl) ?_
 obtain ⟨e_21, he_21, h⟩ := h
 refine WL.val hn (by rfl) (val_indexO (T := boolT) (l := l3_8) (k := x165) ht rfl (by rfl) (by rfl) (by rfl) (by rfl) (by decide) (by rfl) (by rfl) (by rfl) he_21) (by rfl) ?_
 refine WL.storeO (T := boolT) (l := l3_8) (y := (nd.lab.fSign == 110)) ht hn (by rfl) rfl (by rfl) (by rfl) (fun _ h => by cases h) (by rfl) (by rfl) (idx_lt he_21) (by rfl) (by rfl) (by rfl) (by rfl) ?_
 refine WL.nil ?_
 refine En.region ?_
 refine WL.run ht hn 2 ⟨[sl 3 (.ptr 0 0), sl 4 (.ptr 1 0), sl 5 (.ptr 2 0), sl 7 (.own 3), sl 164 (I ((List.replicate (gr.fPlaces).toNat false).length : Int)), sl 165 (I (wr (x165 + 1)))], [.box [.rd (trR fLab nd)] 83 false, .box (qfWhr2 gr) 24 false, .box [LS (lsT boolT) ss] 146 false, rowI 4 boolT (l3_8.set (x165).toNat (nd.lab.fSign == 110))]⟩ (by kernel_rfl) ?_
 refine WL.nil ?_
 exact En.at (I := fun zz => Inv_5 zz.1 zz.2 ∧ mu_5 zz.1 zz.2 < mu_5 x165 l3_8) (T := fun zz => ⟨[sl 3 (.ptr 0 0), sl 4 (.ptr 1 0), sl 5 (.ptr 2 0), sl 7 (.own 3), sl 164 (I ((List.replicate (gr.fPlaces).toNat false).length : Int)), sl 165 (I zz.1)], [.box [.rd (trR fLab nd)] 83 false, .box (qfWhr2 gr) 24 false, .box [LS (lsT boolT) ss] 146 false, rowI 4 boolT zz.2]⟩) ((wr (x165 + 1)), (l3_8.set (x165).toNat (nd.lab.fSign == 110))) h (by kernel_rfl)
 replace h := h.2 hb
 refine En.exit rfl ?_
 refine En.block ?_
 refine En.seal (T := boolT) (l := l3_8) (e := 4) 3 rfl ?_
 obtain ⟨Inv_6, mu_6, h0_5, hI_5⟩ := h
 refine En.loop (σ := (List Bool)) (fun zz => Inv_6 zz) (fun zz => mu_6 zz) (fun zz => ⟨[sl 3 (.ptr 0 0), sl 4 (.ptr 1 0), sl 5 (.ptr 2 0), sl 7 (LS boolT zz)], [.box [.rd (trR fLab nd)] 83 false, .box (qfWhr2 gr) 24 false, .box [LS (lsT boolT) ss] 146 false, .gone]⟩) l3_8 h0_5 (sub_ok (by kernel_rfl)) ?_
 intro x7 h
 replace h := hI_5 _ h
 show En c ⟨[sl 3 (.ptr 0 0), sl 4 (.ptr 1 0), sl 5 (.ptr 2 0), sl 7 (LS boolT x7)], [.box [.rd (trR fLab nd)] 83 false, .box (qfWhr2 gr) 24 false, .box [LS (lsT boolT) ss] 146 false, .gone]⟩ _
 refine En.block ?_
 refine En.seq ?_
 obtain ⟨e_22, he_22, h⟩ := h
 have hp_2 := h.1
 replace h := h.2
 have hp_3 := h.1
 replace h := h.2
 refine En.regionA ⟨[sl 3 (.ptr 0 0), sl 4 (.ptr 1 0), sl 5 (.ptr 2 0), sl 7 (LS boolT x7)], [.sv (.one (.rd (trR fLab nd))), .sv (.one (.pe (qfWhr0 nd) 3)), .sv (.one (.pe (svR (.one (LS (TT fLab) nd.kids))) 1)), .sv (.one (LS (TT fLab) nd.kids)), .sv (.one (.pe (svR (.one (.rd (trR fLab e_22)))) 1)), .sv (.one (.rd (trR fLab e_22))), .sv (.agg (qfWhr2 gr)), .sv (.one (LS (lsT boolT) ss)), .sv (.one (LS (lsT boolT) ss)), .sv (.one (I (ss.length : Int))), .sv (.one (LS (lsT boolT) ss)), .sv (.one (I (ss.length : Int))), .sv (.one (.sl (slcR (lsT boolT) ss) ss.length)), .sv (.one (LS boolT x7)), .sv (.one (LS (lsT boolT) ([x7] : (List (List Bool))))), .sv (.one (LS (lsT boolT) (ss ++ ([x7] : (List (List Bool)))))), .sv (.one (LS boolT (semF gr k e_22 (ss ++ ([x7] : (List (List Bool))))))), .sv (.one (LS boolT (semF gr k e_22 (ss ++ ([x7] : (List (List Bool)))))))], [⟨.box [.rd (trR fLab nd)] 83 false, none, none, none⟩, ⟨.box (qfWhr2 gr) 24 false, none, none, none⟩, ⟨.box [LS (lsT boolT) ss] 146 false, none, none, none⟩, ⟨.gone, none, none, none⟩]⟩ ⟨[sl 3 (.ptr 0 0), sl 4 (.ptr 1 0), sl 5 (.ptr 2 0), sl 7 (LS boolT x7), sl 19 (LS boolT (semF gr k e_22 (ss ++ ([x7] : (List (List Bool))))))], [.box [.rd (trR fLab nd)] 83 false, .box (qfWhr2 gr) 24 false, .box [LS (lsT boolT) ss] 146 false, .gone]⟩ (by kernel_rfl) hn (by kernel_rfl) (by rfl) (by kernel_rfl) ?_ (by kernel_rfl) ?_
 exact ⟨.mt ⟨[sl 3 (.ptr 0 0)], [.box [.rd (trR fLab nd)] 83 false]⟩ [] none (by kernel_rfl) (by rfl) (mt_ev ht (by kernel_rfl)) rfl rfl rfl rfl,
 .mt ⟨[sl 177 (.rd (trR fLab nd))], []⟩ [] none (by kernel_rfl) (by rfl) (mt_val (val_node (s := .agg [.v (.int .u8 nd.lab.fSign), I nd.lab.fN, LS (TT fLab) nd.kids]) (t := nd) (lab := fLab) fLabH rfl (by rfl) rfl rfl)) rfl rfl rfl rfl,
 .mt ⟨[sl 178 (.pe (qfWhr0 nd) 3)], []⟩ [] none (by kernel_rfl) (by rfl) (mt_val (val_field (l := [.v (.int .u8 nd.lab.fSign), I nd.lab.fN, LS (TT fLab) nd.kids]) (r := .one (LS (TT fLab) nd.kids)) ht rfl (by rfl) (by rfl) (by rfl) (by rfl) (by rfl) (by rfl))) rfl rfl rfl rfl,
 .mt ⟨[sl 179 (.pe (svR (.one (LS (TT fLab) nd.kids))) 1)], []⟩ [] none (by kernel_rfl) (by rfl) (mt_val (val_load (s := .one (LS (TT fLab) nd.kids)) ht rfl (by rfl) (by rfl) (by rfl) (by rfl) (by rfl))) rfl rfl rfl rfl,
 .mt ⟨[sl 180 (LS (TT fLab) nd.kids)], []⟩ [] none (by kernel_rfl) (by rfl) (mt_val (val_index (T := (TT fLab)) (l := nd.kids) (i := 0) ht rfl (by rfl) (by rfl) (by rfl) (by rfl) (by rfl) (by rfl) he_22)) rfl rfl rfl rfl,
 .mt ⟨[sl 181 (.pe (svR (.one (.rd (trR fLab e_22)))) 1)], []⟩ [] none (by kernel_rfl) (by rfl) (mt_val (val_load (s := .one (.rd (trR fLab e_22))) ht rfl (by rfl) (by rfl) (by rfl) (by rfl) (by rfl))) rfl rfl rfl rfl,
 .mt ⟨[sl 4 (.ptr 1 0)], [.gone, .box (qfWhr2 gr) 24 false]⟩ [] none (by kernel_rfl) (by rfl) (mt_ev ht (by kernel_rfl)) rfl rfl rfl rfl,
 .mt ⟨[sl 5 (.ptr 2 0)], [.gone, .gone, .box [LS (lsT boolT) ss] 146 false]⟩ [] none (by kernel_rfl) (by rfl) (mt_ev ht (by kernel_rfl)) rfl rfl rfl rfl,
 .mt ⟨[sl 5 (.ptr 2 0)], [.gone, .gone, .box [LS (lsT boolT) ss] 146 false]⟩ [] none (by kernel_rfl) (by rfl) (mt_ev ht (by kernel_rfl)) rfl rfl rfl rfl,
 .mt ⟨[sl 185 (LS (lsT boolT) ss)], []⟩ [] none (by kernel_rfl) (by rfl) (mt_ev ht (by kernel_rfl)) rfl rfl rfl rfl,
 .mt ⟨[sl 5 (.ptr 2 0)], [.gone, .gone, .box [LS (lsT boolT) ss] 146 false]⟩ [] none (by kernel_rfl) (by rfl) (mt_ev ht (by kernel_rfl)) rfl rfl rfl rfl,
 .mt ⟨[sl 187 (LS (lsT boolT) ss)], []⟩ [] none (by kernel_rfl) (by rfl) (mt_ev ht (by kernel_rfl)) rfl rfl rfl rfl,
 .mt ⟨[sl 184 (LS (lsT boolT) ss), sl 186 (I (ss.length : Int)), sl 188 (I (ss.length : Int))], []⟩ [] none (by kernel_rfl) (by rfl) (mt_val (val_sliceC (T := (lsT boolT)) (l := ss) ht rfl (by rfl) (by rfl) (by rfl) (by rfl) (by rfl) (by rfl) (by rfl))) rfl rfl rfl rfl,
 .mt ⟨[sl 7 (LS boolT x7)], []⟩ [] none (by kernel_rfl) (by rfl) (mt_ev ht (by kernel_rfl)) rfl rfl rfl rfl,
 .mt ⟨[sl 190 (LS boolT x7)], []⟩ [] none (by kernel_rfl) (by rfl) (mt_seal (q := 4) (e := 27) (mt_lit (T := (lsT boolT)) ([x7] : (List (List Bool))) (mt_bsl 4 (r := cellsOf (lsT boolT) ([x7] : (List (List Bool)))) ht rfl (by rfl) (by rfl) (by rfl) (by kernel_rfl) (by rfl)) (fun _ h => by cases h) (fun _ => rfl) (fun _ => rfl) (by rfl) (Nat.le_of_ble_eq_true rfl))) rfl rfl rfl rfl,
 .mt ⟨[sl 189 (.sl (slcR (lsT boolT) ss) ss.length), sl 191 (LS (lsT boolT) ([x7] : (List (List Bool))))], []⟩ [] none (by kernel_rfl) (by rfl) (mt_seal (q := 4) (e := 27) (mt_appendC (T := (lsT boolT)) (l := ss) (es := ([x7] : (List (List Bool)))) (p := 4) ht rfl (by rfl) (by rfl) (by rfl) (by rfl) (by decide) (fun _ h => by cases h) (by rfl) (srcLS (T := (lsT boolT)) (es := ([x7] : (List (List Bool)))) (fun _ h => by cases h) (by decide) (by rfl)) (Nat.le_of_ble_eq_true rfl) (by exact hp_2) (by exact hp_2.le (by decide)))) rfl rfl rfl rfl,
 .mt ⟨[sl 182 (.rd (trR fLab e_22)), (183, .sv (.agg (qfWhr2 gr))), sl 192 (LS (lsT boolT) (ss ++ ([x7] : (List (List Bool)))))], []⟩ [] none (by kernel_rfl) (by rfl) (mt_call (whF k ih e_22 gr (ss ++ ([x7] : (List (List Bool)))) hp_3) en34 (caps := []) [] rfl (by rfl) (by kernel_rfl) (by kernel_rfl) (by rfl) (by rfl) (by rfl)) rfl rfl rfl rfl,
 .mt ⟨[sl 193 (LS boolT (semF gr k e_22 (ss ++ ([x7] : (List (List Bool))))))], []⟩ [] none (by kernel_rfl) (by rfl) (mt_ev ht (by kernel_rfl)) rfl rfl rfl rfl,
 trivial⟩
 refine En.seq ?_
 refine En.seq ?_
 refine En.region ?_
 refine WL.run ht hn 2 ⟨[sl 3 (.ptr 0 0), sl 4 (.ptr 1 0), sl 5 (.ptr 2 0), sl 7 (LS boolT x7), sl 19 (LS boolT (semF gr k e_22 (ss ++ ([x7] : (List (List Bool)))))), sl 194 (LS boolT (semF gr k e_22 (ss ++ ([x7] : (List (List Bool)))))), sl 195 (LS boolT x7)], [.box [.rd (trR fLab nd)] 83 false, .box (qfWhr2 gr) 24 false, .box [LS (lsT boolT) ss] 146 false, .gone]⟩ (by kernel_rfl) ?_
 refine WL.mt0 (K := []) (p := none) hn (by rfl) (mt_call (eqBools_ct (semF gr k e_22 (ss ++ ([x7] : (List (List Bool))))) x7) en78 (caps := []) [] rfl (by rfl) (by kernel_rfl) (by kernel_rfl) (by rfl) (by rfl) (by rfl)) (by rfl) (by rfl) (by rfl) ?_
 refine WL.nil ?_
 refine En.cond (b := (decide ((semF gr k e_22 (ss ++ ([x7] : (List (List Bool))))) = x7))) (by kernel_rfl) (fun hb => ?_) (fun hb => ?_)
 replace h := h.1 hb
 refine En.seq ?_
 refine En.region ?_
 refine WL.run ht hn 2 ⟨[sl 6 (LS boolT x7)], [.gone, .gone, .gone, .gone]⟩ (by kernel_rfl) ?_
 refine WL.nil ?_
 refine En.ret ?_
 exact En.back ht x7 h (by kernel_rfl) rfl
 replace h := h.2 hb
 refine En.skip ?_
 refine En.region ?_
 refine WL.run ht hn 2 ⟨[sl 3 (.ptr 0 0), sl 4 (.ptr 1 0), sl 5 (.ptr 2 0), sl 7 (LS boolT (semF gr k e_22 (ss ++ ([x7] : (List (List Bool))))))], [.box [.rd (trR fLab nd)] 83 false, .box (qfWhr2 gr) 24 false, .box [LS (lsT boolT) ss] 146 false, .gone]⟩ (by kernel_rfl) ?_
 refine WL.nil ?_
 exact En.at (I := fun zz => Inv_6 zz ∧ mu_6 zz < mu_6 x7) (T := fun zz => ⟨[sl 3 (.ptr 0 0), sl 4 (.ptr 1 0), sl 5 (.ptr 2 0), sl 7 (LS boolT zz)], [.box [.rd (trR fLab nd)] 83 false, .box (qfWhr2 gr) 24 false, .box [LS (lsT boolT) ss] 146 false, .gone]⟩) (semF gr k e_22 (ss ++ ([x7] : (List (List Bool))))) h (by kernel_rfl)
 replace h := h.2 hb
 refine En.skip ?_
 exact En.at (I := fun zz => J zz) (T := fun zz => ⟨[sl 7 (.own 3)], [.gone, .gone, .gone, rowI 4 boolT zz]⟩) (List.replicate (gr.fPlaces).toNat false) h (by kernel_rfl)
 intro l3 h
 replace h := hJ _ h
 show En c ⟨[sl 7 (.own 3)], [.gone, .gone, .gone, rowI 4 boolT l3]⟩ _
 refine En.seq ?_
 refine En.region ?_
 refine WL.run ht hn 2 ⟨[sl 6 (.own 3)], [.gone, .gone, .gone, rowI 4 boolT l3]⟩ (by kernel_rfl) ?_
 refine WL.nil ?_
 refine En.ret ?_
 refine En.seal (T := boolT) (l := l3) (e := 4) 3 rfl ?_
 exact En.back ht l3 h (by kernel_rfl) rfl
theorem ifp_no {b : Bool} {A B : Prop} (h : b = false) (hb : B) : IfP b A B := ⟨fun e => (by rw [h] at e; cases e), fun _ => hb⟩
theorem ifp_yes {b : Bool} {A B : Prop} (h : b = true) (ha : A) : IfP b A B := ⟨fun _ => ha, fun e => (by rw [h] at e; cases e)⟩
theorem onF_set {l : List Bool} {k : Nat} (hk : k < l.length) {v : Bool} {p : Int} (h0 : 0 ≤ p) : onF (l.set k v) p = if p = k then v else onF l p := by
 unfold onF
 rw [List.getD_eq_getElem?_getD, List.getD_eq_getElem?_getD, List.getElem?_set]
 by_cases h : p = k
 ·subst h
  rw [Int.toNat_natCast, if_pos rfl, if_pos hk, if_pos rfl]
  rfl
 ·rw [if_neg (by omega), if_neg h]
def FillI (n : Int) (f : Int → Bool) (i : Int) (l : List Bool) : Prop := ∃ m : Nat, i = m ∧ (m : Int) ≤ n ∧ l.length = n.toNat ∧ ∀ p : Int, 0 ≤ p → p < m → onF l p = f p
def FillM (n : Int) (i : Int) (_ : List Bool) : Nat := (n - i).toNat
section
variable {n i : Int} {f : Int → Bool} {l : List Bool}
theorem fill_0 (hn : 0 ≤ n) (hl : l.length = n.toNat) : FillI n f 0 l := ⟨0, rfl, hn, hl, fun p h0 h1 => by omega⟩
theorem fill_idx (h : FillI n f i l) (hb : i < n) : idx l i = some (onF l i) := by
 obtain ⟨m, rfl, _, hl, _⟩ := h
 exact idx_getF false (Int.natCast_nonneg _) (by omega)
theorem fill_row (h : FillI n f i l) (hb : i < n) {a : List Bool} (ha : a.length = n.toNat) : idx a i = some (onF a i) := by
 obtain ⟨m, rfl, _, _, _⟩ := h
 exact idx_getF false (Int.natCast_nonneg _) (by omega)
theorem fill_step (h : FillI n f i l) (hb : i < n) (hn : n ≤ 1000) {v : Bool} (hv : v = f i) : FillI n f (wr (i + 1)) (l.set i.toNat v) ∧ FillM n (wr (i + 1)) (l.set i.toNat v) < FillM n i l := by
 obtain ⟨m, rfl, hm, hl, hf⟩ := h
 rw [wr_in (by omega) (by omega), Int.toNat_natCast]
 refine ⟨⟨m + 1, by omega, by omega, by rw [List.length_set]; exact hl, fun p h0 h1 => ?_⟩, by unfold FillM; omega⟩
 rw [onF_set (by omega) h0]
 by_cases hp : p = m
 ·rw [if_pos hp, hv, hp]
 ·rw [if_neg hp]
  exact hf p h0 (by omega)
theorem fill_end (h : FillI n f i l) (hb : ¬ i < n) : l = eachF n f := by
 obtain ⟨m, rfl, hm, hl, hf⟩ := h
 refine rowF_ext hl (eachF_len _ _) fun p h0 h1 => ?_
 rw [onF_each h0 h1]
 exact hf p h0 (by omega)
end
theorem eachF_const (n : Int) (v : Bool) : eachF n (fun _ => v) = allF n v := rowF_ext (eachF_len _ _) (allF_len _ _) fun p h0 h1 => by rw [onF_each h0 h1, onF_all h0 h1]
def anyM (g : ApiGraph) (sg c : Int) (a : List Bool) (m : Nat) (p : Int) : Bool := (g.fArrows.take m).any fun x => x.fFrom == p && x.fLetter == c && onF a x.fTo == (sg == 60)
def wayM (g : ApiGraph) (sg c : Int) (a : List Bool) (m : Nat) (p : Int) : Bool := if sg = 60 then anyM g sg c a m p else !(anyM g sg c a m p)
def WayI (g : ApiGraph) (sg c : Int) (a : List Bool) (i : Int) (l : List Bool) : Prop := ∃ m : Nat, i = m ∧ m ≤ g.fArrows.length ∧ l.length = g.fPlaces.toNat ∧ ∀ p : Int, 0 ≤ p → p < g.fPlaces → onF l p = wayM g sg c a m p
section
variable {g : ApiGraph} {sg c i : Int} {a l : List Bool}
theorem anyM_step {m : Nat} {x : ApiArrow} (hx : g.fArrows[m]? = some x) (p : Int) : anyM g sg c a (m + 1) p = (anyM g sg c a m p || (x.fFrom == p && x.fLetter == c && onF a x.fTo == (sg == 60))) := by
 unfold anyM
 rw [List.take_add_one, hx, List.any_append]
 simp
theorem way_0 (hs : sg = 60 ∨ sg = 91) (hl : l = eachF g.fPlaces fun _ => sg == 91) : WayI g sg c a 0 l := ⟨0, rfl, Nat.zero_le _, by rw [hl]; exact eachF_len _ _, fun p h0 h1 => by
 rw [hl, onF_each h0 h1]
 unfold wayM anyM
 rcases hs with rfl | rfl <;> rfl⟩
theorem way_end (hs : sg = 60 ∨ sg = 91) (h : WayI g sg c a i l) (hb : ¬ i < g.fArrows.length) : l = wayF g sg c a := by
 obtain ⟨m, rfl, hm, hl, hf⟩ := h
 refine rowF_ext hl (eachF_len _ _) fun p h0 h1 => ?_
 unfold wayF
 rw [onF_each h0 h1, hf p h0 h1]
 unfold wayM anyM arrB
 rw [List.take_of_length_le (by omega)]
 rcases hs with rfl | rfl <;> rfl
theorem way_skip {m : Nat} (hm : g.fArrows.length ≤ 1000) (h : WayI g sg c a (m : Int) l) {x : ApiArrow} (hx : g.fArrows[m]? = some x) (hn : (x.fLetter == c && onF a x.fTo == (sg == 60)) = false) : WayI g sg c a (wr ((m : Int) + 1)) l := by
 obtain ⟨m', e, hm', hl, hf⟩ := h
 have e : m = m' := by omega
 subst e
 have hlt := (List.getElem?_eq_some_iff.1 hx).1
 rw [wr_in (by omega) (by omega)]
 refine ⟨m + 1, by omega, by omega, hl, fun p h0 h1 => ?_⟩
 rw [hf p h0 h1]
 unfold wayM
 rw [anyM_step hx, Bool.and_assoc, hn, Bool.and_false, Bool.or_false]
theorem way_set (hg : GraphOk g) (hs : sg = 60 ∨ sg = 91) {m : Nat} (h : WayI g sg c a (m : Int) l) {x : ApiArrow} (hx : g.fArrows[m]? = some x) (hn : (x.fLetter == c && onF a x.fTo == (sg == 60)) = true) : WayI g sg c a (wr ((m : Int) + 1)) (l.set x.fFrom.toNat (sg == 60)) := by
 obtain ⟨m', e, hm', hl, hf⟩ := h
 have e : m = m' := by omega
 subst e
 have hlt := (List.getElem?_eq_some_iff.1 hx).1
 have hr := (hg.arr x (List.mem_iff_getElem?.2 ⟨m, hx⟩)).1
 have := hg.len
 rw [wr_in (by omega) (by omega)]
 refine ⟨m + 1, by omega, by omega, by rw [List.length_set]; exact hl, fun p h0 h1 => ?_⟩
 rw [onF_set (by omega) h0]
 have e1 : anyM g sg c a (m + 1) p = (anyM g sg c a m p || (x.fFrom == p)) := by rw [anyM_step hx, Bool.and_assoc, hn, Bool.and_true]
 by_cases hp : p = x.fFrom
 ·rw [if_pos (by omega)]
  unfold wayM
  rw [e1, hp, beq_self_eq_true, Bool.or_true]
  rcases hs with rfl | rfl <;> rfl
 ·rw [if_neg (by omega), hf p h0 h1]
  unfold wayM
  rw [e1, show (x.fFrom == p) = false from beq_eq_false_iff_ne.2 (fun e => hp e.symm), Bool.or_false]
end
theorem ways_ok {g : ApiGraph} (h : GraphOk g) : ToOk g := fun x hx => (h.arr x hx).2.1
theorem fWhr_all (k : Nat) (nd : FTr) (gr : ApiGraph) (ss : List (List Bool)) (hp : PreW (k + 1) nd gr ss) : fWhr_vc k nd gr ss (fun r => r = semF gr (k + 1) nd ss) := by
 obtain ⟨hg, fl, hw, hS⟩ := hp
 have hpl := hg.pl
 have hal := hg.len
 have hz : (List.replicate gr.fPlaces.toNat false).length = gr.fPlaces.toNat := List.length_replicate
 obtain ⟨⟨sg, n⟩, kids⟩ := nd
 unfold fWhr_vc
 intro _ _
 refine ⟨⟨by omega, by omega, by omega⟩, fun l => l = semF gr (k + 1) (.node ⟨sg, n⟩ kids) ss, ?_, fun l h => h⟩
 rcases hw with ⟨h, _⟩ | ⟨h, _, j, h2, h3⟩ | ⟨h, x, e, hx⟩ | ⟨h, b, x, e, hx⟩ | ⟨h, b, b2, x, e, hx⟩ | ⟨h, x, y, e, hx, hy⟩
 ·rcases h with h | h
  ·have h : sg = 48 := h
   subst h
   exact ifp_no rfl (ifp_no rfl (ifp_no rfl ⟨fun b => b = false, ifp_no rfl rfl, fun b hb => ifp_no hb ⟨fun b => b = false, ifp_no rfl rfl, fun b hb => ifp_no hb ⟨fun b => b = false, ifp_no rfl rfl, fun b hb => ifp_no hb rfl⟩⟩⟩))
  ·have h : sg = 49 := h
   subst h
   exact ifp_yes rfl ⟨⟨rfl, by omega, by omega⟩, rfl⟩
 ·have h : sg = 88 := h
  subst h
  have h2 : n = j := h2
  subst h2
  have hj : j < ss.length := by
   rw [hS.1]
   exact (List.getElem?_eq_some_iff.1 h3).1
  exact ifp_no rfl (ifp_yes rfl ⟨_, idx_getF [] (Int.natCast_nonneg _) (by show (j : Int) < ss.length; omega), rfl⟩)
 ·have h : sg = 33 := h
  subst h e
  have hA := sem_len (g := gr) hx hS.not
  refine ifp_no rfl (ifp_no rfl (ifp_yes rfl ⟨⟨by decide, by show (0 : Int) < 1; decide, hg, _, hx, hS.not⟩, FillI gr.fPlaces (fun p => !(onF (semF gr k x ss) p)), FillM gr.fPlaces, fill_0 (by omega) hz, fun i l hI => ⟨fun hb => ?_, fun hb => ?_⟩⟩))
  ·have hb : i < ((semF gr k x ss).length : Int) := of_decide_eq_true hb
   have hlt : i < gr.fPlaces := by omega
   exact ⟨_, fill_row hI hlt hA, _, fill_idx hI hlt, fill_step hI hlt (by omega) rfl⟩
  ·have hb : ¬ i < ((semF gr k x ss).length : Int) := of_decide_eq_false hb
   exact (fill_end hI (by omega)).trans sem_not.symm
 ·have h : sg = 60 ∨ sg = 91 := h
  subst e
  have hA := sem_len (g := gr) hx hS
  have hz2 : ((List.replicate gr.fPlaces.toNat false).length : Int) = gr.fPlaces := by rw [hz]; omega
  have n49 : ((.node ⟨sg, n⟩ [x] : FTr).lab.fSign == 49) = false := by rcases h with rfl | rfl <;> rfl
  have n88 : ((.node ⟨sg, n⟩ [x] : FTr).lab.fSign == 88) = false := by rcases h with rfl | rfl <;> rfl
  have n33 : ((.node ⟨sg, n⟩ [x] : FTr).lab.fSign == 33) = false := by rcases h with rfl | rfl <;> rfl
  have n38 : ((.node ⟨sg, n⟩ [x] : FTr).lab.fSign == 38) = false := by rcases h with rfl | rfl <;> rfl
  have n124 : ((.node ⟨sg, n⟩ [x] : FTr).lab.fSign == 124) = false := by rcases h with rfl | rfl <;> rfl
  refine ifp_no n49 (ifp_no n88 (ifp_no n33 ⟨fun b => b = false, ifp_no n38 n124, fun b hb => ifp_no hb ⟨fun b => b = true, ⟨fun h => h, fun h60 => ?_⟩, fun b hb => ifp_yes hb ⟨⟨by decide, by show (0 : Int) < 1; decide, hg, _, hx, hS⟩, FillI gr.fPlaces (fun _ => sg == 91), FillM gr.fPlaces, fill_0 (by omega) hz, fun i l hI => ⟨fun hb => ?_, fun hb => ?_⟩⟩⟩⟩))
  ·rcases h with rfl | rfl
   ·cases h60
   ·rfl
  ·have hb := of_decide_eq_true hb
   have hlt : i < gr.fPlaces := by omega
   exact ⟨_, fill_idx hI hlt, fill_step hI hlt (by omega) rfl⟩
  ·have hb := of_decide_eq_false hb
   have hl := fill_end hI (by omega)
   refine ⟨WayI gr sg n (semF gr k x ss), fun i _ => (gr.fArrows.length - i).toNat, way_0 h hl, fun i l hI => ⟨fun hb => ?_, fun hb => ?_⟩⟩
   ·have hb := of_decide_eq_true hb
    have hI' := hI
    obtain ⟨m, rfl, _, hll, _⟩ := hI'
    obtain ⟨a, ha⟩ : ∃ a, gr.fArrows[m]? = some a := ⟨gr.fArrows[m], List.getElem?_eq_getElem (by omega)⟩
    have hidx : idx gr.fArrows (m : Int) = some a := by
     unfold idx
     rw [if_pos (Int.natCast_nonneg _), Int.toNat_natCast, ha]
    have hr := hg.arr a (List.mem_iff_getElem?.2 ⟨m, ha⟩)
    have hto : idx (semF gr k x ss) a.fTo = some (onF (semF gr k x ss) a.fTo) := idx_getF false hr.2.1.1 (by omega)
    have hfr : idx l a.fFrom = some (onF l a.fFrom) := idx_getF false hr.1.1 (by omega)
    have hmu : ((gr.fArrows.length : Int) - wr ((m : Int) + 1)).toNat < ((gr.fArrows.length : Int) - (m : Int)).toNat := by rw [wr_in (by omega) (by omega)]; omega
    refine ⟨fun l' => l' = if (a.fLetter == n && onF (semF gr k x ss) a.fTo == (sg == 60)) = true then l.set a.fFrom.toNat (sg == 60) else l, ⟨_, hidx, fun b => b = (a.fLetter == n && onF (semF gr k x ss) a.fTo == (sg == 60)), ⟨fun e => ⟨_, hto, ?_⟩, fun e => ?_⟩, fun b hb => ⟨fun e => ⟨_, hfr, ?_⟩, fun e => ?_⟩⟩, fun l' hl' => ?_⟩
    ·have e : (a.fLetter == n) = true := e
     rw [e, Bool.true_and]
     rfl
    ·have e : (a.fLetter == n) = false := e
     rw [e, Bool.false_and]
    ·rw [if_pos (by rw [← hb]; exact e)]
     rfl
    ·rw [if_neg (by rw [← hb, e]; decide)]
    ·subst hl'
     refine ⟨?_, hmu⟩
     by_cases hm : (a.fLetter == n && onF (semF gr k x ss) a.fTo == (sg == 60)) = true
     ·rw [if_pos hm]
      exact way_set hg h hI ha hm
     ·rw [if_neg hm]
      exact way_skip (by omega) hI ha (by simpa using hm)
   ·have hb := of_decide_eq_false hb
    exact (way_end h hI hb).trans (sem_way h).symm
 ·have h : sg = 109 ∨ sg = 110 := h
  subst e
  have hz2 : ((List.replicate gr.fPlaces.toNat false).length : Int) = gr.fPlaces := by rw [hz]; omega
  have n49 : ((.node ⟨sg, n⟩ [x] : FTr).lab.fSign == 49) = false := by rcases h with rfl | rfl <;> rfl
  have n88 : ((.node ⟨sg, n⟩ [x] : FTr).lab.fSign == 88) = false := by rcases h with rfl | rfl <;> rfl
  have n33 : ((.node ⟨sg, n⟩ [x] : FTr).lab.fSign == 33) = false := by rcases h with rfl | rfl <;> rfl
  have n38 : ((.node ⟨sg, n⟩ [x] : FTr).lab.fSign == 38) = false := by rcases h with rfl | rfl <;> rfl
  have n124 : ((.node ⟨sg, n⟩ [x] : FTr).lab.fSign == 124) = false := by rcases h with rfl | rfl <;> rfl
  have n60 : ((.node ⟨sg, n⟩ [x] : FTr).lab.fSign == 60) = false := by rcases h with rfl | rfl <;> rfl
  have n91 : ((.node ⟨sg, n⟩ [x] : FTr).lab.fSign == 91) = false := by rcases h with rfl | rfl <;> rfl
  refine ifp_no n49 (ifp_no n88 (ifp_no n33 ⟨fun b => b = false, ifp_no n38 n124, fun b hb => ifp_no hb ⟨fun b => b = false, ifp_no n60 n91, fun b hb => ifp_no hb ⟨fun b => b = true, ⟨fun h => h, fun h60 => ?_⟩, fun b hb => ifp_yes hb ⟨FillI gr.fPlaces (fun _ => sg == 110), FillM gr.fPlaces, fill_0 (by omega) hz, fun i l hI => ⟨fun hb => ?_, fun hb => ?_⟩⟩⟩⟩⟩))
  ·rcases h with rfl | rfl
   ·cases h60
   ·rfl
  ·have hb := of_decide_eq_true hb
   have hlt : i < gr.fPlaces := by omega
   exact ⟨_, fill_idx hI hlt, fill_step hI hlt (by omega) rfl⟩
  ·have hb := of_decide_eq_false hb
   have hl := (fill_end hI (by omega)).trans (eachF_const _ _)
   obtain ⟨v, hv⟩ : ∃ v : Bool, v = !(sg == 110) := ⟨_, rfl⟩
   have hl : l = allF gr.fPlaces (!v) := by rw [hl, hv, Bool.not_not]
   have hfl : ∀ o : List Bool, o.length = gr.fPlaces.toNat → (semF gr k x (ss ++ [o])).length = gr.fPlaces.toNat := fun o ho => sem_len hx (hS.add ho false)
   have hfm : ∀ a b : List Bool, a.length = gr.fPlaces.toNat → b.length = gr.fPlaces.toNat → leV gr.fPlaces v a b → leV gr.fPlaces v (semF gr k x (ss ++ [a])) (semF gr k x (ss ++ [b])) := fun a b ha hb h => lp_mono (ways_ok hg) hx hS v ha hb h
   refine ⟨fun o => ∃ m, o = itF (fun o => semF gr k x (ss ++ [o])) m (allF gr.fPlaces (!v)), fun o => gr.fPlaces.toNat - o.count v, ⟨0, hl⟩, ?_⟩
   rintro _ ⟨m, rfl⟩
   have hlm := itF_len hfl (allF_len gr.fPlaces (!v)) m
   refine ⟨x, rfl, by unfold capOk; simp only [List.length_singleton]; have h1 := hS.1; omega, ⟨hg, _, hx, hS.add hlm false⟩, fun hd => ?_, fun hd => ⟨⟨m + 1, rfl⟩, ?_⟩⟩
   ·have hd : semF gr k x (ss ++ [itF (fun o => semF gr k x (ss ++ [o])) m (allF gr.fPlaces (!v))]) = itF (fun o => semF gr k x (ss ++ [o])) m (allF gr.fPlaces (!v)) := of_decide_eq_true hd
    show _ = semF gr (k + 1) (fn sg n [x]) ss
    rw [sem_lp h, ← itF_any hfl hfm hd]
    congr 2
    rw [hv, Bool.not_not]
    rfl
   ·have hd := of_decide_eq_false hd
    have hup := leV_cnt hlm (itF_len hfl (allF_len gr.fPlaces (!v)) (m + 1)) (itF_up hfl hfm m) (fun e => hd e.symm)
    have hle : (itF (fun o => semF gr k x (ss ++ [o])) (m + 1) (allF gr.fPlaces (!v))).count v ≤ _ := List.count_le_length
    rw [itF_len hfl (allF_len gr.fPlaces (!v)) (m + 1)] at hle
    show gr.fPlaces.toNat - (itF (fun o => semF gr k x (ss ++ [o])) (m + 1) (allF gr.fPlaces (!v))).count v < gr.fPlaces.toNat - (itF (fun o => semF gr k x (ss ++ [o])) m (allF gr.fPlaces (!v))).count v
    omega
 ·have h : sg = 38 ∨ sg = 124 := h
  subst e
  have hA := sem_len (g := gr) hx hS
  have hB := sem_len (g := gr) hy hS
  have hz2 : ((List.replicate gr.fPlaces.toNat false).length : Int) = gr.fPlaces := by rw [hz]; omega
  have n49 : ((.node ⟨sg, n⟩ [x, y] : FTr).lab.fSign == 49) = false := by rcases h with rfl | rfl <;> rfl
  have n88 : ((.node ⟨sg, n⟩ [x, y] : FTr).lab.fSign == 88) = false := by rcases h with rfl | rfl <;> rfl
  have n33 : ((.node ⟨sg, n⟩ [x, y] : FTr).lab.fSign == 33) = false := by rcases h with rfl | rfl <;> rfl
  refine ifp_no n49 (ifp_no n88 (ifp_no n33 ⟨fun b => b = true, ⟨fun h => h, fun h60 => ?_⟩, fun b hb => ifp_yes hb ⟨⟨by decide, by show (0 : Int) < 2; decide, hg, _, hx, hS⟩, ⟨by decide, by show (1 : Int) < 2; decide, hg, _, hy, hS⟩, FillI gr.fPlaces (fun p => if sg = 38 then onF (semF gr k x ss) p && onF (semF gr k y ss) p else onF (semF gr k x ss) p || onF (semF gr k y ss) p), FillM gr.fPlaces, fill_0 (by omega) hz, fun i l hI => ⟨fun hb => ?_, fun hb => ?_⟩⟩⟩))
  ·rcases h with rfl | rfl
   ·cases h60
   ·rfl
  ·have hb := of_decide_eq_true hb
   have hlt : i < gr.fPlaces := by omega
   have eA := fill_row hI hlt hA
   have eB := fill_row hI hlt hB
   have eL := fill_idx hI hlt
   refine ⟨fun l' => l' = l.set i.toNat (if sg = 38 then onF (semF gr k x ss) i && onF (semF gr k y ss) i else onF (semF gr k x ss) i || onF (semF gr k y ss) i), ⟨_, eA, fun h1 => ⟨_, eB, fun h2 => ⟨_, eL, ?_⟩, fun h2 => ⟨fun h3 => ⟨_, eA, fun _ => ⟨_, eL, ?_⟩, fun h5 => ?_⟩, fun h3 => ⟨_, eL, ?_⟩⟩⟩, fun h1 => ⟨fun h3 => ⟨_, eA, fun h4 => ?_, fun _ => ⟨_, eB, _, eL, ?_⟩⟩, fun h3 => ⟨_, eL, ?_⟩⟩⟩, fun l' hl' => ?_⟩
   ·rw [h1, h2]
    congr 1
    split <;> rfl
   ·have h3 : sg = 124 := eq_of_beq h3
    rw [if_neg (by omega), h1]
    rfl
   ·rw [h1] at h5
    cases h5
   ·have h3 : ¬ sg = 124 := beq_eq_false_iff_ne.1 h3
    rw [if_pos (by omega), h1, h2]
    rfl
   ·rw [h1] at h4
    cases h4
   ·have h3 : sg = 124 := eq_of_beq h3
    rw [if_neg (by omega), h1]
    rfl
   ·have h3 : ¬ sg = 124 := beq_eq_false_iff_ne.1 h3
    rw [if_pos (by omega), h1]
    rfl
   ·subst hl'
    exact fill_step hI hlt (by omega) rfl
  ·have hb := of_decide_eq_false hb
   refine (fill_end hI (by omega)).trans ?_
   rcases h with rfl | rfl
   ·exact sem_and.symm
   ·exact sem_or.symm
theorem fWhere_all : ∀ k, WhF k
 | 0 => fun nd gr ss hp => by
  obtain ⟨_, _, h, _⟩ := hp
  exact h.elim
 | k + 1 => fun nd gr ss hp => (fWhr_walk k nd gr ss (fWhere_all k) _ (fWhr_all k nd gr ss hp)).fun
def fHolds_vc (g : ApiGraph) (text : ByteArray) (Q : ((List Bool) × Int) → Prop) : Prop :=
 g.fArrows.length ≤ 9223372036854775807 →
 (IfP ((samErr g) != 0) (Q ([], (samErr g))) (∀ r : (Option FTr × ApiFault), (ParsedF text) r →
 (IfP (r.2.fCode != 0) (Q ([], 4)) (∃ t, r.1 = some t ∧
 (PreW 30 t g ([] : (List (List Bool)))) ∧
 ((semF g 30 t ([] : (List (List Bool)))).length * 1 ≤ 140737488355328) ∧
 Q (((semF g 30 t ([] : (List (List Bool))))), 0)))))
theorem fHolds_walk (g : ApiGraph) (text : ByteArray) (Q : ((List Bool) × Int) → Prop) (h : fHolds_vc g text Q) : Ct 14 [.sv (.agg [I g.fLetters, I g.fPlaces, LS ApiArrow.ty g.fArrows]), .sv (.one (.v (.string text)))] [] Q (fun (r : ((List Bool) × Int)) => .tup [.one (LS boolT r.1), .one (I r.2)]) := by
 have ht := tab_ok
 refine Ct.body Try.func14 rfl rfl rfl rfl (fun c hn => ?_)
 unfold fHolds_vc at h
 refine En.lenA 0 2 (by rfl) (by rfl) (fun hl => ?_)
 replace h := h hl
 clear hl
 refine En.seq ?_
 refine En.region ?_
 refine WL.run ht hn 3 ⟨[sl 1 (.v (.string text)), sl 2 (.ptr 0 0)], [.box (ApiGraph.cl g) 24 false]⟩ (by kernel_rfl) ?_
 refine WL.nil ?_
 refine En.seq ?_
 refine En.seq ?_
 refine En.region ?_
 refine WL.run ht hn 1 ⟨[sl 1 (.v (.string text)), sl 2 (.ptr 0 0), (9, .sv (.agg (ApiGraph.cl g)))], [.box (ApiGraph.cl g) 24 false]⟩ (by kernel_rfl) ?_
 refine WL.mt0 (K := []) (p := none) hn (by rfl) (mt_call (samCheck_ct g) en20 (caps := []) [] rfl (by rfl) (by kernel_rfl) (by kernel_rfl) (by rfl) (by rfl) (by rfl)) (by rfl) (by rfl) (by rfl) ?_
 refine WL.run ht hn 1 ⟨[sl 1 (.v (.string text)), sl 2 (.ptr 0 0), sl 6 (I (samErr g))], [.box (ApiGraph.cl g) 24 false]⟩ (by kernel_rfl) ?_
 refine WL.nil ?_
 refine En.seq ?_
 refine En.region ?_
 refine WL.run ht hn 2 ⟨[sl 1 (.v (.string text)), sl 2 (.ptr 0 0), sl 6 (I (samErr g)), sl 12 (B ((samErr g) != 0))], [.box (ApiGraph.cl g) 24 false]⟩ (by kernel_rfl) ?_
 refine WL.nil ?_
 refine En.cond (b := ((samErr g) != 0)) (by kernel_rfl) (fun hb => ?_) (fun hb => ?_)
 replace h := h.1 hb
 refine En.seq ?_
 refine En.region ?_
 refine WL.run ht hn 3 ⟨[sl 4 (.v (.slice none 0 0)), sl 5 (I (samErr g))], [.gone]⟩ (by kernel_rfl) ?_
 refine WL.nil ?_
 refine En.ret ?_
 refine En.nilLS 4 boolT (by rfl) ?_
 exact En.back ht ([], (samErr g)) h (by kernel_rfl) rfl
 replace h := h.2 hb
 refine En.skip ?_
 refine En.seq ?_
 refine En.region ?_
 refine WL.run ht hn 1 ⟨[sl 2 (.ptr 0 0), sl 15 (.v (.string text))], [.box (ApiGraph.cl g) 24 false]⟩ (by kernel_rfl) ?_
 refine WL.mtQ (Q := ParsedF text) (x := fun (r : (Option FTr × ApiFault)) => .tup [.one (.rd (optR fLab r.1)), .agg (ApiFault.cl r.2)]) (p := fun _ => none) hn (by rfl) (mtq_call (fParse_ct text) en32 (caps := []) [] rfl (by rfl) (by kernel_rfl) (by kernel_rfl) (by rfl) (fun _ => rfl) (by rfl)) (fun r hr_2 => ⟨by rfl, _, by rfl, ?_⟩)
 replace h := h r hr_2
 refine WL.run ht hn 6 ⟨[sl 2 (.ptr 0 0), sl 7 (.rd (optR fLab r.1)), sl 8 (.ptr 1 0)], [.box (ApiGraph.cl g) 24 false, .box (ApiFault.cl r.2) 32 false]⟩ (by kernel_rfl) ?_
 refine WL.nil ?_
 refine En.seq ?_
 refine En.seq ?_
 refine En.region ?_
 refine WL.run ht hn 3 ⟨[sl 2 (.ptr 0 0), sl 7 (.rd (optR fLab r.1)), sl 21 (B (r.2.fCode != 0))], [.box (ApiGraph.cl g) 24 false, .gone]⟩ (by kernel_rfl) ?_
 refine WL.nil ?_
 refine En.cond (b := (r.2.fCode != 0)) (by kernel_rfl) (fun hb => ?_) (fun hb => ?_)
 replace h := h.1 hb
 refine En.seq ?_
 refine En.region ?_
 refine WL.run ht hn 2 ⟨[sl 4 (.v (.slice none 0 0)), sl 5 (I 4)], [.gone, .gone]⟩ (by kernel_rfl) ?_
 refine WL.nil ?_
 refine En.ret ?_
 refine En.nilLS 4 boolT (by rfl) ?_
 exact En.back ht ([], 4) h (by kernel_rfl) rfl
 replace h := h.2 hb
 refine En.skip ?_
 refine En.seq ?_
 refine En.region ?_
 refine WL.run ht hn 2 ⟨[sl 22 (.rd (optR fLab r.1)), (23, .sv (.agg (ApiGraph.cl g)))], [.gone, .gone]⟩ (by kernel_rfl) ?_
 obtain ⟨t, ht_2, h⟩ := h
 refine WL.ghost 22 (o1 (.rd (trR fLab t))) (by rfl) (some_of ht_2) ?_
 have hp := h.1
 replace h := h.2
 refine WL.mt0 (K := []) (p := none) hn (by rfl) (mt_call (Ct.args (fWhere_all 30 t g ([] : (List (List Bool))) hp) (argLe_same (argLe_same (argLe_to (nil_LS (T := (lsT boolT))) argLe_nil)))) en34 (caps := []) [] rfl (by rfl) (by kernel_rfl) (by kernel_rfl) (by rfl) (by rfl) (by rfl)) (by rfl) (by rfl) (by rfl) ?_
 have hp := h.1
 replace h := h.2
 refine WL.mt0 (K := []) (p := some (2, rowI 4 boolT ((semF g 30 t ([] : (List (List Bool))))))) hn (by rfl) (mt_callI 2 (cloneBool_ct (semF g 30 t ([] : (List (List Bool)))) hp) en33 (caps := []) [] rfl rfl (by rfl) (by kernel_rfl) (by kernel_rfl) (by rfl) (by rfl)) (by rfl) (by rfl) (by rfl) ?_
 refine WL.run ht hn 2 ⟨[sl 4 (.own 2), sl 5 (I 0)], [.gone, .gone, rowI 4 boolT ((semF g 30 t ([] : (List (List Bool)))))]⟩ (by kernel_rfl) ?_
 refine WL.nil ?_
 refine En.ret ?_
 refine En.seal (T := boolT) (l := ((semF g 30 t ([] : (List (List Bool)))))) (e := 4) 2 rfl ?_
 exact En.back ht (((semF g 30 t ([] : (List (List Bool))))), 0) h (by kernel_rfl) rfl
theorem en14 : ∀ args w, (callFunc 14 args).run Try.prog w = .ok (.enter 14 args) w := enters_of Try.func14 (by kernel_rfl) rfl
def HoldsF (g : ApiGraph) (text : ByteArray) : List Bool × Int := if samErr g ≠ 0 then ([], samErr g) else match fullF text with
 | none => ([], 4)
 | some t => (semF g 30 t [], 0)
theorem fHolds_ct (g : ApiGraph) (text : ByteArray)  : Ct 14 [.sv (.agg [I g.fLetters, I g.fPlaces, LS ApiArrow.ty g.fArrows]), .sv (.one (.v (.string text)))] [] (fun (_ : Unit) => True) (fun _ => .tup [.one (LS boolT (HoldsF g text).1), .one (I (HoldsF g text).2)]) := by
 refine (fHolds_walk g text (fun res_ => res_ = (HoldsF g text)) ?_).fun
 unfold fHolds_vc
 intro _
 refine ⟨fun h => ?_, fun h => fun r hr => ?_⟩
 ·show _ = HoldsF g text
  unfold HoldsF
  rw [if_pos (bne_iff_ne.1 h)]
 rw [bne_eq_false_iff_eq] at h
 have hg := samErr_ok h
 have e0 : HoldsF g text = match fullF text with | none => ([], 4) | some t => (semF g 30 t [], 0) := by
  unfold HoldsF
  rw [if_neg (fun hh => hh h)]
 rw [e0]
 rcases hr with ⟨_, h1, h2⟩ | ⟨t, h1, rfl⟩
 ·refine ⟨fun _ => by rw [h2], fun e => absurd ?_ h1⟩
  rwa [bne_eq_false_iff_eq] at e
 ·have hw := (fullF_some h1).2.1
  have hS : SOk g [] [] := ⟨rfl, fun s hs => by cases hs⟩
  refine ⟨fun e => (by cases e), fun _ => ⟨t, rfl, ⟨hg, [], hw, hS⟩, ?_, by rw [h1]⟩⟩
  rw [sem_len hw hS]
  have := hg.pl
  omega
end Go.Proofs.Ytiejmeedkhkfgaa


namespace Go.Proofs.Ytiejmeedkhkfgaa
open Go.RowKit Go.MapKept
set_option linter.unusedSimpArgs false
set_option linter.unusedVariables false
set_option maxRecDepth 100000
def topSame_vc (g : ApiGraph) (s : ByteArray) (Q : Bool → Prop) : Prop :=
 g.fArrows.length ≤ 9223372036854775807 →
 (∀ r : ((List Int) × Int), (ClassesQ (ApiGraph.mk 1 2 ([(ApiArrow.mk 0 0 1), (ApiArrow.mk 1 0 0)] : (List ApiArrow)))) r →
 (∃ J : Bool → Prop, (IfP (r.2 != 0) (J true) (IfP ((r.1.length : Int) != 2) (J true) (∃ e, idx r.1 0 = some e ∧
 ∃ e_2, idx r.1 1 = some e_2 ∧
 J (e != e_2)))) ∧
 (∀ (x33 : Bool), J x33 → IfP x33 (Q false) (∀ r_2 : ((List Int) × Int), (ClassesQ g) r_2 →
 (IfP (r_2.2 != 0) (Q true) (IfP ((HoldsF g s).2 != 0) (Q true) (∃ (Inv : Int → Prop) (mu : Int → Nat), Inv 0 ∧
 ∀ (x8 : Int) , Inv x8 → (IfP (decide (x8 < (r_2.1.length : Int))) (∃ (Inv_2 : Int → Prop) (mu_2 : Int → Nat), Inv_2 0 ∧
 ∀ (x9 : Int) , Inv_2 x9 → (IfP (decide (x9 < x8)) (∃ J_2 : Bool → Prop, (∃ e_3, idx r_2.1 x8 = some e_3 ∧
 ∃ e_4, idx r_2.1 x9 = some e_4 ∧
 IfP (e_3 == e_4) (∃ e_5, idx (HoldsF g s).1 x8 = some e_5 ∧
 ∃ e_6, idx (HoldsF g s).1 x9 = some e_6 ∧
 J_2 (e_5 != e_6)) (J_2 false)) ∧
 (∀ (x79 : Bool), J_2 x79 → IfP x79 (Q false) ((Inv_2 (wr (x9 + 1)) ∧ mu_2 (wr (x9 + 1)) < mu_2 x9)))) ((Inv (wr (x8 + 1)) ∧ mu (wr (x8 + 1)) < mu x8)))) (Q true)))))))))
noncomputable abbrev qtopSame0 (g : ApiGraph) (s : ByteArray) := (LS boolT (HoldsF g s).1)
set_option maxHeartbeats 2000000 in
theorem topSame_walk (g : ApiGraph) (s : ByteArray) (Q : Bool → Prop) (h : topSame_vc g s Q) : Ct 5 [.sv (.agg [I g.fLetters, I g.fPlaces, LS ApiArrow.ty g.fArrows]), .sv (.one (.v (.string s)))] [] Q (fun (r : Bool) => .sv (.one (B r))) := by
 have ht := tab_ok
 refine Ct.body Try.func5 rfl rfl rfl rfl (fun c hn => ?_)
 unfold topSame_vc at h
 refine En.lenA 0 2 (by rfl) (by rfl) (fun hl => ?_)
 replace h := h hl
 clear hl
 refine En.seq ?_
 refine En.region ?_
 refine WL.run ht hn 2 ⟨[sl 1 (.v (.string s)), sl 2 (.ptr 0 0)], [.box (ApiGraph.cl g) 24 false]⟩ (by kernel_rfl) ?_
 refine WL.nil ?_
 refine En.seq ?_
 refine En.region ?_
 refine WL.run ht hn 2 ⟨[sl 1 (.v (.string s)), sl 2 (.ptr 0 0), (11, .sv (.agg [I 0, I 0, I 1])), (12, .sv (.agg [I 1, I 0, I 0]))], [.box (ApiGraph.cl g) 24 false]⟩ (by kernel_rfl) ?_
 refine WL.mt0 (K := []) (p := some (1, rowI 26 ApiArrow.ty ([(ApiArrow.mk 0 0 1), (ApiArrow.mk 1 0 0)] : (List ApiArrow)))) hn (by rfl) (mt_lit (T := ApiArrow.ty) ([(ApiArrow.mk 0 0 1), (ApiArrow.mk 1 0 0)] : (List ApiArrow)) (mt_bsl 1 (r := cellsOf ApiArrow.ty ([(ApiArrow.mk 0 0 1), (ApiArrow.mk 1 0 0)] : (List ApiArrow))) ht rfl (by rfl) (by rfl) (by rfl) (by kernel_rfl) (by rfl)) (fun _ h => by cases h) (fun _ => rfl) (fun _ => rfl) (by rfl) (Nat.le_of_ble_eq_true rfl)) (by rfl) (by rfl) (by rfl) ?_
 refine WL.run ht hn 1 ⟨[sl 1 (.v (.string s)), sl 2 (.ptr 0 0), (14, .sv (.agg [I 1, I 2, .own 1]))], [.box (ApiGraph.cl g) 24 false, rowI 26 ApiArrow.ty ([(ApiArrow.mk 0 0 1), (ApiArrow.mk 1 0 0)] : (List ApiArrow))]⟩ (by kernel_rfl) ?_
 refine WL.seal (T := ApiArrow.ty) (l := ([(ApiArrow.mk 0 0 1), (ApiArrow.mk 1 0 0)] : (List ApiArrow))) (e := 26) 1 rfl ?_
 refine WL.run ht hn 0 ⟨[sl 1 (.v (.string s)), sl 2 (.ptr 0 0), (14, .sv (.agg [I 1, I 2, LS ApiArrow.ty ([(ApiArrow.mk 0 0 1), (ApiArrow.mk 1 0 0)] : (List ApiArrow))]))], [.box (ApiGraph.cl g) 24 false, .gone]⟩ (by kernel_rfl) ?_
 refine WL.mtQ (Q := ClassesQ (ApiGraph.mk 1 2 ([(ApiArrow.mk 0 0 1), (ApiArrow.mk 1 0 0)] : (List ApiArrow)))) (x := fun (r : ((List Int) × Int)) => .tup [.one (LS intT r.1), .one (I r.2)]) (p := fun _ => none) hn (by rfl) (mtq_call (samClasses_ct (ApiGraph.mk 1 2 ([(ApiArrow.mk 0 0 1), (ApiArrow.mk 1 0 0)] : (List ApiArrow)))) en13 (caps := []) [] rfl (by rfl) (by kernel_rfl) (by kernel_rfl) (by rfl) (fun _ => rfl) (by rfl)) (fun r hr_2 => ⟨by rfl, _, by rfl, ?_⟩)
 replace h := h r hr_2
 refine WL.run ht hn 5 ⟨[sl 1 (.v (.string s)), sl 2 (.ptr 0 0), sl 5 (LS intT r.1), sl 6 (I r.2)], [.box (ApiGraph.cl g) 24 false, .gone]⟩ (by kernel_rfl) ?_
 refine WL.nil ?_
 refine En.seq ?_
 obtain ⟨J, h, hJ⟩ := h
 refine En.seqJ (σ := Bool) (fun zz => J zz) (fun zz => ⟨[sl 1 (.v (.string s)), sl 2 (.ptr 0 0), sl 33 (B zz)], [.box (ApiGraph.cl g) 24 false, .gone]⟩) ?_ ?_
 refine En.regionS (by kernel_rfl) (by kernel_rfl) ?_
 refine SL.run ht hn 3 ⟨[sl 1 (.v (.string s)), sl 2 (.ptr 0 0), sl 5 (LS intT r.1), sl 6 (I r.2), sl 18 (I r.2), sl 19 (B (r.2 != 0)), sl 20 (B (r.2 != 0))], [.box (ApiGraph.cl g) 24 false, .gone]⟩ (by kernel_rfl) ?_
 refine splitB (r.2 != 0) (fun hb => ?_) (fun hb => ?_)
 replace h := h.1 hb
 refine SL.setB 20 hb (by kernel_rfl) ?_
 refine SL.run ht hn 13 ⟨[sl 1 (.v (.string s)), sl 2 (.ptr 0 0), sl 5 (LS intT r.1), sl 6 (I r.2), sl 18 (I r.2), sl 19 (B (r.2 != 0)), sl 20 (B true), (21, .tup []), (22, .tup []), (23, .tup []), sl 24 (B true), sl 25 (B true), (26, .tup []), (27, .tup []), (28, .tup []), (29, .tup []), (30, .tup []), (31, .tup []), (32, .tup []), sl 33 (B true)], [.box (ApiGraph.cl g) 24 false, .gone]⟩ (by kernel_rfl) ?_
 refine SL.nil ⟨by kernel_rfl, ?_⟩
 exact En.at (I := fun zz => J zz) (T := fun zz => ⟨[sl 1 (.v (.string s)), sl 2 (.ptr 0 0), sl 33 (B zz)], [.box (ApiGraph.cl g) 24 false, .gone]⟩) true h (by kernel_rfl)
 replace h := h.2 hb
 refine SL.setB 20 hb (by kernel_rfl) ?_
 refine SL.run ht hn 5 ⟨[sl 1 (.v (.string s)), sl 2 (.ptr 0 0), sl 5 (LS intT r.1), sl 6 (I r.2), sl 18 (I r.2), sl 19 (B (r.2 != 0)), sl 20 (B false), sl 21 (LS intT r.1), sl 22 (I (r.1.length : Int)), sl 23 (B ((r.1.length : Int) != 2)), sl 24 (B ((r.1.length : Int) != 2)), sl 25 (B ((r.1.length : Int) != 2))], [.box (ApiGraph.cl g) 24 false, .gone]⟩ (by kernel_rfl) ?_
 refine splitB ((r.1.length : Int) != 2) (fun hb => ?_) (fun hb => ?_)
 replace h := h.1 hb
 refine SL.setB 25 hb (by kernel_rfl) ?_
 refine SL.run ht hn 8 ⟨[sl 1 (.v (.string s)), sl 2 (.ptr 0 0), sl 5 (LS intT r.1), sl 6 (I r.2), sl 18 (I r.2), sl 19 (B (r.2 != 0)), sl 20 (B false), sl 21 (LS intT r.1), sl 22 (I (r.1.length : Int)), sl 23 (B ((r.1.length : Int) != 2)), sl 24 (B ((r.1.length : Int) != 2)), sl 25 (B true), (26, .tup []), (27, .tup []), (28, .tup []), (29, .tup []), (30, .tup []), (31, .tup []), (32, .tup []), sl 33 (B true)], [.box (ApiGraph.cl g) 24 false, .gone]⟩ (by kernel_rfl) ?_
 refine SL.nil ⟨by kernel_rfl, ?_⟩
 exact En.at (I := fun zz => J zz) (T := fun zz => ⟨[sl 1 (.v (.string s)), sl 2 (.ptr 0 0), sl 33 (B zz)], [.box (ApiGraph.cl g) 24 false, .gone]⟩) true h (by kernel_rfl)
 replace h := h.2 hb
 refine SL.setB 25 hb (by kernel_rfl) ?_
 refine SL.run ht hn 1 ⟨[sl 1 (.v (.string s)), sl 2 (.ptr 0 0), sl 5 (LS intT r.1), sl 6 (I r.2), sl 18 (I r.2), sl 19 (B (r.2 != 0)), sl 20 (B false), sl 21 (LS intT r.1), sl 22 (I (r.1.length : Int)), sl 23 (B ((r.1.length : Int) != 2)), sl 24 (B ((r.1.length : Int) != 2)), sl 25 (B false), sl 26 (LS intT r.1)], [.box (ApiGraph.cl g) 24 false, .gone]⟩ (by kernel_rfl) ?_
 obtain ⟨e, he, h⟩ := h
 refine SL.val hn (by rfl) (val_index (T := intT) (l := r.1) (i := 0) ht rfl (by rfl) (by rfl) (by rfl) (by rfl) (by rfl) (by rfl) he) (by rfl) ?_
 refine SL.val hn (by rfl) (val_load (s := .one (I e)) ht rfl (by rfl) (by rfl) (by rfl) (by rfl) (by rfl)) (by rfl) ?_
 refine SL.run ht hn 1 ⟨[sl 1 (.v (.string s)), sl 2 (.ptr 0 0), sl 5 (LS intT r.1), sl 6 (I r.2), sl 18 (I r.2), sl 19 (B (r.2 != 0)), sl 20 (B false), sl 21 (LS intT r.1), sl 22 (I (r.1.length : Int)), sl 23 (B ((r.1.length : Int) != 2)), sl 24 (B ((r.1.length : Int) != 2)), sl 25 (B false), sl 26 (LS intT r.1), sl 27 (.pe (svR (.one (I e))) 1), sl 28 (I e), sl 29 (LS intT r.1)], [.box (ApiGraph.cl g) 24 false, .gone]⟩ (by kernel_rfl) ?_
 obtain ⟨e_2, he_2, h⟩ := h
 refine SL.val hn (by rfl) (val_index (T := intT) (l := r.1) (i := 1) ht rfl (by rfl) (by rfl) (by rfl) (by rfl) (by rfl) (by rfl) he_2) (by rfl) ?_
 refine SL.val hn (by rfl) (val_load (s := .one (I e_2)) ht rfl (by rfl) (by rfl) (by rfl) (by rfl) (by rfl)) (by rfl) ?_
 refine SL.run ht hn 2 ⟨[sl 1 (.v (.string s)), sl 2 (.ptr 0 0), sl 5 (LS intT r.1), sl 6 (I r.2), sl 18 (I r.2), sl 19 (B (r.2 != 0)), sl 20 (B false), sl 21 (LS intT r.1), sl 22 (I (r.1.length : Int)), sl 23 (B ((r.1.length : Int) != 2)), sl 24 (B ((r.1.length : Int) != 2)), sl 25 (B false), sl 26 (LS intT r.1), sl 27 (.pe (svR (.one (I e))) 1), sl 28 (I e), sl 29 (LS intT r.1), sl 30 (.pe (svR (.one (I e_2))) 1), sl 31 (I e_2), sl 32 (B (e != e_2)), sl 33 (B (e != e_2))], [.box (ApiGraph.cl g) 24 false, .gone]⟩ (by kernel_rfl) ?_
 refine SL.nil ⟨by kernel_rfl, ?_⟩
 exact En.at (I := fun zz => J zz) (T := fun zz => ⟨[sl 1 (.v (.string s)), sl 2 (.ptr 0 0), sl 33 (B zz)], [.box (ApiGraph.cl g) 24 false, .gone]⟩) (e != e_2) h (by kernel_rfl)
 intro x33 h
 replace h := hJ _ h
 show En c ⟨[sl 1 (.v (.string s)), sl 2 (.ptr 0 0), sl 33 (B x33)], [.box (ApiGraph.cl g) 24 false, .gone]⟩ _
 refine En.cond (b := x33) (by kernel_rfl) (fun hb => ?_) (fun hb => ?_)
 replace h := h.1 hb
 refine En.seq ?_
 refine En.region ?_
 refine WL.run ht hn 1 ⟨[sl 4 (B false)], [.gone, .gone]⟩ (by kernel_rfl) ?_
 refine WL.nil ?_
 refine En.ret ?_
 exact En.back ht false h (by kernel_rfl) rfl
 replace h := h.2 hb
 refine En.skip ?_
 refine En.seq ?_
 refine En.region ?_
 refine WL.run ht hn 1 ⟨[sl 1 (.v (.string s)), sl 2 (.ptr 0 0), (35, .sv (.agg (ApiGraph.cl g)))], [.box (ApiGraph.cl g) 24 false, .gone]⟩ (by kernel_rfl) ?_
 refine WL.mtQ (Q := ClassesQ g) (x := fun (r : ((List Int) × Int)) => .tup [.one (LS intT r.1), .one (I r.2)]) (p := fun _ => none) hn (by rfl) (mtq_call (samClasses_ct g) en13 (caps := []) [] rfl (by rfl) (by kernel_rfl) (by kernel_rfl) (by rfl) (fun _ => rfl) (by rfl)) (fun r_2 hr_2_2 => ⟨by rfl, _, by rfl, ?_⟩)
 replace h := h r_2 hr_2_2
 refine WL.run ht hn 5 ⟨[sl 1 (.v (.string s)), sl 2 (.ptr 0 0), sl 5 (LS intT r_2.1), sl 6 (I r_2.2)], [.box (ApiGraph.cl g) 24 false, .gone]⟩ (by kernel_rfl) ?_
 refine WL.nil ?_
 refine En.seq ?_
 refine En.seq ?_
 refine En.region ?_
 refine WL.run ht hn 2 ⟨[sl 1 (.v (.string s)), sl 2 (.ptr 0 0), sl 5 (LS intT r_2.1), sl 40 (B (r_2.2 != 0))], [.box (ApiGraph.cl g) 24 false, .gone]⟩ (by kernel_rfl) ?_
 refine WL.nil ?_
 refine En.cond (b := (r_2.2 != 0)) (by kernel_rfl) (fun hb => ?_) (fun hb => ?_)
 replace h := h.1 hb
 refine En.seq ?_
 refine En.region ?_
 refine WL.run ht hn 1 ⟨[sl 4 (B true)], [.gone, .gone]⟩ (by kernel_rfl) ?_
 refine WL.nil ?_
 refine En.ret ?_
 exact En.back ht true h (by kernel_rfl) rfl
 replace h := h.2 hb
 refine En.skip ?_
 refine En.seq ?_
 refine En.region ?_
 refine WL.run ht hn 2 ⟨[sl 5 (LS intT r_2.1), (42, .sv (.agg (ApiGraph.cl g))), sl 43 (.v (.string s))], [.gone, .gone]⟩ (by kernel_rfl) ?_
 refine WL.mt0 (K := []) (p := none) hn (by rfl) (mt_call (fHolds_ct g s) en14 (caps := []) [] rfl (by rfl) (by kernel_rfl) (by kernel_rfl) (by rfl) (by rfl) (by rfl)) (by rfl) (by rfl) (by rfl) ?_
 refine WL.run ht hn 5 ⟨[sl 5 (LS intT r_2.1), sl 6 (I (HoldsF g s).2), sl 7 (qtopSame0 g s)], [.gone, .gone]⟩ (by kernel_rfl) ?_
 refine WL.nil ?_
 refine En.seq ?_
 refine En.seq ?_
 refine En.region ?_
 refine WL.run ht hn 2 ⟨[sl 5 (LS intT r_2.1), sl 7 (qtopSame0 g s), sl 48 (B ((HoldsF g s).2 != 0))], [.gone, .gone]⟩ (by kernel_rfl) ?_
 refine WL.nil ?_
 refine En.cond (b := ((HoldsF g s).2 != 0)) (by kernel_rfl) (fun hb => ?_) (fun hb => ?_)
 replace h := h.1 hb
 refine En.seq ?_
 refine En.region ?_
 refine WL.run ht hn 1 ⟨[sl 4 (B true)], [.gone, .gone]⟩ (by kernel_rfl) ?_
 refine WL.nil ?_
 refine En.ret ?_
 exact En.back ht true h (by kernel_rfl) rfl
 replace h := h.2 hb
 refine En.skip ?_
 refine En.seq ?_
 refine En.seq ?_
 refine En.region ?_
 refine WL.run ht hn 1 ⟨[sl 5 (LS intT r_2.1), sl 7 (qtopSame0 g s), sl 8 (I 0)], [.gone, .gone]⟩ (by kernel_rfl) ?_
 refine WL.nil ?_
 refine En.block ?_
 obtain ⟨Inv, mu, h0_2, hI_2⟩ := h
 refine En.loop (σ := Int) (fun zz => Inv zz) (fun zz => mu zz) (fun zz => ⟨[sl 5 (LS intT r_2.1), sl 7 (qtopSame0 g s), sl 8 (I zz)], [.gone, .gone]⟩) 0 h0_2 (sub_ok (by kernel_rfl)) ?_
 intro x8 h
 replace h := hI_2 _ h
 show En c ⟨[sl 5 (LS intT r_2.1), sl 7 (qtopSame0 g s), sl 8 (I x8)], [.gone, .gone]⟩ _
 refine En.seq ?_
 refine En.seq ?_
 refine En.region ?_
 refine WL.run ht hn 4 ⟨[sl 5 (LS intT r_2.1), sl 7 (qtopSame0 g s), sl 8 (I x8), sl 52 (B (decide (x8 < (r_2.1.length : Int))))], [.gone, .gone]⟩ (by kernel_rfl) ?_
 refine WL.nil ?_
 refine En.cond (b := (decide (x8 < (r_2.1.length : Int)))) (by kernel_rfl) (fun hb => ?_) (fun hb => ?_)
 replace h := h.1 hb
 refine En.skip ?_
 refine En.seq ?_
 refine En.block ?_
 refine En.seq ?_
 refine En.region ?_
 refine WL.run ht hn 1 ⟨[sl 5 (LS intT r_2.1), sl 7 (qtopSame0 g s), sl 8 (I x8), sl 9 (I 0)], [.gone, .gone]⟩ (by kernel_rfl) ?_
 refine WL.nil ?_
 refine En.block ?_
 obtain ⟨Inv_2, mu_2, h0, hI⟩ := h
 refine En.loop (σ := Int) (fun zz => Inv_2 zz) (fun zz => mu_2 zz) (fun zz => ⟨[sl 5 (LS intT r_2.1), sl 7 (qtopSame0 g s), sl 8 (I x8), sl 9 (I zz)], [.gone, .gone]⟩) 0 h0 (sub_ok (by kernel_rfl)) ?_
 intro x9 h
 replace h := hI _ h
 show En c ⟨[sl 5 (LS intT r_2.1), sl 7 (qtopSame0 g s), sl 8 (I x8), sl 9 (I x9)], [.gone, .gone]⟩ _
 refine En.seq ?_
 refine En.seq ?_
 refine En.region ?_
 refine WL.run ht hn 3 ⟨[sl 5 (LS intT r_2.1), sl 7 (qtopSame0 g s), sl 8 (I x8), sl 9 (I x9), sl 57 (B (decide (x9 < x8)))], [.gone, .gone]⟩ (by kernel_rfl) ?_
 refine WL.nil ?_
 refine En.cond (b := (decide (x9 < x8))) (by kernel_rfl) (fun hb => ?_) (fun hb => ?_)
 replace h := h.1 hb
 refine En.skip ?_
 refine En.seq ?_
 refine En.block ?_
 obtain ⟨J_2, h, hJ_2⟩ := h
 refine En.seqJ (σ := Bool) (fun zz => J_2 zz) (fun zz => ⟨[sl 5 (LS intT r_2.1), sl 7 (qtopSame0 g s), sl 8 (I x8), sl 9 (I x9), sl 79 (B zz)], [.gone, .gone]⟩) ?_ ?_
 obtain ⟨e_3, he_3, h⟩ := h
 obtain ⟨e_4, he_4, h⟩ := h
 refine splitB (e_3 == e_4) (fun hb_2 => ?_) (fun hb_2 => ?_)
 replace h := h.1 hb_2
 obtain ⟨e_5, he_5, h⟩ := h
 obtain ⟨e_6, he_6, h⟩ := h
 refine En.regionA ⟨[sl 5 (LS intT r_2.1), sl 7 (qtopSame0 g s), sl 8 (I x8), sl 9 (I x9)], [.sv (.one (LS intT r_2.1)), .sv (.one (I x8)), .sv (.one (.pe (svR (.one (I e_3))) 1)), .sv (.one (I e_3)), .sv (.one (LS intT r_2.1)), .sv (.one (I x9)), .sv (.one (.pe (svR (.one (I e_4))) 1)), .sv (.one (I e_4)), .sv (.one (B true)), .sv (.one (B true)), .sv (.one (qtopSame0 g s)), .sv (.one (I x8)), .sv (.one (.pe (svR (.one (B e_5))) 1)), .sv (.one (B e_5)), .sv (.one (qtopSame0 g s)), .sv (.one (I x9)), .sv (.one (.pe (svR (.one (B e_6))) 1)), .sv (.one (B e_6)), .sv (.one (B (e_5 != e_6))), .sv (.one (B (e_5 != e_6)))], [⟨.gone, none, none, none⟩, ⟨.gone, none, none, none⟩]⟩ ⟨[sl 5 (LS intT r_2.1), sl 7 (qtopSame0 g s), sl 8 (I x8), sl 9 (I x9), sl 79 (B (e_5 != e_6))], [.gone, .gone]⟩ (by kernel_rfl) hn (by kernel_rfl) (by rfl) (by kernel_rfl) ?_ (by kernel_rfl) ?_
 exact ⟨.mt ⟨[sl 5 (LS intT r_2.1)], []⟩ [] none (by kernel_rfl) (by rfl) (mt_ev ht (by kernel_rfl)) rfl rfl rfl rfl,
 .mt ⟨[sl 8 (I x8)], []⟩ [] none (by kernel_rfl) (by rfl) (mt_ev ht (by kernel_rfl)) rfl rfl rfl rfl,
 .mt ⟨[sl 60 (LS intT r_2.1), sl 61 (I x8)], []⟩ [] none (by kernel_rfl) (by rfl) (mt_val (val_index (T := intT) (l := r_2.1) (i := x8) ht rfl (by rfl) (by rfl) (by rfl) (by rfl) (by rfl) (by rfl) he_3)) rfl rfl rfl rfl,
 .mt ⟨[sl 62 (.pe (svR (.one (I e_3))) 1)], []⟩ [] none (by kernel_rfl) (by rfl) (mt_val (val_load (s := .one (I e_3)) ht rfl (by rfl) (by rfl) (by rfl) (by rfl) (by rfl))) rfl rfl rfl rfl,
 .mt ⟨[sl 5 (LS intT r_2.1)], []⟩ [] none (by kernel_rfl) (by rfl) (mt_ev ht (by kernel_rfl)) rfl rfl rfl rfl,
 .mt ⟨[sl 9 (I x9)], []⟩ [] none (by kernel_rfl) (by rfl) (mt_ev ht (by kernel_rfl)) rfl rfl rfl rfl,
 .mt ⟨[sl 64 (LS intT r_2.1), sl 65 (I x9)], []⟩ [] none (by kernel_rfl) (by rfl) (mt_val (val_index (T := intT) (l := r_2.1) (i := x9) ht rfl (by rfl) (by rfl) (by rfl) (by rfl) (by rfl) (by rfl) he_4)) rfl rfl rfl rfl,
 .mt ⟨[sl 66 (.pe (svR (.one (I e_4))) 1)], []⟩ [] none (by kernel_rfl) (by rfl) (mt_val (val_load (s := .one (I e_4)) ht rfl (by rfl) (by rfl) (by rfl) (by rfl) (by rfl))) rfl rfl rfl rfl,
 .mt ⟨[sl 63 (I e_3), sl 67 (I e_4)], []⟩ [] none (by kernel_rfl) (by rfl) (mt_castB hb_2 (mt_ev ht (by kernel_rfl))) rfl rfl rfl rfl,
 .mt ⟨[sl 68 (B true)], []⟩ [] none (by kernel_rfl) (by rfl) (mt_ev ht (by kernel_rfl)) rfl rfl rfl rfl,
 .mt ⟨[sl 7 (qtopSame0 g s), sl 69 (B true)], []⟩ [] none (by kernel_rfl) (by rfl) (mt_ev ht (by kernel_rfl)) rfl rfl rfl rfl,
 .mt ⟨[sl 8 (I x8), sl 69 (B true)], []⟩ [] none (by kernel_rfl) (by rfl) (mt_ev ht (by kernel_rfl)) rfl rfl rfl rfl,
 .mt ⟨[sl 69 (B true), sl 70 (qtopSame0 g s), sl 71 (I x8)], []⟩ [] none (by kernel_rfl) (by rfl) (mt_val (val_index (T := boolT) (l := (HoldsF g s).1) (i := x8) ht rfl (by rfl) (by rfl) (by rfl) (by rfl) (by rfl) (by rfl) he_5)) rfl rfl rfl rfl,
 .mt ⟨[sl 69 (B true), sl 72 (.pe (svR (.one (B e_5))) 1)], []⟩ [] none (by kernel_rfl) (by rfl) (mt_val (val_load (s := .one (B e_5)) ht rfl (by rfl) (by rfl) (by rfl) (by rfl) (by rfl))) rfl rfl rfl rfl,
 .mt ⟨[sl 7 (qtopSame0 g s), sl 69 (B true)], []⟩ [] none (by kernel_rfl) (by rfl) (mt_ev ht (by kernel_rfl)) rfl rfl rfl rfl,
 .mt ⟨[sl 9 (I x9), sl 69 (B true)], []⟩ [] none (by kernel_rfl) (by rfl) (mt_ev ht (by kernel_rfl)) rfl rfl rfl rfl,
 .mt ⟨[sl 69 (B true), sl 74 (qtopSame0 g s), sl 75 (I x9)], []⟩ [] none (by kernel_rfl) (by rfl) (mt_val (val_index (T := boolT) (l := (HoldsF g s).1) (i := x9) ht rfl (by rfl) (by rfl) (by rfl) (by rfl) (by rfl) (by rfl) he_6)) rfl rfl rfl rfl,
 .mt ⟨[sl 69 (B true), sl 76 (.pe (svR (.one (B e_6))) 1)], []⟩ [] none (by kernel_rfl) (by rfl) (mt_val (val_load (s := .one (B e_6)) ht rfl (by rfl) (by rfl) (by rfl) (by rfl) (by rfl))) rfl rfl rfl rfl,
 .mt ⟨[sl 69 (B true), sl 73 (B e_5), sl 77 (B e_6)], []⟩ [] none (by kernel_rfl) (by rfl) (mt_val (val_eqB (u := e_5) (v := e_6) rfl Try.underlying4 (by rfl) (by rfl) (.inr ⟨rfl, rfl⟩))) rfl rfl rfl rfl,
 .mt ⟨[sl 69 (B true), sl 78 (B (e_5 != e_6))], []⟩ [] none (by kernel_rfl) (by rfl) (mt_ev ht (by kernel_rfl)) rfl rfl rfl rfl,
 trivial⟩
 exact En.at (I := fun zz => J_2 zz) (T := fun zz => ⟨[sl 5 (LS intT r_2.1), sl 7 (qtopSame0 g s), sl 8 (I x8), sl 9 (I x9), sl 79 (B zz)], [.gone, .gone]⟩) (e_5 != e_6) h (by kernel_rfl)
 replace h := h.2 hb_2
 refine En.regionA ⟨[sl 5 (LS intT r_2.1), sl 7 (qtopSame0 g s), sl 8 (I x8), sl 9 (I x9)], [.sv (.one (LS intT r_2.1)), .sv (.one (I x8)), .sv (.one (.pe (svR (.one (I e_3))) 1)), .sv (.one (I e_3)), .sv (.one (LS intT r_2.1)), .sv (.one (I x9)), .sv (.one (.pe (svR (.one (I e_4))) 1)), .sv (.one (I e_4)), .sv (.one (B false)), .sv (.one (B false)), .tup [], .tup [], .tup [], .tup [], .tup [], .tup [], .tup [], .tup [], .tup [], .sv (.one (B false))], [⟨.gone, none, none, none⟩, ⟨.gone, none, none, none⟩]⟩ ⟨[sl 5 (LS intT r_2.1), sl 7 (qtopSame0 g s), sl 8 (I x8), sl 9 (I x9), sl 79 (B false)], [.gone, .gone]⟩ (by kernel_rfl) hn (by kernel_rfl) (by rfl) (by kernel_rfl) ?_ (by kernel_rfl) ?_
 exact ⟨.mt ⟨[sl 5 (LS intT r_2.1)], []⟩ [] none (by kernel_rfl) (by rfl) (mt_ev ht (by kernel_rfl)) rfl rfl rfl rfl,
 .mt ⟨[sl 8 (I x8)], []⟩ [] none (by kernel_rfl) (by rfl) (mt_ev ht (by kernel_rfl)) rfl rfl rfl rfl,
 .mt ⟨[sl 60 (LS intT r_2.1), sl 61 (I x8)], []⟩ [] none (by kernel_rfl) (by rfl) (mt_val (val_index (T := intT) (l := r_2.1) (i := x8) ht rfl (by rfl) (by rfl) (by rfl) (by rfl) (by rfl) (by rfl) he_3)) rfl rfl rfl rfl,
 .mt ⟨[sl 62 (.pe (svR (.one (I e_3))) 1)], []⟩ [] none (by kernel_rfl) (by rfl) (mt_val (val_load (s := .one (I e_3)) ht rfl (by rfl) (by rfl) (by rfl) (by rfl) (by rfl))) rfl rfl rfl rfl,
 .mt ⟨[sl 5 (LS intT r_2.1)], []⟩ [] none (by kernel_rfl) (by rfl) (mt_ev ht (by kernel_rfl)) rfl rfl rfl rfl,
 .mt ⟨[sl 9 (I x9)], []⟩ [] none (by kernel_rfl) (by rfl) (mt_ev ht (by kernel_rfl)) rfl rfl rfl rfl,
 .mt ⟨[sl 64 (LS intT r_2.1), sl 65 (I x9)], []⟩ [] none (by kernel_rfl) (by rfl) (mt_val (val_index (T := intT) (l := r_2.1) (i := x9) ht rfl (by rfl) (by rfl) (by rfl) (by rfl) (by rfl) (by rfl) he_4)) rfl rfl rfl rfl,
 .mt ⟨[sl 66 (.pe (svR (.one (I e_4))) 1)], []⟩ [] none (by kernel_rfl) (by rfl) (mt_val (val_load (s := .one (I e_4)) ht rfl (by rfl) (by rfl) (by rfl) (by rfl) (by rfl))) rfl rfl rfl rfl,
 .mt ⟨[sl 63 (I e_3), sl 67 (I e_4)], []⟩ [] none (by kernel_rfl) (by rfl) (mt_castB hb_2 (mt_ev ht (by kernel_rfl))) rfl rfl rfl rfl,
 .mt ⟨[sl 68 (B false)], []⟩ [] none (by kernel_rfl) (by rfl) (mt_ev ht (by kernel_rfl)) rfl rfl rfl rfl,
 .skip ⟨[sl 69 (B false)], []⟩ (by kernel_rfl) (by rfl) rfl rfl rfl rfl,
 .skip ⟨[sl 69 (B false)], []⟩ (by kernel_rfl) (by rfl) rfl rfl rfl rfl,
 .skip ⟨[sl 69 (B false)], []⟩ (by kernel_rfl) (by rfl) rfl rfl rfl rfl,
 .skip ⟨[sl 69 (B false)], []⟩ (by kernel_rfl) (by rfl) rfl rfl rfl rfl,
 .skip ⟨[sl 69 (B false)], []⟩ (by kernel_rfl) (by rfl) rfl rfl rfl rfl,
 .skip ⟨[sl 69 (B false)], []⟩ (by kernel_rfl) (by rfl) rfl rfl rfl rfl,
 .skip ⟨[sl 69 (B false)], []⟩ (by kernel_rfl) (by rfl) rfl rfl rfl rfl,
 .skip ⟨[sl 69 (B false)], []⟩ (by kernel_rfl) (by rfl) rfl rfl rfl rfl,
 .skip ⟨[sl 69 (B false)], []⟩ (by kernel_rfl) (by rfl) rfl rfl rfl rfl,
 .mt ⟨[sl 69 (B false), (78, .tup [])], []⟩ [] none (by kernel_rfl) (by rfl) (mt_ev ht (by kernel_rfl)) rfl rfl rfl rfl,
 trivial⟩
 exact En.at (I := fun zz => J_2 zz) (T := fun zz => ⟨[sl 5 (LS intT r_2.1), sl 7 (qtopSame0 g s), sl 8 (I x8), sl 9 (I x9), sl 79 (B zz)], [.gone, .gone]⟩) false h (by kernel_rfl)
 intro x79 h
 replace h := hJ_2 _ h
 show En c ⟨[sl 5 (LS intT r_2.1), sl 7 (qtopSame0 g s), sl 8 (I x8), sl 9 (I x9), sl 79 (B x79)], [.gone, .gone]⟩ _
 refine En.cond (b := x79) (by kernel_rfl) (fun hb => ?_) (fun hb => ?_)
 replace h := h.1 hb
 refine En.seq ?_
 refine En.region ?_
 refine WL.run ht hn 1 ⟨[sl 4 (B false)], [.gone, .gone]⟩ (by kernel_rfl) ?_
 refine WL.nil ?_
 refine En.ret ?_
 exact En.back ht false h (by kernel_rfl) rfl
 replace h := h.2 hb
 refine En.skip ?_
 refine En.region ?_
 refine WL.run ht hn 3 ⟨[sl 5 (LS intT r_2.1), sl 7 (qtopSame0 g s), sl 8 (I x8), sl 9 (I (wr (x9 + 1)))], [.gone, .gone]⟩ (by kernel_rfl) ?_
 refine WL.nil ?_
 exact En.at (I := fun zz => Inv_2 zz ∧ mu_2 zz < mu_2 x9) (T := fun zz => ⟨[sl 5 (LS intT r_2.1), sl 7 (qtopSame0 g s), sl 8 (I x8), sl 9 (I zz)], [.gone, .gone]⟩) (wr (x9 + 1)) h (by kernel_rfl)
 replace h := h.2 hb
 refine En.exit rfl ?_
 refine En.region ?_
 refine WL.run ht hn 3 ⟨[sl 5 (LS intT r_2.1), sl 7 (qtopSame0 g s), sl 8 (I (wr (x8 + 1)))], [.gone, .gone]⟩ (by kernel_rfl) ?_
 refine WL.nil ?_
 exact En.at (I := fun zz => Inv zz ∧ mu zz < mu x8) (T := fun zz => ⟨[sl 5 (LS intT r_2.1), sl 7 (qtopSame0 g s), sl 8 (I zz)], [.gone, .gone]⟩) (wr (x8 + 1)) h (by kernel_rfl)
 replace h := h.2 hb
 refine En.exit rfl ?_
 refine En.seq ?_
 refine En.region ?_
 refine WL.run ht hn 1 ⟨[sl 4 (B true)], [.gone, .gone]⟩ (by kernel_rfl) ?_
 refine WL.nil ?_
 refine En.ret ?_
 exact En.back ht true h (by kernel_rfl) rfl
theorem clsTwo {r : List Int} (h : StableC (ApiGraph.mk 1 2 [ApiArrow.mk 0 0 1, ApiArrow.mk 1 0 0]) r) : r.length = 2 ∧ r.getD 0 0 = r.getD 1 0 := by
 refine ⟨h.len, h.coarse (fun p q => p < 2 ∧ q < 2) (fun p q hpq => ⟨⟨hpq.2, hpq.1⟩, fun x hx e => ?_⟩) 0 1 (by decide) (by decide) (by decide)⟩
 have hq : q = 0 ∨ q = 1 := by omega
 rcases hq with rfl | rfl
 ·refine ⟨ApiArrow.mk 0 0 1, by simp, rfl, ?_, ?_⟩
  all_goals
   simp only [List.mem_cons, List.not_mem_nil, or_false] at hx
   rcases hx with rfl | rfl <;> simp
 ·refine ⟨ApiArrow.mk 1 0 0, by simp, rfl, ?_, ?_⟩
  all_goals
   simp only [List.mem_cons, List.not_mem_nil, or_false] at hx
   rcases hx with rfl | rfl <;> simp
section
variable {g : ApiGraph} {cl : List Int}
def SameOn (g : ApiGraph) (cl : List Int) (a : List Bool) : Prop := ∀ p q : Int, 0 ≤ p → p < g.fPlaces → 0 ≤ q → q < g.fPlaces → cl.getD p.toNat 0 = cl.getD q.toNat 0 → onF a p = onF a q
theorem same_all (v : Bool) : SameOn g cl (allF g.fPlaces v) := fun p q p0 p1 q0 q1 _ => by rw [onF_all p0 p1, onF_all q0 q1]
theorem same_arr (hg : ToOk g) (hc : StableC g cl) {c : Int} {v : Bool} {a : List Bool} (h : SameOn g cl a) {p q : Int} (p0 : 0 ≤ p) (p1 : p < g.fPlaces) (q0 : 0 ≤ q) (q1 : q < g.fPlaces) (e : cl.getD p.toNat 0 = cl.getD q.toNat 0) (ha : arrB g c v p a = true) : arrB g c v q a = true := by
 obtain ⟨_, h1, _⟩ := StepS.iff.1 (hc.same p.toNat q.toNat (by omega) (by omega) e)
 rw [show ((p.toNat : Nat) : Int) = p by omega, show ((q.toNat : Nat) : Int) = q by omega] at h1
 unfold arrB at ha ⊢
 rw [List.any_eq_true] at ha ⊢
 obtain ⟨x, hx, ha⟩ := ha
 simp only [Bool.and_eq_true, beq_iff_eq] at ha
 obtain ⟨y, hy, y1, y2, y3⟩ := ansB_iff.1 h1 x hx ha.1.1
 have tx := hg x hx
 have ty := hg y hy
 refine ⟨y, hy, ?_⟩
 simp only [Bool.and_eq_true, beq_iff_eq]
 exact ⟨⟨y1, y2.trans ha.1.2⟩, (h _ _ tx.1 tx.2 ty.1 ty.2 (alikeC_iff.1 y3)).symm.trans ha.2⟩
theorem same_way (hg : ToOk g) (hc : StableC g cl) {sg c : Int} {a : List Bool} (h : SameOn g cl a) : SameOn g cl (wayF g sg c a) := fun p q p0 p1 q0 q1 e => by
 have key : ∀ v, arrB g c v p a = arrB g c v q a := fun v => by
  have h1 := @same_arr g cl hg hc c v a h p q p0 p1 q0 q1 e
  have h2 := @same_arr g cl hg hc c v a h q p q0 q1 p0 p1 e.symm
  revert h1 h2
  cases arrB g c v p a <;> cases arrB g c v q a <;> simp
 unfold wayF
 rw [onF_each p0 p1, onF_each q0 q1, key true, key false]
theorem sem_same (hg : ToOk g) (hc : StableC g cl) : ∀ {k : Nat} {fl : List Bool} {t : FTr} {S : List (List Bool)}, WfF k fl t → SOk g fl S → (∀ s ∈ S, SameOn g cl s) → SameOn g cl (semF g k t S)
 | 0, _, _, _, h, _, _ => h.elim
 | k + 1, fl, .node ⟨sg, n⟩ kids, S, h, hS, hs => by
  rcases h with ⟨h | h, _⟩ | ⟨h, _, j, h2, h3⟩ | ⟨h, x, e, hx⟩ | ⟨h, b, x, e, hx⟩ | ⟨h, b, b2, x, e, hx⟩ | ⟨h | h, x, y, e, hx, hy⟩
  ·cases h
   exact same_all _
  ·cases h
   exact same_all _
  ·cases h
   have h2 : n = j := h2
   subst h2
   have hj : j < S.length := by
    rw [hS.1]
    exact (List.getElem?_eq_some_iff.1 h3).1
   show SameOn g cl (S.getD (j : Int).toNat [])
   rw [Int.toNat_natCast, List.getD_eq_getElem?_getD, List.getElem?_eq_getElem hj]
   exact hs _ (List.getElem_mem hj)
  ·have h : sg = 33 := h
   subst h
   subst e
   have i1 := sem_same hg hc hx hS.not hs
   intro p q p0 p1 q0 q1 e
   rw [show semF g (k + 1) (.node ⟨33, n⟩ [x] : FTr) S = eachF g.fPlaces fun p => !(onF (semF g k x S) p) from rfl, onF_each p0 p1, onF_each q0 q1, i1 p q p0 p1 q0 q1 e]
  ·subst e
   show SameOn g cl (semF g (k + 1) (fn sg n [x]) S)
   rw [sem_way h]
   exact same_way hg hc (sem_same hg hc hx hS hs)
  ·subst e
   show SameOn g cl (semF g (k + 1) (fn sg n [x]) S)
   rw [sem_lp h]
   generalize g.fPlaces.toNat = m
   induction m with
   | zero => exact same_all _
   | succ m ih =>
    refine sem_same hg hc hx (hS.add (itF_len (f := fun o => semF g k x (S ++ [o])) (fun o ho => sem_len hx (hS.add ho false)) (allF_len g.fPlaces (decide (sg = 110))) m) false) (fun s hs2 => ?_)
    rcases List.mem_append.1 hs2 with h2 | h2
    ·exact hs s h2
    ·rw [List.mem_singleton] at h2
     rw [h2]
     exact ih
  ·have h : sg = 38 := h
   subst h
   subst e
   have i1 := sem_same hg hc hx hS hs
   have i2 := sem_same hg hc hy hS hs
   intro p q p0 p1 q0 q1 e
   rw [show semF g (k + 1) (.node ⟨38, n⟩ [x, y]) S = eachF g.fPlaces fun p => onF (semF g k x S) p && onF (semF g k y S) p from rfl, onF_each p0 p1, onF_each q0 q1, i1 p q p0 p1 q0 q1 e, i2 p q p0 p1 q0 q1 e]
  ·have h : sg = 124 := h
   subst h
   subst e
   have i1 := sem_same hg hc hx hS hs
   have i2 := sem_same hg hc hy hS hs
   intro p q p0 p1 q0 q1 e
   rw [show semF g (k + 1) (.node ⟨124, n⟩ [x, y]) S = eachF g.fPlaces fun p => onF (semF g k x S) p || onF (semF g k y S) p from rfl, onF_each p0 p1, onF_each q0 q1, i1 p q p0 p1 q0 q1 e, i2 p q p0 p1 q0 q1 e]
end
theorem holdsF_at {g : ApiGraph} {c : ByteArray} (h : (HoldsF g c).2 = 0) : samErr g = 0 ∧ ∃ t, fullF c = some t ∧ (HoldsF g c).1 = semF g 30 t [] := by
 unfold HoldsF at h ⊢
 by_cases hs : samErr g ≠ 0
 ·rw [if_pos hs] at h
  exact absurd h hs
 ·rw [if_neg hs] at h ⊢
  cases hf : fullF c with
  | none =>
   rw [hf] at h
   cases h
  | some t => exact ⟨Decidable.not_not.1 hs, t, rfl, rfl⟩
theorem topSame_ct (g : ApiGraph) (s : ByteArray)  : Ct 5 [.sv (.agg [I g.fLetters, I g.fPlaces, LS ApiArrow.ty g.fArrows]), .sv (.one (.v (.string s)))] [] (fun (_ : Unit) => True) (fun _ => .sv (.one (B (true)))) := by
 refine (topSame_walk g s (fun res_ => res_ = (true)) ?_).fun
 unfold topSame_vc
 intro _ r hr
 have he : samErr (ApiGraph.mk 1 2 [ApiArrow.mk 0 0 1, ApiArrow.mk 1 0 0]) = 0 := by decide
 obtain ⟨c1, c2⟩ := clsTwo (hr.2 he)
 have c3 : r.2 = 0 := hr.1.trans he
 refine ⟨fun b => b = false, ⟨fun h => ?_, fun _ => ⟨fun h => ?_, fun _ => ⟨_, idx_getS (s := 0) 0 (by omega), _, idx_getS (s := 1) 0 (by omega), by rw [c2]; exact bne_self_eq_false _⟩⟩⟩, ?_⟩
 ·rw [c3] at h; cases h
 ·rw [c1] at h; cases h
 rintro b rfl
 refine ⟨fun h => (by cases h), fun _ r2 h2 => ⟨fun _ => rfl, fun h0 => ⟨fun _ => rfl, fun h1 => ?_⟩⟩⟩
 have h0 : r2.2 = 0 := by simpa using h0
 have h1 : (HoldsF g s).2 = 0 := by simpa using h1
 obtain ⟨hs, t, ht, hv⟩ := holdsF_at h1
 have hg := samErr_ok hs
 have hpl := hg.pl
 have hC := h2.2 hs
 have hcl := hC.len
 have hw := (fullF_some ht).2.1
 have hS : SOk g [] [] := ⟨rfl, fun s hs => by cases hs⟩
 have hsm := sem_same (ways_ok hg) hC hw hS (fun s hs => by cases hs)
 have hsl := sem_len hw hS
 rw [hv]
 generalize semF g 30 t [] = a at hsm hsl ⊢
 refine ⟨fun i => ∃ p : Nat, i = p ∧ p ≤ g.fPlaces.toNat, fun i => g.fPlaces.toNat - i.toNat, ⟨0, rfl, Nat.zero_le _⟩, ?_⟩
 rintro i ⟨p, rfl, hp⟩
 refine ⟨fun hb => ?_, fun _ => rfl⟩
 have hlt : p < g.fPlaces.toNat := by rw [← hcl]; exact dlt hb
 refine ⟨fun i => ∃ q : Nat, i = q ∧ q ≤ p, fun i => p - i.toNat, ⟨0, rfl, Nat.zero_le _⟩, ?_⟩
 rintro i ⟨q, rfl, hq⟩
 refine ⟨fun hb2 => ?_, fun _ => ⟨⟨p + 1, wsucc (by omega), hlt⟩, mu_up hlt (by omega)⟩⟩
 have hqt := dlt hb2
 refine ⟨fun b => b = false, ⟨_, idx_getS 0 (by omega), _, idx_getS 0 (by omega), fun h => ⟨_, idx_getS false (by omega), _, idx_getS false (by omega), ?_⟩, fun _ => rfl⟩, ?_⟩
 ·have := hsm p q (by omega) (by omega) (by omega) (by omega) (by simpa using h)
  have this : a.getD p false = a.getD q false := this
  rw [this]
  exact bne_self_eq_false _
 rintro b rfl
 exact ⟨fun h => (by cases h), fun _ => ⟨⟨q + 1, wsucc (by omega), hqt⟩, mu_up hqt (by omega)⟩⟩
end Go.Proofs.Ytiejmeedkhkfgaa

