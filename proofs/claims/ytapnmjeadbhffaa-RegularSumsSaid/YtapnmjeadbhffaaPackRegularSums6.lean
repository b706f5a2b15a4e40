/- Lemmas towards the statement: mirrors of functions, and plain laws. No condition. -/
import Derived.Test.YtapnmjeadbhffaaPackRegularSums5


namespace Go.Proofs.Ytapnmjeadbhffaa
open Go.RowKit Go.MapKept
set_option linter.unusedSimpArgs false
set_option linter.unusedVariables false
set_option maxRecDepth 100000
def rTie_vc (lets : (List Int)) (nxt : (List (List Int))) (la : (List Int)) (fi : (List Int)) (Q : (List Int) × (List (List Int)) → Prop) : Prop :=
 la.length ≤ 9223372036854775807 →
 fi.length ≤ 9223372036854775807 →
 (∃ (Inv : Int → (List (List Int)) → Prop) (mu : Int → (List (List Int)) → Nat), Inv 0 nxt ∧
 ∀ (x10 : Int) (g2 : (List (List Int))) , Inv x10 g2 → (IfP (decide (x10 < (la.length : Int))) (∃ e, idx la x10 = some e ∧
 ∃ e_2, idx g2 e = some e_2 ∧
 ∃ e_3, idx g2 e = some e_3 ∧
 capOk e_2.length (fi : (List Int)).length 8 ∧
 ∃ e_4, idx g2 e = some e_4 ∧
 (Inv (wr (x10 + 1)) (g2.set (e).toNat (e_2 ++ fi)) ∧ mu (wr (x10 + 1)) (g2.set (e).toNat (e_2 ++ fi)) < mu x10 g2)) (Q (lets, g2))))
theorem rTie_walk (lets : (List Int)) (nxt : (List (List Int))) (la : (List Int)) (fi : (List Int)) (Q : (List Int) × (List (List Int)) → Prop) (h : rTie_vc lets nxt la fi Q) : CtE 212 [.sv (.one (.ptr 0 0)), .sv (.one (LS intT la)), .sv (.one (LS intT fi))] [.box [.own 1, .gs 2 0] 161 false, rowI 3 intT lets, gridI 23 3 intT nxt] [0] Q (fun (r : (List Int) × (List (List Int))) => .tup []) (fun (r : (List Int) × (List (List Int))) => [.box [.own 1, .gs 2 0] 161 false, rowI 3 intT r.1, gridI 23 3 intT r.2]) := by
 have ht := tab_ok
 refine CtE.body Try.func212 rfl rfl rfl (by kernel_rfl) (by kernel_rfl) (fun c Bk hn => ?_)
 unfold rTie_vc at h
 show En c ⟨[sl 0 (.pptr 0 0 (Bk 0)), sl 1 (LS intT la), sl 2 (LS intT fi)], [.box [.own 1, .gs 2 0] 161 false, rowI 3 intT lets, gridI 23 3 intT nxt]⟩ _
 refine En.lenL 1 (by rfl) (fun hl => ?_)
 replace h := h hl
 clear hl
 refine En.lenL 2 (by rfl) (fun hl => ?_)
 replace h := h hl
 clear hl
 refine En.seq ?_
 refine En.region ?_
 refine WL.run ht hn 3 ⟨[sl 0 (.pptr 0 0 (Bk 0)), sl 2 (LS intT fi), sl 8 (LS intT la), sl 9 (I (la.length : Int)), sl 10 (I 0)], [.box [.own 1, .gs 2 0] 161 false, rowI 3 intT lets, gridI 23 3 intT nxt]⟩ (by kernel_rfl) ?_
 refine WL.nil ?_
 refine En.block ?_
 obtain ⟨Inv, mu, h0, hI⟩ := h
 refine En.loop (σ := Int × (List (List Int))) (fun zz => Inv zz.1 zz.2) (fun zz => mu zz.1 zz.2) (fun zz => ⟨[sl 0 (.pptr 0 0 (Bk 0)), sl 2 (LS intT fi), sl 8 (LS intT la), sl 9 (I (la.length : Int)), sl 10 (I zz.1)], [.box [.own 1, .gs 2 0] 161 false, rowI 3 intT lets, gridI 23 3 intT zz.2]⟩) (0, nxt) h0 (sub_ok (by kernel_rfl)) ?_
 rintro ⟨x10, g2⟩ h
 replace h := hI _ _ h
 show En c ⟨[sl 0 (.pptr 0 0 (Bk 0)), sl 2 (LS intT fi), sl 8 (LS intT la), sl 9 (I (la.length : Int)), sl 10 (I x10)], [.box [.own 1, .gs 2 0] 161 false, rowI 3 intT lets, gridI 23 3 intT g2]⟩ _
 refine En.seq ?_
 refine En.region ?_
 refine WL.run ht hn 1 ⟨[sl 0 (.pptr 0 0 (Bk 0)), sl 2 (LS intT fi), sl 8 (LS intT la), sl 9 (I (la.length : Int)), sl 10 (I x10), sl 11 (B (decide (x10 < (la.length : Int))))], [.box [.own 1, .gs 2 0] 161 false, rowI 3 intT lets, gridI 23 3 intT g2]⟩ (by kernel_rfl) ?_
 refine WL.nil ?_
 refine En.seq ?_
 refine En.cond (b := (decide (x10 < (la.length : Int)))) (by kernel_rfl) (fun hb => ?_) (fun hb => ?_)
 replace h := h.1 hb
 refine En.skip ?_
 refine En.seq ?_
 refine En.block ?_
 refine En.seq ?_
 refine En.region ?_
 obtain ⟨e, he, h⟩ := h
 refine WL.val hn (by rfl) (val_index (T := intT) (l := la) (i := x10) ht rfl (by rfl) (by rfl) (by rfl) (by rfl) (by rfl) (by rfl) he) (by rfl) ?_
 refine WL.val hn (by rfl) (val_load (s := .one (I e)) ht rfl (by rfl) (by rfl) (by rfl) (by rfl) (by rfl)) (by rfl) ?_
 refine WL.run ht hn 1 ⟨[sl 0 (.pptr 0 0 (Bk 0)), sl 2 (LS intT fi), sl 7 (I e), sl 8 (LS intT la), sl 9 (I (la.length : Int)), sl 10 (I x10)], [.box [.own 1, .gs 2 0] 161 false, rowI 3 intT lets, gridI 23 3 intT g2]⟩ (by kernel_rfl) ?_
 refine WL.nil ?_
 obtain ⟨e_2, he_2, h⟩ := h
 refine En.takeGL (T := intT) (L := g2) (l := e_2) (i := 2) (p := (e).toNat) (j := 3) (by rfl) (idx_some he_2).2.2 (by rfl) (by rfl) ?_
 refine En.sub' ⟨[sl 0 (.pptr 0 0 (Bk 0)), sl 2 (LS intT fi), sl 7 (I e), sl 8 (LS intT la), sl 9 (I (la.length : Int)), sl 10 (I x10)], [.box [.own 1, .gs 2 0] 161 false, rowI 3 intT lets, gridH 23 3 intT g2 (e).toNat (some ((e).toNat, 3)), rowI 3 intT e_2]⟩ (by kernel_rfl) ?_
 obtain ⟨e_3, he_3, h⟩ := h
 have hp_2 := h.1
 replace h := h.2
 refine En.regionT ⟨[sl 0 (.pptr 0 0 (Bk 0)), sl 2 (LS intT fi), sl 7 (I e), sl 8 (LS intT la), sl 9 (I (la.length : Int)), sl 10 (I x10)], [.sv (.one (.ptr 0 0)), .sv (.one (.ptr 0 0)), .sv (.one (.ptr 0 1)), .sv (.one (.gs 2 0)), .sv (.one (I e)), .sv (.one (.ptr 0 0)), .sv (.one (.ptr 0 0)), .sv (.one (.ptr 0 1)), .sv (.one (.gs 2 0)), .sv (.one (I e)), .sv (.one (.ge 2 0 (e).toNat 1)), .sv (.one (.own 3)), .sv (.one (LS intT fi)), .sv (.one (.own 4))], [⟨.box [.own 1, .gs 2 0] 161 false, none, none, none⟩, ⟨rowI 3 intT lets, none, none, none⟩, ⟨gridH 23 3 intT g2 (e).toNat (some ((e).toNat, 3)), none, none, none⟩, ⟨rowI 3 intT e_2, none, some 13, none⟩, ⟨rowI 3 intT (e_2 ++ fi), some 13, none, none⟩]⟩ 14 ⟨[sl 0 (.pptr 0 0 (Bk 0)), sl 2 (LS intT fi), sl 8 (LS intT la), sl 9 (I (la.length : Int)), sl 10 (I x10), sl 17 (.gs 2 0), sl 18 (I e), sl 27 (.own 4)], [.box [.own 1, .gs 2 0] 161 false, rowI 3 intT lets, gridH 23 3 intT g2 (e).toNat (some ((e).toNat, 3)), .gone, rowI 3 intT (e_2 ++ fi)]⟩ (by kernel_rfl) hn (by kernel_rfl) (by kernel_rfl) (by kernel_rfl) (by rfl) (by kernel_rfl) ?_ (by kernel_rfl) ?_
 exact ⟨.mt ⟨[sl 0 (.pptr 0 0 (Bk 0))], []⟩ [] none (by kernel_rfl) (by rfl) (mt_ev ht (by kernel_rfl)) rfl rfl rfl rfl,
 .mt ⟨[sl 14 (.ptr 0 0)], []⟩ [] none (by kernel_rfl) (by rfl) (mt_ev ht (by kernel_rfl)) rfl rfl rfl rfl,
 .mt ⟨[sl 15 (.ptr 0 0)], []⟩ [] none (by kernel_rfl) (by rfl) (mt_ev ht (by kernel_rfl)) rfl rfl rfl rfl,
 .mt ⟨[sl 16 (.ptr 0 1)], [.box [.own 1, .gs 2 0] 161 false]⟩ [] none (by kernel_rfl) (by rfl) (mt_ev ht (by kernel_rfl)) rfl rfl rfl rfl,
 .mt ⟨[sl 7 (I e)], []⟩ [] none (by kernel_rfl) (by rfl) (mt_ev ht (by kernel_rfl)) rfl rfl rfl rfl,
 .mt ⟨[sl 0 (.pptr 0 0 (Bk 0))], []⟩ [] none (by kernel_rfl) (by rfl) (mt_ev ht (by kernel_rfl)) rfl rfl rfl rfl,
 .mt ⟨[sl 19 (.ptr 0 0)], []⟩ [] none (by kernel_rfl) (by rfl) (mt_ev ht (by kernel_rfl)) rfl rfl rfl rfl,
 .mt ⟨[sl 20 (.ptr 0 0)], []⟩ [] none (by kernel_rfl) (by rfl) (mt_ev ht (by kernel_rfl)) rfl rfl rfl rfl,
 .mt ⟨[sl 21 (.ptr 0 1)], [.box [.own 1, .gs 2 0] 161 false]⟩ [] none (by kernel_rfl) (by rfl) (mt_ev ht (by kernel_rfl)) rfl rfl rfl rfl,
 .mt ⟨[sl 7 (I e)], []⟩ [] none (by kernel_rfl) (by rfl) (mt_ev ht (by kernel_rfl)) rfl rfl rfl rfl,
 .mt ⟨[sl 22 (.gs 2 0), sl 23 (I e)], [.gone, .gone, gridH 23 3 intT g2 (e).toNat (some ((e).toNat, 3))]⟩ [] none (by kernel_rfl) (by rfl) (mt_val (val_indexGH (T := intT) (L := g2) (k := e) ht rfl (by rfl) (by rfl) (by rfl) (by rfl) (by rfl) (by rfl) (by rfl) ⟨(idx_some he_3).1, (idx_some he_3).2.1⟩)) rfl rfl rfl rfl,
 .mt ⟨[sl 24 (.ge 2 0 (e).toNat 1)], [.gone, .gone, gridH 23 3 intT g2 (e).toNat (some ((e).toNat, 3))]⟩ [] none (by kernel_rfl) (by rfl) (mt_val (val_loadGH (T := intT) (L := g2) (p := (e).toNat) (j := 3) ht rfl (by rfl) (by rfl) (by rfl) (by rfl))) rfl rfl rfl rfl,
 .mt ⟨[sl 2 (LS intT fi)], []⟩ [] none (by kernel_rfl) (by rfl) (mt_ev ht (by kernel_rfl)) rfl rfl rfl rfl,
 .mt ⟨[sl 25 (.own 3), sl 26 (LS intT fi)], [.gone, .gone, .gone, rowI 3 intT e_2]⟩ [3] (some 4) (by kernel_rfl) (by rfl) (mt_append (T := intT) (l := e_2) (es := fi) (p := 4) ht rfl (by rfl) (by rfl) (by rfl) (by rfl) (by decide) (by rfl) (by rfl) (srcLS (T := intT) (es := fi) (fun _ h => by cases h) (by decide) (by rfl)) (by exact hp_2) (by exact hp_2.le (by decide))) rfl rfl rfl rfl,
 trivial⟩
 obtain ⟨e_4, he_4, h⟩ := h
 refine WL.val hn (by rfl) (val_indexGH (T := intT) (L := g2) (k := e) ht rfl (by rfl) (by rfl) (by rfl) (by rfl) (by rfl) (by rfl) (by rfl) ⟨(idx_some he_4).1, (idx_some he_4).2.1⟩) (by rfl) ?_
 refine WL.putGH (T := intT) (L := g2) (l := (e_2 ++ fi)) ht hn (by rfl) rfl (by rfl) (by rfl) (by rfl) (by rfl) (by rfl) (by rfl) (idx_lt he_4) (by rfl) (by rfl) ?_
 refine WL.sub ⟨[sl 0 (.pptr 0 0 (Bk 0)), sl 2 (LS intT fi), sl 8 (LS intT la), sl 9 (I (la.length : Int)), sl 10 (I x10), sl 17 (.gs 2 0), sl 18 (I e)], [.box [.own 1, .gs 2 0] 161 false, rowI 3 intT lets, gridI 23 3 intT (g2.set (e).toNat (e_2 ++ fi)), .gone, .gone]⟩ (by kernel_rfl) ?_
 refine WL.nil ?_
 refine En.region ?_
 refine WL.run ht hn 2 ⟨[sl 0 (.pptr 0 0 (Bk 0)), sl 2 (LS intT fi), sl 8 (LS intT la), sl 9 (I (la.length : Int)), sl 10 (I (wr (x10 + 1)))], [.box [.own 1, .gs 2 0] 161 false, rowI 3 intT lets, gridI 23 3 intT (g2.set (e).toNat (e_2 ++ fi)), .gone, .gone]⟩ (by kernel_rfl) ?_
 refine WL.nil ?_
 exact En.at (I := fun zz => Inv zz.1 zz.2 ∧ mu zz.1 zz.2 < mu x10 g2) (T := fun zz => ⟨[sl 0 (.pptr 0 0 (Bk 0)), sl 2 (LS intT fi), sl 8 (LS intT la), sl 9 (I (la.length : Int)), sl 10 (I zz.1)], [.box [.own 1, .gs 2 0] 161 false, rowI 3 intT lets, gridI 23 3 intT zz.2]⟩) ((wr (x10 + 1)), (g2.set (e).toNat (e_2 ++ fi))) h (by kernel_rfl)
 replace h := h.2 hb
 refine En.exit rfl ?_
 exact En.backE [0] ht (lets, g2) h (by kernel_rfl) (by rfl) rfl
theorem en212 : ∀ args w, (callFunc 212 args).run Try.prog w = .ok (.enter 212 args) w := enters_of Try.func212 (by kernel_rfl) rfl
def tieS : List Int → List Int → List (List Int) → Option (List (List Int))
 | [], _, nxt => some nxt
 | a :: la, fi, nxt => match idx nxt a with
  | none => none
  | some e => if (e.length + fi.length) * 8 ≤ 140737488355328 then tieS la fi (nxt.set a.toNat (e ++ fi)) else none
def tieR (la fi : List Int) (nxt : List (List Int)) : List (List Int) := (tieS la fi nxt).getD nxt
theorem wr_len {n : Nat} (h : n ≤ 9223372036854775807) {i : Nat} (hi : i < n) : wr ((i : Int) + 1) = ((i + 1 : Nat) : Int) := by
 rw [wr_in (by omega) (by omega)]
 rfl
theorem rTie_ct (lets : (List Int)) (nxt : (List (List Int))) (la : (List Int)) (fi : (List Int)) (hp : (tieS la fi nxt).isSome)  : CtE 212 [.sv (.one (.ptr 0 0)), .sv (.one (LS intT la)), .sv (.one (LS intT fi))] [.box [.own 1, .gs 2 0] 161 false, rowI 3 intT lets, gridI 23 3 intT nxt] [0] (fun (_ : Unit) => True) (fun _ => .tup []) (fun _ => [.box [.own 1, .gs 2 0] 161 false, rowI 3 intT (lets), gridI 23 3 intT (tieR la fi nxt)]) := by
 refine (rTie_walk lets nxt la fi (fun res_ => res_ = (lets, tieR la fi nxt)) ?_).imp (fun r hr => ⟨(), trivial, by subst hr; rfl, by subst hr; rfl⟩)
 unfold rTie_vc tieR
 intro hla hfi
 obtain ⟨R, hR⟩ := Option.isSome_iff_exists.1 hp
 rw [hR]
 refine ⟨fun i g => ∃ n : Nat, i = n ∧ n ≤ la.length ∧ tieS (la.drop n) fi g = some R, fun i _ => la.length - i.toNat, ⟨0, rfl, Nat.zero_le _, hR⟩, ?_⟩
 rintro _ g2 ⟨n, rfl, hn, he⟩
 refine ⟨fun hb => ?_, fun hb => ?_⟩
 ·have hlt : n < la.length := by have := of_decide_eq_true hb; omega
  rw [List.drop_eq_getElem_cons hlt, tieS] at he
  split at he
  ·cases he
  rename_i e hix
  split at he
  ·rename_i hc
   have hx : idx la (n : Int) = some la[n] := by simp [idx, hlt]
   refine ⟨_, hx, e, hix, e, hix, hc, e, hix, ⟨n + 1, wr_len hla hlt, hlt, he⟩, ?_⟩
   rw [wr_len hla hlt]
   show la.length - (n + 1) < la.length - n
   omega
  ·cases he
 ·have hge : la.length ≤ n := by have := of_decide_eq_false hb; omega
  rw [List.drop_eq_nil_of_le hge, tieS] at he
  cases he
  rfl
def rBhd_vc (lets : (List Int)) (nxt : (List (List Int))) (e1 : RegularEnds) (e2 : RegularEnds) (Q : RegularEnds × (List Int) × (List (List Int)) → Prop) : Prop :=
 e1.fFirst.length ≤ 9223372036854775807 →
 e1.fLast.length ≤ 9223372036854775807 →
 e2.fFirst.length ≤ 9223372036854775807 →
 e2.fLast.length ≤ 9223372036854775807 →
 (((tieS e1.fLast e2.fFirst nxt).isSome) ∧
 ∃ J : Bool → Prop, (IfP e1.fEmpty ((e1.fFirst.length * 8 ≤ 140737488355328) ∧
 (e2.fLast.length * 8 ≤ 140737488355328) ∧
 J e2.fEmpty) ((e1.fFirst.length * 8 ≤ 140737488355328) ∧
 (e2.fLast.length * 8 ≤ 140737488355328) ∧
 J false)) ∧
 (∀ (y80 : Bool), J y80 → ∃ J_2 : (List Int) → Prop, (IfP e1.fEmpty (capOk (e1.fFirst).length (e2.fFirst : (List Int)).length 8 ∧
 J_2 ((e1.fFirst) ++ e2.fFirst)) (J_2 (e1.fFirst))) ∧
 (∀ (l6 : (List Int)), J_2 l6 → ∃ J_3 : (List Int) → Prop, (IfP e2.fEmpty (capOk (e2.fLast).length (e1.fLast : (List Int)).length 8 ∧
 J_3 ((e2.fLast) ++ e1.fLast)) (J_3 (e2.fLast))) ∧
 (∀ (l7 : (List Int)), J_3 l7 → Q ((RegularEnds.mk y80 l6 l7), (lets), (tieR e1.fLast e2.fFirst nxt))))))
noncomputable abbrev qrBhd0 (e1 : RegularEnds) (e2 : RegularEnds) (nxt : (List (List Int))) := (tieR e1.fLast e2.fFirst nxt)
noncomputable abbrev qrBhd1 (e1 : RegularEnds) := (RegularEnds.cl e1)
noncomputable abbrev qrBhd2 (e2 : RegularEnds) := (RegularEnds.cl e2)
theorem rBhd_walk (lets : (List Int)) (nxt : (List (List Int))) (e1 : RegularEnds) (e2 : RegularEnds) (Q : RegularEnds × (List Int) × (List (List Int)) → Prop) (h : rBhd_vc lets nxt e1 e2 Q) : CtE 211 [.sv (.one (.ptr 0 0)), .sv (.agg [B e1.fEmpty, LS intT e1.fFirst, LS intT e1.fLast]), .sv (.agg [B e2.fEmpty, LS intT e2.fFirst, LS intT e2.fLast])] [.box [.own 1, .gs 2 0] 161 false, rowI 3 intT lets, gridI 23 3 intT nxt] [0] Q (fun (r : RegularEnds × (List Int) × (List (List Int))) => .sv (.agg [B r.1.fEmpty, LS intT r.1.fFirst, LS intT r.1.fLast])) (fun (r : RegularEnds × (List Int) × (List (List Int))) => [.box [.own 1, .gs 2 0] 161 false, rowI 3 intT r.2.1, gridI 23 3 intT r.2.2]) := by
 have ht := tab_ok
 refine CtE.body Try.func211 rfl rfl rfl (by kernel_rfl) (by kernel_rfl) (fun c Bk hn => ?_)
 unfold rBhd_vc at h
 show En c ⟨[sl 0 (.pptr 0 0 (Bk 0)), (1, .sv (.agg (qrBhd1 e1))), (2, .sv (.agg (qrBhd2 e2)))], [.box [.own 1, .gs 2 0] 161 false, rowI 3 intT lets, gridI 23 3 intT nxt]⟩ _
 refine En.lenA 1 1 (by rfl) (by rfl) (fun hl => ?_)
 replace h := h hl
 clear hl
 refine En.lenA 1 2 (by rfl) (by rfl) (fun hl => ?_)
 replace h := h hl
 clear hl
 refine En.lenA 2 1 (by rfl) (by rfl) (fun hl => ?_)
 replace h := h hl
 clear hl
 refine En.lenA 2 2 (by rfl) (by rfl) (fun hl => ?_)
 replace h := h hl
 clear hl
 refine En.seq ?_
 refine En.region ?_
 refine WL.run ht hn 3 ⟨[sl 0 (.pptr 0 0 (Bk 0)), sl 4 (.ptr 3 0), sl 5 (.ptr 4 0), sl 6 (.ptr 5 0)], [.box [.own 1, .gs 2 0] 161 false, rowI 3 intT lets, gridI 23 3 intT nxt, .box (qrBhd1 e1) 272 false, .box (qrBhd2 e2) 272 false, .box [B false, .v (.slice none 0 0), .v (.slice none 0 0)] 272 false]⟩ (by kernel_rfl) ?_
 refine WL.nil ?_
 refine En.seq ?_
 refine En.region ?_
 refine WL.run ht hn 5 ⟨[sl 0 (.pptr 0 0 (Bk 0)), sl 4 (.ptr 3 0), sl 5 (.ptr 4 0), sl 6 (.ptr 5 0), sl 8 (.ptr 0 0), sl 10 (LS intT e1.fLast), sl 12 (LS intT e2.fFirst)], [.box [.own 1, .gs 2 0] 161 false, rowI 3 intT lets, gridI 23 3 intT nxt, .box (qrBhd1 e1) 272 false, .box (qrBhd2 e2) 272 false, .box [B false, .v (.slice none 0 0), .v (.slice none 0 0)] 272 false]⟩ (by kernel_rfl) ?_
 have hp := h.1
 replace h := h.2
 refine WL.callE (rTie_ct lets nxt e1.fLast e2.fFirst hp) en212 (caps := []) [0, 1, 2] hn (by rfl) rfl (by rfl) (argsAs (by kernel_rfl) (by rfl)) (by kernel_rfl) (by decide) (by rfl) (by rfl) (fun _ _ => ⟨by rfl, _, by rfl, ?_⟩)
 refine WL.nil ?_
 obtain ⟨J, h, hJ⟩ := h
 refine En.seqJ (σ := Bool) (fun zz => J zz) (fun zz => ⟨[sl 0 (.pptr 0 0 (Bk 0)), sl 4 (.ptr 3 0), sl 5 (.ptr 4 0), sl 6 (.ptr 5 0), sl 7 (.ptr 8 0)], [.box [.own 1, .gs 2 0] 161 false, rowI 3 intT (lets), gridI 23 3 intT (qrBhd0 e1 e2 nxt), .box (qrBhd1 e1) 272 false, .box (qrBhd2 e2) 272 false, .box [B false, .v (.slice none 0 0), .v (.slice none 0 0)] 272 false, rowI 3 intT (e1.fFirst), rowI 3 intT (e2.fLast), .box [B zz, .own 6, .own 7] 272 false]⟩) ?_ ?_
 refine splitB e1.fEmpty (fun hb_2 => ?_) (fun hb_2 => ?_)
 replace h := h.1 hb_2
 have hp_2 := h.1
 replace h := h.2
 have hp_3 := h.1
 replace h := h.2
 refine En.regionA ⟨[sl 0 (.pptr 0 0 (Bk 0)), sl 4 (.ptr 3 0), sl 5 (.ptr 4 0), sl 6 (.ptr 5 0)], [.sv (.one (.ptr 3 0)), .sv (.one (B true)), .sv (.one (B true)), .sv (.one (.ptr 4 0)), .sv (.one (B e2.fEmpty)), .sv (.one (B e2.fEmpty)), .sv (.one (.ptr 3 1)), .sv (.one (LS intT e1.fFirst)), .sv (.one (.own 6)), .sv (.one (.ptr 4 2)), .sv (.one (LS intT e2.fLast)), .sv (.one (.own 7)), .sv (.agg [B e2.fEmpty, .own 6, .own 7]), .sv (.one (.ptr 8 0)), .tup []], [⟨.box [.own 1, .gs 2 0] 161 false, none, none, none⟩, ⟨rowI 3 intT (lets), none, none, none⟩, ⟨gridI 23 3 intT (qrBhd0 e1 e2 nxt), none, none, none⟩, ⟨.box (qrBhd1 e1) 272 false, none, none, none⟩, ⟨.box (qrBhd2 e2) 272 false, none, none, none⟩, ⟨.box [B false, .v (.slice none 0 0), .v (.slice none 0 0)] 272 false, none, none, none⟩, ⟨rowI 3 intT (e1.fFirst), some 8, none, none⟩, ⟨rowI 3 intT (e2.fLast), some 11, none, none⟩, ⟨.box [B false, .v (.slice none 0 0), .v (.slice none 0 0)] 272 false, some 13, none, some (14, .box [B e2.fEmpty, .own 6, .own 7] 272 false)⟩]⟩ ⟨[sl 0 (.pptr 0 0 (Bk 0)), sl 4 (.ptr 3 0), sl 5 (.ptr 4 0), sl 6 (.ptr 5 0), sl 7 (.ptr 8 0)], [.box [.own 1, .gs 2 0] 161 false, rowI 3 intT (lets), gridI 23 3 intT (qrBhd0 e1 e2 nxt), .box (qrBhd1 e1) 272 false, .box (qrBhd2 e2) 272 false, .box [B false, .v (.slice none 0 0), .v (.slice none 0 0)] 272 false, rowI 3 intT (e1.fFirst), rowI 3 intT (e2.fLast), .box [B e2.fEmpty, .own 6, .own 7] 272 false]⟩ (by kernel_rfl) hn (by kernel_rfl) (by rfl) (by kernel_rfl) ?_ (by kernel_rfl) ?_
 exact ⟨.mt ⟨[sl 4 (.ptr 3 0)], []⟩ [] none (by kernel_rfl) (by rfl) (mt_ev ht (by kernel_rfl)) rfl rfl rfl rfl,
 .mt ⟨[sl 14 (.ptr 3 0)], [.gone, .gone, .gone, .box (qrBhd1 e1) 272 false]⟩ [] none (by kernel_rfl) (by rfl) (mt_castB hb_2 (mt_ev ht (by kernel_rfl))) rfl rfl rfl rfl,
 .mt ⟨[sl 15 (B true)], []⟩ [] none (by kernel_rfl) (by rfl) (mt_ev ht (by kernel_rfl)) rfl rfl rfl rfl,
 .mt ⟨[sl 5 (.ptr 4 0), sl 16 (B true)], []⟩ [] none (by kernel_rfl) (by rfl) (mt_ev ht (by kernel_rfl)) rfl rfl rfl rfl,
 .mt ⟨[sl 16 (B true), sl 17 (.ptr 4 0)], [.gone, .gone, .gone, .gone, .box (qrBhd2 e2) 272 false]⟩ [] none (by kernel_rfl) (by rfl) (mt_ev ht (by kernel_rfl)) rfl rfl rfl rfl,
 .mt ⟨[sl 16 (B true), sl 18 (B e2.fEmpty)], []⟩ [] none (by kernel_rfl) (by rfl) (mt_ev ht (by kernel_rfl)) rfl rfl rfl rfl,
 .mt ⟨[sl 4 (.ptr 3 0)], []⟩ [] none (by kernel_rfl) (by rfl) (mt_ev ht (by kernel_rfl)) rfl rfl rfl rfl,
 .mt ⟨[sl 20 (.ptr 3 1)], [.gone, .gone, .gone, .box (qrBhd1 e1) 272 false]⟩ [] none (by kernel_rfl) (by rfl) (mt_ev ht (by kernel_rfl)) rfl rfl rfl rfl,
 .mt ⟨[sl 21 (LS intT e1.fFirst)], []⟩ [] (some 6) (by kernel_rfl) (by rfl) (mt_callI 6 (cloneInt_ct e1.fFirst hp_2) en49 (caps := []) [] rfl rfl (by rfl) (by kernel_rfl) (by kernel_rfl) (by rfl) (by rfl)) rfl rfl rfl rfl,
 .mt ⟨[sl 5 (.ptr 4 0)], []⟩ [] none (by kernel_rfl) (by rfl) (mt_ev ht (by kernel_rfl)) rfl rfl rfl rfl,
 .mt ⟨[sl 23 (.ptr 4 2)], [.gone, .gone, .gone, .gone, .box (qrBhd2 e2) 272 false]⟩ [] none (by kernel_rfl) (by rfl) (mt_ev ht (by kernel_rfl)) rfl rfl rfl rfl,
 .mt ⟨[sl 24 (LS intT e2.fLast)], []⟩ [] (some 7) (by kernel_rfl) (by rfl) (mt_callI 7 (cloneInt_ct e2.fLast hp_3) en49 (caps := []) [] rfl rfl (by rfl) (by kernel_rfl) (by kernel_rfl) (by rfl) (by rfl)) rfl rfl rfl rfl,
 .mt ⟨[sl 19 (B e2.fEmpty), sl 22 (.own 6), sl 25 (.own 7)], []⟩ [] none (by kernel_rfl) (by rfl) (mt_ev ht (by kernel_rfl)) rfl rfl rfl rfl,
 .mt ⟨[], []⟩ [] (some 8) (by kernel_rfl) (by rfl) (mt_alloc2 8 272 ht rfl (by rfl) (by rfl)) rfl rfl rfl rfl,
 .mu ⟨[sl 7 (.ptr 8 0), (26, .sv (.agg [B e2.fEmpty, .own 6, .own 7]))], [.gone, .gone, .gone, .gone, .gone, .gone, .gone, .gone, .box [B false, .v (.slice none 0 0), .v (.slice none 0 0)] 272 false]⟩ 8 _ _ rfl rfl (by kernel_rfl) (by rfl) (mu_store2 ht rfl (by rfl) (by rfl) (by rfl) (by rfl) (fun h => by cases h) (by rfl) (by rfl)) rfl rfl rfl rfl rfl rfl rfl,
 trivial⟩
 exact En.at (I := fun zz => J zz) (T := fun zz => ⟨[sl 0 (.pptr 0 0 (Bk 0)), sl 4 (.ptr 3 0), sl 5 (.ptr 4 0), sl 6 (.ptr 5 0), sl 7 (.ptr 8 0)], [.box [.own 1, .gs 2 0] 161 false, rowI 3 intT (lets), gridI 23 3 intT (qrBhd0 e1 e2 nxt), .box (qrBhd1 e1) 272 false, .box (qrBhd2 e2) 272 false, .box [B false, .v (.slice none 0 0), .v (.slice none 0 0)] 272 false, rowI 3 intT (e1.fFirst), rowI 3 intT (e2.fLast), .box [B zz, .own 6, .own 7] 272 false]⟩) e2.fEmpty h (by kernel_rfl)
 replace h := h.2 hb_2
 have hp_4 := h.1
 replace h := h.2
 have hp_5 := h.1
 replace h := h.2
 refine En.regionA ⟨[sl 0 (.pptr 0 0 (Bk 0)), sl 4 (.ptr 3 0), sl 5 (.ptr 4 0), sl 6 (.ptr 5 0)], [.sv (.one (.ptr 3 0)), .sv (.one (B false)), .sv (.one (B false)), .tup [], .tup [], .sv (.one (B false)), .sv (.one (.ptr 3 1)), .sv (.one (LS intT e1.fFirst)), .sv (.one (.own 6)), .sv (.one (.ptr 4 2)), .sv (.one (LS intT e2.fLast)), .sv (.one (.own 7)), .sv (.agg [B false, .own 6, .own 7]), .sv (.one (.ptr 8 0)), .tup []], [⟨.box [.own 1, .gs 2 0] 161 false, none, none, none⟩, ⟨rowI 3 intT (lets), none, none, none⟩, ⟨gridI 23 3 intT (qrBhd0 e1 e2 nxt), none, none, none⟩, ⟨.box (qrBhd1 e1) 272 false, none, none, none⟩, ⟨.box (qrBhd2 e2) 272 false, none, none, none⟩, ⟨.box [B false, .v (.slice none 0 0), .v (.slice none 0 0)] 272 false, none, none, none⟩, ⟨rowI 3 intT (e1.fFirst), some 8, none, none⟩, ⟨rowI 3 intT (e2.fLast), some 11, none, none⟩, ⟨.box [B false, .v (.slice none 0 0), .v (.slice none 0 0)] 272 false, some 13, none, some (14, .box [B false, .own 6, .own 7] 272 false)⟩]⟩ ⟨[sl 0 (.pptr 0 0 (Bk 0)), sl 4 (.ptr 3 0), sl 5 (.ptr 4 0), sl 6 (.ptr 5 0), sl 7 (.ptr 8 0)], [.box [.own 1, .gs 2 0] 161 false, rowI 3 intT (lets), gridI 23 3 intT (qrBhd0 e1 e2 nxt), .box (qrBhd1 e1) 272 false, .box (qrBhd2 e2) 272 false, .box [B false, .v (.slice none 0 0), .v (.slice none 0 0)] 272 false, rowI 3 intT (e1.fFirst), rowI 3 intT (e2.fLast), .box [B false, .own 6, .own 7] 272 false]⟩ (by kernel_rfl) hn (by kernel_rfl) (by rfl) (by kernel_rfl) ?_ (by kernel_rfl) ?_
 exact ⟨.mt ⟨[sl 4 (.ptr 3 0)], []⟩ [] none (by kernel_rfl) (by rfl) (mt_ev ht (by kernel_rfl)) rfl rfl rfl rfl,
 .mt ⟨[sl 14 (.ptr 3 0)], [.gone, .gone, .gone, .box (qrBhd1 e1) 272 false]⟩ [] none (by kernel_rfl) (by rfl) (mt_castB hb_2 (mt_ev ht (by kernel_rfl))) rfl rfl rfl rfl,
 .mt ⟨[sl 15 (B false)], []⟩ [] none (by kernel_rfl) (by rfl) (mt_ev ht (by kernel_rfl)) rfl rfl rfl rfl,
 .skip ⟨[sl 16 (B false)], []⟩ (by kernel_rfl) (by rfl) rfl rfl rfl rfl,
 .skip ⟨[sl 16 (B false)], []⟩ (by kernel_rfl) (by rfl) rfl rfl rfl rfl,
 .mt ⟨[sl 16 (B false), (18, .tup [])], []⟩ [] none (by kernel_rfl) (by rfl) (mt_ev ht (by kernel_rfl)) rfl rfl rfl rfl,
 .mt ⟨[sl 4 (.ptr 3 0)], []⟩ [] none (by kernel_rfl) (by rfl) (mt_ev ht (by kernel_rfl)) rfl rfl rfl rfl,
 .mt ⟨[sl 20 (.ptr 3 1)], [.gone, .gone, .gone, .box (qrBhd1 e1) 272 false]⟩ [] none (by kernel_rfl) (by rfl) (mt_ev ht (by kernel_rfl)) rfl rfl rfl rfl,
 .mt ⟨[sl 21 (LS intT e1.fFirst)], []⟩ [] (some 6) (by kernel_rfl) (by rfl) (mt_callI 6 (cloneInt_ct e1.fFirst hp_4) en49 (caps := []) [] rfl rfl (by rfl) (by kernel_rfl) (by kernel_rfl) (by rfl) (by rfl)) rfl rfl rfl rfl,
 .mt ⟨[sl 5 (.ptr 4 0)], []⟩ [] none (by kernel_rfl) (by rfl) (mt_ev ht (by kernel_rfl)) rfl rfl rfl rfl,
 .mt ⟨[sl 23 (.ptr 4 2)], [.gone, .gone, .gone, .gone, .box (qrBhd2 e2) 272 false]⟩ [] none (by kernel_rfl) (by rfl) (mt_ev ht (by kernel_rfl)) rfl rfl rfl rfl,
 .mt ⟨[sl 24 (LS intT e2.fLast)], []⟩ [] (some 7) (by kernel_rfl) (by rfl) (mt_callI 7 (cloneInt_ct e2.fLast hp_5) en49 (caps := []) [] rfl rfl (by rfl) (by kernel_rfl) (by kernel_rfl) (by rfl) (by rfl)) rfl rfl rfl rfl,
 .mt ⟨[sl 19 (B false), sl 22 (.own 6), sl 25 (.own 7)], []⟩ [] none (by kernel_rfl) (by rfl) (mt_ev ht (by kernel_rfl)) rfl rfl rfl rfl,
 .mt ⟨[], []⟩ [] (some 8) (by kernel_rfl) (by rfl) (mt_alloc2 8 272 ht rfl (by rfl) (by rfl)) rfl rfl rfl rfl,
 .mu ⟨[sl 7 (.ptr 8 0), (26, .sv (.agg [B false, .own 6, .own 7]))], [.gone, .gone, .gone, .gone, .gone, .gone, .gone, .gone, .box [B false, .v (.slice none 0 0), .v (.slice none 0 0)] 272 false]⟩ 8 _ _ rfl rfl (by kernel_rfl) (by rfl) (mu_store2 ht rfl (by rfl) (by rfl) (by rfl) (by rfl) (fun h => by cases h) (by rfl) (by rfl)) rfl rfl rfl rfl rfl rfl rfl,
 trivial⟩
 exact En.at (I := fun zz => J zz) (T := fun zz => ⟨[sl 0 (.pptr 0 0 (Bk 0)), sl 4 (.ptr 3 0), sl 5 (.ptr 4 0), sl 6 (.ptr 5 0), sl 7 (.ptr 8 0)], [.box [.own 1, .gs 2 0] 161 false, rowI 3 intT (lets), gridI 23 3 intT (qrBhd0 e1 e2 nxt), .box (qrBhd1 e1) 272 false, .box (qrBhd2 e2) 272 false, .box [B false, .v (.slice none 0 0), .v (.slice none 0 0)] 272 false, rowI 3 intT (e1.fFirst), rowI 3 intT (e2.fLast), .box [B zz, .own 6, .own 7] 272 false]⟩) false h (by kernel_rfl)
 intro y80 h
 replace h := hJ _ h
 show En c ⟨[sl 0 (.pptr 0 0 (Bk 0)), sl 4 (.ptr 3 0), sl 5 (.ptr 4 0), sl 6 (.ptr 5 0), sl 7 (.ptr 8 0)], [.box [.own 1, .gs 2 0] 161 false, rowI 3 intT (lets), gridI 23 3 intT (qrBhd0 e1 e2 nxt), .box (qrBhd1 e1) 272 false, .box (qrBhd2 e2) 272 false, .box [B false, .v (.slice none 0 0), .v (.slice none 0 0)] 272 false, rowI 3 intT (e1.fFirst), rowI 3 intT (e2.fLast), .box [B y80, .own 6, .own 7] 272 false]⟩ _
 obtain ⟨J_2, h, hJ_2⟩ := h
 refine En.seqJ (σ := (List Int)) (fun zz => J_2 zz) (fun zz => ⟨[sl 0 (.pptr 0 0 (Bk 0)), sl 4 (.ptr 3 0), sl 5 (.ptr 4 0), sl 6 (.ptr 5 0), sl 7 (.ptr 8 0)], [.box [.own 1, .gs 2 0] 161 false, rowI 3 intT (lets), gridI 23 3 intT (qrBhd0 e1 e2 nxt), .box (qrBhd1 e1) 272 false, .box (qrBhd2 e2) 272 false, .box [B false, .v (.slice none 0 0), .v (.slice none 0 0)] 272 false, rowI 3 intT zz, rowI 3 intT (e2.fLast), .box [B y80, .own 6, .own 7] 272 false]⟩) ?_ ?_
 refine En.seq ?_
 refine En.region ?_
 refine WL.run ht hn 2 ⟨[sl 0 (.pptr 0 0 (Bk 0)), sl 4 (.ptr 3 0), sl 5 (.ptr 4 0), sl 6 (.ptr 5 0), sl 7 (.ptr 8 0), sl 28 (B e1.fEmpty)], [.box [.own 1, .gs 2 0] 161 false, rowI 3 intT (lets), gridI 23 3 intT (qrBhd0 e1 e2 nxt), .box (qrBhd1 e1) 272 false, .box (qrBhd2 e2) 272 false, .box [B false, .v (.slice none 0 0), .v (.slice none 0 0)] 272 false, rowI 3 intT (e1.fFirst), rowI 3 intT (e2.fLast), .box [B y80, .own 6, .own 7] 272 false]⟩ (by kernel_rfl) ?_
 refine WL.nil ?_
 refine En.cond (b := e1.fEmpty) (by kernel_rfl) (fun hb => ?_) (fun hb => ?_)
 replace h := h.1 hb
 refine En.region ?_
 refine WL.run ht hn 4 ⟨[sl 0 (.pptr 0 0 (Bk 0)), sl 4 (.ptr 3 0), sl 5 (.ptr 4 0), sl 6 (.ptr 5 0), sl 7 (.ptr 8 0), sl 30 (.own 6), sl 32 (LS intT e2.fFirst)], [.box [.own 1, .gs 2 0] 161 false, rowI 3 intT (lets), gridI 23 3 intT (qrBhd0 e1 e2 nxt), .box (qrBhd1 e1) 272 false, .box (qrBhd2 e2) 272 false, .box [B false, .v (.slice none 0 0), .v (.slice none 0 0)] 272 false, rowI 3 intT (e1.fFirst), rowI 3 intT (e2.fLast), .box [B y80, .own 6, .own 7] 272 false]⟩ (by kernel_rfl) ?_
 refine WL.junk 8 1 (by rfl) ?_
 have hp := h.1
 replace h := h.2
 refine WL.mt (S2 := ⟨[sl 0 (.pptr 0 0 (Bk 0)), sl 4 (.ptr 3 0), sl 5 (.ptr 4 0), sl 6 (.ptr 5 0), sl 7 (.ptr 8 0), sl 32 (LS intT e2.fFirst)], [.box [.own 1, .gs 2 0] 161 false, rowI 3 intT (lets), gridI 23 3 intT (qrBhd0 e1 e2 nxt), .box (qrBhd1 e1) 272 false, .box (qrBhd2 e2) 272 false, .box [B false, .v (.slice none 0 0), .v (.slice none 0 0)] 272 false, rowI 3 intT (e1.fFirst), rowI 3 intT (e2.fLast), .box [B y80, .junk, .own 7] 272 false]⟩) (K := [6]) (p := some (6, rowI 3 intT ((e1.fFirst) ++ e2.fFirst))) hn (by rfl) (mt_append (T := intT) (l := (e1.fFirst)) (es := e2.fFirst) ht rfl (by rfl) (by rfl) (by rfl) (by rfl) (by decide) (by rfl) (by rfl) (srcLS (T := intT) (es := e2.fFirst) (fun _ h => by cases h) (by decide) (by rfl)) (by exact hp) (by exact hp.le (by decide))) (by kernel_rfl) (by rfl) (by rfl) (by rfl) ?_
 refine WL.run ht hn 2 ⟨[sl 0 (.pptr 0 0 (Bk 0)), sl 4 (.ptr 3 0), sl 5 (.ptr 4 0), sl 6 (.ptr 5 0), sl 7 (.ptr 8 0)], [.box [.own 1, .gs 2 0] 161 false, rowI 3 intT (lets), gridI 23 3 intT (qrBhd0 e1 e2 nxt), .box (qrBhd1 e1) 272 false, .box (qrBhd2 e2) 272 false, .box [B false, .v (.slice none 0 0), .v (.slice none 0 0)] 272 false, rowI 3 intT ((e1.fFirst) ++ e2.fFirst), rowI 3 intT (e2.fLast), .box [B y80, .own 6, .own 7] 272 false]⟩ (by kernel_rfl) ?_
 refine WL.nil ?_
 exact En.at (I := fun zz => J_2 zz) (T := fun zz => ⟨[sl 0 (.pptr 0 0 (Bk 0)), sl 4 (.ptr 3 0), sl 5 (.ptr 4 0), sl 6 (.ptr 5 0), sl 7 (.ptr 8 0)], [.box [.own 1, .gs 2 0] 161 false, rowI 3 intT (lets), gridI 23 3 intT (qrBhd0 e1 e2 nxt), .box (qrBhd1 e1) 272 false, .box (qrBhd2 e2) 272 false, .box [B false, .v (.slice none 0 0), .v (.slice none 0 0)] 272 false, rowI 3 intT zz, rowI 3 intT (e2.fLast), .box [B y80, .own 6, .own 7] 272 false]⟩) ((e1.fFirst) ++ e2.fFirst) h (by kernel_rfl)
 replace h := h.2 hb
 refine En.skip ?_
 exact En.at (I := fun zz => J_2 zz) (T := fun zz => ⟨[sl 0 (.pptr 0 0 (Bk 0)), sl 4 (.ptr 3 0), sl 5 (.ptr 4 0), sl 6 (.ptr 5 0), sl 7 (.ptr 8 0)], [.box [.own 1, .gs 2 0] 161 false, rowI 3 intT (lets), gridI 23 3 intT (qrBhd0 e1 e2 nxt), .box (qrBhd1 e1) 272 false, .box (qrBhd2 e2) 272 false, .box [B false, .v (.slice none 0 0), .v (.slice none 0 0)] 272 false, rowI 3 intT zz, rowI 3 intT (e2.fLast), .box [B y80, .own 6, .own 7] 272 false]⟩) (e1.fFirst) h (by kernel_rfl)
 intro l6 h
 replace h := hJ_2 _ h
 show En c ⟨[sl 0 (.pptr 0 0 (Bk 0)), sl 4 (.ptr 3 0), sl 5 (.ptr 4 0), sl 6 (.ptr 5 0), sl 7 (.ptr 8 0)], [.box [.own 1, .gs 2 0] 161 false, rowI 3 intT (lets), gridI 23 3 intT (qrBhd0 e1 e2 nxt), .box (qrBhd1 e1) 272 false, .box (qrBhd2 e2) 272 false, .box [B false, .v (.slice none 0 0), .v (.slice none 0 0)] 272 false, rowI 3 intT l6, rowI 3 intT (e2.fLast), .box [B y80, .own 6, .own 7] 272 false]⟩ _
 obtain ⟨J_3, h, hJ_3⟩ := h
 refine En.seqJ (σ := (List Int)) (fun zz => J_3 zz) (fun zz => ⟨[sl 0 (.pptr 0 0 (Bk 0)), sl 6 (.ptr 5 0), sl 7 (.ptr 8 0)], [.box [.own 1, .gs 2 0] 161 false, rowI 3 intT (lets), gridI 23 3 intT (qrBhd0 e1 e2 nxt), .gone, .gone, .box [B false, .v (.slice none 0 0), .v (.slice none 0 0)] 272 false, rowI 3 intT l6, rowI 3 intT zz, .box [B y80, .own 6, .own 7] 272 false]⟩) ?_ ?_
 refine En.seq ?_
 refine En.region ?_
 refine WL.run ht hn 2 ⟨[sl 0 (.pptr 0 0 (Bk 0)), sl 4 (.ptr 3 0), sl 6 (.ptr 5 0), sl 7 (.ptr 8 0), sl 36 (B e2.fEmpty)], [.box [.own 1, .gs 2 0] 161 false, rowI 3 intT (lets), gridI 23 3 intT (qrBhd0 e1 e2 nxt), .box (qrBhd1 e1) 272 false, .gone, .box [B false, .v (.slice none 0 0), .v (.slice none 0 0)] 272 false, rowI 3 intT l6, rowI 3 intT (e2.fLast), .box [B y80, .own 6, .own 7] 272 false]⟩ (by kernel_rfl) ?_
 refine WL.nil ?_
 refine En.cond (b := e2.fEmpty) (by kernel_rfl) (fun hb => ?_) (fun hb => ?_)
 replace h := h.1 hb
 refine En.region ?_
 refine WL.run ht hn 4 ⟨[sl 0 (.pptr 0 0 (Bk 0)), sl 6 (.ptr 5 0), sl 7 (.ptr 8 0), sl 38 (.own 7), sl 40 (LS intT e1.fLast)], [.box [.own 1, .gs 2 0] 161 false, rowI 3 intT (lets), gridI 23 3 intT (qrBhd0 e1 e2 nxt), .gone, .gone, .box [B false, .v (.slice none 0 0), .v (.slice none 0 0)] 272 false, rowI 3 intT l6, rowI 3 intT (e2.fLast), .box [B y80, .own 6, .own 7] 272 false]⟩ (by kernel_rfl) ?_
 refine WL.junk 8 2 (by rfl) ?_
 have hp := h.1
 replace h := h.2
 refine WL.mt (S2 := ⟨[sl 0 (.pptr 0 0 (Bk 0)), sl 6 (.ptr 5 0), sl 7 (.ptr 8 0), sl 40 (LS intT e1.fLast)], [.box [.own 1, .gs 2 0] 161 false, rowI 3 intT (lets), gridI 23 3 intT (qrBhd0 e1 e2 nxt), .gone, .gone, .box [B false, .v (.slice none 0 0), .v (.slice none 0 0)] 272 false, rowI 3 intT l6, rowI 3 intT (e2.fLast), .box [B y80, .own 6, .junk] 272 false]⟩) (K := [7]) (p := some (7, rowI 3 intT ((e2.fLast) ++ e1.fLast))) hn (by rfl) (mt_append (T := intT) (l := (e2.fLast)) (es := e1.fLast) ht rfl (by rfl) (by rfl) (by rfl) (by rfl) (by decide) (by rfl) (by rfl) (srcLS (T := intT) (es := e1.fLast) (fun _ h => by cases h) (by decide) (by rfl)) (by exact hp) (by exact hp.le (by decide))) (by kernel_rfl) (by rfl) (by rfl) (by rfl) ?_
 refine WL.run ht hn 2 ⟨[sl 0 (.pptr 0 0 (Bk 0)), sl 6 (.ptr 5 0), sl 7 (.ptr 8 0)], [.box [.own 1, .gs 2 0] 161 false, rowI 3 intT (lets), gridI 23 3 intT (qrBhd0 e1 e2 nxt), .gone, .gone, .box [B false, .v (.slice none 0 0), .v (.slice none 0 0)] 272 false, rowI 3 intT l6, rowI 3 intT ((e2.fLast) ++ e1.fLast), .box [B y80, .own 6, .own 7] 272 false]⟩ (by kernel_rfl) ?_
 refine WL.nil ?_
 exact En.at (I := fun zz => J_3 zz) (T := fun zz => ⟨[sl 0 (.pptr 0 0 (Bk 0)), sl 6 (.ptr 5 0), sl 7 (.ptr 8 0)], [.box [.own 1, .gs 2 0] 161 false, rowI 3 intT (lets), gridI 23 3 intT (qrBhd0 e1 e2 nxt), .gone, .gone, .box [B false, .v (.slice none 0 0), .v (.slice none 0 0)] 272 false, rowI 3 intT l6, rowI 3 intT zz, .box [B y80, .own 6, .own 7] 272 false]⟩) ((e2.fLast) ++ e1.fLast) h (by kernel_rfl)
 replace h := h.2 hb
 refine En.skip ?_
 exact En.at (I := fun zz => J_3 zz) (T := fun zz => ⟨[sl 0 (.pptr 0 0 (Bk 0)), sl 6 (.ptr 5 0), sl 7 (.ptr 8 0)], [.box [.own 1, .gs 2 0] 161 false, rowI 3 intT (lets), gridI 23 3 intT (qrBhd0 e1 e2 nxt), .gone, .gone, .box [B false, .v (.slice none 0 0), .v (.slice none 0 0)] 272 false, rowI 3 intT l6, rowI 3 intT zz, .box [B y80, .own 6, .own 7] 272 false]⟩) (e2.fLast) h (by kernel_rfl)
 intro l7 h
 replace h := hJ_3 _ h
 show En c ⟨[sl 0 (.pptr 0 0 (Bk 0)), sl 6 (.ptr 5 0), sl 7 (.ptr 8 0)], [.box [.own 1, .gs 2 0] 161 false, rowI 3 intT (lets), gridI 23 3 intT (qrBhd0 e1 e2 nxt), .gone, .gone, .box [B false, .v (.slice none 0 0), .v (.slice none 0 0)] 272 false, rowI 3 intT l6, rowI 3 intT l7, .box [B y80, .own 6, .own 7] 272 false]⟩ _
 refine En.seq ?_
 refine En.region ?_
 refine WL.run ht hn 2 ⟨[sl 0 (.pptr 0 0 (Bk 0)), sl 6 (.ptr 5 0)], [.box [.own 1, .gs 2 0] 161 false, rowI 3 intT (lets), gridI 23 3 intT (qrBhd0 e1 e2 nxt), .gone, .gone, .box [B y80, .own 6, .own 7] 272 false, rowI 3 intT l6, rowI 3 intT l7, .gone]⟩ (by kernel_rfl) ?_
 refine WL.nil ?_
 refine En.ret ?_
 refine En.seal (T := intT) (l := l6) (e := 3) 6 rfl ?_
 refine En.seal (T := intT) (l := l7) (e := 3) 7 rfl ?_
 exact En.backE [0] ht ((RegularEnds.mk y80 l6 l7), (lets), (qrBhd0 e1 e2 nxt)) h (by kernel_rfl) (by rfl) rfl
theorem en211 : ∀ args w, (callFunc 211 args).run Try.prog w = .ok (.enter 211 args) w := enters_of Try.func211 (by kernel_rfl) rfl
def bhdOk (e f : RegularEnds) : Prop := (e.fFirst.length + f.fFirst.length) * 8 ≤ 140737488355328 ∧ (f.fLast.length + e.fLast.length) * 8 ≤ 140737488355328
instance (e f : RegularEnds) : Decidable (bhdOk e f) := by unfold bhdOk; exact inferInstance
def bhdR (e f : RegularEnds) : RegularEnds := ⟨e.fEmpty && f.fEmpty, if e.fEmpty = true then e.fFirst ++ f.fFirst else e.fFirst, if f.fEmpty = true then f.fLast ++ e.fLast else f.fLast⟩
theorem rBhd_ct (lets : (List Int)) (nxt : (List (List Int))) (e1 : RegularEnds) (e2 : RegularEnds) (hp : (tieS e1.fLast e2.fFirst nxt).isSome ∧ bhdOk e1 e2)  : CtE 211 [.sv (.one (.ptr 0 0)), .sv (.agg [B e1.fEmpty, LS intT e1.fFirst, LS intT e1.fLast]), .sv (.agg [B e2.fEmpty, LS intT e2.fFirst, LS intT e2.fLast])] [.box [.own 1, .gs 2 0] 161 false, rowI 3 intT lets, gridI 23 3 intT nxt] [0] (fun (_ : Unit) => True) (fun _ => .sv (.agg [B (bhdR e1 e2).fEmpty, LS intT (bhdR e1 e2).fFirst, LS intT (bhdR e1 e2).fLast])) (fun _ => [.box [.own 1, .gs 2 0] 161 false, rowI 3 intT (lets), gridI 23 3 intT (tieR e1.fLast e2.fFirst nxt)]) := by
 refine (rBhd_walk lets nxt e1 e2 (fun res_ => res_ = (bhdR e1 e2, lets, tieR e1.fLast e2.fFirst nxt)) ?_).imp (fun r hr => ⟨(), trivial, by subst hr; rfl, by subst hr; rfl⟩)
 unfold rBhd_vc
 obtain ⟨k1, k2, k3⟩ := hp
 refine fun _ _ _ _ => ⟨k1, fun b => b = (e1.fEmpty && e2.fEmpty), ⟨fun hb => ⟨by omega, by omega, by rw [hb]; rfl⟩, fun hb => ⟨by omega, by omega, by rw [hb]; rfl⟩⟩, ?_⟩
 rintro _ rfl
 refine ⟨fun l => l = (bhdR e1 e2).fFirst, ⟨fun hb => ⟨k2, by simp only [bhdR, hb, if_pos]⟩, fun hb => by simp only [bhdR, hb]; rfl⟩, ?_⟩
 rintro _ rfl
 refine ⟨fun l => l = (bhdR e1 e2).fLast, ⟨fun hb => ⟨k3, by simp only [bhdR, hb, if_pos]⟩, fun hb => by simp only [bhdR, hb]; rfl⟩, ?_⟩
 rintro _ rfl
 rfl
abbrev LkR := RegularEnds × List Int × List (List Int)
def eithL (f : RTr → List Int → List (List Int) → Option LkR) : List RTr → RegularEnds → List Int → List (List Int) → Option LkR
 | [], e, lets, nxt => some (e, lets, nxt)
 | x :: xs, e, lets, nxt => match f x lets nxt with
  | none => none
  | some r => if (e.fFirst.length + r.1.fFirst.length) * 8 ≤ 140737488355328 ∧ (e.fLast.length + r.1.fLast.length) * 8 ≤ 140737488355328 then eithL f xs ⟨e.fEmpty || r.1.fEmpty, e.fFirst ++ r.1.fFirst, e.fLast ++ r.1.fLast⟩ r.2.1 r.2.2 else none
def rowK (f : RTr → List Int → List (List Int) → Option LkR) : List RTr → RegularEnds → List Int → List (List Int) → Option LkR
 | [], e, lets, nxt => some (e, lets, nxt)
 | x :: xs, e, lets, nxt => match f x lets nxt with
  | none => none
  | some r => match tieS e.fLast r.1.fFirst r.2.2 with
   | none => none
   | some n => if bhdOk e r.1 then rowK f xs (bhdR e r.1) r.2.1 n else none
def lookS : Nat → RTr → List Int → List (List Int) → Option LkR
 | 0, _, _, _ => none
 | k + 1, .node a kids, lets, nxt =>
  if 1048576 < kids.length then none
  else if a.fKind = 0 then some (⟨false, [], []⟩, lets, nxt)
  else if a.fKind = 1 then some (⟨true, [], []⟩, lets, nxt)
  else if a.fKind = 2 then if (lets.length + 1) * 8 ≤ 140737488355328 ∧ (nxt.length + 1) * 24 ≤ 140737488355328 then some (⟨false, [(lets.length : Int)], [(lets.length : Int)]⟩, lets ++ [a.fLetter], nxt ++ [[]]) else none
  else if a.fKind = 3 then eithL (lookS k) kids ⟨false, [], []⟩ lets nxt
  else match kids with
   | [] => none
   | x :: xs => match lookS k x lets nxt with
    | none => none
    | some r => if a.fKind = 4 then rowK (lookS k) xs r.1 r.2.1 r.2.2
     else match tieS r.1.fLast r.1.fFirst r.2.2 with
      | none => none
      | some n => some (⟨true, r.1.fFirst, r.1.fLast⟩, r.2.1, n)
def lookR (k : Nat) (x : RTr) (lets : List Int) (nxt : List (List Int)) : LkR := (lookS k x lets nxt).getD default
theorem en158 : ∀ args w, (callFunc 158 args).run Try.prog w = .ok (.enter 158 args) w := enters_of Try.func158 (by kernel_rfl) rfl
def LC (k : Nat) : Prop := ∀ (x : RTr) (lets : List Int) (nxt : List (List Int)), (lookS k x lets nxt).isSome → CtE 158 [.sv (.one (.ptr 0 0)), .sv (.one (.rd (trR rLab x)))] [.box [.own 1, .gs 2 0] 161 false, rowI 3 intT lets, gridI 23 3 intT nxt] [0] (fun (_ : Unit) => True) (fun _ => .sv (.agg [B (lookR k x lets nxt).1.fEmpty, LS intT (lookR k x lets nxt).1.fFirst, LS intT (lookR k x lets nxt).1.fLast])) (fun _ => [.box [.own 1, .gs 2 0] 161 false, rowI 3 intT (lookR k x lets nxt).2.1, gridI 23 3 intT (lookR k x lets nxt).2.2])
theorem lkI (k : Nat) (ih : LC k) (x : RTr) (lets : List Int) (nxt : List (List Int)) (hp : (lookS k x lets nxt).isSome) : CtE 158 [.sv (.one (.ptr 0 0)), .sv (.one (.rd (trR rLab x)))] [.box [.own 1, .gs 2 0] 161 false, rowI 3 intT lets, gridI 23 3 intT nxt] [0] (fun (_ : Unit) => True) (fun _ => .sv (.agg [B (lookR k x lets nxt).1.fEmpty, LS intT (lookR k x lets nxt).1.fFirst, LS intT (lookR k x lets nxt).1.fLast])) (fun _ => [.box [.own 1, .gs 2 0] 161 false, rowI 3 intT (lookR k x lets nxt).2.1, gridI 23 3 intT (lookR k x lets nxt).2.2]) := ih x lets nxt hp
def rLook_vc (k : Nat) (lets : (List Int)) (nxt : (List (List Int))) (x : RTr) (Q : RegularEnds × (List Int) × (List (List Int)) → Prop) : Prop :=
 IfP (x.lab.fKind == 0) (Q ((RegularEnds.mk false [] []), lets, nxt)) (IfP (x.lab.fKind == 1) (Q ((RegularEnds.mk true [] []), lets, nxt)) (IfP (x.lab.fKind == 2) (capOk lets.length (([x.lab.fLetter] : (List Int)) : (List Int)).length 8 ∧
 capOk nxt.length 1 24 ∧
 Q ((RegularEnds.mk false ([(wr (((lets ++ ([x.lab.fLetter] : (List Int))).length : Int) - 1))] : (List Int)) ([(wr (((lets ++ ([x.lab.fLetter] : (List Int))).length : Int) - 1))] : (List Int))), (lets ++ ([x.lab.fLetter] : (List Int))), (nxt ++ List.replicate 1 []))) (IfP (x.lab.fKind == 3) (∃ (Inv : Int → (List Int) → (List (List Int)) → Bool → (List Int) → (List Int) → Prop) (mu : Int → (List Int) → (List (List Int)) → Bool → (List Int) → (List Int) → Nat), Inv 0 lets nxt false ([] : (List Int)) ([] : (List Int)) ∧
 ∀ (x65 : Int) (l1 : (List Int)) (g2 : (List (List Int))) (y40 : Bool) (l6 : (List Int)) (l7 : (List Int)) , Inv x65 l1 g2 y40 l6 l7 → (IfP (decide (x65 < (x.kids.length : Int))) (∃ e, idx x.kids x65 = some e ∧
 ((lookS k e l1 g2).isSome) ∧
 ∃ J : Bool → Prop, (IfP y40 (J true) (J ((lookR k e l1 g2).1).fEmpty)) ∧
 (∀ (y40_2 : Bool), J y40_2 → capOk l6.length (((lookR k e l1 g2).1).fFirst : (List Int)).length 8 ∧
 capOk l7.length (((lookR k e l1 g2).1).fLast : (List Int)).length 8 ∧
 (Inv (wr (x65 + 1)) ((lookR k e l1 g2).2.1) ((lookR k e l1 g2).2.2) y40_2 (l6 ++ ((lookR k e l1 g2).1).fFirst) (l7 ++ ((lookR k e l1 g2).1).fLast) ∧ mu (wr (x65 + 1)) ((lookR k e l1 g2).2.1) ((lookR k e l1 g2).2.2) y40_2 (l6 ++ ((lookR k e l1 g2).1).fFirst) (l7 ++ ((lookR k e l1 g2).1).fLast) < mu x65 l1 g2 y40 l6 l7))) (Q ((RegularEnds.mk y40 l6 l7), l1, g2)))) (IfP (x.lab.fKind == 4) (∃ e_2, idx x.kids 0 = some e_2 ∧
 ((lookS k e_2 lets nxt).isSome) ∧
 partOk 1 (x.kids.length : Int) x.kids.length ∧
 ∃ (Inv_2 : Int → (List Int) → (List (List Int)) → RegularEnds → Prop) (mu_2 : Int → (List Int) → (List (List Int)) → RegularEnds → Nat), Inv_2 0 ((lookR k e_2 lets nxt).2.1) ((lookR k e_2 lets nxt).2.2) ((lookR k e_2 lets nxt).1) ∧
 ∀ (x109 : Int) (l1_2 : (List Int)) (g2_2 : (List (List Int))) (y4 : RegularEnds) , Inv_2 x109 l1_2 g2_2 y4 → (IfP (decide (x109 < (((x.kids.take ((x.kids.length : Int) : Int).toNat).drop (1 : Int).toNat).length : Int))) (∃ e_3, idx ((x.kids.take ((x.kids.length : Int) : Int).toNat).drop (1 : Int).toNat) x109 = some e_3 ∧
 ((lookS k e_3 l1_2 g2_2).isSome) ∧
 ((tieS y4.fLast ((lookR k e_3 l1_2 g2_2).1).fFirst ((lookR k e_3 l1_2 g2_2).2.2)).isSome ∧ bhdOk y4 ((lookR k e_3 l1_2 g2_2).1)) ∧
 (Inv_2 (wr (x109 + 1)) (((lookR k e_3 l1_2 g2_2).2.1)) (tieR y4.fLast ((lookR k e_3 l1_2 g2_2).1).fFirst ((lookR k e_3 l1_2 g2_2).2.2)) (bhdR y4 ((lookR k e_3 l1_2 g2_2).1)) ∧ mu_2 (wr (x109 + 1)) (((lookR k e_3 l1_2 g2_2).2.1)) (tieR y4.fLast ((lookR k e_3 l1_2 g2_2).1).fFirst ((lookR k e_3 l1_2 g2_2).2.2)) (bhdR y4 ((lookR k e_3 l1_2 g2_2).1)) < mu_2 x109 l1_2 g2_2 y4)) (Q (y4, l1_2, g2_2)))) (∃ e_4, idx x.kids 0 = some e_4 ∧
 ((lookS k e_4 lets nxt).isSome) ∧
 ((tieS ((lookR k e_4 lets nxt).1).fLast ((lookR k e_4 lets nxt).1).fFirst ((lookR k e_4 lets nxt).2.2)).isSome) ∧
 Q ((RegularEnds.mk true ((lookR k e_4 lets nxt).1).fFirst ((lookR k e_4 lets nxt).1).fLast), (((lookR k e_4 lets nxt).2.1)), (tieR ((lookR k e_4 lets nxt).1).fLast ((lookR k e_4 lets nxt).1).fFirst ((lookR k e_4 lets nxt).2.2))))))))
noncomputable abbrev qrLook0 (x : RTr) := (I (((x.kids.take ((x.kids.length : Int) : Int).toNat).drop (1 : Int).toNat).length : Int))
noncomputable abbrev qrLook1 (x : RTr) := (LS (TT rLab) ((x.kids.take ((x.kids.length : Int) : Int).toNat).drop (1 : Int).toNat))
noncomputable abbrev qrLook2 (lets : (List Int)) (x : RTr) := (wr (((lets ++ ([x.lab.fLetter] : (List Int))).length : Int) - 1))
noncomputable abbrev qrLook3 (x : RTr) := (LS (TT rLab) x.kids)
noncomputable abbrev qrLook4 (x : RTr) := (I (x.kids.length : Int))
set_option maxHeartbeats 2000000 in
theorem rLook_walk (k : Nat) (lets : (List Int)) (nxt : (List (List Int))) (x : RTr) (ih : LC k) (Q : RegularEnds × (List Int) × (List (List Int)) → Prop) (h : rLook_vc k lets nxt x Q) : CtE 158 [.sv (.one (.ptr 0 0)), .sv (.one (.rd (trR rLab x)))] [.box [.own 1, .gs 2 0] 161 false, rowI 3 intT lets, gridI 23 3 intT nxt] [0] Q (fun (r : RegularEnds × (List Int) × (List (List Int))) => .sv (.agg [B r.1.fEmpty, LS intT r.1.fFirst, LS intT r.1.fLast])) (fun (r : RegularEnds × (List Int) × (List (List Int))) => [.box [.own 1, .gs 2 0] 161 false, rowI 3 intT r.2.1, gridI 23 3 intT r.2.2]) := by
 have ht := tab_ok
 refine CtE.body Try.func158 rfl rfl rfl (by kernel_rfl) (by kernel_rfl) (fun c Bk hn => ?_)
 unfold rLook_vc at h
 show En c ⟨[sl 0 (.pptr 0 0 (Bk 0)), sl 1 (.rd (trR rLab x))], [.box [.own 1, .gs 2 0] 161 false, rowI 3 intT lets, gridI 23 3 intT nxt]⟩ _
 refine En.seq ?_
 refine En.region ?_
 refine WL.run ht hn 1 ⟨[sl 0 (.pptr 0 0 (Bk 0)), sl 1 (.rd (trR rLab x)), sl 4 (.ptr 3 0)], [.box [.own 1, .gs 2 0] 161 false, rowI 3 intT lets, gridI 23 3 intT nxt, .box [B false, .v (.slice none 0 0), .v (.slice none 0 0)] 272 false]⟩ (by kernel_rfl) ?_
 refine WL.nil ?_
 refine En.seq ?_
 refine En.seq ?_
 refine En.region ?_
 refine WL.run ht hn 1 ⟨[sl 0 (.pptr 0 0 (Bk 0)), sl 1 (.rd (trR rLab x)), sl 4 (.ptr 3 0), sl 14 (.rd (trR rLab x))], [.box [.own 1, .gs 2 0] 161 false, rowI 3 intT lets, gridI 23 3 intT nxt, .box [B false, .v (.slice none 0 0), .v (.slice none 0 0)] 272 false]⟩ (by kernel_rfl) ?_
 refine WL.val hn (by rfl) (val_node (s := .agg [I x.lab.fKind, I x.lab.fLetter, LS (TT rLab) x.kids]) (t := x) (lab := rLab) rLabH rfl (by rfl) rfl rfl) (by rfl) ?_
 refine WL.val hn (by rfl) (val_field (l := [I x.lab.fKind, I x.lab.fLetter, LS (TT rLab) x.kids]) (r := .one (I x.lab.fKind)) ht rfl (by rfl) (by rfl) (by rfl) (by rfl) (by rfl) (by rfl)) (by rfl) ?_
 refine WL.val hn (by rfl) (val_load (s := .one (I x.lab.fKind)) ht rfl (by rfl) (by rfl) (by rfl) (by rfl) (by rfl)) (by rfl) ?_
 refine WL.nil ?_
 refine En.block ?_
 refine En.seq ?_
 refine En.region ?_
 refine WL.run ht hn 2 ⟨[sl 0 (.pptr 0 0 (Bk 0)), sl 1 (.rd (trR rLab x)), sl 4 (.ptr 3 0), sl 17 (I x.lab.fKind), sl 18 (B (x.lab.fKind == 0))], [.box [.own 1, .gs 2 0] 161 false, rowI 3 intT lets, gridI 23 3 intT nxt, .box [B false, .v (.slice none 0 0), .v (.slice none 0 0)] 272 false]⟩ (by kernel_rfl) ?_
 refine WL.nil ?_
 refine En.cond (b := (x.lab.fKind == 0)) (by kernel_rfl) (fun hb => ?_) (fun hb => ?_)
 replace h := h.1 hb
 refine En.seq ?_
 refine En.region ?_
 refine WL.run ht hn 2 ⟨[sl 0 (.pptr 0 0 (Bk 0)), sl 4 (.ptr 3 0)], [.box [.own 1, .gs 2 0] 161 false, rowI 3 intT lets, gridI 23 3 intT nxt, .box [B false, .v (.slice none 0 0), .v (.slice none 0 0)] 272 false]⟩ (by kernel_rfl) ?_
 refine WL.nil ?_
 refine En.ret ?_
 refine En.nilBox (T := intT) 3 1 (by rfl) (by rfl) ?_
 refine En.nilBox (T := intT) 3 2 (by rfl) (by rfl) ?_
 exact En.backE [0] ht ((RegularEnds.mk false [] []), lets, nxt) h (by kernel_rfl) (by rfl) rfl
 replace h := h.2 hb
 refine En.seq ?_
 refine En.region ?_
 refine WL.run ht hn 2 ⟨[sl 0 (.pptr 0 0 (Bk 0)), sl 1 (.rd (trR rLab x)), sl 4 (.ptr 3 0), sl 17 (I x.lab.fKind), sl 21 (B (x.lab.fKind == 1))], [.box [.own 1, .gs 2 0] 161 false, rowI 3 intT lets, gridI 23 3 intT nxt, .box [B false, .v (.slice none 0 0), .v (.slice none 0 0)] 272 false]⟩ (by kernel_rfl) ?_
 refine WL.nil ?_
 refine En.cond (b := (x.lab.fKind == 1)) (by kernel_rfl) (fun hb => ?_) (fun hb => ?_)
 replace h := h.1 hb
 refine En.seq ?_
 refine En.region ?_
 refine WL.run ht hn 2 ⟨[sl 0 (.pptr 0 0 (Bk 0)), sl 4 (.ptr 3 0)], [.box [.own 1, .gs 2 0] 161 false, rowI 3 intT lets, gridI 23 3 intT nxt, .box [B true, .v (.slice none 0 0), .v (.slice none 0 0)] 272 false]⟩ (by kernel_rfl) ?_
 refine WL.nil ?_
 refine En.ret ?_
 refine En.nilBox (T := intT) 3 1 (by rfl) (by rfl) ?_
 refine En.nilBox (T := intT) 3 2 (by rfl) (by rfl) ?_
 exact En.backE [0] ht ((RegularEnds.mk true [] []), lets, nxt) h (by kernel_rfl) (by rfl) rfl
 replace h := h.2 hb
 refine En.seq ?_
 refine En.region ?_
 refine WL.run ht hn 2 ⟨[sl 0 (.pptr 0 0 (Bk 0)), sl 1 (.rd (trR rLab x)), sl 4 (.ptr 3 0), sl 17 (I x.lab.fKind), sl 24 (B (x.lab.fKind == 2))], [.box [.own 1, .gs 2 0] 161 false, rowI 3 intT lets, gridI 23 3 intT nxt, .box [B false, .v (.slice none 0 0), .v (.slice none 0 0)] 272 false]⟩ (by kernel_rfl) ?_
 refine WL.nil ?_
 refine En.cond (b := (x.lab.fKind == 2)) (by kernel_rfl) (fun hb => ?_) (fun hb => ?_)
 replace h := h.1 hb
 refine En.seq ?_
 have hp_2 := h.1
 replace h := h.2
 refine En.regionA ⟨[sl 0 (.pptr 0 0 (Bk 0)), sl 1 (.rd (trR rLab x)), sl 4 (.ptr 3 0)], [.sv (.one (.ptr 0 0)), .sv (.one (.ptr 0 0)), .sv (.one (.ptr 0 0)), .sv (.one (.ptr 0 0)), .sv (.one (.own 1)), .sv (.one (.rd (trR rLab x))), .sv (.one (.pe (svR (.agg [I x.lab.fKind, I x.lab.fLetter, LS (TT rLab) x.kids])) 3)), .sv (.one (.pe (svR (.one (I x.lab.fLetter))) 1)), .sv (.one (I x.lab.fLetter)), .sv (.one (LS intT ([x.lab.fLetter] : (List Int)))), .sv (.one (.own 4)), .sv (.one (.ptr 0 0)), .sv (.one (.ptr 0 0)), .tup []], [⟨.box [.own 1, .gs 2 0] 161 false, none, none, some (13, .box [.own 4, .gs 2 0] 161 false)⟩, ⟨rowI 3 intT lets, none, some 10, none⟩, ⟨gridI 23 3 intT nxt, none, none, none⟩, ⟨.box [B false, .v (.slice none 0 0), .v (.slice none 0 0)] 272 false, none, none, none⟩, ⟨rowI 3 intT (lets ++ ([x.lab.fLetter] : (List Int))), some 10, none, none⟩]⟩ ⟨[sl 0 (.pptr 0 0 (Bk 0)), sl 4 (.ptr 3 0)], [.box [.own 4, .gs 2 0] 161 false, .gone, gridI 23 3 intT nxt, .box [B false, .v (.slice none 0 0), .v (.slice none 0 0)] 272 false, rowI 3 intT (lets ++ ([x.lab.fLetter] : (List Int)))]⟩ (by kernel_rfl) hn (by kernel_rfl) (by rfl) (by kernel_rfl) ?_ (by kernel_rfl) ?_
 exact ⟨.mt ⟨[sl 0 (.pptr 0 0 (Bk 0))], []⟩ [] none (by kernel_rfl) (by rfl) (mt_ev ht (by kernel_rfl)) rfl rfl rfl rfl,
 .mt ⟨[sl 0 (.pptr 0 0 (Bk 0))], []⟩ [] none (by kernel_rfl) (by rfl) (mt_ev ht (by kernel_rfl)) rfl rfl rfl rfl,
 .mt ⟨[sl 27 (.ptr 0 0)], []⟩ [] none (by kernel_rfl) (by rfl) (mt_ev ht (by kernel_rfl)) rfl rfl rfl rfl,
 .mt ⟨[sl 28 (.ptr 0 0)], []⟩ [] none (by kernel_rfl) (by rfl) (mt_ev ht (by kernel_rfl)) rfl rfl rfl rfl,
 .mt ⟨[sl 29 (.ptr 0 0)], [.box [.own 1, .gs 2 0] 161 false]⟩ [] none (by kernel_rfl) (by rfl) (mt_ev ht (by kernel_rfl)) rfl rfl rfl rfl,
 .mt ⟨[sl 1 (.rd (trR rLab x))], []⟩ [] none (by kernel_rfl) (by rfl) (mt_ev ht (by kernel_rfl)) rfl rfl rfl rfl,
 .mt ⟨[sl 31 (.rd (trR rLab x))], []⟩ [] none (by kernel_rfl) (by rfl) (mt_val (val_node (s := .agg [I x.lab.fKind, I x.lab.fLetter, LS (TT rLab) x.kids]) (t := x) (lab := rLab) rLabH rfl (by rfl) rfl rfl)) rfl rfl rfl rfl,
 .mt ⟨[sl 32 (.pe (svR (.agg [I x.lab.fKind, I x.lab.fLetter, LS (TT rLab) x.kids])) 3)], []⟩ [] none (by kernel_rfl) (by rfl) (mt_val (val_field (l := [I x.lab.fKind, I x.lab.fLetter, LS (TT rLab) x.kids]) (r := .one (I x.lab.fLetter)) ht rfl (by rfl) (by rfl) (by rfl) (by rfl) (by rfl) (by rfl))) rfl rfl rfl rfl,
 .mt ⟨[sl 33 (.pe (svR (.one (I x.lab.fLetter))) 1)], []⟩ [] none (by kernel_rfl) (by rfl) (mt_val (val_load (s := .one (I x.lab.fLetter)) ht rfl (by rfl) (by rfl) (by rfl) (by rfl) (by rfl))) rfl rfl rfl rfl,
 .mt ⟨[sl 34 (I x.lab.fLetter)], []⟩ [] none (by kernel_rfl) (by rfl) (mt_seal (q := 4) (e := 3) (mt_lit (T := intT) ([x.lab.fLetter] : (List Int)) (mt_bsl 4 (r := cellsOf intT ([x.lab.fLetter] : (List Int))) ht rfl (by rfl) (by rfl) (by rfl) (by kernel_rfl) (by rfl)) (fun _ h => by cases h) (fun _ => rfl) (fun _ => rfl) (by rfl) (Nat.le_of_ble_eq_true rfl))) rfl rfl rfl rfl,
 .mt ⟨[sl 30 (.own 1), sl 35 (LS intT ([x.lab.fLetter] : (List Int)))], [.gone, rowI 3 intT lets]⟩ [1] (some 4) (by kernel_rfl) (by rfl) (mt_append (T := intT) (l := lets) (es := ([x.lab.fLetter] : (List Int))) (p := 4) ht rfl (by rfl) (by rfl) (by rfl) (by rfl) (by decide) (by rfl) (by rfl) (srcLS (T := intT) (es := ([x.lab.fLetter] : (List Int))) (fun _ h => by cases h) (by decide) (by rfl)) (by exact hp_2) (by exact hp_2.le (by decide))) rfl rfl rfl rfl,
 .mt ⟨[sl 26 (.ptr 0 0)], []⟩ [] none (by kernel_rfl) (by rfl) (mt_ev ht (by kernel_rfl)) rfl rfl rfl rfl,
 .mt ⟨[sl 37 (.ptr 0 0)], []⟩ [] none (by kernel_rfl) (by rfl) (mt_ev ht (by kernel_rfl)) rfl rfl rfl rfl,
 .mu ⟨[sl 36 (.own 4), sl 38 (.ptr 0 0)], [.box [.own 1, .gs 2 0] 161 false]⟩ 0 _ _ rfl rfl (by kernel_rfl) (by rfl) (mu_store2 ht rfl (by rfl) (by rfl) (by rfl) (by rfl) (fun h => by cases h) (by rfl) (by rfl)) rfl rfl rfl rfl rfl rfl rfl,
 trivial⟩
 refine En.seq ?_
 refine En.region ?_
 refine WL.run ht hn 6 ⟨[sl 0 (.pptr 0 0 (Bk 0)), sl 4 (.ptr 3 0), sl 39 (.ptr 0 0), sl 43 (.gs 2 0), sl 44 (.bsl 5 1)], [.box [.own 4, .gs 2 0] 161 false, .gone, gridI 23 3 intT nxt, .box [B false, .v (.slice none 0 0), .v (.slice none 0 0)] 272 false, rowI 3 intT (lets ++ ([x.lab.fLetter] : (List Int))), .box [.v (.slice none 0 0)] 23 false]⟩ (by kernel_rfl) ?_
 refine WL.junk 0 1 (by rfl) ?_
 have hp := h.1
 replace h := h.2
 refine WL.mt (S2 := ⟨[sl 0 (.pptr 0 0 (Bk 0)), sl 4 (.ptr 3 0), sl 39 (.ptr 0 0), sl 44 (.bsl 5 1)], [.box [.own 4, .junk] 161 false, .gone, gridI 23 3 intT nxt, .box [B false, .v (.slice none 0 0), .v (.slice none 0 0)] 272 false, rowI 3 intT (lets ++ ([x.lab.fLetter] : (List Int))), .box [.v (.slice none 0 0)] 23 false]⟩) (K := [2]) (p := some (2, gridI 23 3 intT (nxt ++ List.replicate 1 []))) hn (by rfl) (mt_appendG (T := intT) (L := nxt) (m := 1) ht rfl (by rfl) (by rfl) (by rfl) (by rfl) (by rfl) (by rfl) (srcBsl (T := nilT) (List.replicate 1 ()) (fun _ h => by cases h) (fun _ => rfl) (fun _ => rfl) (by rfl) (by rfl) (by rfl) (by rfl)) (by exact hp) (by exact hp.le (by decide))) (by kernel_rfl) (by rfl) (by rfl) (by rfl) ?_
 refine WL.run ht hn 3 ⟨[sl 0 (.pptr 0 0 (Bk 0)), sl 4 (.ptr 3 0)], [.box [.own 4, .gs 2 0] 161 false, .gone, gridI 23 3 intT (nxt ++ List.replicate 1 []), .box [B false, .v (.slice none 0 0), .v (.slice none 0 0)] 272 false, rowI 3 intT (lets ++ ([x.lab.fLetter] : (List Int))), .gone]⟩ (by kernel_rfl) ?_
 refine WL.nil ?_
 refine En.seq ?_
 refine En.region ?_
 refine WL.run ht hn 6 ⟨[sl 0 (.pptr 0 0 (Bk 0)), sl 4 (.ptr 3 0), sl 53 (I (qrLook2 lets x))], [.box [.own 4, .gs 2 0] 161 false, .gone, gridI 23 3 intT (nxt ++ List.replicate 1 []), .box [B false, .v (.slice none 0 0), .v (.slice none 0 0)] 272 false, rowI 3 intT (lets ++ ([x.lab.fLetter] : (List Int))), .gone]⟩ (by kernel_rfl) ?_
 refine WL.mt0 (K := []) (p := some (6, rowI 3 intT ([(qrLook2 lets x)] : (List Int)))) hn (by rfl) (mt_lit (T := intT) ([(qrLook2 lets x)] : (List Int)) (mt_bsl 6 (r := cellsOf intT ([(qrLook2 lets x)] : (List Int))) ht rfl (by rfl) (by rfl) (by rfl) (by kernel_rfl) (by rfl)) (fun _ h => by cases h) (fun _ => rfl) (fun _ => rfl) (by rfl) (Nat.le_of_ble_eq_true rfl)) (by rfl) (by rfl) (by rfl) ?_
 refine WL.run ht hn 1 ⟨[sl 0 (.pptr 0 0 (Bk 0)), sl 4 (.ptr 3 0), sl 5 (.own 6)], [.box [.own 4, .gs 2 0] 161 false, .gone, gridI 23 3 intT (nxt ++ List.replicate 1 []), .box [B false, .v (.slice none 0 0), .v (.slice none 0 0)] 272 false, rowI 3 intT (lets ++ ([x.lab.fLetter] : (List Int))), .gone, rowI 3 intT ([(qrLook2 lets x)] : (List Int))]⟩ (by kernel_rfl) ?_
 refine WL.nil ?_
 refine En.seq ?_
 refine En.region ?_
 refine WL.run ht hn 4 ⟨[sl 0 (.pptr 0 0 (Bk 0)), sl 4 (.ptr 3 0)], [.box [.own 4, .gs 2 0] 161 false, .gone, gridI 23 3 intT (nxt ++ List.replicate 1 []), .box [B false, .own 6, .own 6] 272 false, rowI 3 intT (lets ++ ([x.lab.fLetter] : (List Int))), .gone, rowI 3 intT ([(qrLook2 lets x)] : (List Int))]⟩ (by kernel_rfl) ?_
 refine WL.nil ?_
 refine En.ret ?_
 refine En.seal (T := intT) (l := ([(qrLook2 lets x)] : (List Int))) (e := 3) 6 rfl ?_
 refine En.move 4 1 (by rfl) (by rfl) ?_
 exact En.backE [0] ht ((RegularEnds.mk false ([(qrLook2 lets x)] : (List Int)) ([(qrLook2 lets x)] : (List Int))), (lets ++ ([x.lab.fLetter] : (List Int))), (nxt ++ List.replicate 1 [])) h (by kernel_rfl) (by rfl) rfl
 replace h := h.2 hb
 refine En.seq ?_
 refine En.region ?_
 refine WL.run ht hn 2 ⟨[sl 0 (.pptr 0 0 (Bk 0)), sl 1 (.rd (trR rLab x)), sl 4 (.ptr 3 0), sl 17 (I x.lab.fKind), sl 58 (B (x.lab.fKind == 3))], [.box [.own 1, .gs 2 0] 161 false, rowI 3 intT lets, gridI 23 3 intT nxt, .box [B false, .v (.slice none 0 0), .v (.slice none 0 0)] 272 false]⟩ (by kernel_rfl) ?_
 refine WL.nil ?_
 refine En.cond (b := (x.lab.fKind == 3)) (by kernel_rfl) (fun hb => ?_) (fun hb => ?_)
 replace h := h.1 hb
 refine En.seq ?_
 refine En.region ?_
 refine WL.run ht hn 1 ⟨[sl 0 (.pptr 0 0 (Bk 0)), sl 1 (.rd (trR rLab x)), sl 4 (.ptr 3 0), sl 6 (.ptr 4 0)], [.box [.own 1, .gs 2 0] 161 false, rowI 3 intT lets, gridI 23 3 intT nxt, .box [B false, .v (.slice none 0 0), .v (.slice none 0 0)] 272 false, .box [B false, .v (.slice none 0 0), .v (.slice none 0 0)] 272 false]⟩ (by kernel_rfl) ?_
 refine WL.nil ?_
 refine En.seq ?_
 refine En.seq ?_
 refine En.region ?_
 refine WL.run ht hn 1 ⟨[sl 0 (.pptr 0 0 (Bk 0)), sl 4 (.ptr 3 0), sl 6 (.ptr 4 0), sl 60 (.rd (trR rLab x))], [.box [.own 1, .gs 2 0] 161 false, rowI 3 intT lets, gridI 23 3 intT nxt, .box [B false, .v (.slice none 0 0), .v (.slice none 0 0)] 272 false, .box [B false, .v (.slice none 0 0), .v (.slice none 0 0)] 272 false]⟩ (by kernel_rfl) ?_
 refine WL.val hn (by rfl) (val_node (s := .agg [I x.lab.fKind, I x.lab.fLetter, LS (TT rLab) x.kids]) (t := x) (lab := rLab) rLabH rfl (by rfl) rfl rfl) (by rfl) ?_
 refine WL.val hn (by rfl) (val_field (l := [I x.lab.fKind, I x.lab.fLetter, LS (TT rLab) x.kids]) (r := .one (qrLook3 x)) ht rfl (by rfl) (by rfl) (by rfl) (by rfl) (by rfl) (by rfl)) (by rfl) ?_
 refine WL.val hn (by rfl) (val_load (s := .one (qrLook3 x)) ht rfl (by rfl) (by rfl) (by rfl) (by rfl) (by rfl)) (by rfl) ?_
 refine WL.run ht hn 2 ⟨[sl 0 (.pptr 0 0 (Bk 0)), sl 4 (.ptr 3 0), sl 6 (.ptr 4 0), sl 63 (qrLook3 x), sl 64 (qrLook4 x), sl 65 (I 0)], [.box [.own 1, .gs 2 0] 161 false, rowI 3 intT lets, gridI 23 3 intT nxt, .box [B false, .v (.slice none 0 0), .v (.slice none 0 0)] 272 false, .box [B false, .v (.slice none 0 0), .v (.slice none 0 0)] 272 false]⟩ (by kernel_rfl) ?_
 refine WL.nil ?_
 refine En.block ?_
 refine En.nilBoxO (T := intT) 4 1 6 3 (by rfl) (by rfl) (by rfl) (by rfl) ?_
 refine En.nilBoxO (T := intT) 4 2 7 3 (by rfl) (by rfl) (by rfl) (by rfl) ?_
 obtain ⟨Inv, mu, h0, hI⟩ := h
 refine En.loop (σ := Int × (List Int) × (List (List Int)) × Bool × (List Int) × (List Int)) (fun zz => Inv zz.1 zz.2.1 zz.2.2.1 zz.2.2.2.1 zz.2.2.2.2.1 zz.2.2.2.2.2) (fun zz => mu zz.1 zz.2.1 zz.2.2.1 zz.2.2.2.1 zz.2.2.2.2.1 zz.2.2.2.2.2) (fun zz => ⟨[sl 0 (.pptr 0 0 (Bk 0)), sl 4 (.ptr 3 0), sl 6 (.ptr 4 0), sl 63 (qrLook3 x), sl 64 (qrLook4 x), sl 65 (I zz.1)], [.box [.own 1, .gs 2 0] 161 false, rowI 3 intT zz.2.1, gridI 23 3 intT zz.2.2.1, .box [B false, .v (.slice none 0 0), .v (.slice none 0 0)] 272 false, .box [B zz.2.2.2.1, .own 6, .own 7] 272 false, .gone, rowI 3 intT zz.2.2.2.2.1, rowI 3 intT zz.2.2.2.2.2]⟩) (0, lets, nxt, false, ([] : (List Int)), ([] : (List Int))) h0 (sub_ok (by kernel_rfl)) ?_
 rintro ⟨x65, l1, g2, y40, l6, l7⟩ h
 replace h := hI _ _ _ _ _ _ h
 show En c ⟨[sl 0 (.pptr 0 0 (Bk 0)), sl 4 (.ptr 3 0), sl 6 (.ptr 4 0), sl 63 (qrLook3 x), sl 64 (qrLook4 x), sl 65 (I x65)], [.box [.own 1, .gs 2 0] 161 false, rowI 3 intT l1, gridI 23 3 intT g2, .box [B false, .v (.slice none 0 0), .v (.slice none 0 0)] 272 false, .box [B y40, .own 6, .own 7] 272 false, .gone, rowI 3 intT l6, rowI 3 intT l7]⟩ _
 refine En.seq ?_
 refine En.region ?_
 refine WL.run ht hn 1 ⟨[sl 0 (.pptr 0 0 (Bk 0)), sl 4 (.ptr 3 0), sl 6 (.ptr 4 0), sl 63 (qrLook3 x), sl 64 (qrLook4 x), sl 65 (I x65), sl 66 (B (decide (x65 < (x.kids.length : Int))))], [.box [.own 1, .gs 2 0] 161 false, rowI 3 intT l1, gridI 23 3 intT g2, .box [B false, .v (.slice none 0 0), .v (.slice none 0 0)] 272 false, .box [B y40, .own 6, .own 7] 272 false, .gone, rowI 3 intT l6, rowI 3 intT l7]⟩ (by kernel_rfl) ?_
 refine WL.nil ?_
 refine En.seq ?_
 refine En.cond (b := (decide (x65 < (x.kids.length : Int)))) (by kernel_rfl) (fun hb => ?_) (fun hb => ?_)
 replace h := h.1 hb
 refine En.skip ?_
 refine En.seq ?_
 refine En.block ?_
 refine En.seq ?_
 refine En.region ?_
 obtain ⟨e, he, h⟩ := h
 refine WL.val hn (by rfl) (val_index (T := (TT rLab)) (l := x.kids) (i := x65) ht rfl (by rfl) (by rfl) (by rfl) (by rfl) (by rfl) (by rfl) he) (by rfl) ?_
 refine WL.val hn (by rfl) (val_load (s := .one (.rd (trR rLab e))) ht rfl (by rfl) (by rfl) (by rfl) (by rfl) (by rfl)) (by rfl) ?_
 refine WL.run ht hn 1 ⟨[sl 0 (.pptr 0 0 (Bk 0)), sl 4 (.ptr 3 0), sl 6 (.ptr 4 0), sl 8 (.rd (trR rLab e)), sl 63 (qrLook3 x), sl 64 (qrLook4 x), sl 65 (I x65)], [.box [.own 1, .gs 2 0] 161 false, rowI 3 intT l1, gridI 23 3 intT g2, .box [B false, .v (.slice none 0 0), .v (.slice none 0 0)] 272 false, .box [B y40, .own 6, .own 7] 272 false, .gone, rowI 3 intT l6, rowI 3 intT l7]⟩ (by kernel_rfl) ?_
 refine WL.nil ?_
 refine En.seq ?_
 refine En.region ?_
 refine WL.run ht hn 2 ⟨[sl 0 (.pptr 0 0 (Bk 0)), sl 4 (.ptr 3 0), sl 6 (.ptr 4 0), sl 63 (qrLook3 x), sl 64 (qrLook4 x), sl 65 (I x65), sl 69 (.ptr 0 0), sl 70 (.rd (trR rLab e))], [.box [.own 1, .gs 2 0] 161 false, rowI 3 intT l1, gridI 23 3 intT g2, .box [B false, .v (.slice none 0 0), .v (.slice none 0 0)] 272 false, .box [B y40, .own 6, .own 7] 272 false, .gone, rowI 3 intT l6, rowI 3 intT l7]⟩ (by kernel_rfl) ?_
 have hp := h.1
 replace h := h.2
 refine WL.callE (lkI k ih e l1 g2 hp) en158 (caps := []) [0, 1, 2] hn (by rfl) rfl (by rfl) (argsAs (by kernel_rfl) (by rfl)) (by kernel_rfl) (by decide) (by rfl) (by rfl) (fun _ _ => ⟨by rfl, _, by rfl, ?_⟩)
 refine WL.run ht hn 2 ⟨[sl 0 (.pptr 0 0 (Bk 0)), sl 4 (.ptr 3 0), sl 6 (.ptr 4 0), sl 9 (.ptr 8 0), sl 63 (qrLook3 x), sl 64 (qrLook4 x), sl 65 (I x65)], [.box [.own 1, .gs 2 0] 161 false, rowI 3 intT ((lookR k e l1 g2).2.1), gridI 23 3 intT ((lookR k e l1 g2).2.2), .box [B false, .v (.slice none 0 0), .v (.slice none 0 0)] 272 false, .box [B y40, .own 6, .own 7] 272 false, .gone, rowI 3 intT l6, rowI 3 intT l7, .box (RegularEnds.cl ((lookR k e l1 g2).1)) 272 false]⟩ (by kernel_rfl) ?_
 refine WL.nil ?_
 obtain ⟨J, h, hJ⟩ := h
 refine En.seqJ (σ := Bool) (fun zz => J zz) (fun zz => ⟨[sl 0 (.pptr 0 0 (Bk 0)), sl 4 (.ptr 3 0), sl 6 (.ptr 4 0), sl 9 (.ptr 8 0), sl 63 (qrLook3 x), sl 64 (qrLook4 x), sl 65 (I x65)], [.box [.own 1, .gs 2 0] 161 false, rowI 3 intT ((lookR k e l1 g2).2.1), gridI 23 3 intT ((lookR k e l1 g2).2.2), .box [B false, .v (.slice none 0 0), .v (.slice none 0 0)] 272 false, .box [B zz, .own 6, .own 7] 272 false, .gone, rowI 3 intT l6, rowI 3 intT l7, .box (RegularEnds.cl ((lookR k e l1 g2).1)) 272 false]⟩) ?_ ?_
 refine En.region ?_
 refine WL.run ht hn 3 ⟨[sl 0 (.pptr 0 0 (Bk 0)), sl 4 (.ptr 3 0), sl 6 (.ptr 4 0), sl 9 (.ptr 8 0), sl 63 (qrLook3 x), sl 64 (qrLook4 x), sl 65 (I x65), sl 74 (B y40)], [.box [.own 1, .gs 2 0] 161 false, rowI 3 intT ((lookR k e l1 g2).2.1), gridI 23 3 intT ((lookR k e l1 g2).2.2), .box [B false, .v (.slice none 0 0), .v (.slice none 0 0)] 272 false, .box [B y40, .own 6, .own 7] 272 false, .gone, rowI 3 intT l6, rowI 3 intT l7, .box (RegularEnds.cl ((lookR k e l1 g2).1)) 272 false]⟩ (by kernel_rfl) ?_
 refine splitB y40 (fun hb => ?_) (fun hb => ?_)
 replace h := h.1 hb
 refine WL.setB 74 hb (by kernel_rfl) ?_
 refine WL.run ht hn 5 ⟨[sl 0 (.pptr 0 0 (Bk 0)), sl 4 (.ptr 3 0), sl 6 (.ptr 4 0), sl 9 (.ptr 8 0), sl 63 (qrLook3 x), sl 64 (qrLook4 x), sl 65 (I x65)], [.box [.own 1, .gs 2 0] 161 false, rowI 3 intT ((lookR k e l1 g2).2.1), gridI 23 3 intT ((lookR k e l1 g2).2.2), .box [B false, .v (.slice none 0 0), .v (.slice none 0 0)] 272 false, .box [B true, .own 6, .own 7] 272 false, .gone, rowI 3 intT l6, rowI 3 intT l7, .box (RegularEnds.cl ((lookR k e l1 g2).1)) 272 false]⟩ (by kernel_rfl) ?_
 refine WL.nil ?_
 exact En.at (I := fun zz => J zz) (T := fun zz => ⟨[sl 0 (.pptr 0 0 (Bk 0)), sl 4 (.ptr 3 0), sl 6 (.ptr 4 0), sl 9 (.ptr 8 0), sl 63 (qrLook3 x), sl 64 (qrLook4 x), sl 65 (I x65)], [.box [.own 1, .gs 2 0] 161 false, rowI 3 intT ((lookR k e l1 g2).2.1), gridI 23 3 intT ((lookR k e l1 g2).2.2), .box [B false, .v (.slice none 0 0), .v (.slice none 0 0)] 272 false, .box [B zz, .own 6, .own 7] 272 false, .gone, rowI 3 intT l6, rowI 3 intT l7, .box (RegularEnds.cl ((lookR k e l1 g2).1)) 272 false]⟩) true h (by kernel_rfl)
 replace h := h.2 hb
 refine WL.setB 74 hb (by kernel_rfl) ?_
 refine WL.run ht hn 5 ⟨[sl 0 (.pptr 0 0 (Bk 0)), sl 4 (.ptr 3 0), sl 6 (.ptr 4 0), sl 9 (.ptr 8 0), sl 63 (qrLook3 x), sl 64 (qrLook4 x), sl 65 (I x65)], [.box [.own 1, .gs 2 0] 161 false, rowI 3 intT ((lookR k e l1 g2).2.1), gridI 23 3 intT ((lookR k e l1 g2).2.2), .box [B false, .v (.slice none 0 0), .v (.slice none 0 0)] 272 false, .box [B ((lookR k e l1 g2).1).fEmpty, .own 6, .own 7] 272 false, .gone, rowI 3 intT l6, rowI 3 intT l7, .box (RegularEnds.cl ((lookR k e l1 g2).1)) 272 false]⟩ (by kernel_rfl) ?_
 refine WL.nil ?_
 exact En.at (I := fun zz => J zz) (T := fun zz => ⟨[sl 0 (.pptr 0 0 (Bk 0)), sl 4 (.ptr 3 0), sl 6 (.ptr 4 0), sl 9 (.ptr 8 0), sl 63 (qrLook3 x), sl 64 (qrLook4 x), sl 65 (I x65)], [.box [.own 1, .gs 2 0] 161 false, rowI 3 intT ((lookR k e l1 g2).2.1), gridI 23 3 intT ((lookR k e l1 g2).2.2), .box [B false, .v (.slice none 0 0), .v (.slice none 0 0)] 272 false, .box [B zz, .own 6, .own 7] 272 false, .gone, rowI 3 intT l6, rowI 3 intT l7, .box (RegularEnds.cl ((lookR k e l1 g2).1)) 272 false]⟩) ((lookR k e l1 g2).1).fEmpty h (by kernel_rfl)
 intro y40_2 h
 replace h := hJ _ h
 show En c ⟨[sl 0 (.pptr 0 0 (Bk 0)), sl 4 (.ptr 3 0), sl 6 (.ptr 4 0), sl 9 (.ptr 8 0), sl 63 (qrLook3 x), sl 64 (qrLook4 x), sl 65 (I x65)], [.box [.own 1, .gs 2 0] 161 false, rowI 3 intT ((lookR k e l1 g2).2.1), gridI 23 3 intT ((lookR k e l1 g2).2.2), .box [B false, .v (.slice none 0 0), .v (.slice none 0 0)] 272 false, .box [B y40_2, .own 6, .own 7] 272 false, .gone, rowI 3 intT l6, rowI 3 intT l7, .box (RegularEnds.cl ((lookR k e l1 g2).1)) 272 false]⟩ _
 have hp_3 := h.1
 replace h := h.2
 have hp_4 := h.1
 replace h := h.2
 refine En.regionT ⟨[sl 0 (.pptr 0 0 (Bk 0)), sl 4 (.ptr 3 0), sl 6 (.ptr 4 0), sl 9 (.ptr 8 0), sl 63 (qrLook3 x), sl 64 (qrLook4 x), sl 65 (I x65)], [.sv (.one (.ptr 4 1)), .sv (.one (.own 6)), .sv (.one (.ptr 8 1)), .sv (.one (LS intT ((lookR k e l1 g2).1).fFirst)), .sv (.one (.own 9)), .sv (.one (.ptr 4 2)), .sv (.one (.own 7)), .sv (.one (.ptr 8 2)), .sv (.one (LS intT ((lookR k e l1 g2).1).fLast)), .sv (.one (.own 10)), .sv (.one (.ptr 4 1))], [⟨.box [.own 1, .gs 2 0] 161 false, none, none, none⟩, ⟨rowI 3 intT ((lookR k e l1 g2).2.1), none, none, none⟩, ⟨gridI 23 3 intT ((lookR k e l1 g2).2.2), none, none, none⟩, ⟨.box [B false, .v (.slice none 0 0), .v (.slice none 0 0)] 272 false, none, none, none⟩, ⟨.box [B y40_2, .own 6, .own 7] 272 false, none, none, none⟩, ⟨.gone, none, none, none⟩, ⟨rowI 3 intT l6, none, some 4, none⟩, ⟨rowI 3 intT l7, none, some 9, none⟩, ⟨.box (RegularEnds.cl ((lookR k e l1 g2).1)) 272 false, none, none, none⟩, ⟨rowI 3 intT (l6 ++ ((lookR k e l1 g2).1).fFirst), some 4, none, none⟩, ⟨rowI 3 intT (l7 ++ ((lookR k e l1 g2).1).fLast), some 9, none, none⟩]⟩ 11 ⟨[sl 0 (.pptr 0 0 (Bk 0)), sl 4 (.ptr 3 0), sl 6 (.ptr 4 0), sl 63 (qrLook3 x), sl 64 (qrLook4 x), sl 65 (I x65), sl 83 (.own 9), sl 88 (.own 10), sl 89 (.ptr 4 1)], [.box [.own 1, .gs 2 0] 161 false, rowI 3 intT ((lookR k e l1 g2).2.1), gridI 23 3 intT ((lookR k e l1 g2).2.2), .box [B false, .v (.slice none 0 0), .v (.slice none 0 0)] 272 false, .box [B y40_2, .own 6, .own 7] 272 false, .gone, .gone, .gone, .gone, rowI 3 intT (l6 ++ ((lookR k e l1 g2).1).fFirst), rowI 3 intT (l7 ++ ((lookR k e l1 g2).1).fLast)]⟩ (by kernel_rfl) hn (by kernel_rfl) (by kernel_rfl) (by kernel_rfl) (by rfl) (by kernel_rfl) ?_ (by kernel_rfl) ?_
 exact ⟨.mt ⟨[sl 6 (.ptr 4 0)], []⟩ [] none (by kernel_rfl) (by rfl) (mt_ev ht (by kernel_rfl)) rfl rfl rfl rfl,
 .mt ⟨[sl 79 (.ptr 4 1)], [.gone, .gone, .gone, .gone, .box [B y40_2, .own 6, .own 7] 272 false]⟩ [] none (by kernel_rfl) (by rfl) (mt_ev ht (by kernel_rfl)) rfl rfl rfl rfl,
 .mt ⟨[sl 9 (.ptr 8 0)], []⟩ [] none (by kernel_rfl) (by rfl) (mt_ev ht (by kernel_rfl)) rfl rfl rfl rfl,
 .mt ⟨[sl 81 (.ptr 8 1)], [.gone, .gone, .gone, .gone, .gone, .gone, .gone, .gone, .box (RegularEnds.cl ((lookR k e l1 g2).1)) 272 false]⟩ [] none (by kernel_rfl) (by rfl) (mt_ev ht (by kernel_rfl)) rfl rfl rfl rfl,
 .mt ⟨[sl 80 (.own 6), sl 82 (LS intT ((lookR k e l1 g2).1).fFirst)], [.gone, .gone, .gone, .gone, .gone, .gone, rowI 3 intT l6]⟩ [6] (some 9) (by kernel_rfl) (by rfl) (mt_append (T := intT) (l := l6) (es := ((lookR k e l1 g2).1).fFirst) (p := 9) ht rfl (by rfl) (by rfl) (by rfl) (by rfl) (by decide) (by rfl) (by rfl) (srcLS (T := intT) (es := ((lookR k e l1 g2).1).fFirst) (fun _ h => by cases h) (by decide) (by rfl)) (by exact hp_3) (by exact hp_3.le (by decide))) rfl rfl rfl rfl,
 .mt ⟨[sl 6 (.ptr 4 0)], []⟩ [] none (by kernel_rfl) (by rfl) (mt_ev ht (by kernel_rfl)) rfl rfl rfl rfl,
 .mt ⟨[sl 84 (.ptr 4 2)], [.gone, .gone, .gone, .gone, .box [B y40_2, .own 6, .own 7] 272 false]⟩ [] none (by kernel_rfl) (by rfl) (mt_ev ht (by kernel_rfl)) rfl rfl rfl rfl,
 .mt ⟨[sl 9 (.ptr 8 0)], []⟩ [] none (by kernel_rfl) (by rfl) (mt_ev ht (by kernel_rfl)) rfl rfl rfl rfl,
 .mt ⟨[sl 86 (.ptr 8 2)], [.gone, .gone, .gone, .gone, .gone, .gone, .gone, .gone, .box (RegularEnds.cl ((lookR k e l1 g2).1)) 272 false]⟩ [] none (by kernel_rfl) (by rfl) (mt_ev ht (by kernel_rfl)) rfl rfl rfl rfl,
 .mt ⟨[sl 85 (.own 7), sl 87 (LS intT ((lookR k e l1 g2).1).fLast)], [.gone, .gone, .gone, .gone, .gone, .gone, .gone, rowI 3 intT l7]⟩ [7] (some 10) (by kernel_rfl) (by rfl) (mt_append (T := intT) (l := l7) (es := ((lookR k e l1 g2).1).fLast) (p := 10) ht rfl (by rfl) (by rfl) (by rfl) (by rfl) (by decide) (by rfl) (by rfl) (srcLS (T := intT) (es := ((lookR k e l1 g2).1).fLast) (fun _ h => by cases h) (by decide) (by rfl)) (by exact hp_4) (by exact hp_4.le (by decide))) rfl rfl rfl rfl,
 .mt ⟨[sl 6 (.ptr 4 0)], []⟩ [] none (by kernel_rfl) (by rfl) (mt_ev ht (by kernel_rfl)) rfl rfl rfl rfl,
 trivial⟩
 refine WL.run ht hn 3 ⟨[sl 0 (.pptr 0 0 (Bk 0)), sl 4 (.ptr 3 0), sl 6 (.ptr 4 0), sl 63 (qrLook3 x), sl 64 (qrLook4 x), sl 65 (I x65)], [.box [.own 1, .gs 2 0] 161 false, rowI 3 intT ((lookR k e l1 g2).2.1), gridI 23 3 intT ((lookR k e l1 g2).2.2), .box [B false, .v (.slice none 0 0), .v (.slice none 0 0)] 272 false, .box [B y40_2, .own 9, .own 10] 272 false, .gone, .gone, .gone, .gone, rowI 3 intT (l6 ++ ((lookR k e l1 g2).1).fFirst), rowI 3 intT (l7 ++ ((lookR k e l1 g2).1).fLast)]⟩ (by kernel_rfl) ?_
 refine WL.nil ?_
 refine En.region ?_
 refine WL.run ht hn 2 ⟨[sl 0 (.pptr 0 0 (Bk 0)), sl 4 (.ptr 3 0), sl 6 (.ptr 4 0), sl 63 (qrLook3 x), sl 64 (qrLook4 x), sl 65 (I (wr (x65 + 1)))], [.box [.own 1, .gs 2 0] 161 false, rowI 3 intT ((lookR k e l1 g2).2.1), gridI 23 3 intT ((lookR k e l1 g2).2.2), .box [B false, .v (.slice none 0 0), .v (.slice none 0 0)] 272 false, .box [B y40_2, .own 9, .own 10] 272 false, .gone, .gone, .gone, .gone, rowI 3 intT (l6 ++ ((lookR k e l1 g2).1).fFirst), rowI 3 intT (l7 ++ ((lookR k e l1 g2).1).fLast)]⟩ (by kernel_rfl) ?_
 refine WL.nil ?_
 refine En.move 9 6 (by rfl) (by rfl) ?_
 refine En.move 10 7 (by rfl) (by rfl) ?_
 exact En.at (I := fun zz => Inv zz.1 zz.2.1 zz.2.2.1 zz.2.2.2.1 zz.2.2.2.2.1 zz.2.2.2.2.2 ∧ mu zz.1 zz.2.1 zz.2.2.1 zz.2.2.2.1 zz.2.2.2.2.1 zz.2.2.2.2.2 < mu x65 l1 g2 y40 l6 l7) (T := fun zz => ⟨[sl 0 (.pptr 0 0 (Bk 0)), sl 4 (.ptr 3 0), sl 6 (.ptr 4 0), sl 63 (qrLook3 x), sl 64 (qrLook4 x), sl 65 (I zz.1)], [.box [.own 1, .gs 2 0] 161 false, rowI 3 intT zz.2.1, gridI 23 3 intT zz.2.2.1, .box [B false, .v (.slice none 0 0), .v (.slice none 0 0)] 272 false, .box [B zz.2.2.2.1, .own 6, .own 7] 272 false, .gone, rowI 3 intT zz.2.2.2.2.1, rowI 3 intT zz.2.2.2.2.2]⟩) ((wr (x65 + 1)), ((lookR k e l1 g2).2.1), ((lookR k e l1 g2).2.2), y40_2, (l6 ++ ((lookR k e l1 g2).1).fFirst), (l7 ++ ((lookR k e l1 g2).1).fLast)) h (by kernel_rfl)
 replace h := h.2 hb
 refine En.exit rfl ?_
 refine En.seq ?_
 refine En.region ?_
 refine WL.run ht hn 2 ⟨[sl 0 (.pptr 0 0 (Bk 0)), sl 4 (.ptr 3 0)], [.box [.own 1, .gs 2 0] 161 false, rowI 3 intT l1, gridI 23 3 intT g2, .box [B y40, .own 6, .own 7] 272 false, .gone, .gone, rowI 3 intT l6, rowI 3 intT l7]⟩ (by kernel_rfl) ?_
 refine WL.nil ?_
 refine En.ret ?_
 refine En.seal (T := intT) (l := l6) (e := 3) 6 rfl ?_
 refine En.seal (T := intT) (l := l7) (e := 3) 7 rfl ?_
 exact En.backE [0] ht ((RegularEnds.mk y40 l6 l7), l1, g2) h (by kernel_rfl) (by rfl) rfl
 replace h := h.2 hb
 refine En.seq ?_
 refine En.region ?_
 refine WL.run ht hn 2 ⟨[sl 0 (.pptr 0 0 (Bk 0)), sl 1 (.rd (trR rLab x)), sl 4 (.ptr 3 0), sl 93 (B (x.lab.fKind == 4))], [.box [.own 1, .gs 2 0] 161 false, rowI 3 intT lets, gridI 23 3 intT nxt, .box [B false, .v (.slice none 0 0), .v (.slice none 0 0)] 272 false]⟩ (by kernel_rfl) ?_
 refine WL.nil ?_
 refine En.cond (b := (x.lab.fKind == 4)) (by kernel_rfl) (fun hb => ?_) (fun hb => ?_)
 replace h := h.1 hb
 refine En.seq ?_
 refine En.region ?_
 refine WL.run ht hn 2 ⟨[sl 0 (.pptr 0 0 (Bk 0)), sl 1 (.rd (trR rLab x)), sl 4 (.ptr 3 0), sl 95 (.ptr 0 0), sl 96 (.rd (trR rLab x))], [.box [.own 1, .gs 2 0] 161 false, rowI 3 intT lets, gridI 23 3 intT nxt, .box [B false, .v (.slice none 0 0), .v (.slice none 0 0)] 272 false]⟩ (by kernel_rfl) ?_
 refine WL.val hn (by rfl) (val_node (s := .agg [I x.lab.fKind, I x.lab.fLetter, LS (TT rLab) x.kids]) (t := x) (lab := rLab) rLabH rfl (by rfl) rfl rfl) (by rfl) ?_
 refine WL.val hn (by rfl) (val_field (l := [I x.lab.fKind, I x.lab.fLetter, LS (TT rLab) x.kids]) (r := .one (qrLook3 x)) ht rfl (by rfl) (by rfl) (by rfl) (by rfl) (by rfl) (by rfl)) (by rfl) ?_
 refine WL.val hn (by rfl) (val_load (s := .one (qrLook3 x)) ht rfl (by rfl) (by rfl) (by rfl) (by rfl) (by rfl)) (by rfl) ?_
 obtain ⟨e_2, he_2, h⟩ := h
 refine WL.val hn (by rfl) (val_index (T := (TT rLab)) (l := x.kids) (i := 0) ht rfl (by rfl) (by rfl) (by rfl) (by rfl) (by rfl) (by rfl) he_2) (by rfl) ?_
 refine WL.val hn (by rfl) (val_load (s := .one (.rd (trR rLab e_2))) ht rfl (by rfl) (by rfl) (by rfl) (by rfl) (by rfl)) (by rfl) ?_
 have hp := h.1
 replace h := h.2
 refine WL.callE (lkI k ih e_2 lets nxt hp) en158 (caps := []) [0, 1, 2] hn (by rfl) rfl (by rfl) (argsAs (by kernel_rfl) (by rfl)) (by kernel_rfl) (by decide) (by rfl) (by rfl) (fun _ _ => ⟨by rfl, _, by rfl, ?_⟩)
 refine WL.run ht hn 2 ⟨[sl 0 (.pptr 0 0 (Bk 0)), sl 1 (.rd (trR rLab x)), sl 4 (.ptr 3 0), sl 10 (.ptr 4 0)], [.box [.own 1, .gs 2 0] 161 false, rowI 3 intT ((lookR k e_2 lets nxt).2.1), gridI 23 3 intT ((lookR k e_2 lets nxt).2.2), .box [B false, .v (.slice none 0 0), .v (.slice none 0 0)] 272 false, .box (RegularEnds.cl ((lookR k e_2 lets nxt).1)) 272 false]⟩ (by kernel_rfl) ?_
 refine WL.nil ?_
 refine En.seq ?_
 refine En.seq ?_
 refine En.region ?_
 refine WL.run ht hn 1 ⟨[sl 0 (.pptr 0 0 (Bk 0)), sl 4 (.ptr 3 0), sl 10 (.ptr 4 0), sl 103 (.rd (trR rLab x))], [.box [.own 1, .gs 2 0] 161 false, rowI 3 intT ((lookR k e_2 lets nxt).2.1), gridI 23 3 intT ((lookR k e_2 lets nxt).2.2), .box [B false, .v (.slice none 0 0), .v (.slice none 0 0)] 272 false, .box (RegularEnds.cl ((lookR k e_2 lets nxt).1)) 272 false]⟩ (by kernel_rfl) ?_
 refine WL.val hn (by rfl) (val_node (s := .agg [I x.lab.fKind, I x.lab.fLetter, LS (TT rLab) x.kids]) (t := x) (lab := rLab) rLabH rfl (by rfl) rfl rfl) (by rfl) ?_
 refine WL.val hn (by rfl) (val_field (l := [I x.lab.fKind, I x.lab.fLetter, LS (TT rLab) x.kids]) (r := .one (qrLook3 x)) ht rfl (by rfl) (by rfl) (by rfl) (by rfl) (by rfl) (by rfl)) (by rfl) ?_
 refine WL.val hn (by rfl) (val_load (s := .one (qrLook3 x)) ht rfl (by rfl) (by rfl) (by rfl) (by rfl) (by rfl)) (by rfl) ?_
 have hp := h.1
 replace h := h.2
 refine WL.val hn (by rfl) (val_slice (T := (TT rLab)) (l := x.kids) (lv := 1) (hv := (x.kids.length : Int)) ht rfl (by rfl) (by rfl) (by rfl) (by rfl) (by rfl) (by rfl) (by rfl) hp) (by rfl) ?_
 refine WL.run ht hn 2 ⟨[sl 0 (.pptr 0 0 (Bk 0)), sl 4 (.ptr 3 0), sl 10 (.ptr 4 0), sl 107 (qrLook1 x), sl 108 (qrLook0 x), sl 109 (I 0)], [.box [.own 1, .gs 2 0] 161 false, rowI 3 intT ((lookR k e_2 lets nxt).2.1), gridI 23 3 intT ((lookR k e_2 lets nxt).2.2), .box [B false, .v (.slice none 0 0), .v (.slice none 0 0)] 272 false, .box (RegularEnds.cl ((lookR k e_2 lets nxt).1)) 272 false]⟩ (by kernel_rfl) ?_
 refine WL.nil ?_
 refine En.block ?_
 obtain ⟨Inv_2, mu_2, h0_2, hI_2⟩ := h
 refine En.loop (σ := Int × (List Int) × (List (List Int)) × RegularEnds) (fun zz => Inv_2 zz.1 zz.2.1 zz.2.2.1 zz.2.2.2) (fun zz => mu_2 zz.1 zz.2.1 zz.2.2.1 zz.2.2.2) (fun zz => ⟨[sl 0 (.pptr 0 0 (Bk 0)), sl 4 (.ptr 3 0), sl 10 (.ptr 4 0), sl 107 (qrLook1 x), sl 108 (qrLook0 x), sl 109 (I zz.1)], [.box [.own 1, .gs 2 0] 161 false, rowI 3 intT zz.2.1, gridI 23 3 intT zz.2.2.1, .box [B false, .v (.slice none 0 0), .v (.slice none 0 0)] 272 false, .box (RegularEnds.cl zz.2.2.2) 272 false]⟩) (0, ((lookR k e_2 lets nxt).2.1), ((lookR k e_2 lets nxt).2.2), ((lookR k e_2 lets nxt).1)) h0_2 (sub_ok (by kernel_rfl)) ?_
 rintro ⟨x109, l1_2, g2_2, y4⟩ h
 replace h := hI_2 _ _ _ _ h
 show En c ⟨[sl 0 (.pptr 0 0 (Bk 0)), sl 4 (.ptr 3 0), sl 10 (.ptr 4 0), sl 107 (qrLook1 x), sl 108 (qrLook0 x), sl 109 (I x109)], [.box [.own 1, .gs 2 0] 161 false, rowI 3 intT l1_2, gridI 23 3 intT g2_2, .box [B false, .v (.slice none 0 0), .v (.slice none 0 0)] 272 false, .box (RegularEnds.cl y4) 272 false]⟩ _
 refine En.seq ?_
 refine En.region ?_
 refine WL.run ht hn 1 ⟨[sl 0 (.pptr 0 0 (Bk 0)), sl 4 (.ptr 3 0), sl 10 (.ptr 4 0), sl 107 (qrLook1 x), sl 108 (qrLook0 x), sl 109 (I x109), sl 110 (B (decide (x109 < (((x.kids.take ((x.kids.length : Int) : Int).toNat).drop (1 : Int).toNat).length : Int))))], [.box [.own 1, .gs 2 0] 161 false, rowI 3 intT l1_2, gridI 23 3 intT g2_2, .box [B false, .v (.slice none 0 0), .v (.slice none 0 0)] 272 false, .box (RegularEnds.cl y4) 272 false]⟩ (by kernel_rfl) ?_
 refine WL.nil ?_
 refine En.seq ?_
 refine En.cond (b := (decide (x109 < (((x.kids.take ((x.kids.length : Int) : Int).toNat).drop (1 : Int).toNat).length : Int)))) (by kernel_rfl) (fun hb => ?_) (fun hb => ?_)
 replace h := h.1 hb
 refine En.skip ?_
 refine En.seq ?_
 refine En.block ?_
 refine En.seq ?_
 refine En.region ?_
 obtain ⟨e_3, he_3, h⟩ := h
 refine WL.val hn (by rfl) (val_index (T := (TT rLab)) (l := ((x.kids.take ((x.kids.length : Int) : Int).toNat).drop (1 : Int).toNat)) (i := x109) ht rfl (by rfl) (by rfl) (by rfl) (by rfl) (by rfl) (by rfl) he_3) (by rfl) ?_
 refine WL.val hn (by rfl) (val_load (s := .one (.rd (trR rLab e_3))) ht rfl (by rfl) (by rfl) (by rfl) (by rfl) (by rfl)) (by rfl) ?_
 refine WL.run ht hn 1 ⟨[sl 0 (.pptr 0 0 (Bk 0)), sl 4 (.ptr 3 0), sl 10 (.ptr 4 0), sl 12 (.rd (trR rLab e_3)), sl 107 (qrLook1 x), sl 108 (qrLook0 x), sl 109 (I x109)], [.box [.own 1, .gs 2 0] 161 false, rowI 3 intT l1_2, gridI 23 3 intT g2_2, .box [B false, .v (.slice none 0 0), .v (.slice none 0 0)] 272 false, .box (RegularEnds.cl y4) 272 false]⟩ (by kernel_rfl) ?_
 refine WL.nil ?_
 have hp_r4 := h.1
 replace h := h.2
 have hp_r5 := h.1
 replace h := h.2
 refine En.regionD ⟨[sl 0 (.pptr 0 0 (Bk 0)), sl 4 (.ptr 3 0), sl 10 (.ptr 4 0), sl 107 (qrLook1 x), sl 108 (qrLook0 x), sl 109 (I x109)], [.box [.own 1, .gs 2 0] 161 false, rowI 3 intT (((lookR k e_3 l1_2 g2_2).2.1)), gridI 23 3 intT (tieR y4.fLast ((lookR k e_3 l1_2 g2_2).1).fFirst ((lookR k e_3 l1_2 g2_2).2.2)), .box [B false, .v (.slice none 0 0), .v (.slice none 0 0)] 272 false, .box (RegularEnds.cl (bhdR y4 ((lookR k e_3 l1_2 g2_2).1))) 272 false]⟩ (by kernel_rfl) ?_ ?_
 intro N' hF
 refine RD.have 0 #[true, true, true, true, true, true, true] ⟨[sl 0 (.pptr 0 0 (Bk 0)), sl 4 (.ptr 3 0), sl 10 (.ptr 4 0), sl 107 (qrLook1 x), sl 108 (qrLook0 x), sl 109 (I x109)], [.box [.own 1, .gs 2 0] 161 false, rowI 3 intT (((lookR k e_3 l1_2 g2_2).2.1)), gridI 23 3 intT (tieR y4.fLast ((lookR k e_3 l1_2 g2_2).1).fFirst ((lookR k e_3 l1_2 g2_2).2.2)), .box [B false, .v (.slice none 0 0), .v (.slice none 0 0)] 272 false, .box (RegularEnds.cl (bhdR y4 ((lookR k e_3 l1_2 g2_2).1))) 272 false]⟩ (RD.nil (by kernel_rfl) hF) (fun rd21 => ?_)
 refine RD.have 1 #[true, true, true, true, true, true, false] ⟨[sl 0 (.pptr 0 0 (Bk 0)), sl 4 (.ptr 3 0), sl 10 (.ptr 4 0), sl 107 (qrLook1 x), sl 108 (qrLook0 x), sl 109 (I x109), (118, .sv (.agg (RegularEnds.cl (bhdR y4 ((lookR k e_3 l1_2 g2_2).1)))))], [.box [.own 1, .gs 2 0] 161 false, rowI 3 intT (((lookR k e_3 l1_2 g2_2).2.1)), gridI 23 3 intT (tieR y4.fLast ((lookR k e_3 l1_2 g2_2).1).fFirst ((lookR k e_3 l1_2 g2_2).2.2)), .box [B false, .v (.slice none 0 0), .v (.slice none 0 0)] 272 false, .box (RegularEnds.cl y4) 272 false]⟩ ?_ (fun rd20 => ?_)
 refine RD.succ [6] (by kernel_rfl) rfl ⟨⟨_, _, _, rfl, ?_, rfl, rd21⟩, trivial⟩
 exact WL.run ht hn 1 _ (by kernel_rfl) WL.nilI
 refine RD.have 2 #[true, true, true, true, true, false, false] ⟨[sl 0 (.pptr 0 0 (Bk 0)), sl 4 (.ptr 3 0), sl 10 (.ptr 4 0), sl 107 (qrLook1 x), sl 108 (qrLook0 x), sl 109 (I x109), sl 113 (.ptr 0 0), (114, .sv (.agg (RegularEnds.cl y4))), (117, .sv (.agg (RegularEnds.cl ((lookR k e_3 l1_2 g2_2).1))))], [.box [.own 1, .gs 2 0] 161 false, rowI 3 intT ((lookR k e_3 l1_2 g2_2).2.1), gridI 23 3 intT ((lookR k e_3 l1_2 g2_2).2.2), .box [B false, .v (.slice none 0 0), .v (.slice none 0 0)] 272 false, .box (RegularEnds.cl y4) 272 false]⟩ ?_ (fun rd19 => ?_)
 refine RD.succ [5] (by kernel_rfl) rfl ⟨⟨_, _, _, rfl, ?_, rfl, rd20⟩, trivial⟩
 refine WL.callE (rBhd_ct ((lookR k e_3 l1_2 g2_2).2.1) ((lookR k e_3 l1_2 g2_2).2.2) y4 ((lookR k e_3 l1_2 g2_2).1) hp_r5) en211 (caps := []) [0, 1, 2] hn (by rfl) rfl (by rfl) (argsAs (by kernel_rfl) (by rfl)) (by kernel_rfl) (by decide) (by rfl) (by rfl) (fun _ _ => ⟨by rfl, _, by rfl, ?_⟩)
 refine WL.nil ?_
 exact sub_ok (by kernel_rfl)
 refine RD.have 3 #[false, true, true, true, true, false, false] ⟨[sl 0 (.pptr 0 0 (Bk 0)), sl 4 (.ptr 3 0), sl 10 (.ptr 4 0), sl 107 (qrLook1 x), sl 108 (qrLook0 x), sl 109 (I x109), (114, .sv (.agg (RegularEnds.cl y4))), (117, .sv (.agg (RegularEnds.cl ((lookR k e_3 l1_2 g2_2).1))))], [.box [.own 1, .gs 2 0] 161 false, rowI 3 intT ((lookR k e_3 l1_2 g2_2).2.1), gridI 23 3 intT ((lookR k e_3 l1_2 g2_2).2.2), .box [B false, .v (.slice none 0 0), .v (.slice none 0 0)] 272 false, .box (RegularEnds.cl y4) 272 false]⟩ ?_ (fun rd18 => ?_)
 refine RD.succ [0] (by kernel_rfl) rfl ⟨⟨_, _, _, rfl, ?_, rfl, rd19⟩, trivial⟩
 exact WL.run ht hn 1 _ (by kernel_rfl) WL.nilI
 refine RD.have 3 #[true, false, true, true, true, false, false] ⟨[sl 0 (.pptr 0 0 (Bk 0)), sl 4 (.ptr 3 0), sl 10 (.ptr 4 0), sl 107 (qrLook1 x), sl 108 (qrLook0 x), sl 109 (I x109), sl 113 (.ptr 0 0), (117, .sv (.agg (RegularEnds.cl ((lookR k e_3 l1_2 g2_2).1))))], [.box [.own 1, .gs 2 0] 161 false, rowI 3 intT ((lookR k e_3 l1_2 g2_2).2.1), gridI 23 3 intT ((lookR k e_3 l1_2 g2_2).2.2), .box [B false, .v (.slice none 0 0), .v (.slice none 0 0)] 272 false, .box (RegularEnds.cl y4) 272 false]⟩ ?_ (fun rd17 => ?_)
 refine RD.succ [1] (by kernel_rfl) rfl ⟨⟨_, _, _, rfl, ?_, rfl, rd19⟩, trivial⟩
 exact WL.run ht hn 1 _ (by kernel_rfl) WL.nilI
 refine RD.have 3 #[true, true, true, true, false, false, false] ⟨[sl 0 (.pptr 0 0 (Bk 0)), sl 4 (.ptr 3 0), sl 10 (.ptr 4 0), sl 107 (qrLook1 x), sl 108 (qrLook0 x), sl 109 (I x109), sl 113 (.ptr 0 0), (114, .sv (.agg (RegularEnds.cl y4))), sl 115 (.ptr 0 0), sl 116 (.rd (trR rLab e_3))], [.box [.own 1, .gs 2 0] 161 false, rowI 3 intT l1_2, gridI 23 3 intT g2_2, .box [B false, .v (.slice none 0 0), .v (.slice none 0 0)] 272 false, .box (RegularEnds.cl y4) 272 false]⟩ ?_ (fun rd16 => ?_)
 refine RD.succ [4] (by kernel_rfl) rfl ⟨⟨_, _, _, rfl, ?_, rfl, rd19⟩, trivial⟩
 refine WL.callE (lkI k ih e_3 l1_2 g2_2 hp_r4) en158 (caps := []) [0, 1, 2] hn (by rfl) rfl (by rfl) (argsAs (by kernel_rfl) (by rfl)) (by kernel_rfl) (by decide) (by rfl) (by rfl) (fun _ _ => ⟨by rfl, _, by rfl, ?_⟩)
 refine WL.nil ?_
 exact sub_ok (by kernel_rfl)
 refine RD.have 4 #[false, false, true, true, true, false, false] ⟨[sl 0 (.pptr 0 0 (Bk 0)), sl 4 (.ptr 3 0), sl 10 (.ptr 4 0), sl 107 (qrLook1 x), sl 108 (qrLook0 x), sl 109 (I x109), (117, .sv (.agg (RegularEnds.cl ((lookR k e_3 l1_2 g2_2).1))))], [.box [.own 1, .gs 2 0] 161 false, rowI 3 intT ((lookR k e_3 l1_2 g2_2).2.1), gridI 23 3 intT ((lookR k e_3 l1_2 g2_2).2.2), .box [B false, .v (.slice none 0 0), .v (.slice none 0 0)] 272 false, .box (RegularEnds.cl y4) 272 false]⟩ ?_ (fun rd15 => ?_)
 refine RD.succ [0, 1] (by kernel_rfl) rfl ⟨⟨_, _, _, rfl, ?_, rfl, rd17⟩, ⟨_, _, _, rfl, ?_, rfl, rd18⟩, trivial⟩
 exact WL.run ht hn 1 _ (by kernel_rfl) WL.nilI
 exact WL.run ht hn 1 _ (by kernel_rfl) WL.nilI
 refine RD.have 4 #[false, true, true, true, false, false, false] ⟨[sl 0 (.pptr 0 0 (Bk 0)), sl 4 (.ptr 3 0), sl 10 (.ptr 4 0), sl 107 (qrLook1 x), sl 108 (qrLook0 x), sl 109 (I x109), (114, .sv (.agg (RegularEnds.cl y4))), sl 115 (.ptr 0 0), sl 116 (.rd (trR rLab e_3))], [.box [.own 1, .gs 2 0] 161 false, rowI 3 intT l1_2, gridI 23 3 intT g2_2, .box [B false, .v (.slice none 0 0), .v (.slice none 0 0)] 272 false, .box (RegularEnds.cl y4) 272 false]⟩ ?_ (fun rd14 => ?_)
 refine RD.succ [0, 4] (by kernel_rfl) rfl ⟨⟨_, _, _, rfl, ?_, rfl, rd16⟩, ⟨_, _, _, rfl, ?_, rfl, rd18⟩, trivial⟩
 exact WL.run ht hn 1 _ (by kernel_rfl) WL.nilI
 refine WL.callE (lkI k ih e_3 l1_2 g2_2 hp_r4) en158 (caps := []) [0, 1, 2] hn (by rfl) rfl (by rfl) (argsAs (by kernel_rfl) (by rfl)) (by kernel_rfl) (by decide) (by rfl) (by rfl) (fun _ _ => ⟨by rfl, _, by rfl, ?_⟩)
 refine WL.nil ?_
 exact sub_ok (by kernel_rfl)
 refine RD.have 4 #[true, false, true, true, false, false, false] ⟨[sl 0 (.pptr 0 0 (Bk 0)), sl 4 (.ptr 3 0), sl 10 (.ptr 4 0), sl 107 (qrLook1 x), sl 108 (qrLook0 x), sl 109 (I x109), sl 113 (.ptr 0 0), sl 115 (.ptr 0 0), sl 116 (.rd (trR rLab e_3))], [.box [.own 1, .gs 2 0] 161 false, rowI 3 intT l1_2, gridI 23 3 intT g2_2, .box [B false, .v (.slice none 0 0), .v (.slice none 0 0)] 272 false, .box (RegularEnds.cl y4) 272 false]⟩ ?_ (fun rd13 => ?_)
 refine RD.succ [1, 4] (by kernel_rfl) rfl ⟨⟨_, _, _, rfl, ?_, rfl, rd16⟩, ⟨_, _, _, rfl, ?_, rfl, rd17⟩, trivial⟩
 exact WL.run ht hn 1 _ (by kernel_rfl) WL.nilI
 refine WL.callE (lkI k ih e_3 l1_2 g2_2 hp_r4) en158 (caps := []) [0, 1, 2] hn (by rfl) rfl (by rfl) (argsAs (by kernel_rfl) (by rfl)) (by kernel_rfl) (by decide) (by rfl) (by rfl) (fun _ _ => ⟨by rfl, _, by rfl, ?_⟩)
 refine WL.nil ?_
 exact sub_ok (by kernel_rfl)
 refine RD.have 4 #[true, true, false, true, false, false, false] ⟨[sl 0 (.pptr 0 0 (Bk 0)), sl 4 (.ptr 3 0), sl 10 (.ptr 4 0), sl 107 (qrLook1 x), sl 108 (qrLook0 x), sl 109 (I x109), sl 113 (.ptr 0 0), (114, .sv (.agg (RegularEnds.cl y4))), sl 116 (.rd (trR rLab e_3))], [.box [.own 1, .gs 2 0] 161 false, rowI 3 intT l1_2, gridI 23 3 intT g2_2, .box [B false, .v (.slice none 0 0), .v (.slice none 0 0)] 272 false, .box (RegularEnds.cl y4) 272 false]⟩ ?_ (fun rd12 => ?_)
 refine RD.succ [2] (by kernel_rfl) rfl ⟨⟨_, _, _, rfl, ?_, rfl, rd16⟩, trivial⟩
 exact WL.run ht hn 1 _ (by kernel_rfl) WL.nilI
 refine RD.have 4 #[true, true, true, false, false, false, false] ⟨[sl 0 (.pptr 0 0 (Bk 0)), sl 4 (.ptr 3 0), sl 10 (.ptr 4 0), sl 12 (.rd (trR rLab e_3)), sl 107 (qrLook1 x), sl 108 (qrLook0 x), sl 109 (I x109), sl 113 (.ptr 0 0), (114, .sv (.agg (RegularEnds.cl y4))), sl 115 (.ptr 0 0)], [.box [.own 1, .gs 2 0] 161 false, rowI 3 intT l1_2, gridI 23 3 intT g2_2, .box [B false, .v (.slice none 0 0), .v (.slice none 0 0)] 272 false, .box (RegularEnds.cl y4) 272 false]⟩ ?_ (fun rd11 => ?_)
 refine RD.succ [3] (by kernel_rfl) rfl ⟨⟨_, _, _, rfl, ?_, rfl, rd16⟩, trivial⟩
 exact WL.run ht hn 1 _ (by kernel_rfl) WL.nilI
 refine RD.have 5 #[false, false, true, true, false, false, false] ⟨[sl 0 (.pptr 0 0 (Bk 0)), sl 4 (.ptr 3 0), sl 10 (.ptr 4 0), sl 107 (qrLook1 x), sl 108 (qrLook0 x), sl 109 (I x109), sl 115 (.ptr 0 0), sl 116 (.rd (trR rLab e_3))], [.box [.own 1, .gs 2 0] 161 false, rowI 3 intT l1_2, gridI 23 3 intT g2_2, .box [B false, .v (.slice none 0 0), .v (.slice none 0 0)] 272 false, .box (RegularEnds.cl y4) 272 false]⟩ ?_ (fun rd10 => ?_)
 refine RD.succ [0, 1, 4] (by kernel_rfl) rfl ⟨⟨_, _, _, rfl, ?_, rfl, rd13⟩, ⟨_, _, _, rfl, ?_, rfl, rd14⟩, ⟨_, _, _, rfl, ?_, rfl, rd15⟩, trivial⟩
 exact WL.run ht hn 1 _ (by kernel_rfl) WL.nilI
 exact WL.run ht hn 1 _ (by kernel_rfl) WL.nilI
 refine WL.callE (lkI k ih e_3 l1_2 g2_2 hp_r4) en158 (caps := []) [0, 1, 2] hn (by rfl) rfl (by rfl) (argsAs (by kernel_rfl) (by rfl)) (by kernel_rfl) (by decide) (by rfl) (by rfl) (fun _ _ => ⟨by rfl, _, by rfl, ?_⟩)
 refine WL.nil ?_
 exact sub_ok (by kernel_rfl)
 refine RD.have 5 #[false, true, false, true, false, false, false] ⟨[sl 0 (.pptr 0 0 (Bk 0)), sl 4 (.ptr 3 0), sl 10 (.ptr 4 0), sl 107 (qrLook1 x), sl 108 (qrLook0 x), sl 109 (I x109), (114, .sv (.agg (RegularEnds.cl y4))), sl 116 (.rd (trR rLab e_3))], [.box [.own 1, .gs 2 0] 161 false, rowI 3 intT l1_2, gridI 23 3 intT g2_2, .box [B false, .v (.slice none 0 0), .v (.slice none 0 0)] 272 false, .box (RegularEnds.cl y4) 272 false]⟩ ?_ (fun rd9 => ?_)
 refine RD.succ [0, 2] (by kernel_rfl) rfl ⟨⟨_, _, _, rfl, ?_, rfl, rd12⟩, ⟨_, _, _, rfl, ?_, rfl, rd14⟩, trivial⟩
 exact WL.run ht hn 1 _ (by kernel_rfl) WL.nilI
 exact WL.run ht hn 1 _ (by kernel_rfl) WL.nilI
 refine RD.have 5 #[false, true, true, false, false, false, false] ⟨[sl 0 (.pptr 0 0 (Bk 0)), sl 4 (.ptr 3 0), sl 10 (.ptr 4 0), sl 12 (.rd (trR rLab e_3)), sl 107 (qrLook1 x), sl 108 (qrLook0 x), sl 109 (I x109), (114, .sv (.agg (RegularEnds.cl y4))), sl 115 (.ptr 0 0)], [.box [.own 1, .gs 2 0] 161 false, rowI 3 intT l1_2, gridI 23 3 intT g2_2, .box [B false, .v (.slice none 0 0), .v (.slice none 0 0)] 272 false, .box (RegularEnds.cl y4) 272 false]⟩ ?_ (fun rd8 => ?_)
 refine RD.succ [0, 3] (by kernel_rfl) rfl ⟨⟨_, _, _, rfl, ?_, rfl, rd11⟩, ⟨_, _, _, rfl, ?_, rfl, rd14⟩, trivial⟩
 exact WL.run ht hn 1 _ (by kernel_rfl) WL.nilI
 exact WL.run ht hn 1 _ (by kernel_rfl) WL.nilI
 refine RD.have 5 #[true, false, false, true, false, false, false] ⟨[sl 0 (.pptr 0 0 (Bk 0)), sl 4 (.ptr 3 0), sl 10 (.ptr 4 0), sl 107 (qrLook1 x), sl 108 (qrLook0 x), sl 109 (I x109), sl 113 (.ptr 0 0), sl 116 (.rd (trR rLab e_3))], [.box [.own 1, .gs 2 0] 161 false, rowI 3 intT l1_2, gridI 23 3 intT g2_2, .box [B false, .v (.slice none 0 0), .v (.slice none 0 0)] 272 false, .box (RegularEnds.cl y4) 272 false]⟩ ?_ (fun rd7 => ?_)
 refine RD.succ [1, 2] (by kernel_rfl) rfl ⟨⟨_, _, _, rfl, ?_, rfl, rd12⟩, ⟨_, _, _, rfl, ?_, rfl, rd13⟩, trivial⟩
 exact WL.run ht hn 1 _ (by kernel_rfl) WL.nilI
 exact WL.run ht hn 1 _ (by kernel_rfl) WL.nilI
 refine RD.have 5 #[true, false, true, false, false, false, false] ⟨[sl 0 (.pptr 0 0 (Bk 0)), sl 4 (.ptr 3 0), sl 10 (.ptr 4 0), sl 12 (.rd (trR rLab e_3)), sl 107 (qrLook1 x), sl 108 (qrLook0 x), sl 109 (I x109), sl 113 (.ptr 0 0), sl 115 (.ptr 0 0)], [.box [.own 1, .gs 2 0] 161 false, rowI 3 intT l1_2, gridI 23 3 intT g2_2, .box [B false, .v (.slice none 0 0), .v (.slice none 0 0)] 272 false, .box (RegularEnds.cl y4) 272 false]⟩ ?_ (fun rd6 => ?_)
 refine RD.succ [1, 3] (by kernel_rfl) rfl ⟨⟨_, _, _, rfl, ?_, rfl, rd11⟩, ⟨_, _, _, rfl, ?_, rfl, rd13⟩, trivial⟩
 exact WL.run ht hn 1 _ (by kernel_rfl) WL.nilI
 exact WL.run ht hn 1 _ (by kernel_rfl) WL.nilI
 refine RD.have 5 #[true, true, false, false, false, false, false] ⟨[sl 0 (.pptr 0 0 (Bk 0)), sl 4 (.ptr 3 0), sl 10 (.ptr 4 0), sl 12 (.rd (trR rLab e_3)), sl 107 (qrLook1 x), sl 108 (qrLook0 x), sl 109 (I x109), sl 113 (.ptr 0 0), (114, .sv (.agg (RegularEnds.cl y4)))], [.box [.own 1, .gs 2 0] 161 false, rowI 3 intT l1_2, gridI 23 3 intT g2_2, .box [B false, .v (.slice none 0 0), .v (.slice none 0 0)] 272 false, .box (RegularEnds.cl y4) 272 false]⟩ ?_ (fun rd5 => ?_)
 refine RD.succ [2, 3] (by kernel_rfl) rfl ⟨⟨_, _, _, rfl, ?_, rfl, rd11⟩, ⟨_, _, _, rfl, ?_, rfl, rd12⟩, trivial⟩
 exact WL.run ht hn 1 _ (by kernel_rfl) WL.nilI
 exact WL.run ht hn 1 _ (by kernel_rfl) WL.nilI
 refine RD.have 6 #[false, false, false, true, false, false, false] ⟨[sl 0 (.pptr 0 0 (Bk 0)), sl 4 (.ptr 3 0), sl 10 (.ptr 4 0), sl 107 (qrLook1 x), sl 108 (qrLook0 x), sl 109 (I x109), sl 116 (.rd (trR rLab e_3))], [.box [.own 1, .gs 2 0] 161 false, rowI 3 intT l1_2, gridI 23 3 intT g2_2, .box [B false, .v (.slice none 0 0), .v (.slice none 0 0)] 272 false, .box (RegularEnds.cl y4) 272 false]⟩ ?_ (fun rd4 => ?_)
 refine RD.succ [0, 1, 2] (by kernel_rfl) rfl ⟨⟨_, _, _, rfl, ?_, rfl, rd7⟩, ⟨_, _, _, rfl, ?_, rfl, rd9⟩, ⟨_, _, _, rfl, ?_, rfl, rd10⟩, trivial⟩
 exact WL.run ht hn 1 _ (by kernel_rfl) WL.nilI
 exact WL.run ht hn 1 _ (by kernel_rfl) WL.nilI
 exact WL.run ht hn 1 _ (by kernel_rfl) WL.nilI
 refine RD.have 6 #[false, false, true, false, false, false, false] ⟨[sl 0 (.pptr 0 0 (Bk 0)), sl 4 (.ptr 3 0), sl 10 (.ptr 4 0), sl 12 (.rd (trR rLab e_3)), sl 107 (qrLook1 x), sl 108 (qrLook0 x), sl 109 (I x109), sl 115 (.ptr 0 0)], [.box [.own 1, .gs 2 0] 161 false, rowI 3 intT l1_2, gridI 23 3 intT g2_2, .box [B false, .v (.slice none 0 0), .v (.slice none 0 0)] 272 false, .box (RegularEnds.cl y4) 272 false]⟩ ?_ (fun rd3 => ?_)
 refine RD.succ [0, 1, 3] (by kernel_rfl) rfl ⟨⟨_, _, _, rfl, ?_, rfl, rd6⟩, ⟨_, _, _, rfl, ?_, rfl, rd8⟩, ⟨_, _, _, rfl, ?_, rfl, rd10⟩, trivial⟩
 exact WL.run ht hn 1 _ (by kernel_rfl) WL.nilI
 exact WL.run ht hn 1 _ (by kernel_rfl) WL.nilI
 exact WL.run ht hn 1 _ (by kernel_rfl) WL.nilI
 refine RD.have 6 #[false, true, false, false, false, false, false] ⟨[sl 0 (.pptr 0 0 (Bk 0)), sl 4 (.ptr 3 0), sl 10 (.ptr 4 0), sl 12 (.rd (trR rLab e_3)), sl 107 (qrLook1 x), sl 108 (qrLook0 x), sl 109 (I x109), (114, .sv (.agg (RegularEnds.cl y4)))], [.box [.own 1, .gs 2 0] 161 false, rowI 3 intT l1_2, gridI 23 3 intT g2_2, .box [B false, .v (.slice none 0 0), .v (.slice none 0 0)] 272 false, .box (RegularEnds.cl y4) 272 false]⟩ ?_ (fun rd2 => ?_)
 refine RD.succ [0, 2, 3] (by kernel_rfl) rfl ⟨⟨_, _, _, rfl, ?_, rfl, rd5⟩, ⟨_, _, _, rfl, ?_, rfl, rd8⟩, ⟨_, _, _, rfl, ?_, rfl, rd9⟩, trivial⟩
 exact WL.run ht hn 1 _ (by kernel_rfl) WL.nilI
 exact WL.run ht hn 1 _ (by kernel_rfl) WL.nilI
 exact WL.run ht hn 1 _ (by kernel_rfl) WL.nilI
 refine RD.have 6 #[true, false, false, false, false, false, false] ⟨[sl 0 (.pptr 0 0 (Bk 0)), sl 4 (.ptr 3 0), sl 10 (.ptr 4 0), sl 12 (.rd (trR rLab e_3)), sl 107 (qrLook1 x), sl 108 (qrLook0 x), sl 109 (I x109), sl 113 (.ptr 0 0)], [.box [.own 1, .gs 2 0] 161 false, rowI 3 intT l1_2, gridI 23 3 intT g2_2, .box [B false, .v (.slice none 0 0), .v (.slice none 0 0)] 272 false, .box (RegularEnds.cl y4) 272 false]⟩ ?_ (fun rd1 => ?_)
 refine RD.succ [1, 2, 3] (by kernel_rfl) rfl ⟨⟨_, _, _, rfl, ?_, rfl, rd5⟩, ⟨_, _, _, rfl, ?_, rfl, rd6⟩, ⟨_, _, _, rfl, ?_, rfl, rd7⟩, trivial⟩
 exact WL.run ht hn 1 _ (by kernel_rfl) WL.nilI
 exact WL.run ht hn 1 _ (by kernel_rfl) WL.nilI
 exact WL.run ht hn 1 _ (by kernel_rfl) WL.nilI
 refine RD.have 7 #[false, false, false, false, false, false, false] ⟨[sl 0 (.pptr 0 0 (Bk 0)), sl 4 (.ptr 3 0), sl 10 (.ptr 4 0), sl 12 (.rd (trR rLab e_3)), sl 107 (qrLook1 x), sl 108 (qrLook0 x), sl 109 (I x109)], [.box [.own 1, .gs 2 0] 161 false, rowI 3 intT l1_2, gridI 23 3 intT g2_2, .box [B false, .v (.slice none 0 0), .v (.slice none 0 0)] 272 false, .box (RegularEnds.cl y4) 272 false]⟩ ?_ (fun rd0 => ?_)
 refine RD.succ [0, 1, 2, 3] (by kernel_rfl) rfl ⟨⟨_, _, _, rfl, ?_, rfl, rd1⟩, ⟨_, _, _, rfl, ?_, rfl, rd2⟩, ⟨_, _, _, rfl, ?_, rfl, rd3⟩, ⟨_, _, _, rfl, ?_, rfl, rd4⟩, trivial⟩
 exact WL.run ht hn 1 _ (by kernel_rfl) WL.nilI
 exact WL.run ht hn 1 _ (by kernel_rfl) WL.nilI
 exact WL.run ht hn 1 _ (by kernel_rfl) WL.nilI
 exact WL.run ht hn 1 _ (by kernel_rfl) WL.nilI
 exact RD.start rd0 rfl (by kernel_rfl) (sub_ok (by kernel_rfl))
 refine En.region ?_
 refine WL.run ht hn 2 ⟨[sl 0 (.pptr 0 0 (Bk 0)), sl 4 (.ptr 3 0), sl 10 (.ptr 4 0), sl 107 (qrLook1 x), sl 108 (qrLook0 x), sl 109 (I (wr (x109 + 1)))], [.box [.own 1, .gs 2 0] 161 false, rowI 3 intT (((lookR k e_3 l1_2 g2_2).2.1)), gridI 23 3 intT (tieR y4.fLast ((lookR k e_3 l1_2 g2_2).1).fFirst ((lookR k e_3 l1_2 g2_2).2.2)), .box [B false, .v (.slice none 0 0), .v (.slice none 0 0)] 272 false, .box (RegularEnds.cl (bhdR y4 ((lookR k e_3 l1_2 g2_2).1))) 272 false]⟩ (by kernel_rfl) ?_
 refine WL.nil ?_
 exact En.at (I := fun zz => Inv_2 zz.1 zz.2.1 zz.2.2.1 zz.2.2.2 ∧ mu_2 zz.1 zz.2.1 zz.2.2.1 zz.2.2.2 < mu_2 x109 l1_2 g2_2 y4) (T := fun zz => ⟨[sl 0 (.pptr 0 0 (Bk 0)), sl 4 (.ptr 3 0), sl 10 (.ptr 4 0), sl 107 (qrLook1 x), sl 108 (qrLook0 x), sl 109 (I zz.1)], [.box [.own 1, .gs 2 0] 161 false, rowI 3 intT zz.2.1, gridI 23 3 intT zz.2.2.1, .box [B false, .v (.slice none 0 0), .v (.slice none 0 0)] 272 false, .box (RegularEnds.cl zz.2.2.2) 272 false]⟩) ((wr (x109 + 1)), (((lookR k e_3 l1_2 g2_2).2.1)), (tieR y4.fLast ((lookR k e_3 l1_2 g2_2).1).fFirst ((lookR k e_3 l1_2 g2_2).2.2)), (bhdR y4 ((lookR k e_3 l1_2 g2_2).1))) h (by kernel_rfl)
 replace h := h.2 hb
 refine En.exit rfl ?_
 refine En.seq ?_
 refine En.region ?_
 refine WL.run ht hn 2 ⟨[sl 0 (.pptr 0 0 (Bk 0)), sl 4 (.ptr 3 0)], [.box [.own 1, .gs 2 0] 161 false, rowI 3 intT l1_2, gridI 23 3 intT g2_2, .box (RegularEnds.cl y4) 272 false, .gone]⟩ (by kernel_rfl) ?_
 refine WL.nil ?_
 refine En.ret ?_
 exact En.backE [0] ht (y4, l1_2, g2_2) h (by kernel_rfl) (by rfl) rfl
 replace h := h.2 hb
 refine En.skip ?_
 refine En.seq ?_
 refine En.region ?_
 refine WL.run ht hn 2 ⟨[sl 0 (.pptr 0 0 (Bk 0)), sl 4 (.ptr 3 0), sl 121 (.ptr 0 0), sl 122 (.rd (trR rLab x))], [.box [.own 1, .gs 2 0] 161 false, rowI 3 intT lets, gridI 23 3 intT nxt, .box [B false, .v (.slice none 0 0), .v (.slice none 0 0)] 272 false]⟩ (by kernel_rfl) ?_
 refine WL.val hn (by rfl) (val_node (s := .agg [I x.lab.fKind, I x.lab.fLetter, LS (TT rLab) x.kids]) (t := x) (lab := rLab) rLabH rfl (by rfl) rfl rfl) (by rfl) ?_
 refine WL.val hn (by rfl) (val_field (l := [I x.lab.fKind, I x.lab.fLetter, LS (TT rLab) x.kids]) (r := .one (qrLook3 x)) ht rfl (by rfl) (by rfl) (by rfl) (by rfl) (by rfl) (by rfl)) (by rfl) ?_
 refine WL.val hn (by rfl) (val_load (s := .one (qrLook3 x)) ht rfl (by rfl) (by rfl) (by rfl) (by rfl) (by rfl)) (by rfl) ?_
 obtain ⟨e_4, he_4, h⟩ := h
 refine WL.val hn (by rfl) (val_index (T := (TT rLab)) (l := x.kids) (i := 0) ht rfl (by rfl) (by rfl) (by rfl) (by rfl) (by rfl) (by rfl) he_4) (by rfl) ?_
 refine WL.val hn (by rfl) (val_load (s := .one (.rd (trR rLab e_4))) ht rfl (by rfl) (by rfl) (by rfl) (by rfl) (by rfl)) (by rfl) ?_
 have hp := h.1
 replace h := h.2
 refine WL.callE (lkI k ih e_4 lets nxt hp) en158 (caps := []) [0, 1, 2] hn (by rfl) rfl (by rfl) (argsAs (by kernel_rfl) (by rfl)) (by kernel_rfl) (by decide) (by rfl) (by rfl) (fun _ _ => ⟨by rfl, _, by rfl, ?_⟩)
 refine WL.run ht hn 2 ⟨[sl 0 (.pptr 0 0 (Bk 0)), sl 4 (.ptr 3 0), sl 13 (.ptr 4 0)], [.box [.own 1, .gs 2 0] 161 false, rowI 3 intT ((lookR k e_4 lets nxt).2.1), gridI 23 3 intT ((lookR k e_4 lets nxt).2.2), .box [B false, .v (.slice none 0 0), .v (.slice none 0 0)] 272 false, .box (RegularEnds.cl ((lookR k e_4 lets nxt).1)) 272 false]⟩ (by kernel_rfl) ?_
 refine WL.nil ?_
 refine En.seq ?_
 refine En.region ?_
 refine WL.run ht hn 5 ⟨[sl 0 (.pptr 0 0 (Bk 0)), sl 4 (.ptr 3 0), sl 13 (.ptr 4 0), sl 129 (.ptr 0 0), sl 131 (LS intT ((lookR k e_4 lets nxt).1).fLast), sl 133 (LS intT ((lookR k e_4 lets nxt).1).fFirst)], [.box [.own 1, .gs 2 0] 161 false, rowI 3 intT ((lookR k e_4 lets nxt).2.1), gridI 23 3 intT ((lookR k e_4 lets nxt).2.2), .box [B false, .v (.slice none 0 0), .v (.slice none 0 0)] 272 false, .box (RegularEnds.cl ((lookR k e_4 lets nxt).1)) 272 false]⟩ (by kernel_rfl) ?_
 have hp := h.1
 replace h := h.2
 refine WL.callE (rTie_ct ((lookR k e_4 lets nxt).2.1) ((lookR k e_4 lets nxt).2.2) ((lookR k e_4 lets nxt).1).fLast ((lookR k e_4 lets nxt).1).fFirst hp) en212 (caps := []) [0, 1, 2] hn (by rfl) rfl (by rfl) (argsAs (by kernel_rfl) (by rfl)) (by kernel_rfl) (by decide) (by rfl) (by rfl) (fun _ _ => ⟨by rfl, _, by rfl, ?_⟩)
 refine WL.nil ?_
 refine En.seq ?_
 refine En.region ?_
 refine WL.run ht hn 2 ⟨[sl 0 (.pptr 0 0 (Bk 0)), sl 4 (.ptr 3 0), sl 13 (.ptr 4 0)], [.box [.own 1, .gs 2 0] 161 false, rowI 3 intT (((lookR k e_4 lets nxt).2.1)), gridI 23 3 intT (tieR ((lookR k e_4 lets nxt).1).fLast ((lookR k e_4 lets nxt).1).fFirst ((lookR k e_4 lets nxt).2.2)), .box [B false, .v (.slice none 0 0), .v (.slice none 0 0)] 272 false, .box [B true, LS intT ((lookR k e_4 lets nxt).1).fFirst, LS intT ((lookR k e_4 lets nxt).1).fLast] 272 false]⟩ (by kernel_rfl) ?_
 refine WL.nil ?_
 refine En.seq ?_
 refine En.region ?_
 refine WL.run ht hn 2 ⟨[sl 0 (.pptr 0 0 (Bk 0)), sl 4 (.ptr 3 0)], [.box [.own 1, .gs 2 0] 161 false, rowI 3 intT (((lookR k e_4 lets nxt).2.1)), gridI 23 3 intT (tieR ((lookR k e_4 lets nxt).1).fLast ((lookR k e_4 lets nxt).1).fFirst ((lookR k e_4 lets nxt).2.2)), .box [B true, LS intT ((lookR k e_4 lets nxt).1).fFirst, LS intT ((lookR k e_4 lets nxt).1).fLast] 272 false, .gone]⟩ (by kernel_rfl) ?_
 refine WL.nil ?_
 refine En.ret ?_
 exact En.backE [0] ht ((RegularEnds.mk true ((lookR k e_4 lets nxt).1).fFirst ((lookR k e_4 lets nxt).1).fLast), (((lookR k e_4 lets nxt).2.1)), (tieR ((lookR k e_4 lets nxt).1).fLast ((lookR k e_4 lets nxt).1).fFirst ((lookR k e_4 lets nxt).2.2))) h (by kernel_rfl) (by rfl) rfl
theorem rLook_next (k : Nat) (ih : LC k) : LC (k + 1) := fun x lets nxt hp => by
 refine (rLook_walk k lets nxt x ih (fun r => r = lookR (k + 1) x lets nxt) ?_).imp (fun r hr => ⟨(), trivial, by subst hr; rfl, by subst hr; rfl⟩)
 obtain ⟨R, hR⟩ := Option.isSome_iff_exists.1 hp
 have hz : lookR (k + 1) x lets nxt = R := by
  unfold lookR
  rw [hR]
  rfl
 simp only [hz]
 obtain ⟨a, kids⟩ := x
 unfold rLook_vc
 unfold lookS at hR
 split at hR
 ·cases hR
 rename_i hlen
 have gS : ∀ {x l n r}, lookS k x l n = some r → (lookS k x l n).isSome = true ∧ lookR k x l n = r := fun h => ⟨by rw [h]; rfl, by unfold lookR; rw [h]; rfl⟩
 have gT : ∀ {x l n r}, tieS x l n = some r → (tieS x l n).isSome = true ∧ tieR x l n = r := fun h => ⟨by rw [h]; rfl, by unfold tieR; rw [h]; rfl⟩
 refine ⟨fun hb => ?_, fun hb0 => ⟨fun hb => ?_, fun hb1 => ⟨fun hb => ?_, fun hb2 => ⟨fun hb => ?_, fun hb3 => ⟨fun hb => ?_, fun hb4 => ?_⟩⟩⟩⟩⟩
 ·have h0 : a.fKind = 0 := eq_of_beq hb
  rw [if_pos h0] at hR
  cases hR
  rfl
 ·have h0 : ¬ a.fKind = 0 := fun e => by rw [show ((Tr.node a kids).lab.fKind == 0) = true from beq_iff_eq.2 e] at hb0; cases hb0
  have h1 : a.fKind = 1 := eq_of_beq hb
  rw [if_neg h0, if_pos h1] at hR
  cases hR
  rfl
 ·have h0 : ¬ a.fKind = 0 := fun e => by rw [show ((Tr.node a kids).lab.fKind == 0) = true from beq_iff_eq.2 e] at hb0; cases hb0
  have h1 : ¬ a.fKind = 1 := fun e => by rw [show ((Tr.node a kids).lab.fKind == 1) = true from beq_iff_eq.2 e] at hb1; cases hb1
  have h2 : a.fKind = 2 := eq_of_beq hb
  rw [if_neg h0, if_neg h1, if_pos h2] at hR
  split at hR
  ·rename_i hc
   cases hR
   refine ⟨hc.1, hc.2, ?_⟩
   have hw : wr (((lets ++ ([a.fLetter] : List Int)).length : Int) - 1) = (lets.length : Int) := by
    have : (((lets ++ ([a.fLetter] : List Int)).length : Int) - 1) = lets.length := by simp
    rw [this, wr_in (by omega) (by omega)]
   show (RegularEnds.mk false [wr (((lets ++ ([a.fLetter] : List Int)).length : Int) - 1)] [wr (((lets ++ ([a.fLetter] : List Int)).length : Int) - 1)], lets ++ [a.fLetter], nxt ++ List.replicate 1 []) = _
   rw [hw]
   rfl
  ·cases hR
 ·have h0 : ¬ a.fKind = 0 := fun e => by rw [show ((Tr.node a kids).lab.fKind == 0) = true from beq_iff_eq.2 e] at hb0; cases hb0
  have h1 : ¬ a.fKind = 1 := fun e => by rw [show ((Tr.node a kids).lab.fKind == 1) = true from beq_iff_eq.2 e] at hb1; cases hb1
  have h2 : ¬ a.fKind = 2 := fun e => by rw [show ((Tr.node a kids).lab.fKind == 2) = true from beq_iff_eq.2 e] at hb2; cases hb2
  have h3 : a.fKind = 3 := eq_of_beq hb
  rw [if_neg h0, if_neg h1, if_neg h2, if_pos h3] at hR
  refine ⟨fun i l1 g2 y l6 l7 => ∃ n : Nat, i = n ∧ n ≤ kids.length ∧ eithL (lookS k) (kids.drop n) ⟨y, l6, l7⟩ l1 g2 = some R, fun i _ _ _ _ _ => kids.length - i.toNat, ⟨0, rfl, Nat.zero_le _, hR⟩, ?_⟩
  rintro _ l1 g2 y l6 l7 ⟨n, rfl, hn, he⟩
  refine ⟨fun hb => ?_, fun hb => ?_⟩
  ·have hlt : n < kids.length := by have := of_decide_eq_true hb; exact Int.ofNat_lt.1 this
   rw [List.drop_eq_getElem_cons hlt, eithL] at he
   split at he
   ·cases he
   rename_i r hr
   split at he
   ·rename_i hc
    obtain ⟨g1, g2'⟩ := gS hr
    refine ⟨kids[n], by show idx kids (n : Int) = _; simp [idx, hlt], g1, ?_⟩
    rw [g2']
    refine ⟨fun b => b = (y || r.1.fEmpty), ⟨fun e => by rw [e]; rfl, fun e => by rw [e]; rfl⟩, ?_⟩
    rintro _ rfl
    refine ⟨hc.1, hc.2, ⟨n + 1, wr_len (by omega) hlt, hlt, he⟩, ?_⟩
    rw [wr_len (n := kids.length) (by omega) hlt]
    show kids.length - (n + 1) < kids.length - n
    omega
   ·cases he
  ·have hge : kids.length ≤ n := by have := of_decide_eq_false hb; exact Nat.le_of_not_lt fun h => this (Int.ofNat_lt.2 h)
   rw [List.drop_eq_nil_of_le hge, eithL] at he
   cases he
   rfl
 ·have h0 : ¬ a.fKind = 0 := fun e => by rw [show ((Tr.node a kids).lab.fKind == 0) = true from beq_iff_eq.2 e] at hb0; cases hb0
  have h1 : ¬ a.fKind = 1 := fun e => by rw [show ((Tr.node a kids).lab.fKind == 1) = true from beq_iff_eq.2 e] at hb1; cases hb1
  have h2 : ¬ a.fKind = 2 := fun e => by rw [show ((Tr.node a kids).lab.fKind == 2) = true from beq_iff_eq.2 e] at hb2; cases hb2
  have h3 : ¬ a.fKind = 3 := fun e => by rw [show ((Tr.node a kids).lab.fKind == 3) = true from beq_iff_eq.2 e] at hb3; cases hb3
  have h4 : a.fKind = 4 := eq_of_beq hb
  rw [if_neg h0, if_neg h1, if_neg h2, if_neg h3] at hR
  cases kids with
  | nil => cases hR
  | cons x xs =>
   simp only at hR
   split at hR
   ·cases hR
   rename_i r hr
   rw [if_pos h4] at hR
   obtain ⟨g1, g2⟩ := gS hr
   simp only [List.length_cons] at hlen
   refine ⟨x, rfl, g1, ⟨by decide, by show (1 : Int) ≤ ((x :: xs).length : Int); simp only [List.length_cons]; omega, Int.le_refl _⟩, ?_⟩
   rw [g2]
   have hxs : (((Tr.node a (x :: xs)).kids.take (((Tr.node a (x :: xs)).kids.length : Int) : Int).toNat).drop (1 : Int).toNat) = xs := by
    show (((x :: xs).take (((x :: xs).length : Int)).toNat).drop 1) = xs
    rw [Int.toNat_natCast, List.take_length]
    rfl
   rw [hxs]
   refine ⟨fun i l1 g2 e => ∃ n : Nat, i = n ∧ n ≤ xs.length ∧ rowK (lookS k) (xs.drop n) e l1 g2 = some R, fun i _ _ _ => xs.length - i.toNat, ⟨0, rfl, Nat.zero_le _, hR⟩, ?_⟩
   rintro _ l1 g2 e ⟨n, rfl, hn, he⟩
   refine ⟨fun hb => ?_, fun hb => ?_⟩
   ·have hlt : n < xs.length := by have := of_decide_eq_true hb; exact Int.ofNat_lt.1 this
    rw [List.drop_eq_getElem_cons hlt, rowK] at he
    split at he
    ·cases he
    rename_i r2 hr2
    split at he
    ·cases he
    rename_i n2 hn2
    split at he
    ·rename_i hc
     obtain ⟨g3, g4⟩ := gS hr2
     obtain ⟨g5, g6⟩ := gT hn2
     refine ⟨xs[n], by simp [idx, hlt], g3, ?_⟩
     rw [g4]
     refine ⟨⟨g5, hc⟩, ?_⟩
     rw [g6]
     refine ⟨⟨n + 1, wr_len (n := xs.length) (by omega) hlt, hlt, he⟩, ?_⟩
     rw [wr_len (n := xs.length) (by omega) hlt]
     show xs.length - (n + 1) < xs.length - n
     omega
    ·cases he
   ·have hge : xs.length ≤ n := by have := of_decide_eq_false hb; exact Nat.le_of_not_lt fun h => this (Int.ofNat_lt.2 h)
    rw [List.drop_eq_nil_of_le hge, rowK] at he
    cases he
    rfl
 ·have h0 : ¬ a.fKind = 0 := fun e => by rw [show ((Tr.node a kids).lab.fKind == 0) = true from beq_iff_eq.2 e] at hb0; cases hb0
  have h1 : ¬ a.fKind = 1 := fun e => by rw [show ((Tr.node a kids).lab.fKind == 1) = true from beq_iff_eq.2 e] at hb1; cases hb1
  have h2 : ¬ a.fKind = 2 := fun e => by rw [show ((Tr.node a kids).lab.fKind == 2) = true from beq_iff_eq.2 e] at hb2; cases hb2
  have h3 : ¬ a.fKind = 3 := fun e => by rw [show ((Tr.node a kids).lab.fKind == 3) = true from beq_iff_eq.2 e] at hb3; cases hb3
  have h4 : ¬ a.fKind = 4 := fun e => by rw [show ((Tr.node a kids).lab.fKind == 4) = true from beq_iff_eq.2 e] at hb4; cases hb4
  rw [if_neg h0, if_neg h1, if_neg h2, if_neg h3] at hR
  cases kids with
  | nil => cases hR
  | cons x xs =>
   simp only at hR
   split at hR
   ·cases hR
   rename_i r hr
   rw [if_neg h4] at hR
   split at hR
   ·cases hR
   rename_i n2 hn2
   cases hR
   obtain ⟨g1, g2⟩ := gS hr
   obtain ⟨g3, g4⟩ := gT hn2
   refine ⟨x, rfl, g1, ?_⟩
   rw [g2]
   refine ⟨g3, ?_⟩
   rw [g4]
theorem rLook_ct : ∀ k, LC k
 | 0 => fun x lets nxt hp => by simp [lookS] at hp
 | k + 1 => rLook_next k (rLook_ct k)
def rMach_vc (k : Nat) (x : RTr) (Q : (RegularPlaces × (List Bool)) → Prop) : Prop :=
 ((lookS k x ([] : (List Int)) ([] : (List (List Int)))).isSome) ∧
 makeOk (wr ((((lookR k x ([] : (List Int)) ([] : (List (List Int)))).2.1).length : Int) + 1)) (wr ((((lookR k x ([] : (List Int)) ([] : (List (List Int)))).2.1).length : Int) + 1)) 1 ∧
 ∃ (Inv : Int → (List Bool) → Prop) (mu : Int → (List Bool) → Nat), Inv 0 (List.replicate ((wr ((((lookR k x ([] : (List Int)) ([] : (List (List Int)))).2.1).length : Int) + 1))).toNat false) ∧
 ∀ (x26 : Int) (l4 : (List Bool)) , Inv x26 l4 → (IfP (decide (x26 < (((lookR k x ([] : (List Int)) ([] : (List (List Int)))).1).fLast.length : Int))) (∃ e, idx ((lookR k x ([] : (List Int)) ([] : (List (List Int)))).1).fLast x26 = some e ∧
 ∃ e_2, idx l4 e = some e_2 ∧
 (Inv (wr (x26 + 1)) (l4.set (e).toNat true) ∧ mu (wr (x26 + 1)) (l4.set (e).toNat true) < mu x26 l4)) (∃ e_3, idx l4 (((lookR k x ([] : (List Int)) ([] : (List (List Int)))).2.1).length : Int) = some e_3 ∧
 capOk ((lookR k x ([] : (List Int)) ([] : (List (List Int)))).2.2).length (([((lookR k x ([] : (List Int)) ([] : (List (List Int)))).1).fFirst] : (List (List Int))) : (List (List Int))).length 24 ∧
 Q ((RegularPlaces.mk ((lookR k x ([] : (List Int)) ([] : (List (List Int)))).2.1) (((lookR k x ([] : (List Int)) ([] : (List (List Int)))).2.2) ++ ([((lookR k x ([] : (List Int)) ([] : (List (List Int)))).1).fFirst] : (List (List Int))))), (l4.set ((((lookR k x ([] : (List Int)) ([] : (List (List Int)))).2.1).length : Int)).toNat ((lookR k x ([] : (List Int)) ([] : (List (List Int)))).1).fEmpty))))
noncomputable abbrev qrMach0 (k : Nat) (x : RTr) := (lookR k x ([] : (List Int)) ([] : (List (List Int))))
noncomputable abbrev qrMach1 (k : Nat) (x : RTr) := (RegularEnds.cl ((qrMach0 k x).1))
noncomputable abbrev qrMach2 := (List (List Int))
noncomputable abbrev qrMach3 (k : Nat) (x : RTr) := (I (((qrMach0 k x).2.1).length : Int))
noncomputable abbrev qrMach4 (k : Nat) (x : RTr) := (I (((qrMach0 k x).1).fLast.length : Int))
noncomputable abbrev qrMach5 (k : Nat) (x : RTr) := (wr ((((qrMach0 k x).2.1).length : Int) + 1))
noncomputable abbrev qrMach6 (k : Nat) (x : RTr) := (LS intT ((qrMach0 k x).1).fFirst)
noncomputable abbrev qrMach7 (k : Nat) (x : RTr) := (LS intT ((qrMach0 k x).1).fLast)
noncomputable abbrev qrMach8 (k : Nat) (x : RTr) := (LS (lsT intT) ([((qrMach0 k x).1).fFirst] : (qrMach2)))
set_option maxHeartbeats 2000000 in
theorem rMach_walk (k : Nat) (x : RTr) (Q : (RegularPlaces × (List Bool)) → Prop) (h : rMach_vc k x Q) : Ct 73 [.sv (.one (.rd (trR rLab x)))] [] Q (fun (r : (RegularPlaces × (List Bool))) => .tup [.one (.pe (svR (.agg [LS intT r.1.fLetters, LS (lsT intT) r.1.fNext])) 2), .one (LS boolT r.2)]) := by
 have ht := tab_ok
 refine Ct.body Try.func73 rfl rfl rfl rfl (fun c hn => ?_)
 unfold rMach_vc at h
 refine En.seq ?_
 refine En.region ?_
 refine WL.run ht hn 2 ⟨[sl 0 (.rd (trR rLab x))], []⟩ (by kernel_rfl) ?_
 refine WL.nil ?_
 refine En.seq ?_
 refine En.region ?_
 refine WL.run ht hn 3 ⟨[sl 0 (.rd (trR rLab x)), sl 4 (.ptr 0 0)], [.box [.v (.slice none 0 0), .v (.slice none 0 0)] 161 false]⟩ (by kernel_rfl) ?_
 refine WL.nil ?_
 refine En.seq ?_
 refine En.region ?_
 refine WL.run ht hn 2 ⟨[sl 4 (.ptr 0 0), sl 12 (.ptr 0 0), sl 13 (.rd (trR rLab x))], [.box [.v (.slice none 0 0), .v (.slice none 0 0)] 161 false]⟩ (by kernel_rfl) ?_
 refine WL.nilBoxO (T := intT) 0 0 1 3 (by rfl) (by rfl) (by rfl) (by rfl) ?_
 refine WL.nilBoxG (T := intT) 0 1 2 23 3 (by rfl) (by rfl) (by rfl) (by rfl) ?_
 have hp := h.1
 replace h := h.2
 refine WL.callE (rLook_ct k x ([] : (List Int)) ([] : (qrMach2)) hp) en158 (caps := []) [0, 1, 2] hn (by rfl) rfl (by rfl) (argsAs (by kernel_rfl) (by rfl)) (by kernel_rfl) (by decide) (by rfl) (by rfl) (fun _ _ => ⟨by rfl, _, by rfl, ?_⟩)
 refine WL.run ht hn 2 ⟨[sl 4 (.ptr 0 0), sl 5 (.ptr 3 0)], [.box [.own 1, .gs 2 0] 161 false, rowI 3 intT ((qrMach0 k x).2.1), gridI 23 3 intT ((qrMach0 k x).2.2), .box (qrMach1 k x) 272 false]⟩ (by kernel_rfl) ?_
 refine WL.nil ?_
 refine En.seq ?_
 refine En.region ?_
 refine WL.run ht hn 6 ⟨[sl 4 (.ptr 0 0), sl 5 (.ptr 3 0), sl 6 (qrMach3 k x)], [.box [.own 1, .gs 2 0] 161 false, rowI 3 intT ((qrMach0 k x).2.1), gridI 23 3 intT ((qrMach0 k x).2.2), .box (qrMach1 k x) 272 false]⟩ (by kernel_rfl) ?_
 refine WL.nil ?_
 refine En.seq ?_
 refine En.region ?_
 refine WL.run ht hn 2 ⟨[sl 4 (.ptr 0 0), sl 5 (.ptr 3 0), sl 6 (qrMach3 k x), sl 21 (I (qrMach5 k x))], [.box [.own 1, .gs 2 0] 161 false, rowI 3 intT ((qrMach0 k x).2.1), gridI 23 3 intT ((qrMach0 k x).2.2), .box (qrMach1 k x) 272 false]⟩ (by kernel_rfl) ?_
 have hp := h.1
 replace h := h.2
 refine WL.mt0 (K := []) (p := some (4, rowI 4 boolT (List.replicate ((qrMach5 k x)).toNat false))) hn (by rfl) (mt_make (T := boolT) false (zv := (.bool false)) 4 (l := (qrMach5 k x)) (cp := (qrMach5 k x)) ht rfl (by rfl) (by rfl) (by rfl) (by rfl) (by decide) (by rfl) (by rfl) hp.1 hp.2.1 hp.2.2 (hp.le (by decide)) rfl (fun _ => ⟨rfl, trivial⟩)) (by rfl) (by rfl) (by rfl) ?_
 refine WL.run ht hn 1 ⟨[sl 4 (.ptr 0 0), sl 5 (.ptr 3 0), sl 6 (qrMach3 k x), sl 7 (.own 4)], [.box [.own 1, .gs 2 0] 161 false, rowI 3 intT ((qrMach0 k x).2.1), gridI 23 3 intT ((qrMach0 k x).2.2), .box (qrMach1 k x) 272 false, rowI 4 boolT (List.replicate ((qrMach5 k x)).toNat false)]⟩ (by kernel_rfl) ?_
 refine WL.nil ?_
 refine En.seq ?_
 refine En.seq ?_
 refine En.region ?_
 refine WL.run ht hn 4 ⟨[sl 4 (.ptr 0 0), sl 5 (.ptr 3 0), sl 6 (qrMach3 k x), sl 7 (.own 4), sl 24 (qrMach7 k x), sl 25 (qrMach4 k x), sl 26 (I 0)], [.box [.own 1, .gs 2 0] 161 false, rowI 3 intT ((qrMach0 k x).2.1), gridI 23 3 intT ((qrMach0 k x).2.2), .box (qrMach1 k x) 272 false, rowI 4 boolT (List.replicate ((qrMach5 k x)).toNat false)]⟩ (by kernel_rfl) ?_
 refine WL.nil ?_
 refine En.block ?_
 obtain ⟨Inv, mu, h0, hI⟩ := h
 refine En.loop (σ := Int × (List Bool)) (fun zz => Inv zz.1 zz.2) (fun zz => mu zz.1 zz.2) (fun zz => ⟨[sl 4 (.ptr 0 0), sl 5 (.ptr 3 0), sl 6 (qrMach3 k x), sl 7 (.own 4), sl 24 (qrMach7 k x), sl 25 (qrMach4 k x), sl 26 (I zz.1)], [.box [.own 1, .gs 2 0] 161 false, rowI 3 intT ((qrMach0 k x).2.1), gridI 23 3 intT ((qrMach0 k x).2.2), .box (qrMach1 k x) 272 false, rowI 4 boolT zz.2]⟩) (0, (List.replicate ((qrMach5 k x)).toNat false)) h0 (sub_ok (by kernel_rfl)) ?_
 rintro ⟨x26, l4⟩ h
 replace h := hI _ _ h
 show En c ⟨[sl 4 (.ptr 0 0), sl 5 (.ptr 3 0), sl 6 (qrMach3 k x), sl 7 (.own 4), sl 24 (qrMach7 k x), sl 25 (qrMach4 k x), sl 26 (I x26)], [.box [.own 1, .gs 2 0] 161 false, rowI 3 intT ((qrMach0 k x).2.1), gridI 23 3 intT ((qrMach0 k x).2.2), .box (qrMach1 k x) 272 false, rowI 4 boolT l4]⟩ _
 refine En.seq ?_
 refine En.region ?_
 refine WL.run ht hn 1 ⟨[sl 4 (.ptr 0 0), sl 5 (.ptr 3 0), sl 6 (qrMach3 k x), sl 7 (.own 4), sl 24 (qrMach7 k x), sl 25 (qrMach4 k x), sl 26 (I x26), sl 27 (B (decide (x26 < (((qrMach0 k x).1).fLast.length : Int))))], [.box [.own 1, .gs 2 0] 161 false, rowI 3 intT ((qrMach0 k x).2.1), gridI 23 3 intT ((qrMach0 k x).2.2), .box (qrMach1 k x) 272 false, rowI 4 boolT l4]⟩ (by kernel_rfl) ?_
 refine WL.nil ?_
 refine En.seq ?_
 refine En.cond (b := (decide (x26 < (((qrMach0 k x).1).fLast.length : Int)))) (by kernel_rfl) (fun hb => ?_) (fun hb => ?_)
 replace h := h.1 hb
 refine En.skip ?_
 refine En.seq ?_
 refine En.block ?_
 refine En.seq ?_
 refine En.region ?_
 obtain ⟨e, he, h⟩ := h
 refine WL.val hn (by rfl) (val_index (T := intT) (l := ((qrMach0 k x).1).fLast) (i := x26) ht rfl (by rfl) (by rfl) (by rfl) (by rfl) (by rfl) (by rfl) he) (by rfl) ?_
 refine WL.val hn (by rfl) (val_load (s := .one (I e)) ht rfl (by rfl) (by rfl) (by rfl) (by rfl) (by rfl)) (by rfl) ?_
 refine WL.run ht hn 1 ⟨[sl 4 (.ptr 0 0), sl 5 (.ptr 3 0), sl 6 (qrMach3 k x), sl 7 (.own 4), sl 9 (I e), sl 24 (qrMach7 k x), sl 25 (qrMach4 k x), sl 26 (I x26)], [.box [.own 1, .gs 2 0] 161 false, rowI 3 intT ((qrMach0 k x).2.1), gridI 23 3 intT ((qrMach0 k x).2.2), .box (qrMach1 k x) 272 false, rowI 4 boolT l4]⟩ (by kernel_rfl) ?_
 refine WL.nil ?_
 refine En.region ?_
 refine WL.run ht hn 2 ⟨[sl 4 (.ptr 0 0), sl 5 (.ptr 3 0), sl 6 (qrMach3 k x), sl 7 (.own 4), sl 24 (qrMach7 k x), sl 25 (qrMach4 k x), sl 26 (I x26), sl 30 (.own 4), sl 31 (I e)], [.box [.own 1, .gs 2 0] 161 false, rowI 3 intT ((qrMach0 k x).2.1), gridI 23 3 intT ((qrMach0 k x).2.2), .box (qrMach1 k x) 272 false, rowI 4 boolT l4]⟩ (by kernel_rfl) ?_
 obtain ⟨e_2, he_2, h⟩ := h
 refine WL.val hn (by rfl) (val_indexO (T := boolT) (l := l4) (k := e) ht rfl (by rfl) (by rfl) (by rfl) (by rfl) (by decide) (by rfl) (by rfl) (by rfl) he_2) (by rfl) ?_
 refine WL.storeO (T := boolT) (l := l4) (y := true) ht hn (by rfl) rfl (by rfl) (by rfl) (fun _ h => by cases h) (by rfl) (by rfl) (idx_lt he_2) (by rfl) (by rfl) (by rfl) (by rfl) ?_
 refine WL.nil ?_
 refine En.region ?_
 refine WL.run ht hn 2 ⟨[sl 4 (.ptr 0 0), sl 5 (.ptr 3 0), sl 6 (qrMach3 k x), sl 7 (.own 4), sl 24 (qrMach7 k x), sl 25 (qrMach4 k x), sl 26 (I (wr (x26 + 1)))], [.box [.own 1, .gs 2 0] 161 false, rowI 3 intT ((qrMach0 k x).2.1), gridI 23 3 intT ((qrMach0 k x).2.2), .box (qrMach1 k x) 272 false, rowI 4 boolT (l4.set (e).toNat true)]⟩ (by kernel_rfl) ?_
 refine WL.nil ?_
 exact En.at (I := fun zz => Inv zz.1 zz.2 ∧ mu zz.1 zz.2 < mu x26 l4) (T := fun zz => ⟨[sl 4 (.ptr 0 0), sl 5 (.ptr 3 0), sl 6 (qrMach3 k x), sl 7 (.own 4), sl 24 (qrMach7 k x), sl 25 (qrMach4 k x), sl 26 (I zz.1)], [.box [.own 1, .gs 2 0] 161 false, rowI 3 intT ((qrMach0 k x).2.1), gridI 23 3 intT ((qrMach0 k x).2.2), .box (qrMach1 k x) 272 false, rowI 4 boolT zz.2]⟩) ((wr (x26 + 1)), (l4.set (e).toNat true)) h (by kernel_rfl)
 replace h := h.2 hb
 refine En.exit rfl ?_
 refine En.seq ?_
 refine En.region ?_
 refine WL.run ht hn 4 ⟨[sl 4 (.ptr 0 0), sl 5 (.ptr 3 0), sl 7 (.own 4), sl 34 (.own 4), sl 35 (qrMach3 k x), sl 37 (B ((qrMach0 k x).1).fEmpty)], [.box [.own 1, .gs 2 0] 161 false, rowI 3 intT ((qrMach0 k x).2.1), gridI 23 3 intT ((qrMach0 k x).2.2), .box (qrMach1 k x) 272 false, rowI 4 boolT l4]⟩ (by kernel_rfl) ?_
 obtain ⟨e_3, he_3, h⟩ := h
 refine WL.val hn (by rfl) (val_indexO (T := boolT) (l := l4) (k := (((qrMach0 k x).2.1).length : Int)) ht rfl (by rfl) (by rfl) (by rfl) (by rfl) (by decide) (by rfl) (by rfl) (by rfl) he_3) (by rfl) ?_
 refine WL.storeO (T := boolT) (l := l4) (y := ((qrMach0 k x).1).fEmpty) ht hn (by rfl) rfl (by rfl) (by rfl) (fun _ h => by cases h) (by rfl) (by rfl) (idx_lt he_3) (by rfl) (by rfl) (by rfl) (by rfl) ?_
 refine WL.nil ?_
 refine En.seq ?_
 have hp_r8 := h.1
 replace h := h.2
 refine En.regionD ⟨[sl 4 (.ptr 0 0), sl 7 (.own 4)], [.box [.own 1, .own 2] 161 false, rowI 3 intT ((qrMach0 k x).2.1), rowI 23 (lsT intT) (((qrMach0 k x).2.2) ++ ([((qrMach0 k x).1).fFirst] : (qrMach2))), .gone, rowI 4 boolT (l4.set ((((qrMach0 k x).2.1).length : Int)).toNat ((qrMach0 k x).1).fEmpty), .gone]⟩ (by kernel_rfl) ?_ ?_
 intro N' hF
 refine RD.have 0 #[true, true, true, true, true, true, true, true, true, true, true, true] ⟨[sl 4 (.ptr 0 0), sl 7 (.own 4)], [.box [.own 1, .own 2] 161 false, rowI 3 intT ((qrMach0 k x).2.1), rowI 23 (lsT intT) (((qrMach0 k x).2.2) ++ ([((qrMach0 k x).1).fFirst] : (qrMach2))), .gone, rowI 4 boolT (l4.set ((((qrMach0 k x).2.1).length : Int)).toNat ((qrMach0 k x).1).fEmpty), .gone]⟩ (RD.nil (by kernel_rfl) hF) (fun rd44 => ?_)
 refine RD.have 1 #[true, true, true, true, true, true, true, true, true, true, true, false] ⟨[sl 4 (.ptr 0 0), sl 7 (.own 4), sl 47 (.own 2), sl 49 (.ptr 0 1)], [.box [.own 1, .junk] 161 false, rowI 3 intT ((qrMach0 k x).2.1), rowI 23 (lsT intT) (((qrMach0 k x).2.2) ++ ([((qrMach0 k x).1).fFirst] : (qrMach2))), .gone, rowI 4 boolT (l4.set ((((qrMach0 k x).2.1).length : Int)).toNat ((qrMach0 k x).1).fEmpty), .gone]⟩ ?_ (fun rd43 => ?_)
 refine RD.succ [11] (by kernel_rfl) rfl ⟨⟨_, _, _, rfl, ?_, rfl, rd44⟩, trivial⟩
 exact WL.run ht hn 1 _ (by kernel_rfl) WL.nilI
 refine RD.have 2 #[true, true, true, true, true, true, true, true, true, true, false, false] ⟨[sl 4 (.ptr 0 0), sl 7 (.own 4), sl 47 (.own 2), sl 48 (.ptr 0 0)], [.box [.own 1, .junk] 161 false, rowI 3 intT ((qrMach0 k x).2.1), rowI 23 (lsT intT) (((qrMach0 k x).2.2) ++ ([((qrMach0 k x).1).fFirst] : (qrMach2))), .gone, rowI 4 boolT (l4.set ((((qrMach0 k x).2.1).length : Int)).toNat ((qrMach0 k x).1).fEmpty), .gone]⟩ ?_ (fun rd42 => ?_)
 refine RD.succ [10] (by kernel_rfl) rfl ⟨⟨_, _, _, rfl, ?_, rfl, rd43⟩, trivial⟩
 exact WL.run ht hn 1 _ (by kernel_rfl) WL.nilI
 refine RD.have 3 #[true, true, true, true, true, true, true, true, true, false, false, false] ⟨[sl 4 (.ptr 0 0), sl 7 (.own 4), sl 39 (.ptr 0 0), sl 47 (.own 2)], [.box [.own 1, .junk] 161 false, rowI 3 intT ((qrMach0 k x).2.1), rowI 23 (lsT intT) (((qrMach0 k x).2.2) ++ ([((qrMach0 k x).1).fFirst] : (qrMach2))), .gone, rowI 4 boolT (l4.set ((((qrMach0 k x).2.1).length : Int)).toNat ((qrMach0 k x).1).fEmpty), .gone]⟩ ?_ (fun rd41 => ?_)
 refine RD.succ [9] (by kernel_rfl) rfl ⟨⟨_, _, _, rfl, ?_, rfl, rd42⟩, trivial⟩
 exact WL.run ht hn 1 _ (by kernel_rfl) WL.nilI
 refine RD.have 4 #[false, true, true, true, true, true, true, true, true, false, false, false] ⟨[sl 4 (.ptr 0 0), sl 7 (.own 4), sl 47 (.own 2)], [.box [.own 1, .junk] 161 false, rowI 3 intT ((qrMach0 k x).2.1), rowI 23 (lsT intT) (((qrMach0 k x).2.2) ++ ([((qrMach0 k x).1).fFirst] : (qrMach2))), .gone, rowI 4 boolT (l4.set ((((qrMach0 k x).2.1).length : Int)).toNat ((qrMach0 k x).1).fEmpty), .gone]⟩ ?_ (fun rd40 => ?_)
 refine RD.succ [0] (by kernel_rfl) rfl ⟨⟨_, _, _, rfl, ?_, rfl, rd41⟩, trivial⟩
 exact WL.run ht hn 1 _ (by kernel_rfl) WL.nilI
 refine RD.have 4 #[true, true, true, true, true, true, true, true, false, false, false, false] ⟨[sl 4 (.ptr 0 0), sl 7 (.own 4), sl 39 (.ptr 0 0), sl 43 (.gs 2 0), sl 46 (.own 5)], [.box [.own 1, .gs 2 0] 161 false, rowI 3 intT ((qrMach0 k x).2.1), gridI 23 3 intT ((qrMach0 k x).2.2), .gone, rowI 4 boolT (l4.set ((((qrMach0 k x).2.1).length : Int)).toNat ((qrMach0 k x).1).fEmpty), rowI 23 (lsT intT) ([((qrMach0 k x).1).fFirst] : (qrMach2))]⟩ ?_ (fun rd39 => ?_)
 refine RD.succ [8] (by kernel_rfl) rfl ⟨⟨_, _, _, rfl, ?_, rfl, rd41⟩, trivial⟩
 refine WL.sub ⟨[sl 4 (.ptr 0 0), sl 7 (.own 4), sl 39 (.ptr 0 0), sl 43 (.gs 2 0), sl 46 (.own 5)], [.box [.own 1, .gs 2 0] 161 false, rowI 3 intT ((qrMach0 k x).2.1), gridI 23 3 intT ((qrMach0 k x).2.2), .gone, rowI 4 boolT (l4.set ((((qrMach0 k x).2.1).length : Int)).toNat ((qrMach0 k x).1).fEmpty), rowI 23 (lsT intT) ([((qrMach0 k x).1).fFirst] : (qrMach2))]⟩ (by kernel_rfl) ?_
 refine WL.sealRows (T := intT) (L := ((qrMach0 k x).2.2)) 2 (by rfl) (by rfl) (by rfl) ?_
 refine WL.sub ⟨[sl 4 (.ptr 0 0), sl 7 (.own 4), sl 39 (.ptr 0 0), sl 43 (.own 2), sl 46 (.own 5)], [.box [.own 1, .own 2] 161 false, rowI 3 intT ((qrMach0 k x).2.1), rowI 23 (lsT intT) ((qrMach0 k x).2.2), .gone, rowI 4 boolT (l4.set ((((qrMach0 k x).2.1).length : Int)).toNat ((qrMach0 k x).1).fEmpty), rowI 23 (lsT intT) ([((qrMach0 k x).1).fFirst] : (qrMach2))]⟩ (by kernel_rfl) ?_
 refine WL.seal (T := (lsT intT)) (l := ([((qrMach0 k x).1).fFirst] : (qrMach2))) (e := 23) 5 rfl ?_
 refine WL.run ht hn 0 ⟨[sl 4 (.ptr 0 0), sl 7 (.own 4), sl 39 (.ptr 0 0), sl 43 (.own 2), sl 46 (qrMach8 k x)], [.box [.own 1, .own 2] 161 false, rowI 3 intT ((qrMach0 k x).2.1), rowI 23 (lsT intT) ((qrMach0 k x).2.2), .gone, rowI 4 boolT (l4.set ((((qrMach0 k x).2.1).length : Int)).toNat ((qrMach0 k x).1).fEmpty), .gone]⟩ (by kernel_rfl) ?_
 refine WL.junk 0 1 (by rfl) ?_
 refine WL.mt (S2 := ⟨[sl 4 (.ptr 0 0), sl 7 (.own 4), sl 39 (.ptr 0 0), sl 46 (qrMach8 k x)], [.box [.own 1, .junk] 161 false, rowI 3 intT ((qrMach0 k x).2.1), rowI 23 (lsT intT) ((qrMach0 k x).2.2), .gone, rowI 4 boolT (l4.set ((((qrMach0 k x).2.1).length : Int)).toNat ((qrMach0 k x).1).fEmpty), .gone]⟩) (K := [2]) (p := some (2, rowI 23 (lsT intT) (((qrMach0 k x).2.2) ++ ([((qrMach0 k x).1).fFirst] : (qrMach2))))) hn (by rfl) (mt_append (T := (lsT intT)) (l := ((qrMach0 k x).2.2)) (es := ([((qrMach0 k x).1).fFirst] : (qrMach2))) ht rfl (by rfl) (by rfl) (by rfl) (by rfl) (by decide) (by rfl) (by rfl) (srcLS (T := (lsT intT)) (es := ([((qrMach0 k x).1).fFirst] : (qrMach2))) (fun _ h => by cases h) (by decide) (by rfl)) (by exact hp_r8) (by exact hp_r8.le (by decide))) (by kernel_rfl) (by rfl) (by rfl) (by rfl) ?_
 refine WL.nil ?_
 exact sub_ok (by kernel_rfl)
 refine RD.have 5 #[false, true, true, true, true, true, true, true, false, false, false, false] ⟨[sl 4 (.ptr 0 0), sl 7 (.own 4), sl 43 (.gs 2 0), sl 46 (.own 5)], [.box [.own 1, .gs 2 0] 161 false, rowI 3 intT ((qrMach0 k x).2.1), gridI 23 3 intT ((qrMach0 k x).2.2), .gone, rowI 4 boolT (l4.set ((((qrMach0 k x).2.1).length : Int)).toNat ((qrMach0 k x).1).fEmpty), rowI 23 (lsT intT) ([((qrMach0 k x).1).fFirst] : (qrMach2))]⟩ ?_ (fun rd38 => ?_)
 refine RD.succ [0, 8] (by kernel_rfl) rfl ⟨⟨_, _, _, rfl, ?_, rfl, rd39⟩, ⟨_, _, _, rfl, ?_, rfl, rd40⟩, trivial⟩
 exact WL.run ht hn 1 _ (by kernel_rfl) WL.nilI
 refine WL.sub ⟨[sl 4 (.ptr 0 0), sl 7 (.own 4), sl 43 (.gs 2 0), sl 46 (.own 5)], [.box [.own 1, .gs 2 0] 161 false, rowI 3 intT ((qrMach0 k x).2.1), gridI 23 3 intT ((qrMach0 k x).2.2), .gone, rowI 4 boolT (l4.set ((((qrMach0 k x).2.1).length : Int)).toNat ((qrMach0 k x).1).fEmpty), rowI 23 (lsT intT) ([((qrMach0 k x).1).fFirst] : (qrMach2))]⟩ (by kernel_rfl) ?_
 refine WL.sealRows (T := intT) (L := ((qrMach0 k x).2.2)) 2 (by rfl) (by rfl) (by rfl) ?_
 refine WL.sub ⟨[sl 4 (.ptr 0 0), sl 7 (.own 4), sl 43 (.own 2), sl 46 (.own 5)], [.box [.own 1, .own 2] 161 false, rowI 3 intT ((qrMach0 k x).2.1), rowI 23 (lsT intT) ((qrMach0 k x).2.2), .gone, rowI 4 boolT (l4.set ((((qrMach0 k x).2.1).length : Int)).toNat ((qrMach0 k x).1).fEmpty), rowI 23 (lsT intT) ([((qrMach0 k x).1).fFirst] : (qrMach2))]⟩ (by kernel_rfl) ?_
 refine WL.seal (T := (lsT intT)) (l := ([((qrMach0 k x).1).fFirst] : (qrMach2))) (e := 23) 5 rfl ?_
 refine WL.run ht hn 0 ⟨[sl 4 (.ptr 0 0), sl 7 (.own 4), sl 43 (.own 2), sl 46 (qrMach8 k x)], [.box [.own 1, .own 2] 161 false, rowI 3 intT ((qrMach0 k x).2.1), rowI 23 (lsT intT) ((qrMach0 k x).2.2), .gone, rowI 4 boolT (l4.set ((((qrMach0 k x).2.1).length : Int)).toNat ((qrMach0 k x).1).fEmpty), .gone]⟩ (by kernel_rfl) ?_
 refine WL.junk 0 1 (by rfl) ?_
 refine WL.mt (S2 := ⟨[sl 4 (.ptr 0 0), sl 7 (.own 4), sl 46 (qrMach8 k x)], [.box [.own 1, .junk] 161 false, rowI 3 intT ((qrMach0 k x).2.1), rowI 23 (lsT intT) ((qrMach0 k x).2.2), .gone, rowI 4 boolT (l4.set ((((qrMach0 k x).2.1).length : Int)).toNat ((qrMach0 k x).1).fEmpty), .gone]⟩) (K := [2]) (p := some (2, rowI 23 (lsT intT) (((qrMach0 k x).2.2) ++ ([((qrMach0 k x).1).fFirst] : (qrMach2))))) hn (by rfl) (mt_append (T := (lsT intT)) (l := ((qrMach0 k x).2.2)) (es := ([((qrMach0 k x).1).fFirst] : (qrMach2))) ht rfl (by rfl) (by rfl) (by rfl) (by rfl) (by decide) (by rfl) (by rfl) (srcLS (T := (lsT intT)) (es := ([((qrMach0 k x).1).fFirst] : (qrMach2))) (fun _ h => by cases h) (by decide) (by rfl)) (by exact hp_r8) (by exact hp_r8.le (by decide))) (by kernel_rfl) (by rfl) (by rfl) (by rfl) ?_
 refine WL.nil ?_
 exact sub_ok (by kernel_rfl)
 refine RD.have 5 #[true, true, true, true, false, true, true, true, false, false, false, false] ⟨[sl 4 (.ptr 0 0), sl 7 (.own 4), sl 39 (.ptr 0 0), sl 42 (.ptr 0 1), sl 46 (.own 5)], [.box [.own 1, .gs 2 0] 161 false, rowI 3 intT ((qrMach0 k x).2.1), gridI 23 3 intT ((qrMach0 k x).2.2), .gone, rowI 4 boolT (l4.set ((((qrMach0 k x).2.1).length : Int)).toNat ((qrMach0 k x).1).fEmpty), rowI 23 (lsT intT) ([((qrMach0 k x).1).fFirst] : (qrMach2))]⟩ ?_ (fun rd37 => ?_)
 refine RD.succ [4] (by kernel_rfl) rfl ⟨⟨_, _, _, rfl, ?_, rfl, rd39⟩, trivial⟩
 exact WL.run ht hn 1 _ (by kernel_rfl) WL.nilI
 refine RD.have 5 #[true, true, true, true, true, true, true, false, false, false, false, false] ⟨[sl 4 (.ptr 0 0), sl 7 (.own 4), sl 39 (.ptr 0 0), sl 43 (.gs 2 0), sl 45 (qrMach6 k x)], [.box [.own 1, .gs 2 0] 161 false, rowI 3 intT ((qrMach0 k x).2.1), gridI 23 3 intT ((qrMach0 k x).2.2), .gone, rowI 4 boolT (l4.set ((((qrMach0 k x).2.1).length : Int)).toNat ((qrMach0 k x).1).fEmpty)]⟩ ?_ (fun rd36 => ?_)
 refine RD.succ [7] (by kernel_rfl) rfl ⟨⟨_, _, _, rfl, ?_, rfl, rd39⟩, trivial⟩
 refine WL.mt0 (K := []) (p := some (5, rowI 23 (lsT intT) ([((qrMach0 k x).1).fFirst] : (qrMach2)))) hn (by rfl) (mt_lit (T := (lsT intT)) ([((qrMach0 k x).1).fFirst] : (qrMach2)) (mt_bsl 5 (r := cellsOf (lsT intT) ([((qrMach0 k x).1).fFirst] : (qrMach2))) ht rfl (by rfl) (by rfl) (by rfl) (by kernel_rfl) (by rfl)) (fun _ h => by cases h) (fun _ => rfl) (fun _ => rfl) (by rfl) (Nat.le_of_ble_eq_true rfl)) (by rfl) (by rfl) (by rfl) ?_
 refine WL.nil ?_
 exact sub_ok (by kernel_rfl)
 refine RD.have 6 #[false, true, true, true, false, true, true, true, false, false, false, false] ⟨[sl 4 (.ptr 0 0), sl 7 (.own 4), sl 42 (.ptr 0 1), sl 46 (.own 5)], [.box [.own 1, .gs 2 0] 161 false, rowI 3 intT ((qrMach0 k x).2.1), gridI 23 3 intT ((qrMach0 k x).2.2), .gone, rowI 4 boolT (l4.set ((((qrMach0 k x).2.1).length : Int)).toNat ((qrMach0 k x).1).fEmpty), rowI 23 (lsT intT) ([((qrMach0 k x).1).fFirst] : (qrMach2))]⟩ ?_ (fun rd35 => ?_)
 refine RD.succ [0, 4] (by kernel_rfl) rfl ⟨⟨_, _, _, rfl, ?_, rfl, rd37⟩, ⟨_, _, _, rfl, ?_, rfl, rd38⟩, trivial⟩
 exact WL.run ht hn 1 _ (by kernel_rfl) WL.nilI
 exact WL.run ht hn 1 _ (by kernel_rfl) WL.nilI
 refine RD.have 6 #[false, true, true, true, true, true, true, false, false, false, false, false] ⟨[sl 4 (.ptr 0 0), sl 7 (.own 4), sl 43 (.gs 2 0), sl 45 (qrMach6 k x)], [.box [.own 1, .gs 2 0] 161 false, rowI 3 intT ((qrMach0 k x).2.1), gridI 23 3 intT ((qrMach0 k x).2.2), .gone, rowI 4 boolT (l4.set ((((qrMach0 k x).2.1).length : Int)).toNat ((qrMach0 k x).1).fEmpty)]⟩ ?_ (fun rd34 => ?_)
 refine RD.succ [0, 7] (by kernel_rfl) rfl ⟨⟨_, _, _, rfl, ?_, rfl, rd36⟩, ⟨_, _, _, rfl, ?_, rfl, rd38⟩, trivial⟩
 exact WL.run ht hn 1 _ (by kernel_rfl) WL.nilI
 refine WL.mt0 (K := []) (p := some (5, rowI 23 (lsT intT) ([((qrMach0 k x).1).fFirst] : (qrMach2)))) hn (by rfl) (mt_lit (T := (lsT intT)) ([((qrMach0 k x).1).fFirst] : (qrMach2)) (mt_bsl 5 (r := cellsOf (lsT intT) ([((qrMach0 k x).1).fFirst] : (qrMach2))) ht rfl (by rfl) (by rfl) (by rfl) (by kernel_rfl) (by rfl)) (fun _ h => by cases h) (fun _ => rfl) (fun _ => rfl) (by rfl) (Nat.le_of_ble_eq_true rfl)) (by rfl) (by rfl) (by rfl) ?_
 refine WL.nil ?_
 exact sub_ok (by kernel_rfl)
 refine RD.have 6 #[true, true, true, false, false, true, true, true, false, false, false, false] ⟨[sl 4 (.ptr 0 0), sl 7 (.own 4), sl 39 (.ptr 0 0), sl 41 (.ptr 0 0), sl 46 (.own 5)], [.box [.own 1, .gs 2 0] 161 false, rowI 3 intT ((qrMach0 k x).2.1), gridI 23 3 intT ((qrMach0 k x).2.2), .gone, rowI 4 boolT (l4.set ((((qrMach0 k x).2.1).length : Int)).toNat ((qrMach0 k x).1).fEmpty), rowI 23 (lsT intT) ([((qrMach0 k x).1).fFirst] : (qrMach2))]⟩ ?_ (fun rd33 => ?_)
 refine RD.succ [3] (by kernel_rfl) rfl ⟨⟨_, _, _, rfl, ?_, rfl, rd37⟩, trivial⟩
 exact WL.run ht hn 1 _ (by kernel_rfl) WL.nilI
 refine RD.have 6 #[true, true, true, true, false, true, true, false, false, false, false, false] ⟨[sl 4 (.ptr 0 0), sl 7 (.own 4), sl 39 (.ptr 0 0), sl 42 (.ptr 0 1), sl 45 (qrMach6 k x)], [.box [.own 1, .gs 2 0] 161 false, rowI 3 intT ((qrMach0 k x).2.1), gridI 23 3 intT ((qrMach0 k x).2.2), .gone, rowI 4 boolT (l4.set ((((qrMach0 k x).2.1).length : Int)).toNat ((qrMach0 k x).1).fEmpty)]⟩ ?_ (fun rd32 => ?_)
 refine RD.succ [4, 7] (by kernel_rfl) rfl ⟨⟨_, _, _, rfl, ?_, rfl, rd36⟩, ⟨_, _, _, rfl, ?_, rfl, rd37⟩, trivial⟩
 exact WL.run ht hn 1 _ (by kernel_rfl) WL.nilI
 refine WL.mt0 (K := []) (p := some (5, rowI 23 (lsT intT) ([((qrMach0 k x).1).fFirst] : (qrMach2)))) hn (by rfl) (mt_lit (T := (lsT intT)) ([((qrMach0 k x).1).fFirst] : (qrMach2)) (mt_bsl 5 (r := cellsOf (lsT intT) ([((qrMach0 k x).1).fFirst] : (qrMach2))) ht rfl (by rfl) (by rfl) (by rfl) (by kernel_rfl) (by rfl)) (fun _ h => by cases h) (fun _ => rfl) (fun _ => rfl) (by rfl) (Nat.le_of_ble_eq_true rfl)) (by rfl) (by rfl) (by rfl) ?_
 refine WL.nil ?_
 exact sub_ok (by kernel_rfl)
 refine RD.have 6 #[true, true, true, true, true, true, false, false, false, false, false, false] ⟨[sl 4 (.ptr 0 0), sl 7 (.own 4), sl 39 (.ptr 0 0), sl 43 (.gs 2 0), sl 44 (.ptr 3 1)], [.box [.own 1, .gs 2 0] 161 false, rowI 3 intT ((qrMach0 k x).2.1), gridI 23 3 intT ((qrMach0 k x).2.2), .box (qrMach1 k x) 272 false, rowI 4 boolT (l4.set ((((qrMach0 k x).2.1).length : Int)).toNat ((qrMach0 k x).1).fEmpty)]⟩ ?_ (fun rd31 => ?_)
 refine RD.succ [6] (by kernel_rfl) rfl ⟨⟨_, _, _, rfl, ?_, rfl, rd36⟩, trivial⟩
 exact WL.run ht hn 1 _ (by kernel_rfl) WL.nilI
 refine RD.have 7 #[false, true, true, false, false, true, true, true, false, false, false, false] ⟨[sl 4 (.ptr 0 0), sl 7 (.own 4), sl 41 (.ptr 0 0), sl 46 (.own 5)], [.box [.own 1, .gs 2 0] 161 false, rowI 3 intT ((qrMach0 k x).2.1), gridI 23 3 intT ((qrMach0 k x).2.2), .gone, rowI 4 boolT (l4.set ((((qrMach0 k x).2.1).length : Int)).toNat ((qrMach0 k x).1).fEmpty), rowI 23 (lsT intT) ([((qrMach0 k x).1).fFirst] : (qrMach2))]⟩ ?_ (fun rd30 => ?_)
 refine RD.succ [0, 3] (by kernel_rfl) rfl ⟨⟨_, _, _, rfl, ?_, rfl, rd33⟩, ⟨_, _, _, rfl, ?_, rfl, rd35⟩, trivial⟩
 exact WL.run ht hn 1 _ (by kernel_rfl) WL.nilI
 exact WL.run ht hn 1 _ (by kernel_rfl) WL.nilI
 refine RD.have 7 #[false, true, true, true, false, true, true, false, false, false, false, false] ⟨[sl 4 (.ptr 0 0), sl 7 (.own 4), sl 42 (.ptr 0 1), sl 45 (qrMach6 k x)], [.box [.own 1, .gs 2 0] 161 false, rowI 3 intT ((qrMach0 k x).2.1), gridI 23 3 intT ((qrMach0 k x).2.2), .gone, rowI 4 boolT (l4.set ((((qrMach0 k x).2.1).length : Int)).toNat ((qrMach0 k x).1).fEmpty)]⟩ ?_ (fun rd29 => ?_)
 refine RD.succ [0, 4, 7] (by kernel_rfl) rfl ⟨⟨_, _, _, rfl, ?_, rfl, rd32⟩, ⟨_, _, _, rfl, ?_, rfl, rd34⟩, ⟨_, _, _, rfl, ?_, rfl, rd35⟩, trivial⟩
 exact WL.run ht hn 1 _ (by kernel_rfl) WL.nilI
 exact WL.run ht hn 1 _ (by kernel_rfl) WL.nilI
 refine WL.mt0 (K := []) (p := some (5, rowI 23 (lsT intT) ([((qrMach0 k x).1).fFirst] : (qrMach2)))) hn (by rfl) (mt_lit (T := (lsT intT)) ([((qrMach0 k x).1).fFirst] : (qrMach2)) (mt_bsl 5 (r := cellsOf (lsT intT) ([((qrMach0 k x).1).fFirst] : (qrMach2))) ht rfl (by rfl) (by rfl) (by rfl) (by kernel_rfl) (by rfl)) (fun _ h => by cases h) (fun _ => rfl) (fun _ => rfl) (by rfl) (Nat.le_of_ble_eq_true rfl)) (by rfl) (by rfl) (by rfl) ?_
 refine WL.nil ?_
 exact sub_ok (by kernel_rfl)
 refine RD.have 7 #[false, true, true, true, true, true, false, false, false, false, false, false] ⟨[sl 4 (.ptr 0 0), sl 7 (.own 4), sl 43 (.gs 2 0), sl 44 (.ptr 3 1)], [.box [.own 1, .gs 2 0] 161 false, rowI 3 intT ((qrMach0 k x).2.1), gridI 23 3 intT ((qrMach0 k x).2.2), .box (qrMach1 k x) 272 false, rowI 4 boolT (l4.set ((((qrMach0 k x).2.1).length : Int)).toNat ((qrMach0 k x).1).fEmpty)]⟩ ?_ (fun rd28 => ?_)
 refine RD.succ [0, 6] (by kernel_rfl) rfl ⟨⟨_, _, _, rfl, ?_, rfl, rd31⟩, ⟨_, _, _, rfl, ?_, rfl, rd34⟩, trivial⟩
 exact WL.run ht hn 1 _ (by kernel_rfl) WL.nilI
 exact WL.run ht hn 1 _ (by kernel_rfl) WL.nilI
 refine RD.have 7 #[true, true, false, false, false, true, true, true, false, false, false, false] ⟨[sl 4 (.ptr 0 0), sl 7 (.own 4), sl 39 (.ptr 0 0), sl 40 (.ptr 0 0), sl 46 (.own 5)], [.box [.own 1, .gs 2 0] 161 false, rowI 3 intT ((qrMach0 k x).2.1), gridI 23 3 intT ((qrMach0 k x).2.2), .gone, rowI 4 boolT (l4.set ((((qrMach0 k x).2.1).length : Int)).toNat ((qrMach0 k x).1).fEmpty), rowI 23 (lsT intT) ([((qrMach0 k x).1).fFirst] : (qrMach2))]⟩ ?_ (fun rd27 => ?_)
 refine RD.succ [2] (by kernel_rfl) rfl ⟨⟨_, _, _, rfl, ?_, rfl, rd33⟩, trivial⟩
 exact WL.run ht hn 1 _ (by kernel_rfl) WL.nilI
 refine RD.have 7 #[true, true, true, false, false, true, true, false, false, false, false, false] ⟨[sl 4 (.ptr 0 0), sl 7 (.own 4), sl 39 (.ptr 0 0), sl 41 (.ptr 0 0), sl 45 (qrMach6 k x)], [.box [.own 1, .gs 2 0] 161 false, rowI 3 intT ((qrMach0 k x).2.1), gridI 23 3 intT ((qrMach0 k x).2.2), .gone, rowI 4 boolT (l4.set ((((qrMach0 k x).2.1).length : Int)).toNat ((qrMach0 k x).1).fEmpty)]⟩ ?_ (fun rd26 => ?_)
 refine RD.succ [3, 7] (by kernel_rfl) rfl ⟨⟨_, _, _, rfl, ?_, rfl, rd32⟩, ⟨_, _, _, rfl, ?_, rfl, rd33⟩, trivial⟩
 exact WL.run ht hn 1 _ (by kernel_rfl) WL.nilI
 refine WL.mt0 (K := []) (p := some (5, rowI 23 (lsT intT) ([((qrMach0 k x).1).fFirst] : (qrMach2)))) hn (by rfl) (mt_lit (T := (lsT intT)) ([((qrMach0 k x).1).fFirst] : (qrMach2)) (mt_bsl 5 (r := cellsOf (lsT intT) ([((qrMach0 k x).1).fFirst] : (qrMach2))) ht rfl (by rfl) (by rfl) (by rfl) (by kernel_rfl) (by rfl)) (fun _ h => by cases h) (fun _ => rfl) (fun _ => rfl) (by rfl) (Nat.le_of_ble_eq_true rfl)) (by rfl) (by rfl) (by rfl) ?_
 refine WL.nil ?_
 exact sub_ok (by kernel_rfl)
 refine RD.have 7 #[true, true, true, true, false, true, false, false, false, false, false, false] ⟨[sl 4 (.ptr 0 0), sl 7 (.own 4), sl 39 (.ptr 0 0), sl 42 (.ptr 0 1), sl 44 (.ptr 3 1)], [.box [.own 1, .gs 2 0] 161 false, rowI 3 intT ((qrMach0 k x).2.1), gridI 23 3 intT ((qrMach0 k x).2.2), .box (qrMach1 k x) 272 false, rowI 4 boolT (l4.set ((((qrMach0 k x).2.1).length : Int)).toNat ((qrMach0 k x).1).fEmpty)]⟩ ?_ (fun rd25 => ?_)
 refine RD.succ [4, 6] (by kernel_rfl) rfl ⟨⟨_, _, _, rfl, ?_, rfl, rd31⟩, ⟨_, _, _, rfl, ?_, rfl, rd32⟩, trivial⟩
 exact WL.run ht hn 1 _ (by kernel_rfl) WL.nilI
 exact WL.run ht hn 1 _ (by kernel_rfl) WL.nilI
 refine RD.have 7 #[true, true, true, true, true, false, false, false, false, false, false, false] ⟨[sl 4 (.ptr 0 0), sl 5 (.ptr 3 0), sl 7 (.own 4), sl 39 (.ptr 0 0), sl 43 (.gs 2 0)], [.box [.own 1, .gs 2 0] 161 false, rowI 3 intT ((qrMach0 k x).2.1), gridI 23 3 intT ((qrMach0 k x).2.2), .box (qrMach1 k x) 272 false, rowI 4 boolT (l4.set ((((qrMach0 k x).2.1).length : Int)).toNat ((qrMach0 k x).1).fEmpty)]⟩ ?_ (fun rd24 => ?_)
 refine RD.succ [5] (by kernel_rfl) rfl ⟨⟨_, _, _, rfl, ?_, rfl, rd31⟩, trivial⟩
 exact WL.run ht hn 1 _ (by kernel_rfl) WL.nilI
 refine RD.have 8 #[false, true, false, false, false, true, true, true, false, false, false, false] ⟨[sl 4 (.ptr 0 0), sl 7 (.own 4), sl 40 (.ptr 0 0), sl 46 (.own 5)], [.box [.own 1, .gs 2 0] 161 false, rowI 3 intT ((qrMach0 k x).2.1), gridI 23 3 intT ((qrMach0 k x).2.2), .gone, rowI 4 boolT (l4.set ((((qrMach0 k x).2.1).length : Int)).toNat ((qrMach0 k x).1).fEmpty), rowI 23 (lsT intT) ([((qrMach0 k x).1).fFirst] : (qrMach2))]⟩ ?_ (fun rd23 => ?_)
 refine RD.succ [0, 2] (by kernel_rfl) rfl ⟨⟨_, _, _, rfl, ?_, rfl, rd27⟩, ⟨_, _, _, rfl, ?_, rfl, rd30⟩, trivial⟩
 exact WL.run ht hn 1 _ (by kernel_rfl) WL.nilI
 exact WL.run ht hn 1 _ (by kernel_rfl) WL.nilI
 refine RD.have 8 #[false, true, true, false, false, true, true, false, false, false, false, false] ⟨[sl 4 (.ptr 0 0), sl 7 (.own 4), sl 41 (.ptr 0 0), sl 45 (qrMach6 k x)], [.box [.own 1, .gs 2 0] 161 false, rowI 3 intT ((qrMach0 k x).2.1), gridI 23 3 intT ((qrMach0 k x).2.2), .gone, rowI 4 boolT (l4.set ((((qrMach0 k x).2.1).length : Int)).toNat ((qrMach0 k x).1).fEmpty)]⟩ ?_ (fun rd22 => ?_)
 refine RD.succ [0, 3, 7] (by kernel_rfl) rfl ⟨⟨_, _, _, rfl, ?_, rfl, rd26⟩, ⟨_, _, _, rfl, ?_, rfl, rd29⟩, ⟨_, _, _, rfl, ?_, rfl, rd30⟩, trivial⟩
 exact WL.run ht hn 1 _ (by kernel_rfl) WL.nilI
 exact WL.run ht hn 1 _ (by kernel_rfl) WL.nilI
 refine WL.mt0 (K := []) (p := some (5, rowI 23 (lsT intT) ([((qrMach0 k x).1).fFirst] : (qrMach2)))) hn (by rfl) (mt_lit (T := (lsT intT)) ([((qrMach0 k x).1).fFirst] : (qrMach2)) (mt_bsl 5 (r := cellsOf (lsT intT) ([((qrMach0 k x).1).fFirst] : (qrMach2))) ht rfl (by rfl) (by rfl) (by rfl) (by kernel_rfl) (by rfl)) (fun _ h => by cases h) (fun _ => rfl) (fun _ => rfl) (by rfl) (Nat.le_of_ble_eq_true rfl)) (by rfl) (by rfl) (by rfl) ?_
 refine WL.nil ?_
 exact sub_ok (by kernel_rfl)
 refine RD.have 8 #[false, true, true, true, false, true, false, false, false, false, false, false] ⟨[sl 4 (.ptr 0 0), sl 7 (.own 4), sl 42 (.ptr 0 1), sl 44 (.ptr 3 1)], [.box [.own 1, .gs 2 0] 161 false, rowI 3 intT ((qrMach0 k x).2.1), gridI 23 3 intT ((qrMach0 k x).2.2), .box (qrMach1 k x) 272 false, rowI 4 boolT (l4.set ((((qrMach0 k x).2.1).length : Int)).toNat ((qrMach0 k x).1).fEmpty)]⟩ ?_ (fun rd21 => ?_)
 refine RD.succ [0, 4, 6] (by kernel_rfl) rfl ⟨⟨_, _, _, rfl, ?_, rfl, rd25⟩, ⟨_, _, _, rfl, ?_, rfl, rd28⟩, ⟨_, _, _, rfl, ?_, rfl, rd29⟩, trivial⟩
 exact WL.run ht hn 1 _ (by kernel_rfl) WL.nilI
 exact WL.run ht hn 1 _ (by kernel_rfl) WL.nilI
 exact WL.run ht hn 1 _ (by kernel_rfl) WL.nilI
 refine RD.have 8 #[false, true, true, true, true, false, false, false, false, false, false, false] ⟨[sl 4 (.ptr 0 0), sl 5 (.ptr 3 0), sl 7 (.own 4), sl 43 (.gs 2 0)], [.box [.own 1, .gs 2 0] 161 false, rowI 3 intT ((qrMach0 k x).2.1), gridI 23 3 intT ((qrMach0 k x).2.2), .box (qrMach1 k x) 272 false, rowI 4 boolT (l4.set ((((qrMach0 k x).2.1).length : Int)).toNat ((qrMach0 k x).1).fEmpty)]⟩ ?_ (fun rd20 => ?_)
 refine RD.succ [0, 5] (by kernel_rfl) rfl ⟨⟨_, _, _, rfl, ?_, rfl, rd24⟩, ⟨_, _, _, rfl, ?_, rfl, rd28⟩, trivial⟩
 exact WL.run ht hn 1 _ (by kernel_rfl) WL.nilI
 exact WL.run ht hn 1 _ (by kernel_rfl) WL.nilI
 refine RD.have 8 #[true, false, false, false, false, true, true, true, false, false, false, false] ⟨[sl 4 (.ptr 0 0), sl 7 (.own 4), sl 39 (.ptr 0 0), sl 46 (.own 5)], [.box [.own 1, .gs 2 0] 161 false, rowI 3 intT ((qrMach0 k x).2.1), gridI 23 3 intT ((qrMach0 k x).2.2), .gone, rowI 4 boolT (l4.set ((((qrMach0 k x).2.1).length : Int)).toNat ((qrMach0 k x).1).fEmpty), rowI 23 (lsT intT) ([((qrMach0 k x).1).fFirst] : (qrMach2))]⟩ ?_ (fun rd19 => ?_)
 refine RD.succ [1] (by kernel_rfl) rfl ⟨⟨_, _, _, rfl, ?_, rfl, rd27⟩, trivial⟩
 exact WL.run ht hn 1 _ (by kernel_rfl) WL.nilI
 refine RD.have 8 #[true, true, false, false, false, true, true, false, false, false, false, false] ⟨[sl 4 (.ptr 0 0), sl 7 (.own 4), sl 39 (.ptr 0 0), sl 40 (.ptr 0 0), sl 45 (qrMach6 k x)], [.box [.own 1, .gs 2 0] 161 false, rowI 3 intT ((qrMach0 k x).2.1), gridI 23 3 intT ((qrMach0 k x).2.2), .gone, rowI 4 boolT (l4.set ((((qrMach0 k x).2.1).length : Int)).toNat ((qrMach0 k x).1).fEmpty)]⟩ ?_ (fun rd18 => ?_)
 refine RD.succ [2, 7] (by kernel_rfl) rfl ⟨⟨_, _, _, rfl, ?_, rfl, rd26⟩, ⟨_, _, _, rfl, ?_, rfl, rd27⟩, trivial⟩
 exact WL.run ht hn 1 _ (by kernel_rfl) WL.nilI
 refine WL.mt0 (K := []) (p := some (5, rowI 23 (lsT intT) ([((qrMach0 k x).1).fFirst] : (qrMach2)))) hn (by rfl) (mt_lit (T := (lsT intT)) ([((qrMach0 k x).1).fFirst] : (qrMach2)) (mt_bsl 5 (r := cellsOf (lsT intT) ([((qrMach0 k x).1).fFirst] : (qrMach2))) ht rfl (by rfl) (by rfl) (by rfl) (by kernel_rfl) (by rfl)) (fun _ h => by cases h) (fun _ => rfl) (fun _ => rfl) (by rfl) (Nat.le_of_ble_eq_true rfl)) (by rfl) (by rfl) (by rfl) ?_
 refine WL.nil ?_
 exact sub_ok (by kernel_rfl)
 refine RD.have 8 #[true, true, true, false, false, true, false, false, false, false, false, false] ⟨[sl 4 (.ptr 0 0), sl 7 (.own 4), sl 39 (.ptr 0 0), sl 41 (.ptr 0 0), sl 44 (.ptr 3 1)], [.box [.own 1, .gs 2 0] 161 false, rowI 3 intT ((qrMach0 k x).2.1), gridI 23 3 intT ((qrMach0 k x).2.2), .box (qrMach1 k x) 272 false, rowI 4 boolT (l4.set ((((qrMach0 k x).2.1).length : Int)).toNat ((qrMach0 k x).1).fEmpty)]⟩ ?_ (fun rd17 => ?_)
 refine RD.succ [3, 6] (by kernel_rfl) rfl ⟨⟨_, _, _, rfl, ?_, rfl, rd25⟩, ⟨_, _, _, rfl, ?_, rfl, rd26⟩, trivial⟩
 exact WL.run ht hn 1 _ (by kernel_rfl) WL.nilI
 exact WL.run ht hn 1 _ (by kernel_rfl) WL.nilI
 refine RD.have 8 #[true, true, true, true, false, false, false, false, false, false, false, false] ⟨[sl 4 (.ptr 0 0), sl 5 (.ptr 3 0), sl 7 (.own 4), sl 39 (.ptr 0 0), sl 42 (.ptr 0 1)], [.box [.own 1, .gs 2 0] 161 false, rowI 3 intT ((qrMach0 k x).2.1), gridI 23 3 intT ((qrMach0 k x).2.2), .box (qrMach1 k x) 272 false, rowI 4 boolT (l4.set ((((qrMach0 k x).2.1).length : Int)).toNat ((qrMach0 k x).1).fEmpty)]⟩ ?_ (fun rd16 => ?_)
 refine RD.succ [4, 5] (by kernel_rfl) rfl ⟨⟨_, _, _, rfl, ?_, rfl, rd24⟩, ⟨_, _, _, rfl, ?_, rfl, rd25⟩, trivial⟩
 exact WL.run ht hn 1 _ (by kernel_rfl) WL.nilI
 exact WL.run ht hn 1 _ (by kernel_rfl) WL.nilI
 refine RD.have 9 #[false, false, false, false, false, true, true, true, false, false, false, false] ⟨[sl 4 (.ptr 0 0), sl 7 (.own 4), sl 46 (.own 5)], [.box [.own 1, .gs 2 0] 161 false, rowI 3 intT ((qrMach0 k x).2.1), gridI 23 3 intT ((qrMach0 k x).2.2), .gone, rowI 4 boolT (l4.set ((((qrMach0 k x).2.1).length : Int)).toNat ((qrMach0 k x).1).fEmpty), rowI 23 (lsT intT) ([((qrMach0 k x).1).fFirst] : (qrMach2))]⟩ ?_ (fun rd15 => ?_)
 refine RD.succ [0, 1] (by kernel_rfl) rfl ⟨⟨_, _, _, rfl, ?_, rfl, rd19⟩, ⟨_, _, _, rfl, ?_, rfl, rd23⟩, trivial⟩
 exact WL.run ht hn 1 _ (by kernel_rfl) WL.nilI
 exact WL.run ht hn 1 _ (by kernel_rfl) WL.nilI
 refine RD.have 9 #[false, true, false, false, false, true, true, false, false, false, false, false] ⟨[sl 4 (.ptr 0 0), sl 7 (.own 4), sl 40 (.ptr 0 0), sl 45 (qrMach6 k x)], [.box [.own 1, .gs 2 0] 161 false, rowI 3 intT ((qrMach0 k x).2.1), gridI 23 3 intT ((qrMach0 k x).2.2), .gone, rowI 4 boolT (l4.set ((((qrMach0 k x).2.1).length : Int)).toNat ((qrMach0 k x).1).fEmpty)]⟩ ?_ (fun rd14 => ?_)
 refine RD.succ [0, 2, 7] (by kernel_rfl) rfl ⟨⟨_, _, _, rfl, ?_, rfl, rd18⟩, ⟨_, _, _, rfl, ?_, rfl, rd22⟩, ⟨_, _, _, rfl, ?_, rfl, rd23⟩, trivial⟩
 exact WL.run ht hn 1 _ (by kernel_rfl) WL.nilI
 exact WL.run ht hn 1 _ (by kernel_rfl) WL.nilI
 refine WL.mt0 (K := []) (p := some (5, rowI 23 (lsT intT) ([((qrMach0 k x).1).fFirst] : (qrMach2)))) hn (by rfl) (mt_lit (T := (lsT intT)) ([((qrMach0 k x).1).fFirst] : (qrMach2)) (mt_bsl 5 (r := cellsOf (lsT intT) ([((qrMach0 k x).1).fFirst] : (qrMach2))) ht rfl (by rfl) (by rfl) (by rfl) (by kernel_rfl) (by rfl)) (fun _ h => by cases h) (fun _ => rfl) (fun _ => rfl) (by rfl) (Nat.le_of_ble_eq_true rfl)) (by rfl) (by rfl) (by rfl) ?_
 refine WL.nil ?_
 exact sub_ok (by kernel_rfl)
 refine RD.have 9 #[false, true, true, false, false, true, false, false, false, false, false, false] ⟨[sl 4 (.ptr 0 0), sl 7 (.own 4), sl 41 (.ptr 0 0), sl 44 (.ptr 3 1)], [.box [.own 1, .gs 2 0] 161 false, rowI 3 intT ((qrMach0 k x).2.1), gridI 23 3 intT ((qrMach0 k x).2.2), .box (qrMach1 k x) 272 false, rowI 4 boolT (l4.set ((((qrMach0 k x).2.1).length : Int)).toNat ((qrMach0 k x).1).fEmpty)]⟩ ?_ (fun rd13 => ?_)
 refine RD.succ [0, 3, 6] (by kernel_rfl) rfl ⟨⟨_, _, _, rfl, ?_, rfl, rd17⟩, ⟨_, _, _, rfl, ?_, rfl, rd21⟩, ⟨_, _, _, rfl, ?_, rfl, rd22⟩, trivial⟩
 exact WL.run ht hn 1 _ (by kernel_rfl) WL.nilI
 exact WL.run ht hn 1 _ (by kernel_rfl) WL.nilI
 exact WL.run ht hn 1 _ (by kernel_rfl) WL.nilI
 refine RD.have 9 #[false, true, true, true, false, false, false, false, false, false, false, false] ⟨[sl 4 (.ptr 0 0), sl 5 (.ptr 3 0), sl 7 (.own 4), sl 42 (.ptr 0 1)], [.box [.own 1, .gs 2 0] 161 false, rowI 3 intT ((qrMach0 k x).2.1), gridI 23 3 intT ((qrMach0 k x).2.2), .box (qrMach1 k x) 272 false, rowI 4 boolT (l4.set ((((qrMach0 k x).2.1).length : Int)).toNat ((qrMach0 k x).1).fEmpty)]⟩ ?_ (fun rd12 => ?_)
 refine RD.succ [0, 4, 5] (by kernel_rfl) rfl ⟨⟨_, _, _, rfl, ?_, rfl, rd16⟩, ⟨_, _, _, rfl, ?_, rfl, rd20⟩, ⟨_, _, _, rfl, ?_, rfl, rd21⟩, trivial⟩
 exact WL.run ht hn 1 _ (by kernel_rfl) WL.nilI
 exact WL.run ht hn 1 _ (by kernel_rfl) WL.nilI
 exact WL.run ht hn 1 _ (by kernel_rfl) WL.nilI
 refine RD.have 9 #[true, false, false, false, false, true, true, false, false, false, false, false] ⟨[sl 4 (.ptr 0 0), sl 7 (.own 4), sl 39 (.ptr 0 0), sl 45 (qrMach6 k x)], [.box [.own 1, .gs 2 0] 161 false, rowI 3 intT ((qrMach0 k x).2.1), gridI 23 3 intT ((qrMach0 k x).2.2), .gone, rowI 4 boolT (l4.set ((((qrMach0 k x).2.1).length : Int)).toNat ((qrMach0 k x).1).fEmpty)]⟩ ?_ (fun rd11 => ?_)
 refine RD.succ [1, 7] (by kernel_rfl) rfl ⟨⟨_, _, _, rfl, ?_, rfl, rd18⟩, ⟨_, _, _, rfl, ?_, rfl, rd19⟩, trivial⟩
 exact WL.run ht hn 1 _ (by kernel_rfl) WL.nilI
 refine WL.mt0 (K := []) (p := some (5, rowI 23 (lsT intT) ([((qrMach0 k x).1).fFirst] : (qrMach2)))) hn (by rfl) (mt_lit (T := (lsT intT)) ([((qrMach0 k x).1).fFirst] : (qrMach2)) (mt_bsl 5 (r := cellsOf (lsT intT) ([((qrMach0 k x).1).fFirst] : (qrMach2))) ht rfl (by rfl) (by rfl) (by rfl) (by kernel_rfl) (by rfl)) (fun _ h => by cases h) (fun _ => rfl) (fun _ => rfl) (by rfl) (Nat.le_of_ble_eq_true rfl)) (by rfl) (by rfl) (by rfl) ?_
 refine WL.nil ?_
 exact sub_ok (by kernel_rfl)
 refine RD.have 9 #[true, true, false, false, false, true, false, false, false, false, false, false] ⟨[sl 4 (.ptr 0 0), sl 7 (.own 4), sl 39 (.ptr 0 0), sl 40 (.ptr 0 0), sl 44 (.ptr 3 1)], [.box [.own 1, .gs 2 0] 161 false, rowI 3 intT ((qrMach0 k x).2.1), gridI 23 3 intT ((qrMach0 k x).2.2), .box (qrMach1 k x) 272 false, rowI 4 boolT (l4.set ((((qrMach0 k x).2.1).length : Int)).toNat ((qrMach0 k x).1).fEmpty)]⟩ ?_ (fun rd10 => ?_)
 refine RD.succ [2, 6] (by kernel_rfl) rfl ⟨⟨_, _, _, rfl, ?_, rfl, rd17⟩, ⟨_, _, _, rfl, ?_, rfl, rd18⟩, trivial⟩
 exact WL.run ht hn 1 _ (by kernel_rfl) WL.nilI
 exact WL.run ht hn 1 _ (by kernel_rfl) WL.nilI
 refine RD.have 9 #[true, true, true, false, false, false, false, false, false, false, false, false] ⟨[sl 4 (.ptr 0 0), sl 5 (.ptr 3 0), sl 7 (.own 4), sl 39 (.ptr 0 0), sl 41 (.ptr 0 0)], [.box [.own 1, .gs 2 0] 161 false, rowI 3 intT ((qrMach0 k x).2.1), gridI 23 3 intT ((qrMach0 k x).2.2), .box (qrMach1 k x) 272 false, rowI 4 boolT (l4.set ((((qrMach0 k x).2.1).length : Int)).toNat ((qrMach0 k x).1).fEmpty)]⟩ ?_ (fun rd9 => ?_)
 refine RD.succ [3, 5] (by kernel_rfl) rfl ⟨⟨_, _, _, rfl, ?_, rfl, rd16⟩, ⟨_, _, _, rfl, ?_, rfl, rd17⟩, trivial⟩
 exact WL.run ht hn 1 _ (by kernel_rfl) WL.nilI
 exact WL.run ht hn 1 _ (by kernel_rfl) WL.nilI
 refine RD.have 10 #[false, false, false, false, false, true, true, false, false, false, false, false] ⟨[sl 4 (.ptr 0 0), sl 7 (.own 4), sl 45 (qrMach6 k x)], [.box [.own 1, .gs 2 0] 161 false, rowI 3 intT ((qrMach0 k x).2.1), gridI 23 3 intT ((qrMach0 k x).2.2), .gone, rowI 4 boolT (l4.set ((((qrMach0 k x).2.1).length : Int)).toNat ((qrMach0 k x).1).fEmpty)]⟩ ?_ (fun rd8 => ?_)
 refine RD.succ [0, 1, 7] (by kernel_rfl) rfl ⟨⟨_, _, _, rfl, ?_, rfl, rd11⟩, ⟨_, _, _, rfl, ?_, rfl, rd14⟩, ⟨_, _, _, rfl, ?_, rfl, rd15⟩, trivial⟩
 exact WL.run ht hn 1 _ (by kernel_rfl) WL.nilI
 exact WL.run ht hn 1 _ (by kernel_rfl) WL.nilI
 refine WL.mt0 (K := []) (p := some (5, rowI 23 (lsT intT) ([((qrMach0 k x).1).fFirst] : (qrMach2)))) hn (by rfl) (mt_lit (T := (lsT intT)) ([((qrMach0 k x).1).fFirst] : (qrMach2)) (mt_bsl 5 (r := cellsOf (lsT intT) ([((qrMach0 k x).1).fFirst] : (qrMach2))) ht rfl (by rfl) (by rfl) (by rfl) (by kernel_rfl) (by rfl)) (fun _ h => by cases h) (fun _ => rfl) (fun _ => rfl) (by rfl) (Nat.le_of_ble_eq_true rfl)) (by rfl) (by rfl) (by rfl) ?_
 refine WL.nil ?_
 exact sub_ok (by kernel_rfl)
 refine RD.have 10 #[false, true, false, false, false, true, false, false, false, false, false, false] ⟨[sl 4 (.ptr 0 0), sl 7 (.own 4), sl 40 (.ptr 0 0), sl 44 (.ptr 3 1)], [.box [.own 1, .gs 2 0] 161 false, rowI 3 intT ((qrMach0 k x).2.1), gridI 23 3 intT ((qrMach0 k x).2.2), .box (qrMach1 k x) 272 false, rowI 4 boolT (l4.set ((((qrMach0 k x).2.1).length : Int)).toNat ((qrMach0 k x).1).fEmpty)]⟩ ?_ (fun rd7 => ?_)
 refine RD.succ [0, 2, 6] (by kernel_rfl) rfl ⟨⟨_, _, _, rfl, ?_, rfl, rd10⟩, ⟨_, _, _, rfl, ?_, rfl, rd13⟩, ⟨_, _, _, rfl, ?_, rfl, rd14⟩, trivial⟩
 exact WL.run ht hn 1 _ (by kernel_rfl) WL.nilI
 exact WL.run ht hn 1 _ (by kernel_rfl) WL.nilI
 exact WL.run ht hn 1 _ (by kernel_rfl) WL.nilI
 refine RD.have 10 #[false, true, true, false, false, false, false, false, false, false, false, false] ⟨[sl 4 (.ptr 0 0), sl 5 (.ptr 3 0), sl 7 (.own 4), sl 41 (.ptr 0 0)], [.box [.own 1, .gs 2 0] 161 false, rowI 3 intT ((qrMach0 k x).2.1), gridI 23 3 intT ((qrMach0 k x).2.2), .box (qrMach1 k x) 272 false, rowI 4 boolT (l4.set ((((qrMach0 k x).2.1).length : Int)).toNat ((qrMach0 k x).1).fEmpty)]⟩ ?_ (fun rd6 => ?_)
 refine RD.succ [0, 3, 5] (by kernel_rfl) rfl ⟨⟨_, _, _, rfl, ?_, rfl, rd9⟩, ⟨_, _, _, rfl, ?_, rfl, rd12⟩, ⟨_, _, _, rfl, ?_, rfl, rd13⟩, trivial⟩
 exact WL.run ht hn 1 _ (by kernel_rfl) WL.nilI
 exact WL.run ht hn 1 _ (by kernel_rfl) WL.nilI
 exact WL.run ht hn 1 _ (by kernel_rfl) WL.nilI
 refine RD.have 10 #[true, false, false, false, false, true, false, false, false, false, false, false] ⟨[sl 4 (.ptr 0 0), sl 7 (.own 4), sl 39 (.ptr 0 0), sl 44 (.ptr 3 1)], [.box [.own 1, .gs 2 0] 161 false, rowI 3 intT ((qrMach0 k x).2.1), gridI 23 3 intT ((qrMach0 k x).2.2), .box (qrMach1 k x) 272 false, rowI 4 boolT (l4.set ((((qrMach0 k x).2.1).length : Int)).toNat ((qrMach0 k x).1).fEmpty)]⟩ ?_ (fun rd5 => ?_)
 refine RD.succ [1, 6] (by kernel_rfl) rfl ⟨⟨_, _, _, rfl, ?_, rfl, rd10⟩, ⟨_, _, _, rfl, ?_, rfl, rd11⟩, trivial⟩
 exact WL.run ht hn 1 _ (by kernel_rfl) WL.nilI
 exact WL.run ht hn 1 _ (by kernel_rfl) WL.nilI
 refine RD.have 10 #[true, true, false, false, false, false, false, false, false, false, false, false] ⟨[sl 4 (.ptr 0 0), sl 5 (.ptr 3 0), sl 7 (.own 4), sl 39 (.ptr 0 0), sl 40 (.ptr 0 0)], [.box [.own 1, .gs 2 0] 161 false, rowI 3 intT ((qrMach0 k x).2.1), gridI 23 3 intT ((qrMach0 k x).2.2), .box (qrMach1 k x) 272 false, rowI 4 boolT (l4.set ((((qrMach0 k x).2.1).length : Int)).toNat ((qrMach0 k x).1).fEmpty)]⟩ ?_ (fun rd4 => ?_)
 refine RD.succ [2, 5] (by kernel_rfl) rfl ⟨⟨_, _, _, rfl, ?_, rfl, rd9⟩, ⟨_, _, _, rfl, ?_, rfl, rd10⟩, trivial⟩
 exact WL.run ht hn 1 _ (by kernel_rfl) WL.nilI
 exact WL.run ht hn 1 _ (by kernel_rfl) WL.nilI
 refine RD.have 11 #[false, false, false, false, false, true, false, false, false, false, false, false] ⟨[sl 4 (.ptr 0 0), sl 7 (.own 4), sl 44 (.ptr 3 1)], [.box [.own 1, .gs 2 0] 161 false, rowI 3 intT ((qrMach0 k x).2.1), gridI 23 3 intT ((qrMach0 k x).2.2), .box (qrMach1 k x) 272 false, rowI 4 boolT (l4.set ((((qrMach0 k x).2.1).length : Int)).toNat ((qrMach0 k x).1).fEmpty)]⟩ ?_ (fun rd3 => ?_)
 refine RD.succ [0, 1, 6] (by kernel_rfl) rfl ⟨⟨_, _, _, rfl, ?_, rfl, rd5⟩, ⟨_, _, _, rfl, ?_, rfl, rd7⟩, ⟨_, _, _, rfl, ?_, rfl, rd8⟩, trivial⟩
 exact WL.run ht hn 1 _ (by kernel_rfl) WL.nilI
 exact WL.run ht hn 1 _ (by kernel_rfl) WL.nilI
 exact WL.run ht hn 1 _ (by kernel_rfl) WL.nilI
 refine RD.have 11 #[false, true, false, false, false, false, false, false, false, false, false, false] ⟨[sl 4 (.ptr 0 0), sl 5 (.ptr 3 0), sl 7 (.own 4), sl 40 (.ptr 0 0)], [.box [.own 1, .gs 2 0] 161 false, rowI 3 intT ((qrMach0 k x).2.1), gridI 23 3 intT ((qrMach0 k x).2.2), .box (qrMach1 k x) 272 false, rowI 4 boolT (l4.set ((((qrMach0 k x).2.1).length : Int)).toNat ((qrMach0 k x).1).fEmpty)]⟩ ?_ (fun rd2 => ?_)
 refine RD.succ [0, 2, 5] (by kernel_rfl) rfl ⟨⟨_, _, _, rfl, ?_, rfl, rd4⟩, ⟨_, _, _, rfl, ?_, rfl, rd6⟩, ⟨_, _, _, rfl, ?_, rfl, rd7⟩, trivial⟩
 exact WL.run ht hn 1 _ (by kernel_rfl) WL.nilI
 exact WL.run ht hn 1 _ (by kernel_rfl) WL.nilI
 exact WL.run ht hn 1 _ (by kernel_rfl) WL.nilI
 refine RD.have 11 #[true, false, false, false, false, false, false, false, false, false, false, false] ⟨[sl 4 (.ptr 0 0), sl 5 (.ptr 3 0), sl 7 (.own 4), sl 39 (.ptr 0 0)], [.box [.own 1, .gs 2 0] 161 false, rowI 3 intT ((qrMach0 k x).2.1), gridI 23 3 intT ((qrMach0 k x).2.2), .box (qrMach1 k x) 272 false, rowI 4 boolT (l4.set ((((qrMach0 k x).2.1).length : Int)).toNat ((qrMach0 k x).1).fEmpty)]⟩ ?_ (fun rd1 => ?_)
 refine RD.succ [1, 5] (by kernel_rfl) rfl ⟨⟨_, _, _, rfl, ?_, rfl, rd4⟩, ⟨_, _, _, rfl, ?_, rfl, rd5⟩, trivial⟩
 exact WL.run ht hn 1 _ (by kernel_rfl) WL.nilI
 exact WL.run ht hn 1 _ (by kernel_rfl) WL.nilI
 refine RD.have 12 #[false, false, false, false, false, false, false, false, false, false, false, false] ⟨[sl 4 (.ptr 0 0), sl 5 (.ptr 3 0), sl 7 (.own 4)], [.box [.own 1, .gs 2 0] 161 false, rowI 3 intT ((qrMach0 k x).2.1), gridI 23 3 intT ((qrMach0 k x).2.2), .box (qrMach1 k x) 272 false, rowI 4 boolT (l4.set ((((qrMach0 k x).2.1).length : Int)).toNat ((qrMach0 k x).1).fEmpty)]⟩ ?_ (fun rd0 => ?_)
 refine RD.succ [0, 1, 5] (by kernel_rfl) rfl ⟨⟨_, _, _, rfl, ?_, rfl, rd1⟩, ⟨_, _, _, rfl, ?_, rfl, rd2⟩, ⟨_, _, _, rfl, ?_, rfl, rd3⟩, trivial⟩
 exact WL.run ht hn 1 _ (by kernel_rfl) WL.nilI
 exact WL.run ht hn 1 _ (by kernel_rfl) WL.nilI
 exact WL.run ht hn 1 _ (by kernel_rfl) WL.nilI
 exact RD.start rd0 rfl (by kernel_rfl) (sub_ok (by kernel_rfl))
 refine En.seq ?_
 refine En.region ?_
 refine WL.run ht hn 4 ⟨[sl 2 (.ptr 0 0), sl 3 (.own 4)], [.box [.own 1, .own 2] 161 false, rowI 3 intT ((qrMach0 k x).2.1), rowI 23 (lsT intT) (((qrMach0 k x).2.2) ++ ([((qrMach0 k x).1).fFirst] : (qrMach2))), .gone, rowI 4 boolT (l4.set ((((qrMach0 k x).2.1).length : Int)).toNat ((qrMach0 k x).1).fEmpty), .gone]⟩ (by kernel_rfl) ?_
 refine WL.nil ?_
 refine En.ret ?_
 refine En.seal (T := intT) (l := ((qrMach0 k x).2.1)) (e := 3) 1 rfl ?_
 refine En.seal (T := (lsT intT)) (l := (((qrMach0 k x).2.2) ++ ([((qrMach0 k x).1).fFirst] : (qrMach2)))) (e := 23) 2 rfl ?_
 refine En.freeze [0] (by rfl) ?_
 refine En.ghost 2 (o1 (.pe (svR (.agg [LS intT ((qrMach0 k x).2.1), LS (lsT intT) (((qrMach0 k x).2.2) ++ ([((qrMach0 k x).1).fFirst] : (qrMach2)))])) 2)) (by rfl) (pe_of (i := 0) (cells := [LS intT ((qrMach0 k x).2.1), LS (lsT intT) (((qrMach0 k x).2.2) ++ ([((qrMach0 k x).1).fFirst] : (qrMach2)))]) (by rfl) (by rfl) (by rfl)) ?_
 refine En.seal (T := boolT) (l := (l4.set ((((qrMach0 k x).2.1).length : Int)).toNat ((qrMach0 k x).1).fEmpty)) (e := 4) 4 rfl ?_
 exact En.back ht ((RegularPlaces.mk ((qrMach0 k x).2.1) (((qrMach0 k x).2.2) ++ ([((qrMach0 k x).1).fFirst] : (qrMach2)))), (l4.set ((((qrMach0 k x).2.1).length : Int)).toNat ((qrMach0 k x).1).fEmpty)) h (by kernel_rfl) rfl
theorem en73 : ∀ args w, (callFunc 73 args).run Try.prog w = .ok (.enter 73 args) w := enters_of Try.func73 (by kernel_rfl) rfl
def setsS : List Int → List Bool → Option (List Bool)
 | [], g => some g
 | a :: l, g => match idx g a with
  | none => none
  | some _ => setsS l (g.set a.toNat true)
def machS (k : Nat) (x : RTr) : Option (RegularPlaces × List Bool) := match lookS k x [] [] with
 | none => none
 | some r => if 1048576 < r.2.1.length ∨ 1048576 < r.2.2.length ∨ 1048576 < r.1.fLast.length then none else match setsS r.1.fLast (List.replicate (r.2.1.length + 1) false) with
  | none => none
  | some g => match idx g (r.2.1.length : Int) with
   | none => none
   | some _ => some (⟨r.2.1, r.2.2 ++ [r.1.fFirst]⟩, g.set r.2.1.length r.1.fEmpty)
def machR (k : Nat) (x : RTr) : RegularPlaces × List Bool := (machS k x).getD default
theorem rMach_ct (k : Nat) (x : RTr) (hp : (machS k x).isSome)  : Ct 73 [.sv (.one (.rd (trR rLab x)))] [] (fun (_ : Unit) => True) (fun _ => .tup [.one (.pe (svR (.agg [LS intT (machR k x).1.fLetters, LS (lsT intT) (machR k x).1.fNext])) 2), .one (LS boolT (machR k x).2)]) := by
 refine (rMach_walk k x (fun res_ => res_ = (machR k x)) ?_).fun
 obtain ⟨R, hR⟩ := Option.isSome_iff_exists.1 hp
 have hz : machR k x = R := by
  unfold machR
  rw [hR]
  rfl
 rw [hz]
 unfold machS at hR
 split at hR
 ·cases hR
 rename_i r hr
 split at hR
 ·cases hR
 rename_i hsz
 split at hR
 ·cases hR
 rename_i G hG
 split at hR
 ·cases hR
 rename_i b hb2
 cases hR
 have g2 : lookR k x [] [] = r := by
  unfold lookR
  rw [hr]
  rfl
 unfold rMach_vc
 rw [g2]
 have hw : wr ((r.2.1.length : Int) + 1) = ((r.2.1.length + 1 : Nat) : Int) := by
  rw [wr_in (by omega) (by omega)]
  rfl
 refine ⟨by rw [hr]; rfl, ?_⟩
 rw [hw]
 refine ⟨⟨by omega, Int.le_refl _, by omega⟩, fun i g => ∃ n : Nat, i = n ∧ n ≤ r.1.fLast.length ∧ setsS (r.1.fLast.drop n) g = some G, fun i _ => r.1.fLast.length - i.toNat, ⟨0, rfl, Nat.zero_le _, ?_⟩, ?_⟩
 ·rw [Int.toNat_natCast]
  exact hG
 rintro _ g ⟨n, rfl, hn, he⟩
 refine ⟨fun hb => ?_, fun hb => ?_⟩
 ·have hlt : n < r.1.fLast.length := by have := of_decide_eq_true hb; exact Int.ofNat_lt.1 this
  rw [List.drop_eq_getElem_cons hlt, setsS] at he
  split at he
  ·cases he
  rename_i y hy
  refine ⟨r.1.fLast[n], by simp [idx, hlt], y, hy, ⟨n + 1, wr_len (n := r.1.fLast.length) (by omega) hlt, hlt, he⟩, ?_⟩
  rw [wr_len (n := r.1.fLast.length) (by omega) hlt]
  show r.1.fLast.length - (n + 1) < r.1.fLast.length - n
  omega
 ·have hge : r.1.fLast.length ≤ n := by have := of_decide_eq_false hb; exact Nat.le_of_not_lt fun h => this (Int.ofNat_lt.2 h)
  rw [List.drop_eq_nil_of_le hge, setsS] at he
  cases he
  refine ⟨b, hb2, by show (r.2.2.length + 1) * 24 ≤ _; omega, ?_⟩
  rw [Int.toNat_natCast]
end Go.Proofs.Ytapnmjeadbhffaa


namespace Go.Proofs.Ytapnmjeadbhffaa
open Go.RowKit Go.MapKept
set_option linter.unusedSimpArgs false
set_option linter.unusedVariables false
set_option maxRecDepth 100000
set_option linter.unusedSectionVars false
def BackOk (cls back : List Int) (n : Nat) : Prop := back.length = n ∧ ∀ q, q < n → ∃ p : Nat, p < n ∧ back.getD (cls.getD q 0).toNat 0 = (p : Int) ∧ cls.getD p 0 = cls.getD q 0
section
variable {d : ApiDet} {cls back : List Int}
theorem smGo_at (hb : BackOk cls back d.fNext.length) {q : Nat} (hq : q < d.fNext.length) : ∃ p : Nat, p < d.fNext.length ∧ cls.getD p 0 = cls.getD q 0 ∧ (∀ a : Nat, smGo cls d back (cls.getD q 0) a = cls.getD (stepD d p a) 0) ∧ smMark d back (cls.getD q 0) = d.fMark.getD p 0 := by
 obtain ⟨p, h1, h2, h3⟩ := hb.2 q hq
 refine ⟨p, h1, h3, fun a => ?_, ?_⟩
 ·unfold smGo stepD
  rw [h2, Int.toNat_natCast, Int.toNat_natCast]
 ·unfold smMark
  rw [h2, Int.toNat_natCast]
theorem smLang (h : ClsOk d) (hc : IsClass d cls) (hb : BackOk cls back d.fNext.length) : ∀ (w : List Nat) (q : Nat), q < d.fNext.length → (∀ a ∈ w, a < d.fLetters.toNat) → langK (fun k (a : Nat) => smGo cls d back k (a : Int)) (smMark d back) (cls.getD q 0) w = langD d q w := by
 intro w
 induction w with
 | nil =>
  intro q hq _
  obtain ⟨p, h1, h2, _, h4⟩ := smGo_at hb hq
  show smMark d back (cls.getD q 0) = d.fMark.getD q 0
  rw [h4]
  exact rs_at (w := []) ((hc.same p q h1 hq).1 h2) fun b hb => by simp at hb
 | cons a w ih =>
  intro q hq hw
  obtain ⟨p, h1, h2, h3, _⟩ := smGo_at hb hq
  show langK (fun k (a : Nat) => smGo cls d back k (a : Int)) (smMark d back) (smGo cls d back (cls.getD q 0) a) w = _
  rw [h3, ih (stepD d p a) (h.pre.step h1) fun b hb => hw b (List.mem_cons_of_mem _ hb)]
  exact rs_at (w := a :: w) ((hc.same p q h1 hq).1 h2) hw
theorem smKeys (h : ClsOk d) (hc : IsClass d cls) (hb : BackOk cls back d.fNext.length) {k : Int} (hk : k ∈ cls) (a : Nat) : smGo cls d back k a ∈ cls := by
 obtain ⟨q, hq⟩ := List.getElem?_of_mem hk
 have hlt := (List.getElem?_eq_some_iff.1 hq).1
 rw [hc.len] at hlt
 obtain ⟨p, h1, _, h3, _⟩ := smGo_at (cls := cls) hb hlt
 rw [show k = cls.getD q 0 by simp [hq], h3]
 exact getD_mem (by rw [hc.len]; exact h.pre.step h1)
theorem smCanon (h : ClsOk d) (hc : IsClass d cls) (hb : BackOk cls back d.fNext.length) {q : Nat} (hq : q < d.fNext.length) (limit : Int) (hl : (cls.length : Int) ≤ limit) :
  explR (fun k (a : Nat) => smGo cls d back k (a : Int)) (smMark d back) d.fLetters.toNat (cls.getD q 0) limit = (canon d.fLetters.toNat (langD d q), true) := by
 have h0 : cls.getD q 0 ∈ cls := getD_mem (by rw [hc.len]; exact hq)
 rw [explR_ends h0 (fun k a hk _ => smKeys h hc hb hk a) hl]
 congr 1
 rw [canon_of (P := fun k => k ∈ cls) h0 (fun k a hk _ => smKeys h hc hb hk a) ?_]
 ·exact canon_congr fun w hw => smLang h hc hb w q hq hw
 ·intro x y hx hy e
  obtain ⟨p, hp⟩ := List.getElem?_of_mem hx
  obtain ⟨s, hs⟩ := List.getElem?_of_mem hy
  have hpl := (List.getElem?_eq_some_iff.1 hp).1
  have hsl := (List.getElem?_eq_some_iff.1 hs).1
  rw [hc.len] at hpl hsl
  have ex : x = cls.getD p 0 := by simp [hp]
  have ey : y = cls.getD s 0 := by simp [hs]
  rw [ex, ey] at e ⊢
  refine (hc.same p s hpl hsl).2 (rs_congr fun w hw => ?_)
  rw [← smLang h hc hb w p hpl hw, ← smLang h hc hb w s hsl hw]
  exact rs_at e hw
theorem smDom_at (h : ClsOk d) (hc : IsClass d cls) (hb : BackOk cls back d.fNext.length) {k : Int} (hk : k ∈ cls) : (∀ a : Nat, (a : Int) < d.fLetters → smDom cls d back k a) ∧ smMarkDom d back k := by
 obtain ⟨q, hq⟩ := List.getElem?_of_mem hk
 have hlt := (List.getElem?_eq_some_iff.1 hq).1
 rw [hc.len] at hlt
 obtain ⟨p, h1, h2, h3⟩ := hb.2 q hlt
 have hkr := hc.range k hk
 have ek : k = cls.getD q 0 := by simp [hq]
 rw [← ek] at h2
 have hb1 := hb.1
 have hrow := h.wf.rows _ (getD_mem (l := d.fNext) (z := []) h1)
 have hlet := h.wf.letters
 refine ⟨fun a ha => ?_, ?_⟩
 ·unfold smDom
  rw [h2, Int.toNat_natCast, Int.toNat_natCast, hrow]
  have hn := h.wf.next _ (getD_mem (l := d.fNext) (z := []) h1) _ (getD_mem (l := d.fNext.getD p []) (i := a) (z := 0) (by omega))
  rw [hc.len]
  omega
 ·unfold smMarkDom
  rw [h2, h.wf.mark]
  omega
end
theorem smallest_plain (d : ApiDet) (h : ClsOk d) : smallest_vc d (fun r => r = canon d.fLetters.toNat (langD d d.fStart.toNat)) := by
 intro _ _
 have hsz := h.size
 refine ⟨h, fun cls hc => ⟨⟨by omega, Int.le_refl _, by rw [hc.len]; omega⟩, fun x l => ∃ k : Nat, x = k ∧ k ≤ cls.length ∧ l.length = cls.length ∧ ∀ q, q < k → ∃ p : Nat, p < cls.length ∧ l.getD (cls.getD q 0).toNat 0 = (p : Int) ∧ cls.getD p 0 = cls.getD q 0, fun x _ => cls.length - x.toNat,
  ⟨0, rfl, Nat.zero_le _, by simp, fun q hq => absurd hq (Nat.not_lt_zero _)⟩, ?_⟩⟩
 rintro x l ⟨k, rfl, hk, hl, hg⟩
 refine ⟨fun hb => ?_, fun hb => ?_⟩
 ·have hlt : k < cls.length := by
   have := of_decide_eq_true hb
   omega
  have hr := hc.range _ (getD_mem (z := 0) hlt)
  have hcl := hc.len
  refine ⟨cls.getD k 0, by rw [idx_getD 0 (by omega) (by omega), Int.toNat_natCast], l.getD (cls.getD k 0).toNat 0, idx_getD 0 hr.1 (by omega), ⟨k + 1, ?_, hlt, by simp [hl], fun q hq => ?_⟩, ?_⟩
  ·rw [wr_in (by omega) (by omega)]
   omega
  ·by_cases e : cls.getD q 0 = cls.getD k 0
   ·refine ⟨k, hlt, ?_, e.symm⟩
    rw [e]
    have : (l.set (cls.getD k 0).toNat (k : Int))[(cls.getD k 0).toNat]? = some (k : Int) := List.getElem?_set_self (by omega)
    rw [List.getD_eq_getElem?_getD, this]
    rfl
   ·have hqk : q < k := by
     rcases Nat.lt_or_ge q k with h | h
     ·exact h
     ·exact absurd (by rw [show q = k by omega]) e
    obtain ⟨p, h1, h2, h3⟩ := hg q hqk
    refine ⟨p, h1, ?_, h3⟩
    have hrq := hc.range _ (getD_mem (l := cls) (i := q) (z := 0) (by omega))
    rw [List.getD_eq_getElem?_getD, List.getElem?_set_ne (by omega), ← List.getD_eq_getElem?_getD]
    exact h2
  ·rw [wr_in (by omega) (by omega)]
   simp only
   omega
 ·have hke : k = cls.length := by
   have := of_decide_eq_false hb
   omega
  subst hke
  have hst := h.wf.start
  have hback : BackOk cls l d.fNext.length := ⟨by rw [hl, hc.len], by rw [← hc.len]; exact hg⟩
  have hcl := hc.len
  have h0 : cls.getD d.fStart.toNat 0 ∈ cls := getD_mem (by omega)
  refine ⟨cls.getD d.fStart.toNat 0, idx_getD 0 hst.1 (by omega), ⟨⟨h.wf.letters, h.wide⟩, ?_, fun k => k ∈ cls, h0, fun k a hk ha => ⟨(smDom_at h hc hback hk).1 a ha, smKeys h hc hback hk a⟩, fun k hk => (smDom_at h hc hback hk).2⟩, ?_⟩
  ·rw [wr_in (by omega) (by omega)]
   omega
  ·rw [wr_in (by omega) (by omega)]
   have := smCanon h hc hback (q := d.fStart.toNat) (by omega) ((cls.length : Int) + 1) (by omega)
   exact congrArg Prod.fst this
theorem smallest_ct (d : ApiDet) (h : ClsOk d) : Ct 77 [.sv (.agg [I d.fLetters, I d.fStart, LS (lsT intT) d.fNext, LS intT d.fMark])] [] (fun (_ : Unit) => True) (fun _ => .sv (.agg [I (canon d.fLetters.toNat (langD d d.fStart.toNat)).fLetters, I (canon d.fLetters.toNat (langD d d.fStart.toNat)).fStart, LS (lsT intT) (canon d.fLetters.toNat (langD d d.fStart.toNat)).fNext, LS intT (canon d.fLetters.toNat (langD d d.fStart.toNat)).fMark])) :=
 (smallest_walk d (fun r => r = canon d.fLetters.toNat (langD d d.fStart.toNat)) (smallest_plain d h)).fun
end Go.Proofs.Ytapnmjeadbhffaa

