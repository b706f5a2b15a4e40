/- Lemmas towards the statement: mirrors of functions, and plain laws. No condition. -/
import Derived.Test.YtobenjahlicnoaaPackLearnBlind6
namespace Go.Proofs.Ytobenjahlicnoaa
open Go.RowKit Go.MapKept
set_option linter.unusedSimpArgs false
set_option linter.unusedVariables false
set_option maxRecDepth 100000
def rTie_vc (lets : List Int) (nxt : List (List Int)) (la : List Int) (fi : List Int) (Q : (List Int) × (List (List Int)) → Prop) : Prop :=
 la.length ≤ 9223372036854775807 →
 fi.length ≤ 9223372036854775807 →
 (∃ (Inv : Int → (List (List Int)) → Prop) (mu : Int → (List (List Int)) → Nat), Inv 0 nxt ∧
 ∀ (x10 : Int) (g2 : List (List Int)) , Inv x10 g2 → (IfP (decide (x10 < (la.length : Int))) (∃ e, idx la x10 = some e ∧
 ∃ e_2, idx g2 e = some e_2 ∧
 ∃ e_3, idx g2 e = some e_3 ∧
 capOk e_2.length (fi : List Int).length 8 ∧
 ∃ e_4, idx g2 e = some e_4 ∧
 (Inv (wr (x10 + 1)) (g2.set (e).toNat (e_2 ++ fi)) ∧ mu (wr (x10 + 1)) (g2.set (e).toNat (e_2 ++ fi)) < mu x10 g2)) (Q (lets, g2))))
noncomputable abbrev qak0 := (.box [.own 1, .gs 2 0] 151 false : Item)
noncomputable abbrev qak1 (y0 : Nat → Nat) := sl 0 (.pptr 0 0 (y0 0))
noncomputable abbrev qak2 (la : List Int) := sl 9 (I (la.length : Int))
theorem rTie_walk (lets : List Int) (nxt : List (List Int)) (la : List Int) (fi : List Int) (Q : (List Int) × (List (List Int)) → Prop) (h : rTie_vc lets nxt la fi Q) : CtE 181 [.sv (.one (.ptr 0 0)), .sv (.one (LS intT la)), .sv (.one (LS intT fi))] [.box [.own 1, .gs 2 0] 151 false, rowI 3 intT lets, gridI 23 3 intT nxt] [0] Q (fun (r : (List Int) × (List (List Int))) => .tup []) (fun (r : (List Int) × (List (List Int))) => [.box [.own 1, .gs 2 0] 151 false, rowI 3 intT r.1, gridI 23 3 intT r.2]) := by
 have ht := tab_ok
 refine CtE.body Try.func181 rfl rfl rfl (by kernel_rfl) (by kernel_rfl) (fun c Bk hn => ?_)
 unfold rTie_vc at h
 show En c ⟨[qak1 Bk, sl 1 (LS intT la), sl 2 (LS intT fi)], [qak0, rowI 3 intT lets, gridI 23 3 intT nxt]⟩ _
 refine En.lenL 1 (by rfl) (fun hl => ?_)
 replace h := h hl
 clear hl
 refine En.lenL 2 (by rfl) (fun hl => ?_)
 replace h := h hl
 clear hl
 refine En.sr ?_
 refine WL.rn ht hn 3 ⟨[qak1 Bk, sl 2 (LS intT fi), sl 8 (LS intT la), qak2 la, sl 10 (I 0)], [qak0, rowI 3 intT lets, gridI 23 3 intT nxt]⟩ ?_
 refine En.block ?_
 obtain ⟨Inv, mu, h0, hI⟩ := h
 refine En.loop (σ := Int × (List (List Int))) (fun zz => Inv zz.1 zz.2) (fun zz => mu zz.1 zz.2) (fun zz => ⟨[qak1 Bk, sl 2 (LS intT fi), sl 8 (LS intT la), qak2 la, sl 10 (I zz.1)], [qak0, rowI 3 intT lets, gridI 23 3 intT zz.2]⟩) (0, nxt) h0 (sub_ok (by kernel_rfl)) ?_
 rintro ⟨x10, g2⟩ h
 replace h := hI _ _ h
 show En c ⟨[qak1 Bk, sl 2 (LS intT fi), sl 8 (LS intT la), qak2 la, sl 10 (I x10)], [qak0, rowI 3 intT lets, gridI 23 3 intT g2]⟩ _
 refine En.sr ?_
 refine WL.rn ht hn 1 ⟨[qak1 Bk, sl 2 (LS intT fi), sl 8 (LS intT la), qak2 la, sl 10 (I x10), sl 11 (B (decide (x10 < (la.length : Int))))], [qak0, rowI 3 intT lets, gridI 23 3 intT g2]⟩ ?_
 refine En.seq ?_
 refine En.ch h (fun h => ?_) (fun h => ?_)
 refine En.skip ?_
 refine En.seq ?_
 refine En.block ?_
 refine En.sr ?_
 obtain ⟨e, he, h⟩ := h
 refine WL.v hn (val_ix (T := intT) (l := la) (i := x10) ht rfl he) ?_
 refine WL.v hn (val_ld (s := .one (I e)) ht rfl) ?_
 refine WL.rn ht hn 1 ⟨[qak1 Bk, sl 2 (LS intT fi), sl 7 (I e), sl 8 (LS intT la), qak2 la, sl 10 (I x10)], [qak0, rowI 3 intT lets, gridI 23 3 intT g2]⟩ ?_
 obtain ⟨e_2, he_2, h⟩ := h
 refine En.takeGL (T := intT) (L := g2) (l := e_2) (i := 2) (p := (e).toNat) (j := 3) (by rfl) (idx_some he_2).2.2 (by rfl) (by rfl) ?_
 refine En.sub' ⟨[qak1 Bk, sl 2 (LS intT fi), sl 7 (I e), sl 8 (LS intT la), qak2 la, sl 10 (I x10)], [qak0, rowI 3 intT lets, gridH 23 3 intT g2 (e).toNat (some ((e).toNat, 3)), rowI 3 intT e_2]⟩ (by kernel_rfl) ?_
 obtain ⟨e_3, he_3, h⟩ := h
 obtain ⟨hp_2, h⟩ := h
 refine En.regionT ⟨[qak1 Bk, sl 2 (LS intT fi), sl 7 (I e), sl 8 (LS intT la), qak2 la, sl 10 (I x10)], [.sv (.one (.ptr 0 0)), .sv (.one (.ptr 0 0)), .sv (.one (.ptr 0 1)), .sv (.one (.gs 2 0)), .sv (.one (I e)), .sv (.one (.ptr 0 0)), .sv (.one (.ptr 0 0)), .sv (.one (.ptr 0 1)), .sv (.one (.gs 2 0)), .sv (.one (I e)), .sv (.one (.ge 2 0 (e).toNat 1)), .sv (.one (.own 3)), .sv (.one (LS intT fi)), .sv (.one (.own 4))], [⟨(qak0), none, none, none⟩, ⟨rowI 3 intT lets, none, none, none⟩, ⟨gridH 23 3 intT g2 (e).toNat (some ((e).toNat, 3)), none, none, none⟩, ⟨rowI 3 intT e_2, none, some 13, none⟩, ⟨rowI 3 intT (e_2 ++ fi), some 13, none, none⟩]⟩ 14 ⟨[qak1 Bk, sl 2 (LS intT fi), sl 8 (LS intT la), qak2 la, sl 10 (I x10), sl 17 (.gs 2 0), sl 18 (I e), sl 27 (.own 4)], [qak0, rowI 3 intT lets, gridH 23 3 intT g2 (e).toNat (some ((e).toNat, 3)), .gone, rowI 3 intT (e_2 ++ fi)]⟩ (by kernel_rfl) hn (by kernel_rfl) (by kernel_rfl) (by kernel_rfl) (by rfl) (by kernel_rfl) ?_ (by kernel_rfl) ?_
 exact ⟨.ev ⟨[qak1 Bk], []⟩ ht,
 .ev ⟨[sl 14 (.ptr 0 0)], []⟩ ht,
 .ev ⟨[sl 15 (.ptr 0 0)], []⟩ ht,
 .ev ⟨[sl 16 (.ptr 0 1)], [qak0]⟩ ht,
 .ev ⟨[sl 7 (I e)], []⟩ ht,
 .ev ⟨[qak1 Bk], []⟩ ht,
 .ev ⟨[sl 19 (.ptr 0 0)], []⟩ ht,
 .ev ⟨[sl 20 (.ptr 0 0)], []⟩ ht,
 .ev ⟨[sl 21 (.ptr 0 1)], [qak0]⟩ ht,
 .ev ⟨[sl 7 (I e)], []⟩ ht,
 .vl ⟨[sl 22 (.gs 2 0), sl 23 (I e)], [.gone, .gone, gridH 23 3 intT g2 (e).toNat (some ((e).toNat, 3))]⟩ (mt_val (val_indexGH (T := intT) (L := g2) (k := e) ht rfl (by rfl) (by rfl) (by rfl) (by rfl) (by rfl) (by rfl) (by rfl) ⟨(idx_some he_3).1, (idx_some he_3).2.1⟩)),
 .vl ⟨[sl 24 (.ge 2 0 (e).toNat 1)], [.gone, .gone, gridH 23 3 intT g2 (e).toNat (some ((e).toNat, 3))]⟩ (mt_val (val_loadGH (T := intT) (L := g2) (p := (e).toNat) (j := 3) ht rfl (by rfl) (by rfl) (by rfl) (by rfl))),
 .ev ⟨[sl 2 (LS intT fi)], []⟩ ht,
 .mt ⟨[sl 25 (.own 3), sl 26 (LS intT fi)], [.gone, .gone, .gone, rowI 3 intT e_2]⟩ [3] (some 4) (by kernel_rfl) (by rfl) (mt_append (T := intT) (l := e_2) (es := fi) (p := 4) ht rfl (by rfl) (by rfl) (by rfl) (by rfl) (by decide) (by rfl) (by rfl) (srcLS (T := intT) (es := fi) (fun _ h => by cases h) (by decide) (by rfl)) (by exact hp_2) (by exact hp_2.le (by decide))) rfl rfl rfl rfl,
 trivial⟩
 obtain ⟨e_4, he_4, h⟩ := h
 refine WL.v hn (val_indexGH (T := intT) (L := g2) (k := e) ht rfl (by rfl) (by rfl) (by rfl) (by rfl) (by rfl) (by rfl) (by rfl) ⟨(idx_some he_4).1, (idx_some he_4).2.1⟩) ?_
 refine WL.putGH (T := intT) (L := g2) (l := (e_2 ++ fi)) ht hn (by rfl) rfl (by rfl) (by rfl) (by rfl) (by rfl) (by rfl) (by rfl) (idx_lt he_4) (by rfl) (by rfl) ?_
 refine WL.sub ⟨[qak1 Bk, sl 2 (LS intT fi), sl 8 (LS intT la), qak2 la, sl 10 (I x10), sl 17 (.gs 2 0), sl 18 (I e)], [qak0, rowI 3 intT lets, gridI 23 3 intT (g2.set (e).toNat (e_2 ++ fi)), .gone, .gone]⟩ (by kernel_rfl) ?_
 refine WL.nil ?_
 refine En.region ?_
 refine WL.rn ht hn 2 ⟨[qak1 Bk, sl 2 (LS intT fi), sl 8 (LS intT la), qak2 la, sl 10 (I (wr (x10 + 1)))], [qak0, rowI 3 intT lets, gridI 23 3 intT (g2.set (e).toNat (e_2 ++ fi)), .gone, .gone]⟩ ?_
 exact En.at (I := fun zz => Inv zz.1 zz.2 ∧ mu zz.1 zz.2 < mu x10 g2) (T := fun zz => ⟨[qak1 Bk, sl 2 (LS intT fi), sl 8 (LS intT la), qak2 la, sl 10 (I zz.1)], [qak0, rowI 3 intT lets, gridI 23 3 intT zz.2]⟩) ((wr (x10 + 1)), (g2.set (e).toNat (e_2 ++ fi))) h (by kernel_rfl)
 refine En.exit rfl ?_
 exact En.backE [0] ht (lets, g2) h (by kernel_rfl) (by rfl) rfl
theorem en181 : ∀ args w, (callFunc 181 args).run Try.prog w = .ok (.enter 181 args) w := enters_of Try.func181 (by kernel_rfl) rfl
def tieS : List Int → List Int → List (List Int) → Option (List (List Int))
 | [], _, nxt => some nxt
 | a :: la, fi, nxt => match idx nxt a with
  | none => none
  | some e => if (e.length + fi.length) * 8 ≤ 140737488355328 then tieS la fi (nxt.set a.toNat (e ++ fi)) else none
def tieR (la fi : List Int) (nxt : List (List Int)) : List (List Int) := (tieS la fi nxt).getD nxt
theorem wr_len {n : Nat} (h : n ≤ 9223372036854775807) {i : Nat} (hi : i < n) : wr ((i : Int) + 1) = ((i + 1 : Nat) : Int) := by
 rw [wr_in (by omega) (by omega)]
 rfl
theorem rTie_ct (lets : List Int) (nxt : List (List Int)) (la : List Int) (fi : List Int) (hp : (tieS la fi nxt).isSome)  : CtE 181 [.sv (.one (.ptr 0 0)), .sv (.one (LS intT la)), .sv (.one (LS intT fi))] [.box [.own 1, .gs 2 0] 151 false, rowI 3 intT lets, gridI 23 3 intT nxt] [0] (fun (_ : Unit) => True) (fun _ => .tup []) (fun _ => [.box [.own 1, .gs 2 0] 151 false, rowI 3 intT (lets), gridI 23 3 intT (tieR la fi nxt)]) := by
 refine (rTie_walk lets nxt la fi (fun res_ => res_ = (lets, tieR la fi nxt)) ?_).imp (fun r hr => ⟨(), trivial, by subst hr; rfl, by subst hr; rfl⟩)
 unfold rTie_vc tieR
 intro hla hfi
 obtain ⟨R, hR⟩ := Option.isSome_iff_exists.1 hp
 rw [hR]
 refine ⟨fun i g => ∃ n : Nat, i = n ∧ n ≤ la.length ∧ tieS (la.drop n) fi g = some R, fun i _ => la.length - i.toNat, ⟨0, rfl, Nat.zero_le _, hR⟩, ?_⟩
 rintro _ g2 ⟨n, rfl, hn, he⟩
 refine ⟨fun hb => ?_, fun hb => ?_⟩
 ·have hlt : n < la.length := by have := of_decide_eq_true hb; omega
  rw [List.drop_eq_getElem_cons hlt, tieS] at he
  split at he
  ·cases he
  rename_i e hix
  split at he
  ·rename_i hc
   have hx : idx la (n : Int) = some la[n] := by simp [idx, hlt]
   refine ⟨_, hx, e, hix, e, hix, hc, e, hix, ⟨n + 1, wr_len hla hlt, hlt, he⟩, ?_⟩
   rw [wr_len hla hlt]
   show la.length - (n + 1) < la.length - n
   omega
  ·cases he
 ·have hge : la.length ≤ n := by have := of_decide_eq_false hb; omega
  rw [List.drop_eq_nil_of_le hge, tieS] at he
  cases he
  rfl
def rBhd_vc (lets : List Int) (nxt : List (List Int)) (e1 : RegularEnds) (e2 : RegularEnds) (Q : RegularEnds × (List Int) × (List (List Int)) → Prop) : Prop :=
 e1.fFirst.length ≤ 9223372036854775807 →
 e1.fLast.length ≤ 9223372036854775807 →
 e2.fFirst.length ≤ 9223372036854775807 →
 e2.fLast.length ≤ 9223372036854775807 →
 (((tieS e1.fLast e2.fFirst nxt).isSome) ∧
 ∃ J : Bool → Prop, (IfP e1.fEmpty ((e1.fFirst.length * 8 ≤ 140737488355328) ∧
 (e2.fLast.length * 8 ≤ 140737488355328) ∧
 J e2.fEmpty) ((e1.fFirst.length * 8 ≤ 140737488355328) ∧
 (e2.fLast.length * 8 ≤ 140737488355328) ∧
 J false)) ∧
 (∀ (y80 : Bool), J y80 → ∃ J_2 : (List Int) → Prop, (IfP e1.fEmpty (capOk (e1.fFirst).length (e2.fFirst : List Int).length 8 ∧
 J_2 ((e1.fFirst) ++ e2.fFirst)) (J_2 (e1.fFirst))) ∧
 (∀ (l6 : List Int), J_2 l6 → ∃ J_3 : (List Int) → Prop, (IfP e2.fEmpty (capOk (e2.fLast).length (e1.fLast : List Int).length 8 ∧
 J_3 ((e2.fLast) ++ e1.fLast)) (J_3 (e2.fLast))) ∧
 (∀ (l7 : List Int), J_3 l7 → Q ((RegularEnds.mk y80 l6 l7), (lets), (tieR e1.fLast e2.fFirst nxt))))))
noncomputable abbrev qal0 := (.box [B false, .v (.slice none 0 0), .v (.slice none 0 0)] 217 false : Item)
noncomputable abbrev qal1 (e1 : RegularEnds) := (.box [B e1.fEmpty, LS intT e1.fFirst, LS intT e1.fLast] 217 false : Item)
noncomputable abbrev qal2 (e2 : RegularEnds) := (.box [B e2.fEmpty, LS intT e2.fFirst, LS intT e2.fLast] 217 false : Item)
noncomputable abbrev qal3 (y0 : Nat → Nat) := ([sl 0 (.pptr 0 0 (y0 0)), sl 4 (.ptr 3 0), sl 5 (.ptr 4 0), sl 6 (.ptr 5 0), sl 7 (.ptr 8 0)] : List (Nat × SC))
noncomputable abbrev qal4 := (.box [.own 1, .gs 2 0] 151 false : Item)
noncomputable abbrev qal5 (y0) := (.box [B y0, .own 6, .own 7] 217 false : Item)
noncomputable abbrev qal6 (e1 : RegularEnds) (e2 : RegularEnds) (nxt : List (List Int)) := (tieR e1.fLast e2.fFirst nxt)
noncomputable abbrev qal7 (y0 : Nat → Nat) := sl 0 (.pptr 0 0 (y0 0))
noncomputable abbrev qal8 := sl 6 (.ptr 5 0)
noncomputable abbrev qal9 := sl 7 (.ptr 8 0)
theorem rBhd_walk (lets : List Int) (nxt : List (List Int)) (e1 : RegularEnds) (e2 : RegularEnds) (Q : RegularEnds × (List Int) × (List (List Int)) → Prop) (h : rBhd_vc lets nxt e1 e2 Q) : CtE 180 [.sv (.one (.ptr 0 0)), .sv (.agg [B e1.fEmpty, LS intT e1.fFirst, LS intT e1.fLast]), .sv (.agg [B e2.fEmpty, LS intT e2.fFirst, LS intT e2.fLast])] [.box [.own 1, .gs 2 0] 151 false, rowI 3 intT lets, gridI 23 3 intT nxt] [0] Q (fun (r : RegularEnds × (List Int) × (List (List Int))) => .sv (.agg [B r.1.fEmpty, LS intT r.1.fFirst, LS intT r.1.fLast])) (fun (r : RegularEnds × (List Int) × (List (List Int))) => [.box [.own 1, .gs 2 0] 151 false, rowI 3 intT r.2.1, gridI 23 3 intT r.2.2]) := by
 have ht := tab_ok
 refine CtE.body Try.func180 rfl rfl rfl (by kernel_rfl) (by kernel_rfl) (fun c Bk hn => ?_)
 unfold rBhd_vc at h
 show En c ⟨[qal7 Bk, (1, .sv (.agg [B e1.fEmpty, LS intT e1.fFirst, LS intT e1.fLast])), (2, .sv (.agg [B e2.fEmpty, LS intT e2.fFirst, LS intT e2.fLast]))], [qal4, rowI 3 intT lets, gridI 23 3 intT nxt]⟩ _
 refine En.lenA 1 1 (by rfl) (by rfl) (fun hl => ?_)
 replace h := h hl
 clear hl
 refine En.lenA 1 2 (by rfl) (by rfl) (fun hl => ?_)
 replace h := h hl
 clear hl
 refine En.lenA 2 1 (by rfl) (by rfl) (fun hl => ?_)
 replace h := h hl
 clear hl
 refine En.lenA 2 2 (by rfl) (by rfl) (fun hl => ?_)
 replace h := h hl
 clear hl
 refine En.sr ?_
 refine WL.rn ht hn 3 ⟨[qal7 Bk, sl 4 (.ptr 3 0), sl 5 (.ptr 4 0), qal8], [qal4, rowI 3 intT lets, gridI 23 3 intT nxt, qal1 e1, qal2 e2, qal0]⟩ ?_
 refine En.sr ?_
 refine WL.r ht hn 5 ⟨[qal7 Bk, sl 4 (.ptr 3 0), sl 5 (.ptr 4 0), qal8, sl 8 (.ptr 0 0), sl 10 (LS intT e1.fLast), sl 12 (LS intT e2.fFirst)], [qal4, rowI 3 intT lets, gridI 23 3 intT nxt, qal1 e1, qal2 e2, qal0]⟩ ?_
 obtain ⟨hp, h⟩ := h
 refine WL.cE (rTie_ct lets nxt e1.fLast e2.fFirst hp) en181 [0, 1, 2] hn rfl ?_
 refine WL.nil ?_
 obtain ⟨J, h, hJ⟩ := h
 refine En.seqJ (σ := Bool) (fun zz => J zz) (fun zz => ⟨(qal3 Bk), [qal4, rowI 3 intT lets, gridI 23 3 intT (qal6 e1 e2 nxt), qal1 e1, qal2 e2, qal0, rowI 3 intT e1.fFirst, rowI 3 intT e2.fLast, .box [B zz, .own 6, .own 7] 217 false]⟩) ?_ ?_
 refine splitB e1.fEmpty (fun hb_2 => ?_) (fun hb_2 => ?_)
 replace h := h.1 hb_2
 obtain ⟨hp_2, h⟩ := h
 obtain ⟨hp_3, h⟩ := h
 refine En.regionA ⟨[qal7 Bk, sl 4 (.ptr 3 0), sl 5 (.ptr 4 0), qal8], [.sv (.one (.ptr 3 0)), .sv (.one (B true)), .sv (.one (B true)), .sv (.one (.ptr 4 0)), .sv (.one (B e2.fEmpty)), .sv (.one (B e2.fEmpty)), .sv (.one (.ptr 3 1)), .sv (.one (LS intT e1.fFirst)), .sv (.one (.own 6)), .sv (.one (.ptr 4 2)), .sv (.one (LS intT e2.fLast)), .sv (.one (.own 7)), .sv (.agg [B e2.fEmpty, .own 6, .own 7]), .sv (.one (.ptr 8 0)), .tup []], [⟨(qal4), none, none, none⟩, ⟨rowI 3 intT lets, none, none, none⟩, ⟨gridI 23 3 intT (qal6 e1 e2 nxt), none, none, none⟩, ⟨(qal1 e1), none, none, none⟩, ⟨(qal2 e2), none, none, none⟩, ⟨(qal0), none, none, none⟩, ⟨rowI 3 intT e1.fFirst, some 8, none, none⟩, ⟨rowI 3 intT e2.fLast, some 11, none, none⟩, ⟨(qal0), some 13, none, some (14, .box [B e2.fEmpty, .own 6, .own 7] 217 false)⟩]⟩ ⟨(qal3 Bk), [qal4, rowI 3 intT lets, gridI 23 3 intT (qal6 e1 e2 nxt), qal1 e1, qal2 e2, qal0, rowI 3 intT e1.fFirst, rowI 3 intT e2.fLast, .box [B e2.fEmpty, .own 6, .own 7] 217 false]⟩ (by kernel_rfl) hn (by kernel_rfl) (by rfl) (by kernel_rfl) ?_ (by kernel_rfl) ?_
 exact ⟨.ev ⟨[sl 4 (.ptr 3 0)], []⟩ ht,
 .mt ⟨[sl 14 (.ptr 3 0)], [.gone, .gone, .gone, qal1 e1]⟩ [] none (by kernel_rfl) (by rfl) (mt_castB hb_2 (mt_ev ht (by kernel_rfl))) rfl rfl rfl rfl,
 .ev ⟨[sl 15 (B true)], []⟩ ht,
 .ev ⟨[sl 5 (.ptr 4 0), sl 16 (B true)], []⟩ ht,
 .ev ⟨[sl 16 (B true), sl 17 (.ptr 4 0)], [.gone, .gone, .gone, .gone, qal2 e2]⟩ ht,
 .ev ⟨[sl 16 (B true), sl 18 (B e2.fEmpty)], []⟩ ht,
 .ev ⟨[sl 4 (.ptr 3 0)], []⟩ ht,
 .ev ⟨[sl 20 (.ptr 3 1)], [.gone, .gone, .gone, qal1 e1]⟩ ht,
 .mt ⟨[sl 21 (LS intT e1.fFirst)], []⟩ [] (some 6) (by kernel_rfl) (by rfl) (mt_callI 6 (cloneInt_ct e1.fFirst hp_2) en37 (caps := []) [] rfl rfl (by rfl) (by kernel_rfl) (by kernel_rfl) (by rfl) (by rfl)) rfl rfl rfl rfl,
 .ev ⟨[sl 5 (.ptr 4 0)], []⟩ ht,
 .ev ⟨[sl 23 (.ptr 4 2)], [.gone, .gone, .gone, .gone, qal2 e2]⟩ ht,
 .mt ⟨[sl 24 (LS intT e2.fLast)], []⟩ [] (some 7) (by kernel_rfl) (by rfl) (mt_callI 7 (cloneInt_ct e2.fLast hp_3) en37 (caps := []) [] rfl rfl (by rfl) (by kernel_rfl) (by kernel_rfl) (by rfl) (by rfl)) rfl rfl rfl rfl,
 .ev ⟨[sl 19 (B e2.fEmpty), sl 22 (.own 6), sl 25 (.own 7)], []⟩ ht,
 .mt ⟨[], []⟩ [] (some 8) (by kernel_rfl) (by rfl) (mt_alloc2 8 217 ht rfl (by rfl) (by rfl)) rfl rfl rfl rfl,
 .mu ⟨[qal9, (26, .sv (.agg [B e2.fEmpty, .own 6, .own 7]))], [.gone, .gone, .gone, .gone, .gone, .gone, .gone, .gone, qal0]⟩ 8 _ _ rfl rfl (by kernel_rfl) (by rfl) (mu_store2 ht rfl (by rfl) (by rfl) (by rfl) (by rfl) (fun h => by cases h) (by rfl) (by rfl)) rfl rfl rfl rfl rfl rfl rfl,
 trivial⟩
 exact En.at (I := fun zz => J zz) (T := fun zz => ⟨(qal3 Bk), [qal4, rowI 3 intT lets, gridI 23 3 intT (qal6 e1 e2 nxt), qal1 e1, qal2 e2, qal0, rowI 3 intT e1.fFirst, rowI 3 intT e2.fLast, .box [B zz, .own 6, .own 7] 217 false]⟩) e2.fEmpty h (by kernel_rfl)
 replace h := h.2 hb_2
 obtain ⟨hp_4, h⟩ := h
 obtain ⟨hp_5, h⟩ := h
 refine En.regionA ⟨[qal7 Bk, sl 4 (.ptr 3 0), sl 5 (.ptr 4 0), qal8], [.sv (.one (.ptr 3 0)), .sv (.one (B false)), .sv (.one (B false)), .tup [], .tup [], .sv (.one (B false)), .sv (.one (.ptr 3 1)), .sv (.one (LS intT e1.fFirst)), .sv (.one (.own 6)), .sv (.one (.ptr 4 2)), .sv (.one (LS intT e2.fLast)), .sv (.one (.own 7)), .sv (.agg [B false, .own 6, .own 7]), .sv (.one (.ptr 8 0)), .tup []], [⟨(qal4), none, none, none⟩, ⟨rowI 3 intT lets, none, none, none⟩, ⟨gridI 23 3 intT (qal6 e1 e2 nxt), none, none, none⟩, ⟨(qal1 e1), none, none, none⟩, ⟨(qal2 e2), none, none, none⟩, ⟨(qal0), none, none, none⟩, ⟨rowI 3 intT e1.fFirst, some 8, none, none⟩, ⟨rowI 3 intT e2.fLast, some 11, none, none⟩, ⟨(qal0), some 13, none, some (14, .box [B false, .own 6, .own 7] 217 false)⟩]⟩ ⟨(qal3 Bk), [qal4, rowI 3 intT lets, gridI 23 3 intT (qal6 e1 e2 nxt), qal1 e1, qal2 e2, qal0, rowI 3 intT e1.fFirst, rowI 3 intT e2.fLast, .box [B false, .own 6, .own 7] 217 false]⟩ (by kernel_rfl) hn (by kernel_rfl) (by rfl) (by kernel_rfl) ?_ (by kernel_rfl) ?_
 exact ⟨.ev ⟨[sl 4 (.ptr 3 0)], []⟩ ht,
 .mt ⟨[sl 14 (.ptr 3 0)], [.gone, .gone, .gone, qal1 e1]⟩ [] none (by kernel_rfl) (by rfl) (mt_castB hb_2 (mt_ev ht (by kernel_rfl))) rfl rfl rfl rfl,
 .ev ⟨[sl 15 (B false)], []⟩ ht,
 .skip ⟨[sl 16 (B false)], []⟩ (by kernel_rfl) (by rfl) rfl rfl rfl rfl,
 .skip ⟨[sl 16 (B false)], []⟩ (by kernel_rfl) (by rfl) rfl rfl rfl rfl,
 .ev ⟨[sl 16 (B false), (18, .tup [])], []⟩ ht,
 .ev ⟨[sl 4 (.ptr 3 0)], []⟩ ht,
 .ev ⟨[sl 20 (.ptr 3 1)], [.gone, .gone, .gone, qal1 e1]⟩ ht,
 .mt ⟨[sl 21 (LS intT e1.fFirst)], []⟩ [] (some 6) (by kernel_rfl) (by rfl) (mt_callI 6 (cloneInt_ct e1.fFirst hp_4) en37 (caps := []) [] rfl rfl (by rfl) (by kernel_rfl) (by kernel_rfl) (by rfl) (by rfl)) rfl rfl rfl rfl,
 .ev ⟨[sl 5 (.ptr 4 0)], []⟩ ht,
 .ev ⟨[sl 23 (.ptr 4 2)], [.gone, .gone, .gone, .gone, qal2 e2]⟩ ht,
 .mt ⟨[sl 24 (LS intT e2.fLast)], []⟩ [] (some 7) (by kernel_rfl) (by rfl) (mt_callI 7 (cloneInt_ct e2.fLast hp_5) en37 (caps := []) [] rfl rfl (by rfl) (by kernel_rfl) (by kernel_rfl) (by rfl) (by rfl)) rfl rfl rfl rfl,
 .ev ⟨[sl 19 (B false), sl 22 (.own 6), sl 25 (.own 7)], []⟩ ht,
 .mt ⟨[], []⟩ [] (some 8) (by kernel_rfl) (by rfl) (mt_alloc2 8 217 ht rfl (by rfl) (by rfl)) rfl rfl rfl rfl,
 .mu ⟨[qal9, (26, .sv (.agg [B false, .own 6, .own 7]))], [.gone, .gone, .gone, .gone, .gone, .gone, .gone, .gone, qal0]⟩ 8 _ _ rfl rfl (by kernel_rfl) (by rfl) (mu_store2 ht rfl (by rfl) (by rfl) (by rfl) (by rfl) (fun h => by cases h) (by rfl) (by rfl)) rfl rfl rfl rfl rfl rfl rfl,
 trivial⟩
 exact En.at (I := fun zz => J zz) (T := fun zz => ⟨(qal3 Bk), [qal4, rowI 3 intT lets, gridI 23 3 intT (qal6 e1 e2 nxt), qal1 e1, qal2 e2, qal0, rowI 3 intT e1.fFirst, rowI 3 intT e2.fLast, .box [B zz, .own 6, .own 7] 217 false]⟩) false h (by kernel_rfl)
 intro y80 h
 replace h := hJ _ h
 show En c ⟨(qal3 Bk), [qal4, rowI 3 intT lets, gridI 23 3 intT (qal6 e1 e2 nxt), qal1 e1, qal2 e2, qal0, rowI 3 intT e1.fFirst, rowI 3 intT e2.fLast, qal5 y80]⟩ _
 obtain ⟨J_2, h, hJ_2⟩ := h
 refine En.seqJ (σ := (List Int)) (fun zz => J_2 zz) (fun zz => ⟨(qal3 Bk), [qal4, rowI 3 intT lets, gridI 23 3 intT (qal6 e1 e2 nxt), qal1 e1, qal2 e2, qal0, rowI 3 intT zz, rowI 3 intT e2.fLast, qal5 y80]⟩) ?_ ?_
 refine En.sr ?_
 refine WL.rn ht hn 2 ⟨[qal7 Bk, sl 4 (.ptr 3 0), sl 5 (.ptr 4 0), qal8, qal9, sl 28 (B e1.fEmpty)], [qal4, rowI 3 intT lets, gridI 23 3 intT (qal6 e1 e2 nxt), qal1 e1, qal2 e2, qal0, rowI 3 intT e1.fFirst, rowI 3 intT e2.fLast, qal5 y80]⟩ ?_
 refine En.ch h (fun h => ?_) (fun h => ?_)
 refine En.region ?_
 refine WL.r ht hn 4 ⟨[qal7 Bk, sl 4 (.ptr 3 0), sl 5 (.ptr 4 0), qal8, qal9, sl 30 (.own 6), sl 32 (LS intT e2.fFirst)], [qal4, rowI 3 intT lets, gridI 23 3 intT (qal6 e1 e2 nxt), qal1 e1, qal2 e2, qal0, rowI 3 intT e1.fFirst, rowI 3 intT e2.fLast, qal5 y80]⟩ ?_
 refine WL.junk 8 1 (by rfl) ?_
 obtain ⟨hp, h⟩ := h
 refine WL.mt (S2 := ⟨[qal7 Bk, sl 4 (.ptr 3 0), sl 5 (.ptr 4 0), qal8, qal9, sl 32 (LS intT e2.fFirst)], [qal4, rowI 3 intT lets, gridI 23 3 intT (qal6 e1 e2 nxt), qal1 e1, qal2 e2, qal0, rowI 3 intT e1.fFirst, rowI 3 intT e2.fLast, .box [B y80, .junk, .own 7] 217 false]⟩) (K := [6]) (p := some (6, rowI 3 intT (e1.fFirst ++ e2.fFirst))) hn (by rfl) (mt_append (T := intT) (l := e1.fFirst) (es := e2.fFirst) ht rfl (by rfl) (by rfl) (by rfl) (by rfl) (by decide) (by rfl) (by rfl) (srcLS (T := intT) (es := e2.fFirst) (fun _ h => by cases h) (by decide) (by rfl)) (by exact hp) (by exact hp.le (by decide))) (by kernel_rfl) (by rfl) (by rfl) (by rfl) ?_
 refine WL.rn ht hn 2 ⟨(qal3 Bk), [qal4, rowI 3 intT lets, gridI 23 3 intT (qal6 e1 e2 nxt), qal1 e1, qal2 e2, qal0, rowI 3 intT (e1.fFirst ++ e2.fFirst), rowI 3 intT e2.fLast, qal5 y80]⟩ ?_
 exact En.at (I := fun zz => J_2 zz) (T := fun zz => ⟨(qal3 Bk), [qal4, rowI 3 intT lets, gridI 23 3 intT (qal6 e1 e2 nxt), qal1 e1, qal2 e2, qal0, rowI 3 intT zz, rowI 3 intT e2.fLast, qal5 y80]⟩) (e1.fFirst ++ e2.fFirst) h (by kernel_rfl)
 refine En.skip ?_
 exact En.at (I := fun zz => J_2 zz) (T := fun zz => ⟨(qal3 Bk), [qal4, rowI 3 intT lets, gridI 23 3 intT (qal6 e1 e2 nxt), qal1 e1, qal2 e2, qal0, rowI 3 intT zz, rowI 3 intT e2.fLast, qal5 y80]⟩) e1.fFirst h (by kernel_rfl)
 intro l6 h
 replace h := hJ_2 _ h
 show En c ⟨(qal3 Bk), [qal4, rowI 3 intT lets, gridI 23 3 intT (qal6 e1 e2 nxt), qal1 e1, qal2 e2, qal0, rowI 3 intT l6, rowI 3 intT e2.fLast, qal5 y80]⟩ _
 obtain ⟨J_3, h, hJ_3⟩ := h
 refine En.seqJ (σ := (List Int)) (fun zz => J_3 zz) (fun zz => ⟨[qal7 Bk, qal8, qal9], [qal4, rowI 3 intT lets, gridI 23 3 intT (qal6 e1 e2 nxt), .gone, .gone, qal0, rowI 3 intT l6, rowI 3 intT zz, qal5 y80]⟩) ?_ ?_
 refine En.sr ?_
 refine WL.rn ht hn 2 ⟨[qal7 Bk, sl 4 (.ptr 3 0), qal8, qal9, sl 36 (B e2.fEmpty)], [qal4, rowI 3 intT lets, gridI 23 3 intT (qal6 e1 e2 nxt), qal1 e1, .gone, qal0, rowI 3 intT l6, rowI 3 intT e2.fLast, qal5 y80]⟩ ?_
 refine En.ch h (fun h => ?_) (fun h => ?_)
 refine En.region ?_
 refine WL.r ht hn 4 ⟨[qal7 Bk, qal8, qal9, sl 38 (.own 7), sl 40 (LS intT e1.fLast)], [qal4, rowI 3 intT lets, gridI 23 3 intT (qal6 e1 e2 nxt), .gone, .gone, qal0, rowI 3 intT l6, rowI 3 intT e2.fLast, qal5 y80]⟩ ?_
 refine WL.junk 8 2 (by rfl) ?_
 obtain ⟨hp, h⟩ := h
 refine WL.mt (S2 := ⟨[qal7 Bk, qal8, qal9, sl 40 (LS intT e1.fLast)], [qal4, rowI 3 intT lets, gridI 23 3 intT (qal6 e1 e2 nxt), .gone, .gone, qal0, rowI 3 intT l6, rowI 3 intT e2.fLast, .box [B y80, .own 6, .junk] 217 false]⟩) (K := [7]) (p := some (7, rowI 3 intT (e2.fLast ++ e1.fLast))) hn (by rfl) (mt_append (T := intT) (l := e2.fLast) (es := e1.fLast) ht rfl (by rfl) (by rfl) (by rfl) (by rfl) (by decide) (by rfl) (by rfl) (srcLS (T := intT) (es := e1.fLast) (fun _ h => by cases h) (by decide) (by rfl)) (by exact hp) (by exact hp.le (by decide))) (by kernel_rfl) (by rfl) (by rfl) (by rfl) ?_
 refine WL.rn ht hn 2 ⟨[qal7 Bk, qal8, qal9], [qal4, rowI 3 intT lets, gridI 23 3 intT (qal6 e1 e2 nxt), .gone, .gone, qal0, rowI 3 intT l6, rowI 3 intT (e2.fLast ++ e1.fLast), qal5 y80]⟩ ?_
 exact En.at (I := fun zz => J_3 zz) (T := fun zz => ⟨[qal7 Bk, qal8, qal9], [qal4, rowI 3 intT lets, gridI 23 3 intT (qal6 e1 e2 nxt), .gone, .gone, qal0, rowI 3 intT l6, rowI 3 intT zz, qal5 y80]⟩) (e2.fLast ++ e1.fLast) h (by kernel_rfl)
 refine En.skip ?_
 exact En.at (I := fun zz => J_3 zz) (T := fun zz => ⟨[qal7 Bk, qal8, qal9], [qal4, rowI 3 intT lets, gridI 23 3 intT (qal6 e1 e2 nxt), .gone, .gone, qal0, rowI 3 intT l6, rowI 3 intT zz, qal5 y80]⟩) e2.fLast h (by kernel_rfl)
 intro l7 h
 replace h := hJ_3 _ h
 show En c ⟨[qal7 Bk, qal8, qal9], [qal4, rowI 3 intT lets, gridI 23 3 intT (qal6 e1 e2 nxt), .gone, .gone, qal0, rowI 3 intT l6, rowI 3 intT l7, qal5 y80]⟩ _
 refine En.sr ?_
 refine WL.rn ht hn 2 ⟨[qal7 Bk, qal8], [qal4, rowI 3 intT lets, gridI 23 3 intT (qal6 e1 e2 nxt), .gone, .gone, qal5 y80, rowI 3 intT l6, rowI 3 intT l7, .gone]⟩ ?_
 refine En.ret ?_
 refine En.seal (T := intT) (l := l6) (e := 3) 6 rfl ?_
 refine En.seal (T := intT) (l := l7) (e := 3) 7 rfl ?_
 exact En.backE [0] ht ((RegularEnds.mk y80 l6 l7), lets, (qal6 e1 e2 nxt)) h (by kernel_rfl) (by rfl) rfl
theorem en180 : ∀ args w, (callFunc 180 args).run Try.prog w = .ok (.enter 180 args) w := enters_of Try.func180 (by kernel_rfl) rfl
def bhdOk (e f : RegularEnds) : Prop := (e.fFirst.length + f.fFirst.length) * 8 ≤ 140737488355328 ∧ (f.fLast.length + e.fLast.length) * 8 ≤ 140737488355328
instance (e f : RegularEnds) : Decidable (bhdOk e f) := by unfold bhdOk; exact inferInstance
def bhdR (e f : RegularEnds) : RegularEnds := ⟨e.fEmpty && f.fEmpty, if e.fEmpty = true then e.fFirst ++ f.fFirst else e.fFirst, if f.fEmpty = true then f.fLast ++ e.fLast else f.fLast⟩
theorem rBhd_ct (lets : List Int) (nxt : List (List Int)) (e1 : RegularEnds) (e2 : RegularEnds) (hp : (tieS e1.fLast e2.fFirst nxt).isSome ∧ bhdOk e1 e2)  : CtE 180 [.sv (.one (.ptr 0 0)), .sv (.agg [B e1.fEmpty, LS intT e1.fFirst, LS intT e1.fLast]), .sv (.agg [B e2.fEmpty, LS intT e2.fFirst, LS intT e2.fLast])] [.box [.own 1, .gs 2 0] 151 false, rowI 3 intT lets, gridI 23 3 intT nxt] [0] (fun (_ : Unit) => True) (fun _ => .sv (.agg [B (bhdR e1 e2).fEmpty, LS intT (bhdR e1 e2).fFirst, LS intT (bhdR e1 e2).fLast])) (fun _ => [.box [.own 1, .gs 2 0] 151 false, rowI 3 intT (lets), gridI 23 3 intT (tieR e1.fLast e2.fFirst nxt)]) := by
 refine (rBhd_walk lets nxt e1 e2 (fun res_ => res_ = (bhdR e1 e2, lets, tieR e1.fLast e2.fFirst nxt)) ?_).imp (fun r hr => ⟨(), trivial, by subst hr; rfl, by subst hr; rfl⟩)
 unfold rBhd_vc
 obtain ⟨k1, k2, k3⟩ := hp
 refine fun _ _ _ _ => ⟨k1, fun b => b = (e1.fEmpty && e2.fEmpty), ⟨fun hb => ⟨by omega, by omega, by rw [hb]; rfl⟩, fun hb => ⟨by omega, by omega, by rw [hb]; rfl⟩⟩, ?_⟩
 rintro _ rfl
 refine ⟨fun l => l = (bhdR e1 e2).fFirst, ⟨fun hb => ⟨k2, by simp only [bhdR, hb, if_pos]⟩, fun hb => by simp only [bhdR, hb]; rfl⟩, ?_⟩
 rintro _ rfl
 refine ⟨fun l => l = (bhdR e1 e2).fLast, ⟨fun hb => ⟨k3, by simp only [bhdR, hb, if_pos]⟩, fun hb => by simp only [bhdR, hb]; rfl⟩, ?_⟩
 rintro _ rfl
 rfl
abbrev LkR := RegularEnds × List Int × List (List Int)
def eithL (f : RTr → List Int → List (List Int) → Option LkR) : List RTr → RegularEnds → List Int → List (List Int) → Option LkR
 | [], e, lets, nxt => some (e, lets, nxt)
 | x :: xs, e, lets, nxt => match f x lets nxt with
  | none => none
  | some r => if (e.fFirst.length + r.1.fFirst.length) * 8 ≤ 140737488355328 ∧ (e.fLast.length + r.1.fLast.length) * 8 ≤ 140737488355328 then eithL f xs ⟨e.fEmpty || r.1.fEmpty, e.fFirst ++ r.1.fFirst, e.fLast ++ r.1.fLast⟩ r.2.1 r.2.2 else none
def rowK (f : RTr → List Int → List (List Int) → Option LkR) : List RTr → RegularEnds → List Int → List (List Int) → Option LkR
 | [], e, lets, nxt => some (e, lets, nxt)
 | x :: xs, e, lets, nxt => match f x lets nxt with
  | none => none
  | some r => match tieS e.fLast r.1.fFirst r.2.2 with
   | none => none
   | some n => if bhdOk e r.1 then rowK f xs (bhdR e r.1) r.2.1 n else none
def lookS : Nat → RTr → List Int → List (List Int) → Option LkR
 | 0, _, _, _ => none
 | k + 1, .node a kids, lets, nxt =>
  if 1048576 < kids.length then none
  else if a.fKind = 0 then some (⟨false, [], []⟩, lets, nxt)
  else if a.fKind = 1 then some (⟨true, [], []⟩, lets, nxt)
  else if a.fKind = 2 then if (lets.length + 1) * 8 ≤ 140737488355328 ∧ (nxt.length + 1) * 24 ≤ 140737488355328 then some (⟨false, [(lets.length : Int)], [(lets.length : Int)]⟩, lets ++ [a.fLetter], nxt ++ [[]]) else none
  else if a.fKind = 3 then eithL (lookS k) kids ⟨false, [], []⟩ lets nxt
  else match kids with
   | [] => none
   | x :: xs => match lookS k x lets nxt with
    | none => none
    | some r => if a.fKind = 4 then rowK (lookS k) xs r.1 r.2.1 r.2.2
     else match tieS r.1.fLast r.1.fFirst r.2.2 with
      | none => none
      | some n => some (⟨true, r.1.fFirst, r.1.fLast⟩, r.2.1, n)
def lookR (k : Nat) (x : RTr) (lets : List Int) (nxt : List (List Int)) : LkR := (lookS k x lets nxt).getD default
theorem en126 : ∀ args w, (callFunc 126 args).run Try.prog w = .ok (.enter 126 args) w := enters_of Try.func126 (by kernel_rfl) rfl
def LC (k : Nat) : Prop := ∀ (x : RTr) (lets : List Int) (nxt : List (List Int)), (lookS k x lets nxt).isSome → CtE 126 [.sv (.one (.ptr 0 0)), .sv (.one (.rd (trR rLab x)))] [.box [.own 1, .gs 2 0] 151 false, rowI 3 intT lets, gridI 23 3 intT nxt] [0] (fun (_ : Unit) => True) (fun _ => .sv (.agg [B (lookR k x lets nxt).1.fEmpty, LS intT (lookR k x lets nxt).1.fFirst, LS intT (lookR k x lets nxt).1.fLast])) (fun _ => [.box [.own 1, .gs 2 0] 151 false, rowI 3 intT (lookR k x lets nxt).2.1, gridI 23 3 intT (lookR k x lets nxt).2.2])
theorem lkI (k : Nat) (ih : LC k) (x : RTr) (lets : List Int) (nxt : List (List Int)) (hp : (lookS k x lets nxt).isSome) : CtE 126 [.sv (.one (.ptr 0 0)), .sv (.one (.rd (trR rLab x)))] [.box [.own 1, .gs 2 0] 151 false, rowI 3 intT lets, gridI 23 3 intT nxt] [0] (fun (_ : Unit) => True) (fun _ => .sv (.agg [B (lookR k x lets nxt).1.fEmpty, LS intT (lookR k x lets nxt).1.fFirst, LS intT (lookR k x lets nxt).1.fLast])) (fun _ => [.box [.own 1, .gs 2 0] 151 false, rowI 3 intT (lookR k x lets nxt).2.1, gridI 23 3 intT (lookR k x lets nxt).2.2]) := ih x lets nxt hp
def rLook_vc (k : Nat) (lets : List Int) (nxt : List (List Int)) (x : RTr) (Q : RegularEnds × (List Int) × (List (List Int)) → Prop) : Prop :=
 IfP (x.lab.fKind == 0) (Q ((RegularEnds.mk false [] []), lets, nxt)) (IfP (x.lab.fKind == 1) (Q ((RegularEnds.mk true [] []), lets, nxt)) (IfP (x.lab.fKind == 2) (capOk lets.length (([x.lab.fLetter] : List Int) : List Int).length 8 ∧
 capOk nxt.length 1 24 ∧
 Q ((RegularEnds.mk false ([(wr (((lets ++ ([x.lab.fLetter] : List Int)).length : Int) - 1))] : List Int) ([(wr (((lets ++ ([x.lab.fLetter] : List Int)).length : Int) - 1))] : List Int)), (lets ++ ([x.lab.fLetter] : List Int)), (nxt ++ List.replicate 1 []))) (IfP (x.lab.fKind == 3) (∃ (Inv : Int → (List Int) → (List (List Int)) → Bool → (List Int) → (List Int) → Prop) (mu : Int → (List Int) → (List (List Int)) → Bool → (List Int) → (List Int) → Nat), Inv 0 lets nxt false ([] : List Int) ([] : List Int) ∧
 ∀ (x65 : Int) (l1 : List Int) (g2 : List (List Int)) (y40 : Bool) (l6 : List Int) (l7 : List Int) , Inv x65 l1 g2 y40 l6 l7 → (IfP (decide (x65 < (x.kids.length : Int))) (∃ e, idx x.kids x65 = some e ∧
 ((lookS k e l1 g2).isSome) ∧
 ∃ J : Bool → Prop, (IfP y40 (J true) (J ((lookR k e l1 g2).1).fEmpty)) ∧
 (∀ (y40_2 : Bool), J y40_2 → capOk l6.length (((lookR k e l1 g2).1).fFirst : List Int).length 8 ∧
 capOk l7.length (((lookR k e l1 g2).1).fLast : List Int).length 8 ∧
 (Inv (wr (x65 + 1)) ((lookR k e l1 g2).2.1) ((lookR k e l1 g2).2.2) y40_2 (l6 ++ ((lookR k e l1 g2).1).fFirst) (l7 ++ ((lookR k e l1 g2).1).fLast) ∧ mu (wr (x65 + 1)) ((lookR k e l1 g2).2.1) ((lookR k e l1 g2).2.2) y40_2 (l6 ++ ((lookR k e l1 g2).1).fFirst) (l7 ++ ((lookR k e l1 g2).1).fLast) < mu x65 l1 g2 y40 l6 l7))) (Q ((RegularEnds.mk y40 l6 l7), l1, g2)))) (IfP (x.lab.fKind == 4) (∃ e_2, idx x.kids 0 = some e_2 ∧
 ((lookS k e_2 lets nxt).isSome) ∧
 partOk 1 (x.kids.length : Int) x.kids.length ∧
 ∃ (Inv_2 : Int → (List Int) → (List (List Int)) → RegularEnds → Prop) (mu_2 : Int → (List Int) → (List (List Int)) → RegularEnds → Nat), Inv_2 0 ((lookR k e_2 lets nxt).2.1) ((lookR k e_2 lets nxt).2.2) ((lookR k e_2 lets nxt).1) ∧
 ∀ (x109 : Int) (l1_2 : List Int) (g2_2 : List (List Int)) (y4 : RegularEnds) , Inv_2 x109 l1_2 g2_2 y4 → (IfP (decide (x109 < (((x.kids.take ((x.kids.length : Int) : Int).toNat).drop (1 : Int).toNat).length : Int))) (∃ e_3, idx ((x.kids.take ((x.kids.length : Int) : Int).toNat).drop (1 : Int).toNat) x109 = some e_3 ∧
 ((lookS k e_3 l1_2 g2_2).isSome) ∧
 ((tieS y4.fLast ((lookR k e_3 l1_2 g2_2).1).fFirst ((lookR k e_3 l1_2 g2_2).2.2)).isSome ∧ bhdOk y4 ((lookR k e_3 l1_2 g2_2).1)) ∧
 (Inv_2 (wr (x109 + 1)) (((lookR k e_3 l1_2 g2_2).2.1)) (tieR y4.fLast ((lookR k e_3 l1_2 g2_2).1).fFirst ((lookR k e_3 l1_2 g2_2).2.2)) (bhdR y4 ((lookR k e_3 l1_2 g2_2).1)) ∧ mu_2 (wr (x109 + 1)) (((lookR k e_3 l1_2 g2_2).2.1)) (tieR y4.fLast ((lookR k e_3 l1_2 g2_2).1).fFirst ((lookR k e_3 l1_2 g2_2).2.2)) (bhdR y4 ((lookR k e_3 l1_2 g2_2).1)) < mu_2 x109 l1_2 g2_2 y4)) (Q (y4, l1_2, g2_2)))) (∃ e_4, idx x.kids 0 = some e_4 ∧
 ((lookS k e_4 lets nxt).isSome) ∧
 ((tieS ((lookR k e_4 lets nxt).1).fLast ((lookR k e_4 lets nxt).1).fFirst ((lookR k e_4 lets nxt).2.2)).isSome) ∧
 Q ((RegularEnds.mk true ((lookR k e_4 lets nxt).1).fFirst ((lookR k e_4 lets nxt).1).fLast), (((lookR k e_4 lets nxt).2.1)), (tieR ((lookR k e_4 lets nxt).1).fLast ((lookR k e_4 lets nxt).1).fFirst ((lookR k e_4 lets nxt).2.2))))))))
noncomputable abbrev qam0 := (.box [B false, .v (.slice none 0 0), .v (.slice none 0 0)] 217 false : Item)
noncomputable abbrev qam1 (x : RTr) := sl 108 (I (((x.kids.take ((x.kids.length : Int) : Int).toNat).drop (1 : Int).toNat).length : Int))
noncomputable abbrev qam2 (x : RTr) := sl 107 (LS (TT rLab) ((x.kids.take ((x.kids.length : Int) : Int).toNat).drop (1 : Int).toNat))
noncomputable abbrev qam3 := (.box [.own 1, .gs 2 0] 151 false : Item)
noncomputable abbrev qam4 (y0 : Nat → Nat) := sl 0 (.pptr 0 0 (y0 0))
noncomputable abbrev qam5 (k : Nat) (y0) (y1) (y2) := (.box [B ((lookR k y0 y1 y2).1).fEmpty, LS intT ((lookR k y0 y1 y2).1).fFirst, LS intT ((lookR k y0 y1 y2).1).fLast] 217 false : Item)
noncomputable abbrev qam6 := sl 4 (.ptr 3 0)
noncomputable abbrev qam7 (y0) (y1) (y2) := (.box [B y0, LS intT y1, LS intT y2] 217 false : Item)
noncomputable abbrev qam8 (x : RTr) := sl 64 (I (x.kids.length : Int))
noncomputable abbrev qam9 (lets : List Int) (x : RTr) := (wr (((lets ++ ([x.lab.fLetter] : List Int)).length : Int) - 1))
noncomputable abbrev qam10 (x : RTr) := sl 63 (LS (TT rLab) x.kids)
noncomputable abbrev qam11 := sl 10 (.ptr 4 0)
noncomputable abbrev qam12 (k : Nat) (y0) (y1) (y2) (y3) := (.box [B (bhdR y0 ((lookR k y1 y2 y3).1)).fEmpty, LS intT (bhdR y0 ((lookR k y1 y2 y3).1)).fFirst, LS intT (bhdR y0 ((lookR k y1 y2 y3).1)).fLast] 217 false : Item)
noncomputable abbrev qam13 := sl 6 (.ptr 4 0)
noncomputable abbrev qam14 (x : RTr) := sl 1 (.rd (trR rLab x))
noncomputable abbrev qam15 (k : Nat) (lets : List Int) (nxt : List (List Int)) (y0) := (.box [B ((lookR k y0 lets nxt).1).fEmpty, LS intT ((lookR k y0 lets nxt).1).fFirst, LS intT ((lookR k y0 lets nxt).1).fLast] 217 false : Item)
noncomputable abbrev qam16 := (.box [.own 4, .gs 2 0] 151 false : Item)
noncomputable abbrev qam17 (y0) := (.box [B y0, .own 6, .own 7] 217 false : Item)
noncomputable abbrev qam18 (y0) := sl 12 (.rd (trR rLab y0))
set_option maxHeartbeats 2000000 in
theorem rLook_walk (k : Nat) (lets : List Int) (nxt : List (List Int)) (x : RTr) (ih : LC k) (Q : RegularEnds × (List Int) × (List (List Int)) → Prop) (h : rLook_vc k lets nxt x Q) : CtE 126 [.sv (.one (.ptr 0 0)), .sv (.one (.rd (trR rLab x)))] [.box [.own 1, .gs 2 0] 151 false, rowI 3 intT lets, gridI 23 3 intT nxt] [0] Q (fun (r : RegularEnds × (List Int) × (List (List Int))) => .sv (.agg [B r.1.fEmpty, LS intT r.1.fFirst, LS intT r.1.fLast])) (fun (r : RegularEnds × (List Int) × (List (List Int))) => [.box [.own 1, .gs 2 0] 151 false, rowI 3 intT r.2.1, gridI 23 3 intT r.2.2]) := by
 have ht := tab_ok
 refine CtE.body Try.func126 rfl rfl rfl (by kernel_rfl) (by kernel_rfl) (fun c Bk hn => ?_)
 unfold rLook_vc at h
 show En c ⟨[qam4 Bk, qam14 x], [qam3, rowI 3 intT lets, gridI 23 3 intT nxt]⟩ _
 refine En.sr ?_
 refine WL.rn ht hn 1 ⟨[qam4 Bk, qam14 x, qam6], [qam3, rowI 3 intT lets, gridI 23 3 intT nxt, qam0]⟩ ?_
 refine En.seq ?_
 refine En.sr ?_
 refine WL.r ht hn 1 ⟨[qam4 Bk, qam14 x, qam6, sl 14 (.rd (trR rLab x))], [qam3, rowI 3 intT lets, gridI 23 3 intT nxt, qam0]⟩ ?_
 refine WL.v hn (val_node (s := .agg [I x.lab.fKind, I x.lab.fLetter, LS (TT rLab) x.kids]) (t := x) (lab := rLab) rLabH rfl (by rfl) rfl rfl) ?_
 refine WL.v hn (val_fd (l := [I x.lab.fKind, I x.lab.fLetter, LS (TT rLab) x.kids]) (r := .one (I x.lab.fKind)) ht rfl) ?_
 refine WL.v hn (val_ld (s := .one (I x.lab.fKind)) ht rfl) ?_
 refine WL.nil ?_
 refine En.block ?_
 refine En.sr ?_
 refine WL.rn ht hn 2 ⟨[qam4 Bk, qam14 x, qam6, sl 17 (I x.lab.fKind), sl 18 (B (x.lab.fKind == 0))], [qam3, rowI 3 intT lets, gridI 23 3 intT nxt, qam0]⟩ ?_
 refine En.ch h (fun h => ?_) (fun h => ?_)
 refine En.sr ?_
 refine WL.rn ht hn 2 ⟨[qam4 Bk, qam6], [qam3, rowI 3 intT lets, gridI 23 3 intT nxt, qam0]⟩ ?_
 refine En.ret ?_
 refine En.nilBox (T := intT) 3 1 (by rfl) (by rfl) ?_
 refine En.nilBox (T := intT) 3 2 (by rfl) (by rfl) ?_
 exact En.backE [0] ht ((RegularEnds.mk false [] []), lets, nxt) h (by kernel_rfl) (by rfl) rfl
 refine En.sr ?_
 refine WL.rn ht hn 2 ⟨[qam4 Bk, qam14 x, qam6, sl 17 (I x.lab.fKind), sl 21 (B (x.lab.fKind == 1))], [qam3, rowI 3 intT lets, gridI 23 3 intT nxt, qam0]⟩ ?_
 refine En.ch h (fun h => ?_) (fun h => ?_)
 refine En.sr ?_
 refine WL.rn ht hn 2 ⟨[qam4 Bk, qam6], [qam3, rowI 3 intT lets, gridI 23 3 intT nxt, .box [B true, .v (.slice none 0 0), .v (.slice none 0 0)] 217 false]⟩ ?_
 refine En.ret ?_
 refine En.nilBox (T := intT) 3 1 (by rfl) (by rfl) ?_
 refine En.nilBox (T := intT) 3 2 (by rfl) (by rfl) ?_
 exact En.backE [0] ht ((RegularEnds.mk true [] []), lets, nxt) h (by kernel_rfl) (by rfl) rfl
 refine En.sr ?_
 refine WL.rn ht hn 2 ⟨[qam4 Bk, qam14 x, qam6, sl 17 (I x.lab.fKind), sl 24 (B (x.lab.fKind == 2))], [qam3, rowI 3 intT lets, gridI 23 3 intT nxt, qam0]⟩ ?_
 refine En.ch h (fun h => ?_) (fun h => ?_)
 refine En.seq ?_
 obtain ⟨hp_2, h⟩ := h
 refine En.regionA ⟨[qam4 Bk, qam14 x, qam6], [.sv (.one (.ptr 0 0)), .sv (.one (.ptr 0 0)), .sv (.one (.ptr 0 0)), .sv (.one (.ptr 0 0)), .sv (.one (.own 1)), .sv (.one (.rd (trR rLab x))), .sv (.one (.pe (svR (.agg [I x.lab.fKind, I x.lab.fLetter, LS (TT rLab) x.kids])) 3)), .sv (.one (.pe (svR (.one (I x.lab.fLetter))) 1)), .sv (.one (I x.lab.fLetter)), .sv (.one (LS intT ([x.lab.fLetter] : List Int))), .sv (.one (.own 4)), .sv (.one (.ptr 0 0)), .sv (.one (.ptr 0 0)), .tup []], [⟨(qam3), none, none, some (13, qam16)⟩, ⟨rowI 3 intT lets, none, some 10, none⟩, ⟨gridI 23 3 intT nxt, none, none, none⟩, ⟨(qam0), none, none, none⟩, ⟨rowI 3 intT (lets ++ ([x.lab.fLetter] : List Int)), some 10, none, none⟩]⟩ ⟨[qam4 Bk, qam6], [qam16, .gone, gridI 23 3 intT nxt, qam0, rowI 3 intT (lets ++ ([x.lab.fLetter] : List Int))]⟩ (by kernel_rfl) hn (by kernel_rfl) (by rfl) (by kernel_rfl) ?_ (by kernel_rfl) ?_
 exact ⟨.ev ⟨[qam4 Bk], []⟩ ht,
 .ev ⟨[qam4 Bk], []⟩ ht,
 .ev ⟨[sl 27 (.ptr 0 0)], []⟩ ht,
 .ev ⟨[sl 28 (.ptr 0 0)], []⟩ ht,
 .ev ⟨[sl 29 (.ptr 0 0)], [qam3]⟩ ht,
 .ev ⟨[qam14 x], []⟩ ht,
 .vl ⟨[sl 31 (.rd (trR rLab x))], []⟩ (mt_val (val_node (s := .agg [I x.lab.fKind, I x.lab.fLetter, LS (TT rLab) x.kids]) (t := x) (lab := rLab) rLabH rfl (by rfl) rfl rfl)),
 .vl ⟨[sl 32 (.pe (svR (.agg [I x.lab.fKind, I x.lab.fLetter, LS (TT rLab) x.kids])) 3)], []⟩ (mt_val (val_fd (l := [I x.lab.fKind, I x.lab.fLetter, LS (TT rLab) x.kids]) (r := .one (I x.lab.fLetter)) ht rfl)),
 .vl ⟨[sl 33 (.pe (svR (.one (I x.lab.fLetter))) 1)], []⟩ (mt_val (val_ld (s := .one (I x.lab.fLetter)) ht rfl)),
 .mt ⟨[sl 34 (I x.lab.fLetter)], []⟩ [] none (by kernel_rfl) (by rfl) (mt_seal (q := 4) (e := 3) (mt_lit (T := intT) ([x.lab.fLetter] : List Int) (mt_bsl 4 (r := cellsOf intT ([x.lab.fLetter] : List Int)) ht rfl (by rfl) (by rfl) (by rfl) (by kernel_rfl) (by rfl)) (fun _ h => by cases h) (fun _ => rfl) (fun _ => rfl) (by rfl) (Nat.le_of_ble_eq_true rfl))) rfl rfl rfl rfl,
 .mt ⟨[sl 30 (.own 1), sl 35 (LS intT ([x.lab.fLetter] : List Int))], [.gone, rowI 3 intT lets]⟩ [1] (some 4) (by kernel_rfl) (by rfl) (mt_append (T := intT) (l := lets) (es := ([x.lab.fLetter] : List Int)) (p := 4) ht rfl (by rfl) (by rfl) (by rfl) (by rfl) (by decide) (by rfl) (by rfl) (srcLS (T := intT) (es := ([x.lab.fLetter] : List Int)) (fun _ h => by cases h) (by decide) (by rfl)) (by exact hp_2) (by exact hp_2.le (by decide))) rfl rfl rfl rfl,
 .ev ⟨[sl 26 (.ptr 0 0)], []⟩ ht,
 .ev ⟨[sl 37 (.ptr 0 0)], []⟩ ht,
 .mu ⟨[sl 36 (.own 4), sl 38 (.ptr 0 0)], [qam3]⟩ 0 _ _ rfl rfl (by kernel_rfl) (by rfl) (mu_store2 ht rfl (by rfl) (by rfl) (by rfl) (by rfl) (fun h => by cases h) (by rfl) (by rfl)) rfl rfl rfl rfl rfl rfl rfl,
 trivial⟩
 refine En.sr ?_
 refine WL.r ht hn 6 ⟨[qam4 Bk, qam6, sl 39 (.ptr 0 0), sl 43 (.gs 2 0), sl 44 (.bsl 5 1)], [qam16, .gone, gridI 23 3 intT nxt, qam0, rowI 3 intT (lets ++ ([x.lab.fLetter] : List Int)), .box [.v (.slice none 0 0)] 23 false]⟩ ?_
 refine WL.junk 0 1 (by rfl) ?_
 obtain ⟨hp, h⟩ := h
 refine WL.mt (S2 := ⟨[qam4 Bk, qam6, sl 39 (.ptr 0 0), sl 44 (.bsl 5 1)], [.box [.own 4, .junk] 151 false, .gone, gridI 23 3 intT nxt, qam0, rowI 3 intT (lets ++ ([x.lab.fLetter] : List Int)), .box [.v (.slice none 0 0)] 23 false]⟩) (K := [2]) (p := some (2, gridI 23 3 intT (nxt ++ List.replicate 1 []))) hn (by rfl) (mt_appendG (T := intT) (L := nxt) (m := 1) ht rfl (by rfl) (by rfl) (by rfl) (by rfl) (by rfl) (by rfl) (srcBsl (T := nilT) (List.replicate 1 ()) (fun _ h => by cases h) (fun _ => rfl) (fun _ => rfl) (by rfl) (by rfl) (by rfl) (by rfl)) (by exact hp) (by exact hp.le (by decide))) (by kernel_rfl) (by rfl) (by rfl) (by rfl) ?_
 refine WL.rn ht hn 3 ⟨[qam4 Bk, qam6], [qam16, .gone, gridI 23 3 intT (nxt ++ List.replicate 1 []), qam0, rowI 3 intT (lets ++ ([x.lab.fLetter] : List Int)), .gone]⟩ ?_
 refine En.sr ?_
 refine WL.r ht hn 6 ⟨[qam4 Bk, qam6, sl 53 (I (qam9 lets x))], [qam16, .gone, gridI 23 3 intT (nxt ++ List.replicate 1 []), qam0, rowI 3 intT (lets ++ ([x.lab.fLetter] : List Int)), .gone]⟩ ?_
 refine WL.mt0 (K := []) (p := some (6, rowI 3 intT ([qam9 lets x] : List Int))) hn (by rfl) (mt_lit (T := intT) ([qam9 lets x] : List Int) (mt_bsl 6 (r := cellsOf intT ([qam9 lets x] : List Int)) ht rfl (by rfl) (by rfl) (by rfl) (by kernel_rfl) (by rfl)) (fun _ h => by cases h) (fun _ => rfl) (fun _ => rfl) (by rfl) (Nat.le_of_ble_eq_true rfl)) (by rfl) (by rfl) (by rfl) ?_
 refine WL.rn ht hn 1 ⟨[qam4 Bk, qam6, sl 5 (.own 6)], [qam16, .gone, gridI 23 3 intT (nxt ++ List.replicate 1 []), qam0, rowI 3 intT (lets ++ ([x.lab.fLetter] : List Int)), .gone, rowI 3 intT ([qam9 lets x] : List Int)]⟩ ?_
 refine En.sr ?_
 refine WL.rn ht hn 4 ⟨[qam4 Bk, qam6], [qam16, .gone, gridI 23 3 intT (nxt ++ List.replicate 1 []), .box [B false, .own 6, .own 6] 217 false, rowI 3 intT (lets ++ ([x.lab.fLetter] : List Int)), .gone, rowI 3 intT ([qam9 lets x] : List Int)]⟩ ?_
 refine En.ret ?_
 refine En.seal (T := intT) (l := ([qam9 lets x] : List Int)) (e := 3) 6 rfl ?_
 refine En.move 4 1 (by rfl) (by rfl) ?_
 exact En.backE [0] ht ((RegularEnds.mk false ([qam9 lets x] : List Int) ([qam9 lets x] : List Int)), (lets ++ ([x.lab.fLetter] : List Int)), (nxt ++ List.replicate 1 [])) h (by kernel_rfl) (by rfl) rfl
 refine En.sr ?_
 refine WL.rn ht hn 2 ⟨[qam4 Bk, qam14 x, qam6, sl 17 (I x.lab.fKind), sl 58 (B (x.lab.fKind == 3))], [qam3, rowI 3 intT lets, gridI 23 3 intT nxt, qam0]⟩ ?_
 refine En.ch h (fun h => ?_) (fun h => ?_)
 refine En.sr ?_
 refine WL.rn ht hn 1 ⟨[qam4 Bk, qam14 x, qam6, qam13], [qam3, rowI 3 intT lets, gridI 23 3 intT nxt, qam0, qam0]⟩ ?_
 refine En.seq ?_
 refine En.sr ?_
 refine WL.r ht hn 1 ⟨[qam4 Bk, qam6, qam13, sl 60 (.rd (trR rLab x))], [qam3, rowI 3 intT lets, gridI 23 3 intT nxt, qam0, qam0]⟩ ?_
 refine WL.v hn (val_node (s := .agg [I x.lab.fKind, I x.lab.fLetter, LS (TT rLab) x.kids]) (t := x) (lab := rLab) rLabH rfl (by rfl) rfl rfl) ?_
 refine WL.v hn (val_fd (l := [I x.lab.fKind, I x.lab.fLetter, LS (TT rLab) x.kids]) (r := .one (LS (TT rLab) x.kids)) ht rfl) ?_
 refine WL.v hn (val_ld (s := .one (LS (TT rLab) x.kids)) ht rfl) ?_
 refine WL.rn ht hn 2 ⟨[qam4 Bk, qam6, qam13, qam10 x, qam8 x, sl 65 (I 0)], [qam3, rowI 3 intT lets, gridI 23 3 intT nxt, qam0, qam0]⟩ ?_
 refine En.block ?_
 refine En.nilBoxO (T := intT) 4 1 6 3 (by rfl) (by rfl) (by rfl) (by rfl) ?_
 refine En.nilBoxO (T := intT) 4 2 7 3 (by rfl) (by rfl) (by rfl) (by rfl) ?_
 obtain ⟨Inv, mu, h0, hI⟩ := h
 refine En.loop (σ := Int × (List Int) × (List (List Int)) × Bool × (List Int) × (List Int)) (fun zz => Inv zz.1 zz.2.1 zz.2.2.1 zz.2.2.2.1 zz.2.2.2.2.1 zz.2.2.2.2.2) (fun zz => mu zz.1 zz.2.1 zz.2.2.1 zz.2.2.2.1 zz.2.2.2.2.1 zz.2.2.2.2.2) (fun zz => ⟨[qam4 Bk, qam6, qam13, qam10 x, qam8 x, sl 65 (I zz.1)], [qam3, rowI 3 intT zz.2.1, gridI 23 3 intT zz.2.2.1, qam0, .box [B zz.2.2.2.1, .own 6, .own 7] 217 false, .gone, rowI 3 intT zz.2.2.2.2.1, rowI 3 intT zz.2.2.2.2.2]⟩) (0, lets, nxt, false, ([] : List Int), ([] : List Int)) h0 (sub_ok (by kernel_rfl)) ?_
 rintro ⟨x65, l1, g2, y40, l6, l7⟩ h
 replace h := hI _ _ _ _ _ _ h
 show En c ⟨[qam4 Bk, qam6, qam13, qam10 x, qam8 x, sl 65 (I x65)], [qam3, rowI 3 intT l1, gridI 23 3 intT g2, qam0, qam17 y40, .gone, rowI 3 intT l6, rowI 3 intT l7]⟩ _
 refine En.sr ?_
 refine WL.rn ht hn 1 ⟨[qam4 Bk, qam6, qam13, qam10 x, qam8 x, sl 65 (I x65), sl 66 (B (decide (x65 < (x.kids.length : Int))))], [qam3, rowI 3 intT l1, gridI 23 3 intT g2, qam0, qam17 y40, .gone, rowI 3 intT l6, rowI 3 intT l7]⟩ ?_
 refine En.seq ?_
 refine En.ch h (fun h => ?_) (fun h => ?_)
 refine En.skip ?_
 refine En.seq ?_
 refine En.block ?_
 refine En.sr ?_
 obtain ⟨e, he, h⟩ := h
 refine WL.v hn (val_ix (T := (TT rLab)) (l := x.kids) (i := x65) ht rfl he) ?_
 refine WL.v hn (val_ld (s := .one (.rd (trR rLab e))) ht rfl) ?_
 refine WL.rn ht hn 1 ⟨[qam4 Bk, qam6, qam13, sl 8 (.rd (trR rLab e)), qam10 x, qam8 x, sl 65 (I x65)], [qam3, rowI 3 intT l1, gridI 23 3 intT g2, qam0, qam17 y40, .gone, rowI 3 intT l6, rowI 3 intT l7]⟩ ?_
 refine En.sr ?_
 refine WL.r ht hn 2 ⟨[qam4 Bk, qam6, qam13, qam10 x, qam8 x, sl 65 (I x65), sl 69 (.ptr 0 0), sl 70 (.rd (trR rLab e))], [qam3, rowI 3 intT l1, gridI 23 3 intT g2, qam0, qam17 y40, .gone, rowI 3 intT l6, rowI 3 intT l7]⟩ ?_
 obtain ⟨hp, h⟩ := h
 refine WL.cE (lkI k ih e l1 g2 hp) en126 [0, 1, 2] hn rfl ?_
 refine WL.rn ht hn 2 ⟨[qam4 Bk, qam6, qam13, sl 9 (.ptr 8 0), qam10 x, qam8 x, sl 65 (I x65)], [qam3, rowI 3 intT (lookR k e l1 g2).2.1, gridI 23 3 intT (lookR k e l1 g2).2.2, qam0, qam17 y40, .gone, rowI 3 intT l6, rowI 3 intT l7, qam5 k e l1 g2]⟩ ?_
 obtain ⟨J, h, hJ⟩ := h
 refine En.seqJ (σ := Bool) (fun zz => J zz) (fun zz => ⟨[qam4 Bk, qam6, qam13, sl 9 (.ptr 8 0), qam10 x, qam8 x, sl 65 (I x65)], [qam3, rowI 3 intT (lookR k e l1 g2).2.1, gridI 23 3 intT (lookR k e l1 g2).2.2, qam0, .box [B zz, .own 6, .own 7] 217 false, .gone, rowI 3 intT l6, rowI 3 intT l7, qam5 k e l1 g2]⟩) ?_ ?_
 refine En.region ?_
 refine WL.r ht hn 3 ⟨[qam4 Bk, qam6, qam13, sl 9 (.ptr 8 0), qam10 x, qam8 x, sl 65 (I x65), sl 74 (B y40)], [qam3, rowI 3 intT (lookR k e l1 g2).2.1, gridI 23 3 intT (lookR k e l1 g2).2.2, qam0, qam17 y40, .gone, rowI 3 intT l6, rowI 3 intT l7, qam5 k e l1 g2]⟩ ?_
 refine splitB y40 (fun hb => ?_) (fun hb => ?_)
 replace h := h.1 hb
 refine WL.sB 74 hb ?_
 refine WL.rn ht hn 5 ⟨[qam4 Bk, qam6, qam13, sl 9 (.ptr 8 0), qam10 x, qam8 x, sl 65 (I x65)], [qam3, rowI 3 intT (lookR k e l1 g2).2.1, gridI 23 3 intT (lookR k e l1 g2).2.2, qam0, .box [B true, .own 6, .own 7] 217 false, .gone, rowI 3 intT l6, rowI 3 intT l7, qam5 k e l1 g2]⟩ ?_
 exact En.at (I := fun zz => J zz) (T := fun zz => ⟨[qam4 Bk, qam6, qam13, sl 9 (.ptr 8 0), qam10 x, qam8 x, sl 65 (I x65)], [qam3, rowI 3 intT (lookR k e l1 g2).2.1, gridI 23 3 intT (lookR k e l1 g2).2.2, qam0, .box [B zz, .own 6, .own 7] 217 false, .gone, rowI 3 intT l6, rowI 3 intT l7, qam5 k e l1 g2]⟩) true h (by kernel_rfl)
 replace h := h.2 hb
 refine WL.sB 74 hb ?_
 refine WL.rn ht hn 5 ⟨[qam4 Bk, qam6, qam13, sl 9 (.ptr 8 0), qam10 x, qam8 x, sl 65 (I x65)], [qam3, rowI 3 intT (lookR k e l1 g2).2.1, gridI 23 3 intT (lookR k e l1 g2).2.2, qam0, .box [B ((lookR k e l1 g2).1).fEmpty, .own 6, .own 7] 217 false, .gone, rowI 3 intT l6, rowI 3 intT l7, qam5 k e l1 g2]⟩ ?_
 exact En.at (I := fun zz => J zz) (T := fun zz => ⟨[qam4 Bk, qam6, qam13, sl 9 (.ptr 8 0), qam10 x, qam8 x, sl 65 (I x65)], [qam3, rowI 3 intT (lookR k e l1 g2).2.1, gridI 23 3 intT (lookR k e l1 g2).2.2, qam0, .box [B zz, .own 6, .own 7] 217 false, .gone, rowI 3 intT l6, rowI 3 intT l7, qam5 k e l1 g2]⟩) ((lookR k e l1 g2).1).fEmpty h (by kernel_rfl)
 intro y40_2 h
 replace h := hJ _ h
 show En c ⟨[qam4 Bk, qam6, qam13, sl 9 (.ptr 8 0), qam10 x, qam8 x, sl 65 (I x65)], [qam3, rowI 3 intT (lookR k e l1 g2).2.1, gridI 23 3 intT (lookR k e l1 g2).2.2, qam0, .box [B y40_2, .own 6, .own 7] 217 false, .gone, rowI 3 intT l6, rowI 3 intT l7, qam5 k e l1 g2]⟩ _
 obtain ⟨hp_3, h⟩ := h
 obtain ⟨hp_4, h⟩ := h
 refine En.regionT ⟨[qam4 Bk, qam6, qam13, sl 9 (.ptr 8 0), qam10 x, qam8 x, sl 65 (I x65)], [.sv (.one (.ptr 4 1)), .sv (.one (.own 6)), .sv (.one (.ptr 8 1)), .sv (.one (LS intT ((lookR k e l1 g2).1).fFirst)), .sv (.one (.own 9)), .sv (.one (.ptr 4 2)), .sv (.one (.own 7)), .sv (.one (.ptr 8 2)), .sv (.one (LS intT ((lookR k e l1 g2).1).fLast)), .sv (.one (.own 10)), .sv (.one (.ptr 4 1))], [⟨(qam3), none, none, none⟩, ⟨rowI 3 intT (lookR k e l1 g2).2.1, none, none, none⟩, ⟨gridI 23 3 intT (lookR k e l1 g2).2.2, none, none, none⟩, ⟨(qam0), none, none, none⟩, ⟨.box [B y40_2, .own 6, .own 7] 217 false, none, none, none⟩, ⟨.gone, none, none, none⟩, ⟨rowI 3 intT l6, none, some 4, none⟩, ⟨rowI 3 intT l7, none, some 9, none⟩, ⟨(qam5 k e l1 g2), none, none, none⟩, ⟨rowI 3 intT (l6 ++ ((lookR k e l1 g2).1).fFirst), some 4, none, none⟩, ⟨rowI 3 intT (l7 ++ ((lookR k e l1 g2).1).fLast), some 9, none, none⟩]⟩ 11 ⟨[qam4 Bk, qam6, qam13, qam10 x, qam8 x, sl 65 (I x65), sl 83 (.own 9), sl 88 (.own 10), sl 89 (.ptr 4 1)], [qam3, rowI 3 intT (lookR k e l1 g2).2.1, gridI 23 3 intT (lookR k e l1 g2).2.2, qam0, .box [B y40_2, .own 6, .own 7] 217 false, .gone, .gone, .gone, .gone, rowI 3 intT (l6 ++ ((lookR k e l1 g2).1).fFirst), rowI 3 intT (l7 ++ ((lookR k e l1 g2).1).fLast)]⟩ (by kernel_rfl) hn (by kernel_rfl) (by kernel_rfl) (by kernel_rfl) (by rfl) (by kernel_rfl) ?_ (by kernel_rfl) ?_
 exact ⟨.ev ⟨[qam13], []⟩ ht,
 .ev ⟨[sl 79 (.ptr 4 1)], [.gone, .gone, .gone, .gone, .box [B y40_2, .own 6, .own 7] 217 false]⟩ ht,
 .ev ⟨[sl 9 (.ptr 8 0)], []⟩ ht,
 .ev ⟨[sl 81 (.ptr 8 1)], [.gone, .gone, .gone, .gone, .gone, .gone, .gone, .gone, qam5 k e l1 g2]⟩ ht,
 .mt ⟨[sl 80 (.own 6), sl 82 (LS intT ((lookR k e l1 g2).1).fFirst)], [.gone, .gone, .gone, .gone, .gone, .gone, rowI 3 intT l6]⟩ [6] (some 9) (by kernel_rfl) (by rfl) (mt_append (T := intT) (l := l6) (es := ((lookR k e l1 g2).1).fFirst) (p := 9) ht rfl (by rfl) (by rfl) (by rfl) (by rfl) (by decide) (by rfl) (by rfl) (srcLS (T := intT) (es := ((lookR k e l1 g2).1).fFirst) (fun _ h => by cases h) (by decide) (by rfl)) (by exact hp_3) (by exact hp_3.le (by decide))) rfl rfl rfl rfl,
 .ev ⟨[qam13], []⟩ ht,
 .ev ⟨[sl 84 (.ptr 4 2)], [.gone, .gone, .gone, .gone, .box [B y40_2, .own 6, .own 7] 217 false]⟩ ht,
 .ev ⟨[sl 9 (.ptr 8 0)], []⟩ ht,
 .ev ⟨[sl 86 (.ptr 8 2)], [.gone, .gone, .gone, .gone, .gone, .gone, .gone, .gone, qam5 k e l1 g2]⟩ ht,
 .mt ⟨[sl 85 (.own 7), sl 87 (LS intT ((lookR k e l1 g2).1).fLast)], [.gone, .gone, .gone, .gone, .gone, .gone, .gone, rowI 3 intT l7]⟩ [7] (some 10) (by kernel_rfl) (by rfl) (mt_append (T := intT) (l := l7) (es := ((lookR k e l1 g2).1).fLast) (p := 10) ht rfl (by rfl) (by rfl) (by rfl) (by rfl) (by decide) (by rfl) (by rfl) (srcLS (T := intT) (es := ((lookR k e l1 g2).1).fLast) (fun _ h => by cases h) (by decide) (by rfl)) (by exact hp_4) (by exact hp_4.le (by decide))) rfl rfl rfl rfl,
 .ev ⟨[qam13], []⟩ ht,
 trivial⟩
 refine WL.rn ht hn 3 ⟨[qam4 Bk, qam6, qam13, qam10 x, qam8 x, sl 65 (I x65)], [qam3, rowI 3 intT (lookR k e l1 g2).2.1, gridI 23 3 intT (lookR k e l1 g2).2.2, qam0, .box [B y40_2, .own 9, .own 10] 217 false, .gone, .gone, .gone, .gone, rowI 3 intT (l6 ++ ((lookR k e l1 g2).1).fFirst), rowI 3 intT (l7 ++ ((lookR k e l1 g2).1).fLast)]⟩ ?_
 refine En.region ?_
 refine WL.rn ht hn 2 ⟨[qam4 Bk, qam6, qam13, qam10 x, qam8 x, sl 65 (I (wr (x65 + 1)))], [qam3, rowI 3 intT (lookR k e l1 g2).2.1, gridI 23 3 intT (lookR k e l1 g2).2.2, qam0, .box [B y40_2, .own 9, .own 10] 217 false, .gone, .gone, .gone, .gone, rowI 3 intT (l6 ++ ((lookR k e l1 g2).1).fFirst), rowI 3 intT (l7 ++ ((lookR k e l1 g2).1).fLast)]⟩ ?_
 refine En.move 9 6 (by rfl) (by rfl) ?_
 refine En.move 10 7 (by rfl) (by rfl) ?_
 exact En.at (I := fun zz => Inv zz.1 zz.2.1 zz.2.2.1 zz.2.2.2.1 zz.2.2.2.2.1 zz.2.2.2.2.2 ∧ mu zz.1 zz.2.1 zz.2.2.1 zz.2.2.2.1 zz.2.2.2.2.1 zz.2.2.2.2.2 < mu x65 l1 g2 y40 l6 l7) (T := fun zz => ⟨[qam4 Bk, qam6, qam13, qam10 x, qam8 x, sl 65 (I zz.1)], [qam3, rowI 3 intT zz.2.1, gridI 23 3 intT zz.2.2.1, qam0, .box [B zz.2.2.2.1, .own 6, .own 7] 217 false, .gone, rowI 3 intT zz.2.2.2.2.1, rowI 3 intT zz.2.2.2.2.2]⟩) ((wr (x65 + 1)), (lookR k e l1 g2).2.1, (lookR k e l1 g2).2.2, y40_2, (l6 ++ ((lookR k e l1 g2).1).fFirst), (l7 ++ ((lookR k e l1 g2).1).fLast)) h (by kernel_rfl)
 refine En.exit rfl ?_
 refine En.sr ?_
 refine WL.rn ht hn 2 ⟨[qam4 Bk, qam6], [qam3, rowI 3 intT l1, gridI 23 3 intT g2, qam17 y40, .gone, .gone, rowI 3 intT l6, rowI 3 intT l7]⟩ ?_
 refine En.ret ?_
 refine En.seal (T := intT) (l := l6) (e := 3) 6 rfl ?_
 refine En.seal (T := intT) (l := l7) (e := 3) 7 rfl ?_
 exact En.backE [0] ht ((RegularEnds.mk y40 l6 l7), l1, g2) h (by kernel_rfl) (by rfl) rfl
 refine En.sr ?_
 refine WL.rn ht hn 2 ⟨[qam4 Bk, qam14 x, qam6, sl 93 (B (x.lab.fKind == 4))], [qam3, rowI 3 intT lets, gridI 23 3 intT nxt, qam0]⟩ ?_
 refine En.ch h (fun h => ?_) (fun h => ?_)
 refine En.sr ?_
 refine WL.r ht hn 2 ⟨[qam4 Bk, qam14 x, qam6, sl 95 (.ptr 0 0), sl 96 (.rd (trR rLab x))], [qam3, rowI 3 intT lets, gridI 23 3 intT nxt, qam0]⟩ ?_
 refine WL.v hn (val_node (s := .agg [I x.lab.fKind, I x.lab.fLetter, LS (TT rLab) x.kids]) (t := x) (lab := rLab) rLabH rfl (by rfl) rfl rfl) ?_
 refine WL.v hn (val_fd (l := [I x.lab.fKind, I x.lab.fLetter, LS (TT rLab) x.kids]) (r := .one (LS (TT rLab) x.kids)) ht rfl) ?_
 refine WL.v hn (val_ld (s := .one (LS (TT rLab) x.kids)) ht rfl) ?_
 obtain ⟨e_2, he_2, h⟩ := h
 refine WL.v hn (val_ix (T := (TT rLab)) (l := x.kids) (i := 0) ht rfl he_2) ?_
 refine WL.v hn (val_ld (s := .one (.rd (trR rLab e_2))) ht rfl) ?_
 obtain ⟨hp, h⟩ := h
 refine WL.cE (lkI k ih e_2 lets nxt hp) en126 [0, 1, 2] hn rfl ?_
 refine WL.rn ht hn 2 ⟨[qam4 Bk, qam14 x, qam6, qam11], [qam3, rowI 3 intT (lookR k e_2 lets nxt).2.1, gridI 23 3 intT (lookR k e_2 lets nxt).2.2, qam0, qam15 k lets nxt e_2]⟩ ?_
 refine En.seq ?_
 refine En.sr ?_
 refine WL.r ht hn 1 ⟨[qam4 Bk, qam6, qam11, sl 103 (.rd (trR rLab x))], [qam3, rowI 3 intT (lookR k e_2 lets nxt).2.1, gridI 23 3 intT (lookR k e_2 lets nxt).2.2, qam0, qam15 k lets nxt e_2]⟩ ?_
 refine WL.v hn (val_node (s := .agg [I x.lab.fKind, I x.lab.fLetter, LS (TT rLab) x.kids]) (t := x) (lab := rLab) rLabH rfl (by rfl) rfl rfl) ?_
 refine WL.v hn (val_fd (l := [I x.lab.fKind, I x.lab.fLetter, LS (TT rLab) x.kids]) (r := .one (LS (TT rLab) x.kids)) ht rfl) ?_
 refine WL.v hn (val_ld (s := .one (LS (TT rLab) x.kids)) ht rfl) ?_
 obtain ⟨hp, h⟩ := h
 refine WL.v hn (val_slice (T := (TT rLab)) (l := x.kids) (lv := 1) (hv := (x.kids.length : Int)) ht rfl (by rfl) (by rfl) (by rfl) (by rfl) (by rfl) (by rfl) (by rfl) hp) ?_
 refine WL.rn ht hn 2 ⟨[qam4 Bk, qam6, qam11, qam2 x, qam1 x, sl 109 (I 0)], [qam3, rowI 3 intT (lookR k e_2 lets nxt).2.1, gridI 23 3 intT (lookR k e_2 lets nxt).2.2, qam0, qam15 k lets nxt e_2]⟩ ?_
 refine En.block ?_
 obtain ⟨Inv_2, mu_2, h0_2, hI_2⟩ := h
 refine En.loop (σ := Int × (List Int) × (List (List Int)) × RegularEnds) (fun zz => Inv_2 zz.1 zz.2.1 zz.2.2.1 zz.2.2.2) (fun zz => mu_2 zz.1 zz.2.1 zz.2.2.1 zz.2.2.2) (fun zz => ⟨[qam4 Bk, qam6, qam11, qam2 x, qam1 x, sl 109 (I zz.1)], [qam3, rowI 3 intT zz.2.1, gridI 23 3 intT zz.2.2.1, qam0, .box [B zz.2.2.2.fEmpty, LS intT zz.2.2.2.fFirst, LS intT zz.2.2.2.fLast] 217 false]⟩) (0, (lookR k e_2 lets nxt).2.1, (lookR k e_2 lets nxt).2.2, (lookR k e_2 lets nxt).1) h0_2 (sub_ok (by kernel_rfl)) ?_
 rintro ⟨x109, l1_2, g2_2, y4⟩ h
 replace h := hI_2 _ _ _ _ h
 show En c ⟨[qam4 Bk, qam6, qam11, qam2 x, qam1 x, sl 109 (I x109)], [qam3, rowI 3 intT l1_2, gridI 23 3 intT g2_2, qam0, qam7 y4.fEmpty y4.fFirst y4.fLast]⟩ _
 refine En.sr ?_
 refine WL.rn ht hn 1 ⟨[qam4 Bk, qam6, qam11, qam2 x, qam1 x, sl 109 (I x109), sl 110 (B (decide (x109 < (((x.kids.take ((x.kids.length : Int) : Int).toNat).drop (1 : Int).toNat).length : Int))))], [qam3, rowI 3 intT l1_2, gridI 23 3 intT g2_2, qam0, qam7 y4.fEmpty y4.fFirst y4.fLast]⟩ ?_
 refine En.seq ?_
 refine En.ch h (fun h => ?_) (fun h => ?_)
 refine En.skip ?_
 refine En.seq ?_
 refine En.block ?_
 refine En.sr ?_
 obtain ⟨e_3, he_3, h⟩ := h
 refine WL.v hn (val_ix (T := (TT rLab)) (l := ((x.kids.take ((x.kids.length : Int) : Int).toNat).drop (1 : Int).toNat)) (i := x109) ht rfl he_3) ?_
 refine WL.v hn (val_ld (s := .one (.rd (trR rLab e_3))) ht rfl) ?_
 refine WL.rn ht hn 1 ⟨[qam4 Bk, qam6, qam11, qam18 e_3, qam2 x, qam1 x, sl 109 (I x109)], [qam3, rowI 3 intT l1_2, gridI 23 3 intT g2_2, qam0, qam7 y4.fEmpty y4.fFirst y4.fLast]⟩ ?_
 obtain ⟨hp_r4, h⟩ := h
 obtain ⟨hp_r5, h⟩ := h
 refine En.regionD ⟨[qam4 Bk, qam6, qam11, qam2 x, qam1 x, sl 109 (I x109)], [qam3, rowI 3 intT (lookR k e_3 l1_2 g2_2).2.1, gridI 23 3 intT (tieR y4.fLast ((lookR k e_3 l1_2 g2_2).1).fFirst (lookR k e_3 l1_2 g2_2).2.2), qam0, qam12 k y4 e_3 l1_2 g2_2]⟩ (by kernel_rfl) ?_ ?_
 intro N' hF
 refine RD.have 0 #[tt, tt, tt, tt, tt, tt, tt] ⟨[qam4 Bk, qam6, qam11, qam2 x, qam1 x, sl 109 (I x109)], [qam3, rowI 3 intT (lookR k e_3 l1_2 g2_2).2.1, gridI 23 3 intT (tieR y4.fLast ((lookR k e_3 l1_2 g2_2).1).fFirst (lookR k e_3 l1_2 g2_2).2.2), qam0, qam12 k y4 e_3 l1_2 g2_2]⟩ (RD.nil (by kernel_rfl) hF) (fun rd21 => ?_)
 refine RD.have 1 #[tt, tt, tt, tt, tt, tt, ff] ⟨[qam4 Bk, qam6, qam11, qam2 x, qam1 x, sl 109 (I x109), (118, .sv (.agg [B (bhdR y4 (lookR k e_3 l1_2 g2_2).1).fEmpty, LS intT (bhdR y4 (lookR k e_3 l1_2 g2_2).1).fFirst, LS intT (bhdR y4 (lookR k e_3 l1_2 g2_2).1).fLast]))], [qam3, rowI 3 intT (lookR k e_3 l1_2 g2_2).2.1, gridI 23 3 intT (tieR y4.fLast ((lookR k e_3 l1_2 g2_2).1).fFirst (lookR k e_3 l1_2 g2_2).2.2), qam0, qam7 y4.fEmpty y4.fFirst y4.fLast]⟩ ?_ (fun rd20 => ?_)
 refine RD.succ [6] (by kernel_rfl) rfl ⟨⟨_, _, _, rfl, ?_, rfl, rd21⟩, trivial⟩
 exact WL.rI ht hn
 refine RD.have 2 #[tt, tt, tt, tt, tt, ff, ff] ⟨[qam4 Bk, qam6, qam11, qam2 x, qam1 x, sl 109 (I x109), sl 113 (.ptr 0 0), (114, .sv (.agg [B y4.fEmpty, LS intT y4.fFirst, LS intT y4.fLast])), (117, .sv (.agg [B ((lookR k e_3 l1_2 g2_2).1).fEmpty, LS intT ((lookR k e_3 l1_2 g2_2).1).fFirst, LS intT ((lookR k e_3 l1_2 g2_2).1).fLast]))], [qam3, rowI 3 intT (lookR k e_3 l1_2 g2_2).2.1, gridI 23 3 intT (lookR k e_3 l1_2 g2_2).2.2, qam0, qam7 y4.fEmpty y4.fFirst y4.fLast]⟩ ?_ (fun rd19 => ?_)
 refine RD.succ [5] (by kernel_rfl) rfl ⟨⟨_, _, _, rfl, ?_, rfl, rd20⟩, trivial⟩
 refine WL.cE (rBhd_ct (lookR k e_3 l1_2 g2_2).2.1 (lookR k e_3 l1_2 g2_2).2.2 y4 (lookR k e_3 l1_2 g2_2).1 hp_r5) en180 [0, 1, 2] hn rfl ?_
 refine WL.nil ?_
 exact sub_ok (by kernel_rfl)
 refine RD.have 3 #[ff, tt, tt, tt, tt, ff, ff] ⟨[qam4 Bk, qam6, qam11, qam2 x, qam1 x, sl 109 (I x109), (114, .sv (.agg [B y4.fEmpty, LS intT y4.fFirst, LS intT y4.fLast])), (117, .sv (.agg [B ((lookR k e_3 l1_2 g2_2).1).fEmpty, LS intT ((lookR k e_3 l1_2 g2_2).1).fFirst, LS intT ((lookR k e_3 l1_2 g2_2).1).fLast]))], [qam3, rowI 3 intT (lookR k e_3 l1_2 g2_2).2.1, gridI 23 3 intT (lookR k e_3 l1_2 g2_2).2.2, qam0, qam7 y4.fEmpty y4.fFirst y4.fLast]⟩ ?_ (fun rd18 => ?_)
 refine RD.succ [0] (by kernel_rfl) rfl ⟨⟨_, _, _, rfl, ?_, rfl, rd19⟩, trivial⟩
 exact WL.rI ht hn
 refine RD.have 3 #[tt, ff, tt, tt, tt, ff, ff] ⟨[qam4 Bk, qam6, qam11, qam2 x, qam1 x, sl 109 (I x109), sl 113 (.ptr 0 0), (117, .sv (.agg [B ((lookR k e_3 l1_2 g2_2).1).fEmpty, LS intT ((lookR k e_3 l1_2 g2_2).1).fFirst, LS intT ((lookR k e_3 l1_2 g2_2).1).fLast]))], [qam3, rowI 3 intT (lookR k e_3 l1_2 g2_2).2.1, gridI 23 3 intT (lookR k e_3 l1_2 g2_2).2.2, qam0, qam7 y4.fEmpty y4.fFirst y4.fLast]⟩ ?_ (fun rd17 => ?_)
 refine RD.succ [1] (by kernel_rfl) rfl ⟨⟨_, _, _, rfl, ?_, rfl, rd19⟩, trivial⟩
 exact WL.rI ht hn
 refine RD.have 3 #[tt, tt, tt, tt, ff, ff, ff] ⟨[qam4 Bk, qam6, qam11, qam2 x, qam1 x, sl 109 (I x109), sl 113 (.ptr 0 0), (114, .sv (.agg [B y4.fEmpty, LS intT y4.fFirst, LS intT y4.fLast])), sl 115 (.ptr 0 0), sl 116 (.rd (trR rLab e_3))], [qam3, rowI 3 intT l1_2, gridI 23 3 intT g2_2, qam0, qam7 y4.fEmpty y4.fFirst y4.fLast]⟩ ?_ (fun rd16 => ?_)
 refine RD.succ [4] (by kernel_rfl) rfl ⟨⟨_, _, _, rfl, ?_, rfl, rd19⟩, trivial⟩
 refine WL.cE (lkI k ih e_3 l1_2 g2_2 hp_r4) en126 [0, 1, 2] hn rfl ?_
 refine WL.nil ?_
 exact sub_ok (by kernel_rfl)
 refine RD.have 4 #[ff, ff, tt, tt, tt, ff, ff] ⟨[qam4 Bk, qam6, qam11, qam2 x, qam1 x, sl 109 (I x109), (117, .sv (.agg [B ((lookR k e_3 l1_2 g2_2).1).fEmpty, LS intT ((lookR k e_3 l1_2 g2_2).1).fFirst, LS intT ((lookR k e_3 l1_2 g2_2).1).fLast]))], [qam3, rowI 3 intT (lookR k e_3 l1_2 g2_2).2.1, gridI 23 3 intT (lookR k e_3 l1_2 g2_2).2.2, qam0, qam7 y4.fEmpty y4.fFirst y4.fLast]⟩ ?_ (fun rd15 => ?_)
 refine RD.succ [0, 1] (by kernel_rfl) rfl ⟨⟨_, _, _, rfl, ?_, rfl, rd17⟩, ⟨_, _, _, rfl, ?_, rfl, rd18⟩, trivial⟩
 exact WL.rI ht hn
 exact WL.rI ht hn
 refine RD.have 4 #[ff, tt, tt, tt, ff, ff, ff] ⟨[qam4 Bk, qam6, qam11, qam2 x, qam1 x, sl 109 (I x109), (114, .sv (.agg [B y4.fEmpty, LS intT y4.fFirst, LS intT y4.fLast])), sl 115 (.ptr 0 0), sl 116 (.rd (trR rLab e_3))], [qam3, rowI 3 intT l1_2, gridI 23 3 intT g2_2, qam0, qam7 y4.fEmpty y4.fFirst y4.fLast]⟩ ?_ (fun rd14 => ?_)
 refine RD.succ [0, 4] (by kernel_rfl) rfl ⟨⟨_, _, _, rfl, ?_, rfl, rd16⟩, ⟨_, _, _, rfl, ?_, rfl, rd18⟩, trivial⟩
 exact WL.rI ht hn
 refine WL.cE (lkI k ih e_3 l1_2 g2_2 hp_r4) en126 [0, 1, 2] hn rfl ?_
 refine WL.nil ?_
 exact sub_ok (by kernel_rfl)
 refine RD.have 4 #[tt, ff, tt, tt, ff, ff, ff] ⟨[qam4 Bk, qam6, qam11, qam2 x, qam1 x, sl 109 (I x109), sl 113 (.ptr 0 0), sl 115 (.ptr 0 0), sl 116 (.rd (trR rLab e_3))], [qam3, rowI 3 intT l1_2, gridI 23 3 intT g2_2, qam0, qam7 y4.fEmpty y4.fFirst y4.fLast]⟩ ?_ (fun rd13 => ?_)
 refine RD.succ [1, 4] (by kernel_rfl) rfl ⟨⟨_, _, _, rfl, ?_, rfl, rd16⟩, ⟨_, _, _, rfl, ?_, rfl, rd17⟩, trivial⟩
 exact WL.rI ht hn
 refine WL.cE (lkI k ih e_3 l1_2 g2_2 hp_r4) en126 [0, 1, 2] hn rfl ?_
 refine WL.nil ?_
 exact sub_ok (by kernel_rfl)
 refine RD.have 4 #[tt, tt, ff, tt, ff, ff, ff] ⟨[qam4 Bk, qam6, qam11, qam2 x, qam1 x, sl 109 (I x109), sl 113 (.ptr 0 0), (114, .sv (.agg [B y4.fEmpty, LS intT y4.fFirst, LS intT y4.fLast])), sl 116 (.rd (trR rLab e_3))], [qam3, rowI 3 intT l1_2, gridI 23 3 intT g2_2, qam0, qam7 y4.fEmpty y4.fFirst y4.fLast]⟩ ?_ (fun rd12 => ?_)
 refine RD.succ [2] (by kernel_rfl) rfl ⟨⟨_, _, _, rfl, ?_, rfl, rd16⟩, trivial⟩
 exact WL.rI ht hn
 refine RD.have 4 #[tt, tt, tt, ff, ff, ff, ff] ⟨[qam4 Bk, qam6, qam11, qam18 e_3, qam2 x, qam1 x, sl 109 (I x109), sl 113 (.ptr 0 0), (114, .sv (.agg [B y4.fEmpty, LS intT y4.fFirst, LS intT y4.fLast])), sl 115 (.ptr 0 0)], [qam3, rowI 3 intT l1_2, gridI 23 3 intT g2_2, qam0, qam7 y4.fEmpty y4.fFirst y4.fLast]⟩ ?_ (fun rd11 => ?_)
 refine RD.succ [3] (by kernel_rfl) rfl ⟨⟨_, _, _, rfl, ?_, rfl, rd16⟩, trivial⟩
 exact WL.rI ht hn
 refine RD.have 5 #[ff, ff, tt, tt, ff, ff, ff] ⟨[qam4 Bk, qam6, qam11, qam2 x, qam1 x, sl 109 (I x109), sl 115 (.ptr 0 0), sl 116 (.rd (trR rLab e_3))], [qam3, rowI 3 intT l1_2, gridI 23 3 intT g2_2, qam0, qam7 y4.fEmpty y4.fFirst y4.fLast]⟩ ?_ (fun rd10 => ?_)
 refine RD.succ [0, 1, 4] (by kernel_rfl) rfl ⟨⟨_, _, _, rfl, ?_, rfl, rd13⟩, ⟨_, _, _, rfl, ?_, rfl, rd14⟩, ⟨_, _, _, rfl, ?_, rfl, rd15⟩, trivial⟩
 exact WL.rI ht hn
 exact WL.rI ht hn
 refine WL.cE (lkI k ih e_3 l1_2 g2_2 hp_r4) en126 [0, 1, 2] hn rfl ?_
 refine WL.nil ?_
 exact sub_ok (by kernel_rfl)
 refine RD.have 5 #[ff, tt, ff, tt, ff, ff, ff] ⟨[qam4 Bk, qam6, qam11, qam2 x, qam1 x, sl 109 (I x109), (114, .sv (.agg [B y4.fEmpty, LS intT y4.fFirst, LS intT y4.fLast])), sl 116 (.rd (trR rLab e_3))], [qam3, rowI 3 intT l1_2, gridI 23 3 intT g2_2, qam0, qam7 y4.fEmpty y4.fFirst y4.fLast]⟩ ?_ (fun rd9 => ?_)
 refine RD.succ [0, 2] (by kernel_rfl) rfl ⟨⟨_, _, _, rfl, ?_, rfl, rd12⟩, ⟨_, _, _, rfl, ?_, rfl, rd14⟩, trivial⟩
 exact WL.rI ht hn
 exact WL.rI ht hn
 refine RD.have 5 #[ff, tt, tt, ff, ff, ff, ff] ⟨[qam4 Bk, qam6, qam11, qam18 e_3, qam2 x, qam1 x, sl 109 (I x109), (114, .sv (.agg [B y4.fEmpty, LS intT y4.fFirst, LS intT y4.fLast])), sl 115 (.ptr 0 0)], [qam3, rowI 3 intT l1_2, gridI 23 3 intT g2_2, qam0, qam7 y4.fEmpty y4.fFirst y4.fLast]⟩ ?_ (fun rd8 => ?_)
 refine RD.succ [0, 3] (by kernel_rfl) rfl ⟨⟨_, _, _, rfl, ?_, rfl, rd11⟩, ⟨_, _, _, rfl, ?_, rfl, rd14⟩, trivial⟩
 exact WL.rI ht hn
 exact WL.rI ht hn
 refine RD.have 5 #[tt, ff, ff, tt, ff, ff, ff] ⟨[qam4 Bk, qam6, qam11, qam2 x, qam1 x, sl 109 (I x109), sl 113 (.ptr 0 0), sl 116 (.rd (trR rLab e_3))], [qam3, rowI 3 intT l1_2, gridI 23 3 intT g2_2, qam0, qam7 y4.fEmpty y4.fFirst y4.fLast]⟩ ?_ (fun rd7 => ?_)
 refine RD.succ [1, 2] (by kernel_rfl) rfl ⟨⟨_, _, _, rfl, ?_, rfl, rd12⟩, ⟨_, _, _, rfl, ?_, rfl, rd13⟩, trivial⟩
 exact WL.rI ht hn
 exact WL.rI ht hn
 refine RD.have 5 #[tt, ff, tt, ff, ff, ff, ff] ⟨[qam4 Bk, qam6, qam11, qam18 e_3, qam2 x, qam1 x, sl 109 (I x109), sl 113 (.ptr 0 0), sl 115 (.ptr 0 0)], [qam3, rowI 3 intT l1_2, gridI 23 3 intT g2_2, qam0, qam7 y4.fEmpty y4.fFirst y4.fLast]⟩ ?_ (fun rd6 => ?_)
 refine RD.succ [1, 3] (by kernel_rfl) rfl ⟨⟨_, _, _, rfl, ?_, rfl, rd11⟩, ⟨_, _, _, rfl, ?_, rfl, rd13⟩, trivial⟩
 exact WL.rI ht hn
 exact WL.rI ht hn
 refine RD.have 5 #[tt, tt, ff, ff, ff, ff, ff] ⟨[qam4 Bk, qam6, qam11, qam18 e_3, qam2 x, qam1 x, sl 109 (I x109), sl 113 (.ptr 0 0), (114, .sv (.agg [B y4.fEmpty, LS intT y4.fFirst, LS intT y4.fLast]))], [qam3, rowI 3 intT l1_2, gridI 23 3 intT g2_2, qam0, qam7 y4.fEmpty y4.fFirst y4.fLast]⟩ ?_ (fun rd5 => ?_)
 refine RD.succ [2, 3] (by kernel_rfl) rfl ⟨⟨_, _, _, rfl, ?_, rfl, rd11⟩, ⟨_, _, _, rfl, ?_, rfl, rd12⟩, trivial⟩
 exact WL.rI ht hn
 exact WL.rI ht hn
 refine RD.have 6 #[ff, ff, ff, tt, ff, ff, ff] ⟨[qam4 Bk, qam6, qam11, qam2 x, qam1 x, sl 109 (I x109), sl 116 (.rd (trR rLab e_3))], [qam3, rowI 3 intT l1_2, gridI 23 3 intT g2_2, qam0, qam7 y4.fEmpty y4.fFirst y4.fLast]⟩ ?_ (fun rd4 => ?_)
 refine RD.succ [0, 1, 2] (by kernel_rfl) rfl ⟨⟨_, _, _, rfl, ?_, rfl, rd7⟩, ⟨_, _, _, rfl, ?_, rfl, rd9⟩, ⟨_, _, _, rfl, ?_, rfl, rd10⟩, trivial⟩
 exact WL.rI ht hn
 exact WL.rI ht hn
 exact WL.rI ht hn
 refine RD.have 6 #[ff, ff, tt, ff, ff, ff, ff] ⟨[qam4 Bk, qam6, qam11, qam18 e_3, qam2 x, qam1 x, sl 109 (I x109), sl 115 (.ptr 0 0)], [qam3, rowI 3 intT l1_2, gridI 23 3 intT g2_2, qam0, qam7 y4.fEmpty y4.fFirst y4.fLast]⟩ ?_ (fun rd3 => ?_)
 refine RD.succ [0, 1, 3] (by kernel_rfl) rfl ⟨⟨_, _, _, rfl, ?_, rfl, rd6⟩, ⟨_, _, _, rfl, ?_, rfl, rd8⟩, ⟨_, _, _, rfl, ?_, rfl, rd10⟩, trivial⟩
 exact WL.rI ht hn
 exact WL.rI ht hn
 exact WL.rI ht hn
 refine RD.have 6 #[ff, tt, ff, ff, ff, ff, ff] ⟨[qam4 Bk, qam6, qam11, qam18 e_3, qam2 x, qam1 x, sl 109 (I x109), (114, .sv (.agg [B y4.fEmpty, LS intT y4.fFirst, LS intT y4.fLast]))], [qam3, rowI 3 intT l1_2, gridI 23 3 intT g2_2, qam0, qam7 y4.fEmpty y4.fFirst y4.fLast]⟩ ?_ (fun rd2 => ?_)
 refine RD.succ [0, 2, 3] (by kernel_rfl) rfl ⟨⟨_, _, _, rfl, ?_, rfl, rd5⟩, ⟨_, _, _, rfl, ?_, rfl, rd8⟩, ⟨_, _, _, rfl, ?_, rfl, rd9⟩, trivial⟩
 exact WL.rI ht hn
 exact WL.rI ht hn
 exact WL.rI ht hn
 refine RD.have 6 #[tt, ff, ff, ff, ff, ff, ff] ⟨[qam4 Bk, qam6, qam11, qam18 e_3, qam2 x, qam1 x, sl 109 (I x109), sl 113 (.ptr 0 0)], [qam3, rowI 3 intT l1_2, gridI 23 3 intT g2_2, qam0, qam7 y4.fEmpty y4.fFirst y4.fLast]⟩ ?_ (fun rd1 => ?_)
 refine RD.succ [1, 2, 3] (by kernel_rfl) rfl ⟨⟨_, _, _, rfl, ?_, rfl, rd5⟩, ⟨_, _, _, rfl, ?_, rfl, rd6⟩, ⟨_, _, _, rfl, ?_, rfl, rd7⟩, trivial⟩
 exact WL.rI ht hn
 exact WL.rI ht hn
 exact WL.rI ht hn
 refine RD.have 7 #[ff, ff, ff, ff, ff, ff, ff] ⟨[qam4 Bk, qam6, qam11, qam18 e_3, qam2 x, qam1 x, sl 109 (I x109)], [qam3, rowI 3 intT l1_2, gridI 23 3 intT g2_2, qam0, qam7 y4.fEmpty y4.fFirst y4.fLast]⟩ ?_ (fun rd0 => ?_)
 refine RD.succ [0, 1, 2, 3] (by kernel_rfl) rfl ⟨⟨_, _, _, rfl, ?_, rfl, rd1⟩, ⟨_, _, _, rfl, ?_, rfl, rd2⟩, ⟨_, _, _, rfl, ?_, rfl, rd3⟩, ⟨_, _, _, rfl, ?_, rfl, rd4⟩, trivial⟩
 exact WL.rI ht hn
 exact WL.rI ht hn
 exact WL.rI ht hn
 exact WL.rI ht hn
 exact RD.start rd0 rfl (by kernel_rfl) (sub_ok (by kernel_rfl))
 refine En.region ?_
 refine WL.rn ht hn 2 ⟨[qam4 Bk, qam6, qam11, qam2 x, qam1 x, sl 109 (I (wr (x109 + 1)))], [qam3, rowI 3 intT (lookR k e_3 l1_2 g2_2).2.1, gridI 23 3 intT (tieR y4.fLast ((lookR k e_3 l1_2 g2_2).1).fFirst (lookR k e_3 l1_2 g2_2).2.2), qam0, qam12 k y4 e_3 l1_2 g2_2]⟩ ?_
 exact En.at (I := fun zz => Inv_2 zz.1 zz.2.1 zz.2.2.1 zz.2.2.2 ∧ mu_2 zz.1 zz.2.1 zz.2.2.1 zz.2.2.2 < mu_2 x109 l1_2 g2_2 y4) (T := fun zz => ⟨[qam4 Bk, qam6, qam11, qam2 x, qam1 x, sl 109 (I zz.1)], [qam3, rowI 3 intT zz.2.1, gridI 23 3 intT zz.2.2.1, qam0, .box [B zz.2.2.2.fEmpty, LS intT zz.2.2.2.fFirst, LS intT zz.2.2.2.fLast] 217 false]⟩) ((wr (x109 + 1)), (lookR k e_3 l1_2 g2_2).2.1, (tieR y4.fLast ((lookR k e_3 l1_2 g2_2).1).fFirst (lookR k e_3 l1_2 g2_2).2.2), (bhdR y4 (lookR k e_3 l1_2 g2_2).1)) h (by kernel_rfl)
 refine En.exit rfl ?_
 refine En.sr ?_
 refine WL.rn ht hn 2 ⟨[qam4 Bk, qam6], [qam3, rowI 3 intT l1_2, gridI 23 3 intT g2_2, qam7 y4.fEmpty y4.fFirst y4.fLast, .gone]⟩ ?_
 refine En.ret ?_
 exact En.backE [0] ht (y4, l1_2, g2_2) h (by kernel_rfl) (by rfl) rfl
 refine En.skip ?_
 refine En.sr ?_
 refine WL.r ht hn 2 ⟨[qam4 Bk, qam6, sl 121 (.ptr 0 0), sl 122 (.rd (trR rLab x))], [qam3, rowI 3 intT lets, gridI 23 3 intT nxt, qam0]⟩ ?_
 refine WL.v hn (val_node (s := .agg [I x.lab.fKind, I x.lab.fLetter, LS (TT rLab) x.kids]) (t := x) (lab := rLab) rLabH rfl (by rfl) rfl rfl) ?_
 refine WL.v hn (val_fd (l := [I x.lab.fKind, I x.lab.fLetter, LS (TT rLab) x.kids]) (r := .one (LS (TT rLab) x.kids)) ht rfl) ?_
 refine WL.v hn (val_ld (s := .one (LS (TT rLab) x.kids)) ht rfl) ?_
 obtain ⟨e_4, he_4, h⟩ := h
 refine WL.v hn (val_ix (T := (TT rLab)) (l := x.kids) (i := 0) ht rfl he_4) ?_
 refine WL.v hn (val_ld (s := .one (.rd (trR rLab e_4))) ht rfl) ?_
 obtain ⟨hp, h⟩ := h
 refine WL.cE (lkI k ih e_4 lets nxt hp) en126 [0, 1, 2] hn rfl ?_
 refine WL.rn ht hn 2 ⟨[qam4 Bk, qam6, sl 13 (.ptr 4 0)], [qam3, rowI 3 intT (lookR k e_4 lets nxt).2.1, gridI 23 3 intT (lookR k e_4 lets nxt).2.2, qam0, .box [B ((lookR k e_4 lets nxt).1).fEmpty, LS intT ((lookR k e_4 lets nxt).1).fFirst, LS intT ((lookR k e_4 lets nxt).1).fLast] 217 false]⟩ ?_
 refine En.sr ?_
 refine WL.r ht hn 5 ⟨[qam4 Bk, qam6, sl 13 (.ptr 4 0), sl 129 (.ptr 0 0), sl 131 (LS intT ((lookR k e_4 lets nxt).1).fLast), sl 133 (LS intT ((lookR k e_4 lets nxt).1).fFirst)], [qam3, rowI 3 intT (lookR k e_4 lets nxt).2.1, gridI 23 3 intT (lookR k e_4 lets nxt).2.2, qam0, .box [B ((lookR k e_4 lets nxt).1).fEmpty, LS intT ((lookR k e_4 lets nxt).1).fFirst, LS intT ((lookR k e_4 lets nxt).1).fLast] 217 false]⟩ ?_
 obtain ⟨hp, h⟩ := h
 refine WL.cE (rTie_ct (lookR k e_4 lets nxt).2.1 (lookR k e_4 lets nxt).2.2 ((lookR k e_4 lets nxt).1).fLast ((lookR k e_4 lets nxt).1).fFirst hp) en181 [0, 1, 2] hn rfl ?_
 refine WL.nil ?_
 refine En.sr ?_
 refine WL.rn ht hn 2 ⟨[qam4 Bk, qam6, sl 13 (.ptr 4 0)], [qam3, rowI 3 intT (lookR k e_4 lets nxt).2.1, gridI 23 3 intT (tieR ((lookR k e_4 lets nxt).1).fLast ((lookR k e_4 lets nxt).1).fFirst (lookR k e_4 lets nxt).2.2), qam0, .box [B true, LS intT ((lookR k e_4 lets nxt).1).fFirst, LS intT ((lookR k e_4 lets nxt).1).fLast] 217 false]⟩ ?_
 refine En.sr ?_
 refine WL.rn ht hn 2 ⟨[qam4 Bk, qam6], [qam3, rowI 3 intT (lookR k e_4 lets nxt).2.1, gridI 23 3 intT (tieR ((lookR k e_4 lets nxt).1).fLast ((lookR k e_4 lets nxt).1).fFirst (lookR k e_4 lets nxt).2.2), .box [B true, LS intT ((lookR k e_4 lets nxt).1).fFirst, LS intT ((lookR k e_4 lets nxt).1).fLast] 217 false, .gone]⟩ ?_
 refine En.ret ?_
 exact En.backE [0] ht ((RegularEnds.mk true ((lookR k e_4 lets nxt).1).fFirst ((lookR k e_4 lets nxt).1).fLast), (lookR k e_4 lets nxt).2.1, (tieR ((lookR k e_4 lets nxt).1).fLast ((lookR k e_4 lets nxt).1).fFirst (lookR k e_4 lets nxt).2.2)) h (by kernel_rfl) (by rfl) rfl
theorem rLook_next (k : Nat) (ih : LC k) : LC (k + 1) := fun x lets nxt hp => by
 refine (rLook_walk k lets nxt x ih (fun r => r = lookR (k + 1) x lets nxt) ?_).imp (fun r hr => ⟨(), trivial, by subst hr; rfl, by subst hr; rfl⟩)
 obtain ⟨R, hR⟩ := Option.isSome_iff_exists.1 hp
 have hz : lookR (k + 1) x lets nxt = R := by
  unfold lookR
  rw [hR]
  rfl
 simp only [hz]
 obtain ⟨a, kids⟩ := x
 unfold rLook_vc
 unfold lookS at hR
 split at hR
 ·cases hR
 rename_i hlen
 have gS : ∀ {x l n r}, lookS k x l n = some r → (lookS k x l n).isSome = true ∧ lookR k x l n = r := fun h => ⟨by rw [h]; rfl, by unfold lookR; rw [h]; rfl⟩
 have gT : ∀ {x l n r}, tieS x l n = some r → (tieS x l n).isSome = true ∧ tieR x l n = r := fun h => ⟨by rw [h]; rfl, by unfold tieR; rw [h]; rfl⟩
 refine ⟨fun hb => ?_, fun hb0 => ⟨fun hb => ?_, fun hb1 => ⟨fun hb => ?_, fun hb2 => ⟨fun hb => ?_, fun hb3 => ⟨fun hb => ?_, fun hb4 => ?_⟩⟩⟩⟩⟩
 ·have h0 : a.fKind = 0 := eq_of_beq hb
  rw [if_pos h0] at hR
  cases hR
  rfl
 ·have h0 : ¬ a.fKind = 0 := fun e => by rw [show ((Tr.node a kids).lab.fKind == 0) = true from beq_iff_eq.2 e] at hb0; cases hb0
  have h1 : a.fKind = 1 := eq_of_beq hb
  rw [if_neg h0, if_pos h1] at hR
  cases hR
  rfl
 ·have h0 : ¬ a.fKind = 0 := fun e => by rw [show ((Tr.node a kids).lab.fKind == 0) = true from beq_iff_eq.2 e] at hb0; cases hb0
  have h1 : ¬ a.fKind = 1 := fun e => by rw [show ((Tr.node a kids).lab.fKind == 1) = true from beq_iff_eq.2 e] at hb1; cases hb1
  have h2 : a.fKind = 2 := eq_of_beq hb
  rw [if_neg h0, if_neg h1, if_pos h2] at hR
  split at hR
  ·rename_i hc
   cases hR
   refine ⟨hc.1, hc.2, ?_⟩
   have hw : wr (((lets ++ ([a.fLetter] : List Int)).length : Int) - 1) = (lets.length : Int) := by
    have : (((lets ++ ([a.fLetter] : List Int)).length : Int) - 1) = lets.length := by simp
    rw [this, wr_in (by omega) (by omega)]
   show (RegularEnds.mk false [wr (((lets ++ ([a.fLetter] : List Int)).length : Int) - 1)] [wr (((lets ++ ([a.fLetter] : List Int)).length : Int) - 1)], lets ++ [a.fLetter], nxt ++ List.replicate 1 []) = _
   rw [hw]
   rfl
  ·cases hR
 ·have h0 : ¬ a.fKind = 0 := fun e => by rw [show ((Tr.node a kids).lab.fKind == 0) = true from beq_iff_eq.2 e] at hb0; cases hb0
  have h1 : ¬ a.fKind = 1 := fun e => by rw [show ((Tr.node a kids).lab.fKind == 1) = true from beq_iff_eq.2 e] at hb1; cases hb1
  have h2 : ¬ a.fKind = 2 := fun e => by rw [show ((Tr.node a kids).lab.fKind == 2) = true from beq_iff_eq.2 e] at hb2; cases hb2
  have h3 : a.fKind = 3 := eq_of_beq hb
  rw [if_neg h0, if_neg h1, if_neg h2, if_pos h3] at hR
  refine ⟨fun i l1 g2 y l6 l7 => ∃ n : Nat, i = n ∧ n ≤ kids.length ∧ eithL (lookS k) (kids.drop n) ⟨y, l6, l7⟩ l1 g2 = some R, fun i _ _ _ _ _ => kids.length - i.toNat, ⟨0, rfl, Nat.zero_le _, hR⟩, ?_⟩
  rintro _ l1 g2 y l6 l7 ⟨n, rfl, hn, he⟩
  refine ⟨fun hb => ?_, fun hb => ?_⟩
  ·have hlt : n < kids.length := by have := of_decide_eq_true hb; exact Int.ofNat_lt.1 this
   rw [List.drop_eq_getElem_cons hlt, eithL] at he
   split at he
   ·cases he
   rename_i r hr
   split at he
   ·rename_i hc
    obtain ⟨g1, g2'⟩ := gS hr
    refine ⟨kids[n], by show idx kids (n : Int) = _; simp [idx, hlt], g1, ?_⟩
    rw [g2']
    refine ⟨fun b => b = (y || r.1.fEmpty), ⟨fun e => by rw [e]; rfl, fun e => by rw [e]; rfl⟩, ?_⟩
    rintro _ rfl
    refine ⟨hc.1, hc.2, ⟨n + 1, wr_len (by omega) hlt, hlt, he⟩, ?_⟩
    rw [wr_len (n := kids.length) (by omega) hlt]
    show kids.length - (n + 1) < kids.length - n
    omega
   ·cases he
  ·have hge : kids.length ≤ n := by have := of_decide_eq_false hb; exact Nat.le_of_not_lt fun h => this (Int.ofNat_lt.2 h)
   rw [List.drop_eq_nil_of_le hge, eithL] at he
   cases he
   rfl
 ·have h0 : ¬ a.fKind = 0 := fun e => by rw [show ((Tr.node a kids).lab.fKind == 0) = true from beq_iff_eq.2 e] at hb0; cases hb0
  have h1 : ¬ a.fKind = 1 := fun e => by rw [show ((Tr.node a kids).lab.fKind == 1) = true from beq_iff_eq.2 e] at hb1; cases hb1
  have h2 : ¬ a.fKind = 2 := fun e => by rw [show ((Tr.node a kids).lab.fKind == 2) = true from beq_iff_eq.2 e] at hb2; cases hb2
  have h3 : ¬ a.fKind = 3 := fun e => by rw [show ((Tr.node a kids).lab.fKind == 3) = true from beq_iff_eq.2 e] at hb3; cases hb3
  have h4 : a.fKind = 4 := eq_of_beq hb
  rw [if_neg h0, if_neg h1, if_neg h2, if_neg h3] at hR
  cases kids with
  | nil => cases hR
  | cons x xs =>
   simp only at hR
   split at hR
   ·cases hR
   rename_i r hr
   rw [if_pos h4] at hR
   obtain ⟨g1, g2⟩ := gS hr
   simp only [List.length_cons] at hlen
   refine ⟨x, rfl, g1, ⟨by decide, by show (1 : Int) ≤ ((x :: xs).length : Int); simp only [List.length_cons]; omega, Int.le_refl _⟩, ?_⟩
   rw [g2]
   have hxs : (((Tr.node a (x :: xs)).kids.take (((Tr.node a (x :: xs)).kids.length : Int) : Int).toNat).drop (1 : Int).toNat) = xs := by
    show (((x :: xs).take (((x :: xs).length : Int)).toNat).drop 1) = xs
    rw [Int.toNat_natCast, List.take_length]
    rfl
   rw [hxs]
   refine ⟨fun i l1 g2 e => ∃ n : Nat, i = n ∧ n ≤ xs.length ∧ rowK (lookS k) (xs.drop n) e l1 g2 = some R, fun i _ _ _ => xs.length - i.toNat, ⟨0, rfl, Nat.zero_le _, hR⟩, ?_⟩
   rintro _ l1 g2 e ⟨n, rfl, hn, he⟩
   refine ⟨fun hb => ?_, fun hb => ?_⟩
   ·have hlt : n < xs.length := by have := of_decide_eq_true hb; exact Int.ofNat_lt.1 this
    rw [List.drop_eq_getElem_cons hlt, rowK] at he
    split at he
    ·cases he
    rename_i r2 hr2
    split at he
    ·cases he
    rename_i n2 hn2
    split at he
    ·rename_i hc
     obtain ⟨g3, g4⟩ := gS hr2
     obtain ⟨g5, g6⟩ := gT hn2
     refine ⟨xs[n], by simp [idx, hlt], g3, ?_⟩
     rw [g4]
     refine ⟨⟨g5, hc⟩, ?_⟩
     rw [g6]
     refine ⟨⟨n + 1, wr_len (n := xs.length) (by omega) hlt, hlt, he⟩, ?_⟩
     rw [wr_len (n := xs.length) (by omega) hlt]
     show xs.length - (n + 1) < xs.length - n
     omega
    ·cases he
   ·have hge : xs.length ≤ n := by have := of_decide_eq_false hb; exact Nat.le_of_not_lt fun h => this (Int.ofNat_lt.2 h)
    rw [List.drop_eq_nil_of_le hge, rowK] at he
    cases he
    rfl
 ·have h0 : ¬ a.fKind = 0 := fun e => by rw [show ((Tr.node a kids).lab.fKind == 0) = true from beq_iff_eq.2 e] at hb0; cases hb0
  have h1 : ¬ a.fKind = 1 := fun e => by rw [show ((Tr.node a kids).lab.fKind == 1) = true from beq_iff_eq.2 e] at hb1; cases hb1
  have h2 : ¬ a.fKind = 2 := fun e => by rw [show ((Tr.node a kids).lab.fKind == 2) = true from beq_iff_eq.2 e] at hb2; cases hb2
  have h3 : ¬ a.fKind = 3 := fun e => by rw [show ((Tr.node a kids).lab.fKind == 3) = true from beq_iff_eq.2 e] at hb3; cases hb3
  have h4 : ¬ a.fKind = 4 := fun e => by rw [show ((Tr.node a kids).lab.fKind == 4) = true from beq_iff_eq.2 e] at hb4; cases hb4
  rw [if_neg h0, if_neg h1, if_neg h2, if_neg h3] at hR
  cases kids with
  | nil => cases hR
  | cons x xs =>
   simp only at hR
   split at hR
   ·cases hR
   rename_i r hr
   rw [if_neg h4] at hR
   split at hR
   ·cases hR
   rename_i n2 hn2
   cases hR
   obtain ⟨g1, g2⟩ := gS hr
   obtain ⟨g3, g4⟩ := gT hn2
   refine ⟨x, rfl, g1, ?_⟩
   rw [g2]
   refine ⟨g3, ?_⟩
   rw [g4]
theorem rLook_ct : ∀ k, LC k
 | 0 => fun x lets nxt hp => by simp [lookS] at hp
 | k + 1 => rLook_next k (rLook_ct k)
def rMach_vc (k : Nat) (x : RTr) (Q : (RegularPlaces × (List Bool)) → Prop) : Prop :=
 ((lookS k x ([] : List Int) ([] : List (List Int))).isSome) ∧
 makeOk (wr ((((lookR k x ([] : List Int) ([] : List (List Int))).2.1).length : Int) + 1)) (wr ((((lookR k x ([] : List Int) ([] : List (List Int))).2.1).length : Int) + 1)) 1 ∧
 ∃ (Inv : Int → (List Bool) → Prop) (mu : Int → (List Bool) → Nat), Inv 0 (List.replicate ((wr ((((lookR k x ([] : List Int) ([] : List (List Int))).2.1).length : Int) + 1))).toNat false) ∧
 ∀ (x26 : Int) (l4 : List Bool) , Inv x26 l4 → (IfP (decide (x26 < (((lookR k x ([] : List Int) ([] : List (List Int))).1).fLast.length : Int))) (∃ e, idx ((lookR k x ([] : List Int) ([] : List (List Int))).1).fLast x26 = some e ∧
 ∃ e_2, idx l4 e = some e_2 ∧
 (Inv (wr (x26 + 1)) (l4.set (e).toNat true) ∧ mu (wr (x26 + 1)) (l4.set (e).toNat true) < mu x26 l4)) (∃ e_3, idx l4 (((lookR k x ([] : List Int) ([] : List (List Int))).2.1).length : Int) = some e_3 ∧
 capOk ((lookR k x ([] : List Int) ([] : List (List Int))).2.2).length (([((lookR k x ([] : List Int) ([] : List (List Int))).1).fFirst] : List (List Int)) : List (List Int)).length 24 ∧
 Q ((RegularPlaces.mk ((lookR k x ([] : List Int) ([] : List (List Int))).2.1) (((lookR k x ([] : List Int) ([] : List (List Int))).2.2) ++ ([((lookR k x ([] : List Int) ([] : List (List Int))).1).fFirst] : List (List Int)))), (l4.set ((((lookR k x ([] : List Int) ([] : List (List Int))).2.1).length : Int)).toNat ((lookR k x ([] : List Int) ([] : List (List Int))).1).fEmpty))))
noncomputable abbrev qan0 (k : Nat) (x : RTr) := (lookR k x ([] : List Int) ([] : List (List Int)))
noncomputable abbrev qan1 (k : Nat) (x : RTr) := (.box [B ((qan0 k x).1).fEmpty, LS intT ((qan0 k x).1).fFirst, LS intT ((qan0 k x).1).fLast] 217 false : Item)
noncomputable abbrev qan2 := (.box [.own 1, .gs 2 0] 151 false : Item)
noncomputable abbrev qan3 := (List (List Int))
noncomputable abbrev qan4 := sl 4 (.ptr 0 0)
noncomputable abbrev qan5 (k : Nat) (x : RTr) := sl 6 (I (((qan0 k x).2.1).length : Int))
noncomputable abbrev qan6 := sl 39 (.ptr 0 0)
noncomputable abbrev qan7 (k : Nat) (x : RTr) := sl 25 (I (((qan0 k x).1).fLast.length : Int))
noncomputable abbrev qan8 (k : Nat) (x : RTr) := sl 45 (LS intT ((qan0 k x).1).fFirst)
noncomputable abbrev qan9 := sl 5 (.ptr 3 0)
noncomputable abbrev qan10 (k : Nat) (x : RTr) := (wr ((((qan0 k x).2.1).length : Int) + 1))
noncomputable abbrev qan11 (k : Nat) (x : RTr) := sl 24 (LS intT ((qan0 k x).1).fLast)
noncomputable abbrev qan12 := (.box [.own 1, .own 2] 151 false : Item)
noncomputable abbrev qan13 := (.box [.own 1, .junk] 151 false : Item)
noncomputable abbrev qan14 (k : Nat) (x : RTr) := sl 46 (LS (lsT intT) ([((qan0 k x).1).fFirst] : (qan3)))
set_option maxHeartbeats 2000000 in
theorem rMach_walk (k : Nat) (x : RTr) (Q : (RegularPlaces × (List Bool)) → Prop) (h : rMach_vc k x Q) : Ct 73 [.sv (.one (.rd (trR rLab x)))] [] Q (fun (r : (RegularPlaces × (List Bool))) => .tup [.one (.pe (svR (.agg [LS intT r.1.fLetters, LS (lsT intT) r.1.fNext])) 2), .one (LS boolT r.2)]) := by
 have ht := tab_ok
 refine Ct.body Try.func73 rfl rfl rfl rfl (fun c hn => ?_)
 unfold rMach_vc at h
 refine En.sr ?_
 refine WL.rn ht hn 2 ⟨[sl 0 (.rd (trR rLab x))], []⟩ ?_
 refine En.sr ?_
 refine WL.rn ht hn 3 ⟨[sl 0 (.rd (trR rLab x)), qan4], [.box [.v (.slice none 0 0), .v (.slice none 0 0)] 151 false]⟩ ?_
 refine En.sr ?_
 refine WL.r ht hn 2 ⟨[qan4, sl 12 (.ptr 0 0), sl 13 (.rd (trR rLab x))], [.box [.v (.slice none 0 0), .v (.slice none 0 0)] 151 false]⟩ ?_
 refine WL.nilBoxO (T := intT) 0 0 1 3 (by rfl) (by rfl) (by rfl) (by rfl) ?_
 refine WL.nilBoxG (T := intT) 0 1 2 23 3 (by rfl) (by rfl) (by rfl) (by rfl) ?_
 obtain ⟨hp, h⟩ := h
 refine WL.cE (rLook_ct k x ([] : List Int) ([] : qan3) hp) en126 [0, 1, 2] hn rfl ?_
 refine WL.rn ht hn 2 ⟨[qan4, qan9], [qan2, rowI 3 intT (qan0 k x).2.1, gridI 23 3 intT (qan0 k x).2.2, qan1 k x]⟩ ?_
 refine En.sr ?_
 refine WL.rn ht hn 6 ⟨[qan4, qan9, qan5 k x], [qan2, rowI 3 intT (qan0 k x).2.1, gridI 23 3 intT (qan0 k x).2.2, qan1 k x]⟩ ?_
 refine En.sr ?_
 refine WL.r ht hn 2 ⟨[qan4, qan9, qan5 k x, sl 21 (I (qan10 k x))], [qan2, rowI 3 intT (qan0 k x).2.1, gridI 23 3 intT (qan0 k x).2.2, qan1 k x]⟩ ?_
 obtain ⟨hp, h⟩ := h
 refine WL.mt0 (K := []) (p := some (4, rowI 4 boolT (List.replicate (qan10 k x).toNat false))) hn (by rfl) (mt_make (T := boolT) false (zv := (.bool false)) 4 (l := (qan10 k x)) (cp := (qan10 k x)) ht rfl (by rfl) (by rfl) (by rfl) (by rfl) (by decide) (by rfl) (by rfl) hp.1 hp.2.1 hp.2.2 (hp.le (by decide)) rfl (fun _ => ⟨rfl, trivial⟩)) (by rfl) (by rfl) (by rfl) ?_
 refine WL.rn ht hn 1 ⟨[qan4, qan9, qan5 k x, sl 7 (.own 4)], [qan2, rowI 3 intT (qan0 k x).2.1, gridI 23 3 intT (qan0 k x).2.2, qan1 k x, rowI 4 boolT (List.replicate (qan10 k x).toNat false)]⟩ ?_
 refine En.seq ?_
 refine En.sr ?_
 refine WL.rn ht hn 4 ⟨[qan4, qan9, qan5 k x, sl 7 (.own 4), qan11 k x, qan7 k x, sl 26 (I 0)], [qan2, rowI 3 intT (qan0 k x).2.1, gridI 23 3 intT (qan0 k x).2.2, qan1 k x, rowI 4 boolT (List.replicate (qan10 k x).toNat false)]⟩ ?_
 refine En.block ?_
 obtain ⟨Inv, mu, h0, hI⟩ := h
 refine En.loop (σ := Int × (List Bool)) (fun zz => Inv zz.1 zz.2) (fun zz => mu zz.1 zz.2) (fun zz => ⟨[qan4, qan9, qan5 k x, sl 7 (.own 4), qan11 k x, qan7 k x, sl 26 (I zz.1)], [qan2, rowI 3 intT (qan0 k x).2.1, gridI 23 3 intT (qan0 k x).2.2, qan1 k x, rowI 4 boolT zz.2]⟩) (0, (List.replicate (qan10 k x).toNat false)) h0 (sub_ok (by kernel_rfl)) ?_
 rintro ⟨x26, l4⟩ h
 replace h := hI _ _ h
 show En c ⟨[qan4, qan9, qan5 k x, sl 7 (.own 4), qan11 k x, qan7 k x, sl 26 (I x26)], [qan2, rowI 3 intT (qan0 k x).2.1, gridI 23 3 intT (qan0 k x).2.2, qan1 k x, rowI 4 boolT l4]⟩ _
 refine En.sr ?_
 refine WL.rn ht hn 1 ⟨[qan4, qan9, qan5 k x, sl 7 (.own 4), qan11 k x, qan7 k x, sl 26 (I x26), sl 27 (B (decide (x26 < (((qan0 k x).1).fLast.length : Int))))], [qan2, rowI 3 intT (qan0 k x).2.1, gridI 23 3 intT (qan0 k x).2.2, qan1 k x, rowI 4 boolT l4]⟩ ?_
 refine En.seq ?_
 refine En.ch h (fun h => ?_) (fun h => ?_)
 refine En.skip ?_
 refine En.seq ?_
 refine En.block ?_
 refine En.sr ?_
 obtain ⟨e, he, h⟩ := h
 refine WL.v hn (val_ix (T := intT) (l := ((qan0 k x).1).fLast) (i := x26) ht rfl he) ?_
 refine WL.v hn (val_ld (s := .one (I e)) ht rfl) ?_
 refine WL.rn ht hn 1 ⟨[qan4, qan9, qan5 k x, sl 7 (.own 4), sl 9 (I e), qan11 k x, qan7 k x, sl 26 (I x26)], [qan2, rowI 3 intT (qan0 k x).2.1, gridI 23 3 intT (qan0 k x).2.2, qan1 k x, rowI 4 boolT l4]⟩ ?_
 refine En.region ?_
 refine WL.r ht hn 2 ⟨[qan4, qan9, qan5 k x, sl 7 (.own 4), qan11 k x, qan7 k x, sl 26 (I x26), sl 30 (.own 4), sl 31 (I e)], [qan2, rowI 3 intT (qan0 k x).2.1, gridI 23 3 intT (qan0 k x).2.2, qan1 k x, rowI 4 boolT l4]⟩ ?_
 obtain ⟨e_2, he_2, h⟩ := h
 refine WL.v hn (val_indexO (T := boolT) (l := l4) (k := e) ht rfl (by rfl) (by rfl) (by rfl) (by rfl) (by decide) (by rfl) (by rfl) (by rfl) he_2) ?_
 refine WL.storeO (T := boolT) (l := l4) (y := true) ht hn (by rfl) rfl (by rfl) (by rfl) (fun _ h => by cases h) (by rfl) (by rfl) (idx_lt he_2) (by rfl) (by rfl) (by rfl) (by rfl) ?_
 refine WL.nil ?_
 refine En.region ?_
 refine WL.rn ht hn 2 ⟨[qan4, qan9, qan5 k x, sl 7 (.own 4), qan11 k x, qan7 k x, sl 26 (I (wr (x26 + 1)))], [qan2, rowI 3 intT (qan0 k x).2.1, gridI 23 3 intT (qan0 k x).2.2, qan1 k x, rowI 4 boolT (l4.set (e).toNat true)]⟩ ?_
 exact En.at (I := fun zz => Inv zz.1 zz.2 ∧ mu zz.1 zz.2 < mu x26 l4) (T := fun zz => ⟨[qan4, qan9, qan5 k x, sl 7 (.own 4), qan11 k x, qan7 k x, sl 26 (I zz.1)], [qan2, rowI 3 intT (qan0 k x).2.1, gridI 23 3 intT (qan0 k x).2.2, qan1 k x, rowI 4 boolT zz.2]⟩) ((wr (x26 + 1)), (l4.set (e).toNat true)) h (by kernel_rfl)
 refine En.exit rfl ?_
 refine En.sr ?_
 refine WL.r ht hn 4 ⟨[qan4, qan9, sl 7 (.own 4), sl 34 (.own 4), sl 35 (I (((qan0 k x).2.1).length : Int)), sl 37 (B ((qan0 k x).1).fEmpty)], [qan2, rowI 3 intT (qan0 k x).2.1, gridI 23 3 intT (qan0 k x).2.2, qan1 k x, rowI 4 boolT l4]⟩ ?_
 obtain ⟨e_3, he_3, h⟩ := h
 refine WL.v hn (val_indexO (T := boolT) (l := l4) (k := (((qan0 k x).2.1).length : Int)) ht rfl (by rfl) (by rfl) (by rfl) (by rfl) (by decide) (by rfl) (by rfl) (by rfl) he_3) ?_
 refine WL.storeO (T := boolT) (l := l4) (y := ((qan0 k x).1).fEmpty) ht hn (by rfl) rfl (by rfl) (by rfl) (fun _ h => by cases h) (by rfl) (by rfl) (idx_lt he_3) (by rfl) (by rfl) (by rfl) (by rfl) ?_
 refine WL.nil ?_
 refine En.seq ?_
 obtain ⟨hp_r8, h⟩ := h
 refine En.regionD ⟨[qan4, sl 7 (.own 4)], [qan12, rowI 3 intT (qan0 k x).2.1, rowI 23 (lsT intT) ((qan0 k x).2.2 ++ ([((qan0 k x).1).fFirst] : qan3)), .gone, rowI 4 boolT (l4.set (((qan0 k x).2.1).length : Int).toNat ((qan0 k x).1).fEmpty), .gone]⟩ (by kernel_rfl) ?_ ?_
 intro N' hF
 refine RD.have 0 #[tt, tt, tt, tt, tt, tt, tt, tt, tt, tt, tt, tt] ⟨[qan4, sl 7 (.own 4)], [qan12, rowI 3 intT (qan0 k x).2.1, rowI 23 (lsT intT) ((qan0 k x).2.2 ++ ([((qan0 k x).1).fFirst] : qan3)), .gone, rowI 4 boolT (l4.set (((qan0 k x).2.1).length : Int).toNat ((qan0 k x).1).fEmpty), .gone]⟩ (RD.nil (by kernel_rfl) hF) (fun rd44 => ?_)
 refine RD.have 1 #[tt, tt, tt, tt, tt, tt, tt, tt, tt, tt, tt, ff] ⟨[qan4, sl 7 (.own 4), sl 47 (.own 2), sl 49 (.ptr 0 1)], [qan13, rowI 3 intT (qan0 k x).2.1, rowI 23 (lsT intT) ((qan0 k x).2.2 ++ ([((qan0 k x).1).fFirst] : qan3)), .gone, rowI 4 boolT (l4.set (((qan0 k x).2.1).length : Int).toNat ((qan0 k x).1).fEmpty), .gone]⟩ ?_ (fun rd43 => ?_)
 refine RD.succ [11] (by kernel_rfl) rfl ⟨⟨_, _, _, rfl, ?_, rfl, rd44⟩, trivial⟩
 exact WL.rI ht hn
 refine RD.have 2 #[tt, tt, tt, tt, tt, tt, tt, tt, tt, tt, ff, ff] ⟨[qan4, sl 7 (.own 4), sl 47 (.own 2), sl 48 (.ptr 0 0)], [qan13, rowI 3 intT (qan0 k x).2.1, rowI 23 (lsT intT) ((qan0 k x).2.2 ++ ([((qan0 k x).1).fFirst] : qan3)), .gone, rowI 4 boolT (l4.set (((qan0 k x).2.1).length : Int).toNat ((qan0 k x).1).fEmpty), .gone]⟩ ?_ (fun rd42 => ?_)
 refine RD.succ [10] (by kernel_rfl) rfl ⟨⟨_, _, _, rfl, ?_, rfl, rd43⟩, trivial⟩
 exact WL.rI ht hn
 refine RD.have 3 #[tt, tt, tt, tt, tt, tt, tt, tt, tt, ff, ff, ff] ⟨[qan4, sl 7 (.own 4), qan6, sl 47 (.own 2)], [qan13, rowI 3 intT (qan0 k x).2.1, rowI 23 (lsT intT) ((qan0 k x).2.2 ++ ([((qan0 k x).1).fFirst] : qan3)), .gone, rowI 4 boolT (l4.set (((qan0 k x).2.1).length : Int).toNat ((qan0 k x).1).fEmpty), .gone]⟩ ?_ (fun rd41 => ?_)
 refine RD.succ [9] (by kernel_rfl) rfl ⟨⟨_, _, _, rfl, ?_, rfl, rd42⟩, trivial⟩
 exact WL.rI ht hn
 refine RD.have 4 #[ff, tt, tt, tt, tt, tt, tt, tt, tt, ff, ff, ff] ⟨[qan4, sl 7 (.own 4), sl 47 (.own 2)], [qan13, rowI 3 intT (qan0 k x).2.1, rowI 23 (lsT intT) ((qan0 k x).2.2 ++ ([((qan0 k x).1).fFirst] : qan3)), .gone, rowI 4 boolT (l4.set (((qan0 k x).2.1).length : Int).toNat ((qan0 k x).1).fEmpty), .gone]⟩ ?_ (fun rd40 => ?_)
 refine RD.succ [0] (by kernel_rfl) rfl ⟨⟨_, _, _, rfl, ?_, rfl, rd41⟩, trivial⟩
 exact WL.rI ht hn
 refine RD.have 4 #[tt, tt, tt, tt, tt, tt, tt, tt, ff, ff, ff, ff] ⟨[qan4, sl 7 (.own 4), qan6, sl 43 (.gs 2 0), sl 46 (.own 5)], [qan2, rowI 3 intT (qan0 k x).2.1, gridI 23 3 intT (qan0 k x).2.2, .gone, rowI 4 boolT (l4.set (((qan0 k x).2.1).length : Int).toNat ((qan0 k x).1).fEmpty), rowI 23 (lsT intT) ([((qan0 k x).1).fFirst] : qan3)]⟩ ?_ (fun rd39 => ?_)
 refine RD.succ [8] (by kernel_rfl) rfl ⟨⟨_, _, _, rfl, ?_, rfl, rd41⟩, trivial⟩
 refine WL.sub ⟨[qan4, sl 7 (.own 4), qan6, sl 43 (.gs 2 0), sl 46 (.own 5)], [qan2, rowI 3 intT (qan0 k x).2.1, gridI 23 3 intT (qan0 k x).2.2, .gone, rowI 4 boolT (l4.set (((qan0 k x).2.1).length : Int).toNat ((qan0 k x).1).fEmpty), rowI 23 (lsT intT) ([((qan0 k x).1).fFirst] : qan3)]⟩ (by kernel_rfl) ?_
 refine WL.sealRows (T := intT) (L := (qan0 k x).2.2) 2 (by rfl) (by rfl) (by rfl) ?_
 refine WL.sub ⟨[qan4, sl 7 (.own 4), qan6, sl 43 (.own 2), sl 46 (.own 5)], [qan12, rowI 3 intT (qan0 k x).2.1, rowI 23 (lsT intT) (qan0 k x).2.2, .gone, rowI 4 boolT (l4.set (((qan0 k x).2.1).length : Int).toNat ((qan0 k x).1).fEmpty), rowI 23 (lsT intT) ([((qan0 k x).1).fFirst] : qan3)]⟩ (by kernel_rfl) ?_
 refine WL.seal (T := (lsT intT)) (l := ([((qan0 k x).1).fFirst] : qan3)) (e := 23) 5 rfl ?_
 refine WL.r ht hn 0 ⟨[qan4, sl 7 (.own 4), qan6, sl 43 (.own 2), qan14 k x], [qan12, rowI 3 intT (qan0 k x).2.1, rowI 23 (lsT intT) (qan0 k x).2.2, .gone, rowI 4 boolT (l4.set (((qan0 k x).2.1).length : Int).toNat ((qan0 k x).1).fEmpty), .gone]⟩ ?_
 refine WL.junk 0 1 (by rfl) ?_
 refine WL.mt (S2 := ⟨[qan4, sl 7 (.own 4), qan6, qan14 k x], [qan13, rowI 3 intT (qan0 k x).2.1, rowI 23 (lsT intT) (qan0 k x).2.2, .gone, rowI 4 boolT (l4.set (((qan0 k x).2.1).length : Int).toNat ((qan0 k x).1).fEmpty), .gone]⟩) (K := [2]) (p := some (2, rowI 23 (lsT intT) ((qan0 k x).2.2 ++ ([((qan0 k x).1).fFirst] : qan3)))) hn (by rfl) (mt_append (T := (lsT intT)) (l := (qan0 k x).2.2) (es := ([((qan0 k x).1).fFirst] : qan3)) ht rfl (by rfl) (by rfl) (by rfl) (by rfl) (by decide) (by rfl) (by rfl) (srcLS (T := (lsT intT)) (es := ([((qan0 k x).1).fFirst] : qan3)) (fun _ h => by cases h) (by decide) (by rfl)) (by exact hp_r8) (by exact hp_r8.le (by decide))) (by kernel_rfl) (by rfl) (by rfl) (by rfl) ?_
 refine WL.nil ?_
 exact sub_ok (by kernel_rfl)
 refine RD.have 5 #[ff, tt, tt, tt, tt, tt, tt, tt, ff, ff, ff, ff] ⟨[qan4, sl 7 (.own 4), sl 43 (.gs 2 0), sl 46 (.own 5)], [qan2, rowI 3 intT (qan0 k x).2.1, gridI 23 3 intT (qan0 k x).2.2, .gone, rowI 4 boolT (l4.set (((qan0 k x).2.1).length : Int).toNat ((qan0 k x).1).fEmpty), rowI 23 (lsT intT) ([((qan0 k x).1).fFirst] : qan3)]⟩ ?_ (fun rd38 => ?_)
 refine RD.succ [0, 8] (by kernel_rfl) rfl ⟨⟨_, _, _, rfl, ?_, rfl, rd39⟩, ⟨_, _, _, rfl, ?_, rfl, rd40⟩, trivial⟩
 exact WL.rI ht hn
 refine WL.sub ⟨[qan4, sl 7 (.own 4), sl 43 (.gs 2 0), sl 46 (.own 5)], [qan2, rowI 3 intT (qan0 k x).2.1, gridI 23 3 intT (qan0 k x).2.2, .gone, rowI 4 boolT (l4.set (((qan0 k x).2.1).length : Int).toNat ((qan0 k x).1).fEmpty), rowI 23 (lsT intT) ([((qan0 k x).1).fFirst] : qan3)]⟩ (by kernel_rfl) ?_
 refine WL.sealRows (T := intT) (L := (qan0 k x).2.2) 2 (by rfl) (by rfl) (by rfl) ?_
 refine WL.sub ⟨[qan4, sl 7 (.own 4), sl 43 (.own 2), sl 46 (.own 5)], [qan12, rowI 3 intT (qan0 k x).2.1, rowI 23 (lsT intT) (qan0 k x).2.2, .gone, rowI 4 boolT (l4.set (((qan0 k x).2.1).length : Int).toNat ((qan0 k x).1).fEmpty), rowI 23 (lsT intT) ([((qan0 k x).1).fFirst] : qan3)]⟩ (by kernel_rfl) ?_
 refine WL.seal (T := (lsT intT)) (l := ([((qan0 k x).1).fFirst] : qan3)) (e := 23) 5 rfl ?_
 refine WL.r ht hn 0 ⟨[qan4, sl 7 (.own 4), sl 43 (.own 2), qan14 k x], [qan12, rowI 3 intT (qan0 k x).2.1, rowI 23 (lsT intT) (qan0 k x).2.2, .gone, rowI 4 boolT (l4.set (((qan0 k x).2.1).length : Int).toNat ((qan0 k x).1).fEmpty), .gone]⟩ ?_
 refine WL.junk 0 1 (by rfl) ?_
 refine WL.mt (S2 := ⟨[qan4, sl 7 (.own 4), qan14 k x], [qan13, rowI 3 intT (qan0 k x).2.1, rowI 23 (lsT intT) (qan0 k x).2.2, .gone, rowI 4 boolT (l4.set (((qan0 k x).2.1).length : Int).toNat ((qan0 k x).1).fEmpty), .gone]⟩) (K := [2]) (p := some (2, rowI 23 (lsT intT) ((qan0 k x).2.2 ++ ([((qan0 k x).1).fFirst] : qan3)))) hn (by rfl) (mt_append (T := (lsT intT)) (l := (qan0 k x).2.2) (es := ([((qan0 k x).1).fFirst] : qan3)) ht rfl (by rfl) (by rfl) (by rfl) (by rfl) (by decide) (by rfl) (by rfl) (srcLS (T := (lsT intT)) (es := ([((qan0 k x).1).fFirst] : qan3)) (fun _ h => by cases h) (by decide) (by rfl)) (by exact hp_r8) (by exact hp_r8.le (by decide))) (by kernel_rfl) (by rfl) (by rfl) (by rfl) ?_
 refine WL.nil ?_
 exact sub_ok (by kernel_rfl)
 refine RD.have 5 #[tt, tt, tt, tt, ff, tt, tt, tt, ff, ff, ff, ff] ⟨[qan4, sl 7 (.own 4), qan6, sl 42 (.ptr 0 1), sl 46 (.own 5)], [qan2, rowI 3 intT (qan0 k x).2.1, gridI 23 3 intT (qan0 k x).2.2, .gone, rowI 4 boolT (l4.set (((qan0 k x).2.1).length : Int).toNat ((qan0 k x).1).fEmpty), rowI 23 (lsT intT) ([((qan0 k x).1).fFirst] : qan3)]⟩ ?_ (fun rd37 => ?_)
 refine RD.succ [4] (by kernel_rfl) rfl ⟨⟨_, _, _, rfl, ?_, rfl, rd39⟩, trivial⟩
 exact WL.rI ht hn
 refine RD.have 5 #[tt, tt, tt, tt, tt, tt, tt, ff, ff, ff, ff, ff] ⟨[qan4, sl 7 (.own 4), qan6, sl 43 (.gs 2 0), qan8 k x], [qan2, rowI 3 intT (qan0 k x).2.1, gridI 23 3 intT (qan0 k x).2.2, .gone, rowI 4 boolT (l4.set (((qan0 k x).2.1).length : Int).toNat ((qan0 k x).1).fEmpty)]⟩ ?_ (fun rd36 => ?_)
 refine RD.succ [7] (by kernel_rfl) rfl ⟨⟨_, _, _, rfl, ?_, rfl, rd39⟩, trivial⟩
 refine WL.mt0 (K := []) (p := some (5, rowI 23 (lsT intT) ([((qan0 k x).1).fFirst] : qan3))) hn (by rfl) (mt_lit (T := (lsT intT)) ([((qan0 k x).1).fFirst] : qan3) (mt_bsl 5 (r := cellsOf (lsT intT) ([((qan0 k x).1).fFirst] : qan3)) ht rfl (by rfl) (by rfl) (by rfl) (by kernel_rfl) (by rfl)) (fun _ h => by cases h) (fun _ => rfl) (fun _ => rfl) (by rfl) (Nat.le_of_ble_eq_true rfl)) (by rfl) (by rfl) (by rfl) ?_
 refine WL.nil ?_
 exact sub_ok (by kernel_rfl)
 refine RD.have 6 #[ff, tt, tt, tt, ff, tt, tt, tt, ff, ff, ff, ff] ⟨[qan4, sl 7 (.own 4), sl 42 (.ptr 0 1), sl 46 (.own 5)], [qan2, rowI 3 intT (qan0 k x).2.1, gridI 23 3 intT (qan0 k x).2.2, .gone, rowI 4 boolT (l4.set (((qan0 k x).2.1).length : Int).toNat ((qan0 k x).1).fEmpty), rowI 23 (lsT intT) ([((qan0 k x).1).fFirst] : qan3)]⟩ ?_ (fun rd35 => ?_)
 refine RD.succ [0, 4] (by kernel_rfl) rfl ⟨⟨_, _, _, rfl, ?_, rfl, rd37⟩, ⟨_, _, _, rfl, ?_, rfl, rd38⟩, trivial⟩
 exact WL.rI ht hn
 exact WL.rI ht hn
 refine RD.have 6 #[ff, tt, tt, tt, tt, tt, tt, ff, ff, ff, ff, ff] ⟨[qan4, sl 7 (.own 4), sl 43 (.gs 2 0), qan8 k x], [qan2, rowI 3 intT (qan0 k x).2.1, gridI 23 3 intT (qan0 k x).2.2, .gone, rowI 4 boolT (l4.set (((qan0 k x).2.1).length : Int).toNat ((qan0 k x).1).fEmpty)]⟩ ?_ (fun rd34 => ?_)
 refine RD.succ [0, 7] (by kernel_rfl) rfl ⟨⟨_, _, _, rfl, ?_, rfl, rd36⟩, ⟨_, _, _, rfl, ?_, rfl, rd38⟩, trivial⟩
 exact WL.rI ht hn
 refine WL.mt0 (K := []) (p := some (5, rowI 23 (lsT intT) ([((qan0 k x).1).fFirst] : qan3))) hn (by rfl) (mt_lit (T := (lsT intT)) ([((qan0 k x).1).fFirst] : qan3) (mt_bsl 5 (r := cellsOf (lsT intT) ([((qan0 k x).1).fFirst] : qan3)) ht rfl (by rfl) (by rfl) (by rfl) (by kernel_rfl) (by rfl)) (fun _ h => by cases h) (fun _ => rfl) (fun _ => rfl) (by rfl) (Nat.le_of_ble_eq_true rfl)) (by rfl) (by rfl) (by rfl) ?_
 refine WL.nil ?_
 exact sub_ok (by kernel_rfl)
 refine RD.have 6 #[tt, tt, tt, ff, ff, tt, tt, tt, ff, ff, ff, ff] ⟨[qan4, sl 7 (.own 4), qan6, sl 41 (.ptr 0 0), sl 46 (.own 5)], [qan2, rowI 3 intT (qan0 k x).2.1, gridI 23 3 intT (qan0 k x).2.2, .gone, rowI 4 boolT (l4.set (((qan0 k x).2.1).length : Int).toNat ((qan0 k x).1).fEmpty), rowI 23 (lsT intT) ([((qan0 k x).1).fFirst] : qan3)]⟩ ?_ (fun rd33 => ?_)
 refine RD.succ [3] (by kernel_rfl) rfl ⟨⟨_, _, _, rfl, ?_, rfl, rd37⟩, trivial⟩
 exact WL.rI ht hn
 refine RD.have 6 #[tt, tt, tt, tt, ff, tt, tt, ff, ff, ff, ff, ff] ⟨[qan4, sl 7 (.own 4), qan6, sl 42 (.ptr 0 1), qan8 k x], [qan2, rowI 3 intT (qan0 k x).2.1, gridI 23 3 intT (qan0 k x).2.2, .gone, rowI 4 boolT (l4.set (((qan0 k x).2.1).length : Int).toNat ((qan0 k x).1).fEmpty)]⟩ ?_ (fun rd32 => ?_)
 refine RD.succ [4, 7] (by kernel_rfl) rfl ⟨⟨_, _, _, rfl, ?_, rfl, rd36⟩, ⟨_, _, _, rfl, ?_, rfl, rd37⟩, trivial⟩
 exact WL.rI ht hn
 refine WL.mt0 (K := []) (p := some (5, rowI 23 (lsT intT) ([((qan0 k x).1).fFirst] : qan3))) hn (by rfl) (mt_lit (T := (lsT intT)) ([((qan0 k x).1).fFirst] : qan3) (mt_bsl 5 (r := cellsOf (lsT intT) ([((qan0 k x).1).fFirst] : qan3)) ht rfl (by rfl) (by rfl) (by rfl) (by kernel_rfl) (by rfl)) (fun _ h => by cases h) (fun _ => rfl) (fun _ => rfl) (by rfl) (Nat.le_of_ble_eq_true rfl)) (by rfl) (by rfl) (by rfl) ?_
 refine WL.nil ?_
 exact sub_ok (by kernel_rfl)
 refine RD.have 6 #[tt, tt, tt, tt, tt, tt, ff, ff, ff, ff, ff, ff] ⟨[qan4, sl 7 (.own 4), qan6, sl 43 (.gs 2 0), sl 44 (.ptr 3 1)], [qan2, rowI 3 intT (qan0 k x).2.1, gridI 23 3 intT (qan0 k x).2.2, qan1 k x, rowI 4 boolT (l4.set (((qan0 k x).2.1).length : Int).toNat ((qan0 k x).1).fEmpty)]⟩ ?_ (fun rd31 => ?_)
 refine RD.succ [6] (by kernel_rfl) rfl ⟨⟨_, _, _, rfl, ?_, rfl, rd36⟩, trivial⟩
 exact WL.rI ht hn
 refine RD.have 7 #[ff, tt, tt, ff, ff, tt, tt, tt, ff, ff, ff, ff] ⟨[qan4, sl 7 (.own 4), sl 41 (.ptr 0 0), sl 46 (.own 5)], [qan2, rowI 3 intT (qan0 k x).2.1, gridI 23 3 intT (qan0 k x).2.2, .gone, rowI 4 boolT (l4.set (((qan0 k x).2.1).length : Int).toNat ((qan0 k x).1).fEmpty), rowI 23 (lsT intT) ([((qan0 k x).1).fFirst] : qan3)]⟩ ?_ (fun rd30 => ?_)
 refine RD.succ [0, 3] (by kernel_rfl) rfl ⟨⟨_, _, _, rfl, ?_, rfl, rd33⟩, ⟨_, _, _, rfl, ?_, rfl, rd35⟩, trivial⟩
 exact WL.rI ht hn
 exact WL.rI ht hn
 refine RD.have 7 #[ff, tt, tt, tt, ff, tt, tt, ff, ff, ff, ff, ff] ⟨[qan4, sl 7 (.own 4), sl 42 (.ptr 0 1), qan8 k x], [qan2, rowI 3 intT (qan0 k x).2.1, gridI 23 3 intT (qan0 k x).2.2, .gone, rowI 4 boolT (l4.set (((qan0 k x).2.1).length : Int).toNat ((qan0 k x).1).fEmpty)]⟩ ?_ (fun rd29 => ?_)
 refine RD.succ [0, 4, 7] (by kernel_rfl) rfl ⟨⟨_, _, _, rfl, ?_, rfl, rd32⟩, ⟨_, _, _, rfl, ?_, rfl, rd34⟩, ⟨_, _, _, rfl, ?_, rfl, rd35⟩, trivial⟩
 exact WL.rI ht hn
 exact WL.rI ht hn
 refine WL.mt0 (K := []) (p := some (5, rowI 23 (lsT intT) ([((qan0 k x).1).fFirst] : qan3))) hn (by rfl) (mt_lit (T := (lsT intT)) ([((qan0 k x).1).fFirst] : qan3) (mt_bsl 5 (r := cellsOf (lsT intT) ([((qan0 k x).1).fFirst] : qan3)) ht rfl (by rfl) (by rfl) (by rfl) (by kernel_rfl) (by rfl)) (fun _ h => by cases h) (fun _ => rfl) (fun _ => rfl) (by rfl) (Nat.le_of_ble_eq_true rfl)) (by rfl) (by rfl) (by rfl) ?_
 refine WL.nil ?_
 exact sub_ok (by kernel_rfl)
 refine RD.have 7 #[ff, tt, tt, tt, tt, tt, ff, ff, ff, ff, ff, ff] ⟨[qan4, sl 7 (.own 4), sl 43 (.gs 2 0), sl 44 (.ptr 3 1)], [qan2, rowI 3 intT (qan0 k x).2.1, gridI 23 3 intT (qan0 k x).2.2, qan1 k x, rowI 4 boolT (l4.set (((qan0 k x).2.1).length : Int).toNat ((qan0 k x).1).fEmpty)]⟩ ?_ (fun rd28 => ?_)
 refine RD.succ [0, 6] (by kernel_rfl) rfl ⟨⟨_, _, _, rfl, ?_, rfl, rd31⟩, ⟨_, _, _, rfl, ?_, rfl, rd34⟩, trivial⟩
 exact WL.rI ht hn
 exact WL.rI ht hn
 refine RD.have 7 #[tt, tt, ff, ff, ff, tt, tt, tt, ff, ff, ff, ff] ⟨[qan4, sl 7 (.own 4), qan6, sl 40 (.ptr 0 0), sl 46 (.own 5)], [qan2, rowI 3 intT (qan0 k x).2.1, gridI 23 3 intT (qan0 k x).2.2, .gone, rowI 4 boolT (l4.set (((qan0 k x).2.1).length : Int).toNat ((qan0 k x).1).fEmpty), rowI 23 (lsT intT) ([((qan0 k x).1).fFirst] : qan3)]⟩ ?_ (fun rd27 => ?_)
 refine RD.succ [2] (by kernel_rfl) rfl ⟨⟨_, _, _, rfl, ?_, rfl, rd33⟩, trivial⟩
 exact WL.rI ht hn
 refine RD.have 7 #[tt, tt, tt, ff, ff, tt, tt, ff, ff, ff, ff, ff] ⟨[qan4, sl 7 (.own 4), qan6, sl 41 (.ptr 0 0), qan8 k x], [qan2, rowI 3 intT (qan0 k x).2.1, gridI 23 3 intT (qan0 k x).2.2, .gone, rowI 4 boolT (l4.set (((qan0 k x).2.1).length : Int).toNat ((qan0 k x).1).fEmpty)]⟩ ?_ (fun rd26 => ?_)
 refine RD.succ [3, 7] (by kernel_rfl) rfl ⟨⟨_, _, _, rfl, ?_, rfl, rd32⟩, ⟨_, _, _, rfl, ?_, rfl, rd33⟩, trivial⟩
 exact WL.rI ht hn
 refine WL.mt0 (K := []) (p := some (5, rowI 23 (lsT intT) ([((qan0 k x).1).fFirst] : qan3))) hn (by rfl) (mt_lit (T := (lsT intT)) ([((qan0 k x).1).fFirst] : qan3) (mt_bsl 5 (r := cellsOf (lsT intT) ([((qan0 k x).1).fFirst] : qan3)) ht rfl (by rfl) (by rfl) (by rfl) (by kernel_rfl) (by rfl)) (fun _ h => by cases h) (fun _ => rfl) (fun _ => rfl) (by rfl) (Nat.le_of_ble_eq_true rfl)) (by rfl) (by rfl) (by rfl) ?_
 refine WL.nil ?_
 exact sub_ok (by kernel_rfl)
 refine RD.have 7 #[tt, tt, tt, tt, ff, tt, ff, ff, ff, ff, ff, ff] ⟨[qan4, sl 7 (.own 4), qan6, sl 42 (.ptr 0 1), sl 44 (.ptr 3 1)], [qan2, rowI 3 intT (qan0 k x).2.1, gridI 23 3 intT (qan0 k x).2.2, qan1 k x, rowI 4 boolT (l4.set (((qan0 k x).2.1).length : Int).toNat ((qan0 k x).1).fEmpty)]⟩ ?_ (fun rd25 => ?_)
 refine RD.succ [4, 6] (by kernel_rfl) rfl ⟨⟨_, _, _, rfl, ?_, rfl, rd31⟩, ⟨_, _, _, rfl, ?_, rfl, rd32⟩, trivial⟩
 exact WL.rI ht hn
 exact WL.rI ht hn
 refine RD.have 7 #[tt, tt, tt, tt, tt, ff, ff, ff, ff, ff, ff, ff] ⟨[qan4, qan9, sl 7 (.own 4), qan6, sl 43 (.gs 2 0)], [qan2, rowI 3 intT (qan0 k x).2.1, gridI 23 3 intT (qan0 k x).2.2, qan1 k x, rowI 4 boolT (l4.set (((qan0 k x).2.1).length : Int).toNat ((qan0 k x).1).fEmpty)]⟩ ?_ (fun rd24 => ?_)
 refine RD.succ [5] (by kernel_rfl) rfl ⟨⟨_, _, _, rfl, ?_, rfl, rd31⟩, trivial⟩
 exact WL.rI ht hn
 refine RD.have 8 #[ff, tt, ff, ff, ff, tt, tt, tt, ff, ff, ff, ff] ⟨[qan4, sl 7 (.own 4), sl 40 (.ptr 0 0), sl 46 (.own 5)], [qan2, rowI 3 intT (qan0 k x).2.1, gridI 23 3 intT (qan0 k x).2.2, .gone, rowI 4 boolT (l4.set (((qan0 k x).2.1).length : Int).toNat ((qan0 k x).1).fEmpty), rowI 23 (lsT intT) ([((qan0 k x).1).fFirst] : qan3)]⟩ ?_ (fun rd23 => ?_)
 refine RD.succ [0, 2] (by kernel_rfl) rfl ⟨⟨_, _, _, rfl, ?_, rfl, rd27⟩, ⟨_, _, _, rfl, ?_, rfl, rd30⟩, trivial⟩
 exact WL.rI ht hn
 exact WL.rI ht hn
 refine RD.have 8 #[ff, tt, tt, ff, ff, tt, tt, ff, ff, ff, ff, ff] ⟨[qan4, sl 7 (.own 4), sl 41 (.ptr 0 0), qan8 k x], [qan2, rowI 3 intT (qan0 k x).2.1, gridI 23 3 intT (qan0 k x).2.2, .gone, rowI 4 boolT (l4.set (((qan0 k x).2.1).length : Int).toNat ((qan0 k x).1).fEmpty)]⟩ ?_ (fun rd22 => ?_)
 refine RD.succ [0, 3, 7] (by kernel_rfl) rfl ⟨⟨_, _, _, rfl, ?_, rfl, rd26⟩, ⟨_, _, _, rfl, ?_, rfl, rd29⟩, ⟨_, _, _, rfl, ?_, rfl, rd30⟩, trivial⟩
 exact WL.rI ht hn
 exact WL.rI ht hn
 refine WL.mt0 (K := []) (p := some (5, rowI 23 (lsT intT) ([((qan0 k x).1).fFirst] : qan3))) hn (by rfl) (mt_lit (T := (lsT intT)) ([((qan0 k x).1).fFirst] : qan3) (mt_bsl 5 (r := cellsOf (lsT intT) ([((qan0 k x).1).fFirst] : qan3)) ht rfl (by rfl) (by rfl) (by rfl) (by kernel_rfl) (by rfl)) (fun _ h => by cases h) (fun _ => rfl) (fun _ => rfl) (by rfl) (Nat.le_of_ble_eq_true rfl)) (by rfl) (by rfl) (by rfl) ?_
 refine WL.nil ?_
 exact sub_ok (by kernel_rfl)
 refine RD.have 8 #[ff, tt, tt, tt, ff, tt, ff, ff, ff, ff, ff, ff] ⟨[qan4, sl 7 (.own 4), sl 42 (.ptr 0 1), sl 44 (.ptr 3 1)], [qan2, rowI 3 intT (qan0 k x).2.1, gridI 23 3 intT (qan0 k x).2.2, qan1 k x, rowI 4 boolT (l4.set (((qan0 k x).2.1).length : Int).toNat ((qan0 k x).1).fEmpty)]⟩ ?_ (fun rd21 => ?_)
 refine RD.succ [0, 4, 6] (by kernel_rfl) rfl ⟨⟨_, _, _, rfl, ?_, rfl, rd25⟩, ⟨_, _, _, rfl, ?_, rfl, rd28⟩, ⟨_, _, _, rfl, ?_, rfl, rd29⟩, trivial⟩
 exact WL.rI ht hn
 exact WL.rI ht hn
 exact WL.rI ht hn
 refine RD.have 8 #[ff, tt, tt, tt, tt, ff, ff, ff, ff, ff, ff, ff] ⟨[qan4, qan9, sl 7 (.own 4), sl 43 (.gs 2 0)], [qan2, rowI 3 intT (qan0 k x).2.1, gridI 23 3 intT (qan0 k x).2.2, qan1 k x, rowI 4 boolT (l4.set (((qan0 k x).2.1).length : Int).toNat ((qan0 k x).1).fEmpty)]⟩ ?_ (fun rd20 => ?_)
 refine RD.succ [0, 5] (by kernel_rfl) rfl ⟨⟨_, _, _, rfl, ?_, rfl, rd24⟩, ⟨_, _, _, rfl, ?_, rfl, rd28⟩, trivial⟩
 exact WL.rI ht hn
 exact WL.rI ht hn
 refine RD.have 8 #[tt, ff, ff, ff, ff, tt, tt, tt, ff, ff, ff, ff] ⟨[qan4, sl 7 (.own 4), qan6, sl 46 (.own 5)], [qan2, rowI 3 intT (qan0 k x).2.1, gridI 23 3 intT (qan0 k x).2.2, .gone, rowI 4 boolT (l4.set (((qan0 k x).2.1).length : Int).toNat ((qan0 k x).1).fEmpty), rowI 23 (lsT intT) ([((qan0 k x).1).fFirst] : qan3)]⟩ ?_ (fun rd19 => ?_)
 refine RD.succ [1] (by kernel_rfl) rfl ⟨⟨_, _, _, rfl, ?_, rfl, rd27⟩, trivial⟩
 exact WL.rI ht hn
 refine RD.have 8 #[tt, tt, ff, ff, ff, tt, tt, ff, ff, ff, ff, ff] ⟨[qan4, sl 7 (.own 4), qan6, sl 40 (.ptr 0 0), qan8 k x], [qan2, rowI 3 intT (qan0 k x).2.1, gridI 23 3 intT (qan0 k x).2.2, .gone, rowI 4 boolT (l4.set (((qan0 k x).2.1).length : Int).toNat ((qan0 k x).1).fEmpty)]⟩ ?_ (fun rd18 => ?_)
 refine RD.succ [2, 7] (by kernel_rfl) rfl ⟨⟨_, _, _, rfl, ?_, rfl, rd26⟩, ⟨_, _, _, rfl, ?_, rfl, rd27⟩, trivial⟩
 exact WL.rI ht hn
 refine WL.mt0 (K := []) (p := some (5, rowI 23 (lsT intT) ([((qan0 k x).1).fFirst] : qan3))) hn (by rfl) (mt_lit (T := (lsT intT)) ([((qan0 k x).1).fFirst] : qan3) (mt_bsl 5 (r := cellsOf (lsT intT) ([((qan0 k x).1).fFirst] : qan3)) ht rfl (by rfl) (by rfl) (by rfl) (by kernel_rfl) (by rfl)) (fun _ h => by cases h) (fun _ => rfl) (fun _ => rfl) (by rfl) (Nat.le_of_ble_eq_true rfl)) (by rfl) (by rfl) (by rfl) ?_
 refine WL.nil ?_
 exact sub_ok (by kernel_rfl)
 refine RD.have 8 #[tt, tt, tt, ff, ff, tt, ff, ff, ff, ff, ff, ff] ⟨[qan4, sl 7 (.own 4), qan6, sl 41 (.ptr 0 0), sl 44 (.ptr 3 1)], [qan2, rowI 3 intT (qan0 k x).2.1, gridI 23 3 intT (qan0 k x).2.2, qan1 k x, rowI 4 boolT (l4.set (((qan0 k x).2.1).length : Int).toNat ((qan0 k x).1).fEmpty)]⟩ ?_ (fun rd17 => ?_)
 refine RD.succ [3, 6] (by kernel_rfl) rfl ⟨⟨_, _, _, rfl, ?_, rfl, rd25⟩, ⟨_, _, _, rfl, ?_, rfl, rd26⟩, trivial⟩
 exact WL.rI ht hn
 exact WL.rI ht hn
 refine RD.have 8 #[tt, tt, tt, tt, ff, ff, ff, ff, ff, ff, ff, ff] ⟨[qan4, qan9, sl 7 (.own 4), qan6, sl 42 (.ptr 0 1)], [qan2, rowI 3 intT (qan0 k x).2.1, gridI 23 3 intT (qan0 k x).2.2, qan1 k x, rowI 4 boolT (l4.set (((qan0 k x).2.1).length : Int).toNat ((qan0 k x).1).fEmpty)]⟩ ?_ (fun rd16 => ?_)
 refine RD.succ [4, 5] (by kernel_rfl) rfl ⟨⟨_, _, _, rfl, ?_, rfl, rd24⟩, ⟨_, _, _, rfl, ?_, rfl, rd25⟩, trivial⟩
 exact WL.rI ht hn
 exact WL.rI ht hn
 refine RD.have 9 #[ff, ff, ff, ff, ff, tt, tt, tt, ff, ff, ff, ff] ⟨[qan4, sl 7 (.own 4), sl 46 (.own 5)], [qan2, rowI 3 intT (qan0 k x).2.1, gridI 23 3 intT (qan0 k x).2.2, .gone, rowI 4 boolT (l4.set (((qan0 k x).2.1).length : Int).toNat ((qan0 k x).1).fEmpty), rowI 23 (lsT intT) ([((qan0 k x).1).fFirst] : qan3)]⟩ ?_ (fun rd15 => ?_)
 refine RD.succ [0, 1] (by kernel_rfl) rfl ⟨⟨_, _, _, rfl, ?_, rfl, rd19⟩, ⟨_, _, _, rfl, ?_, rfl, rd23⟩, trivial⟩
 exact WL.rI ht hn
 exact WL.rI ht hn
 refine RD.have 9 #[ff, tt, ff, ff, ff, tt, tt, ff, ff, ff, ff, ff] ⟨[qan4, sl 7 (.own 4), sl 40 (.ptr 0 0), qan8 k x], [qan2, rowI 3 intT (qan0 k x).2.1, gridI 23 3 intT (qan0 k x).2.2, .gone, rowI 4 boolT (l4.set (((qan0 k x).2.1).length : Int).toNat ((qan0 k x).1).fEmpty)]⟩ ?_ (fun rd14 => ?_)
 refine RD.succ [0, 2, 7] (by kernel_rfl) rfl ⟨⟨_, _, _, rfl, ?_, rfl, rd18⟩, ⟨_, _, _, rfl, ?_, rfl, rd22⟩, ⟨_, _, _, rfl, ?_, rfl, rd23⟩, trivial⟩
 exact WL.rI ht hn
 exact WL.rI ht hn
 refine WL.mt0 (K := []) (p := some (5, rowI 23 (lsT intT) ([((qan0 k x).1).fFirst] : qan3))) hn (by rfl) (mt_lit (T := (lsT intT)) ([((qan0 k x).1).fFirst] : qan3) (mt_bsl 5 (r := cellsOf (lsT intT) ([((qan0 k x).1).fFirst] : qan3)) ht rfl (by rfl) (by rfl) (by rfl) (by kernel_rfl) (by rfl)) (fun _ h => by cases h) (fun _ => rfl) (fun _ => rfl) (by rfl) (Nat.le_of_ble_eq_true rfl)) (by rfl) (by rfl) (by rfl) ?_
 refine WL.nil ?_
 exact sub_ok (by kernel_rfl)
 refine RD.have 9 #[ff, tt, tt, ff, ff, tt, ff, ff, ff, ff, ff, ff] ⟨[qan4, sl 7 (.own 4), sl 41 (.ptr 0 0), sl 44 (.ptr 3 1)], [qan2, rowI 3 intT (qan0 k x).2.1, gridI 23 3 intT (qan0 k x).2.2, qan1 k x, rowI 4 boolT (l4.set (((qan0 k x).2.1).length : Int).toNat ((qan0 k x).1).fEmpty)]⟩ ?_ (fun rd13 => ?_)
 refine RD.succ [0, 3, 6] (by kernel_rfl) rfl ⟨⟨_, _, _, rfl, ?_, rfl, rd17⟩, ⟨_, _, _, rfl, ?_, rfl, rd21⟩, ⟨_, _, _, rfl, ?_, rfl, rd22⟩, trivial⟩
 exact WL.rI ht hn
 exact WL.rI ht hn
 exact WL.rI ht hn
 refine RD.have 9 #[ff, tt, tt, tt, ff, ff, ff, ff, ff, ff, ff, ff] ⟨[qan4, qan9, sl 7 (.own 4), sl 42 (.ptr 0 1)], [qan2, rowI 3 intT (qan0 k x).2.1, gridI 23 3 intT (qan0 k x).2.2, qan1 k x, rowI 4 boolT (l4.set (((qan0 k x).2.1).length : Int).toNat ((qan0 k x).1).fEmpty)]⟩ ?_ (fun rd12 => ?_)
 refine RD.succ [0, 4, 5] (by kernel_rfl) rfl ⟨⟨_, _, _, rfl, ?_, rfl, rd16⟩, ⟨_, _, _, rfl, ?_, rfl, rd20⟩, ⟨_, _, _, rfl, ?_, rfl, rd21⟩, trivial⟩
 exact WL.rI ht hn
 exact WL.rI ht hn
 exact WL.rI ht hn
 refine RD.have 9 #[tt, ff, ff, ff, ff, tt, tt, ff, ff, ff, ff, ff] ⟨[qan4, sl 7 (.own 4), qan6, qan8 k x], [qan2, rowI 3 intT (qan0 k x).2.1, gridI 23 3 intT (qan0 k x).2.2, .gone, rowI 4 boolT (l4.set (((qan0 k x).2.1).length : Int).toNat ((qan0 k x).1).fEmpty)]⟩ ?_ (fun rd11 => ?_)
 refine RD.succ [1, 7] (by kernel_rfl) rfl ⟨⟨_, _, _, rfl, ?_, rfl, rd18⟩, ⟨_, _, _, rfl, ?_, rfl, rd19⟩, trivial⟩
 exact WL.rI ht hn
 refine WL.mt0 (K := []) (p := some (5, rowI 23 (lsT intT) ([((qan0 k x).1).fFirst] : qan3))) hn (by rfl) (mt_lit (T := (lsT intT)) ([((qan0 k x).1).fFirst] : qan3) (mt_bsl 5 (r := cellsOf (lsT intT) ([((qan0 k x).1).fFirst] : qan3)) ht rfl (by rfl) (by rfl) (by rfl) (by kernel_rfl) (by rfl)) (fun _ h => by cases h) (fun _ => rfl) (fun _ => rfl) (by rfl) (Nat.le_of_ble_eq_true rfl)) (by rfl) (by rfl) (by rfl) ?_
 refine WL.nil ?_
 exact sub_ok (by kernel_rfl)
 refine RD.have 9 #[tt, tt, ff, ff, ff, tt, ff, ff, ff, ff, ff, ff] ⟨[qan4, sl 7 (.own 4), qan6, sl 40 (.ptr 0 0), sl 44 (.ptr 3 1)], [qan2, rowI 3 intT (qan0 k x).2.1, gridI 23 3 intT (qan0 k x).2.2, qan1 k x, rowI 4 boolT (l4.set (((qan0 k x).2.1).length : Int).toNat ((qan0 k x).1).fEmpty)]⟩ ?_ (fun rd10 => ?_)
 refine RD.succ [2, 6] (by kernel_rfl) rfl ⟨⟨_, _, _, rfl, ?_, rfl, rd17⟩, ⟨_, _, _, rfl, ?_, rfl, rd18⟩, trivial⟩
 exact WL.rI ht hn
 exact WL.rI ht hn
 refine RD.have 9 #[tt, tt, tt, ff, ff, ff, ff, ff, ff, ff, ff, ff] ⟨[qan4, qan9, sl 7 (.own 4), qan6, sl 41 (.ptr 0 0)], [qan2, rowI 3 intT (qan0 k x).2.1, gridI 23 3 intT (qan0 k x).2.2, qan1 k x, rowI 4 boolT (l4.set (((qan0 k x).2.1).length : Int).toNat ((qan0 k x).1).fEmpty)]⟩ ?_ (fun rd9 => ?_)
 refine RD.succ [3, 5] (by kernel_rfl) rfl ⟨⟨_, _, _, rfl, ?_, rfl, rd16⟩, ⟨_, _, _, rfl, ?_, rfl, rd17⟩, trivial⟩
 exact WL.rI ht hn
 exact WL.rI ht hn
 refine RD.have 10 #[ff, ff, ff, ff, ff, tt, tt, ff, ff, ff, ff, ff] ⟨[qan4, sl 7 (.own 4), qan8 k x], [qan2, rowI 3 intT (qan0 k x).2.1, gridI 23 3 intT (qan0 k x).2.2, .gone, rowI 4 boolT (l4.set (((qan0 k x).2.1).length : Int).toNat ((qan0 k x).1).fEmpty)]⟩ ?_ (fun rd8 => ?_)
 refine RD.succ [0, 1, 7] (by kernel_rfl) rfl ⟨⟨_, _, _, rfl, ?_, rfl, rd11⟩, ⟨_, _, _, rfl, ?_, rfl, rd14⟩, ⟨_, _, _, rfl, ?_, rfl, rd15⟩, trivial⟩
 exact WL.rI ht hn
 exact WL.rI ht hn
 refine WL.mt0 (K := []) (p := some (5, rowI 23 (lsT intT) ([((qan0 k x).1).fFirst] : qan3))) hn (by rfl) (mt_lit (T := (lsT intT)) ([((qan0 k x).1).fFirst] : qan3) (mt_bsl 5 (r := cellsOf (lsT intT) ([((qan0 k x).1).fFirst] : qan3)) ht rfl (by rfl) (by rfl) (by rfl) (by kernel_rfl) (by rfl)) (fun _ h => by cases h) (fun _ => rfl) (fun _ => rfl) (by rfl) (Nat.le_of_ble_eq_true rfl)) (by rfl) (by rfl) (by rfl) ?_
 refine WL.nil ?_
 exact sub_ok (by kernel_rfl)
 refine RD.have 10 #[ff, tt, ff, ff, ff, tt, ff, ff, ff, ff, ff, ff] ⟨[qan4, sl 7 (.own 4), sl 40 (.ptr 0 0), sl 44 (.ptr 3 1)], [qan2, rowI 3 intT (qan0 k x).2.1, gridI 23 3 intT (qan0 k x).2.2, qan1 k x, rowI 4 boolT (l4.set (((qan0 k x).2.1).length : Int).toNat ((qan0 k x).1).fEmpty)]⟩ ?_ (fun rd7 => ?_)
 refine RD.succ [0, 2, 6] (by kernel_rfl) rfl ⟨⟨_, _, _, rfl, ?_, rfl, rd10⟩, ⟨_, _, _, rfl, ?_, rfl, rd13⟩, ⟨_, _, _, rfl, ?_, rfl, rd14⟩, trivial⟩
 exact WL.rI ht hn
 exact WL.rI ht hn
 exact WL.rI ht hn
 refine RD.have 10 #[ff, tt, tt, ff, ff, ff, ff, ff, ff, ff, ff, ff] ⟨[qan4, qan9, sl 7 (.own 4), sl 41 (.ptr 0 0)], [qan2, rowI 3 intT (qan0 k x).2.1, gridI 23 3 intT (qan0 k x).2.2, qan1 k x, rowI 4 boolT (l4.set (((qan0 k x).2.1).length : Int).toNat ((qan0 k x).1).fEmpty)]⟩ ?_ (fun rd6 => ?_)
 refine RD.succ [0, 3, 5] (by kernel_rfl) rfl ⟨⟨_, _, _, rfl, ?_, rfl, rd9⟩, ⟨_, _, _, rfl, ?_, rfl, rd12⟩, ⟨_, _, _, rfl, ?_, rfl, rd13⟩, trivial⟩
 exact WL.rI ht hn
 exact WL.rI ht hn
 exact WL.rI ht hn
 refine RD.have 10 #[tt, ff, ff, ff, ff, tt, ff, ff, ff, ff, ff, ff] ⟨[qan4, sl 7 (.own 4), qan6, sl 44 (.ptr 3 1)], [qan2, rowI 3 intT (qan0 k x).2.1, gridI 23 3 intT (qan0 k x).2.2, qan1 k x, rowI 4 boolT (l4.set (((qan0 k x).2.1).length : Int).toNat ((qan0 k x).1).fEmpty)]⟩ ?_ (fun rd5 => ?_)
 refine RD.succ [1, 6] (by kernel_rfl) rfl ⟨⟨_, _, _, rfl, ?_, rfl, rd10⟩, ⟨_, _, _, rfl, ?_, rfl, rd11⟩, trivial⟩
 exact WL.rI ht hn
 exact WL.rI ht hn
 refine RD.have 10 #[tt, tt, ff, ff, ff, ff, ff, ff, ff, ff, ff, ff] ⟨[qan4, qan9, sl 7 (.own 4), qan6, sl 40 (.ptr 0 0)], [qan2, rowI 3 intT (qan0 k x).2.1, gridI 23 3 intT (qan0 k x).2.2, qan1 k x, rowI 4 boolT (l4.set (((qan0 k x).2.1).length : Int).toNat ((qan0 k x).1).fEmpty)]⟩ ?_ (fun rd4 => ?_)
 refine RD.succ [2, 5] (by kernel_rfl) rfl ⟨⟨_, _, _, rfl, ?_, rfl, rd9⟩, ⟨_, _, _, rfl, ?_, rfl, rd10⟩, trivial⟩
 exact WL.rI ht hn
 exact WL.rI ht hn
 refine RD.have 11 #[ff, ff, ff, ff, ff, tt, ff, ff, ff, ff, ff, ff] ⟨[qan4, sl 7 (.own 4), sl 44 (.ptr 3 1)], [qan2, rowI 3 intT (qan0 k x).2.1, gridI 23 3 intT (qan0 k x).2.2, qan1 k x, rowI 4 boolT (l4.set (((qan0 k x).2.1).length : Int).toNat ((qan0 k x).1).fEmpty)]⟩ ?_ (fun rd3 => ?_)
 refine RD.succ [0, 1, 6] (by kernel_rfl) rfl ⟨⟨_, _, _, rfl, ?_, rfl, rd5⟩, ⟨_, _, _, rfl, ?_, rfl, rd7⟩, ⟨_, _, _, rfl, ?_, rfl, rd8⟩, trivial⟩
 exact WL.rI ht hn
 exact WL.rI ht hn
 exact WL.rI ht hn
 refine RD.have 11 #[ff, tt, ff, ff, ff, ff, ff, ff, ff, ff, ff, ff] ⟨[qan4, qan9, sl 7 (.own 4), sl 40 (.ptr 0 0)], [qan2, rowI 3 intT (qan0 k x).2.1, gridI 23 3 intT (qan0 k x).2.2, qan1 k x, rowI 4 boolT (l4.set (((qan0 k x).2.1).length : Int).toNat ((qan0 k x).1).fEmpty)]⟩ ?_ (fun rd2 => ?_)
 refine RD.succ [0, 2, 5] (by kernel_rfl) rfl ⟨⟨_, _, _, rfl, ?_, rfl, rd4⟩, ⟨_, _, _, rfl, ?_, rfl, rd6⟩, ⟨_, _, _, rfl, ?_, rfl, rd7⟩, trivial⟩
 exact WL.rI ht hn
 exact WL.rI ht hn
 exact WL.rI ht hn
 refine RD.have 11 #[tt, ff, ff, ff, ff, ff, ff, ff, ff, ff, ff, ff] ⟨[qan4, qan9, sl 7 (.own 4), qan6], [qan2, rowI 3 intT (qan0 k x).2.1, gridI 23 3 intT (qan0 k x).2.2, qan1 k x, rowI 4 boolT (l4.set (((qan0 k x).2.1).length : Int).toNat ((qan0 k x).1).fEmpty)]⟩ ?_ (fun rd1 => ?_)
 refine RD.succ [1, 5] (by kernel_rfl) rfl ⟨⟨_, _, _, rfl, ?_, rfl, rd4⟩, ⟨_, _, _, rfl, ?_, rfl, rd5⟩, trivial⟩
 exact WL.rI ht hn
 exact WL.rI ht hn
 refine RD.have 12 #[ff, ff, ff, ff, ff, ff, ff, ff, ff, ff, ff, ff] ⟨[qan4, qan9, sl 7 (.own 4)], [qan2, rowI 3 intT (qan0 k x).2.1, gridI 23 3 intT (qan0 k x).2.2, qan1 k x, rowI 4 boolT (l4.set (((qan0 k x).2.1).length : Int).toNat ((qan0 k x).1).fEmpty)]⟩ ?_ (fun rd0 => ?_)
 refine RD.succ [0, 1, 5] (by kernel_rfl) rfl ⟨⟨_, _, _, rfl, ?_, rfl, rd1⟩, ⟨_, _, _, rfl, ?_, rfl, rd2⟩, ⟨_, _, _, rfl, ?_, rfl, rd3⟩, trivial⟩
 exact WL.rI ht hn
 exact WL.rI ht hn
 exact WL.rI ht hn
 exact RD.start rd0 rfl (by kernel_rfl) (sub_ok (by kernel_rfl))
 refine En.sr ?_
 refine WL.rn ht hn 4 ⟨[sl 2 (.ptr 0 0), sl 3 (.own 4)], [qan12, rowI 3 intT (qan0 k x).2.1, rowI 23 (lsT intT) ((qan0 k x).2.2 ++ ([((qan0 k x).1).fFirst] : qan3)), .gone, rowI 4 boolT (l4.set (((qan0 k x).2.1).length : Int).toNat ((qan0 k x).1).fEmpty), .gone]⟩ ?_
 refine En.ret ?_
 refine En.seal (T := intT) (l := (qan0 k x).2.1) (e := 3) 1 rfl ?_
 refine En.seal (T := (lsT intT)) (l := ((qan0 k x).2.2 ++ ([((qan0 k x).1).fFirst] : qan3))) (e := 23) 2 rfl ?_
 refine En.freeze [0] (by rfl) ?_
 refine En.ghost 2 (o1 (.pe (svR (.agg [LS intT (qan0 k x).2.1, LS (lsT intT) ((qan0 k x).2.2 ++ ([((qan0 k x).1).fFirst] : qan3))])) 2)) (by rfl) (pe_of (i := 0) (cells := [LS intT (qan0 k x).2.1, LS (lsT intT) ((qan0 k x).2.2 ++ ([((qan0 k x).1).fFirst] : qan3))]) (by rfl) (by rfl) (by rfl)) ?_
 refine En.seal (T := boolT) (l := (l4.set (((qan0 k x).2.1).length : Int).toNat ((qan0 k x).1).fEmpty)) (e := 4) 4 rfl ?_
 exact En.back ht ((RegularPlaces.mk (qan0 k x).2.1 ((qan0 k x).2.2 ++ ([((qan0 k x).1).fFirst] : qan3))), (l4.set (((qan0 k x).2.1).length : Int).toNat ((qan0 k x).1).fEmpty)) h (by kernel_rfl) rfl
theorem en73 : ∀ args w, (callFunc 73 args).run Try.prog w = .ok (.enter 73 args) w := enters_of Try.func73 (by kernel_rfl) rfl
def setsS : List Int → List Bool → Option (List Bool)
 | [], g => some g
 | a :: l, g => match idx g a with
  | none => none
  | some _ => setsS l (g.set a.toNat true)
def machS (k : Nat) (x : RTr) : Option (RegularPlaces × List Bool) := match lookS k x [] [] with
 | none => none
 | some r => if 1048576 < r.2.1.length ∨ 1048576 < r.2.2.length ∨ 1048576 < r.1.fLast.length then none else match setsS r.1.fLast (List.replicate (r.2.1.length + 1) false) with
  | none => none
  | some g => match idx g (r.2.1.length : Int) with
   | none => none
   | some _ => some (⟨r.2.1, r.2.2 ++ [r.1.fFirst]⟩, g.set r.2.1.length r.1.fEmpty)
def machR (k : Nat) (x : RTr) : RegularPlaces × List Bool := (machS k x).getD default
theorem rMach_ct (k : Nat) (x : RTr) (hp : (machS k x).isSome)  : Ct 73 [.sv (.one (.rd (trR rLab x)))] [] (fun (_ : Unit) => True) (fun _ => .tup [.one (.pe (svR (.agg [LS intT (machR k x).1.fLetters, LS (lsT intT) (machR k x).1.fNext])) 2), .one (LS boolT (machR k x).2)]) := by
 refine (rMach_walk k x (fun res_ => res_ = (machR k x)) ?_).fun
 obtain ⟨R, hR⟩ := Option.isSome_iff_exists.1 hp
 have hz : machR k x = R := by
  unfold machR
  rw [hR]
  rfl
 rw [hz]
 unfold machS at hR
 split at hR
 ·cases hR
 rename_i r hr
 split at hR
 ·cases hR
 rename_i hsz
 split at hR
 ·cases hR
 rename_i G hG
 split at hR
 ·cases hR
 rename_i b hb2
 cases hR
 have g2 : lookR k x [] [] = r := by
  unfold lookR
  rw [hr]
  rfl
 unfold rMach_vc
 rw [g2]
 have hw : wr ((r.2.1.length : Int) + 1) = ((r.2.1.length + 1 : Nat) : Int) := by
  rw [wr_in (by omega) (by omega)]
  rfl
 refine ⟨by rw [hr]; rfl, ?_⟩
 rw [hw]
 refine ⟨⟨by omega, Int.le_refl _, by omega⟩, fun i g => ∃ n : Nat, i = n ∧ n ≤ r.1.fLast.length ∧ setsS (r.1.fLast.drop n) g = some G, fun i _ => r.1.fLast.length - i.toNat, ⟨0, rfl, Nat.zero_le _, ?_⟩, ?_⟩
 ·rw [Int.toNat_natCast]
  exact hG
 rintro _ g ⟨n, rfl, hn, he⟩
 refine ⟨fun hb => ?_, fun hb => ?_⟩
 ·have hlt : n < r.1.fLast.length := by have := of_decide_eq_true hb; exact Int.ofNat_lt.1 this
  rw [List.drop_eq_getElem_cons hlt, setsS] at he
  split at he
  ·cases he
  rename_i y hy
  refine ⟨r.1.fLast[n], by simp [idx, hlt], y, hy, ⟨n + 1, wr_len (n := r.1.fLast.length) (by omega) hlt, hlt, he⟩, ?_⟩
  rw [wr_len (n := r.1.fLast.length) (by omega) hlt]
  show r.1.fLast.length - (n + 1) < r.1.fLast.length - n
  omega
 ·have hge : r.1.fLast.length ≤ n := by have := of_decide_eq_false hb; exact Nat.le_of_not_lt fun h => this (Int.ofNat_lt.2 h)
  rw [List.drop_eq_nil_of_le hge, setsS] at he
  cases he
  refine ⟨b, hb2, by show (r.2.2.length + 1) * 24 ≤ _; omega, ?_⟩
  rw [Int.toNat_natCast]
def fullS (text : ByteArray) : Option RTr := if 4000 < text.size then none else match pW text (text.size + 1) 0 0 with
 | none => none
 | some r => if r.2 < text.size then none else some r.1
def ParsedQ (text : ByteArray) (r : Option RTr × ApiFault) : Prop := match fullS text with
 | some t => r = (some t, ⟨0, 0⟩)
 | none => r.1 = none ∧ r.2.fCode ≠ 0
theorem rParsed_ct (text : ByteArray) : Ct 70 [.sv (.one (.v (.string text)))] [] (ParsedQ text) (fun (r : (Option (Tr RLab) × ApiFault)) => .tup [.one (.rd (optR rLab r.1)), .agg [I r.2.fCode, I r.2.fAt]]) := by
 refine rParsed_walk text (ParsedQ text) ?_
 unfold rParsed_vc ParsedQ fullS
 refine ⟨fun hb => ?_, fun hb => ⟨⟨?_, ⟨by decide, ?_, ?_⟩, by decide, by decide⟩, fun hN code at_ hc => ?_, fun r hr => ⟨fun hb2 => ⟨by decide, fun code at_ hc => ?_⟩, fun hb2 => ?_⟩⟩⟩
 ·have : 4000 < text.size := by have := of_decide_eq_true hb; omega
  rw [if_pos this]
  exact ⟨rfl, by show (1 : Int) ≠ 0; decide⟩
 ·have := of_decide_eq_false hb
  omega
 ·omega
 ·push_cast
  omega
 ·have : ¬ 4000 < text.size := by have := of_decide_eq_false hb; omega
  rw [if_neg this, hN]
  exact ⟨rfl, hc⟩
 ·have : ¬ 4000 < text.size := by have := of_decide_eq_false hb; omega
  have h2 : r.2 < text.size := of_decide_eq_true hb2
  rw [if_neg this, hr]
  simp only [if_pos h2]
  exact ⟨trivial, hc⟩
 ·have : ¬ 4000 < text.size := by have := of_decide_eq_false hb; omega
  have h2 : ¬ r.2 < text.size := of_decide_eq_false hb2
  rw [if_neg this, hr]
  simp only [if_neg h2]
def strIdx (f : Int → Bool) (truth : Bool) (s : ByteArray) : Nat → Nat → Int
 | 0, _ => -1
 | n + 1, q => if q < s.size then if (f (((Utf8.decode s q).1 : Nat) : Int) == truth) = true then (q : Int) else strIdx f truth s n (q + (Utf8.decode s q).2) else -1
def sIdxF_vc (s : ByteArray) (domf : (Int → Prop)) (f : (Int → Bool)) (truth : Bool) (Q : Int → Prop) : Prop :=
 ∃ (Inv : Nat → Prop) (mu : Nat → Nat), Inv 0 ∧
 ∀ (q0 : Nat) , Inv q0 → (IfP (decide (q0 < s.size)) ((domf (((Utf8.decode s q0).1 : Nat) : Int)) ∧
 IfP ((f (((Utf8.decode s q0).1 : Nat) : Int)) == truth) (Q ((q0 : Nat) : Int)) ((Inv (q0 + (Utf8.decode s q0).2) ∧ mu (q0 + (Utf8.decode s q0).2) < mu q0))) (Q (-1)))
theorem sIdxF_walk (s : ByteArray) (domf : (Int → Prop)) (f : (Int → Bool)) (truth : Bool) (Q : Int → Prop) (h : sIdxF_vc s domf f truth Q) : Ct 179 [.sv (.one (.v (.string s))), .sv (.one (.rd (fvR (fun (x : Int) => [.sv (.one (.v (.int .i32 x)))]) (fun (r : Bool) => .sv (.one (B r))) domf f))), .sv (.one (B truth))] [] Q (fun (r : Int) => .sv (.one (I r))) := by
 have ht := tab_ok
 refine Ct.body Try.func179 rfl rfl rfl rfl (fun c hn => ?_)
 unfold sIdxF_vc at h
 refine En.sr ?_
 refine WL.rn ht hn 1 ⟨[sl 0 (.v (.string s)), sl 1 (.rd (fvR (fun (x : Int) => [.sv (.one (.v (.int .i32 x)))]) (fun (r : Bool) => .sv (.one (B r))) domf f)), sl 2 (B truth)], []⟩ ?_
 refine En.seq ?_
 refine En.sr ?_
 refine WL.r ht hn 1 ⟨[sl 1 (.rd (fvR (fun (x : Int) => [.sv (.one (.v (.int .i32 x)))]) (fun (r : Bool) => .sv (.one (B r))) domf f)), sl 2 (B truth), sl 9 (.v (.string s))], []⟩ ?_
 refine WL.mt0 (K := []) (p := some (0, .siter s 0)) hn (by rfl) (mt_rangeS 0 rfl Try.underlying9 (by rfl)) (by rfl) (by rfl) (by rfl) ?_
 refine WL.nil ?_
 refine En.block ?_
 obtain ⟨Inv, mu, h0, hI⟩ := h
 refine En.loop (σ := Nat) (fun zz => Inv zz) (fun zz => mu zz) (fun zz => ⟨[sl 1 (.rd (fvR (fun (x : Int) => [.sv (.one (.v (.int .i32 x)))]) (fun (r : Bool) => .sv (.one (B r))) domf f)), sl 2 (B truth), sl 10 (.own 0)], [.siter s zz]⟩) 0 h0 (sub_ok (by kernel_rfl)) ?_
 intro q0 h
 replace h := hI _ h
 show En c ⟨[sl 1 (.rd (fvR (fun (x : Int) => [.sv (.one (.v (.int .i32 x)))]) (fun (r : Bool) => .sv (.one (B r))) domf f)), sl 2 (B truth), sl 10 (.own 0)], [.siter s q0]⟩ _
 refine En.sr ?_
 refine WL.nextS (r := 0) (s := s) (pos := q0) hn (by rfl) rfl (by rfl) (by rfl) (fun hl => ⟨_, by rfl, ?_⟩) (fun hl => ⟨_, by rfl, ?_⟩)
 replace h := h.2 hl
 refine WL.rn ht hn 1 ⟨[sl 1 (.rd (fvR (fun (x : Int) => [.sv (.one (.v (.int .i32 x)))]) (fun (r : Bool) => .sv (.one (B r))) domf f)), sl 2 (B truth), sl 10 (.own 0), (11, .tup [.one (B false)]), sl 12 (B false)], [.siter s q0]⟩ ?_
 refine En.seq ?_
 refine En.cd (b := false) (fun hb => ?_) (fun hb => ?_)
 cases hb
 refine En.exit rfl ?_
 refine En.sr ?_
 refine WL.rn ht hn 1 ⟨[sl 6 (I (-1))], [.gone]⟩ ?_
 exact En.rb ht (-1) h
 replace h := h.1 hl
 refine WL.rn ht hn 1 ⟨[sl 1 (.rd (fvR (fun (x : Int) => [.sv (.one (.v (.int .i32 x)))]) (fun (r : Bool) => .sv (.one (B r))) domf f)), sl 2 (B truth), sl 10 (.own 0), (11, .tup [.one (B true), .one (I ((q0 : Nat) : Int)), .one (.v (.int .i32 (((Utf8.decode s q0).1 : Nat) : Int)))]), sl 12 (B true)], [.siter s (q0 + (Utf8.decode s q0).2)]⟩ ?_
 refine En.seq ?_
 refine En.cd (b := true) (fun hb => ?_) (fun hb => ?_)
 refine En.skip ?_
 refine En.block ?_
 refine En.sr ?_
 refine WL.rn ht hn 4 ⟨[sl 1 (.rd (fvR (fun (x : Int) => [.sv (.one (.v (.int .i32 x)))]) (fun (r : Bool) => .sv (.one (B r))) domf f)), sl 2 (B truth), sl 7 (I ((q0 : Nat) : Int)), sl 8 (.v (.int .i32 (((Utf8.decode s q0).1 : Nat) : Int))), sl 10 (.own 0)], [.siter s (q0 + (Utf8.decode s q0).2)]⟩ ?_
 refine En.sr ?_
 refine WL.r ht hn 2 ⟨[sl 1 (.rd (fvR (fun (x : Int) => [.sv (.one (.v (.int .i32 x)))]) (fun (r : Bool) => .sv (.one (B r))) domf f)), sl 2 (B truth), sl 7 (I ((q0 : Nat) : Int)), sl 10 (.own 0), sl 15 (.rd (fvR (fun (x : Int) => [.sv (.one (.v (.int .i32 x)))]) (fun (r : Bool) => .sv (.one (B r))) domf f)), sl 16 (.v (.int .i32 (((Utf8.decode s q0).1 : Nat) : Int)))], [.siter s (q0 + (Utf8.decode s q0).2)]⟩ ?_
 obtain ⟨hp, h⟩ := h
 refine WL.m0 hn (mt_callv (((Utf8.decode s q0).1 : Nat) : Int) hp rfl (by rfl) (by rfl) (by rfl) (by rfl)) ?_
 refine WL.r ht hn 1 ⟨[sl 1 (.rd (fvR (fun (x : Int) => [.sv (.one (.v (.int .i32 x)))]) (fun (r : Bool) => .sv (.one (B r))) domf f)), sl 2 (B truth), sl 7 (I ((q0 : Nat) : Int)), sl 10 (.own 0), sl 17 (B (f (((Utf8.decode s q0).1 : Nat) : Int))), sl 18 (B truth)], [.siter s (q0 + (Utf8.decode s q0).2)]⟩ ?_
 refine WL.v hn (val_eqB (u := (f (((Utf8.decode s q0).1 : Nat) : Int))) (v := truth) rfl Try.underlying4 (by rfl) (by rfl) (.inl ⟨rfl, rfl⟩)) ?_
 refine WL.nil ?_
 refine En.ch h (fun h => ?_) (fun h => ?_)
 refine En.sr ?_
 refine WL.rn ht hn 2 ⟨[sl 6 (I ((q0 : Nat) : Int))], [.gone]⟩ ?_
 exact En.rb ht ((q0 : Nat) : Int) h
 refine En.skip ?_
 exact En.at (I := fun zz => Inv zz ∧ mu zz < mu q0) (T := fun zz => ⟨[sl 1 (.rd (fvR (fun (x : Int) => [.sv (.one (.v (.int .i32 x)))]) (fun (r : Bool) => .sv (.one (B r))) domf f)), sl 2 (B truth), sl 10 (.own 0)], [.siter s zz]⟩) (q0 + (Utf8.decode s q0).2) h (by kernel_rfl)
 cases hb
theorem en179 : ∀ args w, (callFunc 179 args).run Try.prog w = .ok (.enter 179 args) w := enters_of Try.func179 (by kernel_rfl) rfl
theorem sIdxF_ct (s : ByteArray) (domf : (Int → Prop)) (f : (Int → Bool)) (truth : Bool) (hd : ∀ x, domf x)  : Ct 179 [.sv (.one (.v (.string s))), .sv (.one (.rd (fvR (fun (x : Int) => [.sv (.one (.v (.int .i32 x)))]) (fun (r : Bool) => .sv (.one (B r))) domf f))), .sv (.one (B truth))] [] (fun (_ : Unit) => True) (fun _ => .sv (.one (I (strIdx f truth s (s.size + 1) 0)))) := by
 refine (sIdxF_walk s domf f truth (fun res_ => res_ = (strIdx f truth s (s.size + 1) 0)) ?_).fun
 unfold sIdxF_vc
 refine ⟨fun q => ∃ n : Nat, s.size < n + q ∧ strIdx f truth s n q = strIdx f truth s (s.size + 1) 0, fun q => s.size - q, ⟨s.size + 1, by omega, rfl⟩, ?_⟩
 rintro q ⟨n, hn, he⟩
 refine ⟨fun hb => ⟨hd _, ?_⟩, fun hb => ?_⟩
 ·have hlt : q < s.size := of_decide_eq_true hb
  have hw := dec_width s q hlt
  cases n with
  | zero => omega
  | succ n =>
   rw [strIdx, if_pos hlt] at he
   refine ⟨fun hb2 => ?_, fun hb2 => ⟨⟨n, by omega, ?_⟩, ?_⟩⟩
   ·rw [if_pos hb2] at he
    exact he
   ·rw [if_neg (by rw [hb2]; decide)] at he
    exact he
   ·show s.size - (q + _) < s.size - q
    omega
 ·have hge : ¬ q < s.size := of_decide_eq_false hb
  cases n with
  | zero => rw [strIdx] at he; exact he
  | succ n => rw [strIdx, if_neg hge] at he; exact he
def sIdx_vc (s : ByteArray) (domf : (Int → Prop)) (f : (Int → Bool)) (Q : Int → Prop) : Prop :=
 (∀ x_ : Int, domf x_) ∧
 Q (strIdx f true s ((s).size + 1) 0)
theorem sIdx_walk (s : ByteArray) (domf : (Int → Prop)) (f : (Int → Bool)) (Q : Int → Prop) (h : sIdx_vc s domf f Q) : Ct 125 [.sv (.one (.v (.string s))), .sv (.one (.rd (fvR (fun (x : Int) => [.sv (.one (.v (.int .i32 x)))]) (fun (r : Bool) => .sv (.one (B r))) domf f)))] [] Q (fun (r : Int) => .sv (.one (I r))) := by
 have ht := tab_ok
 refine Ct.body Try.func125 rfl rfl rfl rfl (fun c hn => ?_)
 unfold sIdx_vc at h
 refine En.sr ?_
 refine WL.rn ht hn 1 ⟨[sl 0 (.v (.string s)), sl 1 (.rd (fvR (fun (x : Int) => [.sv (.one (.v (.int .i32 x)))]) (fun (r : Bool) => .sv (.one (B r))) domf f))], []⟩ ?_
 refine En.sr ?_
 refine WL.r ht hn 2 ⟨[sl 5 (.v (.string s)), sl 6 (.rd (fvR (fun (x : Int) => [.sv (.one (.v (.int .i32 x)))]) (fun (r : Bool) => .sv (.one (B r))) domf f))], []⟩ ?_
 obtain ⟨hp, h⟩ := h
 refine WL.m0 hn (mt_c (sIdxF_ct s domf f true hp) en179 rfl) ?_
 refine WL.rn ht hn 1 ⟨[sl 4 (I (strIdx f true s ((s).size + 1) 0))], []⟩ ?_
 exact En.rb ht (strIdx f true s ((s).size + 1) 0) h
theorem en125 : ∀ args w, (callFunc 125 args).run Try.prog w = .ok (.enter 125 args) w := enters_of Try.func125 (by kernel_rfl) rfl
theorem sIdx_ct (s : ByteArray) (domf : (Int → Prop)) (f : (Int → Bool)) (hd : ∀ x, domf x)  : Ct 125 [.sv (.one (.v (.string s))), .sv (.one (.rd (fvR (fun (x : Int) => [.sv (.one (.v (.int .i32 x)))]) (fun (r : Bool) => .sv (.one (B r))) domf f)))] [] (fun (_ : Unit) => True) (fun _ => .sv (.one (I (strIdx f true s (s.size + 1) 0)))) := by
 refine (sIdx_walk s domf f (fun res_ => res_ = (strIdx f true s (s.size + 1) 0)) ?_).fun
 exact ⟨hd, rfl⟩
def sHas_vc (s : ByteArray) (domf : (Int → Prop)) (f : (Int → Bool)) (Q : Bool → Prop) : Prop :=
 (∀ x_ : Int, domf x_) ∧
 Q (decide ((strIdx f true s ((s).size + 1) 0) ≥ 0))
theorem sHas_walk (s : ByteArray) (domf : (Int → Prop)) (f : (Int → Bool)) (Q : Bool → Prop) (h : sHas_vc s domf f Q) : Ct 71 [.sv (.one (.v (.string s))), .sv (.one (.rd (fvR (fun (x : Int) => [.sv (.one (.v (.int .i32 x)))]) (fun (r : Bool) => .sv (.one (B r))) domf f)))] [] Q (fun (r : Bool) => .sv (.one (B r))) := by
 have ht := tab_ok
 refine Ct.body Try.func71 rfl rfl rfl rfl (fun c hn => ?_)
 unfold sHas_vc at h
 refine En.sr ?_
 refine WL.rn ht hn 1 ⟨[sl 0 (.v (.string s)), sl 1 (.rd (fvR (fun (x : Int) => [.sv (.one (.v (.int .i32 x)))]) (fun (r : Bool) => .sv (.one (B r))) domf f))], []⟩ ?_
 refine En.sr ?_
 refine WL.r ht hn 2 ⟨[sl 5 (.v (.string s)), sl 6 (.rd (fvR (fun (x : Int) => [.sv (.one (.v (.int .i32 x)))]) (fun (r : Bool) => .sv (.one (B r))) domf f))], []⟩ ?_
 obtain ⟨hp, h⟩ := h
 refine WL.m0 hn (mt_c (sIdx_ct s domf f hp) en125 rfl) ?_
 refine WL.rn ht hn 2 ⟨[sl 4 (B (decide ((strIdx f true s ((s).size + 1) 0) ≥ 0)))], []⟩ ?_
 exact En.rb ht (decide ((strIdx f true s ((s).size + 1) 0) ≥ 0)) h
theorem en71 : ∀ args w, (callFunc 71 args).run Try.prog w = .ok (.enter 71 args) w := enters_of Try.func71 (by kernel_rfl) rfl
theorem sHas_ct (s : ByteArray) (domf : (Int → Prop)) (f : (Int → Bool)) (hd : ∀ x, domf x)  : Ct 71 [.sv (.one (.v (.string s))), .sv (.one (.rd (fvR (fun (x : Int) => [.sv (.one (.v (.int .i32 x)))]) (fun (r : Bool) => .sv (.one (B r))) domf f)))] [] (fun (_ : Unit) => True) (fun _ => .sv (.one (B (decide (0 ≤ strIdx f true s (s.size + 1) 0))))) := by
 refine (sHas_walk s domf f (fun res_ => res_ = (decide (0 ≤ strIdx f true s (s.size + 1) 0))) ?_).fun
 exact ⟨hd, rfl⟩
def rgD1_vc (ch : Int) (m : Int) (Q : Bool → Prop) : Prop :=
 Q ((decide (ch ≥ (IntKind.wrap .i32 (97 + (IntKind.wrap .i32 m))))) && (decide (ch ≤ 100)))
noncomputable abbrev qap0 (ch : Int) (m : Int) := (decide (ch ≥ (IntKind.wrap .i32 (97 + (IntKind.wrap .i32 m)))))
theorem rgD1_walk (ch : Int) (m : Int) (Q : Bool → Prop) (h : rgD1_vc ch m Q) : Ct 72 [.sv (.one (.v (.int .i32 ch))), .sv (.one (.ptr 0 0))] [.box [I m] 3 true] Q (fun (r : Bool) => .sv (.one (B r))) := by
 have ht := tab_ok
 refine Ct.body Try.func72 rfl rfl rfl rfl (fun c hn => ?_)
 unfold rgD1_vc at h
 refine En.sr ?_
 refine WL.rn ht hn 1 ⟨[sl 0 (.v (.int .i32 ch)), sl 1 (.ptr 0 0)], [.box [I m] 3 true]⟩ ?_
 refine En.sr ?_
 refine WL.r ht hn 6 ⟨[sl 0 (.v (.int .i32 ch)), sl 9 (B (qap0 ch m))], [.gone]⟩ ?_
 refine WL.thru ⟨[sl 3 (B ((qap0 ch m) && (decide (ch ≤ 100))))], [.gone]⟩ ?_ ?_
 refine splitB (qap0 ch m) (fun hb0 => ?_) (fun hb0 => ?_)
 refine WL.sB 9 hb0 ?_
 refine WL.r ht hn 4 ⟨[sl 3 (B (decide (ch ≤ 100)))], [.gone]⟩ ?_
 exact WL.nil (sub_ok (by simp only [hb0]; kernel_rfl))
 refine WL.sB 9 hb0 ?_
 refine WL.r ht hn 4 ⟨[sl 3 (B false)], [.gone]⟩ ?_
 exact WL.nil (sub_ok (by simp only [hb0]; kernel_rfl))
 exact En.rb ht ((qap0 ch m) && (decide (ch ≤ 100))) h
theorem en72 : ∀ args w, (callFunc 72 args).run Try.prog w = .ok (.enter 72 args) w := enters_of Try.func72 (by kernel_rfl) rfl
def rgD2_vc (st : Int) (a : Int) (good : List Bool) (p : RegularPlaces) (Q : Int → Prop) : Prop :=
 ∃ (Inv : Int → Int → Prop) (mu : Int → Int → Nat), Inv 0 0 ∧
 ∀ (x7 : Int) (x13 : Int) , Inv x7 x13 → (IfP (decide (x13 < (good.length : Int))) (∃ J : Int → Prop, ((0 ≤ x13) ∧
 IfP ((bitsI .and .i64 (Int.fdiv st (2 ^ (min (x13).toNat 64))) 1) == 0) (J x7) (∃ e, idx p.fNext x13 = some e ∧
 ∃ (Inv_2 : Int → Int → Prop) (mu_2 : Int → Int → Nat), Inv_2 x7 0 ∧
 ∀ (x7_3 : Int) (x29 : Int) , Inv_2 x7_3 x29 → (IfP (decide (x29 < (e.length : Int))) (∃ J_2 : Int → Prop, (∃ e_2, idx e x29 = some e_2 ∧
 ∃ e_3, idx p.fLetters e_2 = some e_3 ∧
 IfP (e_3 == a) ((0 ≤ e_2) ∧
 J_2 (bitsI .or .i64 x7_3 (wr (1 * (2 ^ (min (e_2).toNat 64)))))) (J_2 x7_3)) ∧
 (∀ (x7_4 : Int), J_2 x7_4 → (Inv_2 x7_4 (wr (x29 + 1)) ∧ mu_2 x7_4 (wr (x29 + 1)) < mu_2 x7_3 x29))) (J x7_3)))) ∧
 (∀ (x7_2 : Int), J x7_2 → (Inv x7_2 (wr (x13 + 1)) ∧ mu x7_2 (wr (x13 + 1)) < mu x7 x13))) (Q x7))
noncomputable abbrev qar0 (p : RegularPlaces) := ([.gone, .box [.pe (svR (.agg [LS intT p.fLetters, LS (lsT intT) p.fNext])) 2] 147 true] : List Item)
noncomputable abbrev qar1 (good : List Bool) := sl 12 (I (good.length : Int))
noncomputable abbrev qar2 := sl 3 (.ptr 1 0)
noncomputable abbrev qar3 (y0) := sl 27 (LS intT y0)
noncomputable abbrev qar4 (p : RegularPlaces) := (svR (.agg [LS intT p.fLetters, LS (lsT intT) p.fNext]))
theorem rgD2_walk (st : Int) (a : Int) (good : List Bool) (p : RegularPlaces) (Q : Int → Prop) (h : rgD2_vc st a good p Q) : Ct 75 [.sv (.one (I st)), .sv (.one (I a)), .sv (.one (.ptr 0 0)), .sv (.one (.ptr 1 0))] [.box [LS boolT good] 91 true, .box [.pe (svR (.agg [LS intT p.fLetters, LS (lsT intT) p.fNext])) 2] 147 true] Q (fun (r : Int) => .sv (.one (I r))) := by
 have ht := tab_ok
 refine Ct.body Try.func75 rfl rfl rfl rfl (fun c hn => ?_)
 unfold rgD2_vc at h
 refine En.sr ?_
 refine WL.rn ht hn 1 ⟨[sl 0 (I st), sl 1 (I a), sl 2 (.ptr 0 0), qar2], [.box [LS boolT good] 91 true, .box [.pe (qar4 p) 2] 147 true]⟩ ?_
 refine En.sr ?_
 refine WL.rn ht hn 1 ⟨[sl 0 (I st), sl 1 (I a), sl 2 (.ptr 0 0), qar2, sl 7 (I 0)], [.box [LS boolT good] 91 true, .box [.pe (qar4 p) 2] 147 true]⟩ ?_
 refine En.seq ?_
 refine En.sr ?_
 refine WL.rn ht hn 3 ⟨[sl 0 (I st), sl 1 (I a), qar2, sl 7 (I 0), qar1 good, sl 13 (I 0)], (qar0 p)⟩ ?_
 refine En.block ?_
 obtain ⟨Inv, mu, h0_2, hI_2⟩ := h
 refine En.loop (σ := Int × Int) (fun zz => Inv zz.1 zz.2) (fun zz => mu zz.1 zz.2) (fun zz => ⟨[sl 0 (I st), sl 1 (I a), qar2, sl 7 (I zz.1), qar1 good, sl 13 (I zz.2)], (qar0 p)⟩) (0, 0) h0_2 (sub_ok (by kernel_rfl)) ?_
 rintro ⟨x7, x13⟩ h
 replace h := hI_2 _ _ h
 show En c ⟨[sl 0 (I st), sl 1 (I a), qar2, sl 7 (I x7), qar1 good, sl 13 (I x13)], (qar0 p)⟩ _
 refine En.sr ?_
 refine WL.rn ht hn 1 ⟨[sl 0 (I st), sl 1 (I a), qar2, sl 7 (I x7), qar1 good, sl 13 (I x13), sl 14 (B (decide (x13 < (good.length : Int))))], (qar0 p)⟩ ?_
 refine En.seq ?_
 refine En.ch h (fun h => ?_) (fun h => ?_)
 refine En.skip ?_
 obtain ⟨J, h, hJ⟩ := h
 refine En.seqJ (σ := Int) (fun zz => J zz) (fun zz => ⟨[sl 0 (I st), sl 1 (I a), qar2, sl 7 (I zz), qar1 good, sl 13 (I x13)], (qar0 p)⟩) ?_ ?_
 refine En.block ?_
 refine En.sr ?_
 refine WL.rn ht hn 2 ⟨[sl 0 (I st), sl 1 (I a), qar2, sl 7 (I x7), sl 8 (I x13), qar1 good, sl 13 (I x13)], (qar0 p)⟩ ?_
 refine En.seq ?_
 refine En.sr ?_
 refine WL.r ht hn 2 ⟨[sl 0 (I st), sl 1 (I a), qar2, sl 7 (I x7), sl 8 (I x13), qar1 good, sl 13 (I x13), sl 16 (I st), sl 17 (I x13)], (qar0 p)⟩ ?_
 have hz := h.1
 replace h := h.2
 refine WL.v hn (val_shift (u := st) (v := x13) rfl (by rfl) (by rfl) hz (.inr ⟨rfl, rfl⟩)) ?_
 refine WL.rn ht hn 2 ⟨[sl 0 (I st), sl 1 (I a), qar2, sl 7 (I x7), sl 8 (I x13), qar1 good, sl 13 (I x13), sl 20 (B ((bitsI .and .i64 (Int.fdiv st (2 ^ (min (x13).toNat 64))) 1) == 0))], (qar0 p)⟩ ?_
 refine En.ch h (fun h => ?_) (fun h => ?_)
 refine En.exit rfl ?_
 exact En.at (I := fun zz => J zz) (T := fun zz => ⟨[sl 0 (I st), sl 1 (I a), qar2, sl 7 (I zz), qar1 good, sl 13 (I x13)], (qar0 p)⟩) x7 h (by kernel_rfl)
 refine En.skip ?_
 refine En.sr ?_
 refine WL.r ht hn 2 ⟨[sl 0 (I st), sl 1 (I a), qar2, sl 7 (I x7), sl 8 (I x13), qar1 good, sl 13 (I x13), sl 22 (.pe (qar4 p) 2)], (qar0 p)⟩ ?_
 refine WL.v hn (val_fd (l := [LS intT p.fLetters, LS (lsT intT) p.fNext]) (r := .one (LS (lsT intT) p.fNext)) ht rfl) ?_
 refine WL.v hn (val_ld (s := .one (LS (lsT intT) p.fNext)) ht rfl) ?_
 refine WL.r ht hn 1 ⟨[sl 0 (I st), sl 1 (I a), qar2, sl 7 (I x7), qar1 good, sl 13 (I x13), sl 24 (LS (lsT intT) p.fNext), sl 25 (I x13)], (qar0 p)⟩ ?_
 obtain ⟨e, he, h⟩ := h
 refine WL.v hn (val_ix (T := (lsT intT)) (l := p.fNext) (i := x13) ht rfl he) ?_
 refine WL.v hn (val_ld (s := .one (LS intT e)) ht rfl) ?_
 refine WL.rn ht hn 2 ⟨[sl 0 (I st), sl 1 (I a), qar2, sl 7 (I x7), qar1 good, sl 13 (I x13), qar3 e, sl 28 (I (e.length : Int)), sl 29 (I 0)], (qar0 p)⟩ ?_
 refine En.block ?_
 obtain ⟨Inv_2, mu_2, h0, hI⟩ := h
 refine En.loop (σ := Int × Int) (fun zz => Inv_2 zz.1 zz.2) (fun zz => mu_2 zz.1 zz.2) (fun zz => ⟨[sl 0 (I st), sl 1 (I a), qar2, sl 7 (I zz.1), qar1 good, sl 13 (I x13), qar3 e, sl 28 (I (e.length : Int)), sl 29 (I zz.2)], (qar0 p)⟩) (x7, 0) h0 (sub_ok (by kernel_rfl)) ?_
 rintro ⟨x7_3, x29⟩ h
 replace h := hI _ _ h
 show En c ⟨[sl 0 (I st), sl 1 (I a), qar2, sl 7 (I x7_3), qar1 good, sl 13 (I x13), qar3 e, sl 28 (I (e.length : Int)), sl 29 (I x29)], (qar0 p)⟩ _
 refine En.sr ?_
 refine WL.rn ht hn 1 ⟨[sl 0 (I st), sl 1 (I a), qar2, sl 7 (I x7_3), qar1 good, sl 13 (I x13), qar3 e, sl 28 (I (e.length : Int)), sl 29 (I x29), sl 30 (B (decide (x29 < (e.length : Int))))], (qar0 p)⟩ ?_
 refine En.seq ?_
 refine En.ch h (fun h => ?_) (fun h => ?_)
 refine En.skip ?_
 obtain ⟨J_2, h, hJ_2⟩ := h
 refine En.seqJ (σ := Int) (fun zz => J_2 zz) (fun zz => ⟨[sl 0 (I st), sl 1 (I a), qar2, sl 7 (I zz), qar1 good, sl 13 (I x13), qar3 e, sl 28 (I (e.length : Int)), sl 29 (I x29)], (qar0 p)⟩) ?_ ?_
 refine En.block ?_
 refine En.sr ?_
 obtain ⟨e_2, he_2, h⟩ := h
 refine WL.v hn (val_ix (T := intT) (l := e) (i := x29) ht rfl he_2) ?_
 refine WL.v hn (val_ld (s := .one (I e_2)) ht rfl) ?_
 refine WL.rn ht hn 1 ⟨[sl 0 (I st), sl 1 (I a), qar2, sl 7 (I x7_3), sl 10 (I e_2), qar1 good, sl 13 (I x13), qar3 e, sl 28 (I (e.length : Int)), sl 29 (I x29)], (qar0 p)⟩ ?_
 refine En.sr ?_
 refine WL.r ht hn 2 ⟨[sl 0 (I st), sl 1 (I a), qar2, sl 7 (I x7_3), sl 10 (I e_2), qar1 good, sl 13 (I x13), qar3 e, sl 28 (I (e.length : Int)), sl 29 (I x29), sl 34 (.pe (qar4 p) 2)], (qar0 p)⟩ ?_
 refine WL.v hn (val_fd (l := [LS intT p.fLetters, LS (lsT intT) p.fNext]) (r := .one (LS intT p.fLetters)) ht rfl) ?_
 refine WL.v hn (val_ld (s := .one (LS intT p.fLetters)) ht rfl) ?_
 refine WL.r ht hn 1 ⟨[sl 0 (I st), sl 1 (I a), qar2, sl 7 (I x7_3), sl 10 (I e_2), qar1 good, sl 13 (I x13), qar3 e, sl 28 (I (e.length : Int)), sl 29 (I x29), sl 36 (LS intT p.fLetters), sl 37 (I e_2)], (qar0 p)⟩ ?_
 obtain ⟨e_3, he_3, h⟩ := h
 refine WL.v hn (val_ix (T := intT) (l := p.fLetters) (i := e_2) ht rfl he_3) ?_
 refine WL.v hn (val_ld (s := .one (I e_3)) ht rfl) ?_
 refine WL.rn ht hn 2 ⟨[sl 0 (I st), sl 1 (I a), qar2, sl 7 (I x7_3), sl 10 (I e_2), qar1 good, sl 13 (I x13), qar3 e, sl 28 (I (e.length : Int)), sl 29 (I x29), sl 41 (B (e_3 == a))], (qar0 p)⟩ ?_
 refine En.ch h (fun h => ?_) (fun h => ?_)
 refine En.region ?_
 refine WL.r ht hn 2 ⟨[sl 0 (I st), sl 1 (I a), qar2, qar1 good, sl 13 (I x13), qar3 e, sl 28 (I (e.length : Int)), sl 29 (I x29), sl 42 (I x7_3), sl 43 (I e_2)], (qar0 p)⟩ ?_
 have hz_2 := h.1
 replace h := h.2
 refine WL.v hn (val_shift (u := 1) (v := e_2) rfl (by rfl) (by rfl) hz_2 (.inl ⟨rfl, rfl⟩)) ?_
 refine WL.rn ht hn 2 ⟨[sl 0 (I st), sl 1 (I a), qar2, sl 7 (I (bitsI .or .i64 x7_3 (wr (1 * (2 ^ (min (e_2).toNat 64)))))), qar1 good, sl 13 (I x13), qar3 e, sl 28 (I (e.length : Int)), sl 29 (I x29)], (qar0 p)⟩ ?_
 exact En.at (I := fun zz => J_2 zz) (T := fun zz => ⟨[sl 0 (I st), sl 1 (I a), qar2, sl 7 (I zz), qar1 good, sl 13 (I x13), qar3 e, sl 28 (I (e.length : Int)), sl 29 (I x29)], (qar0 p)⟩) (bitsI .or .i64 x7_3 (wr (1 * (2 ^ (min (e_2).toNat 64))))) h (by kernel_rfl)
 refine En.skip ?_
 exact En.at (I := fun zz => J_2 zz) (T := fun zz => ⟨[sl 0 (I st), sl 1 (I a), qar2, sl 7 (I zz), qar1 good, sl 13 (I x13), qar3 e, sl 28 (I (e.length : Int)), sl 29 (I x29)], (qar0 p)⟩) x7_3 h (by kernel_rfl)
 intro x7_4 h
 replace h := hJ_2 _ h
 show En c ⟨[sl 0 (I st), sl 1 (I a), qar2, sl 7 (I x7_4), qar1 good, sl 13 (I x13), qar3 e, sl 28 (I (e.length : Int)), sl 29 (I x29)], (qar0 p)⟩ _
 refine En.region ?_
 refine WL.rn ht hn 2 ⟨[sl 0 (I st), sl 1 (I a), qar2, sl 7 (I x7_4), qar1 good, sl 13 (I x13), qar3 e, sl 28 (I (e.length : Int)), sl 29 (I (wr (x29 + 1)))], (qar0 p)⟩ ?_
 exact En.at (I := fun zz => Inv_2 zz.1 zz.2 ∧ mu_2 zz.1 zz.2 < mu_2 x7_3 x29) (T := fun zz => ⟨[sl 0 (I st), sl 1 (I a), qar2, sl 7 (I zz.1), qar1 good, sl 13 (I x13), qar3 e, sl 28 (I (e.length : Int)), sl 29 (I zz.2)], (qar0 p)⟩) (x7_4, (wr (x29 + 1))) h (by kernel_rfl)
 refine En.exit rfl ?_
 exact En.at (I := fun zz => J zz) (T := fun zz => ⟨[sl 0 (I st), sl 1 (I a), qar2, sl 7 (I zz), qar1 good, sl 13 (I x13)], (qar0 p)⟩) x7_3 h (by kernel_rfl)
 intro x7_2 h
 replace h := hJ _ h
 show En c ⟨[sl 0 (I st), sl 1 (I a), qar2, sl 7 (I x7_2), qar1 good, sl 13 (I x13)], (qar0 p)⟩ _
 refine En.region ?_
 refine WL.rn ht hn 2 ⟨[sl 0 (I st), sl 1 (I a), qar2, sl 7 (I x7_2), qar1 good, sl 13 (I (wr (x13 + 1)))], (qar0 p)⟩ ?_
 exact En.at (I := fun zz => Inv zz.1 zz.2 ∧ mu zz.1 zz.2 < mu x7 x13) (T := fun zz => ⟨[sl 0 (I st), sl 1 (I a), qar2, sl 7 (I zz.1), qar1 good, sl 13 (I zz.2)], (qar0 p)⟩) (x7_2, (wr (x13 + 1))) h (by kernel_rfl)
 refine En.exit rfl ?_
 refine En.sr ?_
 refine WL.rn ht hn 2 ⟨[sl 6 (I x7)], [.gone, .gone]⟩ ?_
 exact En.rb ht x7 h
theorem en75 : ∀ args w, (callFunc 75 args).run Try.prog w = .ok (.enter 75 args) w := enters_of Try.func75 (by kernel_rfl) rfl
def rgD3_vc (st : Int) (last : Int) (Q : Int → Prop) : Prop :=
 IfP ((bitsI .and .i64 st last) != 0) (Q 1) (Q 0)
theorem rgD3_walk (st : Int) (last : Int) (Q : Int → Prop) (h : rgD3_vc st last Q) : Ct 76 [.sv (.one (I st)), .sv (.one (.ptr 0 0))] [.box [I last] 3 true] Q (fun (r : Int) => .sv (.one (I r))) := by
 have ht := tab_ok
 refine Ct.body Try.func76 rfl rfl rfl rfl (fun c hn => ?_)
 unfold rgD3_vc at h
 refine En.sr ?_
 refine WL.rn ht hn 1 ⟨[sl 0 (I st), sl 1 (.ptr 0 0)], [.box [I last] 3 true]⟩ ?_
 refine En.seq ?_
 refine En.sr ?_
 refine WL.rn ht hn 4 ⟨[sl 7 (B ((bitsI .and .i64 st last) != 0))], [.gone]⟩ ?_
 refine En.ch h (fun h => ?_) (fun h => ?_)
 refine En.sr ?_
 refine WL.rn ht hn 1 ⟨[sl 3 (I 1)], [.gone]⟩ ?_
 exact En.rb ht 1 h
 refine En.skip ?_
 refine En.sr ?_
 refine WL.rn ht hn 1 ⟨[sl 3 (I 0)], [.gone]⟩ ?_
 exact En.rb ht 0 h
theorem en76 : ∀ args w, (callFunc 76 args).run Try.prog w = .ok (.enter 76 args) w := enters_of Try.func76 (by kernel_rfl) rfl
def d1R (m ch : Int) : Bool := (decide (ch ≥ (IntKind.wrap .i32 (97 + (IntKind.wrap .i32 m))))) && (decide (ch ≤ 100))
def gone1 (p : RegularPlaces) (a : Int) : List Int → Int → Option Int
 | [], tt => some tt
 | n :: l, tt => match idx p.fLetters n with
  | none => none
  | some b => if (b == a) = true then gone1 p a l (bitsI .or .i64 tt (wr (1 * (2 ^ (min n.toNat 64))))) else gone1 p a l tt
def gone2 (p : RegularPlaces) (st a : Int) : Nat → Nat → Int → Option Int
 | 0, _, tt => some tt
 | m + 1, x, tt => if ((bitsI .and .i64 (Int.fdiv st (2 ^ (min ((x : Int)).toNat 64))) 1) == 0) = true then gone2 p st a m (x + 1) tt
  else match idx p.fNext (x : Int) with
   | none => none
   | some e => if 4611686018427387904 < e.length then none else match gone1 p a e tt with
    | none => none
    | some t => gone2 p st a m (x + 1) t
def goS (good : List Bool) (p : RegularPlaces) (st a : Int) : Option Int := if 1048576 < good.length then none else gone2 p st a good.length 0 0
def goR (good : List Bool) (p : RegularPlaces) (st a : Int) : Int := (goS good p st a).getD 0
def goDom (good : List Bool) (p : RegularPlaces) (st a : Int) : Prop := (goS good p st a).isSome
def mkR (last st : Int) : Int := if ((bitsI .and .i64 st last) != 0) = true then 1 else 0
theorem rgD1_ct (ch : Int) (m : Int)  : Ct 72 [.sv (.one (.v (.int .i32 ch))), .sv (.one (.ptr 0 0))] [.box [I m] 3 true] (fun (_ : Unit) => True) (fun _ => .sv (.one (B (d1R m ch)))) := by
 refine (rgD1_walk ch m (fun res_ => res_ = (d1R m ch)) ?_).fun
 rfl
theorem rgD2_ct (st : Int) (a : Int) (good : List Bool) (p : RegularPlaces) (hd : goDom good p st a)  : Ct 75 [.sv (.one (I st)), .sv (.one (I a)), .sv (.one (.ptr 0 0)), .sv (.one (.ptr 1 0))] [.box [LS boolT good] 91 true, .box [.pe (svR (.agg [LS intT p.fLetters, LS (lsT intT) p.fNext])) 2] 147 true] (fun (_ : Unit) => True) (fun _ => .sv (.one (I (goR good p st a)))) := by
 refine (rgD2_walk st a good p (fun res_ => res_ = (goR good p st a)) ?_).fun
 obtain ⟨R, hR⟩ := Option.isSome_iff_exists.1 hd
 have hz : goR good p st a = R := by
  unfold goR
  rw [hR]
  rfl
 rw [hz]
 unfold goS at hR
 split at hR
 ·cases hR
 rename_i hlen
 unfold rgD2_vc
 refine ⟨fun tt x => ∃ n : Nat, x = n ∧ n ≤ good.length ∧ gone2 p st a (good.length - n) n tt = some R, fun _ x => good.length - x.toNat, ⟨0, rfl, Nat.zero_le _, hR⟩, ?_⟩
 rintro tt _ ⟨n, rfl, hn, he⟩
 refine ⟨fun hb => ?_, fun hb => ?_⟩
 ·have hlt : n < good.length := by have := of_decide_eq_true hb; exact Int.ofNat_lt.1 this
  obtain ⟨m, hm⟩ : ∃ m, good.length - n = m + 1 := ⟨good.length - n - 1, by omega⟩
  have hm2 : good.length - (n + 1) = m := by omega
  rw [hm, gone2] at he
  refine ⟨fun t => gone2 p st a m (n + 1) t = some R, ⟨Int.natCast_nonneg n, fun hb2 => ?_, fun hb2 => ?_⟩, fun t ht => ⟨⟨n + 1, wr_len (n := good.length) (by omega) hlt, hlt, by rw [hm2]; exact ht⟩, ?_⟩⟩
  ·rw [if_pos hb2] at he
   exact he
  ·rw [if_neg (by rw [hb2]; decide)] at he
   split at he
   ·cases he
   rename_i e hx
   split at he
   ·cases he
   rename_i hel
   split at he
   ·cases he
   rename_i t ht
   refine ⟨e, hx, fun to2 x => ∃ i : Nat, x = i ∧ i ≤ e.length ∧ gone1 p a (e.drop i) to2 = some t, fun _ x => e.length - x.toNat, ⟨0, rfl, Nat.zero_le _, ht⟩, ?_⟩
   rintro to2 _ ⟨i, rfl, hi, hg⟩
   refine ⟨fun hb3 => ?_, fun hb3 => ?_⟩
   ·have hlt2 : i < e.length := by have := of_decide_eq_true hb3; exact Int.ofNat_lt.1 this
    rw [List.drop_eq_getElem_cons hlt2, gone1] at hg
    split at hg
    ·cases hg
    rename_i b hbx
    refine ⟨fun t2 => gone1 p a (e.drop (i + 1)) t2 = some t, ⟨e[i], by simp [idx, hlt2], b, hbx, fun hb4 => ⟨(idx_some hbx).1, ?_⟩, fun hb4 => ?_⟩, fun t2 h2 => ⟨⟨i + 1, wr_len (n := e.length) (by omega) hlt2, hlt2, h2⟩, ?_⟩⟩
    ·rw [if_pos hb4] at hg
     exact hg
    ·rw [if_neg (by rw [hb4]; decide)] at hg
     exact hg
    ·rw [wr_len (n := e.length) (by omega) hlt2]
     show e.length - (i + 1) < e.length - i
     omega
   ·have hge : e.length ≤ i := by have := of_decide_eq_false hb3; exact Nat.le_of_not_lt fun h => this (Int.ofNat_lt.2 h)
    rw [List.drop_eq_nil_of_le hge, gone1] at hg
    cases hg
    exact he
  ·rw [wr_len (n := good.length) (by omega) hlt]
   show good.length - (n + 1) < good.length - n
   omega
 ·have hge : good.length - n = 0 := by have := of_decide_eq_false hb; have : ¬ n < good.length := fun h => this (Int.ofNat_lt.2 h); omega
  rw [hge, gone2] at he
  cases he
  rfl
theorem rgD3_ct (st : Int) (last : Int)  : Ct 76 [.sv (.one (I st)), .sv (.one (.ptr 0 0))] [.box [I last] 3 true] (fun (_ : Unit) => True) (fun _ => .sv (.one (I (mkR last st)))) := by
 refine (rgD3_walk st last (fun res_ => res_ = (mkR last st)) ?_).fun
 unfold rgD3_vc mkR
 exact ⟨fun hb => by rw [if_pos hb], fun hb => by rw [if_neg (by rw [hb]; decide)]⟩
def rDet_vc (fu : Nat) (letters : Int) (text : ByteArray) (Q : (ApiDet × Int) → Prop) : Prop :=
 ∀ r : (Option RTr × ApiFault), (ParsedQ text) r →
 (IfP (r.2.fCode != 0) (Q ((ApiDet.mk 0 0 [] []), 4)) (∃ J : Bool → Prop, (IfP (decide (letters < 1)) (J true) (IfP (decide (letters > 4)) (J true) ((∀ x_ : Int, (fun _ => True) x_) ∧
 J (decide (0 ≤ strIdx (fun (x : Int) => d1R letters x) true text ((text).size + 1) 0))))) ∧
 (∀ (x34 : Bool), J x34 → IfP x34 (Q ((ApiDet.mk 0 0 [] []), 2)) (∃ t, r.1 = some t ∧
 ((machS fu t).isSome) ∧
 IfP (decide (((machR fu t).1.fLetters.length : Int) > 10)) (Q ((ApiDet.mk 0 0 [] []), 7)) (∃ (Inv : Int → Int → Prop) (mu : Int → Int → Nat), Inv 0 0 ∧
 ∀ (x50 : Int) (y5 : Int) , Inv x50 y5 → (IfP (decide (x50 < ((machR fu t).2.length : Int))) (∃ J_2 : Int → Prop, (∃ e, idx (machR fu t).2 x50 = some e ∧
 IfP e ((0 ≤ x50) ∧
 J_2 (bitsI .or .i64 y5 (wr (1 * (2 ^ (min (x50).toNat 64)))))) (J_2 y5)) ∧
 (∀ (y5_2 : Int), J_2 y5_2 → (Inv (wr (x50 + 1)) y5_2 ∧ mu (wr (x50 + 1)) y5_2 < mu x50 y5))) ((0 ≤ ((machR fu t).1.fLetters.length : Int)) ∧
 (ExplPre letters (wr (1 * (2 ^ (min (((machR fu t).1.fLetters.length : Int)).toNat 64)))) (fun (x : Int × Int) => goDom (machR fu t).2 (machR fu t).1 x.1 x.2) (fun (x : Int × Int) => goR (machR fu t).2 (machR fu t).1 x.1 x.2) (fun _ => True) 3000) ∧
 (ClsOk (explR (fun k (a : Nat) => (fun (x : Int × Int) => goR (machR fu t).2 (machR fu t).1 x.1 x.2) (k, (a : Int))) (fun (x : Int) => mkR y5 x) (letters).toNat (wr (1 * (2 ^ (min (((machR fu t).1.fLetters.length : Int)).toNat 64)))) 3000).1) ∧
 Q ((canon ((explR (fun k (a : Nat) => (fun (x : Int × Int) => goR (machR fu t).2 (machR fu t).1 x.1 x.2) (k, (a : Int))) (fun (x : Int) => mkR y5 x) (letters).toNat (wr (1 * (2 ^ (min (((machR fu t).1.fLetters.length : Int)).toNat 64)))) 3000).1).fLetters.toNat (langD (explR (fun k (a : Nat) => (fun (x : Int × Int) => goR (machR fu t).2 (machR fu t).1 x.1 x.2) (k, (a : Int))) (fun (x : Int) => mkR y5 x) (letters).toNat (wr (1 * (2 ^ (min (((machR fu t).1.fLetters.length : Int)).toNat 64)))) 3000).1 ((explR (fun k (a : Nat) => (fun (x : Int × Int) => goR (machR fu t).2 (machR fu t).1 x.1 x.2) (k, (a : Int))) (fun (x : Int) => mkR y5 x) (letters).toNat (wr (1 * (2 ^ (min (((machR fu t).1.fLetters.length : Int)).toNat 64)))) 3000).1).fStart.toNat)), 0))))))))
noncomputable abbrev qas0 := (.box [I 0, I 0, .v (.slice none 0 0), .v (.slice none 0 0)] 25 false : Item)
noncomputable abbrev qas1 (fu : Nat) (y0) := (.box [.pe (svR (.agg [LS intT (machR fu y0).1.fLetters, LS (lsT intT) (machR fu y0).1.fNext])) 2] 147 false : Item)
noncomputable abbrev qas2 (fu : Nat) (y0) (y1) := ([sl 2 (.ptr 0 0), sl 4 (.ptr 1 0), sl 8 (.ptr 3 0), sl 9 (.ptr 4 0), sl 10 (.ptr 5 0), sl 48 (LS boolT (machR fu y0).2), sl 49 (I ((machR fu y0).2.length : Int)), sl 50 (I y1)] : List (Nat × SC))
noncomputable abbrev qas3 (y0) := (fun (x : Int) => mkR y0 x)
noncomputable abbrev qas4 (fu : Nat) (y0) := (.box [LS boolT (machR fu y0).2] 91 false : Item)
noncomputable abbrev qas5 (letters : Int) := (.box [I letters] 3 false : Item)
noncomputable abbrev qas6 := sl 4 (.ptr 1 0)
noncomputable abbrev qas7 := sl 2 (.ptr 0 0)
noncomputable abbrev qas8 (fu : Nat) (y0) := sl 49 (I ((machR fu y0).2.length : Int))
noncomputable abbrev qas9 (fu : Nat) (y0) := (.box [.pe (svR (.agg [LS intT (machR fu y0).1.fLetters, LS (lsT intT) (machR fu y0).1.fNext])) 2] 147 true : Item)
noncomputable abbrev qas10 (y0 : Int) (y1 : Int) := (bitsI .or .i64 y0 (wr (1 * (2 ^ (min (y1).toNat 64)))))
noncomputable abbrev qas11 (fu : Nat) (y0) := sl 48 (LS boolT (machR fu y0).2)
noncomputable abbrev qas12 := sl 8 (.ptr 3 0)
noncomputable abbrev qas13 := sl 10 (.ptr 5 0)
noncomputable abbrev qas14 := sl 9 (.ptr 4 0)
theorem rDet_walk (fu : Nat) (letters : Int) (text : ByteArray) (Q : (ApiDet × Int) → Prop) (h : rDet_vc fu letters text Q) : Ct 30 [.sv (.one (I letters)), .sv (.one (.v (.string text)))] [] Q (fun (r : (ApiDet × Int)) => .tup [.agg [I r.1.fLetters, I r.1.fStart, LS (lsT intT) r.1.fNext, LS intT r.1.fMark], .one (I r.2)]) := by
 have ht := tab_ok
 refine Ct.body Try.func30 rfl rfl rfl rfl (fun c hn => ?_)
 unfold rDet_vc at h
 refine En.sr ?_
 refine WL.rn ht hn 3 ⟨[sl 1 (.v (.string text)), qas7, qas6], [qas5 letters, qas0]⟩ ?_
 refine En.sr ?_
 refine WL.r ht hn 1 ⟨[sl 1 (.v (.string text)), qas7, qas6, sl 16 (.v (.string text))], [qas5 letters, qas0]⟩ ?_
 refine WL.mtQ (Q := ParsedQ text) (x := fun (r : (Option RTr × ApiFault)) => .tup [.one (.rd (optR rLab r.1)), .agg [I r.2.fCode, I r.2.fAt]]) (p := fun _ => none) hn (by rfl) (mtq_call (rParsed_ct text) en70 (caps := []) [] rfl (by rfl) (by kernel_rfl) (by kernel_rfl) (by rfl) (fun _ => rfl) (by rfl)) (fun r hr_2 => ⟨by rfl, _, by rfl, ?_⟩)
 replace h := h r hr_2
 refine WL.rn ht hn 6 ⟨[sl 1 (.v (.string text)), qas7, qas6, sl 6 (.rd (optR rLab r.1)), sl 7 (.ptr 2 0)], [qas5 letters, qas0, .box [I r.2.fCode, I r.2.fAt] 52 false]⟩ ?_
 refine En.seq ?_
 refine En.sr ?_
 refine WL.rn ht hn 3 ⟨[sl 1 (.v (.string text)), qas7, qas6, sl 6 (.rd (optR rLab r.1)), sl 22 (B (r.2.fCode != 0))], [qas5 letters, qas0, .gone]⟩ ?_
 refine En.ch h (fun h => ?_) (fun h => ?_)
 refine En.sr ?_
 refine WL.rn ht hn 3 ⟨[qas6, sl 5 (I 4)], [.gone, qas0, .gone]⟩ ?_
 refine En.ret ?_
 refine En.nilBox (T := (lsT intT)) 1 2 (by rfl) (by rfl) ?_
 refine En.nilBox (T := intT) 1 3 (by rfl) (by rfl) ?_
 exact En.back ht ((ApiDet.mk 0 0 [] []), 4) h (by kernel_rfl) rfl
 refine En.skip ?_
 refine En.seq ?_
 obtain ⟨J, h, hJ⟩ := h
 refine En.seqJ (σ := Bool) (fun zz => J zz) (fun zz => ⟨[qas7, qas6, sl 6 (.rd (optR rLab r.1)), sl 34 (B zz)], [qas5 letters, qas0, .gone]⟩) ?_ ?_
 refine En.region ?_
 refine WL.r ht hn 3 ⟨[sl 1 (.v (.string text)), qas7, qas6, sl 6 (.rd (optR rLab r.1)), sl 26 (B (decide (letters < 1)))], [qas5 letters, qas0, .gone]⟩ ?_
 refine splitB (decide (letters < 1)) (fun hb => ?_) (fun hb => ?_)
 replace h := h.1 hb
 refine WL.sB 26 hb ?_
 refine WL.rn ht hn 8 ⟨[qas7, qas6, sl 6 (.rd (optR rLab r.1)), sl 34 (B true)], [qas5 letters, qas0, .gone]⟩ ?_
 exact En.at (I := fun zz => J zz) (T := fun zz => ⟨[qas7, qas6, sl 6 (.rd (optR rLab r.1)), sl 34 (B zz)], [qas5 letters, qas0, .gone]⟩) true h (by kernel_rfl)
 replace h := h.2 hb
 refine WL.sB 26 hb ?_
 refine WL.r ht hn 4 ⟨[sl 1 (.v (.string text)), qas7, qas6, sl 6 (.rd (optR rLab r.1)), sl 30 (B (decide (letters > 4)))], [qas5 letters, qas0, .gone]⟩ ?_
 refine splitB (decide (letters > 4)) (fun hb => ?_) (fun hb => ?_)
 replace h := h.1 hb
 refine WL.sB 30 hb ?_
 refine WL.rn ht hn 4 ⟨[qas7, qas6, sl 6 (.rd (optR rLab r.1)), sl 34 (B true)], [qas5 letters, qas0, .gone]⟩ ?_
 exact En.at (I := fun zz => J zz) (T := fun zz => ⟨[qas7, qas6, sl 6 (.rd (optR rLab r.1)), sl 34 (B zz)], [qas5 letters, qas0, .gone]⟩) true h (by kernel_rfl)
 replace h := h.2 hb
 refine WL.sB 30 hb ?_
 refine WL.r ht hn 2 ⟨[qas7, qas6, sl 6 (.rd (optR rLab r.1)), sl 30 (B false), sl 31 (.v (.string text)), sl 32 (.fn 72 [0])], [qas5 letters, qas0, .gone]⟩ ?_
 obtain ⟨hp, h⟩ := h
 refine WL.m0 hn (mt_lendF [0] (by rfl) (by rfl) (mt_ghost 32 (o1 (.rd (fvR (fun (x_ : Int) => [.sv (.one (.v (.int .i32 x_)))]) (fun (r : Bool) => .sv (.one (B r))) (fun _ => True) (fun (x : Int) => d1R letters x)))) (by rfl) (fv_of (M := [.box [I letters] 3 true]) (caps := [0]) (fun x_ _ => rgD1_ct x_ letters) en72 rfl (by kernel_rfl) (by rfl) (fun _ => rfl)) (mt_c (sHas_ct text (fun _ => True) (fun (x : Int) => d1R letters x) hp) en71 rfl))) ?_
 refine WL.rn ht hn 1 ⟨[qas7, qas6, sl 6 (.rd (optR rLab r.1)), sl 34 (B (decide (0 ≤ strIdx (fun (x : Int) => d1R letters x) true text ((text).size + 1) 0)))], [qas5 letters, qas0, .gone]⟩ ?_
 exact En.at (I := fun zz => J zz) (T := fun zz => ⟨[qas7, qas6, sl 6 (.rd (optR rLab r.1)), sl 34 (B zz)], [qas5 letters, qas0, .gone]⟩) (decide (0 ≤ strIdx (fun (x : Int) => d1R letters x) true text ((text).size + 1) 0)) h (by kernel_rfl)
 intro x34 h
 replace h := hJ _ h
 show En c ⟨[qas7, qas6, sl 6 (.rd (optR rLab r.1)), sl 34 (B x34)], [qas5 letters, qas0, .gone]⟩ _
 refine En.ch h (fun h => ?_) (fun h => ?_)
 refine En.sr ?_
 refine WL.rn ht hn 3 ⟨[qas6, sl 5 (I 2)], [.gone, qas0, .gone]⟩ ?_
 refine En.ret ?_
 refine En.nilBox (T := (lsT intT)) 1 2 (by rfl) (by rfl) ?_
 refine En.nilBox (T := intT) 1 3 (by rfl) (by rfl) ?_
 exact En.back ht ((ApiDet.mk 0 0 [] []), 2) h (by kernel_rfl) rfl
 refine En.skip ?_
 refine En.sr ?_
 refine WL.r ht hn 1 ⟨[qas7, qas6, sl 37 (.rd (optR rLab r.1))], [qas5 letters, qas0, .gone]⟩ ?_
 obtain ⟨t, ht_2, h⟩ := h
 refine WL.ghost 37 (o1 (.rd (trR rLab t))) (by rfl) (some_of ht_2) ?_
 obtain ⟨hp, h⟩ := h
 refine WL.m0 hn (mt_c (rMach_ct fu t hp) en73 rfl) ?_
 refine WL.rn ht hn 7 ⟨[qas7, qas6, qas12, qas14], [qas5 letters, qas0, .gone, qas1 fu t, qas4 fu t]⟩ ?_
 refine En.seq ?_
 refine En.sr ?_
 refine WL.r ht hn 2 ⟨[qas7, qas6, qas12, qas14, sl 42 (.pe (svR (.agg [LS intT (machR fu t).1.fLetters, LS (lsT intT) (machR fu t).1.fNext])) 2)], [qas5 letters, qas0, .gone, qas1 fu t, qas4 fu t]⟩ ?_
 refine WL.v hn (val_fd (l := [LS intT (machR fu t).1.fLetters, LS (lsT intT) (machR fu t).1.fNext]) (r := .one (LS intT (machR fu t).1.fLetters)) ht rfl) ?_
 refine WL.v hn (val_ld (s := .one (LS intT (machR fu t).1.fLetters)) ht rfl) ?_
 refine WL.rn ht hn 2 ⟨[qas7, qas6, qas12, qas14, sl 46 (B (decide (((machR fu t).1.fLetters.length : Int) > 10)))], [qas5 letters, qas0, .gone, qas1 fu t, qas4 fu t]⟩ ?_
 refine En.ch h (fun h => ?_) (fun h => ?_)
 refine En.sr ?_
 refine WL.rn ht hn 3 ⟨[qas6, sl 5 (I 7)], [.gone, qas0, .gone, .gone, .gone]⟩ ?_
 refine En.ret ?_
 refine En.nilBox (T := (lsT intT)) 1 2 (by rfl) (by rfl) ?_
 refine En.nilBox (T := intT) 1 3 (by rfl) (by rfl) ?_
 exact En.back ht ((ApiDet.mk 0 0 [] []), 7) h (by kernel_rfl) rfl
 refine En.skip ?_
 refine En.sr ?_
 refine WL.rn ht hn 2 ⟨[qas7, qas6, qas12, qas14, qas13], [qas5 letters, qas0, .gone, qas1 fu t, qas4 fu t, .box [I 0] 3 false]⟩ ?_
 refine En.seq ?_
 refine En.sr ?_
 refine WL.rn ht hn 3 ⟨[qas7, qas6, qas12, qas14, qas13, qas11 fu t, qas8 fu t, sl 50 (I 0)], [qas5 letters, qas0, .gone, qas1 fu t, qas4 fu t, .box [I 0] 3 false]⟩ ?_
 refine En.block ?_
 obtain ⟨Inv, mu, h0, hI⟩ := h
 refine En.loop (σ := Int × Int) (fun zz => Inv zz.1 zz.2) (fun zz => mu zz.1 zz.2) (fun zz => ⟨[qas7, qas6, qas12, qas14, qas13, qas11 fu t, qas8 fu t, sl 50 (I zz.1)], [qas5 letters, qas0, .gone, qas1 fu t, qas4 fu t, .box [I zz.2] 3 false]⟩) (0, 0) h0 (sub_ok (by kernel_rfl)) ?_
 rintro ⟨x50, y5⟩ h
 replace h := hI _ _ h
 show En c ⟨(qas2 fu t x50), [qas5 letters, qas0, .gone, qas1 fu t, qas4 fu t, .box [I y5] 3 false]⟩ _
 refine En.sr ?_
 refine WL.rn ht hn 1 ⟨[qas7, qas6, qas12, qas14, qas13, qas11 fu t, qas8 fu t, sl 50 (I x50), sl 51 (B (decide (x50 < ((machR fu t).2.length : Int))))], [qas5 letters, qas0, .gone, qas1 fu t, qas4 fu t, .box [I y5] 3 false]⟩ ?_
 refine En.seq ?_
 refine En.ch h (fun h => ?_) (fun h => ?_)
 refine En.skip ?_
 obtain ⟨J_2, h, hJ_2⟩ := h
 refine En.seqJ (σ := Int) (fun zz => J_2 zz) (fun zz => ⟨(qas2 fu t x50), [qas5 letters, qas0, .gone, qas1 fu t, qas4 fu t, .box [I zz] 3 false]⟩) ?_ ?_
 refine En.block ?_
 refine En.sr ?_
 refine WL.r ht hn 1 ⟨[qas7, qas6, qas12, qas14, qas13, qas11 fu t, qas8 fu t, sl 50 (I x50), sl 52 (I x50)], [qas5 letters, qas0, .gone, qas1 fu t, qas4 fu t, .box [I y5] 3 false]⟩ ?_
 obtain ⟨e, he, h⟩ := h
 refine WL.v hn (val_ix (T := boolT) (l := (machR fu t).2) (i := x50) ht rfl he) ?_
 refine WL.v hn (val_ld (s := .one (B e)) ht rfl) ?_
 refine WL.rn ht hn 2 ⟨[qas7, qas6, qas12, qas14, qas13, sl 11 (I x50), sl 12 (B e), qas11 fu t, qas8 fu t, sl 50 (I x50)], [qas5 letters, qas0, .gone, qas1 fu t, qas4 fu t, .box [I y5] 3 false]⟩ ?_
 refine En.sr ?_
 refine WL.rn ht hn 1 ⟨[qas7, qas6, qas12, qas14, qas13, sl 11 (I x50), qas11 fu t, qas8 fu t, sl 50 (I x50), sl 55 (B e)], [qas5 letters, qas0, .gone, qas1 fu t, qas4 fu t, .box [I y5] 3 false]⟩ ?_
 refine En.ch h (fun h => ?_) (fun h => ?_)
 have hz := h.1
 replace h := h.2
 refine En.regionA ⟨[qas7, qas6, qas12, qas14, qas13, sl 11 (I x50), qas11 fu t, qas8 fu t, sl 50 (I x50)], [.sv (.one (I y5)), .sv (.one (I x50)), .sv (.one (I (wr (1 * (2 ^ (min (x50).toNat 64)))))), .sv (.one (I (qas10 y5 x50))), .tup []], [⟨(qas5 letters), none, none, none⟩, ⟨(qas0), none, none, none⟩, ⟨.gone, none, none, none⟩, ⟨(qas1 fu t), none, none, none⟩, ⟨(qas4 fu t), none, none, none⟩, ⟨.box [I y5] 3 false, none, none, some (4, .box [I (qas10 y5 x50)] 3 false)⟩]⟩ ⟨(qas2 fu t x50), [qas5 letters, qas0, .gone, qas1 fu t, qas4 fu t, .box [I (qas10 y5 x50)] 3 false]⟩ (by kernel_rfl) hn (by kernel_rfl) (by rfl) (by kernel_rfl) ?_ (by kernel_rfl) ?_
 exact ⟨.ev ⟨[qas13], [.gone, .gone, .gone, .gone, .gone, .box [I y5] 3 false]⟩ ht,
 .ev ⟨[sl 11 (I x50)], []⟩ ht,
 .vl ⟨[sl 57 (I x50)], []⟩ (mt_val (val_shift (u := 1) (v := x50) rfl (by rfl) (by rfl) hz (.inl ⟨rfl, rfl⟩))),
 .ev ⟨[sl 56 (I y5), sl 58 (I (wr (1 * (2 ^ (min (x50).toNat 64)))))], []⟩ ht,
 .mu ⟨[qas13, sl 59 (I (qas10 y5 x50))], [.gone, .gone, .gone, .gone, .gone, .box [I y5] 3 false]⟩ 5 _ _ rfl rfl (by kernel_rfl) (by rfl) (mu_store2 ht rfl (by rfl) (by rfl) (by rfl) (by rfl) (fun h => by cases h) (by rfl) (by rfl)) rfl rfl rfl rfl rfl rfl rfl,
 trivial⟩
 exact En.at (I := fun zz => J_2 zz) (T := fun zz => ⟨(qas2 fu t x50), [qas5 letters, qas0, .gone, qas1 fu t, qas4 fu t, .box [I zz] 3 false]⟩) (qas10 y5 x50) h (by kernel_rfl)
 refine En.skip ?_
 exact En.at (I := fun zz => J_2 zz) (T := fun zz => ⟨(qas2 fu t x50), [qas5 letters, qas0, .gone, qas1 fu t, qas4 fu t, .box [I zz] 3 false]⟩) y5 h (by kernel_rfl)
 intro y5_2 h
 replace h := hJ_2 _ h
 show En c ⟨(qas2 fu t x50), [qas5 letters, qas0, .gone, qas1 fu t, qas4 fu t, .box [I y5_2] 3 false]⟩ _
 refine En.region ?_
 refine WL.rn ht hn 2 ⟨[qas7, qas6, qas12, qas14, qas13, qas11 fu t, qas8 fu t, sl 50 (I (wr (x50 + 1)))], [qas5 letters, qas0, .gone, qas1 fu t, qas4 fu t, .box [I y5_2] 3 false]⟩ ?_
 exact En.at (I := fun zz => Inv zz.1 zz.2 ∧ mu zz.1 zz.2 < mu x50 y5) (T := fun zz => ⟨[qas7, qas6, qas12, qas14, qas13, qas11 fu t, qas8 fu t, sl 50 (I zz.1)], [qas5 letters, qas0, .gone, qas1 fu t, qas4 fu t, .box [I zz.2] 3 false]⟩) ((wr (x50 + 1)), y5_2) h (by kernel_rfl)
 refine En.exit rfl ?_
 refine En.seq ?_
 refine En.freeze [4, 3] (by rfl) ?_
 refine En.freeze [5] (by rfl) ?_
 have hz_2 := h.1
 replace h := h.2
 obtain ⟨hp_2, h⟩ := h
 refine En.regionA ⟨[qas7, qas6, qas12, qas14, qas13], [.sv (.one (I letters)), .sv (.one (.pe (svR (.agg [LS intT (machR fu t).1.fLetters, LS (lsT intT) (machR fu t).1.fNext])) 2)), .sv (.one (.pe (svR (.agg [LS intT (machR fu t).1.fLetters, LS (lsT intT) (machR fu t).1.fNext])) 2)), .sv (.one (.pe (svR (.one (LS intT (machR fu t).1.fLetters))) 1)), .sv (.one (LS intT (machR fu t).1.fLetters)), .sv (.one (I ((machR fu t).1.fLetters.length : Int))), .sv (.one (I (wr (1 * (2 ^ (min ((machR fu t).1.fLetters.length : Int).toNat 64)))))), .sv (.one (.rd (fvR (fun (x_ : (Int × Int)) => [.sv (.one (I x_.1)), .sv (.one (I x_.2))]) (fun (r : Int) => .sv (.one (I r))) (fun (x : Int × Int) => goDom (machR fu t).2 (machR fu t).1 x.1 x.2) (fun (x : Int × Int) => goR (machR fu t).2 (machR fu t).1 x.1 x.2)))), .sv (.one (.rd (fvR (fun (x_ : Int) => [.sv (.one (I x_))]) (fun (r : Int) => .sv (.one (I r))) (fun _ => True) (qas3 y5)))), .tup [.agg (ApiDet.cl (explR (fun k (a : Nat) => (fun (x : Int × Int) => goR (machR fu t).2 (machR fu t).1 x.1 x.2) (k, (a : Int))) (qas3 y5) (letters).toNat (wr (1 * (2 ^ (min ((machR fu t).1.fLetters.length : Int).toNat 64)))) 3000).1), .one (B (explR (fun k (a : Nat) => (fun (x : Int × Int) => goR (machR fu t).2 (machR fu t).1 x.1 x.2) (k, (a : Int))) (qas3 y5) (letters).toNat (wr (1 * (2 ^ (min ((machR fu t).1.fLetters.length : Int).toNat 64)))) 3000).2)], .tup [.agg (ApiDet.cl (explR (fun k (a : Nat) => (fun (x : Int × Int) => goR (machR fu t).2 (machR fu t).1 x.1 x.2) (k, (a : Int))) (qas3 y5) (letters).toNat (wr (1 * (2 ^ (min ((machR fu t).1.fLetters.length : Int).toNat 64)))) 3000).1), .one (B (explR (fun k (a : Nat) => (fun (x : Int × Int) => goR (machR fu t).2 (machR fu t).1 x.1 x.2) (k, (a : Int))) (qas3 y5) (letters).toNat (wr (1 * (2 ^ (min ((machR fu t).1.fLetters.length : Int).toNat 64)))) 3000).2)], .sv (.agg (ApiDet.cl (explR (fun k (a : Nat) => (fun (x : Int × Int) => goR (machR fu t).2 (machR fu t).1 x.1 x.2) (k, (a : Int))) (qas3 y5) (letters).toNat (wr (1 * (2 ^ (min ((machR fu t).1.fLetters.length : Int).toNat 64)))) 3000).1)), .sv (.one (B (explR (fun k (a : Nat) => (fun (x : Int × Int) => goR (machR fu t).2 (machR fu t).1 x.1 x.2) (k, (a : Int))) (qas3 y5) (letters).toNat (wr (1 * (2 ^ (min ((machR fu t).1.fLetters.length : Int).toNat 64)))) 3000).2)), .sv (.one (.ptr 6 0)), .tup [], .sv (.one (B (explR (fun k (a : Nat) => (fun (x : Int × Int) => goR (machR fu t).2 (machR fu t).1 x.1 x.2) (k, (a : Int))) (qas3 y5) (letters).toNat (wr (1 * (2 ^ (min ((machR fu t).1.fLetters.length : Int).toNat 64)))) 3000).2))], [⟨(qas5 letters), none, none, none⟩, ⟨(qas0), none, none, none⟩, ⟨.gone, none, none, none⟩, ⟨(qas9 fu t), none, none, none⟩, ⟨.box [LS boolT (machR fu t).2] 91 true, none, none, none⟩, ⟨.box [I y5] 3 true, none, none, none⟩, ⟨(qas0), some 13, none, some (14, .box (ApiDet.cl (explR (fun k (a : Nat) => (fun (x : Int × Int) => goR (machR fu t).2 (machR fu t).1 x.1 x.2) (k, (a : Int))) (qas3 y5) (letters).toNat (wr (1 * (2 ^ (min ((machR fu t).1.fLetters.length : Int).toNat 64)))) 3000).1) 25 false)⟩]⟩ ⟨[qas6, sl 13 (.ptr 6 0)], [.gone, qas0, .gone, .gone, .gone, .gone, .box (ApiDet.cl (explR (fun k (a : Nat) => (fun (x : Int × Int) => goR (machR fu t).2 (machR fu t).1 x.1 x.2) (k, (a : Int))) (qas3 y5) (letters).toNat (wr (1 * (2 ^ (min ((machR fu t).1.fLetters.length : Int).toNat 64)))) 3000).1) 25 false]⟩ (by kernel_rfl) hn (by kernel_rfl) (by rfl) (by kernel_rfl) ?_ (by kernel_rfl) ?_
 exact ⟨.ev ⟨[qas7], [qas5 letters]⟩ ht,
 .ev ⟨[qas12], [.gone, .gone, .gone, qas9 fu t]⟩ ht,
 .ev ⟨[sl 63 (.pe (svR (.agg [LS intT (machR fu t).1.fLetters, LS (lsT intT) (machR fu t).1.fNext])) 2)], []⟩ ht,
 .vl ⟨[sl 64 (.pe (svR (.agg [LS intT (machR fu t).1.fLetters, LS (lsT intT) (machR fu t).1.fNext])) 2)], []⟩ (mt_val (val_fd (l := [LS intT (machR fu t).1.fLetters, LS (lsT intT) (machR fu t).1.fNext]) (r := .one (LS intT (machR fu t).1.fLetters)) ht rfl)),
 .vl ⟨[sl 65 (.pe (svR (.one (LS intT (machR fu t).1.fLetters))) 1)], []⟩ (mt_val (val_ld (s := .one (LS intT (machR fu t).1.fLetters)) ht rfl)),
 .ev ⟨[sl 66 (LS intT (machR fu t).1.fLetters)], []⟩ ht,
 .vl ⟨[sl 67 (I ((machR fu t).1.fLetters.length : Int))], []⟩ (mt_val (val_shift (u := 1) (v := ((machR fu t).1.fLetters.length : Int)) rfl (by rfl) (by rfl) hz_2 (.inl ⟨rfl, rfl⟩))),
 .mt ⟨[qas12, qas14], [.gone, .gone, .gone, qas9 fu t, .box [LS boolT (machR fu t).2] 91 true]⟩ [] none (by kernel_rfl) (by rfl) (mt_fv (x := .sv (.one (.fn 75 [4, 3]))) ht (by kernel_rfl) (fv_of (M := [.box [LS boolT (machR fu t).2] 91 true, qas9 fu t]) (caps := [4, 3]) (fun x_ hx => rgD2_ct x_.1 x_.2 (machR fu t).2 (machR fu t).1 hx) en75 rfl (by kernel_rfl) (by rfl) (fun _ => rfl))) rfl rfl rfl rfl,
 .mt ⟨[qas13], [.gone, .gone, .gone, .gone, .gone, .box [I y5] 3 true]⟩ [] none (by kernel_rfl) (by rfl) (mt_fv (x := .sv (.one (.fn 76 [5]))) ht (by kernel_rfl) (fv_of (M := [.box [I y5] 3 true]) (caps := [5]) (fun x_ _ => rgD3_ct x_ y5) en76 rfl (by kernel_rfl) (by rfl) (fun _ => rfl))) rfl rfl rfl rfl,
 .vl ⟨[sl 62 (I letters), sl 68 (I (wr (1 * (2 ^ (min ((machR fu t).1.fLetters.length : Int).toNat 64))))), sl 69 (.rd (fvR (fun (x_ : (Int × Int)) => [.sv (.one (I x_.1)), .sv (.one (I x_.2))]) (fun (r : Int) => .sv (.one (I r))) (fun (x : Int × Int) => goDom (machR fu t).2 (machR fu t).1 x.1 x.2) (fun (x : Int × Int) => goR (machR fu t).2 (machR fu t).1 x.1 x.2))), sl 70 (.rd (fvR (fun (x_ : Int) => [.sv (.one (I x_))]) (fun (r : Int) => .sv (.one (I r))) (fun _ => True) (qas3 y5)))], []⟩ (mt_c (exploreInt_ct letters (wr (1 * (2 ^ (min ((machR fu t).1.fLetters.length : Int).toNat 64)))) (fun (x : Int × Int) => goDom (machR fu t).2 (machR fu t).1 x.1 x.2) (fun (x : Int × Int) => goR (machR fu t).2 (machR fu t).1 x.1 x.2) (fun _ => True) (qas3 y5) 3000 hp_2) en74 rfl),
 .ev ⟨[(71, .tup [.agg (ApiDet.cl (explR (fun k (a : Nat) => (fun (x : Int × Int) => goR (machR fu t).2 (machR fu t).1 x.1 x.2) (k, (a : Int))) (qas3 y5) (letters).toNat (wr (1 * (2 ^ (min ((machR fu t).1.fLetters.length : Int).toNat 64)))) 3000).1), .one (B (explR (fun k (a : Nat) => (fun (x : Int × Int) => goR (machR fu t).2 (machR fu t).1 x.1 x.2) (k, (a : Int))) (qas3 y5) (letters).toNat (wr (1 * (2 ^ (min ((machR fu t).1.fLetters.length : Int).toNat 64)))) 3000).2)])], []⟩ ht,
 .ev ⟨[(61, .tup [.agg (ApiDet.cl (explR (fun k (a : Nat) => (fun (x : Int × Int) => goR (machR fu t).2 (machR fu t).1 x.1 x.2) (k, (a : Int))) (qas3 y5) (letters).toNat (wr (1 * (2 ^ (min ((machR fu t).1.fLetters.length : Int).toNat 64)))) 3000).1), .one (B (explR (fun k (a : Nat) => (fun (x : Int × Int) => goR (machR fu t).2 (machR fu t).1 x.1 x.2) (k, (a : Int))) (qas3 y5) (letters).toNat (wr (1 * (2 ^ (min ((machR fu t).1.fLetters.length : Int).toNat 64)))) 3000).2)])], []⟩ ht,
 .ev ⟨[(61, .tup [.agg (ApiDet.cl (explR (fun k (a : Nat) => (fun (x : Int × Int) => goR (machR fu t).2 (machR fu t).1 x.1 x.2) (k, (a : Int))) (qas3 y5) (letters).toNat (wr (1 * (2 ^ (min ((machR fu t).1.fLetters.length : Int).toNat 64)))) 3000).1), .one (B (explR (fun k (a : Nat) => (fun (x : Int × Int) => goR (machR fu t).2 (machR fu t).1 x.1 x.2) (k, (a : Int))) (qas3 y5) (letters).toNat (wr (1 * (2 ^ (min ((machR fu t).1.fLetters.length : Int).toNat 64)))) 3000).2)])], []⟩ ht,
 .mt ⟨[], []⟩ [] (some 6) (by kernel_rfl) (by rfl) (mt_alloc2 6 25 ht rfl (by rfl) (by rfl)) rfl rfl rfl rfl,
 .mu ⟨[sl 13 (.ptr 6 0), (72, .sv (.agg (ApiDet.cl (explR (fun k (a : Nat) => (fun (x : Int × Int) => goR (machR fu t).2 (machR fu t).1 x.1 x.2) (k, (a : Int))) (qas3 y5) (letters).toNat (wr (1 * (2 ^ (min ((machR fu t).1.fLetters.length : Int).toNat 64)))) 3000).1)))], [.gone, .gone, .gone, .gone, .gone, .gone, qas0]⟩ 6 _ _ rfl rfl (by kernel_rfl) (by rfl) (mu_store2 ht rfl (by rfl) (by rfl) (by rfl) (by rfl) (fun h => by cases h) (by rfl) (by rfl)) rfl rfl rfl rfl rfl rfl rfl,
 .ev ⟨[sl 73 (B (explR (fun k (a : Nat) => (fun (x : Int × Int) => goR (machR fu t).2 (machR fu t).1 x.1 x.2) (k, (a : Int))) (qas3 y5) (letters).toNat (wr (1 * (2 ^ (min ((machR fu t).1.fLetters.length : Int).toNat 64)))) 3000).2)], []⟩ ht,
 trivial⟩
 refine En.sr ?_
 refine WL.r ht hn 1 ⟨[qas6, (74, .sv (.agg (ApiDet.cl (explR (fun k (a : Nat) => (fun (x : Int × Int) => goR (machR fu t).2 (machR fu t).1 x.1 x.2) (k, (a : Int))) (qas3 y5) (letters).toNat (wr (1 * (2 ^ (min ((machR fu t).1.fLetters.length : Int).toNat 64)))) 3000).1)))], [.gone, qas0, .gone, .gone, .gone, .gone, .gone]⟩ ?_
 obtain ⟨hp, h⟩ := h
 refine WL.m0 hn (mt_c (smallest_ct (explR (fun k (a : Nat) => (fun (x : Int × Int) => goR (machR fu t).2 (machR fu t).1 x.1 x.2) (k, (a : Int))) (qas3 y5) (letters).toNat (wr (1 * (2 ^ (min ((machR fu t).1.fLetters.length : Int).toNat 64)))) 3000).1 hp) en77 rfl) ?_
 refine WL.rn ht hn 2 ⟨[qas6, sl 5 (I 0)], [.gone, .box (ApiDet.cl (canon ((explR (fun k (a : Nat) => (fun (x : Int × Int) => goR (machR fu t).2 (machR fu t).1 x.1 x.2) (k, (a : Int))) (qas3 y5) (letters).toNat (wr (1 * (2 ^ (min ((machR fu t).1.fLetters.length : Int).toNat 64)))) 3000).1).fLetters.toNat (langD (explR (fun k (a : Nat) => (fun (x : Int × Int) => goR (machR fu t).2 (machR fu t).1 x.1 x.2) (k, (a : Int))) (qas3 y5) (letters).toNat (wr (1 * (2 ^ (min ((machR fu t).1.fLetters.length : Int).toNat 64)))) 3000).1 ((explR (fun k (a : Nat) => (fun (x : Int × Int) => goR (machR fu t).2 (machR fu t).1 x.1 x.2) (k, (a : Int))) (qas3 y5) (letters).toNat (wr (1 * (2 ^ (min ((machR fu t).1.fLetters.length : Int).toNat 64)))) 3000).1).fStart.toNat))) 25 false, .gone, .gone, .gone, .gone, .gone]⟩ ?_
 exact En.rb ht ((canon ((explR (fun k (a : Nat) => (fun (x : Int × Int) => goR (machR fu t).2 (machR fu t).1 x.1 x.2) (k, (a : Int))) (qas3 y5) (letters).toNat (wr (1 * (2 ^ (min ((machR fu t).1.fLetters.length : Int).toNat 64)))) 3000).1).fLetters.toNat (langD (explR (fun k (a : Nat) => (fun (x : Int × Int) => goR (machR fu t).2 (machR fu t).1 x.1 x.2) (k, (a : Int))) (qas3 y5) (letters).toNat (wr (1 * (2 ^ (min ((machR fu t).1.fLetters.length : Int).toNat 64)))) 3000).1 ((explR (fun k (a : Nat) => (fun (x : Int × Int) => goR (machR fu t).2 (machR fu t).1 x.1 x.2) (k, (a : Int))) (qas3 y5) (letters).toNat (wr (1 * (2 ^ (min ((machR fu t).1.fLetters.length : Int).toNat 64)))) 3000).1).fStart.toNat)), 0) h
theorem en30 : ∀ args w, (callFunc 30 args).run Try.prog w = .ok (.enter 30 args) w := enters_of Try.func30 (by kernel_rfl) rfl
def lastL : List Bool → Nat → Int → Int
 | [], _, y => y
 | b :: l, x, y => lastL l (x + 1) (if b = true then bitsI .or .i64 y (wr (1 * (2 ^ (min ((x : Int)).toNat 64)))) else y)
def startR (p : RegularPlaces) : Int := wr (1 * (2 ^ (min ((p.fLetters.length : Int)).toNat 64)))
def rLang (M : RegularPlaces × List Bool) : Lang := langK (fun st (a : Nat) => goR M.2 M.1 st (a : Int)) (mkR (lastL M.2 0 0)) (startR M.1)
theorem rDet_ok (fu : Nat) (letters : Int) (text : ByteArray) (t : RTr) (M : RegularPlaces × List Bool) (m : List Int) (ht : fullS text = some t) (hl : 1 ≤ letters ∧ letters ≤ 4) (hs : ¬ 0 ≤ strIdx (fun (x : Int) => d1R letters x) true text (text.size + 1) 0) (hm : machS fu t = some M)
  (hn : M.1.fLetters.length ≤ 10) (hg : M.2.length ≤ 1048576) (h0 : startR M.1 ∈ m) (hP : ∀ st (a : Nat), st ∈ m → a < letters.toNat → goDom M.2 M.1 st (a : Int) ∧ goR M.2 M.1 st (a : Int) ∈ m) (hml : m.length ≤ 3000) :
  Ct 30 [.sv (.one (I letters)), .sv (.one (.v (.string text)))] [] (fun (_ : Unit) => True) (fun _ => .tup [.agg [I (canon letters.toNat (rLang M)).fLetters, I (canon letters.toNat (rLang M)).fStart, LS (lsT intT) (canon letters.toNat (rLang M)).fNext, LS intT (canon letters.toNat (rLang M)).fMark], .one (I 0)]) := by
 refine (rDet_walk fu letters text (fun r => r = (canon letters.toNat (rLang M), 0)) ?_).fun
 unfold rDet_vc
 intro r hr
 have hr : r = (some t, ⟨0, 0⟩) := by
  unfold ParsedQ at hr
  rw [ht] at hr
  exact hr
 subst hr
 refine ⟨fun hb => (by cases hb), fun _ => ⟨fun b => b = false, ⟨fun hb => absurd (of_decide_eq_true hb) (by omega), fun _ => ⟨fun hb => absurd (of_decide_eq_true hb) (by omega), fun _ => ⟨fun _ => trivial, decide_eq_false hs⟩⟩⟩, ?_⟩⟩
 rintro _ rfl
 refine ⟨fun hb => (by cases hb), fun _ => ⟨t, rfl, by rw [hm]; rfl, ?_⟩⟩
 have hz : machR fu t = M := by
  unfold machR
  rw [hm]
  rfl
 rw [hz]
 refine ⟨fun hb => absurd (of_decide_eq_true hb) (by omega), fun _ => ⟨fun x y => ∃ n : Nat, x = n ∧ n ≤ M.2.length ∧ lastL (M.2.drop n) n y = lastL M.2 0 0, fun x _ => M.2.length - x.toNat, ⟨0, rfl, Nat.zero_le _, rfl⟩, ?_⟩⟩
 rintro _ y ⟨n, rfl, hnl, he⟩
 refine ⟨fun hb => ?_, fun hb => ?_⟩
 ·have hlt : n < M.2.length := by have := of_decide_eq_true hb; exact Int.ofNat_lt.1 this
  rw [List.drop_eq_getElem_cons hlt, lastL] at he
  refine ⟨fun y2 => lastL (M.2.drop (n + 1)) (n + 1) y2 = lastL M.2 0 0, ⟨M.2[n], by simp [idx, hlt], fun hb2 => ⟨Int.natCast_nonneg _, ?_⟩, fun hb2 => ?_⟩, fun y2 h2 => ⟨⟨n + 1, wr_len (n := M.2.length) (by omega) hlt, hlt, h2⟩, ?_⟩⟩
  ·rw [if_pos hb2] at he
   exact he
  ·rw [if_neg (by rw [hb2]; decide)] at he
   exact he
  ·rw [wr_len (n := M.2.length) (by omega) hlt]
   show M.2.length - (n + 1) < M.2.length - n
   omega
 ·have hge : M.2.length ≤ n := by have := of_decide_eq_false hb; exact Nat.le_of_not_lt fun h => this (Int.ofNat_lt.2 h)
  rw [List.drop_eq_nil_of_le hge, lastL] at he
  subst he
  have hP2 : ∀ k a, k ∈ m → a < letters.toNat → goR M.2 M.1 k ((a : Nat) : Int) ∈ m := fun k a hk ha => (hP k a hk ha).2
  have key : ∀ E : ApiDet × Bool, E = (explD (fun st (a : Nat) => goR M.2 M.1 st (a : Int)) (mkR (lastL M.2 0 0)) letters.toNat (startR M.1), true) → ClsOk E.1 ∧ canon (E.1).fLetters.toNat (langD E.1 (E.1).fStart.toNat) = canon letters.toNat (rLang M) := by
   rintro E rfl
   have hcount := explD_count (mark := mkR (lastL M.2 0 0)) h0 hP2
   refine ⟨⟨explD_wf h0 hP2, Nat.le_trans hcount (by omega), ?_, explD_marks h0 hP2 fun k hk => ?_⟩, canon_congr fun w hw => explD_lang h0 hP2 hw⟩
   ·show ((letters.toNat : Nat) : Int) ≤ 1000
    omega
   ·unfold mkR
    split <;> decide
  obtain ⟨k1, k2⟩ := key _ (explR_ends (limit := 3000) h0 hP2 (by omega))
  exact ⟨Int.natCast_nonneg _, ⟨⟨by omega, by omega⟩, by decide, fun st => st ∈ m, h0, fun st a hk ha => hP st a hk (by omega), fun _ _ => trivial⟩, k1, congrArg (fun d => (d, (0 : Int))) k2⟩
def textC : ByteArray := ByteArray.mk #[40, 97, 43, 98, 41, 42, 97]
def treeC : RTr := nd 3 0 [nd 4 0 [nd 5 0 [nd 3 0 [nd 4 0 [nd 2 0 []], nd 4 0 [nd 2 1 []]]], nd 2 0 []]]
def machC : RegularPlaces × List Bool := (⟨[0, 1, 0], [[0, 1, 2], [0, 1, 2], [], [0, 1, 2]]⟩, [false, false, true, false])
theorem fullC : fullS textC = some treeC := by kernel_rfl
theorem machC_eq : machS 8 treeC = some machC := by kernel_rfl
theorem strC : strIdx (fun (x : Int) => d1R 2 x) true textC (textC.size + 1) 0 = -1 := by kernel_rfl
theorem goC : goS machC.2 machC.1 8 0 = some 5 ∧ goS machC.2 machC.1 8 1 = some 2 ∧ goS machC.2 machC.1 5 0 = some 5 ∧ goS machC.2 machC.1 5 1 = some 2 ∧ goS machC.2 machC.1 2 0 = some 5 ∧ goS machC.2 machC.1 2 1 = some 2 := by
 refine ⟨?_, ?_, ?_, ?_, ?_, ?_⟩ <;> kernel_rfl
theorem startC : startR machC.1 = 8 := by kernel_rfl
theorem lastC : lastL machC.2 0 0 = 4 := by kernel_rfl
def go2 (_ : Bool) (a : Nat) : Bool := decide (a = 0)
def mk2 (b : Bool) : Int := if b = true then 1 else 0
theorem mkC : mkR 4 8 = 0 ∧ mkR 4 5 = 1 ∧ mkR 4 2 = 0 := by
 refine ⟨?_, ?_, ?_⟩ <;> kernel_rfl
theorem goR_of {good : List Bool} {p : RegularPlaces} {st a r : Int} (h : goS good p st a = some r) : goDom good p st a ∧ goR good p st a = r := ⟨by unfold goDom; rw [h]; rfl, by unfold goR; rw [h]; rfl⟩
theorem stepC {st : Int} {a : Nat} (hs : st ∈ [(8 : Int), 5, 2]) (ha : a < 2) : goDom machC.2 machC.1 st (a : Int) ∧ goR machC.2 machC.1 st (a : Int) = if a = 0 then 5 else 2 := by
 obtain ⟨g1, g2, g3, g4, g5, g6⟩ := goC
 have h2 : a = 0 ∨ a = 1 := by omega
 simp only [List.mem_cons, List.not_mem_nil, or_false] at hs
 rcases h2 with rfl | rfl <;> rcases hs with rfl | rfl | rfl
 ·exact goR_of g1
 ·exact goR_of g3
 ·exact goR_of g5
 ·exact goR_of g2
 ·exact goR_of g4
 ·exact goR_of g6
theorem langC : ∀ (w : List Nat) (st : Int) (b : Bool), (∀ a ∈ w, a < 2) → ((st = 8 ∧ b = false) ∨ (st = 5 ∧ b = true) ∨ (st = 2 ∧ b = false)) → mkR 4 (w.foldl (fun st (a : Nat) => goR machC.2 machC.1 st (a : Int)) st) = mk2 (w.foldl go2 b)
 | [], st, b, _, h => by
  obtain ⟨h1, h2, h3⟩ := mkC
  rcases h with ⟨rfl, rfl⟩ | ⟨rfl, rfl⟩ | ⟨rfl, rfl⟩
  ·exact h1
  ·exact h2
  ·exact h3
 | a :: w, st, b, hw, h => by
  have ha : a < 2 := hw a List.mem_cons_self
  have hs : st ∈ [(8 : Int), 5, 2] := by
   simp only [List.mem_cons, List.not_mem_nil, or_false]
   rcases h with ⟨h, _⟩ | ⟨h, _⟩ | ⟨h, _⟩ <;> simp [h]
  rw [List.foldl_cons, List.foldl_cons]
  refine langC w _ _ (fun x hx => hw x (List.mem_cons_of_mem _ hx)) ?_
  rw [(stepC hs ha).2]
  unfold go2
  by_cases e : a = 0
  ·exact .inr (.inl ⟨if_pos e, decide_eq_true e⟩)
  ·exact .inr (.inr ⟨if_neg e, decide_eq_false e⟩)
theorem canonC : canon 2 (rLang machC) = explD go2 mk2 2 false := by
 have h := canon_of (K := Bool) (go := go2) (mark := mk2) (L := 2) (k0 := false) (P := fun _ => True) trivial (fun _ _ _ _ => trivial) (fun x y _ _ hxy => by
  have := congrFun hxy []
  unfold rs langK at this
  simp only [List.not_mem_nil, false_implies, implies_true, if_true, List.foldl_nil] at this
  revert this
  cases x <;> cases y <;> simp [mk2])
 rw [h]
 refine canon_congr fun w hw => ?_
 show mkR (lastL machC.2 0 0) (w.foldl _ (startR machC.1)) = _
 rw [lastC, startC]
 exact langC w 8 false hw (.inl ⟨rfl, rfl⟩)
theorem lenC : (canon 2 (rLang machC)).fNext.length = 2 := by
 rw [canonC]
 obtain ⟨l, h1, h2, h3, h4, h5, h6⟩ := explD_facts (go := go2) (L := 2) (k0 := false) (m := [false, true]) (by simp) (fun k a _ _ => by cases go2 k a <;> simp)
 have hl : (explD go2 mk2 2 false).fNext.length = l.length := by
  show ((explL go2 2 false).map _).length = _
  rw [List.length_map, h1]
 rw [hl]
 have h4 : l.length ≤ 2 := h4
 match l, h5, h6, h4 with
 | [x], h5, h6, _ =>
  simp only [List.getElem?_cons_zero, Option.some.injEq] at h5
  subst h5
  have := h6 false (by simp) 0 (by decide)
  simp [go2] at this
 | [x, y], _, _, _ => rfl
theorem detC_ct (letters : Int) (text : ByteArray) (hp : letters = 2 ∧ text = textC) : Ct 30 [.sv (.one (I letters)), .sv (.one (.v (.string text)))] [] (fun (_ : Unit) => True) (fun _ => .tup [.agg [I (canon 2 (rLang machC)).fLetters, I (canon 2 (rLang machC)).fStart, LS (lsT intT) (canon 2 (rLang machC)).fNext, LS intT (canon 2 (rLang machC)).fMark], .one (I 0)]) := by
 obtain ⟨rfl, rfl⟩ := hp
 refine rDet_ok 8 2 textC treeC machC [8, 5, 2] fullC ⟨by decide, by decide⟩ (by rw [strC]; decide) machC_eq (by decide) (by decide) (by rw [startC]; decide) (fun st a hs ha => ?_) (by decide)
 obtain ⟨k1, k2⟩ := stepC hs ha
 refine ⟨k1, ?_⟩
 rw [k2]
 split <;> decide
def closed_vc (Q : Bool → Prop) : Prop :=
 ((2 : Int) = 2 ∧ (ByteArray.mk #[40, 97, 43, 98, 41, 42, 97]) = textC) ∧
 Q ((((canon 2 (rLang machC), (0 : Int))).2 == 0) && ((((canon 2 (rLang machC), (0 : Int))).1.fNext.length : Int) == 2))
theorem closed_walk (Q : Bool → Prop) (h : closed_vc  Q) : Ct 10 [] [] Q (fun (r : Bool) => .sv (.one (B r))) := by
 have ht := tab_ok
 refine Ct.body Try.func10 rfl rfl rfl rfl (fun c hn => ?_)
 unfold closed_vc at h
 refine En.sr ?_
 refine WL.rn ht hn 1 ⟨[], []⟩ ?_
 refine En.sr ?_
 obtain ⟨hp, h⟩ := h
 refine WL.m0 hn (mt_c (detC_ct 2 (ByteArray.mk #[40, 97, 43, 98, 41, 42, 97]) hp) en30 rfl) ?_
 refine WL.rn ht hn 6 ⟨[sl 1 (.ptr 0 0), sl 2 (I (canon 2 (rLang machC), (0 : Int)).2)], [.box (ApiDet.cl (canon 2 (rLang machC), (0 : Int)).1) 25 false]⟩ ?_
 refine En.sr ?_
 refine WL.r ht hn 3 ⟨[sl 1 (.ptr 0 0), sl 9 (B ((canon 2 (rLang machC), (0 : Int)).2 == 0))], [.box (ApiDet.cl (canon 2 (rLang machC), (0 : Int)).1) 25 false]⟩ ?_
 refine WL.thru ⟨[sl 0 (B (((canon 2 (rLang machC), (0 : Int)).2 == 0) && (((canon 2 (rLang machC), (0 : Int)).1.fNext.length : Int) == 2)))], [.gone]⟩ ?_ ?_
 refine splitB ((canon 2 (rLang machC), (0 : Int)).2 == 0) (fun hb0 => ?_) (fun hb0 => ?_)
 refine WL.sB 9 hb0 ?_
 refine WL.r ht hn 6 ⟨[sl 0 (B (((canon 2 (rLang machC), (0 : Int)).1.fNext.length : Int) == 2))], [.gone]⟩ ?_
 exact WL.nil (sub_ok (by simp only [hb0]; kernel_rfl))
 refine WL.sB 9 hb0 ?_
 refine WL.r ht hn 6 ⟨[sl 0 (B false)], [.gone]⟩ ?_
 exact WL.nil (sub_ok (by simp only [hb0]; kernel_rfl))
 exact En.rb ht (((canon 2 (rLang machC), (0 : Int)).2 == 0) && (((canon 2 (rLang machC), (0 : Int)).1.fNext.length : Int) == 2)) h
theorem en10 : ∀ args w, (callFunc 10 args).run Try.prog w = .ok (.enter 10 args) w := enters_of Try.func10 (by kernel_rfl) rfl
theorem closed_ct  : Ct 10 [] [] (fun (_ : Unit) => True) (fun _ => .sv (.one (B (true)))) := by
 refine (closed_walk  (fun res_ => res_ = (true)) ?_).fun
 unfold closed_vc
 refine ⟨⟨rfl, rfl⟩, ?_⟩
 rw [lenC]
 rfl
def sameWords_vc (u : List Int) (v : List Int) (Q : Bool → Prop) : Prop :=
 u.length ≤ 9223372036854775807 →
 v.length ≤ 9223372036854775807 →
 (IfP ((u.length : Int) != (v.length : Int)) (Q false) (∃ (Inv : Int → Prop) (mu : Int → Nat), Inv 0 ∧
 ∀ (x5 : Int) , Inv x5 → (IfP (decide (x5 < (u.length : Int))) (∃ e, idx u x5 = some e ∧
 ∃ e_2, idx v x5 = some e_2 ∧
 IfP (e != e_2) (Q false) ((Inv (wr (x5 + 1)) ∧ mu (wr (x5 + 1)) < mu x5))) (Q true))))
theorem sameWords_walk (u : List Int) (v : List Int) (Q : Bool → Prop) (h : sameWords_vc u v Q) : Ct 12 [.sv (.one (LS intT u)), .sv (.one (LS intT v))] [] Q (fun (r : Bool) => .sv (.one (B r))) := by
 have ht := tab_ok
 refine Ct.body Try.func12 rfl rfl rfl rfl (fun c hn => ?_)
 unfold sameWords_vc at h
 refine En.lenL 0 (by rfl) (fun hl => ?_)
 replace h := h hl
 clear hl
 refine En.lenL 1 (by rfl) (fun hl => ?_)
 replace h := h hl
 clear hl
 refine En.sr ?_
 refine WL.rn ht hn 1 ⟨[sl 0 (LS intT u), sl 1 (LS intT v)], []⟩ ?_
 refine En.seq ?_
 refine En.sr ?_
 refine WL.rn ht hn 5 ⟨[sl 0 (LS intT u), sl 1 (LS intT v), sl 10 (B ((u.length : Int) != (v.length : Int)))], []⟩ ?_
 refine En.ch h (fun h => ?_) (fun h => ?_)
 refine En.sr ?_
 refine WL.rn ht hn 1 ⟨[sl 4 (B false)], []⟩ ?_
 exact En.rb ht false h
 refine En.skip ?_
 refine En.seq ?_
 refine En.sr ?_
 refine WL.rn ht hn 1 ⟨[sl 0 (LS intT u), sl 1 (LS intT v), sl 5 (I 0)], []⟩ ?_
 refine En.block ?_
 obtain ⟨Inv, mu, h0, hI⟩ := h
 refine En.loop (σ := Int) (fun zz => Inv zz) (fun zz => mu zz) (fun zz => ⟨[sl 0 (LS intT u), sl 1 (LS intT v), sl 5 (I zz)], []⟩) 0 h0 (sub_ok (by kernel_rfl)) ?_
 intro x5 h
 replace h := hI _ h
 show En c ⟨[sl 0 (LS intT u), sl 1 (LS intT v), sl 5 (I x5)], []⟩ _
 refine En.seq ?_
 refine En.sr ?_
 refine WL.rn ht hn 4 ⟨[sl 0 (LS intT u), sl 1 (LS intT v), sl 5 (I x5), sl 14 (B (decide (x5 < (u.length : Int))))], []⟩ ?_
 refine En.ch h (fun h => ?_) (fun h => ?_)
 refine En.skip ?_
 refine En.seq ?_
 refine En.block ?_
 refine En.seq ?_
 refine En.regionS (by kernel_rfl) (by kernel_rfl) ?_
 refine SL.run ht hn 2 ⟨[sl 0 (LS intT u), sl 1 (LS intT v), sl 5 (I x5), sl 17 (LS intT u), sl 18 (I x5)], []⟩ (by kernel_rfl) ?_
 obtain ⟨e, he, h⟩ := h
 refine SL.val hn (by rfl) (val_ix (T := intT) (l := u) (i := x5) ht rfl he) (by rfl) ?_
 refine SL.val hn (by rfl) (val_ld (s := .one (I e)) ht rfl) (by rfl) ?_
 refine SL.run ht hn 2 ⟨[sl 0 (LS intT u), sl 1 (LS intT v), sl 5 (I x5), sl 17 (LS intT u), sl 18 (I x5), sl 19 (.pe (svR (.one (I e))) 1), sl 20 (I e), sl 21 (LS intT v), sl 22 (I x5)], []⟩ (by kernel_rfl) ?_
 obtain ⟨e_2, he_2, h⟩ := h
 refine SL.val hn (by rfl) (val_ix (T := intT) (l := v) (i := x5) ht rfl he_2) (by rfl) ?_
 refine SL.val hn (by rfl) (val_ld (s := .one (I e_2)) ht rfl) (by rfl) ?_
 refine SL.run ht hn 1 ⟨[sl 0 (LS intT u), sl 1 (LS intT v), sl 5 (I x5), sl 17 (LS intT u), sl 18 (I x5), sl 19 (.pe (svR (.one (I e))) 1), sl 20 (I e), sl 21 (LS intT v), sl 22 (I x5), sl 23 (.pe (svR (.one (I e_2))) 1), sl 24 (I e_2), sl 25 (B (e != e_2))], []⟩ (by kernel_rfl) ?_
 refine SL.nil ⟨by kernel_rfl, ?_⟩
 refine En.ch h (fun h => ?_) (fun h => ?_)
 refine En.sr ?_
 refine WL.rn ht hn 1 ⟨[sl 4 (B false)], []⟩ ?_
 exact En.rb ht false h
 refine En.skip ?_
 refine En.region ?_
 refine WL.rn ht hn 3 ⟨[sl 0 (LS intT u), sl 1 (LS intT v), sl 5 (I (wr (x5 + 1)))], []⟩ ?_
 exact En.at (I := fun zz => Inv zz ∧ mu zz < mu x5) (T := fun zz => ⟨[sl 0 (LS intT u), sl 1 (LS intT v), sl 5 (I zz)], []⟩) (wr (x5 + 1)) h (by kernel_rfl)
 refine En.exit rfl ?_
 refine En.sr ?_
 refine WL.rn ht hn 1 ⟨[sl 4 (B true)], []⟩ ?_
 exact En.rb ht true h
theorem en12 : ∀ args w, (callFunc 12 args).run Try.prog w = .ok (.enter 12 args) w := enters_of Try.func12 (by kernel_rfl) rfl
theorem sameWords_ct (u : List Int) (v : List Int)  : Ct 12 [.sv (.one (LS intT u)), .sv (.one (LS intT v))] [] (fun (_ : Unit) => True) (fun _ => .sv (.one (B (decide (u = v))))) := by
  refine (sameWords_walk u v (fun res_ => res_ = (decide (u = v))) ?_).fun
  intro hl _
  refine ⟨fun h => ?_, fun h => ?_⟩
  · exact (decide_eq_false (fun e => by rw [e] at h; simp at h)).symm
  have hlen : u.length = v.length := by have : (u.length : Int) = v.length := by simpa using h
                                        omega
  refine ⟨fun i => ∃ k : Nat, i = k ∧ k ≤ u.length ∧ u.take k = v.take k, fun i => u.length - i.toNat, ⟨0, rfl, Nat.zero_le _, rfl⟩, ?_⟩
  rintro i ⟨k, rfl, hk, ht⟩
  refine ⟨fun hb => ?_, fun hb => ?_⟩
  · have hlt := dlt hb
    have hlt' : k < v.length := by omega
    refine ⟨_, idx_at hlt, _, idx_at hlt', fun hne => ?_, fun he => ⟨⟨k + 1, ?_, hlt, ?_⟩, ?_⟩⟩
    · exact (decide_eq_false (fun e => by subst e; simp at hne)).symm
    · rw [wr_in (by omega) (by omega)]; omega
    · rw [List.take_add_one, List.take_add_one, ht, List.getElem?_eq_getElem hlt, List.getElem?_eq_getElem hlt', show u[k] = v[k] by simpa using he]
    · rw [wr_in (by omega) (by omega)]; simp only; omega
  · have hge := dge hb
    rw [List.take_of_length_le hge, List.take_of_length_le (by omega)] at ht
    exact (decide_eq_true ht).symm
def alike_vc (a : ApiDet) (b : ApiDet) (Q : Bool → Prop) : Prop :=
 a.fNext.length ≤ 9223372036854775807 →
 a.fMark.length ≤ 9223372036854775807 →
 b.fNext.length ≤ 9223372036854775807 →
 b.fMark.length ≤ 9223372036854775807 →
 (IfP (((a.fLetters != b.fLetters) || (a.fStart != b.fStart)) || ((a.fNext.length : Int) != (b.fNext.length : Int))) (Q false) (∃ (Inv : Bool → Int → Prop) (mu : Bool → Int → Nat), Inv (decide (a.fMark = b.fMark)) 0 ∧
 ∀ (x5 : Bool) (x6 : Int) , Inv x5 x6 → (IfP ((decide (x6 < (a.fNext.length : Int))) && x5) (∃ e, idx a.fNext x6 = some e ∧
 ∃ e_2, idx b.fNext x6 = some e_2 ∧
 (Inv (decide (e = e_2)) (wr (x6 + 1)) ∧ mu (decide (e = e_2)) (wr (x6 + 1)) < mu x5 x6)) (Q x5))))
noncomputable abbrev qau0 (a : ApiDet) (b : ApiDet) := ([.box (ApiDet.cl a) 25 false, .box (ApiDet.cl b) 25 false] : List Item)
noncomputable abbrev qau1 := sl 2 (.ptr 0 0)
noncomputable abbrev qau2 := sl 3 (.ptr 1 0)
theorem alike_walk (a : ApiDet) (b : ApiDet) (Q : Bool → Prop) (h : alike_vc a b Q) : Ct 13 [.sv (.agg [I a.fLetters, I a.fStart, LS (lsT intT) a.fNext, LS intT a.fMark]), .sv (.agg [I b.fLetters, I b.fStart, LS (lsT intT) b.fNext, LS intT b.fMark])] [] Q (fun (r : Bool) => .sv (.one (B r))) := by
 have ht := tab_ok
 refine Ct.body Try.func13 rfl rfl rfl rfl (fun c hn => ?_)
 unfold alike_vc at h
 refine En.lenA 0 2 (by rfl) (by rfl) (fun hl => ?_)
 replace h := h hl
 clear hl
 refine En.lenA 0 3 (by rfl) (by rfl) (fun hl => ?_)
 replace h := h hl
 clear hl
 refine En.lenA 1 2 (by rfl) (by rfl) (fun hl => ?_)
 replace h := h hl
 clear hl
 refine En.lenA 1 3 (by rfl) (by rfl) (fun hl => ?_)
 replace h := h hl
 clear hl
 refine En.sr ?_
 refine WL.rn ht hn 3 ⟨[qau1, qau2], (qau0 a b)⟩ ?_
 refine En.seq ?_
 refine En.sr ?_
 refine WL.r ht hn 6 ⟨[qau1, qau2, sl 12 (B (a.fLetters != b.fLetters))], (qau0 a b)⟩ ?_
 refine WL.thru ⟨[qau1, qau2, sl 27 (B (((a.fLetters != b.fLetters) || (a.fStart != b.fStart)) || ((a.fNext.length : Int) != (b.fNext.length : Int))))], (qau0 a b)⟩ ?_ ?_
 refine splitB (a.fLetters != b.fLetters) (fun hb0 => ?_) (fun hb0 => ?_)
 refine WL.sB 12 hb0 ?_
 refine WL.r ht hn 15 ⟨[qau1, qau2, sl 27 (B true)], (qau0 a b)⟩ ?_
 exact WL.nil (sub_ok (by simp only [hb0]; kernel_rfl))
 refine WL.sB 12 hb0 ?_
 refine WL.r ht hn 7 ⟨[qau1, qau2, sl 19 (B (a.fStart != b.fStart))], (qau0 a b)⟩ ?_
 refine splitB (a.fStart != b.fStart) (fun hb1 => ?_) (fun hb1 => ?_)
 refine WL.sB 19 hb1 ?_
 refine WL.r ht hn 8 ⟨[qau1, qau2, sl 27 (B true)], (qau0 a b)⟩ ?_
 exact WL.nil (sub_ok (by simp only [hb0, hb1]; kernel_rfl))
 refine WL.sB 19 hb1 ?_
 refine WL.r ht hn 8 ⟨[qau1, qau2, sl 27 (B ((a.fNext.length : Int) != (b.fNext.length : Int)))], (qau0 a b)⟩ ?_
 exact WL.nil (sub_ok (by simp only [hb0, hb1]; kernel_rfl))
 refine En.ch h (fun h => ?_) (fun h => ?_)
 refine En.sr ?_
 refine WL.rn ht hn 1 ⟨[sl 4 (B false)], [.gone, .gone]⟩ ?_
 exact En.rb ht false h
 refine En.skip ?_
 refine En.sr ?_
 refine WL.r ht hn 4 ⟨[qau1, qau2, sl 29 (LS intT a.fMark), sl 31 (LS intT b.fMark)], (qau0 a b)⟩ ?_
 refine WL.m0 hn (mt_c (sameWords_ct a.fMark b.fMark) en12 rfl) ?_
 refine WL.rn ht hn 1 ⟨[qau1, qau2, sl 5 (B (decide (a.fMark = b.fMark)))], (qau0 a b)⟩ ?_
 refine En.seq ?_
 refine En.sr ?_
 refine WL.rn ht hn 1 ⟨[qau1, qau2, sl 5 (B (decide (a.fMark = b.fMark))), sl 6 (I 0)], (qau0 a b)⟩ ?_
 refine En.block ?_
 obtain ⟨Inv, mu, h0, hI⟩ := h
 refine En.loop (σ := Bool × Int) (fun zz => Inv zz.1 zz.2) (fun zz => mu zz.1 zz.2) (fun zz => ⟨[qau1, qau2, sl 5 (B zz.1), sl 6 (I zz.2)], (qau0 a b)⟩) ((decide (a.fMark = b.fMark)), 0) h0 (sub_ok (by kernel_rfl)) ?_
 rintro ⟨x5, x6⟩ h
 replace h := hI _ _ h
 show En c ⟨[qau1, qau2, sl 5 (B x5), sl 6 (I x6)], (qau0 a b)⟩ _
 refine En.seq ?_
 refine En.sr ?_
 refine WL.r ht hn 6 ⟨[qau1, qau2, sl 5 (B x5), sl 6 (I x6), sl 38 (B (decide (x6 < (a.fNext.length : Int))))], (qau0 a b)⟩ ?_
 refine WL.thru ⟨[qau1, qau2, sl 5 (B x5), sl 6 (I x6), sl 40 (B ((decide (x6 < (a.fNext.length : Int))) && x5))], (qau0 a b)⟩ ?_ ?_
 refine splitB (decide (x6 < (a.fNext.length : Int))) (fun hb0 => ?_) (fun hb0 => ?_)
 refine WL.sB 38 hb0 ?_
 refine WL.r ht hn 2 ⟨[qau1, qau2, sl 5 (B x5), sl 6 (I x6), sl 40 (B x5)], (qau0 a b)⟩ ?_
 exact WL.nil (sub_ok (by simp only [hb0]; kernel_rfl))
 refine WL.sB 38 hb0 ?_
 refine WL.r ht hn 2 ⟨[qau1, qau2, sl 5 (B x5), sl 6 (I x6), sl 40 (B false)], (qau0 a b)⟩ ?_
 exact WL.nil (sub_ok (by simp only [hb0]; kernel_rfl))
 refine En.ch h (fun h => ?_) (fun h => ?_)
 refine En.skip ?_
 refine En.seq ?_
 refine En.block ?_
 obtain ⟨e, he, h⟩ := h
 obtain ⟨e_2, he_2, h⟩ := h
 refine En.regionA ⟨[qau1, qau2, sl 6 (I x6)], [.sv (.one (.ptr 0 2)), .sv (.one (LS (lsT intT) a.fNext)), .sv (.one (I x6)), .sv (.one (.pe (svR (.one (LS intT e))) 1)), .sv (.one (LS intT e)), .sv (.one (.ptr 1 2)), .sv (.one (LS (lsT intT) b.fNext)), .sv (.one (I x6)), .sv (.one (.pe (svR (.one (LS intT e_2))) 1)), .sv (.one (LS intT e_2)), .sv (.one (B (decide (e = e_2)))), .sv (.one (B (decide (e = e_2))))], [⟨.box (ApiDet.cl a) 25 false, none, none, none⟩, ⟨.box (ApiDet.cl b) 25 false, none, none, none⟩]⟩ ⟨[qau1, qau2, sl 5 (B (decide (e = e_2))), sl 6 (I x6)], (qau0 a b)⟩ (by kernel_rfl) hn (by kernel_rfl) (by rfl) (by kernel_rfl) ?_ (by kernel_rfl) ?_
 exact ⟨.ev ⟨[qau1], []⟩ ht,
 .ev ⟨[sl 43 (.ptr 0 2)], [.box (ApiDet.cl a) 25 false]⟩ ht,
 .ev ⟨[sl 6 (I x6)], []⟩ ht,
 .vl ⟨[sl 44 (LS (lsT intT) a.fNext), sl 45 (I x6)], []⟩ (mt_val (val_ix (T := (lsT intT)) (l := a.fNext) (i := x6) ht rfl he)),
 .vl ⟨[sl 46 (.pe (svR (.one (LS intT e))) 1)], []⟩ (mt_val (val_ld (s := .one (LS intT e)) ht rfl)),
 .ev ⟨[qau2], []⟩ ht,
 .ev ⟨[sl 48 (.ptr 1 2)], [.gone, .box (ApiDet.cl b) 25 false]⟩ ht,
 .ev ⟨[sl 6 (I x6)], []⟩ ht,
 .vl ⟨[sl 49 (LS (lsT intT) b.fNext), sl 50 (I x6)], []⟩ (mt_val (val_ix (T := (lsT intT)) (l := b.fNext) (i := x6) ht rfl he_2)),
 .vl ⟨[sl 51 (.pe (svR (.one (LS intT e_2))) 1)], []⟩ (mt_val (val_ld (s := .one (LS intT e_2)) ht rfl)),
 .vl ⟨[sl 47 (LS intT e), sl 52 (LS intT e_2)], []⟩ (mt_c (sameWords_ct e e_2) en12 rfl),
 .ev ⟨[sl 53 (B (decide (e = e_2)))], []⟩ ht,
 trivial⟩
 refine En.region ?_
 refine WL.rn ht hn 3 ⟨[qau1, qau2, sl 5 (B (decide (e = e_2))), sl 6 (I (wr (x6 + 1)))], (qau0 a b)⟩ ?_
 exact En.at (I := fun zz => Inv zz.1 zz.2 ∧ mu zz.1 zz.2 < mu x5 x6) (T := fun zz => ⟨[qau1, qau2, sl 5 (B zz.1), sl 6 (I zz.2)], (qau0 a b)⟩) ((decide (e = e_2)), (wr (x6 + 1))) h (by kernel_rfl)
 refine En.exit rfl ?_
 refine En.sr ?_
 refine WL.rn ht hn 2 ⟨[sl 4 (B x5)], [.gone, .gone]⟩ ?_
 exact En.rb ht x5 h
theorem en13 : ∀ args w, (callFunc 13 args).run Try.prog w = .ok (.enter 13 args) w := enters_of Try.func13 (by kernel_rfl) rfl
theorem alike_ct (a : ApiDet) (b : ApiDet)  : Ct 13 [.sv (.agg [I a.fLetters, I a.fStart, LS (lsT intT) a.fNext, LS intT a.fMark]), .sv (.agg [I b.fLetters, I b.fStart, LS (lsT intT) b.fNext, LS intT b.fMark])] [] (fun (_ : Unit) => True) (fun _ => .sv (.one (B (decide (a = b))))) := by
 refine (alike_walk a b (fun res_ => res_ = (decide (a = b))) ?_).fun
 intro hl _ _ _
 refine ⟨fun h => ?_, fun h => ?_⟩
 ·exact (decide_eq_false (fun e => by subst e; simp at h)).symm
 simp only [Bool.or_eq_false_iff, bne_eq_false_iff_eq] at h
 obtain ⟨⟨h1, h2⟩, h3⟩ := h
 refine ⟨fun m i => ∃ k : Nat, i = k ∧ k ≤ a.fNext.length ∧ (m = true → a.fMark = b.fMark ∧ a.fNext.take k = b.fNext.take k) ∧ (m = false → a ≠ b), fun m i => a.fNext.length - i.toNat, ⟨0, rfl, Nat.zero_le _, fun h => ⟨of_decide_eq_true h, rfl⟩, fun h e => of_decide_eq_false h (by rw [e])⟩, ?_⟩
 rintro m i ⟨k, rfl, hk, ht, hf⟩
 refine ⟨fun hb => ?_, fun hb => ?_⟩
 ·simp only [Bool.and_eq_true] at hb
  have hlt := dlt hb.1
  have hlt' : k < b.fNext.length := by omega
  obtain ⟨hm, htk⟩ := ht hb.2
  refine ⟨_, idx_at hlt, _, idx_at hlt', ⟨k + 1, ?_, hlt, fun he => ⟨hm, ?_⟩, fun he e => ?_⟩, ?_⟩
  ·rw [wr_in (by omega) (by omega)]; omega
  ·rw [List.take_add_one, List.take_add_one, htk, List.getElem?_eq_getElem hlt, List.getElem?_eq_getElem hlt', of_decide_eq_true he]
  ·subst e; exact of_decide_eq_false he rfl
  ·rw [wr_in (by omega) (by omega)]; simp only; omega
 ·cases m with
  | false => exact (decide_eq_false (hf rfl)).symm
  | true =>
   rw [Bool.and_true] at hb
   have hge := dge hb
   obtain ⟨hm, htk⟩ := ht rfl
   rw [List.take_of_length_le hge, List.take_of_length_le (by omega)] at htk
   refine (decide_eq_true ?_).symm
   obtain ⟨a1, a2, a3, a4⟩ := a
   obtain ⟨b1, b2, b3, b4⟩ := b
   simp only at h1 h2 hm htk
   rw [h1, h2, hm, htk]
def lBli_vc (a : ApiDet) (b : ApiDet) (Q : Bool → Prop) : Prop :=
 a.fNext.length ≤ 9223372036854775807 →
 a.fMark.length ≤ 9223372036854775807 →
 b.fNext.length ≤ 9223372036854775807 →
 b.fMark.length ≤ 9223372036854775807 →
 (IfP (!(true)) (Q false) (IfP ((((learnR a).2 != 0) || ((learnR b).2 != 0)) || (a.fLetters != b.fLetters)) (Q true) (IfP ((((learnR a).1.length : Int) == 0) || (((learnR b).1.length : Int) == 0)) (Q false) (∃ (Inv : Int → Prop) (mu : Int → Nat), Inv 0 ∧
 ∀ (x10 : Int) , Inv x10 → (IfP ((decide (x10 < ((learnR a).1.length : Int))) && (decide (x10 < ((learnR b).1.length : Int)))) (∃ J : Prop, (∃ e, idx (learnR a).1 x10 = some e ∧
 ∃ e_2, idx (learnR b).1 x10 = some e_2 ∧
 IfP (e.fGuessed != e_2.fGuessed) (Q false) (IfP (!e.fGuessed) (IfP (!(decide (e.fWord = e_2.fWord))) (Q false) (IfP (e.fYes != e_2.fYes) (Q true) (J))) (IfP (!(decide (e.fGuess = e_2.fGuess))) (Q false) (IfP ((e.fRight != e_2.fRight) || (!(decide (e.fWord = e_2.fWord)))) (Q true) (J))))) ∧
 (J → (Inv (wr (x10 + 1)) ∧ mu (wr (x10 + 1)) < mu x10))) (Q (((learnR a).1.length : Int) == ((learnR b).1.length : Int))))))))
noncomputable abbrev qav0 (a : ApiDet) := sl 6 (LS ApiQuery.ty (learnR a).1)
noncomputable abbrev qav1 (b : ApiDet) := sl 8 (LS ApiQuery.ty (learnR b).1)
noncomputable abbrev qav2 (a : ApiDet) (b : ApiDet) := ([.box (ApiDet.cl a) 25 false, .box (ApiDet.cl b) 25 false] : List Item)
noncomputable abbrev qav3 := ([.gone, .gone, .gone, .gone] : List Item)
noncomputable abbrev qav4 (y0) (y1) (y2) (y3) (y4) (y5) (y6) (y7) := (.box [B y0, LS intT y1, B y2, I y3, I y4, LS (lsT intT) y5, LS intT y6, B y7] 32 false : Item)
noncomputable abbrev qav5 (y0) (y1) (y2) (y3) (y4) (y5) (y6) (y7) := (.box [B y0, LS intT y1, B y2, I y3, I y4, LS (lsT intT) y5, LS intT y6, B y7] 32 false : Item)
noncomputable abbrev qav6 := ([.gone, .gone] : List Item)
set_option maxHeartbeats 2000000 in
theorem lBli_walk (a : ApiDet) (b : ApiDet) (Q : Bool → Prop) (h : lBli_vc a b Q) : Ct 3 [.sv (.agg [I a.fLetters, I a.fStart, LS (lsT intT) a.fNext, LS intT a.fMark]), .sv (.agg [I b.fLetters, I b.fStart, LS (lsT intT) b.fNext, LS intT b.fMark])] [] Q (fun (r : Bool) => .sv (.one (B r))) := by
 have ht := tab_ok
 refine Ct.body Try.func3 rfl rfl rfl rfl (fun c hn => ?_)
 unfold lBli_vc at h
 refine En.lenA 0 2 (by rfl) (by rfl) (fun hl => ?_)
 replace h := h hl
 clear hl
 refine En.lenA 0 3 (by rfl) (by rfl) (fun hl => ?_)
 replace h := h hl
 clear hl
 refine En.lenA 1 2 (by rfl) (by rfl) (fun hl => ?_)
 replace h := h hl
 clear hl
 refine En.lenA 1 3 (by rfl) (by rfl) (fun hl => ?_)
 replace h := h hl
 clear hl
 refine En.sr ?_
 refine WL.rn ht hn 3 ⟨[sl 2 (.ptr 0 0), sl 3 (.ptr 1 0)], (qav2 a b)⟩ ?_
 refine En.sr ?_
 refine WL.m0 hn (mt_c (closed_ct ) en10 rfl) ?_
 refine WL.rn ht hn 1 ⟨[sl 2 (.ptr 0 0), sl 3 (.ptr 1 0), sl 5 (B true)], (qav2 a b)⟩ ?_
 refine En.seq ?_
 refine En.sr ?_
 refine WL.rn ht hn 2 ⟨[sl 2 (.ptr 0 0), sl 3 (.ptr 1 0), sl 17 (B (!(true)))], (qav2 a b)⟩ ?_
 refine En.ch h (fun h => ?_) (fun h => ?_)
 refine En.sr ?_
 refine WL.rn ht hn 1 ⟨[sl 4 (B false)], qav6⟩ ?_
 exact En.rb ht false h
 refine En.skip ?_
 refine En.sr ?_
 refine WL.r ht hn 1 ⟨[sl 2 (.ptr 0 0), sl 3 (.ptr 1 0), (19, .sv (.agg (ApiDet.cl a)))], (qav2 a b)⟩ ?_
 refine WL.m0 hn (mt_c (lLrn_ct a) en11 rfl) ?_
 refine WL.rn ht hn 5 ⟨[sl 2 (.ptr 0 0), sl 3 (.ptr 1 0), qav0 a, sl 7 (I (learnR a).2)], (qav2 a b)⟩ ?_
 refine En.sr ?_
 refine WL.r ht hn 1 ⟨[sl 2 (.ptr 0 0), sl 3 (.ptr 1 0), qav0 a, sl 7 (I (learnR a).2), (24, .sv (.agg (ApiDet.cl b)))], (qav2 a b)⟩ ?_
 refine WL.m0 hn (mt_c (lLrn_ct b) en11 rfl) ?_
 refine WL.rn ht hn 5 ⟨[sl 2 (.ptr 0 0), sl 3 (.ptr 1 0), qav0 a, sl 7 (I (learnR a).2), qav1 b, sl 9 (I (learnR b).2)], (qav2 a b)⟩ ?_
 refine En.seq ?_
 refine En.sr ?_
 refine WL.r ht hn 3 ⟨[sl 2 (.ptr 0 0), sl 3 (.ptr 1 0), qav0 a, qav1 b, sl 9 (I (learnR b).2), sl 30 (B ((learnR a).2 != 0))], (qav2 a b)⟩ ?_
 refine WL.thru ⟨[qav0 a, qav1 b, sl 40 (B ((((learnR a).2 != 0) || ((learnR b).2 != 0)) || (a.fLetters != b.fLetters)))], qav6⟩ ?_ ?_
 refine splitB ((learnR a).2 != 0) (fun hb0 => ?_) (fun hb0 => ?_)
 refine WL.sB 30 hb0 ?_
 refine WL.r ht hn 10 ⟨[qav0 a, qav1 b, sl 40 (B true)], qav6⟩ ?_
 exact WL.nil (sub_ok (by simp only [hb0]; kernel_rfl))
 refine WL.sB 30 hb0 ?_
 refine WL.r ht hn 4 ⟨[sl 2 (.ptr 0 0), sl 3 (.ptr 1 0), qav0 a, qav1 b, sl 34 (B ((learnR b).2 != 0))], (qav2 a b)⟩ ?_
 refine splitB ((learnR b).2 != 0) (fun hb1 => ?_) (fun hb1 => ?_)
 refine WL.sB 34 hb1 ?_
 refine WL.r ht hn 6 ⟨[qav0 a, qav1 b, sl 40 (B true)], qav6⟩ ?_
 exact WL.nil (sub_ok (by simp only [hb0, hb1]; kernel_rfl))
 refine WL.sB 34 hb1 ?_
 refine WL.r ht hn 6 ⟨[qav0 a, qav1 b, sl 40 (B (a.fLetters != b.fLetters))], qav6⟩ ?_
 exact WL.nil (sub_ok (by simp only [hb0, hb1]; kernel_rfl))
 refine En.ch h (fun h => ?_) (fun h => ?_)
 refine En.sr ?_
 refine WL.rn ht hn 1 ⟨[sl 4 (B true)], qav6⟩ ?_
 exact En.rb ht true h
 refine En.skip ?_
 refine En.seq ?_
 refine En.sr ?_
 refine WL.r ht hn 4 ⟨[qav0 a, qav1 b, sl 44 (B (((learnR a).1.length : Int) == 0))], qav6⟩ ?_
 refine WL.thru ⟨[qav0 a, qav1 b, sl 48 (B ((((learnR a).1.length : Int) == 0) || (((learnR b).1.length : Int) == 0)))], qav6⟩ ?_ ?_
 refine splitB (((learnR a).1.length : Int) == 0) (fun hb0 => ?_) (fun hb0 => ?_)
 refine WL.sB 44 hb0 ?_
 refine WL.r ht hn 4 ⟨[qav0 a, qav1 b, sl 48 (B true)], qav6⟩ ?_
 exact WL.nil (sub_ok (by simp only [hb0]; kernel_rfl))
 refine WL.sB 44 hb0 ?_
 refine WL.r ht hn 4 ⟨[qav0 a, qav1 b, sl 48 (B (((learnR b).1.length : Int) == 0))], qav6⟩ ?_
 exact WL.nil (sub_ok (by simp only [hb0]; kernel_rfl))
 refine En.ch h (fun h => ?_) (fun h => ?_)
 refine En.sr ?_
 refine WL.rn ht hn 1 ⟨[sl 4 (B false)], qav6⟩ ?_
 exact En.rb ht false h
 refine En.skip ?_
 refine En.seq ?_
 refine En.sr ?_
 refine WL.rn ht hn 1 ⟨[qav0 a, qav1 b, sl 10 (I 0)], qav6⟩ ?_
 refine En.block ?_
 obtain ⟨Inv, mu, h0, hI⟩ := h
 refine En.loop (σ := Int) (fun zz => Inv zz) (fun zz => mu zz) (fun zz => ⟨[qav0 a, qav1 b, sl 10 (I zz)], qav6⟩) 0 h0 (sub_ok (by kernel_rfl)) ?_
 intro x10 h
 replace h := hI _ h
 show En c ⟨[qav0 a, qav1 b, sl 10 (I x10)], qav6⟩ _
 refine En.seq ?_
 refine En.sr ?_
 refine WL.r ht hn 5 ⟨[qav0 a, qav1 b, sl 10 (I x10), sl 53 (B (decide (x10 < ((learnR a).1.length : Int))))], qav6⟩ ?_
 refine WL.thru ⟨[qav0 a, qav1 b, sl 10 (I x10), sl 58 (B ((decide (x10 < ((learnR a).1.length : Int))) && (decide (x10 < ((learnR b).1.length : Int)))))], qav6⟩ ?_ ?_
 refine splitB (decide (x10 < ((learnR a).1.length : Int))) (fun hb0 => ?_) (fun hb0 => ?_)
 refine WL.sB 53 hb0 ?_
 refine WL.r ht hn 5 ⟨[qav0 a, qav1 b, sl 10 (I x10), sl 58 (B (decide (x10 < ((learnR b).1.length : Int))))], qav6⟩ ?_
 exact WL.nil (sub_ok (by simp only [hb0]; kernel_rfl))
 refine WL.sB 53 hb0 ?_
 refine WL.r ht hn 5 ⟨[qav0 a, qav1 b, sl 10 (I x10), sl 58 (B false)], qav6⟩ ?_
 exact WL.nil (sub_ok (by simp only [hb0]; kernel_rfl))
 refine En.ch h (fun h => ?_) (fun h => ?_)
 refine En.skip ?_
 obtain ⟨J, h, hJ⟩ := h
 refine En.seqJ (σ := Unit) (fun _ => J) (fun _ => ⟨[qav0 a, qav1 b, sl 10 (I x10)], qav3⟩) ?_ ?_
 refine En.block ?_
 refine En.sr ?_
 refine WL.r ht hn 2 ⟨[qav0 a, qav1 b, sl 10 (I x10), sl 61 (LS ApiQuery.ty (learnR a).1), sl 62 (I x10)], qav6⟩ ?_
 obtain ⟨e, he, h⟩ := h
 refine WL.v hn (val_ix (T := ApiQuery.ty) (l := (learnR a).1) (i := x10) ht rfl he) ?_
 refine WL.v hn (val_ld (s := .agg [B e.fGuessed, LS intT e.fWord, B e.fYes, I e.fGuess.fLetters, I e.fGuess.fStart, LS (lsT intT) e.fGuess.fNext, LS intT e.fGuess.fMark, B e.fRight]) ht rfl) ?_
 refine WL.rn ht hn 2 ⟨[qav0 a, qav1 b, sl 10 (I x10), sl 11 (.ptr 2 0)], [.gone, .gone, qav4 e.fGuessed e.fWord e.fYes e.fGuess.fLetters e.fGuess.fStart e.fGuess.fNext e.fGuess.fMark e.fRight]⟩ ?_
 refine En.sr ?_
 refine WL.r ht hn 2 ⟨[qav0 a, qav1 b, sl 10 (I x10), sl 11 (.ptr 2 0), sl 65 (LS ApiQuery.ty (learnR b).1), sl 66 (I x10)], [.gone, .gone, qav4 e.fGuessed e.fWord e.fYes e.fGuess.fLetters e.fGuess.fStart e.fGuess.fNext e.fGuess.fMark e.fRight]⟩ ?_
 obtain ⟨e_2, he_2, h⟩ := h
 refine WL.v hn (val_ix (T := ApiQuery.ty) (l := (learnR b).1) (i := x10) ht rfl he_2) ?_
 refine WL.v hn (val_ld (s := .agg [B e_2.fGuessed, LS intT e_2.fWord, B e_2.fYes, I e_2.fGuess.fLetters, I e_2.fGuess.fStart, LS (lsT intT) e_2.fGuess.fNext, LS intT e_2.fGuess.fMark, B e_2.fRight]) ht rfl) ?_
 refine WL.rn ht hn 2 ⟨[qav0 a, qav1 b, sl 10 (I x10), sl 11 (.ptr 2 0), sl 12 (.ptr 3 0)], [.gone, .gone, qav4 e.fGuessed e.fWord e.fYes e.fGuess.fLetters e.fGuess.fStart e.fGuess.fNext e.fGuess.fMark e.fRight, qav5 e_2.fGuessed e_2.fWord e_2.fYes e_2.fGuess.fLetters e_2.fGuess.fStart e_2.fGuess.fNext e_2.fGuess.fMark e_2.fRight]⟩ ?_
 refine En.seq ?_
 refine En.sr ?_
 refine WL.r ht hn 4 ⟨[qav0 a, qav1 b, sl 10 (I x10), sl 11 (.ptr 2 0), sl 12 (.ptr 3 0), sl 70 (B e.fGuessed), sl 72 (B e_2.fGuessed)], [.gone, .gone, qav4 e.fGuessed e.fWord e.fYes e.fGuess.fLetters e.fGuess.fStart e.fGuess.fNext e.fGuess.fMark e.fRight, qav5 e_2.fGuessed e_2.fWord e_2.fYes e_2.fGuess.fLetters e_2.fGuess.fStart e_2.fGuess.fNext e_2.fGuess.fMark e_2.fRight]⟩ ?_
 refine WL.v hn (val_eqB (u := e.fGuessed) (v := e_2.fGuessed) rfl Try.underlying4 (by rfl) (by rfl) (.inr ⟨rfl, rfl⟩)) ?_
 refine WL.nil ?_
 refine En.ch h (fun h => ?_) (fun h => ?_)
 refine En.sr ?_
 refine WL.rn ht hn 1 ⟨[sl 4 (B false)], qav3⟩ ?_
 exact En.rb ht false h
 refine En.skip ?_
 refine En.sr ?_
 refine WL.r ht hn 4 ⟨[qav0 a, qav1 b, sl 10 (I x10), sl 11 (.ptr 2 0), sl 12 (.ptr 3 0), sl 75 (LS intT e.fWord), sl 77 (LS intT e_2.fWord)], [.gone, .gone, qav4 e.fGuessed e.fWord e.fYes e.fGuess.fLetters e.fGuess.fStart e.fGuess.fNext e.fGuess.fMark e.fRight, qav5 e_2.fGuessed e_2.fWord e_2.fYes e_2.fGuess.fLetters e_2.fGuess.fStart e_2.fGuess.fNext e_2.fGuess.fMark e_2.fRight]⟩ ?_
 refine WL.m0 hn (mt_c (sameWords_ct e.fWord e_2.fWord) en12 rfl) ?_
 refine WL.rn ht hn 1 ⟨[qav0 a, qav1 b, sl 10 (I x10), sl 11 (.ptr 2 0), sl 12 (.ptr 3 0), sl 13 (B (decide (e.fWord = e_2.fWord)))], [.gone, .gone, qav4 e.fGuessed e.fWord e.fYes e.fGuess.fLetters e.fGuess.fStart e.fGuess.fNext e.fGuess.fMark e.fRight, qav5 e_2.fGuessed e_2.fWord e_2.fYes e_2.fGuess.fLetters e_2.fGuess.fStart e_2.fGuess.fNext e_2.fGuess.fMark e_2.fRight]⟩ ?_
 refine En.seq ?_
 refine En.sr ?_
 refine WL.rn ht hn 3 ⟨[qav0 a, qav1 b, sl 10 (I x10), sl 11 (.ptr 2 0), sl 12 (.ptr 3 0), sl 13 (B (decide (e.fWord = e_2.fWord))), sl 81 (B (!e.fGuessed))], [.gone, .gone, qav4 e.fGuessed e.fWord e.fYes e.fGuess.fLetters e.fGuess.fStart e.fGuess.fNext e.fGuess.fMark e.fRight, qav5 e_2.fGuessed e_2.fWord e_2.fYes e_2.fGuess.fLetters e_2.fGuess.fStart e_2.fGuess.fNext e_2.fGuess.fMark e_2.fRight]⟩ ?_
 refine En.ch h (fun h => ?_) (fun h => ?_)
 refine En.seq ?_
 refine En.sr ?_
 refine WL.rn ht hn 2 ⟨[qav0 a, qav1 b, sl 10 (I x10), sl 11 (.ptr 2 0), sl 12 (.ptr 3 0), sl 83 (B (!(decide (e.fWord = e_2.fWord))))], [.gone, .gone, qav4 e.fGuessed e.fWord e.fYes e.fGuess.fLetters e.fGuess.fStart e.fGuess.fNext e.fGuess.fMark e.fRight, qav5 e_2.fGuessed e_2.fWord e_2.fYes e_2.fGuess.fLetters e_2.fGuess.fStart e_2.fGuess.fNext e_2.fGuess.fMark e_2.fRight]⟩ ?_
 refine En.ch h (fun h => ?_) (fun h => ?_)
 refine En.sr ?_
 refine WL.rn ht hn 1 ⟨[sl 4 (B false)], qav3⟩ ?_
 exact En.rb ht false h
 refine En.skip ?_
 refine En.seq ?_
 refine En.sr ?_
 refine WL.r ht hn 4 ⟨[qav0 a, qav1 b, sl 10 (I x10), sl 85 (B e.fYes), sl 87 (B e_2.fYes)], qav3⟩ ?_
 refine WL.v hn (val_eqB (u := e.fYes) (v := e_2.fYes) rfl Try.underlying4 (by rfl) (by rfl) (.inr ⟨rfl, rfl⟩)) ?_
 refine WL.nil ?_
 refine En.ch h (fun h => ?_) (fun h => ?_)
 refine En.sr ?_
 refine WL.rn ht hn 1 ⟨[sl 4 (B true)], qav3⟩ ?_
 exact En.rb ht true h
 refine En.skip ?_
 refine En.exit rfl ?_
 exact En.at (I := fun _ => J) (T := fun _ => ⟨[qav0 a, qav1 b, sl 10 (I x10)], qav3⟩) () h (by kernel_rfl)
 refine En.skip ?_
 refine En.sr ?_
 refine WL.r ht hn 4 ⟨[qav0 a, qav1 b, sl 10 (I x10), sl 11 (.ptr 2 0), sl 12 (.ptr 3 0), sl 13 (B (decide (e.fWord = e_2.fWord))), (90, .sv (.agg (ApiDet.cl e.fGuess))), (92, .sv (.agg (ApiDet.cl e_2.fGuess)))], [.gone, .gone, qav4 e.fGuessed e.fWord e.fYes e.fGuess.fLetters e.fGuess.fStart e.fGuess.fNext e.fGuess.fMark e.fRight, qav5 e_2.fGuessed e_2.fWord e_2.fYes e_2.fGuess.fLetters e_2.fGuess.fStart e_2.fGuess.fNext e_2.fGuess.fMark e_2.fRight]⟩ ?_
 refine WL.m0 hn (mt_c (alike_ct e.fGuess e_2.fGuess) en13 rfl) ?_
 refine WL.rn ht hn 1 ⟨[qav0 a, qav1 b, sl 10 (I x10), sl 11 (.ptr 2 0), sl 12 (.ptr 3 0), sl 13 (B (decide (e.fWord = e_2.fWord))), sl 14 (B (decide (e.fGuess = e_2.fGuess)))], [.gone, .gone, qav4 e.fGuessed e.fWord e.fYes e.fGuess.fLetters e.fGuess.fStart e.fGuess.fNext e.fGuess.fMark e.fRight, qav5 e_2.fGuessed e_2.fWord e_2.fYes e_2.fGuess.fLetters e_2.fGuess.fStart e_2.fGuess.fNext e_2.fGuess.fMark e_2.fRight]⟩ ?_
 refine En.seq ?_
 refine En.sr ?_
 refine WL.rn ht hn 2 ⟨[qav0 a, qav1 b, sl 10 (I x10), sl 11 (.ptr 2 0), sl 12 (.ptr 3 0), sl 13 (B (decide (e.fWord = e_2.fWord))), sl 95 (B (!(decide (e.fGuess = e_2.fGuess))))], [.gone, .gone, qav4 e.fGuessed e.fWord e.fYes e.fGuess.fLetters e.fGuess.fStart e.fGuess.fNext e.fGuess.fMark e.fRight, qav5 e_2.fGuessed e_2.fWord e_2.fYes e_2.fGuess.fLetters e_2.fGuess.fStart e_2.fGuess.fNext e_2.fGuess.fMark e_2.fRight]⟩ ?_
 refine En.ch h (fun h => ?_) (fun h => ?_)
 refine En.sr ?_
 refine WL.rn ht hn 1 ⟨[sl 4 (B false)], qav3⟩ ?_
 exact En.rb ht false h
 refine En.skip ?_
 refine En.sr ?_
 refine WL.r ht hn 4 ⟨[qav0 a, qav1 b, sl 10 (I x10), sl 13 (B (decide (e.fWord = e_2.fWord))), sl 97 (B e.fRight), sl 99 (B e_2.fRight)], qav3⟩ ?_
 refine WL.v hn (val_eqB (u := e.fRight) (v := e_2.fRight) rfl Try.underlying4 (by rfl) (by rfl) (.inr ⟨rfl, rfl⟩)) ?_
 refine WL.r ht hn 1 ⟨[qav0 a, qav1 b, sl 10 (I x10), sl 13 (B (decide (e.fWord = e_2.fWord))), sl 101 (B (e.fRight != e_2.fRight))], qav3⟩ ?_
 refine WL.thru ⟨[qav0 a, qav1 b, sl 10 (I x10), sl 104 (B ((e.fRight != e_2.fRight) || (!(decide (e.fWord = e_2.fWord)))))], qav3⟩ ?_ ?_
 refine splitB (e.fRight != e_2.fRight) (fun hb0 => ?_) (fun hb0 => ?_)
 refine WL.sB 101 hb0 ?_
 refine WL.r ht hn 3 ⟨[qav0 a, qav1 b, sl 10 (I x10), sl 104 (B true)], qav3⟩ ?_
 exact WL.nil (sub_ok (by simp only [hb0]; kernel_rfl))
 refine WL.sB 101 hb0 ?_
 refine WL.r ht hn 3 ⟨[qav0 a, qav1 b, sl 10 (I x10), sl 104 (B (!(decide (e.fWord = e_2.fWord))))], qav3⟩ ?_
 exact WL.nil (sub_ok (by simp only [hb0]; kernel_rfl))
 refine En.ch h (fun h => ?_) (fun h => ?_)
 refine En.sr ?_
 refine WL.rn ht hn 1 ⟨[sl 4 (B true)], qav3⟩ ?_
 exact En.rb ht true h
 refine En.skip ?_
 exact En.at (I := fun _ => J) (T := fun _ => ⟨[qav0 a, qav1 b, sl 10 (I x10)], qav3⟩) () h (by kernel_rfl)
 intro _ h
 replace h := hJ h
 show En c ⟨[qav0 a, qav1 b, sl 10 (I x10)], qav3⟩ _
 refine En.region ?_
 refine WL.rn ht hn 3 ⟨[qav0 a, qav1 b, sl 10 (I (wr (x10 + 1)))], qav3⟩ ?_
 exact En.at (I := fun zz => Inv zz ∧ mu zz < mu x10) (T := fun zz => ⟨[qav0 a, qav1 b, sl 10 (I zz)], qav6⟩) (wr (x10 + 1)) h (by kernel_rfl)
 refine En.exit rfl ?_
 refine En.sr ?_
 refine WL.rn ht hn 6 ⟨[sl 4 (B (((learnR a).1.length : Int) == ((learnR b).1.length : Int)))], qav6⟩ ?_
 exact En.rb ht (((learnR a).1.length : Int) == ((learnR b).1.length : Int)) h
theorem lBli_ct (a : ApiDet) (b : ApiDet)  : Ct 3 [.sv (.agg [I a.fLetters, I a.fStart, LS (lsT intT) a.fNext, LS intT a.fMark]), .sv (.agg [I b.fLetters, I b.fStart, LS (lsT intT) b.fNext, LS intT b.fMark])] [] (fun (_ : Unit) => True) (fun _ => .sv (.one (B (true)))) := by
 refine (lBli_walk a b (fun res_ => res_ = (true)) ?_).fun
 unfold lBli_vc
 obtain ⟨X, hX⟩ : ∃ X, X = learnR a := ⟨_, rfl⟩
 obtain ⟨Y, hY⟩ : ∃ Y, Y = learnR b := ⟨_, rfl⟩
 rw [← hX, ← hY]
 intro _ _ _ _
 refine ⟨fun h => (by cases h), fun _ => ⟨fun _ => rfl, fun h => ?_⟩⟩
 simp only [Bool.or_eq_false_iff, bne_eq_false_iff_eq] at h
 obtain ⟨⟨h1, h2⟩, h3⟩ := h
 rw [hX] at h1
 rw [hY] at h2
 obtain ⟨n1, n2, hT⟩ := learn_two h1 h2 h3
 have hxl := learnR_len (d := a)
 rw [← hX] at n1 hT hxl
 rw [← hY] at n2 hT
 generalize X.1 = x at n1 hT hxl
 generalize Y.1 = y at n2 hT
 refine ⟨fun h => ?_, fun _ => ⟨fun i => ∃ k : Nat, i = k ∧ k ≤ x.length ∧ (x = y ∨ ∃ P p q R T, x = P ++ p :: R ∧ y = P ++ q :: T ∧ Diff p q ∧ k ≤ P.length), fun i => x.length - i.toNat, ⟨0, rfl, Nat.zero_le _, ?_⟩, ?_⟩⟩
 ·exfalso
  simp only [Bool.or_eq_true, beq_iff_eq] at h
  have e1 := List.length_pos_iff.2 n1
  have e2 := List.length_pos_iff.2 n2
  omega
 ·rcases hT with e | ⟨P, p, q, R, T, e1, e2, e3⟩
  ·exact .inl e
  ·exact .inr ⟨P, p, q, R, T, e1, e2, e3, Nat.zero_le _⟩
 rintro i ⟨k, rfl, hk, hc⟩
 refine ⟨fun hb => ?_, fun hb => ?_⟩
 ·rw [Bool.and_eq_true] at hb
  have k1 := dlt hb.1
  have k2 := dlt hb.2
  have same : x[k] = y[k] → (x = y ∨ ∃ P p q R T, x = P ++ p :: R ∧ y = P ++ q :: T ∧ Diff p q ∧ k + 1 ≤ P.length) → ∃ J : Prop, (∃ e, idx x (k : Int) = some e ∧ ∃ e_2, idx y (k : Int) = some e_2 ∧ IfP (e.fGuessed != e_2.fGuessed) (false = true) (IfP (!e.fGuessed) (IfP (!(decide (e.fWord = e_2.fWord))) (false = true) (IfP (e.fYes != e_2.fYes) (true = true) (J))) (IfP (!(decide (e.fGuess = e_2.fGuess))) (false = true) (IfP ((e.fRight != e_2.fRight) || (!(decide (e.fWord = e_2.fWord)))) (true = true) (J))))) ∧
    (J → ((∃ k' : Nat, wr ((k : Int) + 1) = k' ∧ k' ≤ x.length ∧ (x = y ∨ ∃ P p q R T, x = P ++ p :: R ∧ y = P ++ q :: T ∧ Diff p q ∧ k' ≤ P.length)) ∧ x.length - (wr ((k : Int) + 1)).toNat < x.length - (k : Int).toNat)) := fun e hn => by
   refine ⟨True, ⟨_, idx_at k1, _, idx_at k2, fun h => ?_, fun _ => ⟨fun _ => ⟨fun h => ?_, fun _ => ⟨fun _ => rfl, fun _ => trivial⟩⟩, fun _ => ⟨fun h => ?_, fun _ => ⟨fun _ => rfl, fun _ => trivial⟩⟩⟩⟩, fun _ => ⟨⟨k + 1, wsucc (by omega), k1, hn⟩, mu_up k1 (by omega)⟩⟩
   ·rw [e] at h
    simp at h
   ·rw [e] at h
    simp at h
   ·rw [e] at h
    simp at h
  rcases hc with rfl | ⟨P, p, q, R, T, rfl, rfl, hD, hP⟩
  ·exact same rfl (.inl rfl)
  ·rcases Nat.lt_or_ge k P.length with hlt | hge
   ·exact same (by rw [List.getElem_append_left hlt, List.getElem_append_left hlt]) (.inr ⟨P, p, q, R, T, rfl, rfl, hD, hlt⟩)
   ·obtain rfl : k = P.length := by omega
    have ep : (P ++ p :: R)[P.length] = p := by simp
    have eq : (P ++ q :: T)[P.length] = q := by simp
    obtain ⟨d1, d2⟩ := hD
    refine ⟨False, ⟨_, idx_at k1, _, idx_at k2, ?_⟩, fun h => h.elim⟩
    rw [ep, eq]
    refine ⟨fun h => ?_, fun _ => ⟨fun hg => ⟨fun h => ?_, fun _ => ⟨fun _ => rfl, fun h => ?_⟩⟩, fun hg => ⟨fun h => ?_, fun _ => ⟨fun _ => rfl, fun h => ?_⟩⟩⟩⟩
    ·rw [d1] at h
     simp at h
    ·rcases d2 with ⟨_, d3, _⟩ | ⟨d3, _⟩
     ·rw [d3] at h
      simp at h
     ·rw [d3] at hg
      cases hg
    ·rcases d2 with ⟨_, _, d4⟩ | ⟨d3, _⟩
     ·exact absurd (bne_eq_false_iff_eq.1 h) d4
     ·rw [d3] at hg
      cases hg
    ·rcases d2 with ⟨d3, _⟩ | ⟨_, d3, _⟩
     ·rw [d3] at hg
      cases hg
     ·rw [d3] at h
      simp at h
    ·rcases d2 with ⟨d3, _⟩ | ⟨_, _, d4⟩
     ·rw [d3] at hg
      cases hg
     ·rw [Bool.or_eq_false_iff] at h
      rcases d4 with d4 | d4
      ·exact absurd (bne_eq_false_iff_eq.1 h.1) d4
      ·simp at h
       exact absurd h.2 d4
 ·rcases hc with rfl | ⟨P, p, q, R, T, rfl, rfl, hD, hP⟩
  ·simp
  ·exfalso
   rw [Bool.and_eq_false_iff] at hb
   rcases hb with hb | hb
   ·have := dge hb
    rw [List.length_append, List.length_cons] at this
    omega
   ·have := dge hb
    rw [List.length_append, List.length_cons] at this
    omega
end Go.Proofs.Ytobenjahlicnoaa
