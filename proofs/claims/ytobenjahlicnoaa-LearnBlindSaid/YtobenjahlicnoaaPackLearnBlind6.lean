/- Lemmas towards the statement: mirrors of functions, and plain laws. No condition. -/
import Derived.Test.YtobenjahlicnoaaPackLearnBlind5
namespace Go.Proofs.Ytobenjahlicnoaa
open Go.RowKit Go.MapKept
set_option linter.unusedSimpArgs false
set_option linter.unusedVariables false
set_option maxRecDepth 100000
def difGo_vc (k : DetCouple) (a : Int) (x : ApiDet) (y : ApiDet) (Q : DetCouple → Prop) : Prop :=
 ∃ e, idx x.fNext k.fE0 = some e ∧
 ∃ e_2, idx e a = some e_2 ∧
 ∃ e_3, idx y.fNext k.fE1 = some e_3 ∧
 ∃ e_4, idx e_3 a = some e_4 ∧
 Q (DetCouple.mk e_2 e_4)
theorem difGo_walk (k : DetCouple) (a : Int) (x : ApiDet) (y : ApiDet) (Q : DetCouple → Prop) (h : difGo_vc k a x y Q) : Ct 132 [.sv (.agg [I k.fE0, I k.fE1]), .sv (.one (I a)), .sv (.one (.ptr 0 0)), .sv (.one (.ptr 1 0))] [.box [I x.fLetters, I x.fStart, LS (lsT intT) x.fNext, LS intT x.fMark] 25 true, .box [I y.fLetters, I y.fStart, LS (lsT intT) y.fNext, LS intT y.fMark] 25 true] Q (fun (r : DetCouple) => .sv (.agg [I r.fE0, I r.fE1])) := by
 have ht := tab_ok
 refine Ct.body Try.func132 rfl rfl rfl rfl (fun c hn => ?_)
 unfold difGo_vc at h
 refine En.sr ?_
 refine WL.rn ht hn 2 ⟨[sl 1 (I a), sl 2 (.ptr 0 0), sl 3 (.ptr 1 0), sl 4 (.ptr 2 0), sl 6 (.ptr 3 0)], [.box (ApiDet.cl x) 25 true, .box (ApiDet.cl y) 25 true, .box (DetCouple.cl k) 224 false, .box [I 0, I 0] 224 false]⟩ ?_
 refine En.seq ?_
 obtain ⟨e, he, h⟩ := h
 obtain ⟨e_2, he_2, h⟩ := h
 obtain ⟨e_3, he_3, h⟩ := h
 obtain ⟨e_4, he_4, h⟩ := h
 refine En.regionA ⟨[sl 1 (I a), sl 2 (.ptr 0 0), sl 3 (.ptr 1 0), sl 4 (.ptr 2 0), sl 6 (.ptr 3 0)], [.sv (.one (.ptr 0 2)), .sv (.one (LS (lsT intT) x.fNext)), .sv (.one (.ptr 2 0)), .sv (.one (I k.fE0)), .sv (.one (.pe (svR (.one (LS intT e))) 1)), .sv (.one (LS intT e)), .sv (.one (I a)), .sv (.one (.pe (svR (.one (I e_2))) 1)), .sv (.one (I e_2)), .sv (.one (.ptr 1 2)), .sv (.one (LS (lsT intT) y.fNext)), .sv (.one (.ptr 2 1)), .sv (.one (I k.fE1)), .sv (.one (.pe (svR (.one (LS intT e_3))) 1)), .sv (.one (LS intT e_3)), .sv (.one (I a)), .sv (.one (.pe (svR (.one (I e_4))) 1)), .sv (.one (I e_4)), .sv (.agg [I e_2, I e_4]), .tup []], [⟨.box (ApiDet.cl x) 25 true, none, none, none⟩, ⟨.box (ApiDet.cl y) 25 true, none, none, none⟩, ⟨.box (DetCouple.cl k) 224 false, none, none, none⟩, ⟨.box [I 0, I 0] 224 false, none, none, some (19, .box [I e_2, I e_4] 224 false)⟩]⟩ ⟨[sl 6 (.ptr 3 0)], [.gone, .gone, .gone, .box [I e_2, I e_4] 224 false]⟩ (by kernel_rfl) hn (by kernel_rfl) (by rfl) (by kernel_rfl) ?_ (by kernel_rfl) ?_
 exact ⟨.ev ⟨[sl 2 (.ptr 0 0)], []⟩ ht,
 .ev ⟨[sl 7 (.ptr 0 2)], [.box (ApiDet.cl x) 25 true]⟩ ht,
 .vl ⟨[sl 4 (.ptr 2 0)], [.gone, .gone, .box (DetCouple.cl k) 224 false]⟩ (mt_val (val_indexP (k := 0) 2 0 0 ht rfl Try.underlying224 (by rfl) (by rfl) (by rfl) (by rfl) (by decide) (by rfl))),
 .ev ⟨[sl 9 (.ptr 2 0)], [.gone, .gone, .box (DetCouple.cl k) 224 false]⟩ ht,
 .vl ⟨[sl 8 (LS (lsT intT) x.fNext), sl 10 (I k.fE0)], []⟩ (mt_val (val_ix (T := (lsT intT)) (l := x.fNext) (i := k.fE0) ht rfl he)),
 .vl ⟨[sl 11 (.pe (svR (.one (LS intT e))) 1)], []⟩ (mt_val (val_ld (s := .one (LS intT e)) ht rfl)),
 .ev ⟨[sl 1 (I a)], []⟩ ht,
 .vl ⟨[sl 12 (LS intT e), sl 13 (I a)], []⟩ (mt_val (val_ix (T := intT) (l := e) (i := a) ht rfl he_2)),
 .vl ⟨[sl 14 (.pe (svR (.one (I e_2))) 1)], []⟩ (mt_val (val_ld (s := .one (I e_2)) ht rfl)),
 .ev ⟨[sl 3 (.ptr 1 0)], []⟩ ht,
 .ev ⟨[sl 16 (.ptr 1 2)], [.gone, .box (ApiDet.cl y) 25 true]⟩ ht,
 .vl ⟨[sl 4 (.ptr 2 0)], [.gone, .gone, .box (DetCouple.cl k) 224 false]⟩ (mt_val (val_indexP (k := 1) 2 0 1 ht rfl Try.underlying224 (by rfl) (by rfl) (by rfl) (by rfl) (by decide) (by rfl))),
 .ev ⟨[sl 18 (.ptr 2 1)], [.gone, .gone, .box (DetCouple.cl k) 224 false]⟩ ht,
 .vl ⟨[sl 17 (LS (lsT intT) y.fNext), sl 19 (I k.fE1)], []⟩ (mt_val (val_ix (T := (lsT intT)) (l := y.fNext) (i := k.fE1) ht rfl he_3)),
 .vl ⟨[sl 20 (.pe (svR (.one (LS intT e_3))) 1)], []⟩ (mt_val (val_ld (s := .one (LS intT e_3)) ht rfl)),
 .ev ⟨[sl 1 (I a)], []⟩ ht,
 .vl ⟨[sl 21 (LS intT e_3), sl 22 (I a)], []⟩ (mt_val (val_ix (T := intT) (l := e_3) (i := a) ht rfl he_4)),
 .vl ⟨[sl 23 (.pe (svR (.one (I e_4))) 1)], []⟩ (mt_val (val_ld (s := .one (I e_4)) ht rfl)),
 .ev ⟨[sl 15 (I e_2), sl 24 (I e_4)], []⟩ ht,
 .mu ⟨[sl 6 (.ptr 3 0), (25, .sv (.agg [I e_2, I e_4]))], [.gone, .gone, .gone, .box [I 0, I 0] 224 false]⟩ 3 _ _ rfl rfl (by kernel_rfl) (by rfl) (mu_store2 ht rfl (by rfl) (by rfl) (by rfl) (by rfl) (fun h => by cases h) (by rfl) (by rfl)) rfl rfl rfl rfl rfl rfl rfl,
 trivial⟩
 exact En.rb ht (DetCouple.mk e_2 e_4) h
theorem en132 : ∀ args w, (callFunc 132 args).run Try.prog w = .ok (.enter 132 args) w := enters_of Try.func132 (by kernel_rfl) rfl
def difOk_vc (k : DetCouple) (x : ApiDet) (y : ApiDet) (Q : Bool → Prop) : Prop :=
 ∃ e, idx x.fMark k.fE0 = some e ∧
 ∃ e_2, idx y.fMark k.fE1 = some e_2 ∧
 Q (e != e_2)
noncomputable abbrev qy0 (x : ApiDet) (y : ApiDet) (k : DetCouple) := ([.box (ApiDet.cl x) 25 true, .box (ApiDet.cl y) 25 true, .box (DetCouple.cl k) 224 false] : List Item)
theorem difOk_walk (k : DetCouple) (x : ApiDet) (y : ApiDet) (Q : Bool → Prop) (h : difOk_vc k x y Q) : Ct 133 [.sv (.agg [I k.fE0, I k.fE1]), .sv (.one (.ptr 0 0)), .sv (.one (.ptr 1 0))] [.box [I x.fLetters, I x.fStart, LS (lsT intT) x.fNext, LS intT x.fMark] 25 true, .box [I y.fLetters, I y.fStart, LS (lsT intT) y.fNext, LS intT y.fMark] 25 true] Q (fun (r : Bool) => .sv (.one (B r))) := by
 have ht := tab_ok
 refine Ct.body Try.func133 rfl rfl rfl rfl (fun c hn => ?_)
 unfold difOk_vc at h
 refine En.sr ?_
 refine WL.rn ht hn 2 ⟨[sl 1 (.ptr 0 0), sl 2 (.ptr 1 0), sl 3 (.ptr 2 0)], (qy0 x y k)⟩ ?_
 refine En.seq ?_
 refine En.regionS (by kernel_rfl) (by kernel_rfl) ?_
 refine SL.run ht hn 2 ⟨[sl 1 (.ptr 0 0), sl 2 (.ptr 1 0), sl 3 (.ptr 2 0), sl 5 (.ptr 0 3), sl 6 (LS intT x.fMark)], (qy0 x y k)⟩ (by kernel_rfl) ?_
 refine SL.val hn (by rfl) (val_indexP (k := 0) 2 0 0 ht rfl Try.underlying224 (by rfl) (by rfl) (by rfl) (by rfl) (by decide) (by rfl)) (by rfl) ?_
 refine SL.run ht hn 1 ⟨[sl 1 (.ptr 0 0), sl 2 (.ptr 1 0), sl 3 (.ptr 2 0), sl 5 (.ptr 0 3), sl 6 (LS intT x.fMark), sl 7 (.ptr 2 0), sl 8 (I k.fE0)], (qy0 x y k)⟩ (by kernel_rfl) ?_
 obtain ⟨e, he, h⟩ := h
 refine SL.val hn (by rfl) (val_ix (T := intT) (l := x.fMark) (i := k.fE0) ht rfl he) (by rfl) ?_
 refine SL.val hn (by rfl) (val_ld (s := .one (I e)) ht rfl) (by rfl) ?_
 refine SL.run ht hn 2 ⟨[sl 1 (.ptr 0 0), sl 2 (.ptr 1 0), sl 3 (.ptr 2 0), sl 5 (.ptr 0 3), sl 6 (LS intT x.fMark), sl 7 (.ptr 2 0), sl 8 (I k.fE0), sl 9 (.pe (svR (.one (I e))) 1), sl 10 (I e), sl 11 (.ptr 1 3), sl 12 (LS intT y.fMark)], (qy0 x y k)⟩ (by kernel_rfl) ?_
 refine SL.val hn (by rfl) (val_indexP (k := 1) 2 0 1 ht rfl Try.underlying224 (by rfl) (by rfl) (by rfl) (by rfl) (by decide) (by rfl)) (by rfl) ?_
 refine SL.run ht hn 1 ⟨[sl 1 (.ptr 0 0), sl 2 (.ptr 1 0), sl 3 (.ptr 2 0), sl 5 (.ptr 0 3), sl 6 (LS intT x.fMark), sl 7 (.ptr 2 0), sl 8 (I k.fE0), sl 9 (.pe (svR (.one (I e))) 1), sl 10 (I e), sl 11 (.ptr 1 3), sl 12 (LS intT y.fMark), sl 13 (.ptr 2 1), sl 14 (I k.fE1)], (qy0 x y k)⟩ (by kernel_rfl) ?_
 obtain ⟨e_2, he_2, h⟩ := h
 refine SL.val hn (by rfl) (val_ix (T := intT) (l := y.fMark) (i := k.fE1) ht rfl he_2) (by rfl) ?_
 refine SL.val hn (by rfl) (val_ld (s := .one (I e_2)) ht rfl) (by rfl) ?_
 refine SL.run ht hn 2 ⟨[sl 1 (.ptr 0 0), sl 2 (.ptr 1 0), sl 3 (.ptr 2 0), sl 4 (B (e != e_2)), sl 5 (.ptr 0 3), sl 6 (LS intT x.fMark), sl 7 (.ptr 2 0), sl 8 (I k.fE0), sl 9 (.pe (svR (.one (I e))) 1), sl 10 (I e), sl 11 (.ptr 1 3), sl 12 (LS intT y.fMark), sl 13 (.ptr 2 1), sl 14 (I k.fE1), sl 15 (.pe (svR (.one (I e_2))) 1), sl 16 (I e_2), sl 17 (B (e != e_2))], (qy0 x y k)⟩ (by kernel_rfl) ?_
 refine SL.nil ⟨by kernel_rfl, ?_⟩
 exact En.rb ht (e != e_2) h
theorem en133 : ∀ args w, (callFunc 133 args).run Try.prog w = .ok (.enter 133 args) w := enters_of Try.func133 (by kernel_rfl) rfl
theorem difGo_ct (k : DetCouple) (a : Int) (x : ApiDet) (y : ApiDet) (hd : DGo x y k a)  : Ct 132 [.sv (.agg [I k.fE0, I k.fE1]), .sv (.one (I a)), .sv (.one (.ptr 0 0)), .sv (.one (.ptr 1 0))] [.box [I x.fLetters, I x.fStart, LS (lsT intT) x.fNext, LS intT x.fMark] 25 true, .box [I y.fLetters, I y.fStart, LS (lsT intT) y.fNext, LS intT y.fMark] 25 true] (fun (_ : Unit) => True) (fun _ => .sv (.agg [I (dGoR x y k a).fE0, I (dGoR x y k a).fE1])) := by
 refine (difGo_walk k a x y (fun res_ => res_ = (dGoR x y k a)) ?_).fun
 obtain ⟨h, hk, ha⟩ := hd
 obtain ⟨a1, a2, _⟩ := stepI_at h.dx hk.1 ha
 obtain ⟨b1, b2, _⟩ := stepI_at h.dy hk.2 (show InA y a from ⟨ha.1, by rw [← h.lets]; exact ha.2⟩)
 exact ⟨_, a1, _, a2, _, b1, _, b2, rfl⟩
theorem difOk_ct (k : DetCouple) (x : ApiDet) (y : ApiDet) (hd : DOk x y k)  : Ct 133 [.sv (.agg [I k.fE0, I k.fE1]), .sv (.one (.ptr 0 0)), .sv (.one (.ptr 1 0))] [.box [I x.fLetters, I x.fStart, LS (lsT intT) x.fNext, LS intT x.fMark] 25 true, .box [I y.fLetters, I y.fStart, LS (lsT intT) y.fNext, LS intT y.fMark] 25 true] (fun (_ : Unit) => True) (fun _ => .sv (.one (B (dOkR x y k)))) := by
 refine (difOk_walk k x y (fun res_ => res_ = (dOkR x y k)) ?_).fun
 obtain ⟨h, ⟨h1, h2⟩, h3, h4⟩ := hd
 have hm := h.dx.marks
 have hn := h.dy.marks
 exact ⟨_, idx_of 0 h1 (by omega), _, idx_of 0 h3 (by omega), rfl⟩
theorem seeks_ct (first : DetCouple) (letters : Int) (domnxt : ((DetCouple × Int) → Prop)) (nxt : ((DetCouple × Int) → DetCouple)) (domok : (DetCouple → Prop)) (ok : (DetCouple → Bool)) (hp : SeekPre first letters domnxt nxt domok)  : Ct 131 [.sv (.agg [I first.fE0, I first.fE1]), .sv (.one (I letters)), .sv (.one (.rd (fvR (fun (x : (DetCouple × Int)) => [.sv (.agg [I x.1.fE0, I x.1.fE1]), .sv (.one (I x.2))]) (fun (r : DetCouple) => .sv (.agg [I r.fE0, I r.fE1])) domnxt nxt))), .sv (.one (.rd (fvR (fun (x : DetCouple) => [.sv (.agg [I x.fE0, I x.fE1])]) (fun (r : Bool) => .sv (.one (B r))) domok ok)))] [] (fun (_ : Unit) => True) (fun _ => .tup [.one (LS intT (seekR first letters nxt ok).1), .one (B (seekR first letters nxt ok).2)]) := by
 refine (detSeeks_walk first letters domnxt nxt domok ok (fun res_ => res_ = (seekR first letters nxt ok)) ?_).fun
 exact seeks_plain first letters domnxt domok hp
def detDiffer_vc (x : ApiDet) (y : ApiDet) (Q : ((List Int) × Bool × Int) → Prop) : Prop :=
 x.fNext.length ≤ 9223372036854775807 →
 x.fMark.length ≤ 9223372036854775807 →
 y.fNext.length ≤ 9223372036854775807 →
 y.fMark.length ≤ 9223372036854775807 →
 (IfP ((twoErr x y) != 0) (Q ([], false, (twoErr x y))) ((SeekPre (DetCouple.mk x.fStart y.fStart) x.fLetters (fun (z : DetCouple × Int) => DGo x y z.1 z.2) (fun (z : DetCouple × Int) => dGoR x y z.1 z.2) (DOk x y)) ∧
 Q ((seekR (DetCouple.mk x.fStart y.fStart) x.fLetters (fun (z : DetCouple × Int) => dGoR x y z.1 z.2) (dOkR x y)).1, (seekR (DetCouple.mk x.fStart y.fStart) x.fLetters (fun (z : DetCouple × Int) => dGoR x y z.1 z.2) (dOkR x y)).2, 0)))
noncomputable abbrev qz0 (x : ApiDet) (y : ApiDet) := (fun (z : DetCouple × Int) => dGoR x y z.1 z.2)
noncomputable abbrev qz1 (x : ApiDet) (y : ApiDet) := (seekR (DetCouple.mk x.fStart y.fStart) x.fLetters (qz0 x y) (dOkR x y))
noncomputable abbrev qz2 (x : ApiDet) (y : ApiDet) := ([.box (ApiDet.cl x) 25 false, .box (ApiDet.cl y) 25 false] : List Item)
theorem detDiffer_walk (x : ApiDet) (y : ApiDet) (Q : ((List Int) × Bool × Int) → Prop) (h : detDiffer_vc x y Q) : Ct 78 [.sv (.agg [I x.fLetters, I x.fStart, LS (lsT intT) x.fNext, LS intT x.fMark]), .sv (.agg [I y.fLetters, I y.fStart, LS (lsT intT) y.fNext, LS intT y.fMark])] [] Q (fun (r : ((List Int) × Bool × Int)) => .tup [.one (LS intT r.1), .one (B r.2.1), .one (I r.2.2)]) := by
 have ht := tab_ok
 refine Ct.body Try.func78 rfl rfl rfl rfl (fun c hn => ?_)
 unfold detDiffer_vc at h
 refine En.lenA 0 2 (by rfl) (by rfl) (fun hl => ?_)
 replace h := h hl
 clear hl
 refine En.lenA 0 3 (by rfl) (by rfl) (fun hl => ?_)
 replace h := h hl
 clear hl
 refine En.lenA 1 2 (by rfl) (by rfl) (fun hl => ?_)
 replace h := h hl
 clear hl
 refine En.lenA 1 3 (by rfl) (by rfl) (fun hl => ?_)
 replace h := h hl
 clear hl
 refine En.sr ?_
 refine WL.rn ht hn 5 ⟨[sl 2 (.ptr 0 0), sl 3 (.ptr 1 0)], (qz2 x y)⟩ ?_
 refine En.seq ?_
 refine En.sr ?_
 refine WL.r ht hn 2 ⟨[sl 2 (.ptr 0 0), sl 3 (.ptr 1 0), (10, .sv (.agg (ApiDet.cl x))), (11, .sv (.agg (ApiDet.cl y)))], (qz2 x y)⟩ ?_
 refine WL.m0 hn (mt_c (detTwo_ct x y) en130 rfl) ?_
 refine WL.rn ht hn 1 ⟨[sl 2 (.ptr 0 0), sl 3 (.ptr 1 0), sl 7 (I (twoErr x y))], (qz2 x y)⟩ ?_
 refine En.sr ?_
 refine WL.rn ht hn 2 ⟨[sl 2 (.ptr 0 0), sl 3 (.ptr 1 0), sl 7 (I (twoErr x y)), sl 14 (B ((twoErr x y) != 0))], (qz2 x y)⟩ ?_
 refine En.ch h (fun h => ?_) (fun h => ?_)
 refine En.sr ?_
 refine WL.rn ht hn 4 ⟨[sl 4 (.v (.slice none 0 0)), sl 5 (B false), sl 6 (I (twoErr x y))], [.gone, .gone]⟩ ?_
 refine En.ret ?_
 refine En.nilLS 4 intT (by rfl) ?_
 exact En.back ht ([], false, (twoErr x y)) h (by kernel_rfl) rfl
 refine En.skip ?_
 refine En.sr ?_
 refine WL.r ht hn 9 ⟨[(21, .sv (.agg [I x.fStart, I y.fStart])), sl 23 (I x.fLetters), sl 24 (.fn 132 [0, 1]), sl 25 (.fn 133 [0, 1])], (qz2 x y)⟩ ?_
 refine WL.freeze [0, 1] (by rfl) ?_
 refine WL.ghost 24 (o1 (.rd (fvR (fun (x_ : (DetCouple × Int)) => [.sv (.agg (DetCouple.cl x_.1)), .sv (.one (I x_.2))]) (fun (r : DetCouple) => .sv (.agg (DetCouple.cl r))) (fun (z : DetCouple × Int) => DGo x y z.1 z.2) (qz0 x y)))) (by rfl) (fv_of (M := [.box (ApiDet.cl x) 25 true, .box (ApiDet.cl y) 25 true]) (caps := [0, 1]) (fun x_ hx => difGo_ct x_.1 x_.2 x y hx) en132 rfl (by kernel_rfl) (by rfl) (fun _ => rfl)) ?_
 refine WL.ghost 25 (o1 (.rd (fvR (fun (x_ : DetCouple) => [.sv (.agg (DetCouple.cl x_))]) (fun (r : Bool) => .sv (.one (B r))) (DOk x y) (dOkR x y)))) (by rfl) (fv_of (M := [.box (ApiDet.cl x) 25 true, .box (ApiDet.cl y) 25 true]) (caps := [0, 1]) (fun x_ hx => difOk_ct x_ x y hx) en133 rfl (by kernel_rfl) (by rfl) (fun _ => rfl)) ?_
 obtain ⟨hp, h⟩ := h
 refine WL.m0 hn (mt_c (seeks_ct (DetCouple.mk x.fStart y.fStart) x.fLetters (fun (z : DetCouple × Int) => DGo x y z.1 z.2) (qz0 x y) (DOk x y) (dOkR x y) hp) en131 rfl) ?_
 refine WL.rn ht hn 5 ⟨[sl 8 (LS intT (qz1 x y).1), sl 9 (B (qz1 x y).2)], [.gone, .gone]⟩ ?_
 refine En.sr ?_
 refine WL.rn ht hn 5 ⟨[sl 4 (LS intT (qz1 x y).1), sl 5 (B (qz1 x y).2), sl 6 (I 0)], [.gone, .gone]⟩ ?_
 exact En.rb ht ((qz1 x y).1, (qz1 x y).2, 0) h
theorem en78 : ∀ args w, (callFunc 78 args).run Try.prog w = .ok (.enter 78 args) w := enters_of Try.func78 (by kernel_rfl) rfl
theorem detDiffer_ct (x : ApiDet) (y : ApiDet) (hp : DifPre x y)  : Ct 78 [.sv (.agg [I x.fLetters, I x.fStart, LS (lsT intT) x.fNext, LS intT x.fMark]), .sv (.agg [I y.fLetters, I y.fStart, LS (lsT intT) y.fNext, LS intT y.fMark])] [] (fun (_ : Unit) => True) (fun _ => .tup [.one (LS intT (((difW x y).1, (difW x y).2, (0 : Int))).1), .one (B (((difW x y).1, (difW x y).2, (0 : Int))).2.1), .one (I (((difW x y).1, (difW x y).2, (0 : Int))).2.2)]) := by
 refine (detDiffer_walk x y (fun res_ => res_ = (((difW x y).1, (difW x y).2, (0 : Int)))) ?_).fun
 unfold detDiffer_vc
 intro _ _ _ _
 refine ⟨fun hb => ?_, fun _ => ⟨dif_pre hp, rfl⟩⟩
 rw [(twoErr_iff x y).2 ⟨hp.dx, hp.dy, hp.lets⟩] at hb
 cases hb
structure GssPre (d : ApiDet) (Lg : List ApiQuery) (g : ApiDet) : Prop where
 dif : DifPre g d
 log : Lg.length ≤ 100000000
noncomputable def gssL (d g : ApiDet) (Lg : List ApiQuery) : List ApiQuery := Lg ++ [qG g (hOf d g).1 (hOf d g).2]
def lGss_vc (d : ApiDet) (Lg : List ApiQuery) (g : ApiDet) (Q : (List Int) × Bool × (List ApiQuery) → Prop) : Prop :=
 g.fNext.length ≤ 9223372036854775807 →
 g.fMark.length ≤ 9223372036854775807 →
 ((DifPre g d) ∧
 ((((difW g d).1, (difW g d).2, (0 : Int))).1.length * 8 ≤ 140737488355328) ∧
 capOk Lg.length (([(ApiQuery.mk true ((((difW g d).1, (difW g d).2, (0 : Int))).1) false g (!(((difW g d).1, (difW g d).2, (0 : Int))).2.1))] : List ApiQuery) : List ApiQuery).length 112 ∧
 Q ((((difW g d).1, (difW g d).2, (0 : Int))).1, (!(((difW g d).1, (difW g d).2, (0 : Int))).2.1), (Lg ++ ([(ApiQuery.mk true ((((difW g d).1, (difW g d).2, (0 : Int))).1) false g (!(((difW g d).1, (difW g d).2, (0 : Int))).2.1))] : List ApiQuery))))
noncomputable abbrev qaa0 (g : ApiDet) (d : ApiDet) := (ApiQuery.mk true (((difW g d).1, (difW g d).2, (0 : Int)).1) false g (!((difW g d).1, (difW g d).2, (0 : Int)).2.1))
noncomputable abbrev qaa1 (g : ApiDet) (d : ApiDet) := (LS intT ((difW g d).1, (difW g d).2, (0 : Int)).1)
noncomputable abbrev qaa2 (g : ApiDet) (d : ApiDet) := (B ((difW g d).1, (difW g d).2, (0 : Int)).2.1)
noncomputable abbrev qaa3 (d : ApiDet) := (.box [I d.fLetters, I d.fStart, LS (lsT intT) d.fNext, LS intT d.fMark, .own 1] 78 false : Item)
noncomputable abbrev qaa4 (g : ApiDet) (d : ApiDet) := (I ((difW g d).1, (difW g d).2, (0 : Int)).2.2)
noncomputable abbrev qaa5 (d : ApiDet) := (.box [I d.fLetters, I d.fStart, LS (lsT intT) d.fNext, LS intT d.fMark, .own 3] 78 false : Item)
noncomputable abbrev qaa6 (y0 : Nat → Nat) := sl 0 (.pptr 0 0 (y0 0))
theorem lGss_walk (d : ApiDet) (Lg : List ApiQuery) (g : ApiDet) (Q : (List Int) × Bool × (List ApiQuery) → Prop) (h : lGss_vc d Lg g Q) : CtE 32 [.sv (.one (.ptr 0 0)), .sv (.agg [I g.fLetters, I g.fStart, LS (lsT intT) g.fNext, LS intT g.fMark])] [.box [I d.fLetters, I d.fStart, LS (lsT intT) d.fNext, LS intT d.fMark, .own 1] 78 false, rowI 32 ApiQuery.ty Lg] [0] Q (fun (r : (List Int) × Bool × (List ApiQuery)) => .tup [.one (LS intT r.1), .one (B r.2.1)]) (fun (r : (List Int) × Bool × (List ApiQuery)) => [.box [I d.fLetters, I d.fStart, LS (lsT intT) d.fNext, LS intT d.fMark, .own 1] 78 false, rowI 32 ApiQuery.ty r.2.2]) := by
 have ht := tab_ok
 refine CtE.body Try.func32 rfl rfl rfl (by kernel_rfl) (by kernel_rfl) (fun c Bk hn => ?_)
 unfold lGss_vc at h
 show En c ⟨[qaa6 Bk, (1, .sv (.agg (ApiDet.cl g)))], [qaa3 d, rowI 32 ApiQuery.ty Lg]⟩ _
 refine En.lenA 1 2 (by rfl) (by rfl) (fun hl => ?_)
 replace h := h hl
 clear hl
 refine En.lenA 1 3 (by rfl) (by rfl) (fun hl => ?_)
 replace h := h hl
 clear hl
 refine En.sr ?_
 refine WL.rn ht hn 3 ⟨[qaa6 Bk, sl 3 (.ptr 2 0)], [qaa3 d, rowI 32 ApiQuery.ty Lg, .box (ApiDet.cl g) 25 false]⟩ ?_
 refine En.seq ?_
 obtain ⟨hp_2, h⟩ := h
 refine En.regionA ⟨[qaa6 Bk, sl 3 (.ptr 2 0)], [.sv (.agg (ApiDet.cl g)), .sv (.one (.ptr 0 0)), .sv (.one (.ptr 0 0)), .sv (.one (.ptr 0 0)), .sv (.agg (ApiDet.cl d)), .tup [.one (qaa1 g d), .one (qaa2 g d), .one (qaa4 g d)], .tup [.one (qaa1 g d), .one (qaa2 g d), .one (qaa4 g d)], .sv (.one (qaa1 g d)), .sv (.one (qaa2 g d)), .sv (.one (qaa4 g d)), .sv (.one (qaa1 g d)), .sv (.one (qaa2 g d)), .sv (.one (qaa4 g d))], [⟨(qaa3 d), none, none, none⟩, ⟨rowI 32 ApiQuery.ty Lg, none, none, none⟩, ⟨.box (ApiDet.cl g) 25 false, none, none, none⟩]⟩ ⟨[qaa6 Bk, sl 3 (.ptr 2 0), sl 6 (qaa1 g d), sl 7 (qaa2 g d)], [qaa3 d, rowI 32 ApiQuery.ty Lg, .box (ApiDet.cl g) 25 false]⟩ (by kernel_rfl) hn (by kernel_rfl) (by rfl) (by kernel_rfl) ?_ (by kernel_rfl) ?_
 exact ⟨.ev ⟨[sl 3 (.ptr 2 0)], [.gone, .gone, .box (ApiDet.cl g) 25 false]⟩ ht,
 .ev ⟨[qaa6 Bk], []⟩ ht,
 .ev ⟨[sl 11 (.ptr 0 0)], []⟩ ht,
 .ev ⟨[sl 12 (.ptr 0 0)], []⟩ ht,
 .ev ⟨[sl 13 (.ptr 0 0)], [qaa3 d]⟩ ht,
 .vl ⟨[(10, .sv (.agg (ApiDet.cl g))), (14, .sv (.agg (ApiDet.cl d)))], []⟩ (mt_c (detDiffer_ct g d hp_2) en78 rfl),
 .ev ⟨[(15, .tup [.one (qaa1 g d), .one (qaa2 g d), .one (qaa4 g d)])], []⟩ ht,
 .ev ⟨[(9, .tup [.one (qaa1 g d), .one (qaa2 g d), .one (qaa4 g d)])], []⟩ ht,
 .ev ⟨[(9, .tup [.one (qaa1 g d), .one (qaa2 g d), .one (qaa4 g d)])], []⟩ ht,
 .ev ⟨[(9, .tup [.one (qaa1 g d), .one (qaa2 g d), .one (qaa4 g d)])], []⟩ ht,
 .ev ⟨[sl 16 (qaa1 g d)], []⟩ ht,
 .ev ⟨[sl 17 (qaa2 g d)], []⟩ ht,
 .ev ⟨[sl 18 (qaa4 g d)], []⟩ ht,
 trivial⟩
 refine En.seq ?_
 obtain ⟨hp_3, h⟩ := h
 obtain ⟨hp_4, h⟩ := h
 refine En.regionA ⟨[qaa6 Bk, sl 3 (.ptr 2 0), sl 6 (qaa1 g d), sl 7 (qaa2 g d)], [.sv (.one (.ptr 0 0)), .sv (.one (.ptr 0 0)), .sv (.one (.ptr 0 0)), .sv (.one (.ptr 0 4)), .sv (.one (.own 1)), .sv (.agg (ApiDet.cl g)), .sv (.one (qaa1 g d)), .sv (.one (LS intT ((difW g d).1, (difW g d).2, (0 : Int)).1)), .sv (.one (qaa2 g d)), .sv (.one (B (!((difW g d).1, (difW g d).2, (0 : Int)).2.1))), .sv (.agg [B true, LS intT ((difW g d).1, (difW g d).2, (0 : Int)).1, B false, I g.fLetters, I g.fStart, LS (lsT intT) g.fNext, LS intT g.fMark, B (!((difW g d).1, (difW g d).2, (0 : Int)).2.1)]), .sv (.one (LS ApiQuery.ty ([qaa0 g d] : List ApiQuery))), .sv (.one (.own 3)), .sv (.one (.ptr 0 0)), .sv (.one (.ptr 0 4)), .tup []], [⟨(qaa3 d), none, none, some (15, (qaa5 d))⟩, ⟨rowI 32 ApiQuery.ty Lg, none, some 12, none⟩, ⟨.box (ApiDet.cl g) 25 false, none, none, none⟩, ⟨rowI 32 ApiQuery.ty (Lg ++ ([qaa0 g d] : List ApiQuery)), some 12, none, none⟩]⟩ ⟨[qaa6 Bk, sl 6 (qaa1 g d), sl 7 (qaa2 g d)], [qaa5 d, .gone, .gone, rowI 32 ApiQuery.ty (Lg ++ ([qaa0 g d] : List ApiQuery))]⟩ (by kernel_rfl) hn (by kernel_rfl) (by rfl) (by kernel_rfl) ?_ (by kernel_rfl) ?_
 exact ⟨.ev ⟨[qaa6 Bk], []⟩ ht,
 .ev ⟨[qaa6 Bk], []⟩ ht,
 .ev ⟨[sl 20 (.ptr 0 0)], []⟩ ht,
 .ev ⟨[sl 21 (.ptr 0 0)], []⟩ ht,
 .ev ⟨[sl 22 (.ptr 0 4)], [qaa3 d]⟩ ht,
 .ev ⟨[sl 3 (.ptr 2 0)], [.gone, .gone, .box (ApiDet.cl g) 25 false]⟩ ht,
 .ev ⟨[sl 6 (qaa1 g d)], []⟩ ht,
 .mt ⟨[sl 25 (qaa1 g d)], []⟩ [] none (by kernel_rfl) (by rfl) (mt_seal (q := 3) (e := 3) (mt_callI 3 (cloneInt_ct ((difW g d).1, (difW g d).2, (0 : Int)).1 hp_3) en37 (caps := []) [] rfl rfl (by rfl) (by kernel_rfl) (by kernel_rfl) (by rfl) (by rfl))) rfl rfl rfl rfl,
 .ev ⟨[sl 7 (qaa2 g d)], []⟩ ht,
 .ev ⟨[sl 27 (qaa2 g d)], []⟩ ht,
 .ev ⟨[(24, .sv (.agg (ApiDet.cl g))), sl 26 (LS intT ((difW g d).1, (difW g d).2, (0 : Int)).1), sl 28 (B (!((difW g d).1, (difW g d).2, (0 : Int)).2.1))], []⟩ ht,
 .mt ⟨[(29, .sv (.agg [B true, LS intT ((difW g d).1, (difW g d).2, (0 : Int)).1, B false, I g.fLetters, I g.fStart, LS (lsT intT) g.fNext, LS intT g.fMark, B (!((difW g d).1, (difW g d).2, (0 : Int)).2.1)]))], []⟩ [] none (by kernel_rfl) (by rfl) (mt_seal (q := 3) (e := 32) (mt_lit (T := ApiQuery.ty) ([qaa0 g d] : List ApiQuery) (mt_bsl 3 (r := cellsOf ApiQuery.ty ([qaa0 g d] : List ApiQuery)) ht rfl (by rfl) (by rfl) (by rfl) (by kernel_rfl) (by rfl)) (fun _ h => by cases h) (fun _ => rfl) (fun _ => rfl) (by rfl) (Nat.le_of_ble_eq_true rfl))) rfl rfl rfl rfl,
 .mt ⟨[sl 23 (.own 1), sl 30 (LS ApiQuery.ty ([qaa0 g d] : List ApiQuery))], [.gone, rowI 32 ApiQuery.ty Lg]⟩ [1] (some 3) (by kernel_rfl) (by rfl) (mt_append (T := ApiQuery.ty) (l := Lg) (es := ([qaa0 g d] : List ApiQuery)) (p := 3) ht rfl (by rfl) (by rfl) (by rfl) (by rfl) (by decide) (by rfl) (by rfl) (srcLS (T := ApiQuery.ty) (es := ([qaa0 g d] : List ApiQuery)) (fun _ h => by cases h) (by decide) (by rfl)) (by exact hp_4) (by exact hp_4.le (by decide))) rfl rfl rfl rfl,
 .ev ⟨[sl 19 (.ptr 0 0)], []⟩ ht,
 .ev ⟨[sl 32 (.ptr 0 0)], []⟩ ht,
 .mu ⟨[sl 31 (.own 3), sl 33 (.ptr 0 4)], [qaa3 d]⟩ 0 _ _ rfl rfl (by kernel_rfl) (by rfl) (mu_store2 ht rfl (by rfl) (by rfl) (by rfl) (by rfl) (fun h => by cases h) (by rfl) (by rfl)) rfl rfl rfl rfl rfl rfl rfl,
 trivial⟩
 refine En.sr ?_
 refine WL.rn ht hn 5 ⟨[qaa6 Bk, sl 4 (qaa1 g d), sl 5 (B (!((difW g d).1, (difW g d).2, (0 : Int)).2.1))], [qaa5 d, .gone, .gone, rowI 32 ApiQuery.ty (Lg ++ ([qaa0 g d] : List ApiQuery))]⟩ ?_
 refine En.ret ?_
 refine En.move 3 1 (by rfl) (by rfl) ?_
 exact En.backE [0] ht (((difW g d).1, (difW g d).2, (0 : Int)).1, (!((difW g d).1, (difW g d).2, (0 : Int)).2.1), (Lg ++ ([qaa0 g d] : List ApiQuery))) h (by kernel_rfl) (by rfl) rfl
theorem en32 : ∀ args w, (callFunc 32 args).run Try.prog w = .ok (.enter 32 args) w := enters_of Try.func32 (by kernel_rfl) rfl
theorem lGss_ct (d : ApiDet) (Lg : List ApiQuery) (g : ApiDet) (hp : GssPre d Lg g)  : CtE 32 [.sv (.one (.ptr 0 0)), .sv (.agg [I g.fLetters, I g.fStart, LS (lsT intT) g.fNext, LS intT g.fMark])] [.box [I d.fLetters, I d.fStart, LS (lsT intT) d.fNext, LS intT d.fMark, .own 1] 78 false, rowI 32 ApiQuery.ty Lg] [0] (fun (_ : Unit) => True) (fun _ => .tup [.one (LS intT ((hOf d g).1)), .one (B ((hOf d g).2))]) (fun _ => [.box [I d.fLetters, I d.fStart, LS (lsT intT) d.fNext, LS intT d.fMark, .own 1] 78 false, rowI 32 ApiQuery.ty (gssL d g Lg)]) := by
 refine (lGss_walk d Lg g (fun res_ => res_ = ((hOf d g).1, (hOf d g).2, gssL d g Lg)) ?_).imp (fun r hr => ⟨(), trivial, by subst hr; rfl, by subst hr; rfl⟩)
 obtain ⟨hd, hl⟩ := hp
 unfold lGss_vc
 intro _ _
 have hw : ((difW g d).1.length) ≤ 50000000 := difW_len hd
 refine ⟨hd, by show (difW g d).1.length * 8 ≤ _; omega, capOk_of (by simp only [List.length_cons, List.length_nil]; omega), ?_⟩
 unfold gssL
 rw [hOf_at hd]
 rfl
def equalI_vc (a : List Int) (b : List Int) (Q : Bool → Prop) : Prop :=
 a.length ≤ 9223372036854775807 →
 b.length ≤ 9223372036854775807 →
 (IfP ((a.length : Int) != (b.length : Int)) (Q false) (∃ (Inv : Int → Prop) (mu : Int → Nat), Inv 0 ∧
 ∀ (x13 : Int) , Inv x13 → (IfP (decide (x13 < (a.length : Int))) (∃ e, idx a x13 = some e ∧
 ∃ e_2, idx b x13 = some e_2 ∧
 IfP (e != e_2) (Q false) ((Inv (wr (x13 + 1)) ∧ mu (wr (x13 + 1)) < mu x13))) (Q true))))
noncomputable abbrev qab0 (a : List Int) := sl 12 (I (a.length : Int))
theorem equalI_walk (a : List Int) (b : List Int) (Q : Bool → Prop) (h : equalI_vc a b Q) : Ct 36 [.sv (.one (LS intT a)), .sv (.one (LS intT b))] [] Q (fun (r : Bool) => .sv (.one (B r))) := by
 have ht := tab_ok
 refine Ct.body Try.func36 rfl rfl rfl rfl (fun c hn => ?_)
 unfold equalI_vc at h
 refine En.lenL 0 (by rfl) (fun hl => ?_)
 replace h := h hl
 clear hl
 refine En.lenL 1 (by rfl) (fun hl => ?_)
 replace h := h hl
 clear hl
 refine En.sr ?_
 refine WL.rn ht hn 1 ⟨[sl 0 (LS intT a), sl 1 (LS intT b)], []⟩ ?_
 refine En.seq ?_
 refine En.sr ?_
 refine WL.rn ht hn 5 ⟨[sl 0 (LS intT a), sl 1 (LS intT b), sl 10 (B ((a.length : Int) != (b.length : Int)))], []⟩ ?_
 refine En.ch h (fun h => ?_) (fun h => ?_)
 refine En.sr ?_
 refine WL.rn ht hn 1 ⟨[sl 4 (B false)], []⟩ ?_
 exact En.rb ht false h
 refine En.skip ?_
 refine En.seq ?_
 refine En.sr ?_
 refine WL.rn ht hn 3 ⟨[sl 0 (LS intT a), sl 1 (LS intT b), qab0 a, sl 13 (I 0)], []⟩ ?_
 refine En.block ?_
 obtain ⟨Inv, mu, h0, hI⟩ := h
 refine En.loop (σ := Int) (fun zz => Inv zz) (fun zz => mu zz) (fun zz => ⟨[sl 0 (LS intT a), sl 1 (LS intT b), qab0 a, sl 13 (I zz)], []⟩) 0 h0 (sub_ok (by kernel_rfl)) ?_
 intro x13 h
 replace h := hI _ h
 show En c ⟨[sl 0 (LS intT a), sl 1 (LS intT b), qab0 a, sl 13 (I x13)], []⟩ _
 refine En.sr ?_
 refine WL.rn ht hn 1 ⟨[sl 0 (LS intT a), sl 1 (LS intT b), qab0 a, sl 13 (I x13), sl 14 (B (decide (x13 < (a.length : Int))))], []⟩ ?_
 refine En.seq ?_
 refine En.ch h (fun h => ?_) (fun h => ?_)
 refine En.skip ?_
 refine En.seq ?_
 refine En.block ?_
 refine En.sr ?_
 refine WL.rn ht hn 2 ⟨[sl 0 (LS intT a), sl 1 (LS intT b), sl 5 (I x13), qab0 a, sl 13 (I x13)], []⟩ ?_
 refine En.seq ?_
 refine En.regionS (by kernel_rfl) (by kernel_rfl) ?_
 refine SL.run ht hn 2 ⟨[sl 0 (LS intT a), sl 1 (LS intT b), sl 5 (I x13), qab0 a, sl 13 (I x13), sl 16 (LS intT a), sl 17 (I x13)], []⟩ (by kernel_rfl) ?_
 obtain ⟨e, he, h⟩ := h
 refine SL.val hn (by rfl) (val_ix (T := intT) (l := a) (i := x13) ht rfl he) (by rfl) ?_
 refine SL.val hn (by rfl) (val_ld (s := .one (I e)) ht rfl) (by rfl) ?_
 refine SL.run ht hn 2 ⟨[sl 0 (LS intT a), sl 1 (LS intT b), sl 5 (I x13), qab0 a, sl 13 (I x13), sl 16 (LS intT a), sl 17 (I x13), sl 18 (.pe (svR (.one (I e))) 1), sl 19 (I e), sl 20 (LS intT b), sl 21 (I x13)], []⟩ (by kernel_rfl) ?_
 obtain ⟨e_2, he_2, h⟩ := h
 refine SL.val hn (by rfl) (val_ix (T := intT) (l := b) (i := x13) ht rfl he_2) (by rfl) ?_
 refine SL.val hn (by rfl) (val_ld (s := .one (I e_2)) ht rfl) (by rfl) ?_
 refine SL.run ht hn 1 ⟨[sl 0 (LS intT a), sl 1 (LS intT b), sl 5 (I x13), qab0 a, sl 13 (I x13), sl 16 (LS intT a), sl 17 (I x13), sl 18 (.pe (svR (.one (I e))) 1), sl 19 (I e), sl 20 (LS intT b), sl 21 (I x13), sl 22 (.pe (svR (.one (I e_2))) 1), sl 23 (I e_2), sl 24 (B (e != e_2))], []⟩ (by kernel_rfl) ?_
 refine SL.nil ⟨by kernel_rfl, ?_⟩
 refine En.ch h (fun h => ?_) (fun h => ?_)
 refine En.sr ?_
 refine WL.rn ht hn 1 ⟨[sl 4 (B false)], []⟩ ?_
 exact En.rb ht false h
 refine En.skip ?_
 refine En.region ?_
 refine WL.rn ht hn 2 ⟨[sl 0 (LS intT a), sl 1 (LS intT b), qab0 a, sl 13 (I (wr (x13 + 1)))], []⟩ ?_
 exact En.at (I := fun zz => Inv zz ∧ mu zz < mu x13) (T := fun zz => ⟨[sl 0 (LS intT a), sl 1 (LS intT b), qab0 a, sl 13 (I zz)], []⟩) (wr (x13 + 1)) h (by kernel_rfl)
 refine En.exit rfl ?_
 refine En.sr ?_
 refine WL.rn ht hn 1 ⟨[sl 4 (B true)], []⟩ ?_
 exact En.rb ht true h
theorem en36 : ∀ args w, (callFunc 36 args).run Try.prog w = .ok (.enter 36 args) w := enters_of Try.func36 (by kernel_rfl) rfl
theorem equalI_ct (a : List Int) (b : List Int)  : Ct 36 [.sv (.one (LS intT a)), .sv (.one (LS intT b))] [] (fun (_ : Unit) => True) (fun _ => .sv (.one (B (decide (a = b))))) := by
 refine (equalI_walk a b (fun res_ => res_ = (decide (a = b))) ?_).fun
 intro ha hb
 refine ⟨fun h => ?_, fun h => ?_⟩
 ·show false = decide (a = b)
  rw [eq_comm, decide_eq_false_iff_not]
  rintro rfl
  simp at h
 have hl : a.length = b.length := by have := h; simp only [bne_eq_false_iff_eq] at this; omega
 refine ⟨fun i => ∃ k : Nat, i = k ∧ k ≤ a.length ∧ a.take k = b.take k, fun i => a.length - i.toNat, ⟨0, rfl, Nat.zero_le _, by simp⟩, ?_⟩
 rintro i ⟨k, rfl, hk, ht⟩
 refine ⟨fun hb1 => ?_, fun hb1 => ?_⟩
 ·have hlt := dlt hb1
  have hlt2 : k < b.length := by omega
  refine ⟨_, idx_at hlt, _, idx_at hlt2, fun hne => ?_, fun he => ⟨⟨k + 1, wsucc (by omega), hlt, ?_⟩, mu_up hlt (by omega)⟩⟩
  ·show false = decide (a = b)
   rw [eq_comm, decide_eq_false_iff_not]
   rintro rfl
   simp at hne
  ·have he : a[k] = b[k] := by simpa using he
   rw [List.take_add_one, List.take_add_one, ht, List.getElem?_eq_getElem hlt, List.getElem?_eq_getElem hlt2, he]
 ·have hge := dge hb1
  rw [List.take_of_length_le hge, List.take_of_length_le (by omega)] at ht
  show true = decide (a = b)
  rw [ht]
  simp
def lLn1_vc (e : List Int) (w : List Int) (k : Int) (Q : Bool → Prop) : Prop :=
 e.length ≤ 9223372036854775807 →
 (partOk k (w.length : Int) w.length ∧
 Q (decide (e = ((w.take ((w.length : Int) : Int).toNat).drop (k : Int).toNat))))
theorem lLn1_walk (e : List Int) (w : List Int) (k : Int) (Q : Bool → Prop) (h : lLn1_vc e w k Q) : Ct 35 [.sv (.one (LS intT e)), .sv (.one (.ptr 0 0)), .sv (.one (.ptr 1 0))] [.box [LS intT w] 23 true, .box [I k] 3 true] Q (fun (r : Bool) => .sv (.one (B r))) := by
 have ht := tab_ok
 refine Ct.body Try.func35 rfl rfl rfl rfl (fun c hn => ?_)
 unfold lLn1_vc at h
 refine En.lenL 0 (by rfl) (fun hl => ?_)
 replace h := h hl
 clear hl
 refine En.sr ?_
 refine WL.rn ht hn 1 ⟨[sl 0 (LS intT e), sl 1 (.ptr 0 0), sl 2 (.ptr 1 0)], [.box [LS intT w] 23 true, .box [I k] 3 true]⟩ ?_
 refine En.sr ?_
 refine WL.r ht hn 3 ⟨[sl 5 (LS intT e), sl 6 (LS intT w), sl 7 (I k)], [.gone, .gone]⟩ ?_
 obtain ⟨hp, h⟩ := h
 refine WL.v hn (val_slice (T := intT) (l := w) (lv := k) (hv := (w.length : Int)) ht rfl (by rfl) (by rfl) (by rfl) (by rfl) (by rfl) (by rfl) (by rfl) hp) ?_
 refine WL.m0 hn (mt_c (equalI_ct e ((w.take ((w.length : Int) : Int).toNat).drop (k : Int).toNat)) en36 rfl) ?_
 refine WL.rn ht hn 1 ⟨[sl 4 (B (decide (e = ((w.take ((w.length : Int) : Int).toNat).drop (k : Int).toNat))))], [.gone, .gone]⟩ ?_
 exact En.rb ht (decide (e = ((w.take ((w.length : Int) : Int).toNat).drop (k : Int).toNat))) h
theorem en35 : ∀ args w, (callFunc 35 args).run Try.prog w = .ok (.enter 35 args) w := enters_of Try.func35 (by kernel_rfl) rfl
theorem lLn1_ct (e : List Int) (w : List Int) (k : Int) (hd : partOk k (w.length : Int) w.length)  : Ct 35 [.sv (.one (LS intT e)), .sv (.one (.ptr 0 0)), .sv (.one (.ptr 1 0))] [.box [LS intT w] 23 true, .box [I k] 3 true] (fun (_ : Unit) => True) (fun _ => .sv (.one (B (e == w.drop (k : Int).toNat)))) := by
 refine (lLn1_walk e w k (fun res_ => res_ = (e == w.drop (k : Int).toNat)) ?_).fun
 unfold lLn1_vc
 intro _
 refine ⟨hd, ?_⟩
 show decide (e = _) = (e == _)
 rw [Int.toNat_natCast, List.take_of_length_le (Nat.le_refl _), Bool.eq_iff_iff]
 simp
def lLrn_vc (d : ApiDet) (Q : ((List ApiQuery) × Int) → Prop) : Prop :=
 d.fNext.length ≤ 9223372036854775807 →
 d.fMark.length ≤ 9223372036854775807 →
 (IfP ((leastR d).2 != 0) (Q ([], (leastR d).2)) (IfP (decide (((leastR d).1.fNext.length : Int) > 12)) (Q ([], 1)) (∃ (Inv : (List (List Int)) → (List (List Int)) → (List (ByteArray × Int)) → (List ApiQuery) → Prop) (mu : (List (List Int)) → (List (List Int)) → (List (ByteArray × Int)) → (List ApiQuery) → Nat), Inv ([([] : List Int)] : List (List Int)) ([([] : List Int)] : List (List Int)) ([] : List (ByteArray × Int)) ([] : List ApiQuery) ∧
 ∀ (l4 : List (List Int)) (l6 : List (List Int)) (m7 : List (ByteArray × Int)) (l9 : List ApiQuery) , Inv l4 l6 m7 l9 → ((GuePre (leastR d).1 d.fLetters l4 l6 m7 l9) ∧
 (GssPre (leastR d).1 ((gS (leastR d).1 l4 l6 m7 l9).2.2.2) ((gS (leastR d).1 l4 l6 m7 l9).1)) ∧
 IfP (hOf (leastR d).1 ((gS (leastR d).1 l4 l6 m7 l9).1)).2 (Q ((gssL (leastR d).1 ((gS (leastR d).1 l4 l6 m7 l9).1) ((gS (leastR d).1 l4 l6 m7 l9).2.2.2)), 0)) (∃ (Inv_2 : Int → (List (List Int)) → Prop) (mu_2 : Int → (List (List Int)) → Nat), Inv_2 0 l6 ∧
 ∀ (x54 : Int) (l6_2 : List (List Int)) , Inv_2 x54 l6_2 → (IfP (decide (x54 < ((hOf (leastR d).1 ((gS (leastR d).1 l4 l6 m7 l9).1)).1.length : Int))) (∃ J : (List (List Int)) → Prop, ((∀ x_ ∈ l6_2, (fun (e : List Int) => partOk x54 (((hOf (leastR d).1 ((gS (leastR d).1 l4 l6 m7 l9).1)).1).length : Int) ((hOf (leastR d).1 ((gS (leastR d).1 l4 l6 m7 l9).1)).1).length) x_) ∧
 IfP (!(l6_2.any (fun (e : List Int) => e == (hOf (leastR d).1 ((gS (leastR d).1 l4 l6 m7 l9).1)).1.drop (x54 : Int).toNat))) (partOk x54 ((hOf (leastR d).1 ((gS (leastR d).1 l4 l6 m7 l9).1)).1.length : Int) (hOf (leastR d).1 ((gS (leastR d).1 l4 l6 m7 l9).1)).1.length ∧
 ((((hOf (leastR d).1 ((gS (leastR d).1 l4 l6 m7 l9).1)).1.take (((hOf (leastR d).1 ((gS (leastR d).1 l4 l6 m7 l9).1)).1.length : Int) : Int).toNat).drop (x54 : Int).toNat).length * 8 ≤ 140737488355328) ∧
 capOk l6_2.length (([((((hOf (leastR d).1 ((gS (leastR d).1 l4 l6 m7 l9).1)).1.take (((hOf (leastR d).1 ((gS (leastR d).1 l4 l6 m7 l9).1)).1.length : Int) : Int).toNat).drop (x54 : Int).toNat))] : List (List Int)) : List (List Int)).length 24 ∧
 J (l6_2 ++ ([((((hOf (leastR d).1 ((gS (leastR d).1 l4 l6 m7 l9).1)).1.take (((hOf (leastR d).1 ((gS (leastR d).1 l4 l6 m7 l9).1)).1.length : Int) : Int).toNat).drop (x54 : Int).toNat))] : List (List Int)))) (J l6_2)) ∧
 (∀ (l12 : List (List Int)), J l12 → (Inv_2 (wr (x54 + 1)) l12 ∧ mu_2 (wr (x54 + 1)) l12 < mu_2 x54 l6_2))) ((Inv ((gS (leastR d).1 l4 l6 m7 l9).2.1) l6_2 ((gS (leastR d).1 l4 l6 m7 l9).2.2.1) (gssL (leastR d).1 ((gS (leastR d).1 l4 l6 m7 l9).1) ((gS (leastR d).1 l4 l6 m7 l9).2.2.2)) ∧ mu ((gS (leastR d).1 l4 l6 m7 l9).2.1) l6_2 ((gS (leastR d).1 l4 l6 m7 l9).2.2.1) (gssL (leastR d).1 ((gS (leastR d).1 l4 l6 m7 l9).1) ((gS (leastR d).1 l4 l6 m7 l9).2.2.2)) < mu l4 l6 m7 l9))))))))
noncomputable abbrev qac0 (d : ApiDet) := (.box [I (leastR d).1.fLetters, I (leastR d).1.fStart, LS (lsT intT) (leastR d).1.fNext, LS intT (leastR d).1.fMark, .own 9] 78 false : Item)
noncomputable abbrev qac1 (d : ApiDet) := (.box [.ptr 2 0, I d.fLetters, .own 4, .own 6, .own 7] 81 false : Item)
noncomputable abbrev qac2 (d : ApiDet) (y0) (y1) (y2) (y3) := ([.gone, .gone, (qac0 d), .gone, rowI 23 (lsT intT) ((gS (leastR d).1 y0 y1 y2 y3).2.1), .gone, rowI 23 (lsT intT) y1, mapI encS intT ((gS (leastR d).1 y0 y1 y2 y3).2.2.1), (qac1 d), rowI 32 ApiQuery.ty (gssL (leastR d).1 ((gS (leastR d).1 y0 y1 y2 y3).1) ((gS (leastR d).1 y0 y1 y2 y3).2.2.2)), .box [LS intT (hOf (leastR d).1 ((gS (leastR d).1 y0 y1 y2 y3).1)).1] 23 false] : List Item)
noncomputable abbrev qac3 (d : ApiDet) (y0) (y1) (y2) (y3) := ([.gone, .gone, (qac0 d), .gone, rowI 23 (lsT intT) y0, .gone, rowI 23 (lsT intT) y1, mapI encS intT y2, (qac1 d), rowI 32 ApiQuery.ty y3, .box [.v (.slice none 0 0)] 23 false] : List Item)
noncomputable abbrev qac4 (d : ApiDet) (y0) (y1) (y2) (y3) := ([.gone, .gone, (qac0 d), .gone, rowI 23 (lsT intT) ((gS (leastR d).1 y0 y1 y2 y3).2.1), .gone, rowI 23 (lsT intT) y1, mapI encS intT ((gS (leastR d).1 y0 y1 y2 y3).2.2.1), (qac1 d), rowI 32 ApiQuery.ty (gssL (leastR d).1 ((gS (leastR d).1 y0 y1 y2 y3).1) ((gS (leastR d).1 y0 y1 y2 y3).2.2.2)), .box [.v (.slice none 0 0)] 23 false] : List Item)
noncomputable abbrev qac5 (d : ApiDet) (y0) (y1) (y2) (y3) := ([.gone, .gone, (qac0 d), .gone, rowI 23 (lsT intT) y0, .gone, rowI 23 (lsT intT) y1, mapI encS intT y2, (qac1 d), rowI 32 ApiQuery.ty y3] : List Item)
noncomputable abbrev qac6 (d : ApiDet) (y0) (y1) (y2) (y3) := ([.gone, .gone, (qac0 d), .gone, rowI 23 (lsT intT) ((gS (leastR d).1 y0 y1 y2 y3).2.1), .gone, rowI 23 (lsT intT) y1, mapI encS intT ((gS (leastR d).1 y0 y1 y2 y3).2.2.1), (qac1 d), rowI 32 ApiQuery.ty (gssL (leastR d).1 ((gS (leastR d).1 y0 y1 y2 y3).1) ((gS (leastR d).1 y0 y1 y2 y3).2.2.2))] : List Item)
noncomputable abbrev qac7 (d : ApiDet) (y0) (y1) (y2) (y3) := ([.gone, .gone, (qac0 d), .gone, rowI 23 (lsT intT) ((gS (leastR d).1 y0 y1 y2 y3).2.1), .gone, rowI 23 (lsT intT) y1, mapI encS intT ((gS (leastR d).1 y0 y1 y2 y3).2.2.1), (qac1 d), rowI 32 ApiQuery.ty ((gS (leastR d).1 y0 y1 y2 y3).2.2.2), .box [.v (.slice none 0 0)] 23 false] : List Item)
noncomputable abbrev qac8 (d : ApiDet) (y0) (y1) (y2) (y3) := ([.gone, .gone, (qac0 d), .gone, rowI 23 (lsT intT) ((gS (leastR d).1 y0 y1 y2 y3).2.1), .gone, rowI 23 (lsT intT) y1, mapI encS intT ((gS (leastR d).1 y0 y1 y2 y3).2.2.1), (qac1 d), rowI 32 ApiQuery.ty ((gS (leastR d).1 y0 y1 y2 y3).2.2.2)] : List Item)
noncomputable abbrev qac9 (d : ApiDet) (y0) (y1) (y2) (y3) (y4) := ([.gone, .gone, (qac0 d), .gone, rowI 23 (lsT intT) ((gS (leastR d).1 y0 y1 y2 y3).2.1), .gone, .gone, mapI encS intT ((gS (leastR d).1 y0 y1 y2 y3).2.2.1), .box [.ptr 2 0, I d.fLetters, .own 4, .own 12, .own 7] 81 false, rowI 32 ApiQuery.ty (gssL (leastR d).1 ((gS (leastR d).1 y0 y1 y2 y3).1) ((gS (leastR d).1 y0 y1 y2 y3).2.2.2)), .box [LS intT (hOf (leastR d).1 ((gS (leastR d).1 y0 y1 y2 y3).1)).1] 23 false, .gone, rowI 23 (lsT intT) y4] : List Item)
noncomputable abbrev qac10 (d : ApiDet) (y0) (y1) (y2) (y3) := sl 53 (I ((hOf (leastR d).1 ((gS (leastR d).1 y0 y1 y2 y3).1)).1.length : Int))
noncomputable abbrev qac11 (d : ApiDet) (y0) (y1) (y2) (y3) (y4) (y5) := ([.gone, .gone, (qac0 d), .gone, rowI 23 (lsT intT) ((gS (leastR d).1 y0 y1 y2 y3).2.1), .gone, rowI 23 (lsT intT) y4, mapI encS intT ((gS (leastR d).1 y0 y1 y2 y3).2.2.1), (qac1 d), rowI 32 ApiQuery.ty (gssL (leastR d).1 ((gS (leastR d).1 y0 y1 y2 y3).1) ((gS (leastR d).1 y0 y1 y2 y3).2.2.2)), .box [LS intT (hOf (leastR d).1 ((gS (leastR d).1 y0 y1 y2 y3).1)).1] 23 false, .box [I y5] 3 false] : List Item)
noncomputable abbrev qac12 := sl 6 (.ptr 8 0)
noncomputable abbrev qac13 (d : ApiDet) := (.box [I (leastR d).1.fLetters, I (leastR d).1.fStart, LS (lsT intT) (leastR d).1.fNext, LS intT (leastR d).1.fMark, .v (.slice none 0 0)] 78 false : Item)
noncomputable abbrev qac14 := sl 7 (.ptr 10 0)
noncomputable abbrev qac15 (d : ApiDet) (y0) (y1) (y2) (y3) (y4) := ([.gone, .gone, (qac0 d), .gone, rowI 23 (lsT intT) ((gS (leastR d).1 y0 y1 y2 y3).2.1), .gone, .gone, mapI encS intT ((gS (leastR d).1 y0 y1 y2 y3).2.2.1), .box [.ptr 2 0, I d.fLetters, .own 4, .own 12, .own 7] 81 false, rowI 32 ApiQuery.ty (gssL (leastR d).1 ((gS (leastR d).1 y0 y1 y2 y3).1) ((gS (leastR d).1 y0 y1 y2 y3).2.2.2)), .box [LS intT (hOf (leastR d).1 ((gS (leastR d).1 y0 y1 y2 y3).1)).1] 23 false, .gone, rowI 23 (lsT intT) y4] : List Item)
noncomputable abbrev qac16 (d : ApiDet) (y0) (y1) (y2) (y3) (y4) := ([.gone, .gone, (qac0 d), .gone, rowI 23 (lsT intT) ((gS (leastR d).1 y0 y1 y2 y3).2.1), .gone, rowI 23 (lsT intT) y4, mapI encS intT ((gS (leastR d).1 y0 y1 y2 y3).2.2.1), (qac1 d), rowI 32 ApiQuery.ty (gssL (leastR d).1 ((gS (leastR d).1 y0 y1 y2 y3).1) ((gS (leastR d).1 y0 y1 y2 y3).2.2.2)), .box [LS intT (hOf (leastR d).1 ((gS (leastR d).1 y0 y1 y2 y3).1)).1] 23 false] : List Item)
noncomputable abbrev qac17 (d : ApiDet) (y0) (y1) (y2) (y3) (y4) := ([.gone, .gone, (qac0 d), .gone, rowI 23 (lsT intT) ((gS (leastR d).1 y0 y1 y2 y3).2.1), .gone, rowI 23 (lsT intT) y4, mapI encS intT ((gS (leastR d).1 y0 y1 y2 y3).2.2.1), (qac1 d), rowI 32 ApiQuery.ty (gssL (leastR d).1 ((gS (leastR d).1 y0 y1 y2 y3).1) ((gS (leastR d).1 y0 y1 y2 y3).2.2.2)), .box [LS intT (hOf (leastR d).1 ((gS (leastR d).1 y0 y1 y2 y3).1)).1] 23 false] : List Item)
noncomputable abbrev qac18 (d : ApiDet) (y0) (y1) (y2) (y3) := sl 43 (B (hOf (leastR d).1 ((gS (leastR d).1 y0 y1 y2 y3).1)).2)
set_option maxHeartbeats 2000000 in
theorem lLrn_walk (d : ApiDet) (Q : ((List ApiQuery) × Int) → Prop) (h : lLrn_vc d Q) : Ct 11 [.sv (.agg [I d.fLetters, I d.fStart, LS (lsT intT) d.fNext, LS intT d.fMark])] [] Q (fun (r : ((List ApiQuery) × Int)) => .tup [.one (LS ApiQuery.ty r.1), .one (I r.2)]) := by
 have ht := tab_ok
 refine Ct.body Try.func11 rfl rfl rfl rfl (fun c hn => ?_)
 unfold lLrn_vc at h
 refine En.lenA 0 2 (by rfl) (by rfl) (fun hl => ?_)
 replace h := h hl
 clear hl
 refine En.lenA 0 3 (by rfl) (by rfl) (fun hl => ?_)
 replace h := h hl
 clear hl
 refine En.sr ?_
 refine WL.rn ht hn 3 ⟨[sl 1 (.ptr 0 0)], [.box (ApiDet.cl d) 25 false]⟩ ?_
 refine En.sr ?_
 refine WL.r ht hn 1 ⟨[sl 1 (.ptr 0 0), (11, .sv (.agg (ApiDet.cl d)))], [.box (ApiDet.cl d) 25 false]⟩ ?_
 refine WL.m0 hn (mt_c (detLeast_ct d) en31 rfl) ?_
 refine WL.rn ht hn 6 ⟨[sl 1 (.ptr 0 0), sl 4 (.ptr 1 0), sl 5 (I (leastR d).2)], [.box (ApiDet.cl d) 25 false, .box (ApiDet.cl (leastR d).1) 25 false]⟩ ?_
 refine En.seq ?_
 refine En.sr ?_
 refine WL.rn ht hn 2 ⟨[sl 1 (.ptr 0 0), sl 4 (.ptr 1 0), sl 5 (I (leastR d).2), sl 16 (B ((leastR d).2 != 0))], [.box (ApiDet.cl d) 25 false, .box (ApiDet.cl (leastR d).1) 25 false]⟩ ?_
 refine En.ch h (fun h => ?_) (fun h => ?_)
 refine En.sr ?_
 refine WL.rn ht hn 3 ⟨[sl 2 (.v (.slice none 0 0)), sl 3 (I (leastR d).2)], [.gone, .gone]⟩ ?_
 refine En.ret ?_
 refine En.nilLS 2 ApiQuery.ty (by rfl) ?_
 exact En.back ht ([], (leastR d).2) h (by kernel_rfl) rfl
 refine En.skip ?_
 refine En.seq ?_
 refine En.sr ?_
 refine WL.rn ht hn 4 ⟨[sl 1 (.ptr 0 0), sl 4 (.ptr 1 0), sl 21 (B (decide (((leastR d).1.fNext.length : Int) > 12)))], [.box (ApiDet.cl d) 25 false, .box (ApiDet.cl (leastR d).1) 25 false]⟩ ?_
 refine En.ch h (fun h => ?_) (fun h => ?_)
 refine En.sr ?_
 refine WL.rn ht hn 2 ⟨[sl 2 (.v (.slice none 0 0)), sl 3 (I 1)], [.gone, .gone]⟩ ?_
 refine En.ret ?_
 refine En.nilLS 2 ApiQuery.ty (by rfl) ?_
 exact En.back ht ([], 1) h (by kernel_rfl) rfl
 refine En.skip ?_
 refine En.sr ?_
 refine WL.r ht hn 5 ⟨[sl 24 (.ptr 2 0), sl 26 (I d.fLetters)], [.gone, .gone, qac13 d]⟩ ?_
 refine WL.mt0 (K := []) (p := some (3, rowI 3 intT ([] : List Int))) hn (by rfl) (mt_empty intT 3 ht rfl (by rfl) (by rfl) (by rfl)) (by rfl) (by rfl) (by rfl) ?_
 refine WL.seal (T := intT) (l := ([] : List Int)) (e := 3) 3 rfl ?_
 refine WL.r ht hn 0 ⟨[sl 24 (.ptr 2 0), sl 26 (I d.fLetters), sl 27 (LS intT ([] : List Int))], [.gone, .gone, qac13 d, .gone]⟩ ?_
 refine WL.mt0 (K := []) (p := some (4, rowI 23 (lsT intT) ([([] : List Int)] : List (List Int)))) hn (by rfl) (mt_lit (T := (lsT intT)) ([([] : List Int)] : List (List Int)) (mt_bsl 4 (r := cellsOf (lsT intT) ([([] : List Int)] : List (List Int))) ht rfl (by rfl) (by rfl) (by rfl) (by kernel_rfl) (by rfl)) (fun _ h => by cases h) (fun _ => rfl) (fun _ => rfl) (by rfl) (Nat.le_of_ble_eq_true rfl)) (by rfl) (by rfl) (by rfl) ?_
 refine WL.mt0 (K := []) (p := some (5, rowI 3 intT ([] : List Int))) hn (by rfl) (mt_empty intT 5 ht rfl (by rfl) (by rfl) (by rfl)) (by rfl) (by rfl) (by rfl) ?_
 refine WL.seal (T := intT) (l := ([] : List Int)) (e := 3) 5 rfl ?_
 refine WL.r ht hn 0 ⟨[sl 24 (.ptr 2 0), sl 26 (I d.fLetters), sl 27 (LS intT ([] : List Int)), sl 28 (.own 4), sl 29 (LS intT ([] : List Int))], [.gone, .gone, qac13 d, .gone, rowI 23 (lsT intT) ([([] : List Int)] : List (List Int)), .gone]⟩ ?_
 refine WL.mt0 (K := []) (p := some (6, rowI 23 (lsT intT) ([([] : List Int)] : List (List Int)))) hn (by rfl) (mt_lit (T := (lsT intT)) ([([] : List Int)] : List (List Int)) (mt_bsl 6 (r := cellsOf (lsT intT) ([([] : List Int)] : List (List Int))) ht rfl (by rfl) (by rfl) (by rfl) (by kernel_rfl) (by rfl)) (fun _ h => by cases h) (fun _ => rfl) (fun _ => rfl) (by rfl) (Nat.le_of_ble_eq_true rfl)) (by rfl) (by rfl) (by rfl) ?_
 refine WL.mt0 (K := []) (p := some (7, mapI encS intT ([] : List (ByteArray × Int)))) hn (by rfl) (mt_makeMap encS intT 7 rfl) (by rfl) (by rfl) (by rfl) ?_
 refine WL.rn ht hn 3 ⟨[qac12], [.gone, .gone, qac13 d, .gone, rowI 23 (lsT intT) ([([] : List Int)] : List (List Int)), .gone, rowI 23 (lsT intT) ([([] : List Int)] : List (List Int)), mapI encS intT ([] : List (ByteArray × Int)), qac1 d]⟩ ?_
 refine En.block ?_
 refine En.nilBoxO (T := ApiQuery.ty) 2 4 9 32 (by rfl) (by rfl) (by rfl) (by rfl) ?_
 obtain ⟨Inv, mu, h0_2, hI_2⟩ := h
 refine En.loop (σ := (List (List Int)) × (List (List Int)) × (List (ByteArray × Int)) × (List ApiQuery)) (fun zz => Inv zz.1 zz.2.1 zz.2.2.1 zz.2.2.2) (fun zz => mu zz.1 zz.2.1 zz.2.2.1 zz.2.2.2) (fun zz => ⟨[qac12], [.gone, .gone, qac0 d, .gone, rowI 23 (lsT intT) zz.1, .gone, rowI 23 (lsT intT) zz.2.1, mapI encS intT zz.2.2.1, qac1 d, rowI 32 ApiQuery.ty zz.2.2.2]⟩) (([([] : List Int)] : List (List Int)), ([([] : List Int)] : List (List Int)), ([] : List (ByteArray × Int)), ([] : List ApiQuery)) h0_2 (sub_ok (by kernel_rfl)) ?_
 rintro ⟨l4, l6, m7, l9⟩ h
 replace h := hI_2 _ _ _ _ h
 show En c ⟨[qac12], (qac5 d l4 l6 m7 l9)⟩ _
 refine En.block ?_
 refine En.seq ?_
 obtain ⟨hp_r5, h⟩ := h
 obtain ⟨hp_r6, h⟩ := h
 refine En.regionD ⟨[qac12, qac14, sl 8 (B (hOf (leastR d).1 (gS (leastR d).1 l4 l6 m7 l9).1).2)], (qac2 d l4 l6 m7 l9)⟩ (by kernel_rfl) ?_ ?_
 intro N' hF
 refine RD.have 0 #[tt, tt, tt, tt, tt, tt, tt, tt, tt, tt, tt, tt, tt] ⟨[qac12, qac14, sl 8 (B (hOf (leastR d).1 (gS (leastR d).1 l4 l6 m7 l9).1).2)], (qac2 d l4 l6 m7 l9)⟩ (RD.nil (by kernel_rfl) hF) (fun rd42 => ?_)
 refine RD.have 1 #[tt, tt, tt, tt, tt, tt, tt, tt, tt, tt, tt, tt, ff] ⟨[qac12, qac14, qac18 d l4 l6 m7 l9], (qac2 d l4 l6 m7 l9)⟩ ?_ (fun rd41 => ?_)
 refine RD.succ [12] (by kernel_rfl) rfl ⟨⟨_, _, _, rfl, ?_, rfl, rd42⟩, trivial⟩
 exact WL.rI ht hn
 refine RD.have 2 #[tt, tt, tt, tt, tt, tt, tt, tt, tt, ff, tt, tt, ff] ⟨[qac12, qac14, (34, .tup [.one (LS intT (hOf (leastR d).1 (gS (leastR d).1 l4 l6 m7 l9).1).1), .one (B (hOf (leastR d).1 (gS (leastR d).1 l4 l6 m7 l9).1).2)])], (qac2 d l4 l6 m7 l9)⟩ ?_ (fun rd40 => ?_)
 refine RD.succ [9] (by kernel_rfl) rfl ⟨⟨_, _, _, rfl, ?_, rfl, rd41⟩, trivial⟩
 exact WL.rI ht hn
 refine RD.have 2 #[tt, tt, tt, tt, tt, tt, tt, tt, tt, tt, tt, ff, ff] ⟨[qac12, qac14, sl 42 (LS intT (hOf (leastR d).1 (gS (leastR d).1 l4 l6 m7 l9).1).1), qac18 d l4 l6 m7 l9], (qac4 d l4 l6 m7 l9)⟩ ?_ (fun rd39 => ?_)
 refine RD.succ [11] (by kernel_rfl) rfl ⟨⟨_, _, _, rfl, ?_, rfl, rd41⟩, trivial⟩
 exact WL.rI ht hn
 refine RD.have 3 #[tt, tt, tt, tt, tt, tt, tt, tt, ff, tt, tt, ff, ff] ⟨[qac12, qac14, (34, .tup [.one (LS intT (hOf (leastR d).1 (gS (leastR d).1 l4 l6 m7 l9).1).1), .one (B (hOf (leastR d).1 (gS (leastR d).1 l4 l6 m7 l9).1).2)]), qac18 d l4 l6 m7 l9], (qac4 d l4 l6 m7 l9)⟩ ?_ (fun rd38 => ?_)
 refine RD.succ [8] (by kernel_rfl) rfl ⟨⟨_, _, _, rfl, ?_, rfl, rd39⟩, trivial⟩
 exact WL.rI ht hn
 refine RD.have 3 #[tt, tt, tt, tt, tt, tt, tt, tt, tt, ff, tt, ff, ff] ⟨[qac12, qac14, (34, .tup [.one (LS intT (hOf (leastR d).1 (gS (leastR d).1 l4 l6 m7 l9).1).1), .one (B (hOf (leastR d).1 (gS (leastR d).1 l4 l6 m7 l9).1).2)]), sl 42 (LS intT (hOf (leastR d).1 (gS (leastR d).1 l4 l6 m7 l9).1).1)], (qac4 d l4 l6 m7 l9)⟩ ?_ (fun rd37 => ?_)
 refine RD.succ [9, 11] (by kernel_rfl) rfl ⟨⟨_, _, _, rfl, ?_, rfl, rd39⟩, ⟨_, _, _, rfl, ?_, rfl, rd40⟩, trivial⟩
 exact WL.rI ht hn
 exact WL.rI ht hn
 refine RD.have 3 #[tt, tt, tt, tt, tt, tt, tt, tt, tt, tt, ff, ff, ff] ⟨[qac12, sl 42 (LS intT (hOf (leastR d).1 (gS (leastR d).1 l4 l6 m7 l9).1).1), qac18 d l4 l6 m7 l9], (qac6 d l4 l6 m7 l9)⟩ ?_ (fun rd36 => ?_)
 refine RD.succ [10] (by kernel_rfl) rfl ⟨⟨_, _, _, rfl, ?_, rfl, rd39⟩, trivial⟩
 exact WL.rI ht hn
 refine RD.have 4 #[tt, tt, tt, tt, tt, tt, tt, tt, ff, ff, tt, ff, ff] ⟨[qac12, qac14, (34, .tup [.one (LS intT (hOf (leastR d).1 (gS (leastR d).1 l4 l6 m7 l9).1).1), .one (B (hOf (leastR d).1 (gS (leastR d).1 l4 l6 m7 l9).1).2)])], (qac4 d l4 l6 m7 l9)⟩ ?_ (fun rd35 => ?_)
 refine RD.succ [8, 9] (by kernel_rfl) rfl ⟨⟨_, _, _, rfl, ?_, rfl, rd37⟩, ⟨_, _, _, rfl, ?_, rfl, rd38⟩, trivial⟩
 exact WL.rI ht hn
 exact WL.rI ht hn
 refine RD.have 4 #[tt, tt, tt, tt, tt, tt, tt, tt, ff, tt, ff, ff, ff] ⟨[qac12, (34, .tup [.one (LS intT (hOf (leastR d).1 (gS (leastR d).1 l4 l6 m7 l9).1).1), .one (B (hOf (leastR d).1 (gS (leastR d).1 l4 l6 m7 l9).1).2)]), qac18 d l4 l6 m7 l9], (qac6 d l4 l6 m7 l9)⟩ ?_ (fun rd34 => ?_)
 refine RD.succ [8, 10] (by kernel_rfl) rfl ⟨⟨_, _, _, rfl, ?_, rfl, rd36⟩, ⟨_, _, _, rfl, ?_, rfl, rd38⟩, trivial⟩
 exact WL.rI ht hn
 exact WL.rI ht hn
 refine RD.have 4 #[tt, tt, tt, tt, tt, tt, tt, tt, tt, ff, ff, ff, ff] ⟨[qac12, (34, .tup [.one (LS intT (hOf (leastR d).1 (gS (leastR d).1 l4 l6 m7 l9).1).1), .one (B (hOf (leastR d).1 (gS (leastR d).1 l4 l6 m7 l9).1).2)]), sl 42 (LS intT (hOf (leastR d).1 (gS (leastR d).1 l4 l6 m7 l9).1).1)], (qac6 d l4 l6 m7 l9)⟩ ?_ (fun rd33 => ?_)
 refine RD.succ [9, 10] (by kernel_rfl) rfl ⟨⟨_, _, _, rfl, ?_, rfl, rd36⟩, ⟨_, _, _, rfl, ?_, rfl, rd37⟩, trivial⟩
 exact WL.rI ht hn
 exact WL.rI ht hn
 refine RD.have 5 #[tt, tt, tt, tt, tt, tt, tt, ff, ff, ff, tt, ff, ff] ⟨[qac12, qac14, (41, .tup [.one (LS intT (hOf (leastR d).1 (gS (leastR d).1 l4 l6 m7 l9).1).1), .one (B (hOf (leastR d).1 (gS (leastR d).1 l4 l6 m7 l9).1).2)])], (qac4 d l4 l6 m7 l9)⟩ ?_ (fun rd32 => ?_)
 refine RD.succ [7] (by kernel_rfl) rfl ⟨⟨_, _, _, rfl, ?_, rfl, rd35⟩, trivial⟩
 exact WL.rI ht hn
 refine RD.have 5 #[tt, tt, tt, tt, tt, tt, tt, tt, ff, ff, ff, ff, ff] ⟨[qac12, (34, .tup [.one (LS intT (hOf (leastR d).1 (gS (leastR d).1 l4 l6 m7 l9).1).1), .one (B (hOf (leastR d).1 (gS (leastR d).1 l4 l6 m7 l9).1).2)])], (qac6 d l4 l6 m7 l9)⟩ ?_ (fun rd31 => ?_)
 refine RD.succ [8, 9, 10] (by kernel_rfl) rfl ⟨⟨_, _, _, rfl, ?_, rfl, rd33⟩, ⟨_, _, _, rfl, ?_, rfl, rd34⟩, ⟨_, _, _, rfl, ?_, rfl, rd35⟩, trivial⟩
 exact WL.rI ht hn
 exact WL.rI ht hn
 exact WL.rI ht hn
 refine RD.have 6 #[tt, tt, tt, tt, tt, tt, ff, ff, ff, ff, tt, ff, ff] ⟨[qac12, qac14, sl 38 (.ptr 2 0), (40, .sv (.agg (ApiDet.cl (gS (leastR d).1 l4 l6 m7 l9).1)))], (qac7 d l4 l6 m7 l9)⟩ ?_ (fun rd30 => ?_)
 refine RD.succ [6] (by kernel_rfl) rfl ⟨⟨_, _, _, rfl, ?_, rfl, rd32⟩, trivial⟩
 refine WL.cE (lGss_ct (leastR d).1 (gS (leastR d).1 l4 l6 m7 l9).2.2.2 (gS (leastR d).1 l4 l6 m7 l9).1 hp_r6) en32 [2, 9] hn rfl ?_
 refine WL.nil ?_
 exact sub_ok (by kernel_rfl)
 refine RD.have 6 #[tt, tt, tt, tt, tt, tt, tt, ff, ff, ff, ff, ff, ff] ⟨[qac12, (41, .tup [.one (LS intT (hOf (leastR d).1 (gS (leastR d).1 l4 l6 m7 l9).1).1), .one (B (hOf (leastR d).1 (gS (leastR d).1 l4 l6 m7 l9).1).2)])], (qac6 d l4 l6 m7 l9)⟩ ?_ (fun rd29 => ?_)
 refine RD.succ [7, 10] (by kernel_rfl) rfl ⟨⟨_, _, _, rfl, ?_, rfl, rd31⟩, ⟨_, _, _, rfl, ?_, rfl, rd32⟩, trivial⟩
 exact WL.rI ht hn
 exact WL.rI ht hn
 refine RD.have 7 #[tt, tt, tt, ff, tt, tt, ff, ff, ff, ff, tt, ff, ff] ⟨[qac12, qac14, sl 37 (.ptr 8 0), (40, .sv (.agg (ApiDet.cl (gS (leastR d).1 l4 l6 m7 l9).1)))], (qac7 d l4 l6 m7 l9)⟩ ?_ (fun rd28 => ?_)
 refine RD.succ [3] (by kernel_rfl) rfl ⟨⟨_, _, _, rfl, ?_, rfl, rd30⟩, trivial⟩
 exact WL.rI ht hn
 refine RD.have 7 #[tt, tt, tt, tt, tt, ff, ff, ff, ff, ff, tt, ff, ff] ⟨[qac12, qac14, sl 38 (.ptr 2 0), sl 39 (.ptr 8 0)], (qac3 d l4 l6 m7 l9)⟩ ?_ (fun rd27 => ?_)
 refine RD.succ [5] (by kernel_rfl) rfl ⟨⟨_, _, _, rfl, ?_, rfl, rd30⟩, trivial⟩
 refine WL.cE (lGue_ct (leastR d).1 d.fLetters l4 l6 m7 l9 hp_r5) en33 [8, 2, 4, 6, 7, 9] hn rfl ?_
 refine WL.nil ?_
 exact sub_ok (by kernel_rfl)
 refine RD.have 7 #[tt, tt, tt, tt, tt, tt, ff, ff, ff, ff, ff, ff, ff] ⟨[qac12, sl 38 (.ptr 2 0), (40, .sv (.agg (ApiDet.cl (gS (leastR d).1 l4 l6 m7 l9).1)))], (qac8 d l4 l6 m7 l9)⟩ ?_ (fun rd26 => ?_)
 refine RD.succ [6, 10] (by kernel_rfl) rfl ⟨⟨_, _, _, rfl, ?_, rfl, rd29⟩, ⟨_, _, _, rfl, ?_, rfl, rd30⟩, trivial⟩
 refine WL.cE (lGss_ct (leastR d).1 (gS (leastR d).1 l4 l6 m7 l9).2.2.2 (gS (leastR d).1 l4 l6 m7 l9).1 hp_r6) en32 [2, 9] hn rfl ?_
 refine WL.nil ?_
 exact sub_ok (by kernel_rfl)
 exact WL.rI ht hn
 refine RD.have 8 #[tt, tt, ff, ff, tt, tt, ff, ff, ff, ff, tt, ff, ff] ⟨[qac12, qac14, sl 36 (.ptr 8 0), (40, .sv (.agg (ApiDet.cl (gS (leastR d).1 l4 l6 m7 l9).1)))], (qac7 d l4 l6 m7 l9)⟩ ?_ (fun rd25 => ?_)
 refine RD.succ [2] (by kernel_rfl) rfl ⟨⟨_, _, _, rfl, ?_, rfl, rd28⟩, trivial⟩
 exact WL.rI ht hn
 refine RD.have 8 #[tt, tt, tt, ff, tt, ff, ff, ff, ff, ff, tt, ff, ff] ⟨[qac12, qac14, sl 37 (.ptr 8 0), sl 39 (.ptr 8 0)], (qac3 d l4 l6 m7 l9)⟩ ?_ (fun rd24 => ?_)
 refine RD.succ [3, 5] (by kernel_rfl) rfl ⟨⟨_, _, _, rfl, ?_, rfl, rd27⟩, ⟨_, _, _, rfl, ?_, rfl, rd28⟩, trivial⟩
 exact WL.rI ht hn
 refine WL.cE (lGue_ct (leastR d).1 d.fLetters l4 l6 m7 l9 hp_r5) en33 [8, 2, 4, 6, 7, 9] hn rfl ?_
 refine WL.nil ?_
 exact sub_ok (by kernel_rfl)
 refine RD.have 8 #[tt, tt, tt, ff, tt, tt, ff, ff, ff, ff, ff, ff, ff] ⟨[qac12, sl 37 (.ptr 8 0), (40, .sv (.agg (ApiDet.cl (gS (leastR d).1 l4 l6 m7 l9).1)))], (qac8 d l4 l6 m7 l9)⟩ ?_ (fun rd23 => ?_)
 refine RD.succ [3, 10] (by kernel_rfl) rfl ⟨⟨_, _, _, rfl, ?_, rfl, rd26⟩, ⟨_, _, _, rfl, ?_, rfl, rd28⟩, trivial⟩
 exact WL.rI ht hn
 exact WL.rI ht hn
 refine RD.have 8 #[tt, tt, tt, tt, ff, ff, ff, ff, ff, ff, tt, ff, ff] ⟨[qac12, qac14, sl 38 (.ptr 2 0)], (qac3 d l4 l6 m7 l9)⟩ ?_ (fun rd22 => ?_)
 refine RD.succ [4] (by kernel_rfl) rfl ⟨⟨_, _, _, rfl, ?_, rfl, rd27⟩, trivial⟩
 exact WL.rI ht hn
 refine RD.have 8 #[tt, tt, tt, tt, tt, ff, ff, ff, ff, ff, ff, ff, ff] ⟨[qac12, sl 38 (.ptr 2 0), sl 39 (.ptr 8 0)], (qac5 d l4 l6 m7 l9)⟩ ?_ (fun rd21 => ?_)
 refine RD.succ [5, 10] (by kernel_rfl) rfl ⟨⟨_, _, _, rfl, ?_, rfl, rd26⟩, ⟨_, _, _, rfl, ?_, rfl, rd27⟩, trivial⟩
 refine WL.cE (lGue_ct (leastR d).1 d.fLetters l4 l6 m7 l9 hp_r5) en33 [8, 2, 4, 6, 7, 9] hn rfl ?_
 refine WL.nil ?_
 exact sub_ok (by kernel_rfl)
 exact WL.rI ht hn
 refine RD.have 9 #[tt, ff, ff, ff, tt, tt, ff, ff, ff, ff, tt, ff, ff] ⟨[qac12, qac14, sl 35 (.ptr 8 0), (40, .sv (.agg (ApiDet.cl (gS (leastR d).1 l4 l6 m7 l9).1)))], (qac7 d l4 l6 m7 l9)⟩ ?_ (fun rd20 => ?_)
 refine RD.succ [1] (by kernel_rfl) rfl ⟨⟨_, _, _, rfl, ?_, rfl, rd25⟩, trivial⟩
 exact WL.rI ht hn
 refine RD.have 9 #[tt, tt, ff, ff, tt, ff, ff, ff, ff, ff, tt, ff, ff] ⟨[qac12, qac14, sl 36 (.ptr 8 0), sl 39 (.ptr 8 0)], (qac3 d l4 l6 m7 l9)⟩ ?_ (fun rd19 => ?_)
 refine RD.succ [2, 5] (by kernel_rfl) rfl ⟨⟨_, _, _, rfl, ?_, rfl, rd24⟩, ⟨_, _, _, rfl, ?_, rfl, rd25⟩, trivial⟩
 exact WL.rI ht hn
 refine WL.cE (lGue_ct (leastR d).1 d.fLetters l4 l6 m7 l9 hp_r5) en33 [8, 2, 4, 6, 7, 9] hn rfl ?_
 refine WL.nil ?_
 exact sub_ok (by kernel_rfl)
 refine RD.have 9 #[tt, tt, ff, ff, tt, tt, ff, ff, ff, ff, ff, ff, ff] ⟨[qac12, sl 36 (.ptr 8 0), (40, .sv (.agg (ApiDet.cl (gS (leastR d).1 l4 l6 m7 l9).1)))], (qac8 d l4 l6 m7 l9)⟩ ?_ (fun rd18 => ?_)
 refine RD.succ [2, 10] (by kernel_rfl) rfl ⟨⟨_, _, _, rfl, ?_, rfl, rd23⟩, ⟨_, _, _, rfl, ?_, rfl, rd25⟩, trivial⟩
 exact WL.rI ht hn
 exact WL.rI ht hn
 refine RD.have 9 #[tt, tt, tt, ff, ff, ff, ff, ff, ff, ff, tt, ff, ff] ⟨[qac12, qac14, sl 37 (.ptr 8 0)], (qac3 d l4 l6 m7 l9)⟩ ?_ (fun rd17 => ?_)
 refine RD.succ [3, 4] (by kernel_rfl) rfl ⟨⟨_, _, _, rfl, ?_, rfl, rd22⟩, ⟨_, _, _, rfl, ?_, rfl, rd24⟩, trivial⟩
 exact WL.rI ht hn
 exact WL.rI ht hn
 refine RD.have 9 #[tt, tt, tt, ff, tt, ff, ff, ff, ff, ff, ff, ff, ff] ⟨[qac12, sl 37 (.ptr 8 0), sl 39 (.ptr 8 0)], (qac5 d l4 l6 m7 l9)⟩ ?_ (fun rd16 => ?_)
 refine RD.succ [3, 5, 10] (by kernel_rfl) rfl ⟨⟨_, _, _, rfl, ?_, rfl, rd21⟩, ⟨_, _, _, rfl, ?_, rfl, rd23⟩, ⟨_, _, _, rfl, ?_, rfl, rd24⟩, trivial⟩
 exact WL.rI ht hn
 refine WL.cE (lGue_ct (leastR d).1 d.fLetters l4 l6 m7 l9 hp_r5) en33 [8, 2, 4, 6, 7, 9] hn rfl ?_
 refine WL.nil ?_
 exact sub_ok (by kernel_rfl)
 exact WL.rI ht hn
 refine RD.have 9 #[tt, tt, tt, tt, ff, ff, ff, ff, ff, ff, ff, ff, ff] ⟨[qac12, sl 38 (.ptr 2 0)], (qac5 d l4 l6 m7 l9)⟩ ?_ (fun rd15 => ?_)
 refine RD.succ [4, 10] (by kernel_rfl) rfl ⟨⟨_, _, _, rfl, ?_, rfl, rd21⟩, ⟨_, _, _, rfl, ?_, rfl, rd22⟩, trivial⟩
 exact WL.rI ht hn
 exact WL.rI ht hn
 refine RD.have 10 #[ff, ff, ff, ff, tt, tt, ff, ff, ff, ff, tt, ff, ff] ⟨[qac12, qac14, (40, .sv (.agg (ApiDet.cl (gS (leastR d).1 l4 l6 m7 l9).1)))], (qac7 d l4 l6 m7 l9)⟩ ?_ (fun rd14 => ?_)
 refine RD.succ [0] (by kernel_rfl) rfl ⟨⟨_, _, _, rfl, ?_, rfl, rd20⟩, trivial⟩
 exact WL.rI ht hn
 refine RD.have 10 #[tt, ff, ff, ff, tt, ff, ff, ff, ff, ff, tt, ff, ff] ⟨[qac12, qac14, sl 35 (.ptr 8 0), sl 39 (.ptr 8 0)], (qac3 d l4 l6 m7 l9)⟩ ?_ (fun rd13 => ?_)
 refine RD.succ [1, 5] (by kernel_rfl) rfl ⟨⟨_, _, _, rfl, ?_, rfl, rd19⟩, ⟨_, _, _, rfl, ?_, rfl, rd20⟩, trivial⟩
 exact WL.rI ht hn
 refine WL.cE (lGue_ct (leastR d).1 d.fLetters l4 l6 m7 l9 hp_r5) en33 [8, 2, 4, 6, 7, 9] hn rfl ?_
 refine WL.nil ?_
 exact sub_ok (by kernel_rfl)
 refine RD.have 10 #[tt, ff, ff, ff, tt, tt, ff, ff, ff, ff, ff, ff, ff] ⟨[qac12, sl 35 (.ptr 8 0), (40, .sv (.agg (ApiDet.cl (gS (leastR d).1 l4 l6 m7 l9).1)))], (qac8 d l4 l6 m7 l9)⟩ ?_ (fun rd12 => ?_)
 refine RD.succ [1, 10] (by kernel_rfl) rfl ⟨⟨_, _, _, rfl, ?_, rfl, rd18⟩, ⟨_, _, _, rfl, ?_, rfl, rd20⟩, trivial⟩
 exact WL.rI ht hn
 exact WL.rI ht hn
 refine RD.have 10 #[tt, tt, ff, ff, ff, ff, ff, ff, ff, ff, tt, ff, ff] ⟨[qac12, qac14, sl 36 (.ptr 8 0)], (qac3 d l4 l6 m7 l9)⟩ ?_ (fun rd11 => ?_)
 refine RD.succ [2, 4] (by kernel_rfl) rfl ⟨⟨_, _, _, rfl, ?_, rfl, rd17⟩, ⟨_, _, _, rfl, ?_, rfl, rd19⟩, trivial⟩
 exact WL.rI ht hn
 exact WL.rI ht hn
 refine RD.have 10 #[tt, tt, ff, ff, tt, ff, ff, ff, ff, ff, ff, ff, ff] ⟨[qac12, sl 36 (.ptr 8 0), sl 39 (.ptr 8 0)], (qac5 d l4 l6 m7 l9)⟩ ?_ (fun rd10 => ?_)
 refine RD.succ [2, 5, 10] (by kernel_rfl) rfl ⟨⟨_, _, _, rfl, ?_, rfl, rd16⟩, ⟨_, _, _, rfl, ?_, rfl, rd18⟩, ⟨_, _, _, rfl, ?_, rfl, rd19⟩, trivial⟩
 exact WL.rI ht hn
 refine WL.cE (lGue_ct (leastR d).1 d.fLetters l4 l6 m7 l9 hp_r5) en33 [8, 2, 4, 6, 7, 9] hn rfl ?_
 refine WL.nil ?_
 exact sub_ok (by kernel_rfl)
 exact WL.rI ht hn
 refine RD.have 10 #[tt, tt, tt, ff, ff, ff, ff, ff, ff, ff, ff, ff, ff] ⟨[qac12, sl 37 (.ptr 8 0)], (qac5 d l4 l6 m7 l9)⟩ ?_ (fun rd9 => ?_)
 refine RD.succ [3, 4, 10] (by kernel_rfl) rfl ⟨⟨_, _, _, rfl, ?_, rfl, rd15⟩, ⟨_, _, _, rfl, ?_, rfl, rd16⟩, ⟨_, _, _, rfl, ?_, rfl, rd17⟩, trivial⟩
 exact WL.rI ht hn
 exact WL.rI ht hn
 exact WL.rI ht hn
 refine RD.have 11 #[ff, ff, ff, ff, tt, ff, ff, ff, ff, ff, tt, ff, ff] ⟨[qac12, qac14, sl 39 (.ptr 8 0)], (qac3 d l4 l6 m7 l9)⟩ ?_ (fun rd8 => ?_)
 refine RD.succ [0, 5] (by kernel_rfl) rfl ⟨⟨_, _, _, rfl, ?_, rfl, rd13⟩, ⟨_, _, _, rfl, ?_, rfl, rd14⟩, trivial⟩
 exact WL.rI ht hn
 refine WL.cE (lGue_ct (leastR d).1 d.fLetters l4 l6 m7 l9 hp_r5) en33 [8, 2, 4, 6, 7, 9] hn rfl ?_
 refine WL.nil ?_
 exact sub_ok (by kernel_rfl)
 refine RD.have 11 #[ff, ff, ff, ff, tt, tt, ff, ff, ff, ff, ff, ff, ff] ⟨[qac12, (40, .sv (.agg (ApiDet.cl (gS (leastR d).1 l4 l6 m7 l9).1)))], (qac8 d l4 l6 m7 l9)⟩ ?_ (fun rd7 => ?_)
 refine RD.succ [0, 10] (by kernel_rfl) rfl ⟨⟨_, _, _, rfl, ?_, rfl, rd12⟩, ⟨_, _, _, rfl, ?_, rfl, rd14⟩, trivial⟩
 exact WL.rI ht hn
 exact WL.rI ht hn
 refine RD.have 11 #[tt, ff, ff, ff, ff, ff, ff, ff, ff, ff, tt, ff, ff] ⟨[qac12, qac14, sl 35 (.ptr 8 0)], (qac3 d l4 l6 m7 l9)⟩ ?_ (fun rd6 => ?_)
 refine RD.succ [1, 4] (by kernel_rfl) rfl ⟨⟨_, _, _, rfl, ?_, rfl, rd11⟩, ⟨_, _, _, rfl, ?_, rfl, rd13⟩, trivial⟩
 exact WL.rI ht hn
 exact WL.rI ht hn
 refine RD.have 11 #[tt, ff, ff, ff, tt, ff, ff, ff, ff, ff, ff, ff, ff] ⟨[qac12, sl 35 (.ptr 8 0), sl 39 (.ptr 8 0)], (qac5 d l4 l6 m7 l9)⟩ ?_ (fun rd5 => ?_)
 refine RD.succ [1, 5, 10] (by kernel_rfl) rfl ⟨⟨_, _, _, rfl, ?_, rfl, rd10⟩, ⟨_, _, _, rfl, ?_, rfl, rd12⟩, ⟨_, _, _, rfl, ?_, rfl, rd13⟩, trivial⟩
 exact WL.rI ht hn
 refine WL.cE (lGue_ct (leastR d).1 d.fLetters l4 l6 m7 l9 hp_r5) en33 [8, 2, 4, 6, 7, 9] hn rfl ?_
 refine WL.nil ?_
 exact sub_ok (by kernel_rfl)
 exact WL.rI ht hn
 refine RD.have 11 #[tt, tt, ff, ff, ff, ff, ff, ff, ff, ff, ff, ff, ff] ⟨[qac12, sl 36 (.ptr 8 0)], (qac5 d l4 l6 m7 l9)⟩ ?_ (fun rd4 => ?_)
 refine RD.succ [2, 4, 10] (by kernel_rfl) rfl ⟨⟨_, _, _, rfl, ?_, rfl, rd9⟩, ⟨_, _, _, rfl, ?_, rfl, rd10⟩, ⟨_, _, _, rfl, ?_, rfl, rd11⟩, trivial⟩
 exact WL.rI ht hn
 exact WL.rI ht hn
 exact WL.rI ht hn
 refine RD.have 12 #[ff, ff, ff, ff, ff, ff, ff, ff, ff, ff, tt, ff, ff] ⟨[qac12, qac14], (qac3 d l4 l6 m7 l9)⟩ ?_ (fun rd3 => ?_)
 refine RD.succ [0, 4] (by kernel_rfl) rfl ⟨⟨_, _, _, rfl, ?_, rfl, rd6⟩, ⟨_, _, _, rfl, ?_, rfl, rd8⟩, trivial⟩
 exact WL.rI ht hn
 exact WL.rI ht hn
 refine RD.have 12 #[ff, ff, ff, ff, tt, ff, ff, ff, ff, ff, ff, ff, ff] ⟨[qac12, sl 39 (.ptr 8 0)], (qac5 d l4 l6 m7 l9)⟩ ?_ (fun rd2 => ?_)
 refine RD.succ [0, 5, 10] (by kernel_rfl) rfl ⟨⟨_, _, _, rfl, ?_, rfl, rd5⟩, ⟨_, _, _, rfl, ?_, rfl, rd7⟩, ⟨_, _, _, rfl, ?_, rfl, rd8⟩, trivial⟩
 exact WL.rI ht hn
 refine WL.cE (lGue_ct (leastR d).1 d.fLetters l4 l6 m7 l9 hp_r5) en33 [8, 2, 4, 6, 7, 9] hn rfl ?_
 refine WL.nil ?_
 exact sub_ok (by kernel_rfl)
 exact WL.rI ht hn
 refine RD.have 12 #[tt, ff, ff, ff, ff, ff, ff, ff, ff, ff, ff, ff, ff] ⟨[qac12, sl 35 (.ptr 8 0)], (qac5 d l4 l6 m7 l9)⟩ ?_ (fun rd1 => ?_)
 refine RD.succ [1, 4, 10] (by kernel_rfl) rfl ⟨⟨_, _, _, rfl, ?_, rfl, rd4⟩, ⟨_, _, _, rfl, ?_, rfl, rd5⟩, ⟨_, _, _, rfl, ?_, rfl, rd6⟩, trivial⟩
 exact WL.rI ht hn
 exact WL.rI ht hn
 exact WL.rI ht hn
 refine RD.have 13 #[ff, ff, ff, ff, ff, ff, ff, ff, ff, ff, ff, ff, ff] ⟨[qac12], (qac5 d l4 l6 m7 l9)⟩ ?_ (fun rd0 => ?_)
 refine RD.succ [0, 4, 10] (by kernel_rfl) rfl ⟨⟨_, _, _, rfl, ?_, rfl, rd1⟩, ⟨_, _, _, rfl, ?_, rfl, rd2⟩, ⟨_, _, _, rfl, ?_, rfl, rd3⟩, trivial⟩
 exact WL.rI ht hn
 exact WL.rI ht hn
 exact WL.rI ht hn
 exact RD.start rd0 rfl (by kernel_rfl) (sub_ok (by kernel_rfl))
 refine En.seq ?_
 refine En.sr ?_
 refine WL.rn ht hn 1 ⟨[qac12, qac14, sl 44 (B (hOf (leastR d).1 (gS (leastR d).1 l4 l6 m7 l9).1).2)], (qac2 d l4 l6 m7 l9)⟩ ?_
 refine En.ch h (fun h => ?_) (fun h => ?_)
 refine En.sr ?_
 refine WL.rn ht hn 9 ⟨[sl 2 (.own 9), sl 3 (I 0)], [.gone, .gone, .gone, .gone, .gone, .gone, .gone, .gone, .gone, rowI 32 ApiQuery.ty (gssL (leastR d).1 (gS (leastR d).1 l4 l6 m7 l9).1 (gS (leastR d).1 l4 l6 m7 l9).2.2.2), .gone]⟩ ?_
 refine En.ret ?_
 refine En.seal (T := ApiQuery.ty) (l := (gssL (leastR d).1 (gS (leastR d).1 l4 l6 m7 l9).1 (gS (leastR d).1 l4 l6 m7 l9).2.2.2)) (e := 32) 9 rfl ?_
 exact En.back ht ((gssL (leastR d).1 (gS (leastR d).1 l4 l6 m7 l9).1 (gS (leastR d).1 l4 l6 m7 l9).2.2.2), 0) h (by kernel_rfl) rfl
 refine En.skip ?_
 refine En.sr ?_
 refine WL.rn ht hn 3 ⟨[qac12, qac14, qac10 d l4 l6 m7 l9, sl 54 (I 0)], (qac2 d l4 l6 m7 l9)⟩ ?_
 refine En.block ?_
 obtain ⟨Inv_2, mu_2, h0, hI⟩ := h
 refine En.loop (σ := Int × (List (List Int))) (fun zz => Inv_2 zz.1 zz.2) (fun zz => mu_2 zz.1 zz.2) (fun zz => ⟨[qac12, qac14, qac10 d l4 l6 m7 l9, sl 54 (I zz.1)], (qac16 d l4 l6 m7 l9 zz.2)⟩) (0, l6) h0 (sub_ok (by kernel_rfl)) ?_
 rintro ⟨x54, l6_2⟩ h
 replace h := hI _ _ h
 show En c ⟨[qac12, qac14, qac10 d l4 l6 m7 l9, sl 54 (I x54)], (qac17 d l4 l6 m7 l9 l6_2)⟩ _
 refine En.sr ?_
 refine WL.rn ht hn 1 ⟨[qac12, qac14, qac10 d l4 l6 m7 l9, sl 54 (I x54), sl 55 (B (decide (x54 < ((hOf (leastR d).1 (gS (leastR d).1 l4 l6 m7 l9).1).1.length : Int))))], (qac17 d l4 l6 m7 l9 l6_2)⟩ ?_
 refine En.seq ?_
 refine En.ch h (fun h => ?_) (fun h => ?_)
 refine En.skip ?_
 obtain ⟨J, h, hJ⟩ := h
 refine En.seqJ (σ := (List (List Int))) (fun zz => J zz) (fun zz => ⟨[qac12, qac14, qac10 d l4 l6 m7 l9, sl 54 (I x54)], (qac9 d l4 l6 m7 l9 zz)⟩) ?_ ?_
 refine En.block ?_
 refine En.sr ?_
 refine WL.rn ht hn 3 ⟨[qac12, qac14, sl 9 (.ptr 11 0), qac10 d l4 l6 m7 l9, sl 54 (I x54)], (qac11 d l4 l6 m7 l9 l6_2 x54)⟩ ?_
 refine En.sr ?_
 refine WL.r ht hn 5 ⟨[qac12, qac14, sl 9 (.ptr 11 0), qac10 d l4 l6 m7 l9, sl 54 (I x54), sl 60 (.own 6), sl 61 (.fn 35 [10, 11])], (qac11 d l4 l6 m7 l9 l6_2 x54)⟩ ?_
 obtain ⟨hp, h⟩ := h
 refine WL.m0 hn (mt_lend (T := (lsT intT)) (l := l6_2) 6 (by rfl) (by rfl) (mt_lendF [10, 11] (by rfl) (by rfl) (mt_ghost 61 (o1 (.rd (fvR (fun (x_ : List Int) => [.sv (.one (LS intT x_))]) (fun (r : Bool) => .sv (.one (B r))) (fun (e : List Int) => partOk x54 (((hOf (leastR d).1 (gS (leastR d).1 l4 l6 m7 l9).1).1).length : Int) ((hOf (leastR d).1 (gS (leastR d).1 l4 l6 m7 l9).1).1).length) (fun (e : List Int) => e == (hOf (leastR d).1 (gS (leastR d).1 l4 l6 m7 l9).1).1.drop (x54 : Int).toNat)))) (by rfl) (fv_of (M := [.box [LS intT (hOf (leastR d).1 (gS (leastR d).1 l4 l6 m7 l9).1).1] 23 true, .box [I x54] 3 true]) (caps := [10, 11]) (fun x_ hx => lLn1_ct x_ (hOf (leastR d).1 (gS (leastR d).1 l4 l6 m7 l9).1).1 x54 hx) en35 rfl (by kernel_rfl) (by rfl) (fun _ => rfl)) (mt_c (anyLInt_ct l6_2 (fun (e : List Int) => partOk x54 (((hOf (leastR d).1 (gS (leastR d).1 l4 l6 m7 l9).1).1).length : Int) ((hOf (leastR d).1 (gS (leastR d).1 l4 l6 m7 l9).1).1).length) (fun (e : List Int) => e == (hOf (leastR d).1 (gS (leastR d).1 l4 l6 m7 l9).1).1.drop (x54 : Int).toNat) hp) en34 rfl)))) ?_
 refine WL.rn ht hn 1 ⟨[qac12, qac14, sl 9 (.ptr 11 0), qac10 d l4 l6 m7 l9, sl 54 (I x54), sl 63 (B (!(l6_2.any (fun (e : List Int) => e == (hOf (leastR d).1 (gS (leastR d).1 l4 l6 m7 l9).1).1.drop (x54 : Int).toNat))))], (qac11 d l4 l6 m7 l9 l6_2 x54)⟩ ?_
 refine En.ch h (fun h => ?_) (fun h => ?_)
 obtain ⟨hp_2, h⟩ := h
 obtain ⟨hp_3, h⟩ := h
 obtain ⟨hp_4, h⟩ := h
 refine En.regionA ⟨[qac12, qac14, sl 9 (.ptr 11 0), qac10 d l4 l6 m7 l9, sl 54 (I x54)], [.sv (.one (.ptr 8 0)), .sv (.one (.ptr 8 0)), .sv (.one (.ptr 8 0)), .sv (.one (.ptr 8 3)), .sv (.one (.own 6)), .sv (.one (LS intT (hOf (leastR d).1 (gS (leastR d).1 l4 l6 m7 l9).1).1)), .sv (.one (I x54)), .sv (.one (LS intT (((hOf (leastR d).1 (gS (leastR d).1 l4 l6 m7 l9).1).1.take (((hOf (leastR d).1 (gS (leastR d).1 l4 l6 m7 l9).1).1.length : Int) : Int).toNat).drop (x54 : Int).toNat))), .sv (.one (LS intT (((hOf (leastR d).1 (gS (leastR d).1 l4 l6 m7 l9).1).1.take (((hOf (leastR d).1 (gS (leastR d).1 l4 l6 m7 l9).1).1.length : Int) : Int).toNat).drop (x54 : Int).toNat))), .sv (.one (LS (lsT intT) ([(((hOf (leastR d).1 (gS (leastR d).1 l4 l6 m7 l9).1).1.take (((hOf (leastR d).1 (gS (leastR d).1 l4 l6 m7 l9).1).1.length : Int) : Int).toNat).drop (x54 : Int).toNat)] : List (List Int)))), .sv (.one (.own 12)), .sv (.one (.ptr 8 0)), .sv (.one (.ptr 8 3)), .tup []], [⟨.gone, none, none, none⟩, ⟨.gone, none, none, none⟩, ⟨(qac0 d), none, none, none⟩, ⟨.gone, none, none, none⟩, ⟨rowI 23 (lsT intT) (gS (leastR d).1 l4 l6 m7 l9).2.1, none, none, none⟩, ⟨.gone, none, none, none⟩, ⟨rowI 23 (lsT intT) l6_2, none, some 10, none⟩, ⟨mapI encS intT (gS (leastR d).1 l4 l6 m7 l9).2.2.1, none, none, none⟩, ⟨(qac1 d), none, none, some (13, .box [.ptr 2 0, I d.fLetters, .own 4, .own 12, .own 7] 81 false)⟩, ⟨rowI 32 ApiQuery.ty (gssL (leastR d).1 (gS (leastR d).1 l4 l6 m7 l9).1 (gS (leastR d).1 l4 l6 m7 l9).2.2.2), none, none, none⟩, ⟨.box [LS intT (hOf (leastR d).1 (gS (leastR d).1 l4 l6 m7 l9).1).1] 23 false, none, none, none⟩, ⟨.box [I x54] 3 false, none, none, none⟩, ⟨rowI 23 (lsT intT) (l6_2 ++ ([(((hOf (leastR d).1 (gS (leastR d).1 l4 l6 m7 l9).1).1.take (((hOf (leastR d).1 (gS (leastR d).1 l4 l6 m7 l9).1).1.length : Int) : Int).toNat).drop (x54 : Int).toNat)] : List (List Int))), some 10, none, none⟩]⟩ ⟨[qac12, qac14, qac10 d l4 l6 m7 l9, sl 54 (I x54)], [.gone, .gone, qac0 d, .gone, rowI 23 (lsT intT) (gS (leastR d).1 l4 l6 m7 l9).2.1, .gone, .gone, mapI encS intT (gS (leastR d).1 l4 l6 m7 l9).2.2.1, .box [.ptr 2 0, I d.fLetters, .own 4, .own 12, .own 7] 81 false, rowI 32 ApiQuery.ty (gssL (leastR d).1 (gS (leastR d).1 l4 l6 m7 l9).1 (gS (leastR d).1 l4 l6 m7 l9).2.2.2), .box [LS intT (hOf (leastR d).1 (gS (leastR d).1 l4 l6 m7 l9).1).1] 23 false, .gone, rowI 23 (lsT intT) (l6_2 ++ ([(((hOf (leastR d).1 (gS (leastR d).1 l4 l6 m7 l9).1).1.take (((hOf (leastR d).1 (gS (leastR d).1 l4 l6 m7 l9).1).1.length : Int) : Int).toNat).drop (x54 : Int).toNat)] : List (List Int)))]⟩ (by kernel_rfl) hn (by kernel_rfl) (by rfl) (by kernel_rfl) ?_ (by kernel_rfl) ?_
 exact ⟨.ev ⟨[qac12], []⟩ ht,
 .ev ⟨[qac12], []⟩ ht,
 .ev ⟨[sl 65 (.ptr 8 0)], []⟩ ht,
 .ev ⟨[sl 66 (.ptr 8 0)], []⟩ ht,
 .ev ⟨[sl 67 (.ptr 8 3)], [.gone, .gone, .gone, .gone, .gone, .gone, .gone, .gone, qac1 d]⟩ ht,
 .ev ⟨[qac14], [.gone, .gone, .gone, .gone, .gone, .gone, .gone, .gone, .gone, .gone, .box [LS intT (hOf (leastR d).1 (gS (leastR d).1 l4 l6 m7 l9).1).1] 23 false]⟩ ht,
 .ev ⟨[sl 9 (.ptr 11 0)], [.gone, .gone, .gone, .gone, .gone, .gone, .gone, .gone, .gone, .gone, .gone, .box [I x54] 3 false]⟩ ht,
 .vl ⟨[sl 69 (LS intT (hOf (leastR d).1 (gS (leastR d).1 l4 l6 m7 l9).1).1), sl 70 (I x54)], []⟩ (mt_val (val_slice (T := intT) (l := (hOf (leastR d).1 (gS (leastR d).1 l4 l6 m7 l9).1).1) (lv := x54) (hv := ((hOf (leastR d).1 (gS (leastR d).1 l4 l6 m7 l9).1).1.length : Int)) ht rfl (by rfl) (by rfl) (by rfl) (by rfl) (by rfl) (by rfl) (by rfl) hp_2)),
 .mt ⟨[sl 71 (LS intT (((hOf (leastR d).1 (gS (leastR d).1 l4 l6 m7 l9).1).1.take (((hOf (leastR d).1 (gS (leastR d).1 l4 l6 m7 l9).1).1.length : Int) : Int).toNat).drop (x54 : Int).toNat))], []⟩ [] none (by kernel_rfl) (by rfl) (mt_seal (q := 12) (e := 3) (mt_callI 12 (cloneInt_ct (((hOf (leastR d).1 (gS (leastR d).1 l4 l6 m7 l9).1).1.take (((hOf (leastR d).1 (gS (leastR d).1 l4 l6 m7 l9).1).1.length : Int) : Int).toNat).drop (x54 : Int).toNat) hp_3) en37 (caps := []) [] rfl rfl (by rfl) (by kernel_rfl) (by kernel_rfl) (by rfl) (by rfl))) rfl rfl rfl rfl,
 .mt ⟨[sl 72 (LS intT (((hOf (leastR d).1 (gS (leastR d).1 l4 l6 m7 l9).1).1.take (((hOf (leastR d).1 (gS (leastR d).1 l4 l6 m7 l9).1).1.length : Int) : Int).toNat).drop (x54 : Int).toNat))], []⟩ [] none (by kernel_rfl) (by rfl) (mt_seal (q := 12) (e := 23) (mt_lit (T := (lsT intT)) ([(((hOf (leastR d).1 (gS (leastR d).1 l4 l6 m7 l9).1).1.take (((hOf (leastR d).1 (gS (leastR d).1 l4 l6 m7 l9).1).1.length : Int) : Int).toNat).drop (x54 : Int).toNat)] : List (List Int)) (mt_bsl 12 (r := cellsOf (lsT intT) ([(((hOf (leastR d).1 (gS (leastR d).1 l4 l6 m7 l9).1).1.take (((hOf (leastR d).1 (gS (leastR d).1 l4 l6 m7 l9).1).1.length : Int) : Int).toNat).drop (x54 : Int).toNat)] : List (List Int))) ht rfl (by rfl) (by rfl) (by rfl) (by kernel_rfl) (by rfl)) (fun _ h => by cases h) (fun _ => rfl) (fun _ => rfl) (by rfl) (Nat.le_of_ble_eq_true rfl))) rfl rfl rfl rfl,
 .mt ⟨[sl 68 (.own 6), sl 73 (LS (lsT intT) ([(((hOf (leastR d).1 (gS (leastR d).1 l4 l6 m7 l9).1).1.take (((hOf (leastR d).1 (gS (leastR d).1 l4 l6 m7 l9).1).1.length : Int) : Int).toNat).drop (x54 : Int).toNat)] : List (List Int)))], [.gone, .gone, .gone, .gone, .gone, .gone, rowI 23 (lsT intT) l6_2]⟩ [6] (some 12) (by kernel_rfl) (by rfl) (mt_append (T := (lsT intT)) (l := l6_2) (es := ([(((hOf (leastR d).1 (gS (leastR d).1 l4 l6 m7 l9).1).1.take (((hOf (leastR d).1 (gS (leastR d).1 l4 l6 m7 l9).1).1.length : Int) : Int).toNat).drop (x54 : Int).toNat)] : List (List Int))) (p := 12) ht rfl (by rfl) (by rfl) (by rfl) (by rfl) (by decide) (by rfl) (by rfl) (srcLS (T := (lsT intT)) (es := ([(((hOf (leastR d).1 (gS (leastR d).1 l4 l6 m7 l9).1).1.take (((hOf (leastR d).1 (gS (leastR d).1 l4 l6 m7 l9).1).1.length : Int) : Int).toNat).drop (x54 : Int).toNat)] : List (List Int))) (fun _ h => by cases h) (by decide) (by rfl)) (by exact hp_4) (by exact hp_4.le (by decide))) rfl rfl rfl rfl,
 .ev ⟨[sl 64 (.ptr 8 0)], []⟩ ht,
 .ev ⟨[sl 75 (.ptr 8 0)], []⟩ ht,
 .mu ⟨[sl 74 (.own 12), sl 76 (.ptr 8 3)], [.gone, .gone, .gone, .gone, .gone, .gone, .gone, .gone, qac1 d]⟩ 8 _ _ rfl rfl (by kernel_rfl) (by rfl) (mu_store2 ht rfl (by rfl) (by rfl) (by rfl) (by rfl) (fun h => by cases h) (by rfl) (by rfl)) rfl rfl rfl rfl rfl rfl rfl,
 trivial⟩
 exact En.at (I := fun zz => J zz) (T := fun zz => ⟨[qac12, qac14, qac10 d l4 l6 m7 l9, sl 54 (I x54)], (qac9 d l4 l6 m7 l9 zz)⟩) (l6_2 ++ ([(((hOf (leastR d).1 (gS (leastR d).1 l4 l6 m7 l9).1).1.take (((hOf (leastR d).1 (gS (leastR d).1 l4 l6 m7 l9).1).1.length : Int) : Int).toNat).drop (x54 : Int).toNat)] : List (List Int))) h (by kernel_rfl)
 refine En.skip ?_
 refine En.move 6 12 (by rfl) (by rfl) ?_
 exact En.at (I := fun zz => J zz) (T := fun zz => ⟨[qac12, qac14, qac10 d l4 l6 m7 l9, sl 54 (I x54)], (qac9 d l4 l6 m7 l9 zz)⟩) l6_2 h (by kernel_rfl)
 intro l12 h
 replace h := hJ _ h
 show En c ⟨[qac12, qac14, qac10 d l4 l6 m7 l9, sl 54 (I x54)], (qac15 d l4 l6 m7 l9 l12)⟩ _
 refine En.region ?_
 refine WL.rn ht hn 2 ⟨[qac12, qac14, qac10 d l4 l6 m7 l9, sl 54 (I (wr (x54 + 1)))], (qac15 d l4 l6 m7 l9 l12)⟩ ?_
 refine En.move 12 6 (by rfl) (by rfl) ?_
 exact En.at (I := fun zz => Inv_2 zz.1 zz.2 ∧ mu_2 zz.1 zz.2 < mu_2 x54 l6_2) (T := fun zz => ⟨[qac12, qac14, qac10 d l4 l6 m7 l9, sl 54 (I zz.1)], (qac16 d l4 l6 m7 l9 zz.2)⟩) ((wr (x54 + 1)), l12) h (by kernel_rfl)
 refine En.exit rfl ?_
 exact En.at (I := fun zz => Inv zz.1 zz.2.1 zz.2.2.1 zz.2.2.2 ∧ mu zz.1 zz.2.1 zz.2.2.1 zz.2.2.2 < mu l4 l6 m7 l9) (T := fun zz => ⟨[qac12], [.gone, .gone, qac0 d, .gone, rowI 23 (lsT intT) zz.1, .gone, rowI 23 (lsT intT) zz.2.1, mapI encS intT zz.2.2.1, qac1 d, rowI 32 ApiQuery.ty zz.2.2.2]⟩) ((gS (leastR d).1 l4 l6 m7 l9).2.1, l6_2, (gS (leastR d).1 l4 l6 m7 l9).2.2.1, (gssL (leastR d).1 (gS (leastR d).1 l4 l6 m7 l9).1 (gS (leastR d).1 l4 l6 m7 l9).2.2.2)) h (by kernel_rfl)
theorem en11 : ∀ args w, (callFunc 11 args).run Try.prog w = .ok (.enter 11 args) w := enters_of Try.func11 (by kernel_rfl) rfl
theorem lLrn_ct (d : ApiDet)  : Ct 11 [.sv (.agg [I d.fLetters, I d.fStart, LS (lsT intT) d.fNext, LS intT d.fMark])] [] (fun (_ : Unit) => True) (fun _ => .tup [.one (LS ApiQuery.ty (learnR d).1), .one (I (learnR d).2)]) := by
 refine (lLrn_walk d (fun res_ => res_ = (learnR d)) ?_).fun
 obtain ⟨Z, hZ⟩ : ∃ Z, Z = learnR d := ⟨_, rfl⟩
 rw [← hZ]
 unfold lLrn_vc
 intro _ _
 obtain ⟨m, hm⟩ : ∃ m, m = (leastR d).1 := ⟨_, rfl⟩
 rw [← hm]
 refine ⟨fun h1 => ?_, fun h1 => ⟨fun h2 => ?_, fun h2 => ?_⟩⟩
 ·rw [hZ]
  unfold learnR
  rw [if_pos (bne_iff_ne.1 h1)]
 ·rw [hZ]
  unfold learnR
  rw [if_neg (by simpa using h1), if_pos (by have := of_decide_eq_true h2; rw [← hm]; omega)]
 have h1 : (leastR d).2 = 0 := by simpa using h1
 obtain ⟨hd, hl⟩ := least_ok h1
 rw [← hm] at hd hl
 have h2 : m.fNext.length ≤ 12 := by have := of_decide_eq_false h2; omega
 have hlet := hd.letters
 obtain ⟨L, hL⟩ : ∃ L : Nat, m.fLetters = (L : Int) := ⟨m.fLetters.toNat, by omega⟩
 obtain ⟨R, hR⟩ : ∃ R, R = mainS (accB m) (hOf m) L fuelN [[]] [[]] ([], []) := ⟨_, rfl⟩
 have hZR : Z = (R, 0) := by
  rw [hZ]
  unfold learnR
  rw [if_neg (by simpa using h1), if_neg (by rw [← hm]; omega), ← hm, hR, ← hl, hL, Int.toNat_natCast]
 have hgS : ∀ Ws Es Kn Lg, gS m Ws Es Kn Lg = guessS (accB m) L Ws Es (Kn, Lg) := fun Ws Es Kn Lg => by
  unfold gS
  rw [show m.fLetters.toNat = L by omega]
 refine ⟨fun Ws Es Kn Lg => ∃ c, MainInv m L R Ws Es Kn Lg c, fun Ws _ _ Lg => 40 - 2 * Ws.length + (if Lg = [] then 1 else 0), ⟨0, main_start hR⟩, ?_⟩
 rintro Ws Es Kn Lg ⟨c, hI⟩
 obtain ⟨G, hG⟩ : ∃ G, G = guessS (accB m) L Ws Es (Kn, Lg) := ⟨_, rfl⟩
 rw [hgS, ← hG]
 obtain ⟨hc, hg, hdif⟩ := hI.guess hd hL h2 hG
 have hE1 := hI.elen
 have hlog := hI.log
 have hglog := hg.log
 have hkl : (Kn, Lg).2.length = Lg.length := rfl
 have hW12 : Ws.length ≤ 12 := by
  obtain ⟨X, hX⟩ := hg.ext
  have := hg.cap
  rw [hX, List.length_append] at this
  omega
 refine ⟨⟨hd, h2, hl.symm, by rw [hL]; exact hI.wok, hI.dist, fun e he => by rw [hL]; exact hI.ends e he, ⟨List.length_pos_of_mem hI.suf.1, by omega⟩, by omega, by rw [hL]; exact hI.kn⟩, ⟨hdif, by omega⟩, fun hr => ?_, fun hr => ?_⟩
 ·rw [hZR, hI.end hW12 hG hr]
  unfold gssL
  rw [hr]
 obtain ⟨hN, hmu⟩ := hI.next hd hL h2 hG hr
 have hgs : gssL m G.1 G.2.2.2 = G.2.2.2 ++ [qG G.1 (hOf m G.1).1 false] := by unfold gssL; rw [hr]
 rw [hgs]
 have hway := (dif_way hdif (by rw [hOf_at hdif] at hr; simpa using hr)).1
 have hwe : (difW G.1 m).1 = (hOf m G.1).1 := by rw [hOf_at hdif]
 rw [hwe] at hway
 obtain ⟨w, hw⟩ : ∃ w, w = (hOf m G.1).1 := ⟨_, rfl⟩
 rw [← hw] at hN hmu hway ⊢
 refine ⟨fun x E => ∃ k : Nat, x = k ∧ k ≤ w.length ∧ E = addS Es w k, fun x _ => w.length - x.toNat, ⟨0, rfl, Nat.zero_le _, rfl⟩, ?_⟩
 rintro x E ⟨k, rfl, hk, rfl⟩
 refine ⟨fun hb => ?_, fun hb => ?_⟩
 ·have hlt := dlt hb
  obtain ⟨T, hT, hTl, _⟩ := addS_ext (Es := Es) (w := w) k
  have hlen : (addS Es w k).length ≤ 10000 := by rw [hT, List.length_append]; omega
  have hdr : (w.take ((w.length : Int) : Int).toNat).drop ((k : Int) : Int).toNat = w.drop k := by rw [Int.toNat_natCast, Int.toNat_natCast, List.take_of_length_le (Nat.le_refl _)]
  rw [hdr]
  refine ⟨fun E => E = addS Es w (k + 1), ⟨fun _ _ => ⟨by omega, by omega, by omega⟩, fun h3 => ⟨⟨by omega, by omega, by omega⟩, by rw [List.length_drop]; omega, capOk_of (by simp only [List.length_cons, List.length_nil]; omega), ?_⟩, fun h3 => ?_⟩, ?_⟩
  ·rw [Int.toNat_natCast] at h3
   rw [addS, if_neg (by rw [(Bool.not_eq_true' _).mp h3]; decide)]
  ·rw [Int.toNat_natCast] at h3
   rw [addS, if_pos ((Bool.not_eq_false' _).mp h3)]
  ·rintro _ rfl
   exact ⟨⟨k + 1, wsucc (by omega), hlt, rfl⟩, mu_up hlt (by omega)⟩
 ·obtain rfl : k = w.length := by have := dge hb; omega
  exact ⟨⟨c + 1, hN⟩, hmu⟩
structure RLab where
 fKind : Int
 fLetter : Int
deriving DecidableEq, Inhabited
def rLab (a : RLab) : List Value := [.int .i64 a.fKind, .int .i64 a.fLetter]
theorem rLabH : ∀ a, ∀ c ∈ rLab a, cellV c := fun a c h => by
 simp only [rLab, List.mem_cons, List.not_mem_nil, or_false] at h
 rcases h with rfl | rfl <;> trivial
def chr (text : ByteArray) (i : Int) : Int := (byteAt text i).getD 0
theorem byteAt_ok {text : ByteArray} {i : Int} (h0 : 0 ≤ i) (h1 : i < text.size) : byteAt text i = some (chr text i) := by
 unfold chr byteAt
 rw [if_pos h0]
 have : i.toNat < text.size := by omega
 simp [this]
theorem chr_end {text : ByteArray} {i : Int} (h1 : text.size ≤ i) : chr text i = 0 := by
 unfold chr byteAt
 split
 ·have : ¬ i.toNat < text.size := by omega
  simp [this]
 ·rfl
def rNow_vc (text : ByteArray) (pos : Int) (deep : Int) (Q : Int × Int × Int → Prop) : Prop :=
 IfP (pos == (text.size : Int)) (Q (0, pos, deep)) (∃ b, byteAt text pos = some b ∧
 Q (b, pos, deep))
noncomputable abbrev qad0 (text : ByteArray) (pos : Int) (deep : Int) := ([.box [.v (.string text), I pos, I deep] 213 false] : List Item)
theorem rNow_walk (text : ByteArray) (pos : Int) (deep : Int) (Q : Int × Int × Int → Prop) (h : rNow_vc text pos deep Q) : CtE 178 [.sv (.one (.ptr 0 0))] [.box [.v (.string text), I pos, I deep] 213 false] [0] Q (fun (r : Int × Int × Int) => .sv (.one (.v (.int .u8 r.1)))) (fun (r : Int × Int × Int) => [.box [.v (.string text), I r.2.1, I r.2.2] 213 false]) := by
 have ht := tab_ok
 refine CtE.body Try.func178 rfl rfl rfl (by kernel_rfl) (by kernel_rfl) (fun c Bk hn => ?_)
 unfold rNow_vc at h
 show En c ⟨[sl 0 (.pptr 0 0 (Bk 0))], (qad0 text pos deep)⟩ _
 refine En.sr ?_
 refine WL.rn ht hn 1 ⟨[sl 0 (.pptr 0 0 (Bk 0))], (qad0 text pos deep)⟩ ?_
 refine En.seq ?_
 refine En.seq ?_
 refine En.regionS (by kernel_rfl) (by kernel_rfl) ?_
 refine SL.run ht hn 8 ⟨[sl 0 (.pptr 0 0 (Bk 0)), sl 3 (.ptr 0 0), sl 4 (.ptr 0 0), sl 5 (.ptr 0 1), sl 6 (I pos), sl 7 (.ptr 0 0), sl 8 (.ptr 0 0), sl 9 (.ptr 0 0), sl 10 (.v (.string text))], (qad0 text pos deep)⟩ (by kernel_rfl) ?_
 refine SL.val hn (by rfl) (val_lenS (s := text) rfl Try.underlying9 (by rfl)) (by rfl) ?_
 refine SL.run ht hn 1 ⟨[sl 0 (.pptr 0 0 (Bk 0)), sl 3 (.ptr 0 0), sl 4 (.ptr 0 0), sl 5 (.ptr 0 1), sl 6 (I pos), sl 7 (.ptr 0 0), sl 8 (.ptr 0 0), sl 9 (.ptr 0 0), sl 10 (.v (.string text)), sl 11 (I (text.size : Int)), sl 12 (B (pos == (text.size : Int)))], (qad0 text pos deep)⟩ (by kernel_rfl) ?_
 refine SL.nil ⟨by kernel_rfl, ?_⟩
 refine En.ch h (fun h => ?_) (fun h => ?_)
 refine En.sr ?_
 refine WL.rn ht hn 1 ⟨[sl 0 (.pptr 0 0 (Bk 0)), sl 2 (.v (.int .u8 0))], (qad0 text pos deep)⟩ ?_
 refine En.ret ?_
 exact En.backE [0] ht (0, pos, deep) h (by kernel_rfl) (by rfl) rfl
 refine En.skip ?_
 refine En.seq ?_
 obtain ⟨b, hb_2, h⟩ := h
 refine En.regionA ⟨[sl 0 (.pptr 0 0 (Bk 0))], [.sv (.one (.ptr 0 0)), .sv (.one (.ptr 0 0)), .sv (.one (.ptr 0 0)), .sv (.one (.v (.string text))), .sv (.one (.ptr 0 0)), .sv (.one (.ptr 0 0)), .sv (.one (.ptr 0 1)), .sv (.one (I pos)), .sv (.one (.v (.int .u8 b))), .sv (.one (.v (.int .u8 b)))], [⟨.box [.v (.string text), I pos, I deep] 213 false, none, none, none⟩]⟩ ⟨[sl 0 (.pptr 0 0 (Bk 0)), sl 2 (.v (.int .u8 b))], (qad0 text pos deep)⟩ (by kernel_rfl) hn (by kernel_rfl) (by rfl) (by kernel_rfl) ?_ (by kernel_rfl) ?_
 exact ⟨.ev ⟨[sl 0 (.pptr 0 0 (Bk 0))], []⟩ ht,
 .ev ⟨[sl 13 (.ptr 0 0)], []⟩ ht,
 .ev ⟨[sl 14 (.ptr 0 0)], []⟩ ht,
 .ev ⟨[sl 15 (.ptr 0 0)], (qad0 text pos deep)⟩ ht,
 .ev ⟨[sl 0 (.pptr 0 0 (Bk 0))], []⟩ ht,
 .ev ⟨[sl 17 (.ptr 0 0)], []⟩ ht,
 .ev ⟨[sl 18 (.ptr 0 0)], []⟩ ht,
 .ev ⟨[sl 19 (.ptr 0 1)], (qad0 text pos deep)⟩ ht,
 .vl ⟨[sl 16 (.v (.string text)), sl 20 (I pos)], []⟩ (mt_val (val_indexS (s := text) (i := pos) rfl Try.underlying9 (by rfl) (by rfl) hb_2)),
 .ev ⟨[sl 21 (.v (.int .u8 b))], []⟩ ht,
 trivial⟩
 refine En.ret ?_
 exact En.backE [0] ht (b, pos, deep) h (by kernel_rfl) (by rfl) rfl
theorem en178 : ∀ args w, (callFunc 178 args).run Try.prog w = .ok (.enter 178 args) w := enters_of Try.func178 (by kernel_rfl) rfl
theorem rNow_ct (text : ByteArray) (pos : Int) (deep : Int) (hp : 0 ≤ pos ∧ pos ≤ text.size)  : CtE 178 [.sv (.one (.ptr 0 0))] [.box [.v (.string text), I pos, I deep] 213 false] [0] (fun (_ : Unit) => True) (fun _ => .sv (.one (.v (.int .u8 (chr text pos))))) (fun _ => [.box [.v (.string text), I (pos), I (deep)] 213 false]) := by
  refine (rNow_walk text pos deep (fun res_ => res_ = (chr text pos, pos, deep)) ?_).imp (fun r hr => ⟨(), trivial, by subst hr; rfl, by subst hr; rfl⟩)
  unfold rNow_vc
  refine ⟨fun h => ?_, fun h => ⟨_, byteAt_ok hp.1 (by have : pos ≠ text.size := by simpa using h
                                                       omega), rfl⟩⟩
  rw [chr_end (by have : pos = text.size := by simpa using h
                  omega)]
theorem en124 : ∀ args w, (callFunc 124 args).run Try.prog w = .ok (.enter 124 args) w := enters_of Try.func124 (by kernel_rfl) rfl
theorem rFail_ct (text : ByteArray) (pos deep code : Int) (hp : code ≠ 0) : CtX 124 [.sv (.one (.ptr 0 0)), .sv (.one (I code))] [.box [.v (.string text), I pos, I deep] 213 false] (psStop 210) := by
 have ht := tab_ok
 refine CtP.toX (β := Unit) (pin := [0]) (out := fun _ => .tup []) (M1 := fun _ => []) (P := True) ?_
 refine CtP.body Try.func124 rfl rfl rfl (by kernel_rfl) (by kernel_rfl) (fun c Bk hn hpan => ?_)
 show En c ⟨[(0, .sv (.one (.pptr 0 0 (Bk 0)))), (1, .sv (.one (I code)))], [.box [.v (.string text), I pos, I deep] 213 false]⟩ _
 refine En.region ?_
 refine WL.run ht hn 7 ⟨[(10, .sv (.agg [I code, I pos]))], [.box [.v (.string text), I pos, I deep] 213 false]⟩ (by kernel_rfl) ?_
 exact WL.panicI (code := code) (at_ := pos) hn (by rfl) rfl rfl (by rfl) Try.underlying210 (by rfl) (by rfl) rfl rfl hp hpan trivial
theorem idxByte_run (s : ByteArray) (b : Int) (w : World) : (callFunc 240 #[.string s, .int .u8 b]).run Try.prog w = .ok (.value (.int .i64 (firstIdx s b.toNat.toUInt8))) w := by
 rw [run_callFunc_extern Try.func240 (by kernel_rfl) (by kernel_rfl) (by kernel_rfl) (e := Extern.BytealgIndexByte.indexByte) (by rfl), run_indexByte_string]
 rfl
def idxLite_vc (s : ByteArray) (b : Int) (Q : Int → Prop) : Prop :=
 Q (firstIdx s (b).toNat.toUInt8)
theorem idxLite_walk (s : ByteArray) (b : Int) (Q : Int → Prop) (h : idxLite_vc s b Q) : Ct 238 [.sv (.one (.v (.string s))), .sv (.one (.v (.int .u8 b)))] [] Q (fun (r : Int) => .sv (.one (I r))) := by
 have ht := tab_ok
 refine Ct.body Try.func238 rfl rfl rfl rfl (fun c hn => ?_)
 unfold idxLite_vc at h
 refine En.sr ?_
 refine WL.rn ht hn 1 ⟨[sl 0 (.v (.string s)), sl 1 (.v (.int .u8 b))], []⟩ ?_
 refine En.sr ?_
 refine WL.r ht hn 2 ⟨[sl 5 (.v (.string s)), sl 6 (.v (.int .u8 b))], []⟩ ?_
 refine WL.v hn (val_ext2 (idxByte_run s b) trivial rfl (by rfl) (by rfl) (by rfl)) ?_
 refine WL.rn ht hn 1 ⟨[sl 4 (I (firstIdx s (b).toNat.toUInt8))], []⟩ ?_
 exact En.rb ht (firstIdx s (b).toNat.toUInt8) h
theorem en238 : ∀ args w, (callFunc 238 args).run Try.prog w = .ok (.enter 238 args) w := enters_of Try.func238 (by kernel_rfl) rfl
theorem idxLite_ct (s : ByteArray) (b : Int)  : Ct 238 [.sv (.one (.v (.string s))), .sv (.one (.v (.int .u8 b)))] [] (fun (_ : Unit) => True) (fun _ => .sv (.one (I (firstIdx s b.toNat.toUInt8)))) := by
 refine (idxLite_walk s b (fun res_ => res_ = (firstIdx s b.toNat.toUInt8)) ?_).fun
 unfold idxLite_vc
 rfl
def idxStr_vc (s : ByteArray) (b : Int) (Q : Int → Prop) : Prop :=
 Q (firstIdx s (b).toNat.toUInt8)
theorem idxStr_walk (s : ByteArray) (b : Int) (Q : Int → Prop) (h : idxStr_vc s b Q) : Ct 229 [.sv (.one (.v (.string s))), .sv (.one (.v (.int .u8 b)))] [] Q (fun (r : Int) => .sv (.one (I r))) := by
 have ht := tab_ok
 refine Ct.body Try.func229 rfl rfl rfl rfl (fun c hn => ?_)
 unfold idxStr_vc at h
 refine En.sr ?_
 refine WL.rn ht hn 1 ⟨[sl 0 (.v (.string s)), sl 1 (.v (.int .u8 b))], []⟩ ?_
 refine En.sr ?_
 refine WL.r ht hn 2 ⟨[sl 5 (.v (.string s)), sl 6 (.v (.int .u8 b))], []⟩ ?_
 refine WL.m0 hn (mt_c (idxLite_ct s b) en238 rfl) ?_
 refine WL.rn ht hn 1 ⟨[sl 4 (I (firstIdx s (b).toNat.toUInt8))], []⟩ ?_
 exact En.rb ht (firstIdx s (b).toNat.toUInt8) h
theorem en229 : ∀ args w, (callFunc 229 args).run Try.prog w = .ok (.enter 229 args) w := enters_of Try.func229 (by kernel_rfl) rfl
theorem idxStr_ct (s : ByteArray) (b : Int)  : Ct 229 [.sv (.one (.v (.string s))), .sv (.one (.v (.int .u8 b)))] [] (fun (_ : Unit) => True) (fun _ => .sv (.one (I (firstIdx s b.toNat.toUInt8)))) := by
 refine (idxStr_walk s b (fun res_ => res_ = (firstIdx s b.toNat.toUInt8)) ?_).fun
 unfold idxStr_vc
 rfl
def rBeg_vc (text : ByteArray) (pos : Int) (deep : Int) (Q : Bool × Int × Int → Prop) : Prop :=
 ∃ J : Bool → Int → Int → Prop, (IfP (decide (pos < (text.size : Int))) ((0 ≤ pos ∧ pos ≤ text.size) ∧
 J (decide ((firstIdx (ByteArray.mk #[48, 49, 97, 98, 99, 100, 40]) ((chr text pos)).toNat.toUInt8) ≥ 0)) (pos) (deep)) (J false pos deep)) ∧
 (∀ (x2 : Bool) (y01 : Int) (y02 : Int), J x2 y01 y02 → Q (x2, y01, y02))
noncomputable abbrev qae0 (text : ByteArray) (pos : Int) := (firstIdx (ByteArray.mk #[48, 49, 97, 98, 99, 100, 40]) (chr text pos).toNat.toUInt8)
noncomputable abbrev qae1 (text : ByteArray) (pos : Int) (deep : Int) := (.box [.v (.string text), I pos, I deep] 213 false : Item)
noncomputable abbrev qae2 (y0 : Nat → Nat) := sl 0 (.pptr 0 0 (y0 0))
theorem rBeg_walk (text : ByteArray) (pos : Int) (deep : Int) (Q : Bool × Int × Int → Prop) (h : rBeg_vc text pos deep Q) : CtE 209 [.sv (.one (.ptr 0 0))] [.box [.v (.string text), I pos, I deep] 213 false] [0] Q (fun (r : Bool × Int × Int) => .sv (.one (B r.1))) (fun (r : Bool × Int × Int) => [.box [.v (.string text), I r.2.1, I r.2.2] 213 false]) := by
 have ht := tab_ok
 refine CtE.body Try.func209 rfl rfl rfl (by kernel_rfl) (by kernel_rfl) (fun c Bk hn => ?_)
 unfold rBeg_vc at h
 show En c ⟨[qae2 Bk], [qae1 text pos deep]⟩ _
 refine En.sr ?_
 refine WL.rn ht hn 1 ⟨[qae2 Bk], [qae1 text pos deep]⟩ ?_
 obtain ⟨J, h, hJ⟩ := h
 refine En.seqJ (σ := Bool × Int × Int) (fun zz => J zz.1 zz.2.1 zz.2.2) (fun zz => ⟨[qae2 Bk, sl 2 (B zz.1)], [.box [.v (.string text), I zz.2.1, I zz.2.2] 213 false]⟩) ?_ ?_
 ·refine splitB (decide (pos < (text.size : Int))) (fun hb_2 => ?_) (fun hb_2 => ?_)
  ·replace h := h.1 hb_2
   obtain ⟨hp_2, h⟩ := h
   refine En.regionA ⟨[qae2 Bk], [.sv (.one (.ptr 0 0)), .sv (.one (.ptr 0 0)), .sv (.one (.ptr 0 1)), .sv (.one (I pos)), .sv (.one (.ptr 0 0)), .sv (.one (.ptr 0 0)), .sv (.one (.ptr 0 0)), .sv (.one (.v (.string text))), .sv (.one (I (text.size : Int))), .sv (.one (B true)), .sv (.one (B true)), .sv (.one (.ptr 0 0)), .sv (.one (.v (.int .u8 (chr text pos)))), .sv (.one (I (qae0 text pos))), .sv (.one (B (decide ((qae0 text pos) ≥ 0)))), .sv (.one (B (decide ((qae0 text pos) ≥ 0)))), .sv (.one (B (decide ((qae0 text pos) ≥ 0))))], [⟨(qae1 text pos deep), none, none, some (12, (qae1 text pos deep))⟩]⟩ ⟨[qae2 Bk, sl 2 (B (decide ((qae0 text pos) ≥ 0)))], [qae1 text pos deep]⟩ (by kernel_rfl) hn (by kernel_rfl) (by rfl) (by kernel_rfl) ?_ (by kernel_rfl) ?_
   ·exact ⟨.ev ⟨[qae2 Bk], []⟩ ht,
  .ev ⟨[sl 3 (.ptr 0 0)], []⟩ ht,
  .ev ⟨[sl 4 (.ptr 0 0)], []⟩ ht,
  .ev ⟨[sl 5 (.ptr 0 1)], [qae1 text pos deep]⟩ ht,
  .ev ⟨[qae2 Bk], []⟩ ht,
  .ev ⟨[sl 7 (.ptr 0 0)], []⟩ ht,
  .ev ⟨[sl 8 (.ptr 0 0)], []⟩ ht,
  .ev ⟨[sl 9 (.ptr 0 0)], [qae1 text pos deep]⟩ ht,
  .vl ⟨[sl 10 (.v (.string text))], []⟩ (mt_val (val_lenS (s := text) rfl Try.underlying9 (by rfl))),
  .mt ⟨[sl 6 (I pos), sl 11 (I (text.size : Int))], []⟩ [] none (by kernel_rfl) (by rfl) (mt_castB hb_2 (mt_ev ht (by kernel_rfl))) rfl rfl rfl rfl,
  .ev ⟨[sl 12 (B true)], []⟩ ht,
  .ev ⟨[qae2 Bk, sl 13 (B true)], []⟩ ht,
  .me ⟨[sl 13 (B true), sl 14 (.ptr 0 0)], [qae1 text pos deep]⟩ [(0, (qae1 text pos deep))] (by kernel_rfl) (by rfl) (me_call (rNow_ct text pos deep hp_2) en178 (caps := []) [0] rfl (by rfl) (argsAs (by kernel_rfl) (by rfl)) (by kernel_rfl) (by decide) (by rfl) (by rfl)) rfl rfl rfl ⟨⟨_, rfl, rfl, rfl, rfl, rfl⟩, trivial⟩,
  .vl ⟨[sl 13 (B true), sl 15 (.v (.int .u8 (chr text pos)))], []⟩ (mt_c (idxStr_ct (ByteArray.mk #[48, 49, 97, 98, 99, 100, 40]) (chr text pos)) en229 rfl),
  .ev ⟨[sl 13 (B true), sl 16 (I (qae0 text pos))], []⟩ ht,
  .ev ⟨[sl 13 (B true), sl 17 (B (decide ((qae0 text pos) ≥ 0)))], []⟩ ht,
  .ev ⟨[sl 18 (B (decide ((qae0 text pos) ≥ 0)))], []⟩ ht,
  trivial⟩
   ·exact En.at (I := fun zz => J zz.1 zz.2.1 zz.2.2) (T := fun zz => ⟨[qae2 Bk, sl 2 (B zz.1)], [.box [.v (.string text), I zz.2.1, I zz.2.2] 213 false]⟩) ((decide ((qae0 text pos) ≥ 0)), pos, deep) h (by kernel_rfl)
  ·replace h := h.2 hb_2
   refine En.regionA ⟨[qae2 Bk], [.sv (.one (.ptr 0 0)), .sv (.one (.ptr 0 0)), .sv (.one (.ptr 0 1)), .sv (.one (I pos)), .sv (.one (.ptr 0 0)), .sv (.one (.ptr 0 0)), .sv (.one (.ptr 0 0)), .sv (.one (.v (.string text))), .sv (.one (I (text.size : Int))), .sv (.one (B false)), .sv (.one (B false)), .tup [], .tup [], .tup [], .tup [], .sv (.one (B false)), .sv (.one (B false))], [⟨(qae1 text pos deep), none, none, none⟩]⟩ ⟨[qae2 Bk, sl 2 (B false)], [qae1 text pos deep]⟩ (by kernel_rfl) hn (by kernel_rfl) (by rfl) (by kernel_rfl) ?_ (by kernel_rfl) ?_
   ·exact ⟨.ev ⟨[qae2 Bk], []⟩ ht,
  .ev ⟨[sl 3 (.ptr 0 0)], []⟩ ht,
  .ev ⟨[sl 4 (.ptr 0 0)], []⟩ ht,
  .ev ⟨[sl 5 (.ptr 0 1)], [qae1 text pos deep]⟩ ht,
  .ev ⟨[qae2 Bk], []⟩ ht,
  .ev ⟨[sl 7 (.ptr 0 0)], []⟩ ht,
  .ev ⟨[sl 8 (.ptr 0 0)], []⟩ ht,
  .ev ⟨[sl 9 (.ptr 0 0)], [qae1 text pos deep]⟩ ht,
  .vl ⟨[sl 10 (.v (.string text))], []⟩ (mt_val (val_lenS (s := text) rfl Try.underlying9 (by rfl))),
  .mt ⟨[sl 6 (I pos), sl 11 (I (text.size : Int))], []⟩ [] none (by kernel_rfl) (by rfl) (mt_castB hb_2 (mt_ev ht (by kernel_rfl))) rfl rfl rfl rfl,
  .ev ⟨[sl 12 (B false)], []⟩ ht,
  .skip ⟨[sl 13 (B false)], []⟩ (by kernel_rfl) (by rfl) rfl rfl rfl rfl,
  .skip ⟨[sl 13 (B false)], []⟩ (by kernel_rfl) (by rfl) rfl rfl rfl rfl,
  .skip ⟨[sl 13 (B false)], []⟩ (by kernel_rfl) (by rfl) rfl rfl rfl rfl,
  .skip ⟨[sl 13 (B false)], []⟩ (by kernel_rfl) (by rfl) rfl rfl rfl rfl,
  .ev ⟨[sl 13 (B false), (17, .tup [])], []⟩ ht,
  .ev ⟨[sl 18 (B false)], []⟩ ht,
  trivial⟩
   ·exact En.at (I := fun zz => J zz.1 zz.2.1 zz.2.2) (T := fun zz => ⟨[qae2 Bk, sl 2 (B zz.1)], [.box [.v (.string text), I zz.2.1, I zz.2.2] 213 false]⟩) (false, pos, deep) h (by kernel_rfl)
 ·rintro ⟨x2, y01, y02⟩ h
  replace h := hJ _ _ _ h
  show En c ⟨[qae2 Bk, sl 2 (B x2)], [.box [.v (.string text), I y01, I y02] 213 false]⟩ _
  refine En.ret ?_
  exact En.backE [0] ht (x2, y01, y02) h (by kernel_rfl) (by rfl) rfl
theorem en209 : ∀ args w, (callFunc 209 args).run Try.prog w = .ok (.enter 209 args) w := enters_of Try.func209 (by kernel_rfl) rfl
def begB (text : ByteArray) (pos : Int) : Bool := (decide (pos < (text.size : Int))) && (decide ((firstIdx (ByteArray.mk #[48, 49, 97, 98, 99, 100, 40]) ((chr text pos)).toNat.toUInt8) ≥ 0))
theorem rBeg_ct (text : ByteArray) (pos : Int) (deep : Int) (hp : 0 ≤ pos ∧ pos ≤ text.size)  : CtE 209 [.sv (.one (.ptr 0 0))] [.box [.v (.string text), I pos, I deep] 213 false] [0] (fun (_ : Unit) => True) (fun _ => .sv (.one (B (begB text pos)))) (fun _ => [.box [.v (.string text), I (pos), I (deep)] 213 false]) := by
 refine (rBeg_walk text pos deep (fun res_ => res_ = (begB text pos, pos, deep)) ?_).imp (fun r hr => ⟨(), trivial, by subst hr; rfl, by subst hr; rfl⟩)
 unfold rBeg_vc
 refine ⟨fun b p d => b = begB text pos ∧ p = pos ∧ d = deep, ⟨fun h => ⟨hp, ?_, rfl, rfl⟩, fun h => ⟨?_, rfl, rfl⟩⟩, ?_⟩
 ·unfold begB; rw [h]; rfl
 ·unfold begB; rw [h]; rfl
 ·rintro _ _ _ ⟨rfl, rfl, rfl⟩
  rfl
abbrev RTr := Tr RLab
def nd (k l : Int) (kids : List RTr) : RTr := .node ⟨k, l⟩ kids
def partS (wh : Int → Int → Option (RTr × Int)) (text : ByteArray) (p d : Int) : Option (RTr × Int) :=
 if chr text p = 48 ∨ chr text p = 49 then some (nd (chr text p - 48) 0 [], p + 1)
 else if 97 ≤ chr text p ∧ chr text p ≤ 100 then some (nd 2 (chr text p - 97) [], p + 1)
 else if chr text p = 40 then
  if d = 40 then none
  else match wh (p + 1) (d + 1) with
   | none => none
   | some r => if chr text r.2 = 41 then some (r.1, r.2 + 1) else none
 else none
def starsS (text : ByteArray) : Nat → RTr → Int → RTr × Int
 | 0, t, p => (t, p)
 | m + 1, t, p => if chr text p = 42 then starsS text m (nd 5 0 [t]) (p + 1) else (t, p)
def oneS (wh : Int → Int → Option (RTr × Int)) (text : ByteArray) (p d : Int) : Option (RTr × Int) := match partS wh text p d with
 | none => none
 | some r => some (starsS text text.size r.1 r.2)
def rowL (one : Int → Option (RTr × Int)) (text : ByteArray) : Nat → List RTr → Int → Option (List RTr × Int)
 | 0, _, _ => none
 | m + 1, l, p => if begB text p then match one p with
   | none => none
   | some r => rowL one text m (l ++ [r.1]) r.2
  else some (l, p)
def rowS (wh : Int → Int → Option (RTr × Int)) (text : ByteArray) (p d : Int) : Option (RTr × Int) := match oneS wh text p d with
 | none => none
 | some r => match rowL (fun p => oneS wh text p d) text (text.size + 1) [r.1] r.2 with
  | none => none
  | some r => some (nd 4 0 r.1, r.2)
def wholeL (row : Int → Option (RTr × Int)) (text : ByteArray) : Nat → List RTr → Int → Option (List RTr × Int)
 | 0, _, _ => none
 | m + 1, l, p => if chr text p = 43 then match row (p + 1) with
   | none => none
   | some r => wholeL row text m (l ++ [r.1]) r.2
  else some (l, p)
def wholeS (wh : Int → Int → Option (RTr × Int)) (text : ByteArray) (p d : Int) : Option (RTr × Int) := match rowS wh text p d with
 | none => none
 | some r => match wholeL (fun p => rowS wh text p d) text (text.size + 1) [r.1] r.2 with
  | none => none
  | some r => some (nd 3 0 r.1, r.2)
def pW (text : ByteArray) : Nat → Int → Int → Option (RTr × Int)
 | 0, _, _ => none
 | k + 1, p, d => wholeS (pW text k) text p d
def rOk (k : Nat) (text : ByteArray) (pos deep : Int) : Prop := (text.size ≤ 4000) ∧ (0 ≤ pos ∧ pos ≤ text.size ∧ text.size - pos < k) ∧ 0 ≤ deep ∧ deep ≤ 40
def WC (k : Nat) : Prop := ∀ (text : ByteArray) (pos deep : Int), rOk k text pos deep → (∀ r, pW text k pos deep = some r → CtE 123 [.sv (.one (.ptr 0 0))] [.box [.v (.string text), I pos, I deep] 213 false] [0] (fun (_ : Unit) => True) (fun _ => .sv (.one (.rd (trR rLab r.1)))) (fun _ => [.box [.v (.string text), I r.2, I deep] 213 false])) ∧ (pW text k pos deep = none → CtX 123 [.sv (.one (.ptr 0 0))] [.box [.v (.string text), I pos, I deep] 213 false] (psStop 210))
theorem wI_ok (k : Nat) (ih : WC k) (text : ByteArray) (pos deep : Int) (hp : rOk k text pos deep) (r : RTr × Int) (hx : pW text k pos deep = some r) : CtE 123 [.sv (.one (.ptr 0 0))] [.box [.v (.string text), I pos, I deep] 213 false] [0] (fun (_ : Unit) => True) (fun _ => .sv (.one (.rd (trR rLab r.1)))) (fun _ => [.box [.v (.string text), I r.2, I deep] 213 false]) := (ih text pos deep hp).1 r hx
theorem wI_bad (k : Nat) (ih : WC k) (text : ByteArray) (pos deep : Int) (hp : rOk k text pos deep) (hx : pW text k pos deep = none) : CtX 123 [.sv (.one (.ptr 0 0))] [.box [.v (.string text), I pos, I deep] 213 false] (psStop 210) := (ih text pos deep hp).2 hx
theorem en123 : ∀ args w, (callFunc 123 args).run Try.prog w = .ok (.enter 123 args) w := enters_of Try.func123 (by kernel_rfl) rfl
def rPart_vc (k : Nat) (text : ByteArray) (pos : Int) (deep : Int) (Q : (Tr RLab) × Int × Int → Prop) (P : Prop) : Prop :=
 (0 ≤ pos ∧ pos ≤ text.size) ∧
 IfP (((chr text pos) == 48) || ((chr text pos) == 49)) (Q ((Tr.node (RLab.mk (wr (IntKind.wrap .u8 ((chr text pos) - 48))) 0) []), (wr ((pos) + 1)), (deep))) (IfP ((decide ((chr text pos) ≥ 97)) && (decide ((chr text pos) ≤ 100))) (Q ((Tr.node (RLab.mk 2 (wr (IntKind.wrap .u8 ((chr text pos) - 97)))) []), (wr ((pos) + 1)), (deep))) (IfP ((chr text pos) == 40) (IfP ((deep) == 40) (((7 : Int) ≠ 0) ∧
 P) ((rOk k text (wr ((pos) + 1)) (wr ((deep) + 1))) ∧
 ((pW text k (wr ((pos) + 1)) (wr ((deep) + 1))) = none → P) ∧ ∀ r, (pW text k (wr ((pos) + 1)) (wr ((deep) + 1))) = some r →
 ((0 ≤ (r.2) ∧ (r.2) ≤ text.size) ∧
 IfP ((chr text (r.2)) != 41) (((4 : Int) ≠ 0) ∧
 P) (Q ((r.1), (wr (((r.2)) + 1)), (wr (((wr ((deep) + 1))) - 1))))))) (((4 : Int) ≠ 0) ∧
 P)))
noncomputable abbrev qaf0 (text : ByteArray) (pos : Int) (deep : Int) := ([.box [.v (.string text), I pos, I deep] 213 false] : List Item)
noncomputable abbrev qaf1 (y0 : Nat → Nat) := sl 0 (.pptr 0 0 (y0 0))
noncomputable abbrev qaf2 (text : ByteArray) (pos : Int) := sl 3 (.v (.int .u8 (chr text pos)))
theorem rPart_walk (k : Nat) (text : ByteArray) (pos : Int) (deep : Int) (ih : WC k) (Q : (Tr RLab) × Int × Int → Prop) (P : Prop) (h : rPart_vc k text pos deep Q P) : CtP 228 [.sv (.one (.ptr 0 0))] [.box [.v (.string text), I pos, I deep] 213 false] [0] Q (fun (r : (Tr RLab) × Int × Int) => .sv (.one (.rd (trR rLab r.1)))) (fun (r : (Tr RLab) × Int × Int) => [.box [.v (.string text), I r.2.1, I r.2.2] 213 false]) (psStop 210) P := by
 have ht := tab_ok
 refine CtP.body Try.func228 rfl rfl rfl (by kernel_rfl) (by kernel_rfl) (fun c Bk hn hpan => ?_)
 unfold rPart_vc at h
 show En c ⟨[qaf1 Bk], (qaf0 text pos deep)⟩ _
 refine En.sr ?_
 refine WL.rn ht hn 1 ⟨[qaf1 Bk], (qaf0 text pos deep)⟩ ?_
 refine En.sr ?_
 refine WL.r ht hn 1 ⟨[qaf1 Bk, sl 5 (.ptr 0 0)], (qaf0 text pos deep)⟩ ?_
 obtain ⟨hp, h⟩ := h
 refine WL.cE (rNow_ct text pos deep hp) en178 [0] hn rfl ?_
 refine WL.rn ht hn 1 ⟨[qaf1 Bk, qaf2 text pos], (qaf0 text pos deep)⟩ ?_
 refine En.seq ?_
 refine En.block ?_
 refine En.sr ?_
 refine WL.r ht hn 3 ⟨[qaf1 Bk, qaf2 text pos, sl 10 (B ((chr text pos) == 48))], (qaf0 text pos deep)⟩ ?_
 refine WL.thru ⟨[qaf1 Bk, qaf2 text pos, sl 7 (B (((chr text pos) == 48) || ((chr text pos) == 49)))], (qaf0 text pos deep)⟩ ?_ ?_
 refine splitB ((chr text pos) == 48) (fun hb0 => ?_) (fun hb0 => ?_)
 refine WL.sB 10 hb0 ?_
 refine WL.r ht hn 4 ⟨[qaf1 Bk, qaf2 text pos, sl 7 (B true)], (qaf0 text pos deep)⟩ ?_
 exact WL.nil (sub_ok (by simp only [hb0]; kernel_rfl))
 refine WL.sB 10 hb0 ?_
 refine WL.r ht hn 4 ⟨[qaf1 Bk, qaf2 text pos, sl 7 (B ((chr text pos) == 49))], (qaf0 text pos deep)⟩ ?_
 exact WL.nil (sub_ok (by simp only [hb0]; kernel_rfl))
 refine En.ch h (fun h => ?_) (fun h => ?_)
 refine En.sr ?_
 refine WL.rn ht hn 8 ⟨[qaf1 Bk, qaf2 text pos], [.box [.v (.string text), I (wr (pos + 1)), I deep] 213 false]⟩ ?_
 refine En.sr ?_
 refine WL.rn ht hn 6 ⟨[qaf1 Bk, sl 2 (.ptr 1 0)], [.box [.v (.string text), I (wr (pos + 1)), I deep] 213 false, .box [I (wr (IntKind.wrap .u8 ((chr text pos) - 48))), I 0, .v (.slice none 0 0)] 261 false]⟩ ?_
 refine En.ret ?_
 refine En.nilBox (T := (TT rLab)) 1 2 (by rfl) (by rfl) ?_
 refine En.freeze [1] (by rfl) ?_
 refine En.ghost 2 (o1 (.rd (trR rLab (Tr.node (RLab.mk (wr (IntKind.wrap .u8 ((chr text pos) - 48))) 0) [])))) (by rfl) (tree_of (lab := rLab) (x := (RLab.mk (wr (IntKind.wrap .u8 ((chr text pos) - 48))) 0)) (kids := []) (i := 1) (by rfl) (by rfl) (by rfl)) ?_
 exact En.backE [0] ht ((Tr.node (RLab.mk (wr (IntKind.wrap .u8 ((chr text pos) - 48))) 0) []), (wr (pos + 1)), deep) h (by kernel_rfl) (by rfl) rfl
 refine En.sr ?_
 refine WL.r ht hn 3 ⟨[qaf1 Bk, qaf2 text pos, sl 29 (B (decide ((chr text pos) ≥ 97)))], (qaf0 text pos deep)⟩ ?_
 refine WL.thru ⟨[qaf1 Bk, qaf2 text pos, sl 26 (B ((decide ((chr text pos) ≥ 97)) && (decide ((chr text pos) ≤ 100))))], (qaf0 text pos deep)⟩ ?_ ?_
 refine splitB (decide ((chr text pos) ≥ 97)) (fun hb0 => ?_) (fun hb0 => ?_)
 refine WL.sB 29 hb0 ?_
 refine WL.r ht hn 4 ⟨[qaf1 Bk, qaf2 text pos, sl 26 (B (decide ((chr text pos) ≤ 100)))], (qaf0 text pos deep)⟩ ?_
 exact WL.nil (sub_ok (by simp only [hb0]; kernel_rfl))
 refine WL.sB 29 hb0 ?_
 refine WL.r ht hn 4 ⟨[qaf1 Bk, qaf2 text pos, sl 26 (B false)], (qaf0 text pos deep)⟩ ?_
 exact WL.nil (sub_ok (by simp only [hb0]; kernel_rfl))
 refine En.ch h (fun h => ?_) (fun h => ?_)
 refine En.sr ?_
 refine WL.rn ht hn 8 ⟨[qaf1 Bk, qaf2 text pos], [.box [.v (.string text), I (wr (pos + 1)), I deep] 213 false]⟩ ?_
 refine En.sr ?_
 refine WL.rn ht hn 6 ⟨[qaf1 Bk, sl 2 (.ptr 1 0)], [.box [.v (.string text), I (wr (pos + 1)), I deep] 213 false, .box [I 2, I (wr (IntKind.wrap .u8 ((chr text pos) - 97))), .v (.slice none 0 0)] 261 false]⟩ ?_
 refine En.ret ?_
 refine En.nilBox (T := (TT rLab)) 1 2 (by rfl) (by rfl) ?_
 refine En.freeze [1] (by rfl) ?_
 refine En.ghost 2 (o1 (.rd (trR rLab (Tr.node (RLab.mk 2 (wr (IntKind.wrap .u8 ((chr text pos) - 97)))) [])))) (by rfl) (tree_of (lab := rLab) (x := (RLab.mk 2 (wr (IntKind.wrap .u8 ((chr text pos) - 97))))) (kids := []) (i := 1) (by rfl) (by rfl) (by rfl)) ?_
 exact En.backE [0] ht ((Tr.node (RLab.mk 2 (wr (IntKind.wrap .u8 ((chr text pos) - 97)))) []), (wr (pos + 1)), deep) h (by kernel_rfl) (by rfl) rfl
 refine En.sr ?_
 refine WL.rn ht hn 3 ⟨[qaf1 Bk, sl 45 (B ((chr text pos) == 40))], (qaf0 text pos deep)⟩ ?_
 refine En.ch h (fun h => ?_) (fun h => ?_)
 refine En.seq ?_
 refine En.sr ?_
 refine WL.rn ht hn 5 ⟨[qaf1 Bk, sl 52 (B (deep == 40))], (qaf0 text pos deep)⟩ ?_
 refine En.ch h (fun h => ?_) (fun h => ?_)
 refine En.region ?_
 refine WL.r ht hn 1 ⟨[qaf1 Bk, sl 53 (.ptr 0 0)], (qaf0 text pos deep)⟩ ?_
 obtain ⟨hp, h⟩ := h
 exact WL.cX (rFail_ct text pos deep 7 hp) en124 [0] rfl (leftX hpan h)
 refine En.skip ?_
 refine En.sr ?_
 refine WL.rn ht hn 8 ⟨[qaf1 Bk], [.box [.v (.string text), I pos, I (wr (deep + 1))] 213 false]⟩ ?_
 refine En.sr ?_
 refine WL.rn ht hn 8 ⟨[qaf1 Bk], [.box [.v (.string text), I (wr (pos + 1)), I (wr (deep + 1))] 213 false]⟩ ?_
 refine En.sr ?_
 refine WL.r ht hn 1 ⟨[qaf1 Bk, sl 69 (.ptr 0 0)], [.box [.v (.string text), I (wr (pos + 1)), I (wr (deep + 1))] 213 false]⟩ ?_
 obtain ⟨hp, h⟩ := h
 refine splitO (pW text k (wr (pos + 1)) (wr (deep + 1))) (fun hr_2 => ?_) (fun r hr_2 => ?_)
 exact WL.cX (wI_bad k ih text (wr (pos + 1)) (wr (deep + 1)) hp hr_2) en123 [0] rfl (leftX hpan (h.1 hr_2))
 replace h := h.2 r hr_2
 refine WL.cE (wI_ok k ih text (wr (pos + 1)) (wr (deep + 1)) hp r hr_2) en123 [0] hn rfl ?_
 refine WL.rn ht hn 1 ⟨[qaf1 Bk, sl 4 (.rd (trR rLab r.1))], [.box [.v (.string text), I r.2, I (wr (deep + 1))] 213 false]⟩ ?_
 refine En.seq ?_
 refine En.sr ?_
 refine WL.r ht hn 1 ⟨[qaf1 Bk, sl 4 (.rd (trR rLab r.1)), sl 71 (.ptr 0 0)], [.box [.v (.string text), I r.2, I (wr (deep + 1))] 213 false]⟩ ?_
 obtain ⟨hp, h⟩ := h
 refine WL.cE (rNow_ct text r.2 (wr (deep + 1)) hp) en178 [0] hn rfl ?_
 refine WL.rn ht hn 1 ⟨[qaf1 Bk, sl 4 (.rd (trR rLab r.1)), sl 73 (B ((chr text r.2) != 41))], [.box [.v (.string text), I r.2, I (wr (deep + 1))] 213 false]⟩ ?_
 refine En.ch h (fun h => ?_) (fun h => ?_)
 refine En.region ?_
 refine WL.r ht hn 1 ⟨[qaf1 Bk, sl 4 (.rd (trR rLab r.1)), sl 74 (.ptr 0 0)], [.box [.v (.string text), I r.2, I (wr (deep + 1))] 213 false]⟩ ?_
 obtain ⟨hp, h⟩ := h
 exact WL.cX (rFail_ct text r.2 (wr (deep + 1)) 4 hp) en124 [0] rfl (leftX hpan h)
 refine En.skip ?_
 refine En.sr ?_
 refine WL.rn ht hn 8 ⟨[qaf1 Bk, sl 4 (.rd (trR rLab r.1))], [.box [.v (.string text), I (wr (r.2 + 1)), I (wr (deep + 1))] 213 false]⟩ ?_
 refine En.sr ?_
 refine WL.rn ht hn 8 ⟨[qaf1 Bk, sl 4 (.rd (trR rLab r.1))], [.box [.v (.string text), I (wr (r.2 + 1)), I (wr ((wr (deep + 1)) - 1))] 213 false]⟩ ?_
 refine En.sr ?_
 refine WL.rn ht hn 2 ⟨[qaf1 Bk, sl 2 (.rd (trR rLab r.1))], [.box [.v (.string text), I (wr (r.2 + 1)), I (wr ((wr (deep + 1)) - 1))] 213 false]⟩ ?_
 refine En.ret ?_
 exact En.backE [0] ht (r.1, (wr (r.2 + 1)), (wr ((wr (deep + 1)) - 1))) h (by kernel_rfl) (by rfl) rfl
 refine En.skip ?_
 refine En.sr ?_
 refine WL.r ht hn 1 ⟨[qaf1 Bk, sl 91 (.ptr 0 0)], (qaf0 text pos deep)⟩ ?_
 obtain ⟨hp, h⟩ := h
 exact WL.cX (rFail_ct text pos deep 4 hp) en124 [0] rfl (leftX hpan h)
theorem en228 : ∀ args w, (callFunc 228 args).run Try.prog w = .ok (.enter 228 args) w := enters_of Try.func228 (by kernel_rfl) rfl
theorem chr_lt {text : ByteArray} {p : Int} (h : chr text p ≠ 0) : p < text.size := by
 by_cases hh : p < text.size
 ·exact hh
 ·exact absurd (chr_end (by omega)) h
theorem chr_rng (text : ByteArray) (p : Int) : 0 ≤ chr text p ∧ chr text p ≤ 255 := by
 unfold chr byteAt
 split
 ·cases h : text[p.toNat]? with
  | none => simp
  | some b =>
   have := b.toNat_lt
   simp
   omega
 ·simp
def Good (text : ByteArray) (f : Int → Int → Option (RTr × Int)) : Prop := ∀ (p d : Int) (r : RTr × Int), 0 ≤ p → p ≤ text.size → f p d = some r → p < r.2 ∧ r.2 ≤ text.size
theorem partS_good {text : ByteArray} {wh : Int → Int → Option (RTr × Int)} (hw : Good text wh) : Good text (partS wh text) := fun p d r h0 h1 e => by
 unfold partS at e
 split at e
 ·rename_i hc
  have := chr_lt (text := text) (p := p) (by omega)
  cases e
  simp only
  omega
 ·split at e
  ·rename_i hc
   have := chr_lt (text := text) (p := p) (by omega)
   cases e
   simp only
   omega
  ·split at e
   ·rename_i hc
    have := chr_lt (text := text) (p := p) (by omega)
    split at e
    ·cases e
    ·split at e
     ·cases e
     ·rename_i r' hr
      obtain ⟨k1, k2⟩ := hw (p + 1) (d + 1) r' (by omega) (by omega) hr
      split at e
      ·rename_i hc2
       have := chr_lt (text := text) (p := r'.2) (by omega)
       cases e
       simp only
       omega
      ·cases e
   ·cases e
theorem starsS_good {text : ByteArray} : ∀ (m : Nat) (t : RTr) (p : Int), p ≤ text.size → p ≤ (starsS text m t p).2 ∧ (starsS text m t p).2 ≤ text.size
 | 0, t, p, h1 => ⟨Int.le_refl _, h1⟩
 | m + 1, t, p, h1 => by
  unfold starsS
  split
  ·rename_i hc
   have := chr_lt (text := text) (p := p) (by omega)
   have := starsS_good (text := text) m (nd 5 0 [t]) (p + 1) (by omega)
   omega
  ·exact ⟨Int.le_refl _, h1⟩
theorem oneS_good {text : ByteArray} {wh : Int → Int → Option (RTr × Int)} (hw : Good text wh) : Good text (oneS wh text) := fun p d r h0 h1 e => by
 unfold oneS at e
 split at e
 ·cases e
 ·rename_i r' hr
  cases e
  have := partS_good hw p d r' h0 h1 hr
  have := starsS_good (text := text) text.size r'.1 r'.2 (by omega)
  omega
theorem rowL_good {text : ByteArray} {one : Int → Option (RTr × Int)} (ho : ∀ (p : Int) (r : RTr × Int), 0 ≤ p → p ≤ text.size → one p = some r → p < r.2 ∧ r.2 ≤ text.size) : ∀ (m : Nat) (l : List RTr) (p : Int) (r : List RTr × Int), 0 ≤ p → p ≤ text.size → rowL one text m l p = some r → p ≤ r.2 ∧ r.2 ≤ text.size
 | 0, l, p, r, _, _, e => by simp [rowL] at e
 | m + 1, l, p, r, h0, h1, e => by
  unfold rowL at e
  split at e
  ·split at e
   ·cases e
   ·rename_i r' hr
    have k := ho p r' h0 h1 hr
    have := rowL_good ho m _ r'.2 r (by omega) (by omega) e
    omega
  ·cases e
   exact ⟨Int.le_refl _, h1⟩
theorem rowS_good {text : ByteArray} {wh : Int → Int → Option (RTr × Int)} (hw : Good text wh) : Good text (rowS wh text) := fun p d r h0 h1 e => by
 unfold rowS at e
 split at e
 ·cases e
 ·rename_i r' hr
  have k := oneS_good hw p d r' h0 h1 hr
  split at e
  ·cases e
  ·rename_i r2 hr2
   cases e
   have := rowL_good (fun p r h0 h1 e => oneS_good hw p d r h0 h1 e) _ _ _ _ (by omega) (by omega) hr2
   simp only
   omega
theorem wholeL_good {text : ByteArray} {row : Int → Option (RTr × Int)} (ho : ∀ (p : Int) (r : RTr × Int), 0 ≤ p → p ≤ text.size → row p = some r → p < r.2 ∧ r.2 ≤ text.size) : ∀ (m : Nat) (l : List RTr) (p : Int) (r : List RTr × Int), 0 ≤ p → p ≤ text.size → wholeL row text m l p = some r → p ≤ r.2 ∧ r.2 ≤ text.size
 | 0, l, p, r, _, _, e => by simp [wholeL] at e
 | m + 1, l, p, r, h0, h1, e => by
  unfold wholeL at e
  split at e
  ·rename_i hc
   have := chr_lt (text := text) (p := p) (by omega)
   split at e
   ·cases e
   ·rename_i r' hr
    have k := ho (p + 1) r' (by omega) (by omega) hr
    have := wholeL_good ho m _ r'.2 r (by omega) (by omega) e
    omega
  ·cases e
   exact ⟨Int.le_refl _, h1⟩
theorem wholeS_good {text : ByteArray} {wh : Int → Int → Option (RTr × Int)} (hw : Good text wh) : Good text (wholeS wh text) := fun p d r h0 h1 e => by
 unfold wholeS at e
 split at e
 ·cases e
 ·rename_i r' hr
  have k := rowS_good hw p d r' h0 h1 hr
  split at e
  ·cases e
  ·rename_i r2 hr2
   cases e
   have := wholeL_good (fun p r h0 h1 e => rowS_good hw p d r h0 h1 e) _ _ _ _ (by omega) (by omega) hr2
   simp only
   omega
theorem pW_good {text : ByteArray} : ∀ k, Good text (pW text k)
 | 0 => fun p d r _ _ e => by simp [pW] at e
 | k + 1 => wholeS_good (pW_good k)
theorem kd_in {c : Int} (a : Int) (h0 : 0 ≤ c - a) (h1 : c ≤ 255) (ha : 0 ≤ a) : wr (IntKind.wrap .u8 (c - a)) = c - a := by
 have : IntKind.wrap .u8 (c - a) = c - a := by
  show (c - a) % 256 = c - a
  exact Int.emod_eq_of_lt h0 (by omega)
 rw [this, wr_in (by omega) (by omega)]
theorem rPart_all (k : Nat) (text : ByteArray) (pos deep : Int) (hp : rOk (k + 1) text pos deep) (Q : (Tr RLab) × Int × Int → Prop) (P : Prop) (h1 : partS (pW text k) text pos deep = none → P) (h2 : ∀ r, partS (pW text k) text pos deep = some r → Q (r.1, r.2, deep)) : rPart_vc k text pos deep Q P := by
 unfold rPart_vc
 obtain ⟨hz, ⟨p0, p1, pk⟩, d0, d1⟩ := hp
 have hr := chr_rng text pos
 unfold partS at h1 h2
 refine ⟨⟨p0, p1⟩, fun hb => ?_, fun hb => ⟨fun hb2 => ?_, fun hb2 => ⟨fun hb3 => ⟨fun hb4 => ⟨by decide, ?_⟩, fun hb4 => ?_⟩, fun hb3 => ⟨by decide, ?_⟩⟩⟩⟩
 ·have hc : chr text pos = 48 ∨ chr text pos = 49 := by simpa using hb
  have := chr_lt (text := text) (p := pos) (by omega)
  rw [kd_in 48 (by omega) (by omega) (by omega), wr_in (by omega) (by omega)]
  exact h2 _ (if_pos hc)
 ·have hc : ¬ (chr text pos = 48 ∨ chr text pos = 49) := by simpa using hb
  have hc2 : 97 ≤ chr text pos ∧ chr text pos ≤ 100 := by simpa using hb2
  have := chr_lt (text := text) (p := pos) (by omega)
  rw [kd_in 97 (by omega) (by omega) (by omega), wr_in (by omega) (by omega)]
  rw [if_neg hc, if_pos hc2] at h2
  exact h2 _ rfl
 ·have hc : ¬ (chr text pos = 48 ∨ chr text pos = 49) := by simpa using hb
  have hc2 : ¬ (97 ≤ chr text pos ∧ chr text pos ≤ 100) := by simpa using hb2
  have hc3 : chr text pos = 40 := by simpa using hb3
  have hc4 : deep = 40 := by simpa using hb4
  rw [if_neg hc, if_neg hc2, if_pos hc3, if_pos hc4] at h1
  exact h1 rfl
 ·have hc : ¬ (chr text pos = 48 ∨ chr text pos = 49) := by simpa using hb
  have hc2 : ¬ (97 ≤ chr text pos ∧ chr text pos ≤ 100) := by simpa using hb2
  have hc3 : chr text pos = 40 := by simpa using hb3
  have hc4 : ¬ deep = 40 := by simpa using hb4
  have := chr_lt (text := text) (p := pos) (by omega)
  rw [if_neg hc, if_neg hc2, if_pos hc3, if_neg hc4] at h1 h2
  rw [wr_in (n := pos + 1) (by omega) (by omega), wr_in (n := deep + 1) (by omega) (by omega)]
  refine ⟨⟨hz, ⟨by omega, by omega, by omega⟩, by omega, by omega⟩, fun e => ?_, fun r hr2 => ?_⟩
  ·rw [e] at h1
   exact h1 rfl
  ·obtain ⟨k1, k2⟩ := pW_good k (pos + 1) (deep + 1) r (by omega) (by omega) hr2
   rw [hr2] at h1 h2
   refine ⟨⟨by omega, k2⟩, fun hb5 => ⟨by decide, ?_⟩, fun hb5 => ?_⟩
   ·have hc5 : ¬ chr text r.2 = 41 := by simpa using hb5
    simp only [if_neg hc5] at h1
    exact h1 trivial
   ·have hc5 : chr text r.2 = 41 := by simpa using hb5
    have := chr_lt (text := text) (p := r.2) (by omega)
    simp only [if_pos hc5] at h2
    rw [wr_in (by omega) (by omega), wr_in (by omega) (by omega), show deep + 1 - 1 = deep by omega]
    exact h2 _ rfl
 ·have hc : ¬ (chr text pos = 48 ∨ chr text pos = 49) := by simpa using hb
  have hc2 : ¬ (97 ≤ chr text pos ∧ chr text pos ≤ 100) := by simpa using hb2
  have hc3 : ¬ chr text pos = 40 := by simpa using hb3
  rw [if_neg hc, if_neg hc2, if_neg hc3] at h1
  exact h1 rfl
theorem rPart_ok (k : Nat) (ih : WC k) (text : ByteArray) (pos deep : Int) (hp : rOk (k + 1) text pos deep) (r : RTr × Int) (hx : partS (pW text k) text pos deep = some r) : CtE 228 [.sv (.one (.ptr 0 0))] [.box [.v (.string text), I pos, I deep] 213 false] [0] (fun (_ : Unit) => True) (fun _ => .sv (.one (.rd (trR rLab r.1)))) (fun _ => [.box [.v (.string text), I r.2, I deep] 213 false]) :=
 (rPart_walk k text pos deep ih (fun x => x = (r.1, r.2, deep)) False (rPart_all k text pos deep hp _ _ (fun e => by rw [hx] at e; cases e) (fun y e => by rw [hx] at e; cases e; rfl))).toE fun x hx => ⟨(), trivial, by subst hx; rfl, by subst hx; rfl⟩
theorem rPart_bad (k : Nat) (ih : WC k) (text : ByteArray) (pos deep : Int) (hp : rOk (k + 1) text pos deep) (hx : partS (pW text k) text pos deep = none) : CtX 228 [.sv (.one (.ptr 0 0))] [.box [.v (.string text), I pos, I deep] 213 false] (psStop 210) :=
 (rPart_walk k text pos deep ih (fun _ => False) True (rPart_all k text pos deep hp _ _ (fun _ => trivial) (fun y e => by rw [hx] at e; cases e))).toX
def rOne_vc (k : Nat) (text : ByteArray) (pos : Int) (deep : Int) (Q : (Tr RLab) × Int × Int → Prop) (P : Prop) : Prop :=
 (rOk (k + 1) text pos deep) ∧
 ((partS (pW text k) text pos deep) = none → P) ∧ ∀ r, (partS (pW text k) text pos deep) = some r →
 (∃ (Inv : (Tr RLab) → Int → Int → Prop) (mu : (Tr RLab) → Int → Int → Nat), Inv (r.1) (r.2) deep ∧
 ∀ (x3 : (Tr RLab)) (y01 : Int) (y02 : Int) , Inv x3 y01 y02 → ((0 ≤ y01 ∧ y01 ≤ text.size) ∧
 IfP ((chr text y01) == 42) ((Inv (Tr.node (RLab.mk 5 0) ([x3] : List (Tr RLab))) (wr ((y01) + 1)) (y02) ∧ mu (Tr.node (RLab.mk 5 0) ([x3] : List (Tr RLab))) (wr ((y01) + 1)) (y02) < mu x3 y01 y02)) (Q (x3, (y01), (y02)))))
noncomputable abbrev qag0 (y0 : Nat → Nat) := sl 0 (.pptr 0 0 (y0 0))
theorem rOne_walk (k : Nat) (text : ByteArray) (pos : Int) (deep : Int) (ih : WC k) (Q : (Tr RLab) × Int × Int → Prop) (P : Prop) (h : rOne_vc k text pos deep Q P) : CtP 208 [.sv (.one (.ptr 0 0))] [.box [.v (.string text), I pos, I deep] 213 false] [0] Q (fun (r : (Tr RLab) × Int × Int) => .sv (.one (.rd (trR rLab r.1)))) (fun (r : (Tr RLab) × Int × Int) => [.box [.v (.string text), I r.2.1, I r.2.2] 213 false]) (psStop 210) P := by
 have ht := tab_ok
 refine CtP.body Try.func208 rfl rfl rfl (by kernel_rfl) (by kernel_rfl) (fun c Bk hn hpan => ?_)
 unfold rOne_vc at h
 show En c ⟨[qag0 Bk], [.box [.v (.string text), I pos, I deep] 213 false]⟩ _
 refine En.sr ?_
 refine WL.rn ht hn 1 ⟨[qag0 Bk], [.box [.v (.string text), I pos, I deep] 213 false]⟩ ?_
 refine En.sr ?_
 refine WL.r ht hn 1 ⟨[qag0 Bk, sl 4 (.ptr 0 0)], [.box [.v (.string text), I pos, I deep] 213 false]⟩ ?_
 obtain ⟨hp, h⟩ := h
 refine splitO (partS (pW text k) text pos deep) (fun hr_2 => ?_) (fun r hr_2 => ?_)
 exact WL.cX (rPart_bad k ih text pos deep hp hr_2) en228 [0] rfl (leftX hpan (h.1 hr_2))
 replace h := h.2 r hr_2
 refine WL.cE (rPart_ok k ih text pos deep hp r hr_2) en228 [0] hn rfl ?_
 refine WL.rn ht hn 1 ⟨[qag0 Bk, sl 3 (.rd (trR rLab r.1))], [.box [.v (.string text), I r.2, I deep] 213 false]⟩ ?_
 refine En.seq ?_
 refine En.block ?_
 obtain ⟨Inv, mu, h0, hI⟩ := h
 refine En.loop (σ := (Tr RLab) × Int × Int) (fun zz => Inv zz.1 zz.2.1 zz.2.2) (fun zz => mu zz.1 zz.2.1 zz.2.2) (fun zz => ⟨[qag0 Bk, sl 3 (.rd (trR rLab zz.1))], [.box [.v (.string text), I zz.2.1, I zz.2.2] 213 false]⟩) (r.1, r.2, deep) h0 (sub_ok (by kernel_rfl)) ?_
 rintro ⟨x3, y01, y02⟩ h
 replace h := hI _ _ _ h
 show En c ⟨[qag0 Bk, sl 3 (.rd (trR rLab x3))], [.box [.v (.string text), I y01, I y02] 213 false]⟩ _
 refine En.seq ?_
 refine En.sr ?_
 refine WL.r ht hn 1 ⟨[qag0 Bk, sl 3 (.rd (trR rLab x3)), sl 6 (.ptr 0 0)], [.box [.v (.string text), I y01, I y02] 213 false]⟩ ?_
 obtain ⟨hp, h⟩ := h
 refine WL.cE (rNow_ct text y01 y02 hp) en178 [0] hn rfl ?_
 refine WL.rn ht hn 1 ⟨[qag0 Bk, sl 3 (.rd (trR rLab x3)), sl 8 (B ((chr text y01) == 42))], [.box [.v (.string text), I y01, I y02] 213 false]⟩ ?_
 refine En.ch h (fun h => ?_) (fun h => ?_)
 refine En.skip ?_
 refine En.block ?_
 refine En.sr ?_
 refine WL.rn ht hn 8 ⟨[qag0 Bk, sl 3 (.rd (trR rLab x3))], [.box [.v (.string text), I (wr (y01 + 1)), I y02] 213 false]⟩ ?_
 refine En.region ?_
 refine WL.r ht hn 1 ⟨[qag0 Bk, sl 16 (.rd (trR rLab x3))], [.box [.v (.string text), I (wr (y01 + 1)), I y02] 213 false]⟩ ?_
 refine WL.mt0 (K := []) (p := some (1, rowI 142 (TT rLab) ([x3] : List (Tr RLab)))) hn (by rfl) (mt_lit (T := (TT rLab)) ([x3] : List (Tr RLab)) (mt_bsl 1 (r := cellsOf (TT rLab) ([x3] : List (Tr RLab))) ht rfl (by rfl) (by rfl) (by rfl) (by kernel_rfl) (by rfl)) (fun _ h => by cases h) (fun _ => rfl) (fun _ => rfl) (by rfl) (Nat.le_of_ble_eq_true rfl)) (by rfl) (by rfl) (by rfl) ?_
 refine WL.rn ht hn 3 ⟨[qag0 Bk, sl 3 (.ptr 2 0)], [.box [.v (.string text), I (wr (y01 + 1)), I y02] 213 false, rowI 142 (TT rLab) ([x3] : List (Tr RLab)), .box [I 5, I 0, .own 1] 261 false]⟩ ?_
 refine En.seal (T := (TT rLab)) (l := ([x3] : List (Tr RLab))) (e := 142) 1 rfl ?_
 refine En.freeze [2] (by rfl) ?_
 refine En.ghost 3 (o1 (.rd (trR rLab (Tr.node (RLab.mk 5 0) ([x3] : List (Tr RLab)))))) (by rfl) (tree_of (lab := rLab) (x := (RLab.mk 5 0)) (kids := ([x3] : List (Tr RLab))) (i := 2) (by rfl) (by rfl) (by rfl)) ?_
 exact En.at (I := fun zz => Inv zz.1 zz.2.1 zz.2.2 ∧ mu zz.1 zz.2.1 zz.2.2 < mu x3 y01 y02) (T := fun zz => ⟨[qag0 Bk, sl 3 (.rd (trR rLab zz.1))], [.box [.v (.string text), I zz.2.1, I zz.2.2] 213 false]⟩) ((Tr.node (RLab.mk 5 0) ([x3] : List (Tr RLab))), (wr (y01 + 1)), y02) h (by kernel_rfl)
 refine En.exit rfl ?_
 refine En.sr ?_
 refine WL.rn ht hn 2 ⟨[qag0 Bk, sl 2 (.rd (trR rLab x3))], [.box [.v (.string text), I y01, I y02] 213 false]⟩ ?_
 refine En.ret ?_
 exact En.backE [0] ht (x3, y01, y02) h (by kernel_rfl) (by rfl) rfl
theorem en208 : ∀ args w, (callFunc 208 args).run Try.prog w = .ok (.enter 208 args) w := enters_of Try.func208 (by kernel_rfl) rfl
theorem rOne_all (k : Nat) (text : ByteArray) (pos deep : Int) (hp : rOk (k + 1) text pos deep) (Q : (Tr RLab) × Int × Int → Prop) (P : Prop) (h1 : oneS (pW text k) text pos deep = none → P) (h2 : ∀ r, oneS (pW text k) text pos deep = some r → Q (r.1, r.2, deep)) : rOne_vc k text pos deep Q P := by
 unfold rOne_vc
 refine ⟨hp, fun e => h1 (by unfold oneS; rw [e]), fun r hr => ?_⟩
 obtain ⟨hz, ⟨p0, p1, pk⟩, d0, d1⟩ := hp
 obtain ⟨k1, k2⟩ := partS_good (pW_good k) pos deep r p0 p1 hr
 have h3 := h2 _ (by unfold oneS; rw [hr])
 obtain ⟨R0, hR0⟩ : ∃ R0, R0 = starsS text text.size r.1 r.2 := ⟨_, rfl⟩
 rw [← hR0] at h3
 refine ⟨fun t p d => ∃ m : Nat, d = deep ∧ 0 ≤ p ∧ p ≤ text.size ∧ text.size - p ≤ m ∧ R0 = starsS text m t p, fun _ p _ => (text.size - p).toNat, ⟨text.size, rfl, by omega, k2, by omega, hR0⟩, ?_⟩
 rintro t p d ⟨m, rfl, q0, q1, qm, he⟩
 refine ⟨⟨q0, q1⟩, fun hb => ?_, fun hb => ?_⟩
 ·have hc : chr text p = 42 := by simpa using hb
  have := chr_lt (text := text) (p := p) (by omega)
  rw [wr_in (by omega) (by omega)]
  obtain ⟨m', rfl⟩ : ∃ m', m = m' + 1 := ⟨m - 1, by omega⟩
  rw [starsS, if_pos hc] at he
  exact ⟨⟨m', rfl, by omega, by omega, by omega, he⟩, by show ((text.size : Int) - (p + 1)).toNat < ((text.size : Int) - p).toNat; omega⟩
 ·have hc : ¬ chr text p = 42 := by simpa using hb
  have he2 : starsS text m t p = (t, p) := by
   cases m with
   | zero => rfl
   | succ m => rw [starsS, if_neg hc]
  rw [he, he2] at h3
  exact h3
theorem rOne_ok (k : Nat) (ih : WC k) (text : ByteArray) (pos deep : Int) (hp : rOk (k + 1) text pos deep) (r : RTr × Int) (hx : oneS (pW text k) text pos deep = some r) : CtE 208 [.sv (.one (.ptr 0 0))] [.box [.v (.string text), I pos, I deep] 213 false] [0] (fun (_ : Unit) => True) (fun _ => .sv (.one (.rd (trR rLab r.1)))) (fun _ => [.box [.v (.string text), I r.2, I deep] 213 false]) :=
 (rOne_walk k text pos deep ih (fun x => x = (r.1, r.2, deep)) False (rOne_all k text pos deep hp _ _ (fun e => by rw [hx] at e; cases e) (fun y e => by rw [hx] at e; cases e; rfl))).toE fun x hx => ⟨(), trivial, by subst hx; rfl, by subst hx; rfl⟩
theorem rOne_bad (k : Nat) (ih : WC k) (text : ByteArray) (pos deep : Int) (hp : rOk (k + 1) text pos deep) (hx : oneS (pW text k) text pos deep = none) : CtX 208 [.sv (.one (.ptr 0 0))] [.box [.v (.string text), I pos, I deep] 213 false] (psStop 210) :=
 (rOne_walk k text pos deep ih (fun _ => False) True (rOne_all k text pos deep hp _ _ (fun _ => trivial) (fun y e => by rw [hx] at e; cases e))).toX
def rRow_vc (k : Nat) (text : ByteArray) (pos : Int) (deep : Int) (Q : (Tr RLab) × Int × Int → Prop) (P : Prop) : Prop :=
 (rOk (k + 1) text pos deep) ∧
 ((oneS (pW text k) text pos deep) = none → P) ∧ ∀ r, (oneS (pW text k) text pos deep) = some r →
 (∃ (Inv : Int → Int → (List (Tr RLab)) → Prop) (mu : Int → Int → (List (Tr RLab)) → Nat), Inv (r.2) deep ([(r.1)] : List (Tr RLab)) ∧
 ∀ (y01 : Int) (y02 : Int) (l1 : List (Tr RLab)) , Inv y01 y02 l1 → ((0 ≤ y01 ∧ y01 ≤ text.size) ∧
 IfP (begB text y01) ((rOk (k + 1) text (y01) (y02)) ∧
 ((oneS (pW text k) text (y01) (y02)) = none → P) ∧ ∀ r_2, (oneS (pW text k) text (y01) (y02)) = some r_2 →
 (capOk l1.length (([(r_2.1)] : List (Tr RLab)) : List (Tr RLab)).length 8 ∧
 (Inv (r_2.2) (y02) (l1 ++ ([(r_2.1)] : List (Tr RLab))) ∧ mu (r_2.2) (y02) (l1 ++ ([(r_2.1)] : List (Tr RLab))) < mu y01 y02 l1))) (Q ((Tr.node (RLab.mk 4 0) l1), (y01), (y02)))))
noncomputable abbrev qah0 := (.box [I 4, I 0, .own 1] 261 false : Item)
noncomputable abbrev qah1 (y0 : Nat → Nat) := ([sl 0 (.pptr 0 0 (y0 0)), sl 3 (.ptr 2 0)] : List (Nat × SC))
noncomputable abbrev qah2 := (List (Tr RLab))
theorem rRow_walk (k : Nat) (text : ByteArray) (pos : Int) (deep : Int) (ih : WC k) (Q : (Tr RLab) × Int × Int → Prop) (P : Prop) (h : rRow_vc k text pos deep Q P) : CtP 177 [.sv (.one (.ptr 0 0))] [.box [.v (.string text), I pos, I deep] 213 false] [0] Q (fun (r : (Tr RLab) × Int × Int) => .sv (.one (.rd (trR rLab r.1)))) (fun (r : (Tr RLab) × Int × Int) => [.box [.v (.string text), I r.2.1, I r.2.2] 213 false]) (psStop 210) P := by
 have ht := tab_ok
 refine CtP.body Try.func177 rfl rfl rfl (by kernel_rfl) (by kernel_rfl) (fun c Bk hn hpan => ?_)
 unfold rRow_vc at h
 show En c ⟨[sl 0 (.pptr 0 0 (Bk 0))], [.box [.v (.string text), I pos, I deep] 213 false]⟩ _
 refine En.sr ?_
 refine WL.rn ht hn 1 ⟨[sl 0 (.pptr 0 0 (Bk 0))], [.box [.v (.string text), I pos, I deep] 213 false]⟩ ?_
 refine En.sr ?_
 refine WL.r ht hn 1 ⟨[sl 0 (.pptr 0 0 (Bk 0)), sl 4 (.ptr 0 0)], [.box [.v (.string text), I pos, I deep] 213 false]⟩ ?_
 obtain ⟨hp, h⟩ := h
 refine splitO (oneS (pW text k) text pos deep) (fun hr_2 => ?_) (fun r hr_2 => ?_)
 exact WL.cX (rOne_bad k ih text pos deep hp hr_2) en208 [0] rfl (leftX hpan (h.1 hr_2))
 replace h := h.2 r hr_2
 refine WL.cE (rOne_ok k ih text pos deep hp r hr_2) en208 [0] hn rfl ?_
 refine WL.mt0 (K := []) (p := some (1, rowI 142 (TT rLab) ([r.1] : qah2))) hn (by rfl) (mt_lit (T := (TT rLab)) ([r.1] : qah2) (mt_bsl 1 (r := cellsOf (TT rLab) ([r.1] : qah2)) ht rfl (by rfl) (by rfl) (by rfl) (by kernel_rfl) (by rfl)) (fun _ h => by cases h) (fun _ => rfl) (fun _ => rfl) (by rfl) (Nat.le_of_ble_eq_true rfl)) (by rfl) (by rfl) (by rfl) ?_
 refine WL.rn ht hn 3 ⟨(qah1 Bk), [.box [.v (.string text), I r.2, I deep] 213 false, rowI 142 (TT rLab) ([r.1] : qah2), qah0]⟩ ?_
 refine En.seq ?_
 refine En.block ?_
 obtain ⟨Inv, mu, h0, hI⟩ := h
 refine En.loop (σ := Int × Int × qah2) (fun zz => Inv zz.1 zz.2.1 zz.2.2) (fun zz => mu zz.1 zz.2.1 zz.2.2) (fun zz => ⟨(qah1 Bk), [.box [.v (.string text), I zz.1, I zz.2.1] 213 false, rowI 142 (TT rLab) zz.2.2, qah0]⟩) (r.2, deep, ([r.1] : qah2)) h0 (sub_ok (by kernel_rfl)) ?_
 rintro ⟨y01, y02, l1⟩ h
 replace h := hI _ _ _ h
 show En c ⟨(qah1 Bk), [.box [.v (.string text), I y01, I y02] 213 false, rowI 142 (TT rLab) l1, qah0]⟩ _
 refine En.seq ?_
 refine En.sr ?_
 refine WL.r ht hn 1 ⟨[sl 0 (.pptr 0 0 (Bk 0)), sl 3 (.ptr 2 0), sl 9 (.ptr 0 0)], [.box [.v (.string text), I y01, I y02] 213 false, rowI 142 (TT rLab) l1, qah0]⟩ ?_
 obtain ⟨hp, h⟩ := h
 refine WL.cE (rBeg_ct text y01 y02 hp) en209 [0] hn rfl ?_
 refine WL.nil ?_
 refine En.ch h (fun h => ?_) (fun h => ?_)
 refine En.skip ?_
 refine En.block ?_
 obtain ⟨hp_2, h⟩ := h
 refine splitO (oneS (pW text k) text y01 y02) (fun hr_3 => ?_) (fun r_2 hr_3 => ?_)
 refine En.regionA ⟨(qah1 Bk), [.sv (.one (.ptr 2 0)), .sv (.one (.ptr 2 0)), .sv (.one (.ptr 2 0)), .sv (.one (.ptr 2 2)), .sv (.one (.own 1)), .sv (.one (.ptr 0 0)), .sv (.one (.rd deadR)), .sv (.one (.rd deadR)), .sv (.one (.rd deadR)), .sv (.one (.ptr 2 0)), .sv (.one (.ptr 2 2)), .sv (.one (.rd deadR))], [⟨.box [.v (.string text), I y01, I y02] 213 false, none, none, none⟩, ⟨rowI 142 (TT rLab) l1, none, none, none⟩, ⟨(qah0), none, none, none⟩]⟩ ⟨[sl 17 (.rd deadR)], [.gone, .gone, .gone]⟩ (by kernel_rfl) hn (by kernel_rfl) (by rfl) (by kernel_rfl) ?_ (by kernel_rfl) ?_
 exact ⟨.ev ⟨[sl 3 (.ptr 2 0)], []⟩ ht,
 .ev ⟨[sl 3 (.ptr 2 0)], []⟩ ht,
 .ev ⟨[sl 12 (.ptr 2 0)], []⟩ ht,
 .ev ⟨[sl 13 (.ptr 2 0)], []⟩ ht,
 .ev ⟨[sl 14 (.ptr 2 2)], [.gone, .gone, qah0]⟩ ht,
 .ev ⟨[sl 0 (.pptr 0 0 (Bk 0))], []⟩ ht,
 .mt ⟨[sl 16 (.ptr 0 0)], [.box [.v (.string text), I y01, I y02] 213 false]⟩ [] none (by kernel_rfl) (by rfl) (mt_callX (rOne_bad k ih text y01 y02 hp_2 hr_3) en208 (caps := []) [0] rfl (by rfl) (argsAs (by kernel_rfl) (by rfl)) (by kernel_rfl) (by decide) (leftX hpan (h.1 hr_3))) rfl rfl rfl rfl,
 .mt ⟨[sl 17 (.rd deadR)], []⟩ [] none (by kernel_rfl) (by rfl) (mt_dead 17 (by rfl)) rfl rfl rfl rfl,
 .mt ⟨[sl 15 (.own 1), sl 18 (.rd deadR)], []⟩ [] none (by kernel_rfl) (by rfl) (mt_dead 18 (by rfl)) rfl rfl rfl rfl,
 .ev ⟨[sl 11 (.ptr 2 0)], []⟩ ht,
 .ev ⟨[sl 20 (.ptr 2 0)], []⟩ ht,
 .mt ⟨[sl 19 (.rd deadR), sl 21 (.ptr 2 2)], []⟩ [] none (by kernel_rfl) (by rfl) (mt_dead 19 (by rfl)) rfl rfl rfl rfl,
 trivial⟩
 exact En.dead 17 (by rfl)
 replace h := h.2 r_2 hr_3
 obtain ⟨hp_3, h⟩ := h
 refine En.regionA ⟨(qah1 Bk), [.sv (.one (.ptr 2 0)), .sv (.one (.ptr 2 0)), .sv (.one (.ptr 2 0)), .sv (.one (.ptr 2 2)), .sv (.one (.own 1)), .sv (.one (.ptr 0 0)), .sv (.one (.rd (trR rLab r_2.1))), .sv (.one (LS (TT rLab) ([r_2.1] : qah2))), .sv (.one (.own 3)), .sv (.one (.ptr 2 0)), .sv (.one (.ptr 2 2)), .tup []], [⟨.box [.v (.string text), I y01, I y02] 213 false, none, none, some (6, .box [.v (.string text), I r_2.2, I y02] 213 false)⟩, ⟨rowI 142 (TT rLab) l1, none, some 8, none⟩, ⟨(qah0), none, none, some (11, .box [I 4, I 0, .own 3] 261 false)⟩, ⟨rowI 142 (TT rLab) (l1 ++ ([r_2.1] : qah2)), some 8, none, none⟩]⟩ ⟨(qah1 Bk), [.box [.v (.string text), I r_2.2, I y02] 213 false, .gone, .box [I 4, I 0, .own 3] 261 false, rowI 142 (TT rLab) (l1 ++ ([r_2.1] : qah2))]⟩ (by kernel_rfl) hn (by kernel_rfl) (by rfl) (by kernel_rfl) ?_ (by kernel_rfl) ?_
 exact ⟨.ev ⟨[sl 3 (.ptr 2 0)], []⟩ ht,
 .ev ⟨[sl 3 (.ptr 2 0)], []⟩ ht,
 .ev ⟨[sl 12 (.ptr 2 0)], []⟩ ht,
 .ev ⟨[sl 13 (.ptr 2 0)], []⟩ ht,
 .ev ⟨[sl 14 (.ptr 2 2)], [.gone, .gone, qah0]⟩ ht,
 .ev ⟨[sl 0 (.pptr 0 0 (Bk 0))], []⟩ ht,
 .me ⟨[sl 16 (.ptr 0 0)], [.box [.v (.string text), I y01, I y02] 213 false]⟩ [(0, .box [.v (.string text), I r_2.2, I y02] 213 false)] (by kernel_rfl) (by rfl) (me_call (rOne_ok k ih text y01 y02 hp_2 r_2 hr_3) en208 (caps := []) [0] rfl (by rfl) (argsAs (by kernel_rfl) (by rfl)) (by kernel_rfl) (by decide) (by rfl) (by rfl)) rfl rfl rfl ⟨⟨_, rfl, rfl, rfl, rfl, rfl⟩, trivial⟩,
 .mt ⟨[sl 17 (.rd (trR rLab r_2.1))], []⟩ [] none (by kernel_rfl) (by rfl) (mt_seal (q := 3) (e := 142) (mt_lit (T := (TT rLab)) ([r_2.1] : qah2) (mt_bsl 3 (r := cellsOf (TT rLab) ([r_2.1] : qah2)) ht rfl (by rfl) (by rfl) (by rfl) (by kernel_rfl) (by rfl)) (fun _ h => by cases h) (fun _ => rfl) (fun _ => rfl) (by rfl) (Nat.le_of_ble_eq_true rfl))) rfl rfl rfl rfl,
 .mt ⟨[sl 15 (.own 1), sl 18 (LS (TT rLab) ([r_2.1] : qah2))], [.gone, rowI 142 (TT rLab) l1]⟩ [1] (some 3) (by kernel_rfl) (by rfl) (mt_append (T := (TT rLab)) (l := l1) (es := ([r_2.1] : qah2)) (p := 3) ht rfl (by rfl) (by rfl) (by rfl) (by rfl) (by decide) (by rfl) (by rfl) (srcLS (T := (TT rLab)) (es := ([r_2.1] : qah2)) (fun _ h => by cases h) (by decide) (by rfl)) (by exact hp_3) (by exact hp_3.le (by decide))) rfl rfl rfl rfl,
 .ev ⟨[sl 11 (.ptr 2 0)], []⟩ ht,
 .ev ⟨[sl 20 (.ptr 2 0)], []⟩ ht,
 .mu ⟨[sl 19 (.own 3), sl 21 (.ptr 2 2)], [.gone, .gone, qah0]⟩ 2 _ _ rfl rfl (by kernel_rfl) (by rfl) (mu_store2 ht rfl (by rfl) (by rfl) (by rfl) (by rfl) (fun h => by cases h) (by rfl) (by rfl)) rfl rfl rfl rfl rfl rfl rfl,
 trivial⟩
 refine En.move 3 1 (by rfl) (by rfl) ?_
 exact En.at (I := fun zz => Inv zz.1 zz.2.1 zz.2.2 ∧ mu zz.1 zz.2.1 zz.2.2 < mu y01 y02 l1) (T := fun zz => ⟨(qah1 Bk), [.box [.v (.string text), I zz.1, I zz.2.1] 213 false, rowI 142 (TT rLab) zz.2.2, qah0]⟩) (r_2.2, y02, (l1 ++ ([r_2.1] : qah2))) h (by kernel_rfl)
 refine En.exit rfl ?_
 refine En.sr ?_
 refine WL.rn ht hn 2 ⟨[sl 0 (.pptr 0 0 (Bk 0)), sl 2 (.ptr 2 0)], [.box [.v (.string text), I y01, I y02] 213 false, rowI 142 (TT rLab) l1, qah0]⟩ ?_
 refine En.ret ?_
 refine En.seal (T := (TT rLab)) (l := l1) (e := 142) 1 rfl ?_
 refine En.freeze [2] (by rfl) ?_
 refine En.ghost 2 (o1 (.rd (trR rLab (Tr.node (RLab.mk 4 0) l1)))) (by rfl) (tree_of (lab := rLab) (x := (RLab.mk 4 0)) (kids := l1) (i := 2) (by rfl) (by rfl) (by rfl)) ?_
 exact En.backE [0] ht ((Tr.node (RLab.mk 4 0) l1), y01, y02) h (by kernel_rfl) (by rfl) rfl
theorem en177 : ∀ args w, (callFunc 177 args).run Try.prog w = .ok (.enter 177 args) w := enters_of Try.func177 (by kernel_rfl) rfl
theorem rRow_all (k : Nat) (text : ByteArray) (pos deep : Int) (hp : rOk (k + 1) text pos deep) (Q : (Tr RLab) × Int × Int → Prop) (P : Prop) (h1 : rowS (pW text k) text pos deep = none → P) (h2 : ∀ r, rowS (pW text k) text pos deep = some r → Q (r.1, r.2, deep)) : rRow_vc k text pos deep Q P := by
 unfold rRow_vc
 refine ⟨hp, fun e => h1 (by unfold rowS; rw [e]), fun r hr => ?_⟩
 obtain ⟨hz, ⟨p0, p1, pk⟩, d0, d1⟩ := hp
 obtain ⟨k1, k2⟩ := oneS_good (pW_good k) pos deep r p0 p1 hr
 unfold rowS at h1 h2
 simp only [hr] at h1 h2
 obtain ⟨R0, hR0⟩ : ∃ R0, R0 = rowL (fun p => oneS (pW text k) text p deep) text (text.size + 1) [r.1] r.2 := ⟨_, rfl⟩
 rw [← hR0] at h1 h2
 refine ⟨fun p d l => ∃ m : Nat, d = deep ∧ pos ≤ p ∧ p ≤ text.size ∧ text.size - p < m ∧ R0 = rowL (fun p => oneS (pW text k) text p deep) text m l p ∧ (l.length : Int) ≤ p, fun p _ _ => (text.size - p).toNat, ⟨text.size + 1, rfl, by omega, k2, by omega, hR0, by simp only [List.length_cons, List.length_nil]; omega⟩, ?_⟩
 rintro p d l ⟨m, rfl, q0, q1, qm, he, hl⟩
 obtain ⟨m', rfl⟩ : ∃ m', m = m' + 1 := ⟨m - 1, by omega⟩
 refine ⟨⟨by omega, q1⟩, fun hb => ?_, fun hb => ?_⟩
 ·have hc := hb
  have : p < text.size := by
   unfold begB at hb
   rw [Bool.and_eq_true] at hb
   exact of_decide_eq_true hb.1
  rw [rowL, if_pos hc] at he
  refine ⟨⟨hz, ⟨by omega, by omega, by omega⟩, d0, d1⟩, fun e => h1 ?_, fun r2 hr2 => ?_⟩
  ·simp only [e] at he
   rw [he]
  ·obtain ⟨k3, k4⟩ := oneS_good (pW_good k) p d r2 (by omega) (by omega) hr2
   simp only [hr2] at he
   refine ⟨capOk_of (by simp only [List.length_cons, List.length_nil]; omega), ⟨m', rfl, by omega, k4, by omega, he, by rw [List.length_append]; simp only [List.length_cons, List.length_nil]; omega⟩, by show ((text.size : Int) - r2.2).toNat < ((text.size : Int) - p).toNat; omega⟩
 ·have hc : ¬ begB text p = true := by rw [hb]; decide
  rw [rowL, if_neg hc] at he
  exact h2 (nd 4 0 l, p) (by rw [he])
theorem rRow_ok (k : Nat) (ih : WC k) (text : ByteArray) (pos deep : Int) (hp : rOk (k + 1) text pos deep) (r : RTr × Int) (hx : rowS (pW text k) text pos deep = some r) : CtE 177 [.sv (.one (.ptr 0 0))] [.box [.v (.string text), I pos, I deep] 213 false] [0] (fun (_ : Unit) => True) (fun _ => .sv (.one (.rd (trR rLab r.1)))) (fun _ => [.box [.v (.string text), I r.2, I deep] 213 false]) :=
 (rRow_walk k text pos deep ih (fun x => x = (r.1, r.2, deep)) False (rRow_all k text pos deep hp _ _ (fun e => by rw [hx] at e; cases e) (fun y e => by rw [hx] at e; cases e; rfl))).toE fun x hx => ⟨(), trivial, by subst hx; rfl, by subst hx; rfl⟩
theorem rRow_bad (k : Nat) (ih : WC k) (text : ByteArray) (pos deep : Int) (hp : rOk (k + 1) text pos deep) (hx : rowS (pW text k) text pos deep = none) : CtX 177 [.sv (.one (.ptr 0 0))] [.box [.v (.string text), I pos, I deep] 213 false] (psStop 210) :=
 (rRow_walk k text pos deep ih (fun _ => False) True (rRow_all k text pos deep hp _ _ (fun _ => trivial) (fun y e => by rw [hx] at e; cases e))).toX
def rWhole_vc (k : Nat) (text : ByteArray) (pos : Int) (deep : Int) (Q : (Tr RLab) × Int × Int → Prop) (P : Prop) : Prop :=
 (rOk (k + 1) text pos deep) ∧
 ((rowS (pW text k) text pos deep) = none → P) ∧ ∀ r, (rowS (pW text k) text pos deep) = some r →
 (∃ (Inv : Int → Int → (List (Tr RLab)) → Prop) (mu : Int → Int → (List (Tr RLab)) → Nat), Inv (r.2) deep ([(r.1)] : List (Tr RLab)) ∧
 ∀ (y01 : Int) (y02 : Int) (l1 : List (Tr RLab)) , Inv y01 y02 l1 → ((0 ≤ y01 ∧ y01 ≤ text.size) ∧
 IfP ((chr text y01) == 43) ((rOk (k + 1) text (wr ((y01) + 1)) (y02)) ∧
 ((rowS (pW text k) text (wr ((y01) + 1)) (y02)) = none → P) ∧ ∀ r_2, (rowS (pW text k) text (wr ((y01) + 1)) (y02)) = some r_2 →
 (capOk l1.length (([(r_2.1)] : List (Tr RLab)) : List (Tr RLab)).length 8 ∧
 (Inv (r_2.2) (y02) (l1 ++ ([(r_2.1)] : List (Tr RLab))) ∧ mu (r_2.2) (y02) (l1 ++ ([(r_2.1)] : List (Tr RLab))) < mu y01 y02 l1))) (Q ((Tr.node (RLab.mk 3 0) l1), (y01), (y02)))))
noncomputable abbrev qai0 := (.box [I 3, I 0, .own 1] 261 false : Item)
noncomputable abbrev qai1 (y0 : Nat → Nat) := ([sl 0 (.pptr 0 0 (y0 0)), sl 3 (.ptr 2 0)] : List (Nat × SC))
noncomputable abbrev qai2 := (List (Tr RLab))
noncomputable abbrev qai3 (text : ByteArray) (y0) (y1) (y2) := ([.box [.v (.string text), I y0, I y1] 213 false, rowI 142 (TT rLab) y2, (qai0)] : List Item)
theorem rWhole_walk (k : Nat) (text : ByteArray) (pos : Int) (deep : Int) (ih : WC k) (Q : (Tr RLab) × Int × Int → Prop) (P : Prop) (h : rWhole_vc k text pos deep Q P) : CtP 123 [.sv (.one (.ptr 0 0))] [.box [.v (.string text), I pos, I deep] 213 false] [0] Q (fun (r : (Tr RLab) × Int × Int) => .sv (.one (.rd (trR rLab r.1)))) (fun (r : (Tr RLab) × Int × Int) => [.box [.v (.string text), I r.2.1, I r.2.2] 213 false]) (psStop 210) P := by
 have ht := tab_ok
 refine CtP.body Try.func123 rfl rfl rfl (by kernel_rfl) (by kernel_rfl) (fun c Bk hn hpan => ?_)
 unfold rWhole_vc at h
 show En c ⟨[sl 0 (.pptr 0 0 (Bk 0))], [.box [.v (.string text), I pos, I deep] 213 false]⟩ _
 refine En.sr ?_
 refine WL.rn ht hn 1 ⟨[sl 0 (.pptr 0 0 (Bk 0))], [.box [.v (.string text), I pos, I deep] 213 false]⟩ ?_
 refine En.sr ?_
 refine WL.r ht hn 1 ⟨[sl 0 (.pptr 0 0 (Bk 0)), sl 4 (.ptr 0 0)], [.box [.v (.string text), I pos, I deep] 213 false]⟩ ?_
 obtain ⟨hp, h⟩ := h
 refine splitO (rowS (pW text k) text pos deep) (fun hr_2 => ?_) (fun r hr_2 => ?_)
 exact WL.cX (rRow_bad k ih text pos deep hp hr_2) en177 [0] rfl (leftX hpan (h.1 hr_2))
 replace h := h.2 r hr_2
 refine WL.cE (rRow_ok k ih text pos deep hp r hr_2) en177 [0] hn rfl ?_
 refine WL.mt0 (K := []) (p := some (1, rowI 142 (TT rLab) ([r.1] : qai2))) hn (by rfl) (mt_lit (T := (TT rLab)) ([r.1] : qai2) (mt_bsl 1 (r := cellsOf (TT rLab) ([r.1] : qai2)) ht rfl (by rfl) (by rfl) (by rfl) (by kernel_rfl) (by rfl)) (fun _ h => by cases h) (fun _ => rfl) (fun _ => rfl) (by rfl) (Nat.le_of_ble_eq_true rfl)) (by rfl) (by rfl) (by rfl) ?_
 refine WL.rn ht hn 3 ⟨(qai1 Bk), [.box [.v (.string text), I r.2, I deep] 213 false, rowI 142 (TT rLab) ([r.1] : qai2), qai0]⟩ ?_
 refine En.seq ?_
 refine En.block ?_
 obtain ⟨Inv, mu, h0, hI⟩ := h
 refine En.loop (σ := Int × Int × qai2) (fun zz => Inv zz.1 zz.2.1 zz.2.2) (fun zz => mu zz.1 zz.2.1 zz.2.2) (fun zz => ⟨(qai1 Bk), [.box [.v (.string text), I zz.1, I zz.2.1] 213 false, rowI 142 (TT rLab) zz.2.2, qai0]⟩) (r.2, deep, ([r.1] : qai2)) h0 (sub_ok (by kernel_rfl)) ?_
 rintro ⟨y01, y02, l1⟩ h
 replace h := hI _ _ _ h
 show En c ⟨(qai1 Bk), (qai3 text y01 y02 l1)⟩ _
 refine En.seq ?_
 refine En.sr ?_
 refine WL.r ht hn 1 ⟨[sl 0 (.pptr 0 0 (Bk 0)), sl 3 (.ptr 2 0), sl 9 (.ptr 0 0)], (qai3 text y01 y02 l1)⟩ ?_
 obtain ⟨hp, h⟩ := h
 refine WL.cE (rNow_ct text y01 y02 hp) en178 [0] hn rfl ?_
 refine WL.rn ht hn 1 ⟨[sl 0 (.pptr 0 0 (Bk 0)), sl 3 (.ptr 2 0), sl 11 (B ((chr text y01) == 43))], (qai3 text y01 y02 l1)⟩ ?_
 refine En.ch h (fun h => ?_) (fun h => ?_)
 refine En.skip ?_
 refine En.block ?_
 refine En.sr ?_
 refine WL.rn ht hn 8 ⟨(qai1 Bk), [.box [.v (.string text), I (wr (y01 + 1)), I y02] 213 false, rowI 142 (TT rLab) l1, qai0]⟩ ?_
 obtain ⟨hp_2, h⟩ := h
 refine splitO (rowS (pW text k) text (wr (y01 + 1)) y02) (fun hr_3 => ?_) (fun r_2 hr_3 => ?_)
 refine En.regionA ⟨(qai1 Bk), [.sv (.one (.ptr 2 0)), .sv (.one (.ptr 2 0)), .sv (.one (.ptr 2 0)), .sv (.one (.ptr 2 2)), .sv (.one (.own 1)), .sv (.one (.ptr 0 0)), .sv (.one (.rd deadR)), .sv (.one (.rd deadR)), .sv (.one (.rd deadR)), .sv (.one (.ptr 2 0)), .sv (.one (.ptr 2 2)), .sv (.one (.rd deadR))], [⟨.box [.v (.string text), I (wr (y01 + 1)), I y02] 213 false, none, none, none⟩, ⟨rowI 142 (TT rLab) l1, none, none, none⟩, ⟨(qai0), none, none, none⟩]⟩ ⟨[sl 25 (.rd deadR)], [.gone, .gone, .gone]⟩ (by kernel_rfl) hn (by kernel_rfl) (by rfl) (by kernel_rfl) ?_ (by kernel_rfl) ?_
 exact ⟨.ev ⟨[sl 3 (.ptr 2 0)], []⟩ ht,
 .ev ⟨[sl 3 (.ptr 2 0)], []⟩ ht,
 .ev ⟨[sl 20 (.ptr 2 0)], []⟩ ht,
 .ev ⟨[sl 21 (.ptr 2 0)], []⟩ ht,
 .ev ⟨[sl 22 (.ptr 2 2)], [.gone, .gone, qai0]⟩ ht,
 .ev ⟨[sl 0 (.pptr 0 0 (Bk 0))], []⟩ ht,
 .mt ⟨[sl 24 (.ptr 0 0)], [.box [.v (.string text), I (wr (y01 + 1)), I y02] 213 false]⟩ [] none (by kernel_rfl) (by rfl) (mt_callX (rRow_bad k ih text (wr (y01 + 1)) y02 hp_2 hr_3) en177 (caps := []) [0] rfl (by rfl) (argsAs (by kernel_rfl) (by rfl)) (by kernel_rfl) (by decide) (leftX hpan (h.1 hr_3))) rfl rfl rfl rfl,
 .mt ⟨[sl 25 (.rd deadR)], []⟩ [] none (by kernel_rfl) (by rfl) (mt_dead 25 (by rfl)) rfl rfl rfl rfl,
 .mt ⟨[sl 23 (.own 1), sl 26 (.rd deadR)], []⟩ [] none (by kernel_rfl) (by rfl) (mt_dead 26 (by rfl)) rfl rfl rfl rfl,
 .ev ⟨[sl 19 (.ptr 2 0)], []⟩ ht,
 .ev ⟨[sl 28 (.ptr 2 0)], []⟩ ht,
 .mt ⟨[sl 27 (.rd deadR), sl 29 (.ptr 2 2)], []⟩ [] none (by kernel_rfl) (by rfl) (mt_dead 27 (by rfl)) rfl rfl rfl rfl,
 trivial⟩
 exact En.dead 25 (by rfl)
 replace h := h.2 r_2 hr_3
 obtain ⟨hp_3, h⟩ := h
 refine En.regionA ⟨(qai1 Bk), [.sv (.one (.ptr 2 0)), .sv (.one (.ptr 2 0)), .sv (.one (.ptr 2 0)), .sv (.one (.ptr 2 2)), .sv (.one (.own 1)), .sv (.one (.ptr 0 0)), .sv (.one (.rd (trR rLab r_2.1))), .sv (.one (LS (TT rLab) ([r_2.1] : qai2))), .sv (.one (.own 3)), .sv (.one (.ptr 2 0)), .sv (.one (.ptr 2 2)), .tup []], [⟨.box [.v (.string text), I (wr (y01 + 1)), I y02] 213 false, none, none, some (6, .box [.v (.string text), I r_2.2, I y02] 213 false)⟩, ⟨rowI 142 (TT rLab) l1, none, some 8, none⟩, ⟨(qai0), none, none, some (11, .box [I 3, I 0, .own 3] 261 false)⟩, ⟨rowI 142 (TT rLab) (l1 ++ ([r_2.1] : qai2)), some 8, none, none⟩]⟩ ⟨(qai1 Bk), [.box [.v (.string text), I r_2.2, I y02] 213 false, .gone, .box [I 3, I 0, .own 3] 261 false, rowI 142 (TT rLab) (l1 ++ ([r_2.1] : qai2))]⟩ (by kernel_rfl) hn (by kernel_rfl) (by rfl) (by kernel_rfl) ?_ (by kernel_rfl) ?_
 exact ⟨.ev ⟨[sl 3 (.ptr 2 0)], []⟩ ht,
 .ev ⟨[sl 3 (.ptr 2 0)], []⟩ ht,
 .ev ⟨[sl 20 (.ptr 2 0)], []⟩ ht,
 .ev ⟨[sl 21 (.ptr 2 0)], []⟩ ht,
 .ev ⟨[sl 22 (.ptr 2 2)], [.gone, .gone, qai0]⟩ ht,
 .ev ⟨[sl 0 (.pptr 0 0 (Bk 0))], []⟩ ht,
 .me ⟨[sl 24 (.ptr 0 0)], [.box [.v (.string text), I (wr (y01 + 1)), I y02] 213 false]⟩ [(0, .box [.v (.string text), I r_2.2, I y02] 213 false)] (by kernel_rfl) (by rfl) (me_call (rRow_ok k ih text (wr (y01 + 1)) y02 hp_2 r_2 hr_3) en177 (caps := []) [0] rfl (by rfl) (argsAs (by kernel_rfl) (by rfl)) (by kernel_rfl) (by decide) (by rfl) (by rfl)) rfl rfl rfl ⟨⟨_, rfl, rfl, rfl, rfl, rfl⟩, trivial⟩,
 .mt ⟨[sl 25 (.rd (trR rLab r_2.1))], []⟩ [] none (by kernel_rfl) (by rfl) (mt_seal (q := 3) (e := 142) (mt_lit (T := (TT rLab)) ([r_2.1] : qai2) (mt_bsl 3 (r := cellsOf (TT rLab) ([r_2.1] : qai2)) ht rfl (by rfl) (by rfl) (by rfl) (by kernel_rfl) (by rfl)) (fun _ h => by cases h) (fun _ => rfl) (fun _ => rfl) (by rfl) (Nat.le_of_ble_eq_true rfl))) rfl rfl rfl rfl,
 .mt ⟨[sl 23 (.own 1), sl 26 (LS (TT rLab) ([r_2.1] : qai2))], [.gone, rowI 142 (TT rLab) l1]⟩ [1] (some 3) (by kernel_rfl) (by rfl) (mt_append (T := (TT rLab)) (l := l1) (es := ([r_2.1] : qai2)) (p := 3) ht rfl (by rfl) (by rfl) (by rfl) (by rfl) (by decide) (by rfl) (by rfl) (srcLS (T := (TT rLab)) (es := ([r_2.1] : qai2)) (fun _ h => by cases h) (by decide) (by rfl)) (by exact hp_3) (by exact hp_3.le (by decide))) rfl rfl rfl rfl,
 .ev ⟨[sl 19 (.ptr 2 0)], []⟩ ht,
 .ev ⟨[sl 28 (.ptr 2 0)], []⟩ ht,
 .mu ⟨[sl 27 (.own 3), sl 29 (.ptr 2 2)], [.gone, .gone, qai0]⟩ 2 _ _ rfl rfl (by kernel_rfl) (by rfl) (mu_store2 ht rfl (by rfl) (by rfl) (by rfl) (by rfl) (fun h => by cases h) (by rfl) (by rfl)) rfl rfl rfl rfl rfl rfl rfl,
 trivial⟩
 refine En.move 3 1 (by rfl) (by rfl) ?_
 exact En.at (I := fun zz => Inv zz.1 zz.2.1 zz.2.2 ∧ mu zz.1 zz.2.1 zz.2.2 < mu y01 y02 l1) (T := fun zz => ⟨(qai1 Bk), [.box [.v (.string text), I zz.1, I zz.2.1] 213 false, rowI 142 (TT rLab) zz.2.2, qai0]⟩) (r_2.2, y02, (l1 ++ ([r_2.1] : qai2))) h (by kernel_rfl)
 refine En.exit rfl ?_
 refine En.sr ?_
 refine WL.rn ht hn 2 ⟨[sl 0 (.pptr 0 0 (Bk 0)), sl 2 (.ptr 2 0)], (qai3 text y01 y02 l1)⟩ ?_
 refine En.ret ?_
 refine En.seal (T := (TT rLab)) (l := l1) (e := 142) 1 rfl ?_
 refine En.freeze [2] (by rfl) ?_
 refine En.ghost 2 (o1 (.rd (trR rLab (Tr.node (RLab.mk 3 0) l1)))) (by rfl) (tree_of (lab := rLab) (x := (RLab.mk 3 0)) (kids := l1) (i := 2) (by rfl) (by rfl) (by rfl)) ?_
 exact En.backE [0] ht ((Tr.node (RLab.mk 3 0) l1), y01, y02) h (by kernel_rfl) (by rfl) rfl
theorem rWhole_all (k : Nat) (text : ByteArray) (pos deep : Int) (hp : rOk (k + 1) text pos deep) (Q : (Tr RLab) × Int × Int → Prop) (P : Prop) (h1 : pW text (k + 1) pos deep = none → P) (h2 : ∀ r, pW text (k + 1) pos deep = some r → Q (r.1, r.2, deep)) : rWhole_vc k text pos deep Q P := by
 unfold rWhole_vc
 rw [pW] at h1 h2
 refine ⟨hp, fun e => h1 (by unfold wholeS; rw [e]), fun r hr => ?_⟩
 obtain ⟨hz, ⟨p0, p1, pk⟩, d0, d1⟩ := hp
 obtain ⟨k1, k2⟩ := rowS_good (pW_good k) pos deep r p0 p1 hr
 unfold wholeS at h1 h2
 simp only [hr] at h1 h2
 obtain ⟨R0, hR0⟩ : ∃ R0, R0 = wholeL (fun p => rowS (pW text k) text p deep) text (text.size + 1) [r.1] r.2 := ⟨_, rfl⟩
 rw [← hR0] at h1 h2
 refine ⟨fun p d l => ∃ m : Nat, d = deep ∧ pos ≤ p ∧ p ≤ text.size ∧ text.size - p < m ∧ R0 = wholeL (fun p => rowS (pW text k) text p deep) text m l p ∧ (l.length : Int) ≤ p, fun p _ _ => (text.size - p).toNat, ⟨text.size + 1, rfl, by omega, k2, by omega, hR0, by simp only [List.length_cons, List.length_nil]; omega⟩, ?_⟩
 rintro p d l ⟨m, rfl, q0, q1, qm, he, hl⟩
 obtain ⟨m', rfl⟩ : ∃ m', m = m' + 1 := ⟨m - 1, by omega⟩
 refine ⟨⟨by omega, q1⟩, fun hb => ?_, fun hb => ?_⟩
 ·have hc : chr text p = 43 := by simpa using hb
  have := chr_lt (text := text) (p := p) (by omega)
  rw [wr_in (by omega) (by omega)]
  rw [wholeL, if_pos hc] at he
  refine ⟨⟨hz, ⟨by omega, by omega, by omega⟩, d0, d1⟩, fun e => h1 ?_, fun r2 hr2 => ?_⟩
  ·simp only [e] at he
   rw [he]
  ·obtain ⟨k3, k4⟩ := rowS_good (pW_good k) (p + 1) d r2 (by omega) (by omega) hr2
   simp only [hr2] at he
   refine ⟨capOk_of (by simp only [List.length_cons, List.length_nil]; omega), ⟨m', rfl, by omega, k4, by omega, he, by rw [List.length_append]; simp only [List.length_cons, List.length_nil]; omega⟩, by show ((text.size : Int) - r2.2).toNat < ((text.size : Int) - p).toNat; omega⟩
 ·have hc : ¬ chr text p = 43 := by simpa using hb
  rw [wholeL, if_neg hc] at he
  exact h2 (nd 3 0 l, p) (by rw [he])
theorem rWhole_ok (k : Nat) (ih : WC k) (text : ByteArray) (pos deep : Int) (hp : rOk (k + 1) text pos deep) (r : RTr × Int) (hx : pW text (k + 1) pos deep = some r) : CtE 123 [.sv (.one (.ptr 0 0))] [.box [.v (.string text), I pos, I deep] 213 false] [0] (fun (_ : Unit) => True) (fun _ => .sv (.one (.rd (trR rLab r.1)))) (fun _ => [.box [.v (.string text), I r.2, I deep] 213 false]) :=
 (rWhole_walk k text pos deep ih (fun x => x = (r.1, r.2, deep)) False (rWhole_all k text pos deep hp _ _ (fun e => by rw [hx] at e; cases e) (fun y e => by rw [hx] at e; cases e; rfl))).toE fun x hx => ⟨(), trivial, by subst hx; rfl, by subst hx; rfl⟩
theorem rWhole_bad (k : Nat) (ih : WC k) (text : ByteArray) (pos deep : Int) (hp : rOk (k + 1) text pos deep) (hx : pW text (k + 1) pos deep = none) : CtX 123 [.sv (.one (.ptr 0 0))] [.box [.v (.string text), I pos, I deep] 213 false] (psStop 210) :=
 (rWhole_walk k text pos deep ih (fun _ => False) True (rWhole_all k text pos deep hp _ _ (fun _ => trivial) (fun y e => by rw [hx] at e; cases e))).toX
theorem regWhole : ∀ k, WC k
 | 0 => fun text pos deep hp => absurd hp.2.1 (by omega)
 | k + 1 => fun text pos deep hp => ⟨rWhole_ok k (regWhole k) text pos deep hp, rWhole_bad k (regWhole k) text pos deep hp⟩
theorem en122 : ∀ args w, (callFunc 122 args).run Try.prog w = .ok (.enter 122 args) w := enters_of Try.func122 (by kernel_rfl) rfl
theorem regCatch (r0 : Rd) (c0 a0 code at_ : Int) (hc : code ≠ 0) : CtD 122 [.box [.rd r0] 142 false, .box [I c0, I a0] 52 false] [.box [.rd (optR rLab none)] 142 false, .box [I code, I at_] 52 false] (.panicking [{ v := .iface 210 (.agg #[.int .i64 code, .int .i64 at_]), recovered := false }]) (.panicking [{ v := .iface 210 (.agg #[.int .i64 code, .int .i64 at_]), recovered := true }]) := by
 have ht := tab_ok
 refine CtD.body (pv := .iface 210 (.agg #[.int .i64 code, .int .i64 at_])) (d := 5) Try.func122 rfl rfl rfl (by kernel_rfl) (by kernel_rfl) (by kernel_rfl) rfl rfl rfl (fun c₀ cs hm => by simp [recoverD, hm]) trivial (fun c Bk hn => ?_)
 have h : True := trivial
 refine En.block ?_
 refine En.seq ?_
 refine En.region ?_
 refine WL.val hn (by rfl) (val_ifNil rfl (by rfl) (by rfl) (fun w => by kernel_rfl)) (by rfl) ?_
 refine WL.nil ?_
 refine En.cond (b := false) (by kernel_rfl) (fun hb => ?_) (fun hb => ?_)
 ·cases hb
 ·refine En.seq ?_
  refine En.region ?_
  refine WL.val hn (by rfl) (val_assert (cs := [.int .i64 code, .int .i64 at_]) rfl (by rfl) rfl (by simp [cellV]) (fun w => by kernel_rfl)) (by rfl) ?_
  refine WL.run ht hn 2 ⟨[(0, .sv (.one (.pptr 0 0 (Bk 0)))), (1, .sv (.one (.pptr 1 0 (Bk 1)))), (5, .sv (.one (.v (.iface 210 (.agg #[.int .i64 code, .int .i64 at_]))))), (9, .sv (.one (B true))), (10, .sv (.agg [I code, I at_]))], [.box [.rd r0] 142 false, .box [I c0, I a0] 52 false]⟩ (by kernel_rfl) ?_
  refine WL.nil ?_
  refine En.cond (b := true) (by kernel_rfl) (fun hb => ?_) (fun hb => ?_)
  ·refine En.seq ?_
   refine En.region ?_
   refine WL.run ht hn 2 ⟨[(0, .sv (.one (.pptr 0 0 (Bk 0)))), (1, .sv (.one (.pptr 1 0 (Bk 1)))), (3, .sv (.one (.ptr 2 0)))], [.box [.rd r0] 142 false, .box [I c0, I a0] 52 false, .box [I code, I at_] 210 false]⟩ (by kernel_rfl) ?_
   refine WL.nil ?_
   refine En.regionA ⟨[(0, .sv (.one (.pptr 0 0 (Bk 0)))), (1, .sv (.one (.pptr 1 0 (Bk 1)))), (3, .sv (.one (.ptr 2 0)))], [.sv (.one (.ptr 2 0)), .sv (.agg [I code, I at_]), .tup [], .tup []], [⟨.box [.rd r0] 142 false, none, none, some (2, .box [.v (.pointer none)] 142 false)⟩, ⟨.box [I c0, I a0] 52 false, none, none, some (3, .box [I code, I at_] 52 false)⟩, ⟨.box [I code, I at_] 210 false, none, none, none⟩]⟩ ⟨[(0, .sv (.one (.pptr 0 0 (Bk 0)))), (1, .sv (.one (.pptr 1 0 (Bk 1))))], [.box [.v (.pointer none)] 142 false, .box [I code, I at_] 52 false, .gone]⟩ (by kernel_rfl) hn (by kernel_rfl) (by rfl) (by kernel_rfl) ?_ (by kernel_rfl) ?_
   ·exact ⟨.mt ⟨[(3, .sv (.one (.ptr 2 0)))], []⟩ [] none (by kernel_rfl) (by rfl) (mt_ev ht (by kernel_rfl)) rfl rfl rfl rfl,
  .mt ⟨[(11, .sv (.one (.ptr 2 0)))], [.gone, .gone, .box [I code, I at_] 210 false]⟩ [] none (by kernel_rfl) (by rfl) (mt_ev ht (by kernel_rfl)) rfl rfl rfl rfl,
  .mu ⟨[(0, .sv (.one (.pptr 0 0 (Bk 0))))], [.box [.rd r0] 142 false]⟩ 0 _ _ rfl rfl (by kernel_rfl) (by rfl) (mu_store2 ht rfl (by rfl) (by rfl) (by rfl) (by rfl) (fun h => by cases h) (by rfl) (by rfl)) rfl rfl rfl rfl rfl rfl rfl,
  .mu ⟨[(1, .sv (.one (.pptr 1 0 (Bk 1)))), (12, .sv (.agg [I code, I at_]))], [.gone, .box [I c0, I a0] 52 false]⟩ 1 _ _ rfl rfl (by kernel_rfl) (by rfl) (mu_store2 ht rfl (by rfl) (by rfl) (by rfl) (by rfl) (fun h => by cases h) (by rfl) (by rfl)) rfl rfl rfl rfl rfl rfl rfl,
  trivial⟩
   ·refine En.boxTurn (.rd (optR rLab none)) 0 0 (by rfl) (by rfl) optNil ?_
    exact En.backE [0, 1] ht () trivial (by kernel_rfl) (by rfl) rfl
  ·cases hb
theorem regIdle (r0 : Rd) (c0 a0 : Int) : CtD 122 [.box [.rd r0] 142 false, .box [I c0, I a0] 52 false] [.box [.rd r0] 142 false, .box [I c0, I a0] 52 false] (.returning) (.returning) := by
 have ht := tab_ok
 refine CtD.body (pv := .nilIface) (d := 5) Try.func122 rfl rfl rfl (by kernel_rfl) (by kernel_rfl) (by kernel_rfl) rfl rfl rfl (fun c₀ cs hm => by simp [recoverD, hm]) trivial (fun c Bk hn => ?_)
 have h : True := trivial
 refine En.block ?_
 refine En.seq ?_
 refine En.region ?_
 refine WL.val hn (by rfl) (val_nilNil rfl (by rfl) (by rfl) (fun w => by kernel_rfl)) (by rfl) ?_
 refine WL.nil ?_
 refine En.cond (b := true) (by kernel_rfl) (fun hb => ?_) (fun hb => ?_)
 ·refine En.region ?_
  refine WL.run ht hn 1 ⟨[(0, .sv (.one (.pptr 0 0 (Bk 0)))), (1, .sv (.one (.pptr 1 0 (Bk 1))))], [.box [.rd r0] 142 false, .box [I c0, I a0] 52 false]⟩ (by kernel_rfl) ?_
  refine WL.nil ?_
  exact En.backE [0, 1] ht () trivial (by kernel_rfl) (by rfl) rfl
 ·cases hb
def rParsed_vc (text : ByteArray) (Q : (Option (Tr RLab) × ApiFault) → Prop) : Prop :=
 IfP (decide ((text.size : Int) > 4000)) (Q (none, ApiFault.mk 1 0)) ((rOk (text.size + 1) text 0 0) ∧
 ((pW text (text.size + 1) 0 0) = none → (∀ code at_ : Int, code ≠ 0 → Q (none, ApiFault.mk code at_))) ∧ ∀ r, (pW text (text.size + 1) 0 0) = some r →
 (IfP (decide ((r.2) < (text.size : Int))) (((4 : Int) ≠ 0) ∧
 (∀ code at_ : Int, code ≠ 0 → Q (none, ApiFault.mk code at_))) (Q ((some (r.1)), ApiFault.mk 0 0))))
noncomputable abbrev qaj0 := ([.box [.v (.pointer none)] 142 false, .box [I 0, I 0] 52 false] : List Item)
noncomputable abbrev qaj1 := (.box [I 0, I 0] 52 false : Item)
theorem rParsed_walk (text : ByteArray) (Q : (Option (Tr RLab) × ApiFault) → Prop) (h : rParsed_vc text Q) : Ct 70 [.sv (.one (.v (.string text)))] [] Q (fun (r : (Option (Tr RLab) × ApiFault)) => .tup [.one (.rd (optR rLab r.1)), .agg [I r.2.fCode, I r.2.fAt]]) := by
 have ht := tab_ok
 refine Ct.bodyD Try.func70 rfl rfl rfl (fun c R hn hdf hR hpan => ?_)
 unfold rParsed_vc at h
 refine En.sr ?_
 refine WL.rn ht hn 2 ⟨[sl 0 (.v (.string text)), sl 2 (.ptr 0 0), sl 3 (.ptr 1 0)], qaj0⟩ ?_
 refine En.seq ?_
 refine En.sr ?_
 refine WL.r ht hn 1 ⟨[sl 0 (.v (.string text)), sl 2 (.ptr 0 0), sl 3 (.ptr 1 0), sl 5 (.v (.string text))], qaj0⟩ ?_
 refine WL.v hn (val_lenS (s := text) rfl Try.underlying9 (by rfl)) ?_
 refine WL.rn ht hn 1 ⟨[sl 0 (.v (.string text)), sl 2 (.ptr 0 0), sl 3 (.ptr 1 0), sl 7 (B (decide ((text.size : Int) > 4000)))], qaj0⟩ ?_
 refine En.ch h (fun h => ?_) (fun h => ?_)
 refine En.sr ?_
 refine WL.rn ht hn 3 ⟨[sl 2 (.ptr 0 0), sl 3 (.ptr 1 0)], [.box [.v (.pointer none)] 142 false, .box [I 1, I 0] 52 false]⟩ ?_
 refine En.ret ?_
 refine En.boxTurn (.rd (optR rLab none)) 0 0 (by rfl) (by rfl) optNil ?_
 exact En.backD0 ht rfl hR hdf (none, ApiFault.mk 1 0) h (by kernel_rfl) rfl
 refine En.skip ?_
 refine En.sr ?_
 refine WL.r ht hn 1 ⟨[sl 0 (.v (.string text)), sl 2 (.ptr 0 0), sl 3 (.ptr 1 0), sl 9 (.fn 122 [0, 1])], qaj0⟩ ?_
 refine WL.defer (F := 122) (t0 := 2) (t1 := 3) (d := 9) (i := 0) (j := 1) (by rfl) rfl rfl (by rfl) (by rfl) (by rfl) hdf (fun c' Bk hn' hw0 hg0 hm0 hpn hdf => ?_)
 replace hR := hR_cast hw0 hg0 hm0 hR
 replace hpan := hpan_cast hpn hpan
 replace hn := hn'.trans hn
 clear hn' hw0 hg0 hm0
 refine WL.sub ⟨[sl 0 (.v (.string text)), sl 2 (.pptr 0 0 (Bk 0)), sl 3 (.pptr 1 0 (Bk 1)), sl 9 (.fn 122 [0, 1])], qaj0⟩ (by kernel_rfl) ?_
 refine WL.boxTurn (.rd (optR rLab none)) 0 0 (by rfl) (by rfl) optNil ?_
 refine WL.nil ?_
 refine En.cfg hpn ?_
 refine En.sr ?_
 refine WL.rn ht hn 4 ⟨[sl 0 (.v (.string text)), sl 2 (.pptr 0 0 (Bk 0)), sl 3 (.pptr 1 0 (Bk 1)), sl 4 (.ptr 2 0)], [.box [.rd (optR rLab none)] 142 false, qaj1, .box [.v (.string text), I 0, I 0] 213 false]⟩ ?_
 refine En.sr ?_
 refine WL.r ht hn 1 ⟨[sl 0 (.v (.string text)), sl 2 (.pptr 0 0 (Bk 0)), sl 3 (.pptr 1 0 (Bk 1)), sl 4 (.ptr 2 0), sl 13 (.ptr 2 0)], [.box [.rd (optR rLab none)] 142 false, qaj1, .box [.v (.string text), I 0, I 0] 213 false]⟩ ?_
 obtain ⟨hp, h⟩ := h
 refine splitO (pW text (text.size + 1) 0 0) (fun hr_2 => ?_) (fun r hr_2 => ?_)
 exact WL.cX (wI_bad _ (regWhole _) text 0 0 hp hr_2) en123 [2] rfl (leftD (ty := 210) 2 3 0 1 ht rfl hR hpan hdf (by rfl) (by rfl) (fun code at_ hc => regCatch (optR rLab none) 0 0 code at_ hc) en122 (by kernel_rfl) (by kernel_rfl) (by decide) (by rfl) (fun _ _ => by rfl) (fun _ _ => Nat.le_of_ble_eq_true rfl) (fun _ _ => by rfl) (fun _ _ => rfl) (fun code at_ => (none, ApiFault.mk code at_)) (fun code at_ hc => (h.1 hr_2) code at_ hc) (fun _ _ => by kernel_rfl) (fun _ _ => rfl))
 replace h := h.2 r hr_2
 refine WL.cE (wI_ok _ (regWhole _) text 0 0 hp r hr_2) en123 [2] hn rfl ?_
 refine WL.rn ht hn 1 ⟨[sl 0 (.v (.string text)), sl 2 (.pptr 0 0 (Bk 0)), sl 3 (.pptr 1 0 (Bk 1)), sl 4 (.ptr 2 0)], [.box [.rd (trR rLab r.1)] 142 false, qaj1, .box [.v (.string text), I r.2, I 0] 213 false]⟩ ?_
 refine En.seq ?_
 refine En.sr ?_
 refine WL.r ht hn 5 ⟨[sl 2 (.pptr 0 0 (Bk 0)), sl 3 (.pptr 1 0 (Bk 1)), sl 4 (.ptr 2 0), sl 18 (I r.2), sl 19 (.v (.string text))], [.box [.rd (trR rLab r.1)] 142 false, qaj1, .box [.v (.string text), I r.2, I 0] 213 false]⟩ ?_
 refine WL.v hn (val_lenS (s := text) rfl Try.underlying9 (by rfl)) ?_
 refine WL.rn ht hn 1 ⟨[sl 2 (.pptr 0 0 (Bk 0)), sl 3 (.pptr 1 0 (Bk 1)), sl 4 (.ptr 2 0), sl 21 (B (decide (r.2 < (text.size : Int))))], [.box [.rd (trR rLab r.1)] 142 false, qaj1, .box [.v (.string text), I r.2, I 0] 213 false]⟩ ?_
 refine En.ch h (fun h => ?_) (fun h => ?_)
 refine En.region ?_
 refine WL.r ht hn 1 ⟨[sl 2 (.pptr 0 0 (Bk 0)), sl 3 (.pptr 1 0 (Bk 1)), sl 22 (.ptr 2 0)], [.box [.rd (trR rLab r.1)] 142 false, qaj1, .box [.v (.string text), I r.2, I 0] 213 false]⟩ ?_
 obtain ⟨hp, h⟩ := h
 exact WL.cX (rFail_ct text r.2 0 4 hp) en124 [2] rfl (leftD (ty := 210) 2 3 0 1 ht rfl hR hpan hdf (by rfl) (by rfl) (fun code at_ hc => regCatch (trR rLab r.1) 0 0 code at_ hc) en122 (by kernel_rfl) (by kernel_rfl) (by decide) (by rfl) (fun _ _ => by rfl) (fun _ _ => Nat.le_of_ble_eq_true rfl) (fun _ _ => by rfl) (fun _ _ => rfl) (fun code at_ => (none, ApiFault.mk code at_)) (fun code at_ hc => h code at_ hc) (fun _ _ => by kernel_rfl) (fun _ _ => rfl))
 refine En.skip ?_
 refine En.sr ?_
 refine WL.rn ht hn 4 ⟨[sl 2 (.pptr 0 0 (Bk 0)), sl 3 (.pptr 1 0 (Bk 1))], [.box [.rd (trR rLab r.1)] 142 false, qaj1, .gone]⟩ ?_
 refine En.ret ?_
 refine En.boxTurn (.rd (optR rLab (some r.1))) 0 0 (by rfl) (by rfl) optSome ?_
 exact En.backD 2 3 0 1 ht rfl hR hdf (by rfl) (by rfl) (regIdle (optR rLab (some r.1)) 0 0) en122 (by kernel_rfl) (by decide) (by rfl) (by rfl) (Nat.le_of_ble_eq_true rfl) (by rfl) rfl ((some r.1), ApiFault.mk 0 0) h (by kernel_rfl) rfl
theorem en70 : ∀ args w, (callFunc 70 args).run Try.prog w = .ok (.enter 70 args) w := enters_of Try.func70 (by kernel_rfl) rfl
end Go.Proofs.Ytobenjahlicnoaa
