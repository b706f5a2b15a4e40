/- Lemmas towards the statement: mirrors of functions, and plain laws. No condition. -/
import Derived.Laws.CopyRow
import Derived.Laws.IdiomCopy
import Derived.Test.YtapnmjeadbhffaaPackMonoidPowers4


namespace Go.Proofs.Ytapnmjeadbhffaa
open Go.RowKit Go.MapKept
set_option linter.unusedSimpArgs false
set_option linter.unusedVariables false
set_option maxRecDepth 100000
def apGo_vc (k : DetCouple) (a : Int) (d : ApiDet) (Q : DetCouple → Prop) : Prop :=
 ∃ e, idx d.fNext k.fE0 = some e ∧
 ∃ e_2, idx e a = some e_2 ∧
 ∃ e_3, idx d.fNext k.fE1 = some e_3 ∧
 ∃ e_4, idx e_3 a = some e_4 ∧
 Q (DetCouple.mk e_2 e_4)
theorem apGo_walk (k : DetCouple) (a : Int) (d : ApiDet) (Q : DetCouple → Prop) (h : apGo_vc k a d Q) : Ct 166 [.sv (.agg [I k.fE0, I k.fE1]), .sv (.one (I a)), .sv (.one (.ptr 0 0))] [.box [I d.fLetters, I d.fStart, LS (lsT intT) d.fNext, LS intT d.fMark] 73 true] Q (fun (r : DetCouple) => .sv (.agg [I r.fE0, I r.fE1])) := by
 have ht := tab_ok
 refine Ct.body Try.func166 rfl rfl rfl rfl (fun c hn => ?_)
 unfold apGo_vc at h
 refine En.seq ?_
 refine En.region ?_
 refine WL.run ht hn 2 ⟨[sl 1 (I a), sl 2 (.ptr 0 0), sl 3 (.ptr 1 0), sl 5 (.ptr 2 0)], [.box (ApiDet.cl d) 73 true, .box (DetCouple.cl k) 169 false, .box [I 0, I 0] 169 false]⟩ (by kernel_rfl) ?_
 refine WL.nil ?_
 refine En.seq ?_
 obtain ⟨e, he, h⟩ := h
 obtain ⟨e_2, he_2, h⟩ := h
 obtain ⟨e_3, he_3, h⟩ := h
 obtain ⟨e_4, he_4, h⟩ := h
 refine En.regionA ⟨[sl 1 (I a), sl 2 (.ptr 0 0), sl 3 (.ptr 1 0), sl 5 (.ptr 2 0)], [.sv (.one (.ptr 0 2)), .sv (.one (LS (lsT intT) d.fNext)), .sv (.one (.ptr 1 0)), .sv (.one (I k.fE0)), .sv (.one (.pe (svR (.one (LS intT e))) 1)), .sv (.one (LS intT e)), .sv (.one (I a)), .sv (.one (.pe (svR (.one (I e_2))) 1)), .sv (.one (I e_2)), .sv (.one (.ptr 0 2)), .sv (.one (LS (lsT intT) d.fNext)), .sv (.one (.ptr 1 1)), .sv (.one (I k.fE1)), .sv (.one (.pe (svR (.one (LS intT e_3))) 1)), .sv (.one (LS intT e_3)), .sv (.one (I a)), .sv (.one (.pe (svR (.one (I e_4))) 1)), .sv (.one (I e_4)), .sv (.agg [I e_2, I e_4]), .tup []], [⟨.box (ApiDet.cl d) 73 true, none, none, none⟩, ⟨.box (DetCouple.cl k) 169 false, none, none, none⟩, ⟨.box [I 0, I 0] 169 false, none, none, some (19, .box [I e_2, I e_4] 169 false)⟩]⟩ ⟨[sl 5 (.ptr 2 0)], [.gone, .gone, .box [I e_2, I e_4] 169 false]⟩ (by kernel_rfl) hn (by kernel_rfl) (by rfl) (by kernel_rfl) ?_ (by kernel_rfl) ?_
 exact ⟨.mt ⟨[sl 2 (.ptr 0 0)], []⟩ [] none (by kernel_rfl) (by rfl) (mt_ev ht (by kernel_rfl)) rfl rfl rfl rfl,
 .mt ⟨[sl 6 (.ptr 0 2)], [.box (ApiDet.cl d) 73 true]⟩ [] none (by kernel_rfl) (by rfl) (mt_ev ht (by kernel_rfl)) rfl rfl rfl rfl,
 .mt ⟨[sl 3 (.ptr 1 0)], [.gone, .box (DetCouple.cl k) 169 false]⟩ [] none (by kernel_rfl) (by rfl) (mt_val (val_indexP (k := 0) 1 0 0 ht rfl Try.underlying169 (by rfl) (by rfl) (by rfl) (by rfl) (by decide) (by rfl))) rfl rfl rfl rfl,
 .mt ⟨[sl 8 (.ptr 1 0)], [.gone, .box (DetCouple.cl k) 169 false]⟩ [] none (by kernel_rfl) (by rfl) (mt_ev ht (by kernel_rfl)) rfl rfl rfl rfl,
 .mt ⟨[sl 7 (LS (lsT intT) d.fNext), sl 9 (I k.fE0)], []⟩ [] none (by kernel_rfl) (by rfl) (mt_val (val_index (T := (lsT intT)) (l := d.fNext) (i := k.fE0) ht rfl (by rfl) (by rfl) (by rfl) (by rfl) (by rfl) (by rfl) he)) rfl rfl rfl rfl,
 .mt ⟨[sl 10 (.pe (svR (.one (LS intT e))) 1)], []⟩ [] none (by kernel_rfl) (by rfl) (mt_val (val_load (s := .one (LS intT e)) ht rfl (by rfl) (by rfl) (by rfl) (by rfl) (by rfl))) rfl rfl rfl rfl,
 .mt ⟨[sl 1 (I a)], []⟩ [] none (by kernel_rfl) (by rfl) (mt_ev ht (by kernel_rfl)) rfl rfl rfl rfl,
 .mt ⟨[sl 11 (LS intT e), sl 12 (I a)], []⟩ [] none (by kernel_rfl) (by rfl) (mt_val (val_index (T := intT) (l := e) (i := a) ht rfl (by rfl) (by rfl) (by rfl) (by rfl) (by rfl) (by rfl) he_2)) rfl rfl rfl rfl,
 .mt ⟨[sl 13 (.pe (svR (.one (I e_2))) 1)], []⟩ [] none (by kernel_rfl) (by rfl) (mt_val (val_load (s := .one (I e_2)) ht rfl (by rfl) (by rfl) (by rfl) (by rfl) (by rfl))) rfl rfl rfl rfl,
 .mt ⟨[sl 2 (.ptr 0 0)], []⟩ [] none (by kernel_rfl) (by rfl) (mt_ev ht (by kernel_rfl)) rfl rfl rfl rfl,
 .mt ⟨[sl 15 (.ptr 0 2)], [.box (ApiDet.cl d) 73 true]⟩ [] none (by kernel_rfl) (by rfl) (mt_ev ht (by kernel_rfl)) rfl rfl rfl rfl,
 .mt ⟨[sl 3 (.ptr 1 0)], [.gone, .box (DetCouple.cl k) 169 false]⟩ [] none (by kernel_rfl) (by rfl) (mt_val (val_indexP (k := 1) 1 0 1 ht rfl Try.underlying169 (by rfl) (by rfl) (by rfl) (by rfl) (by decide) (by rfl))) rfl rfl rfl rfl,
 .mt ⟨[sl 17 (.ptr 1 1)], [.gone, .box (DetCouple.cl k) 169 false]⟩ [] none (by kernel_rfl) (by rfl) (mt_ev ht (by kernel_rfl)) rfl rfl rfl rfl,
 .mt ⟨[sl 16 (LS (lsT intT) d.fNext), sl 18 (I k.fE1)], []⟩ [] none (by kernel_rfl) (by rfl) (mt_val (val_index (T := (lsT intT)) (l := d.fNext) (i := k.fE1) ht rfl (by rfl) (by rfl) (by rfl) (by rfl) (by rfl) (by rfl) he_3)) rfl rfl rfl rfl,
 .mt ⟨[sl 19 (.pe (svR (.one (LS intT e_3))) 1)], []⟩ [] none (by kernel_rfl) (by rfl) (mt_val (val_load (s := .one (LS intT e_3)) ht rfl (by rfl) (by rfl) (by rfl) (by rfl) (by rfl))) rfl rfl rfl rfl,
 .mt ⟨[sl 1 (I a)], []⟩ [] none (by kernel_rfl) (by rfl) (mt_ev ht (by kernel_rfl)) rfl rfl rfl rfl,
 .mt ⟨[sl 20 (LS intT e_3), sl 21 (I a)], []⟩ [] none (by kernel_rfl) (by rfl) (mt_val (val_index (T := intT) (l := e_3) (i := a) ht rfl (by rfl) (by rfl) (by rfl) (by rfl) (by rfl) (by rfl) he_4)) rfl rfl rfl rfl,
 .mt ⟨[sl 22 (.pe (svR (.one (I e_4))) 1)], []⟩ [] none (by kernel_rfl) (by rfl) (mt_val (val_load (s := .one (I e_4)) ht rfl (by rfl) (by rfl) (by rfl) (by rfl) (by rfl))) rfl rfl rfl rfl,
 .mt ⟨[sl 14 (I e_2), sl 23 (I e_4)], []⟩ [] none (by kernel_rfl) (by rfl) (mt_ev ht (by kernel_rfl)) rfl rfl rfl rfl,
 .mu ⟨[sl 5 (.ptr 2 0), (24, .sv (.agg [I e_2, I e_4]))], [.gone, .gone, .box [I 0, I 0] 169 false]⟩ 2 _ _ rfl rfl (by kernel_rfl) (by rfl) (mu_store2 ht rfl (by rfl) (by rfl) (by rfl) (by rfl) (fun h => by cases h) (by rfl) (by rfl)) rfl rfl rfl rfl rfl rfl rfl,
 trivial⟩
 refine En.ret ?_
 exact En.back ht (DetCouple.mk e_2 e_4) h (by kernel_rfl) rfl
theorem en166 : ∀ args w, (callFunc 166 args).run Try.prog w = .ok (.enter 166 args) w := enters_of Try.func166 (by kernel_rfl) rfl
def apOk_vc (k : DetCouple) (d : ApiDet) (Q : Bool → Prop) : Prop :=
 ∃ e, idx d.fMark k.fE0 = some e ∧
 ∃ e_2, idx d.fMark k.fE1 = some e_2 ∧
 Q (e != e_2)
theorem apOk_walk (k : DetCouple) (d : ApiDet) (Q : Bool → Prop) (h : apOk_vc k d Q) : Ct 167 [.sv (.agg [I k.fE0, I k.fE1]), .sv (.one (.ptr 0 0))] [.box [I d.fLetters, I d.fStart, LS (lsT intT) d.fNext, LS intT d.fMark] 73 true] Q (fun (r : Bool) => .sv (.one (B r))) := by
 have ht := tab_ok
 refine Ct.body Try.func167 rfl rfl rfl rfl (fun c hn => ?_)
 unfold apOk_vc at h
 refine En.seq ?_
 refine En.region ?_
 refine WL.run ht hn 2 ⟨[sl 1 (.ptr 0 0), sl 2 (.ptr 1 0)], [.box (ApiDet.cl d) 73 true, .box (DetCouple.cl k) 169 false]⟩ (by kernel_rfl) ?_
 refine WL.nil ?_
 refine En.seq ?_
 refine En.regionS (by kernel_rfl) (by kernel_rfl) ?_
 refine SL.run ht hn 2 ⟨[sl 1 (.ptr 0 0), sl 2 (.ptr 1 0), sl 4 (.ptr 0 3), sl 5 (LS intT d.fMark)], [.box (ApiDet.cl d) 73 true, .box (DetCouple.cl k) 169 false]⟩ (by kernel_rfl) ?_
 refine SL.val hn (by rfl) (val_indexP (k := 0) 1 0 0 ht rfl Try.underlying169 (by rfl) (by rfl) (by rfl) (by rfl) (by decide) (by rfl)) (by rfl) ?_
 refine SL.run ht hn 1 ⟨[sl 1 (.ptr 0 0), sl 2 (.ptr 1 0), sl 4 (.ptr 0 3), sl 5 (LS intT d.fMark), sl 6 (.ptr 1 0), sl 7 (I k.fE0)], [.box (ApiDet.cl d) 73 true, .box (DetCouple.cl k) 169 false]⟩ (by kernel_rfl) ?_
 obtain ⟨e, he, h⟩ := h
 refine SL.val hn (by rfl) (val_index (T := intT) (l := d.fMark) (i := k.fE0) ht rfl (by rfl) (by rfl) (by rfl) (by rfl) (by rfl) (by rfl) he) (by rfl) ?_
 refine SL.val hn (by rfl) (val_load (s := .one (I e)) ht rfl (by rfl) (by rfl) (by rfl) (by rfl) (by rfl)) (by rfl) ?_
 refine SL.run ht hn 2 ⟨[sl 1 (.ptr 0 0), sl 2 (.ptr 1 0), sl 4 (.ptr 0 3), sl 5 (LS intT d.fMark), sl 6 (.ptr 1 0), sl 7 (I k.fE0), sl 8 (.pe (svR (.one (I e))) 1), sl 9 (I e), sl 10 (.ptr 0 3), sl 11 (LS intT d.fMark)], [.box (ApiDet.cl d) 73 true, .box (DetCouple.cl k) 169 false]⟩ (by kernel_rfl) ?_
 refine SL.val hn (by rfl) (val_indexP (k := 1) 1 0 1 ht rfl Try.underlying169 (by rfl) (by rfl) (by rfl) (by rfl) (by decide) (by rfl)) (by rfl) ?_
 refine SL.run ht hn 1 ⟨[sl 1 (.ptr 0 0), sl 2 (.ptr 1 0), sl 4 (.ptr 0 3), sl 5 (LS intT d.fMark), sl 6 (.ptr 1 0), sl 7 (I k.fE0), sl 8 (.pe (svR (.one (I e))) 1), sl 9 (I e), sl 10 (.ptr 0 3), sl 11 (LS intT d.fMark), sl 12 (.ptr 1 1), sl 13 (I k.fE1)], [.box (ApiDet.cl d) 73 true, .box (DetCouple.cl k) 169 false]⟩ (by kernel_rfl) ?_
 obtain ⟨e_2, he_2, h⟩ := h
 refine SL.val hn (by rfl) (val_index (T := intT) (l := d.fMark) (i := k.fE1) ht rfl (by rfl) (by rfl) (by rfl) (by rfl) (by rfl) (by rfl) he_2) (by rfl) ?_
 refine SL.val hn (by rfl) (val_load (s := .one (I e_2)) ht rfl (by rfl) (by rfl) (by rfl) (by rfl) (by rfl)) (by rfl) ?_
 refine SL.run ht hn 2 ⟨[sl 1 (.ptr 0 0), sl 2 (.ptr 1 0), sl 3 (B (e != e_2)), sl 4 (.ptr 0 3), sl 5 (LS intT d.fMark), sl 6 (.ptr 1 0), sl 7 (I k.fE0), sl 8 (.pe (svR (.one (I e))) 1), sl 9 (I e), sl 10 (.ptr 0 3), sl 11 (LS intT d.fMark), sl 12 (.ptr 1 1), sl 13 (I k.fE1), sl 14 (.pe (svR (.one (I e_2))) 1), sl 15 (I e_2), sl 16 (B (e != e_2))], [.box (ApiDet.cl d) 73 true, .box (DetCouple.cl k) 169 false]⟩ (by kernel_rfl) ?_
 refine SL.nil ⟨by kernel_rfl, ?_⟩
 refine En.ret ?_
 exact En.back ht (e != e_2) h (by kernel_rfl) rfl
theorem en167 : ∀ args w, (callFunc 167 args).run Try.prog w = .ok (.enter 167 args) w := enters_of Try.func167 (by kernel_rfl) rfl
theorem apGo_ct (k : DetCouple) (a : Int) (d : ApiDet) (hd : DetOk d ∧ InC d k ∧ InA d a)  : Ct 166 [.sv (.agg [I k.fE0, I k.fE1]), .sv (.one (I a)), .sv (.one (.ptr 0 0))] [.box [I d.fLetters, I d.fStart, LS (lsT intT) d.fNext, LS intT d.fMark] 73 true] (fun (_ : Unit) => True) (fun _ => .sv (.agg [I (apGoR d k a).fE0, I (apGoR d k a).fE1])) := by
 refine (apGo_walk k a d (fun res_ => res_ = (apGoR d k a)) ?_).fun
 obtain ⟨h, hk, ha⟩ := hd
 obtain ⟨a1, a2, _⟩ := stepI_at h hk.1 ha
 obtain ⟨b1, b2, _⟩ := stepI_at h hk.2 ha
 exact ⟨_, a1, _, a2, _, b1, _, b2, rfl⟩
theorem apOk_ct (k : DetCouple) (d : ApiDet) (hd : DetOk d ∧ InC d k)  : Ct 167 [.sv (.agg [I k.fE0, I k.fE1]), .sv (.one (.ptr 0 0))] [.box [I d.fLetters, I d.fStart, LS (lsT intT) d.fNext, LS intT d.fMark] 73 true] (fun (_ : Unit) => True) (fun _ => .sv (.one (B (apOkR d k)))) := by
 refine (apOk_walk k d (fun res_ => res_ = (apOkR d k)) ?_).fun
 obtain ⟨h, ⟨h1, h2⟩, h3, h4⟩ := hd
 have hm := h.marks
 exact ⟨_, idx_of 0 h1 (by omega), _, idx_of 0 h3 (by omega), rfl⟩
theorem seeks_ct (first : DetCouple) (letters : Int) (domnxt : ((DetCouple × Int) → Prop)) (nxt : ((DetCouple × Int) → DetCouple)) (domok : (DetCouple → Prop)) (ok : (DetCouple → Bool)) (hp : SeekPre first letters domnxt nxt domok)  : Ct 83 [.sv (.agg [I first.fE0, I first.fE1]), .sv (.one (I letters)), .sv (.one (.rd (fvR (fun (x : (DetCouple × Int)) => [.sv (.agg [I x.1.fE0, I x.1.fE1]), .sv (.one (I x.2))]) (fun (r : DetCouple) => .sv (.agg [I r.fE0, I r.fE1])) domnxt nxt))), .sv (.one (.rd (fvR (fun (x : DetCouple) => [.sv (.agg [I x.fE0, I x.fE1])]) (fun (r : Bool) => .sv (.one (B r))) domok ok)))] [] (fun (_ : Unit) => True) (fun _ => .tup [.one (LS intT (seekR first letters nxt ok).1), .one (B (seekR first letters nxt ok).2)]) := by
 refine (detSeeks_walk first letters domnxt nxt domok ok (fun res_ => res_ = (seekR first letters nxt ok)) ?_).fun
 exact seeks_plain first letters domnxt domok hp
def apart_vc (d : ApiDet) (p : Int) (q : Int) (Q : ((List Int) × Bool × Int) → Prop) : Prop :=
 d.fNext.length ≤ 9223372036854775807 →
 d.fMark.length ≤ 9223372036854775807 →
 (IfP ((detErr d) != 0) (Q ([], false, (detErr d))) (IfP ((((decide (p < 0)) || (decide (q < 0))) || (decide (p ≥ (d.fNext.length : Int)))) || (decide (q ≥ (d.fNext.length : Int)))) (Q ([], false, 2)) ((SeekPre (DetCouple.mk p q) d.fLetters (fun (x : DetCouple × Int) => DetOk d ∧ InC d x.1 ∧ InA d x.2) (fun (x : DetCouple × Int) => apGoR d x.1 x.2) (fun (x : DetCouple) => DetOk d ∧ InC d x)) ∧
 Q ((seekR (DetCouple.mk p q) d.fLetters (fun (x : DetCouple × Int) => apGoR d x.1 x.2) (fun (x : DetCouple) => apOkR d x)).1, (seekR (DetCouple.mk p q) d.fLetters (fun (x : DetCouple × Int) => apGoR d x.1 x.2) (fun (x : DetCouple) => apOkR d x)).2, 0))))
theorem apart_walk (d : ApiDet) (p : Int) (q : Int) (Q : ((List Int) × Bool × Int) → Prop) (h : apart_vc d p q Q) : Ct 90 [.sv (.agg [I d.fLetters, I d.fStart, LS (lsT intT) d.fNext, LS intT d.fMark]), .sv (.one (I p)), .sv (.one (I q))] [] Q (fun (r : ((List Int) × Bool × Int)) => .tup [.one (LS intT r.1), .one (B r.2.1), .one (I r.2.2)]) := by
 have ht := tab_ok
 refine Ct.body Try.func90 rfl rfl rfl rfl (fun c hn => ?_)
 unfold apart_vc at h
 refine En.lenA 0 2 (by rfl) (by rfl) (fun hl => ?_)
 replace h := h hl
 clear hl
 refine En.lenA 0 3 (by rfl) (by rfl) (fun hl => ?_)
 replace h := h hl
 clear hl
 refine En.seq ?_
 refine En.region ?_
 refine WL.run ht hn 4 ⟨[sl 1 (I p), sl 2 (I q), sl 3 (.ptr 0 0)], [.box (ApiDet.cl d) 73 false]⟩ (by kernel_rfl) ?_
 refine WL.nil ?_
 refine En.seq ?_
 refine En.seq ?_
 refine En.region ?_
 refine WL.run ht hn 1 ⟨[sl 1 (I p), sl 2 (I q), sl 3 (.ptr 0 0), (12, .sv (.agg (ApiDet.cl d)))], [.box (ApiDet.cl d) 73 false]⟩ (by kernel_rfl) ?_
 refine WL.mt0 (K := []) (p := none) hn (by rfl) (mt_call (detCheck_ct d) en82 (caps := []) [] rfl (by rfl) (by kernel_rfl) (by kernel_rfl) (by rfl) (by rfl) (by rfl)) (by rfl) (by rfl) (by rfl) ?_
 refine WL.run ht hn 1 ⟨[sl 1 (I p), sl 2 (I q), sl 3 (.ptr 0 0), sl 9 (I (detErr d))], [.box (ApiDet.cl d) 73 false]⟩ (by kernel_rfl) ?_
 refine WL.nil ?_
 refine En.seq ?_
 refine En.region ?_
 refine WL.run ht hn 2 ⟨[sl 1 (I p), sl 2 (I q), sl 3 (.ptr 0 0), sl 9 (I (detErr d)), sl 15 (B ((detErr d) != 0))], [.box (ApiDet.cl d) 73 false]⟩ (by kernel_rfl) ?_
 refine WL.nil ?_
 refine En.cond (b := ((detErr d) != 0)) (by kernel_rfl) (fun hb => ?_) (fun hb => ?_)
 replace h := h.1 hb
 refine En.seq ?_
 refine En.region ?_
 refine WL.run ht hn 4 ⟨[sl 6 (.v (.slice none 0 0)), sl 7 (B false), sl 8 (I (detErr d))], [.gone]⟩ (by kernel_rfl) ?_
 refine WL.nil ?_
 refine En.ret ?_
 refine En.nilLS 6 intT (by rfl) ?_
 exact En.back ht ([], false, (detErr d)) h (by kernel_rfl) rfl
 replace h := h.2 hb
 refine En.skip ?_
 refine En.seq ?_
 refine En.seq ?_
 refine En.region ?_
 refine WL.run ht hn 3 ⟨[sl 1 (I p), sl 2 (I q), sl 3 (.ptr 0 0), sl 19 (B (decide (p < 0)))], [.box (ApiDet.cl d) 73 false]⟩ (by kernel_rfl) ?_
 refine WL.thru ⟨[sl 1 (I p), sl 2 (I q), sl 3 (.ptr 0 0), sl 36 (B ((((decide (p < 0)) || (decide (q < 0))) || (decide (p ≥ (d.fNext.length : Int)))) || (decide (q ≥ (d.fNext.length : Int)))))], [.box (ApiDet.cl d) 73 false]⟩ ?_ ?_
 refine splitB (decide (p < 0)) (fun hb0 => ?_) (fun hb0 => ?_)
 refine WL.setB 19 hb0 (by kernel_rfl) ?_
 refine WL.run ht hn 17 ⟨[sl 1 (I p), sl 2 (I q), sl 3 (.ptr 0 0), sl 36 (B true)], [.box (ApiDet.cl d) 73 false]⟩ (by kernel_rfl) ?_
 exact WL.nil (sub_ok (by simp only [hb0]; kernel_rfl))
 refine WL.setB 19 hb0 (by kernel_rfl) ?_
 refine WL.run ht hn 4 ⟨[sl 1 (I p), sl 2 (I q), sl 3 (.ptr 0 0), sl 23 (B (decide (q < 0)))], [.box (ApiDet.cl d) 73 false]⟩ (by kernel_rfl) ?_
 refine splitB (decide (q < 0)) (fun hb1 => ?_) (fun hb1 => ?_)
 refine WL.setB 23 hb1 (by kernel_rfl) ?_
 refine WL.run ht hn 13 ⟨[sl 1 (I p), sl 2 (I q), sl 3 (.ptr 0 0), sl 36 (B true)], [.box (ApiDet.cl d) 73 false]⟩ (by kernel_rfl) ?_
 exact WL.nil (sub_ok (by simp only [hb0, hb1]; kernel_rfl))
 refine WL.setB 23 hb1 (by kernel_rfl) ?_
 refine WL.run ht hn 7 ⟨[sl 1 (I p), sl 2 (I q), sl 3 (.ptr 0 0), sl 30 (B (decide (p ≥ (d.fNext.length : Int))))], [.box (ApiDet.cl d) 73 false]⟩ (by kernel_rfl) ?_
 refine splitB (decide (p ≥ (d.fNext.length : Int))) (fun hb2 => ?_) (fun hb2 => ?_)
 refine WL.setB 30 hb2 (by kernel_rfl) ?_
 refine WL.run ht hn 6 ⟨[sl 1 (I p), sl 2 (I q), sl 3 (.ptr 0 0), sl 36 (B true)], [.box (ApiDet.cl d) 73 false]⟩ (by kernel_rfl) ?_
 exact WL.nil (sub_ok (by simp only [hb0, hb1, hb2]; kernel_rfl))
 refine WL.setB 30 hb2 (by kernel_rfl) ?_
 refine WL.run ht hn 6 ⟨[sl 1 (I p), sl 2 (I q), sl 3 (.ptr 0 0), sl 36 (B (decide (q ≥ (d.fNext.length : Int))))], [.box (ApiDet.cl d) 73 false]⟩ (by kernel_rfl) ?_
 exact WL.nil (sub_ok (by simp only [hb0, hb1, hb2]; kernel_rfl))
 refine En.cond (b := ((((decide (p < 0)) || (decide (q < 0))) || (decide (p ≥ (d.fNext.length : Int)))) || (decide (q ≥ (d.fNext.length : Int))))) (by kernel_rfl) (fun hb => ?_) (fun hb => ?_)
 replace h := h.1 hb
 refine En.seq ?_
 refine En.region ?_
 refine WL.run ht hn 3 ⟨[sl 6 (.v (.slice none 0 0)), sl 7 (B false), sl 8 (I 2)], [.gone]⟩ (by kernel_rfl) ?_
 refine WL.nil ?_
 refine En.ret ?_
 refine En.nilLS 6 intT (by rfl) ?_
 exact En.back ht ([], false, 2) h (by kernel_rfl) rfl
 replace h := h.2 hb
 refine En.skip ?_
 refine En.seq ?_
 refine En.region ?_
 refine WL.run ht hn 7 ⟨[(40, .sv (.agg [I p, I q])), sl 42 (I d.fLetters), sl 43 (.fn 166 [0]), sl 44 (.fn 167 [0])], [.box (ApiDet.cl d) 73 false]⟩ (by kernel_rfl) ?_
 refine WL.freeze [0] (by rfl) ?_
 refine WL.ghost 43 (o1 (.rd (fvR (fun (x_ : (DetCouple × Int)) => [.sv (.agg (DetCouple.cl x_.1)), .sv (.one (I x_.2))]) (fun (r : DetCouple) => .sv (.agg (DetCouple.cl r))) (fun (x : DetCouple × Int) => DetOk d ∧ InC d x.1 ∧ InA d x.2) (fun (x : DetCouple × Int) => apGoR d x.1 x.2)))) (by rfl) (fv_of (M := [.box (ApiDet.cl d) 73 true]) (caps := [0]) (fun x_ hx => apGo_ct x_.1 x_.2 d hx) en166 rfl (by kernel_rfl) (by rfl) (fun _ => rfl)) ?_
 refine WL.ghost 44 (o1 (.rd (fvR (fun (x_ : DetCouple) => [.sv (.agg (DetCouple.cl x_))]) (fun (r : Bool) => .sv (.one (B r))) (fun (x : DetCouple) => DetOk d ∧ InC d x) (fun (x : DetCouple) => apOkR d x)))) (by rfl) (fv_of (M := [.box (ApiDet.cl d) 73 true]) (caps := [0]) (fun x_ hx => apOk_ct x_ d hx) en167 rfl (by kernel_rfl) (by rfl) (fun _ => rfl)) ?_
 have hp := h.1
 replace h := h.2
 refine WL.mt0 (K := []) (p := none) hn (by rfl) (mt_call (seeks_ct (DetCouple.mk p q) d.fLetters (fun (x : DetCouple × Int) => DetOk d ∧ InC d x.1 ∧ InA d x.2) (fun (x : DetCouple × Int) => apGoR d x.1 x.2) (fun (x : DetCouple) => DetOk d ∧ InC d x) (fun (x : DetCouple) => apOkR d x) hp) en83 (caps := []) [] rfl (by rfl) (by kernel_rfl) (by kernel_rfl) (by rfl) (by rfl) (by rfl)) (by rfl) (by rfl) (by rfl) ?_
 refine WL.run ht hn 5 ⟨[sl 10 (LS intT (seekR (DetCouple.mk p q) d.fLetters (fun (x : DetCouple × Int) => apGoR d x.1 x.2) (fun (x : DetCouple) => apOkR d x)).1), sl 11 (B (seekR (DetCouple.mk p q) d.fLetters (fun (x : DetCouple × Int) => apGoR d x.1 x.2) (fun (x : DetCouple) => apOkR d x)).2)], [.gone]⟩ (by kernel_rfl) ?_
 refine WL.nil ?_
 refine En.seq ?_
 refine En.region ?_
 refine WL.run ht hn 5 ⟨[sl 6 (LS intT (seekR (DetCouple.mk p q) d.fLetters (fun (x : DetCouple × Int) => apGoR d x.1 x.2) (fun (x : DetCouple) => apOkR d x)).1), sl 7 (B (seekR (DetCouple.mk p q) d.fLetters (fun (x : DetCouple × Int) => apGoR d x.1 x.2) (fun (x : DetCouple) => apOkR d x)).2), sl 8 (I 0)], [.gone]⟩ (by kernel_rfl) ?_
 refine WL.nil ?_
 refine En.ret ?_
 exact En.back ht ((seekR (DetCouple.mk p q) d.fLetters (fun (x : DetCouple × Int) => apGoR d x.1 x.2) (fun (x : DetCouple) => apOkR d x)).1, (seekR (DetCouple.mk p q) d.fLetters (fun (x : DetCouple × Int) => apGoR d x.1 x.2) (fun (x : DetCouple) => apOkR d x)).2, 0) h (by kernel_rfl) rfl
theorem en90 : ∀ args w, (callFunc 90 args).run Try.prog w = .ok (.enter 90 args) w := enters_of Try.func90 (by kernel_rfl) rfl
theorem apart_ct (d : ApiDet) (p : Int) (q : Int) (hp : DetOk d ∧ d.fNext.length ≤ 5 ∧ InQ d p ∧ InQ d q)  : Ct 90 [.sv (.agg [I d.fLetters, I d.fStart, LS (lsT intT) d.fNext, LS intT d.fMark]), .sv (.one (I p)), .sv (.one (I q))] [] (fun (_ : Unit) => True) (fun _ => .tup [.one (LS intT (apR d p q).1), .one (B (apR d p q).2.1), .one (I (apR d p q).2.2)]) := by
 refine (apart_walk d p q (fun res_ => res_ = (apR d p q)) ?_).fun
 obtain ⟨h, h5, hp, hq⟩ := hp
 unfold apart_vc
 intro _ _
 refine ⟨fun hb => ?_, fun _ => ⟨fun hb => ?_, fun _ => ⟨ap_pre h h5 hp hq, rfl⟩⟩⟩
 ·rw [bne_iff_ne] at hb
  exact absurd ((detErr_iff d).2 h) hb
 ·obtain ⟨p0, p1⟩ := hp
  obtain ⟨q0, q1⟩ := hq
  simp only [Bool.or_eq_true, decide_eq_true_eq] at hb
  omega
def smallM_vc (d : ApiDet) (Q : (ApiDet × Int) → Prop) : Prop :=
 d.fNext.length ≤ 9223372036854775807 →
 d.fMark.length ≤ 9223372036854775807 →
 (IfP ((leastR d).2 != 0) (Q ((ApiDet.mk 0 0 [] []), (leastR d).2)) (IfP (decide (((leastR d).1.fNext.length : Int) > 5)) (Q ((ApiDet.mk 0 0 [] []), 1)) (Q ((leastR d).1, 0))))
theorem smallM_walk (d : ApiDet) (Q : (ApiDet × Int) → Prop) (h : smallM_vc d Q) : Ct 86 [.sv (.agg [I d.fLetters, I d.fStart, LS (lsT intT) d.fNext, LS intT d.fMark])] [] Q (fun (r : (ApiDet × Int)) => .tup [.agg [I r.1.fLetters, I r.1.fStart, LS (lsT intT) r.1.fNext, LS intT r.1.fMark], .one (I r.2)]) := by
 have ht := tab_ok
 refine Ct.body Try.func86 rfl rfl rfl rfl (fun c hn => ?_)
 unfold smallM_vc at h
 refine En.lenA 0 2 (by rfl) (by rfl) (fun hl => ?_)
 replace h := h hl
 clear hl
 refine En.lenA 0 3 (by rfl) (by rfl) (fun hl => ?_)
 replace h := h hl
 clear hl
 refine En.seq ?_
 refine En.region ?_
 refine WL.run ht hn 3 ⟨[sl 1 (.ptr 0 0), sl 2 (.ptr 1 0)], [.box (ApiDet.cl d) 73 false, .box [I 0, I 0, .v (.slice none 0 0), .v (.slice none 0 0)] 73 false]⟩ (by kernel_rfl) ?_
 refine WL.nil ?_
 refine En.seq ?_
 refine En.region ?_
 refine WL.run ht hn 1 ⟨[sl 2 (.ptr 1 0), (7, .sv (.agg (ApiDet.cl d)))], [.gone, .box [I 0, I 0, .v (.slice none 0 0), .v (.slice none 0 0)] 73 false]⟩ (by kernel_rfl) ?_
 refine WL.mt0 (K := []) (p := none) hn (by rfl) (mt_call (detLeast_ct d) en31 (caps := []) [] rfl (by rfl) (by kernel_rfl) (by kernel_rfl) (by rfl) (by rfl) (by rfl)) (by rfl) (by rfl) (by rfl) ?_
 refine WL.run ht hn 6 ⟨[sl 2 (.ptr 1 0), sl 4 (.ptr 2 0), sl 5 (I (leastR d).2)], [.gone, .box [I 0, I 0, .v (.slice none 0 0), .v (.slice none 0 0)] 73 false, .box (ApiDet.cl (leastR d).1) 73 false]⟩ (by kernel_rfl) ?_
 refine WL.nil ?_
 refine En.seq ?_
 refine En.seq ?_
 refine En.region ?_
 refine WL.run ht hn 2 ⟨[sl 2 (.ptr 1 0), sl 4 (.ptr 2 0), sl 5 (I (leastR d).2), sl 12 (B ((leastR d).2 != 0))], [.gone, .box [I 0, I 0, .v (.slice none 0 0), .v (.slice none 0 0)] 73 false, .box (ApiDet.cl (leastR d).1) 73 false]⟩ (by kernel_rfl) ?_
 refine WL.nil ?_
 refine En.cond (b := ((leastR d).2 != 0)) (by kernel_rfl) (fun hb => ?_) (fun hb => ?_)
 replace h := h.1 hb
 refine En.seq ?_
 refine En.region ?_
 refine WL.run ht hn 4 ⟨[sl 2 (.ptr 1 0), sl 3 (I (leastR d).2)], [.gone, .box [I 0, I 0, .v (.slice none 0 0), .v (.slice none 0 0)] 73 false, .gone]⟩ (by kernel_rfl) ?_
 refine WL.nil ?_
 refine En.ret ?_
 refine En.nilBox (T := (lsT intT)) 1 2 (by rfl) (by rfl) ?_
 refine En.nilBox (T := intT) 1 3 (by rfl) (by rfl) ?_
 exact En.back ht ((ApiDet.mk 0 0 [] []), (leastR d).2) h (by kernel_rfl) rfl
 replace h := h.2 hb
 refine En.skip ?_
 refine En.seq ?_
 refine En.seq ?_
 refine En.region ?_
 refine WL.run ht hn 4 ⟨[sl 2 (.ptr 1 0), sl 4 (.ptr 2 0), sl 18 (B (decide (((leastR d).1.fNext.length : Int) > 5)))], [.gone, .box [I 0, I 0, .v (.slice none 0 0), .v (.slice none 0 0)] 73 false, .box (ApiDet.cl (leastR d).1) 73 false]⟩ (by kernel_rfl) ?_
 refine WL.nil ?_
 refine En.cond (b := (decide (((leastR d).1.fNext.length : Int) > 5))) (by kernel_rfl) (fun hb => ?_) (fun hb => ?_)
 replace h := h.1 hb
 refine En.seq ?_
 refine En.region ?_
 refine WL.run ht hn 3 ⟨[sl 2 (.ptr 1 0), sl 3 (I 1)], [.gone, .box [I 0, I 0, .v (.slice none 0 0), .v (.slice none 0 0)] 73 false, .gone]⟩ (by kernel_rfl) ?_
 refine WL.nil ?_
 refine En.ret ?_
 refine En.nilBox (T := (lsT intT)) 1 2 (by rfl) (by rfl) ?_
 refine En.nilBox (T := intT) 1 3 (by rfl) (by rfl) ?_
 exact En.back ht ((ApiDet.mk 0 0 [] []), 1) h (by kernel_rfl) rfl
 replace h := h.2 hb
 refine En.skip ?_
 refine En.seq ?_
 refine En.region ?_
 refine WL.run ht hn 3 ⟨[sl 2 (.ptr 1 0), sl 3 (I 0)], [.gone, .box (ApiDet.cl (leastR d).1) 73 false, .gone]⟩ (by kernel_rfl) ?_
 refine WL.nil ?_
 refine En.ret ?_
 exact En.back ht ((leastR d).1, 0) h (by kernel_rfl) rfl
theorem en86 : ∀ args w, (callFunc 86 args).run Try.prog w = .ok (.enter 86 args) w := enters_of Try.func86 (by kernel_rfl) rfl
theorem smallM_ct (d : ApiDet)  : Ct 86 [.sv (.agg [I d.fLetters, I d.fStart, LS (lsT intT) d.fNext, LS intT d.fMark])] [] (fun (_ : Unit) => True) (fun _ => .tup [.agg [I (smallR d).1.fLetters, I (smallR d).1.fStart, LS (lsT intT) (smallR d).1.fNext, LS intT (smallR d).1.fMark], .one (I (smallR d).2)]) := by
 refine (smallM_walk d (fun res_ => res_ = (smallR d)) ?_).fun
 unfold smallM_vc
 intro _ _
 refine ⟨fun hb => ?_, fun hb => ⟨fun hb2 => ?_, fun hb2 => ?_⟩⟩
 ·show _ = smallR d
  unfold smallR
  rw [if_pos (bne_iff_ne.1 hb)]
 ·have := of_decide_eq_true hb2
  show _ = smallR d
  unfold smallR
  rw [if_neg (by rw [bne_eq_false_iff_eq] at hb; exact fun h => h hb), if_pos (by omega)]
 ·have := of_decide_eq_false hb2
  show _ = smallR d
  unfold smallR
  rw [if_neg (by rw [bne_eq_false_iff_eq] at hb; exact fun h => h hb), if_neg (by omega)]
def CountsQ (d : ApiDet) (r : List Int × Int × Bool × Int) : Prop := ((smallR d).2 ≠ 0 → r.2.2.2 ≠ 0) ∧ ((smallR d).2 = 0 → r.2.2.2 = 0 ∧ ((r.2.2.1 = true ∧ r.2.1 > 1 ∧ wOk (smallR d).1 r.1 ∧ r.1.length ≤ 4000 ∧ HasC (smallR d).1 r.1) ∨ (r.2.2.1 = false ∧ ∀ w, wOk (smallR d).1 w → ∀ q, InQ (smallR d).1 q → NoC (smallR d).1 w q)))
def AlikeQ (d : ApiDet) (u v : List Int) (r : List Int × List Int × Bool × Int) : Prop := ((smallR d).2 ≠ 0 ∨ mayE d.fLetters u ≠ 0 ∨ mayE d.fLetters v ≠ 0 → r.2.2.2 ≠ 0) ∧ ((smallR d).2 = 0 → mayE d.fLetters u = 0 → mayE d.fLetters v = 0 → r.2.2.2 = 0 ∧ (r.2.2.1 = true ↔ ∀ q, InQ (smallR d).1 q → aftI (smallR d).1 q u = aftI (smallR d).1 q v))
def countsM_vc (d : ApiDet) (Q : ((List Int) × Int × Bool × Int) → Prop) : Prop :=
 d.fNext.length ≤ 9223372036854775807 →
 d.fMark.length ≤ 9223372036854775807 →
 (IfP ((smallR d).2 != 0) (Q ([], 0, false, (smallR d).2)) ((DetOk (smallR d).1 ∧ ((smallR d).1).fNext.length ≤ 5) ∧
 ∀ r : (List MonoidElement), (ElemQ (smallR d).1) r →
 (∃ (Inv : Int → Prop) (mu : Int → Nat), Inv 0 ∧
 ∀ (x24 : Int) , Inv x24 → (IfP (decide (x24 < (r.length : Int))) (∃ e, idx r x24 = some e ∧
 ∃ (Inv_2 : Int → Int → Prop) (mu_2 : Int → Int → Nat), Inv_2 0 0 ∧
 ∀ (x9 : Int) (x31 : Int) , Inv_2 x9 x31 → (IfP (decide (x31 < (e.fDoes.length : Int))) (∃ J : Int → Prop, (∃ e_2, idx e.fDoes x31 = some e_2 ∧
 ∃ (Inv_3 : Int → Int → Prop) (mu_3 : Int → Int → Nat), Inv_3 1 e_2 ∧
 ∀ (x11 : Int) (x12 : Int) , Inv_3 x11 x12 → (IfP ((x12 != x31) && (decide (x11 ≤ (e.fDoes.length : Int)))) (∃ e_3, idx e.fDoes x12 = some e_3 ∧
 (Inv_3 (wr (x11 + 1)) e_3 ∧ mu_3 (wr (x11 + 1)) e_3 < mu_3 x11 x12)) (IfP (((x12 == x31) && (decide (x11 > 1))) && ((x9 == 0) || (decide (x11 < x9)))) (J x11) (J x9)))) ∧
 (∀ (x9_2 : Int), J x9_2 → (Inv_2 x9_2 (wr (x31 + 1)) ∧ mu_2 x9_2 (wr (x31 + 1)) < mu_2 x9 x31))) (IfP (decide (x9 > 0)) (Q (e.fWord, x9, true, 0)) ((Inv (wr (x24 + 1)) ∧ mu (wr (x24 + 1)) < mu x24))))) (Q ([], 0, false, 0))))))
set_option maxHeartbeats 2000000 in
theorem countsM_walk (d : ApiDet) (Q : ((List Int) × Int × Bool × Int) → Prop) (h : countsM_vc d Q) : Ct 33 [.sv (.agg [I d.fLetters, I d.fStart, LS (lsT intT) d.fNext, LS intT d.fMark])] [] Q (fun (r : ((List Int) × Int × Bool × Int)) => .tup [.one (LS intT r.1), .one (I r.2.1), .one (B r.2.2.1), .one (I r.2.2.2)]) := by
 have ht := tab_ok
 refine Ct.body Try.func33 rfl rfl rfl rfl (fun c hn => ?_)
 unfold countsM_vc at h
 refine En.lenA 0 2 (by rfl) (by rfl) (fun hl => ?_)
 replace h := h hl
 clear hl
 refine En.lenA 0 3 (by rfl) (by rfl) (fun hl => ?_)
 replace h := h hl
 clear hl
 refine En.seq ?_
 refine En.region ?_
 refine WL.run ht hn 5 ⟨[sl 1 (.ptr 0 0)], [.box (ApiDet.cl d) 73 false]⟩ (by kernel_rfl) ?_
 refine WL.nil ?_
 refine En.seq ?_
 refine En.region ?_
 refine WL.run ht hn 1 ⟨[(14, .sv (.agg (ApiDet.cl d)))], [.gone]⟩ (by kernel_rfl) ?_
 refine WL.mt0 (K := []) (p := none) hn (by rfl) (mt_call (smallM_ct d) en86 (caps := []) [] rfl (by rfl) (by kernel_rfl) (by kernel_rfl) (by rfl) (by rfl) (by rfl)) (by rfl) (by rfl) (by rfl) ?_
 refine WL.run ht hn 6 ⟨[sl 5 (I (smallR d).2), sl 6 (.ptr 1 0)], [.gone, .box (ApiDet.cl (smallR d).1) 73 false]⟩ (by kernel_rfl) ?_
 refine WL.nil ?_
 refine En.seq ?_
 refine En.seq ?_
 refine En.region ?_
 refine WL.run ht hn 2 ⟨[sl 5 (I (smallR d).2), sl 6 (.ptr 1 0), sl 19 (B ((smallR d).2 != 0))], [.gone, .box (ApiDet.cl (smallR d).1) 73 false]⟩ (by kernel_rfl) ?_
 refine WL.nil ?_
 refine En.cond (b := ((smallR d).2 != 0)) (by kernel_rfl) (fun hb => ?_) (fun hb => ?_)
 replace h := h.1 hb
 refine En.seq ?_
 refine En.region ?_
 refine WL.run ht hn 5 ⟨[sl 2 (.v (.slice none 0 0)), sl 3 (I 0), sl 4 (B false), sl 5 (I (smallR d).2)], [.gone, .gone]⟩ (by kernel_rfl) ?_
 refine WL.nil ?_
 refine En.ret ?_
 refine En.nilLS 2 intT (by rfl) ?_
 exact En.back ht ([], 0, false, (smallR d).2) h (by kernel_rfl) rfl
 replace h := h.2 hb
 refine En.skip ?_
 refine En.seq ?_
 refine En.seq ?_
 refine En.region ?_
 refine WL.run ht hn 1 ⟨[(21, .sv (.agg (ApiDet.cl (smallR d).1)))], [.gone, .gone]⟩ (by kernel_rfl) ?_
 have hp := h.1
 replace h := h.2
 refine WL.mtQ (Q := ElemQ (smallR d).1) (x := fun (r : (List MonoidElement)) => .sv (.one (LS MonoidElement.ty r))) (p := fun _ => none) hn (by rfl) (mtq_call (elems_ct (smallR d).1 hp) en87 (caps := []) [] rfl (by rfl) (by kernel_rfl) (by kernel_rfl) (by rfl) (fun _ => rfl) (by rfl)) (fun r hr_2 => ⟨by rfl, _, by rfl, ?_⟩)
 replace h := h r hr_2
 refine WL.run ht hn 2 ⟨[sl 22 (LS MonoidElement.ty r), sl 23 (I (r.length : Int)), sl 24 (I 0)], [.gone, .gone]⟩ (by kernel_rfl) ?_
 refine WL.nil ?_
 refine En.block ?_
 obtain ⟨Inv, mu, h0_3, hI_3⟩ := h
 refine En.loop (σ := Int) (fun zz => Inv zz) (fun zz => mu zz) (fun zz => ⟨[sl 22 (LS MonoidElement.ty r), sl 23 (I (r.length : Int)), sl 24 (I zz)], [.gone, .gone]⟩) 0 h0_3 (sub_ok (by kernel_rfl)) ?_
 intro x24 h
 replace h := hI_3 _ h
 show En c ⟨[sl 22 (LS MonoidElement.ty r), sl 23 (I (r.length : Int)), sl 24 (I x24)], [.gone, .gone]⟩ _
 refine En.seq ?_
 refine En.region ?_
 refine WL.run ht hn 1 ⟨[sl 22 (LS MonoidElement.ty r), sl 23 (I (r.length : Int)), sl 24 (I x24), sl 25 (B (decide (x24 < (r.length : Int))))], [.gone, .gone]⟩ (by kernel_rfl) ?_
 refine WL.nil ?_
 refine En.seq ?_
 refine En.cond (b := (decide (x24 < (r.length : Int)))) (by kernel_rfl) (fun hb => ?_) (fun hb => ?_)
 replace h := h.1 hb
 refine En.skip ?_
 refine En.seq ?_
 refine En.block ?_
 refine En.seq ?_
 refine En.region ?_
 obtain ⟨e, he, h⟩ := h
 refine WL.val hn (by rfl) (val_index (T := MonoidElement.ty) (l := r) (i := x24) ht rfl (by rfl) (by rfl) (by rfl) (by rfl) (by rfl) (by rfl) he) (by rfl) ?_
 refine WL.val hn (by rfl) (val_load (s := .agg (MonoidElement.cl e)) ht rfl (by rfl) (by rfl) (by rfl) (by rfl) (by rfl)) (by rfl) ?_
 refine WL.run ht hn 2 ⟨[sl 8 (.ptr 2 0), sl 22 (LS MonoidElement.ty r), sl 23 (I (r.length : Int)), sl 24 (I x24)], [.gone, .gone, .box (MonoidElement.cl e) 179 false]⟩ (by kernel_rfl) ?_
 refine WL.nil ?_
 refine En.seq ?_
 refine En.region ?_
 refine WL.run ht hn 1 ⟨[sl 8 (.ptr 2 0), sl 9 (I 0), sl 22 (LS MonoidElement.ty r), sl 23 (I (r.length : Int)), sl 24 (I x24)], [.gone, .gone, .box (MonoidElement.cl e) 179 false]⟩ (by kernel_rfl) ?_
 refine WL.nil ?_
 refine En.seq ?_
 refine En.seq ?_
 refine En.region ?_
 refine WL.run ht hn 4 ⟨[sl 8 (.ptr 2 0), sl 9 (I 0), sl 22 (LS MonoidElement.ty r), sl 23 (I (r.length : Int)), sl 24 (I x24), sl 30 (I (e.fDoes.length : Int)), sl 31 (I 0)], [.gone, .gone, .box (MonoidElement.cl e) 179 false]⟩ (by kernel_rfl) ?_
 refine WL.nil ?_
 refine En.block ?_
 obtain ⟨Inv_2, mu_2, h0_2, hI_2⟩ := h
 refine En.loop (σ := Int × Int) (fun zz => Inv_2 zz.1 zz.2) (fun zz => mu_2 zz.1 zz.2) (fun zz => ⟨[sl 8 (.ptr 2 0), sl 9 (I zz.1), sl 22 (LS MonoidElement.ty r), sl 23 (I (r.length : Int)), sl 24 (I x24), sl 30 (I (e.fDoes.length : Int)), sl 31 (I zz.2)], [.gone, .gone, .box (MonoidElement.cl e) 179 false]⟩) (0, 0) h0_2 (sub_ok (by kernel_rfl)) ?_
 rintro ⟨x9, x31⟩ h
 replace h := hI_2 _ _ h
 show En c ⟨[sl 8 (.ptr 2 0), sl 9 (I x9), sl 22 (LS MonoidElement.ty r), sl 23 (I (r.length : Int)), sl 24 (I x24), sl 30 (I (e.fDoes.length : Int)), sl 31 (I x31)], [.gone, .gone, .box (MonoidElement.cl e) 179 false]⟩ _
 refine En.seq ?_
 refine En.region ?_
 refine WL.run ht hn 1 ⟨[sl 8 (.ptr 2 0), sl 9 (I x9), sl 22 (LS MonoidElement.ty r), sl 23 (I (r.length : Int)), sl 24 (I x24), sl 30 (I (e.fDoes.length : Int)), sl 31 (I x31), sl 32 (B (decide (x31 < (e.fDoes.length : Int))))], [.gone, .gone, .box (MonoidElement.cl e) 179 false]⟩ (by kernel_rfl) ?_
 refine WL.nil ?_
 refine En.seq ?_
 refine En.cond (b := (decide (x31 < (e.fDoes.length : Int)))) (by kernel_rfl) (fun hb => ?_) (fun hb => ?_)
 replace h := h.1 hb
 refine En.skip ?_
 obtain ⟨J, h, hJ⟩ := h
 refine En.seqJ (σ := Int) (fun zz => J zz) (fun zz => ⟨[sl 8 (.ptr 2 0), sl 9 (I zz), sl 22 (LS MonoidElement.ty r), sl 23 (I (r.length : Int)), sl 24 (I x24), sl 30 (I (e.fDoes.length : Int)), sl 31 (I x31)], [.gone, .gone, .box (MonoidElement.cl e) 179 false]⟩) ?_ ?_
 refine En.block ?_
 refine En.seq ?_
 refine En.region ?_
 refine WL.run ht hn 2 ⟨[sl 8 (.ptr 2 0), sl 9 (I x9), sl 10 (I x31), sl 22 (LS MonoidElement.ty r), sl 23 (I (r.length : Int)), sl 24 (I x24), sl 30 (I (e.fDoes.length : Int)), sl 31 (I x31)], [.gone, .gone, .box (MonoidElement.cl e) 179 false]⟩ (by kernel_rfl) ?_
 refine WL.nil ?_
 refine En.seq ?_
 refine En.regionS (by kernel_rfl) (by kernel_rfl) ?_
 refine SL.run ht hn 3 ⟨[sl 8 (.ptr 2 0), sl 9 (I x9), sl 10 (I x31), sl 22 (LS MonoidElement.ty r), sl 23 (I (r.length : Int)), sl 24 (I x24), sl 30 (I (e.fDoes.length : Int)), sl 31 (I x31), sl 34 (.ptr 2 0), sl 35 (LS intT e.fDoes), sl 36 (I x31)], [.gone, .gone, .box (MonoidElement.cl e) 179 false]⟩ (by kernel_rfl) ?_
 obtain ⟨e_2, he_2, h⟩ := h
 refine SL.val hn (by rfl) (val_index (T := intT) (l := e.fDoes) (i := x31) ht rfl (by rfl) (by rfl) (by rfl) (by rfl) (by rfl) (by rfl) he_2) (by rfl) ?_
 refine SL.val hn (by rfl) (val_load (s := .one (I e_2)) ht rfl (by rfl) (by rfl) (by rfl) (by rfl) (by rfl)) (by rfl) ?_
 refine SL.run ht hn 2 ⟨[sl 8 (.ptr 2 0), sl 9 (I x9), sl 10 (I x31), sl 11 (I 1), sl 12 (I e_2), sl 22 (LS MonoidElement.ty r), sl 23 (I (r.length : Int)), sl 24 (I x24), sl 30 (I (e.fDoes.length : Int)), sl 31 (I x31), sl 34 (.ptr 2 0), sl 35 (LS intT e.fDoes), sl 36 (I x31), sl 37 (.pe (svR (.one (I e_2))) 1), sl 38 (I e_2)], [.gone, .gone, .box (MonoidElement.cl e) 179 false]⟩ (by kernel_rfl) ?_
 refine SL.nil ⟨by kernel_rfl, ?_⟩
 refine En.seq ?_
 refine En.block ?_
 obtain ⟨Inv_3, mu_3, h0, hI⟩ := h
 refine En.loop (σ := Int × Int) (fun zz => Inv_3 zz.1 zz.2) (fun zz => mu_3 zz.1 zz.2) (fun zz => ⟨[sl 8 (.ptr 2 0), sl 9 (I x9), sl 10 (I x31), sl 11 (I zz.1), sl 12 (I zz.2), sl 22 (LS MonoidElement.ty r), sl 23 (I (r.length : Int)), sl 24 (I x24), sl 30 (I (e.fDoes.length : Int)), sl 31 (I x31)], [.gone, .gone, .box (MonoidElement.cl e) 179 false]⟩) (1, e_2) h0 (sub_ok (by kernel_rfl)) ?_
 rintro ⟨x11, x12⟩ h
 replace h := hI _ _ h
 show En c ⟨[sl 8 (.ptr 2 0), sl 9 (I x9), sl 10 (I x31), sl 11 (I x11), sl 12 (I x12), sl 22 (LS MonoidElement.ty r), sl 23 (I (r.length : Int)), sl 24 (I x24), sl 30 (I (e.fDoes.length : Int)), sl 31 (I x31)], [.gone, .gone, .box (MonoidElement.cl e) 179 false]⟩ _
 refine En.seq ?_
 refine En.seq ?_
 refine En.region ?_
 refine WL.run ht hn 4 ⟨[sl 8 (.ptr 2 0), sl 9 (I x9), sl 10 (I x31), sl 11 (I x11), sl 12 (I x12), sl 22 (LS MonoidElement.ty r), sl 23 (I (r.length : Int)), sl 24 (I x24), sl 30 (I (e.fDoes.length : Int)), sl 31 (I x31), sl 42 (B (x12 != x31))], [.gone, .gone, .box (MonoidElement.cl e) 179 false]⟩ (by kernel_rfl) ?_
 refine WL.thru ⟨[sl 8 (.ptr 2 0), sl 9 (I x9), sl 10 (I x31), sl 11 (I x11), sl 12 (I x12), sl 22 (LS MonoidElement.ty r), sl 23 (I (r.length : Int)), sl 24 (I x24), sl 30 (I (e.fDoes.length : Int)), sl 31 (I x31), sl 48 (B ((x12 != x31) && (decide (x11 ≤ (e.fDoes.length : Int)))))], [.gone, .gone, .box (MonoidElement.cl e) 179 false]⟩ ?_ ?_
 refine splitB (x12 != x31) (fun hb0 => ?_) (fun hb0 => ?_)
 refine WL.setB 42 hb0 (by kernel_rfl) ?_
 refine WL.run ht hn 6 ⟨[sl 8 (.ptr 2 0), sl 9 (I x9), sl 10 (I x31), sl 11 (I x11), sl 12 (I x12), sl 22 (LS MonoidElement.ty r), sl 23 (I (r.length : Int)), sl 24 (I x24), sl 30 (I (e.fDoes.length : Int)), sl 31 (I x31), sl 48 (B (decide (x11 ≤ (e.fDoes.length : Int))))], [.gone, .gone, .box (MonoidElement.cl e) 179 false]⟩ (by kernel_rfl) ?_
 exact WL.nil (sub_ok (by simp only [hb0]; kernel_rfl))
 refine WL.setB 42 hb0 (by kernel_rfl) ?_
 refine WL.run ht hn 6 ⟨[sl 8 (.ptr 2 0), sl 9 (I x9), sl 10 (I x31), sl 11 (I x11), sl 12 (I x12), sl 22 (LS MonoidElement.ty r), sl 23 (I (r.length : Int)), sl 24 (I x24), sl 30 (I (e.fDoes.length : Int)), sl 31 (I x31), sl 48 (B false)], [.gone, .gone, .box (MonoidElement.cl e) 179 false]⟩ (by kernel_rfl) ?_
 exact WL.nil (sub_ok (by simp only [hb0]; kernel_rfl))
 refine En.cond (b := ((x12 != x31) && (decide (x11 ≤ (e.fDoes.length : Int))))) (by kernel_rfl) (fun hb => ?_) (fun hb => ?_)
 replace h := h.1 hb
 refine En.skip ?_
 refine En.block ?_
 refine En.seq ?_
 refine En.region ?_
 refine WL.run ht hn 3 ⟨[sl 8 (.ptr 2 0), sl 9 (I x9), sl 10 (I x31), sl 11 (I x11), sl 22 (LS MonoidElement.ty r), sl 23 (I (r.length : Int)), sl 24 (I x24), sl 30 (I (e.fDoes.length : Int)), sl 31 (I x31), sl 50 (LS intT e.fDoes), sl 51 (I x12)], [.gone, .gone, .box (MonoidElement.cl e) 179 false]⟩ (by kernel_rfl) ?_
 obtain ⟨e_3, he_3, h⟩ := h
 refine WL.val hn (by rfl) (val_index (T := intT) (l := e.fDoes) (i := x12) ht rfl (by rfl) (by rfl) (by rfl) (by rfl) (by rfl) (by rfl) he_3) (by rfl) ?_
 refine WL.val hn (by rfl) (val_load (s := .one (I e_3)) ht rfl (by rfl) (by rfl) (by rfl) (by rfl) (by rfl)) (by rfl) ?_
 refine WL.run ht hn 1 ⟨[sl 8 (.ptr 2 0), sl 9 (I x9), sl 10 (I x31), sl 11 (I x11), sl 12 (I e_3), sl 22 (LS MonoidElement.ty r), sl 23 (I (r.length : Int)), sl 24 (I x24), sl 30 (I (e.fDoes.length : Int)), sl 31 (I x31)], [.gone, .gone, .box (MonoidElement.cl e) 179 false]⟩ (by kernel_rfl) ?_
 refine WL.nil ?_
 refine En.region ?_
 refine WL.run ht hn 3 ⟨[sl 8 (.ptr 2 0), sl 9 (I x9), sl 10 (I x31), sl 11 (I (wr (x11 + 1))), sl 12 (I e_3), sl 22 (LS MonoidElement.ty r), sl 23 (I (r.length : Int)), sl 24 (I x24), sl 30 (I (e.fDoes.length : Int)), sl 31 (I x31)], [.gone, .gone, .box (MonoidElement.cl e) 179 false]⟩ (by kernel_rfl) ?_
 refine WL.nil ?_
 exact En.at (I := fun zz => Inv_3 zz.1 zz.2 ∧ mu_3 zz.1 zz.2 < mu_3 x11 x12) (T := fun zz => ⟨[sl 8 (.ptr 2 0), sl 9 (I x9), sl 10 (I x31), sl 11 (I zz.1), sl 12 (I zz.2), sl 22 (LS MonoidElement.ty r), sl 23 (I (r.length : Int)), sl 24 (I x24), sl 30 (I (e.fDoes.length : Int)), sl 31 (I x31)], [.gone, .gone, .box (MonoidElement.cl e) 179 false]⟩) ((wr (x11 + 1)), e_3) h (by kernel_rfl)
 replace h := h.2 hb
 refine En.exit rfl ?_
 refine En.seq ?_
 refine En.region ?_
 refine WL.run ht hn 4 ⟨[sl 8 (.ptr 2 0), sl 9 (I x9), sl 11 (I x11), sl 22 (LS MonoidElement.ty r), sl 23 (I (r.length : Int)), sl 24 (I x24), sl 30 (I (e.fDoes.length : Int)), sl 31 (I x31), sl 59 (B (x12 == x31))], [.gone, .gone, .box (MonoidElement.cl e) 179 false]⟩ (by kernel_rfl) ?_
 refine WL.thru ⟨[sl 8 (.ptr 2 0), sl 9 (I x9), sl 11 (I x11), sl 22 (LS MonoidElement.ty r), sl 23 (I (r.length : Int)), sl 24 (I x24), sl 30 (I (e.fDoes.length : Int)), sl 31 (I x31), sl 71 (B (((x12 == x31) && (decide (x11 > 1))) && ((x9 == 0) || (decide (x11 < x9)))))], [.gone, .gone, .box (MonoidElement.cl e) 179 false]⟩ ?_ ?_
 refine splitB (x12 == x31) (fun hb0 => ?_) (fun hb0 => ?_)
 refine WL.setB 59 hb0 (by kernel_rfl) ?_
 refine WL.run ht hn 4 ⟨[sl 8 (.ptr 2 0), sl 9 (I x9), sl 11 (I x11), sl 22 (LS MonoidElement.ty r), sl 23 (I (r.length : Int)), sl 24 (I x24), sl 30 (I (e.fDoes.length : Int)), sl 31 (I x31), sl 63 (B (decide (x11 > 1)))], [.gone, .gone, .box (MonoidElement.cl e) 179 false]⟩ (by kernel_rfl) ?_
 refine splitB (decide (x11 > 1)) (fun hb1 => ?_) (fun hb1 => ?_)
 refine WL.setB 63 hb1 (by kernel_rfl) ?_
 refine WL.run ht hn 3 ⟨[sl 8 (.ptr 2 0), sl 9 (I x9), sl 11 (I x11), sl 22 (LS MonoidElement.ty r), sl 23 (I (r.length : Int)), sl 24 (I x24), sl 30 (I (e.fDoes.length : Int)), sl 31 (I x31), sl 63 (B true), sl 66 (B (x9 == 0))], [.gone, .gone, .box (MonoidElement.cl e) 179 false]⟩ (by kernel_rfl) ?_
 refine splitB (x9 == 0) (fun hb2 => ?_) (fun hb2 => ?_)
 refine WL.setB 66 hb2 (by kernel_rfl) ?_
 refine WL.run ht hn 5 ⟨[sl 8 (.ptr 2 0), sl 9 (I x9), sl 11 (I x11), sl 22 (LS MonoidElement.ty r), sl 23 (I (r.length : Int)), sl 24 (I x24), sl 30 (I (e.fDoes.length : Int)), sl 31 (I x31), sl 71 (B true)], [.gone, .gone, .box (MonoidElement.cl e) 179 false]⟩ (by kernel_rfl) ?_
 exact WL.nil (sub_ok (by simp only [hb0, hb1, hb2]; kernel_rfl))
 refine WL.setB 66 hb2 (by kernel_rfl) ?_
 refine WL.run ht hn 5 ⟨[sl 8 (.ptr 2 0), sl 9 (I x9), sl 11 (I x11), sl 22 (LS MonoidElement.ty r), sl 23 (I (r.length : Int)), sl 24 (I x24), sl 30 (I (e.fDoes.length : Int)), sl 31 (I x31), sl 71 (B (decide (x11 < x9)))], [.gone, .gone, .box (MonoidElement.cl e) 179 false]⟩ (by kernel_rfl) ?_
 exact WL.nil (sub_ok (by simp only [hb0, hb1, hb2]; kernel_rfl))
 refine WL.setB 63 hb1 (by kernel_rfl) ?_
 refine WL.run ht hn 8 ⟨[sl 8 (.ptr 2 0), sl 9 (I x9), sl 11 (I x11), sl 22 (LS MonoidElement.ty r), sl 23 (I (r.length : Int)), sl 24 (I x24), sl 30 (I (e.fDoes.length : Int)), sl 31 (I x31), sl 71 (B false)], [.gone, .gone, .box (MonoidElement.cl e) 179 false]⟩ (by kernel_rfl) ?_
 exact WL.nil (sub_ok (by simp only [hb0, hb1]; kernel_rfl))
 refine WL.setB 59 hb0 (by kernel_rfl) ?_
 refine WL.run ht hn 12 ⟨[sl 8 (.ptr 2 0), sl 9 (I x9), sl 11 (I x11), sl 22 (LS MonoidElement.ty r), sl 23 (I (r.length : Int)), sl 24 (I x24), sl 30 (I (e.fDoes.length : Int)), sl 31 (I x31), sl 71 (B false)], [.gone, .gone, .box (MonoidElement.cl e) 179 false]⟩ (by kernel_rfl) ?_
 exact WL.nil (sub_ok (by simp only [hb0]; kernel_rfl))
 refine En.cond (b := (((x12 == x31) && (decide (x11 > 1))) && ((x9 == 0) || (decide (x11 < x9))))) (by kernel_rfl) (fun hb => ?_) (fun hb => ?_)
 replace h := h.1 hb
 refine En.region ?_
 refine WL.run ht hn 2 ⟨[sl 8 (.ptr 2 0), sl 9 (I x11), sl 22 (LS MonoidElement.ty r), sl 23 (I (r.length : Int)), sl 24 (I x24), sl 30 (I (e.fDoes.length : Int)), sl 31 (I x31)], [.gone, .gone, .box (MonoidElement.cl e) 179 false]⟩ (by kernel_rfl) ?_
 refine WL.nil ?_
 exact En.at (I := fun zz => J zz) (T := fun zz => ⟨[sl 8 (.ptr 2 0), sl 9 (I zz), sl 22 (LS MonoidElement.ty r), sl 23 (I (r.length : Int)), sl 24 (I x24), sl 30 (I (e.fDoes.length : Int)), sl 31 (I x31)], [.gone, .gone, .box (MonoidElement.cl e) 179 false]⟩) x11 h (by kernel_rfl)
 replace h := h.2 hb
 refine En.skip ?_
 exact En.at (I := fun zz => J zz) (T := fun zz => ⟨[sl 8 (.ptr 2 0), sl 9 (I zz), sl 22 (LS MonoidElement.ty r), sl 23 (I (r.length : Int)), sl 24 (I x24), sl 30 (I (e.fDoes.length : Int)), sl 31 (I x31)], [.gone, .gone, .box (MonoidElement.cl e) 179 false]⟩) x9 h (by kernel_rfl)
 intro x9_2 h
 replace h := hJ _ h
 show En c ⟨[sl 8 (.ptr 2 0), sl 9 (I x9_2), sl 22 (LS MonoidElement.ty r), sl 23 (I (r.length : Int)), sl 24 (I x24), sl 30 (I (e.fDoes.length : Int)), sl 31 (I x31)], [.gone, .gone, .box (MonoidElement.cl e) 179 false]⟩ _
 refine En.region ?_
 refine WL.run ht hn 2 ⟨[sl 8 (.ptr 2 0), sl 9 (I x9_2), sl 22 (LS MonoidElement.ty r), sl 23 (I (r.length : Int)), sl 24 (I x24), sl 30 (I (e.fDoes.length : Int)), sl 31 (I (wr (x31 + 1)))], [.gone, .gone, .box (MonoidElement.cl e) 179 false]⟩ (by kernel_rfl) ?_
 refine WL.nil ?_
 exact En.at (I := fun zz => Inv_2 zz.1 zz.2 ∧ mu_2 zz.1 zz.2 < mu_2 x9 x31) (T := fun zz => ⟨[sl 8 (.ptr 2 0), sl 9 (I zz.1), sl 22 (LS MonoidElement.ty r), sl 23 (I (r.length : Int)), sl 24 (I x24), sl 30 (I (e.fDoes.length : Int)), sl 31 (I zz.2)], [.gone, .gone, .box (MonoidElement.cl e) 179 false]⟩) (x9_2, (wr (x31 + 1))) h (by kernel_rfl)
 replace h := h.2 hb
 refine En.exit rfl ?_
 refine En.seq ?_
 refine En.region ?_
 refine WL.run ht hn 2 ⟨[sl 8 (.ptr 2 0), sl 9 (I x9), sl 22 (LS MonoidElement.ty r), sl 23 (I (r.length : Int)), sl 24 (I x24), sl 75 (B (decide (x9 > 0)))], [.gone, .gone, .box (MonoidElement.cl e) 179 false]⟩ (by kernel_rfl) ?_
 refine WL.nil ?_
 refine En.cond (b := (decide (x9 > 0))) (by kernel_rfl) (fun hb => ?_) (fun hb => ?_)
 replace h := h.1 hb
 refine En.seq ?_
 refine En.region ?_
 refine WL.run ht hn 7 ⟨[sl 2 (LS intT e.fWord), sl 3 (I x9), sl 4 (B true), sl 5 (I 0)], [.gone, .gone, .gone]⟩ (by kernel_rfl) ?_
 refine WL.nil ?_
 refine En.ret ?_
 exact En.back ht (e.fWord, x9, true, 0) h (by kernel_rfl) rfl
 replace h := h.2 hb
 refine En.skip ?_
 refine En.region ?_
 refine WL.run ht hn 2 ⟨[sl 22 (LS MonoidElement.ty r), sl 23 (I (r.length : Int)), sl 24 (I (wr (x24 + 1)))], [.gone, .gone, .gone]⟩ (by kernel_rfl) ?_
 refine WL.nil ?_
 exact En.at (I := fun zz => Inv zz ∧ mu zz < mu x24) (T := fun zz => ⟨[sl 22 (LS MonoidElement.ty r), sl 23 (I (r.length : Int)), sl 24 (I zz)], [.gone, .gone]⟩) (wr (x24 + 1)) h (by kernel_rfl)
 replace h := h.2 hb
 refine En.exit rfl ?_
 refine En.seq ?_
 refine En.region ?_
 refine WL.run ht hn 4 ⟨[sl 2 (.v (.slice none 0 0)), sl 3 (I 0), sl 4 (B false), sl 5 (I 0)], [.gone, .gone]⟩ (by kernel_rfl) ?_
 refine WL.nil ?_
 refine En.ret ?_
 refine En.nilLS 2 intT (by rfl) ?_
 exact En.back ht ([], 0, false, 0) h (by kernel_rfl) rfl
theorem en33 : ∀ args w, (callFunc 33 args).run Try.prog w = .ok (.enter 33 args) w := enters_of Try.func33 (by kernel_rfl) rfl
theorem countsM_ct (d : ApiDet)  : Ct 33 [.sv (.agg [I d.fLetters, I d.fStart, LS (lsT intT) d.fNext, LS intT d.fMark])] [] (CountsQ d) (fun (r : ((List Int) × Int × Bool × Int)) => .tup [.one (LS intT r.1), .one (I r.2.1), .one (B r.2.2.1), .one (I r.2.2.2)]) := by
 refine countsM_walk d (CountsQ d) ?_
 unfold countsM_vc
 intro _ _
 refine ⟨fun hb => ?_, fun hb => ?_⟩
 ·have hb := bne_iff_ne.1 hb
  exact ⟨fun _ => hb, fun h => absurd h hb⟩
 rw [bne_eq_false_iff_eq] at hb
 obtain ⟨hM, hL⟩ := smallR_ok hb
 generalize hm : (smallR d).1 = m at *
 have hdet := hM.det
 have h5 := hM.five
 refine ⟨⟨hdet, h5⟩, fun r hr => ?_⟩
 obtain ⟨hr1, hr2, hr3⟩ := hr
 refine ⟨fun i => ∃ k : Nat, i = k ∧ k ≤ r.length ∧ ∀ j x, j < k → r[j]? = some x → ∀ q, InQ m q → NoC m x.fWord q, fun i => r.length - i.toNat, ⟨0, rfl, Nat.zero_le _, fun j x hj => by omega⟩, ?_⟩
 rintro _ ⟨k, rfl, hk, hC⟩
 refine ⟨fun hb1 => ?_, fun hb1 => ?_⟩
 ·have hkl := dlt hb1
  obtain ⟨x, hx⟩ : ∃ x, x = r[k] := ⟨_, rfl⟩
  have hxr : x ∈ r := by rw [hx]; exact List.getElem_mem hkl
  obtain ⟨ho, how⟩ := hr1 x hxr
  have hdl : x.fDoes.length = m.fNext.length := by rw [ho.does, doesOf_len]
  have hix : ∀ q, InQ m q → idx x.fDoes q = some (aftI m q x.fWord) := fun q hq => by rw [ho.does]; exact doesOf_at hq
  refine ⟨x, by rw [idx_at hkl, ← hx], fun best i => ∃ q : Nat, i = q ∧ q ≤ m.fNext.length ∧ ((best = 0 ∧ ∀ p : Nat, p < q → NoC m x.fWord p) ∨ (1 < best ∧ HasC m x.fWord)), fun _ i => m.fNext.length - i.toNat, ⟨0, rfl, Nat.zero_le _, .inl ⟨rfl, fun p hp => by omega⟩⟩, ?_⟩
  rintro best _ ⟨q, rfl, hq, hB⟩
  rw [hdl]
  refine ⟨fun hb2 => ?_, fun hb2 => ?_⟩
  ·have hqn := dlt hb2
   have hqI : InQ m (q : Int) := ⟨Int.natCast_nonneg _, Int.ofNat_lt.2 hqn⟩
   refine ⟨fun b2 => (b2 = 0 ∧ ∀ p : Nat, p < q + 1 → NoC m x.fWord p) ∨ (1 < b2 ∧ HasC m x.fWord), ⟨_, hix _ hqI, fun k2 p => ∃ j : Nat, k2 = j ∧ 1 ≤ j ∧ j ≤ m.fNext.length + 1 ∧ p = aftI m (q : Int) (pw x.fWord j) ∧ ∀ i, 1 ≤ i → i < j → aftI m (q : Int) (pw x.fWord i) ≠ (q : Int), fun k2 _ => m.fNext.length + 1 - k2.toNat, ⟨1, rfl, Nat.le_refl _, by omega, pw_one.symm, fun i h1 h2 => by omega⟩, ?_⟩, ?_⟩
   ·rintro _ _ ⟨j, rfl, hj1, hj2, rfl, hj3⟩
    have hpI : InQ m (aftI m (q : Int) (pw x.fWord j)) := aftI_in hdet _ _ (pw_ok ho.word j) hqI
    refine ⟨fun hb3 => ?_, fun hb3 => ⟨fun hb4 => ?_, fun hb4 => ?_⟩⟩
    ·rw [Bool.and_eq_true, bne_iff_ne, decide_eq_true_eq] at hb3
     obtain ⟨c1, c2⟩ := hb3
     have hw : wr ((j : Int) + 1) = ((j + 1 : Nat) : Int) := wr_nat (by omega)
     refine ⟨_, hix _ hpI, ⟨j + 1, hw, by omega, by omega, pw_succ.symm, fun i h1 h2 => ?_⟩, ?_⟩
     ·by_cases hij : i < j
      ·exact hj3 i h1 hij
      ·have : i = j := by omega
       subst this
       exact c1
     ·rw [hw]
      show m.fNext.length + 1 - (j + 1) < m.fNext.length + 1 - j
      omega
    ·rw [Bool.and_eq_true, Bool.and_eq_true, beq_iff_eq, decide_eq_true_eq] at hb4
     obtain ⟨⟨c1, c2⟩, _⟩ := hb4
     exact .inr ⟨c2, (q : Int), hqI, j, hj1, c1, by have := hj3 1 (Nat.le_refl _) (by omega); rwa [pw_one] at this⟩
    ·rcases hB with ⟨b1, b2⟩ | ⟨b1, b2⟩
     ·refine .inl ⟨b1, fun p hp => ?_⟩
      by_cases hpq : p < q
      ·exact b2 p hpq
      ·have : p = q := by omega
       subst this
       subst b1
       intro i h1 h2 h3
       by_cases hij : i < j
       ·exact absurd h3 (hj3 i h1 hij)
       ·rw [Bool.and_eq_false_iff, bne_eq_false_iff_eq, decide_eq_false_iff_not] at hb3
        have c1 : aftI m (p : Int) (pw x.fWord j) = (p : Int) := by
         rcases hb3 with c | c
         ·exact c
         ·omega
        have hj : j = 1 := by
         refine Decidable.byContradiction fun hne => ?_
         rw [beq_iff_eq.2 c1, decide_eq_true (show (j : Int) > 1 by omega)] at hb4
         simp at hb4
        subst hj
        rw [pw_one] at c1
        exact c1
     ·exact .inr ⟨b1, b2⟩
   ·intro b2 hb2
    have hw : wr ((q : Int) + 1) = ((q + 1 : Nat) : Int) := wr_nat (by omega)
    refine ⟨⟨q + 1, hw, hqn, hb2⟩, ?_⟩
    rw [hw]
    show m.fNext.length - (q + 1) < m.fNext.length - q
    omega
  ·have hqe : q = m.fNext.length := by have := dge hb2; omega
   refine ⟨fun hb3 => ?_, fun hb3 => ?_⟩
   ·have hpos := of_decide_eq_true hb3
    rcases hB with ⟨b1, _⟩ | ⟨b1, b2⟩
    ·omega
    ·exact ⟨fun h => absurd hb h, fun _ => ⟨rfl, .inl ⟨rfl, b1, by rw [hm]; exact ho.word, how, by rw [hm]; exact b2⟩⟩⟩
   ·have hnon := of_decide_eq_false hb3
    rcases hB with ⟨b1, b2⟩ | ⟨b1, _⟩
    ·have hw : wr ((k : Int) + 1) = ((k + 1 : Nat) : Int) := wr_nat (by omega)
     refine ⟨⟨k + 1, hw, hkl, fun j y hj hy q' hq' => ?_⟩, ?_⟩
     ·by_cases hjk : j < k
      ·exact hC j y hjk hy q' hq'
      ·have : j = k := by omega
       subst this
       rw [List.getElem?_eq_getElem hkl, ← hx] at hy
       cases hy
       obtain ⟨a0, a1⟩ := hq'
       have := b2 q'.toNat (by omega)
       rwa [Int.toNat_of_nonneg a0] at this
     ·rw [hw]
      show r.length - (k + 1) < r.length - k
      omega
    ·omega
 ·have hke : r.length ≤ k := dge hb1
  refine ⟨fun h => absurd hb h, fun _ => ⟨rfl, .inr ⟨rfl, fun w hw q hq => ?_⟩⟩⟩
  rw [hm] at hw hq ⊢
  obtain ⟨x, hx, e⟩ := hr3 w hw
  obtain ⟨ho, _⟩ := hr1 x hx
  obtain ⟨j, hj⟩ := List.getElem?_of_mem hx
  have hjl := (List.getElem?_eq_some_iff.1 hj).1
  exact noC_does hdet ho.word hw (by rw [← ho.does]; exact e) hq (hC j x (by omega) hj q hq)
def alikeM_vc (d : ApiDet) (u : (List Int)) (v : (List Int)) (Q : ((List Int) × (List Int) × Bool × Int) → Prop) : Prop :=
 d.fNext.length ≤ 9223372036854775807 →
 d.fMark.length ≤ 9223372036854775807 →
 u.length ≤ 9223372036854775807 →
 v.length ≤ 9223372036854775807 →
 (IfP ((smallR d).2 != 0) (Q ([], [], false, (smallR d).2)) (∃ (Inv : Int → Prop) (mu : Int → Nat), Inv 0 ∧
 ∀ (x32 : Int) , Inv x32 → (IfP (decide (x32 < (([u, v] : (List (List Int))).length : Int))) (∃ e, idx ([u, v] : (List (List Int))) x32 = some e ∧
 IfP ((mayE d.fLetters e) != 0) (Q ([], [], false, (mayE d.fLetters e))) ((Inv (wr (x32 + 1)) ∧ mu (wr (x32 + 1)) < mu x32))) ((DetOk (smallR d).1 ∧ ((smallR d).1).fNext.length ≤ 5) ∧
 ∀ r : (List MonoidElement), (ElemQ (smallR d).1) r →
 (∃ (Inv_2 : Int → Prop) (mu_2 : Int → Nat), Inv_2 0 ∧
 ∀ (x47 : Int) , Inv_2 x47 → (IfP (decide (x47 < (r.length : Int))) (∃ e_2, idx r x47 = some e_2 ∧
 (DetOk (smallR d).1 ∧ InQ (smallR d).1 (smallR d).1.fStart ∧ wOk (smallR d).1 e_2.fWord) ∧
 (DetOk (smallR d).1 ∧ InQ (smallR d).1 (aftI (smallR d).1 (smallR d).1.fStart e_2.fWord) ∧ wOk (smallR d).1 u) ∧
 (DetOk (smallR d).1 ∧ InQ (smallR d).1 (aftI (smallR d).1 (smallR d).1.fStart e_2.fWord) ∧ wOk (smallR d).1 v) ∧
 (DetOk (smallR d).1 ∧ ((smallR d).1).fNext.length ≤ 5 ∧ InQ (smallR d).1 (aftI (smallR d).1 (aftI (smallR d).1 (smallR d).1.fStart e_2.fWord) u) ∧ InQ (smallR d).1 (aftI (smallR d).1 (aftI (smallR d).1 (smallR d).1.fStart e_2.fWord) v)) ∧
 IfP (apR (smallR d).1 (aftI (smallR d).1 (aftI (smallR d).1 (smallR d).1.fStart e_2.fWord) u) (aftI (smallR d).1 (aftI (smallR d).1 (smallR d).1.fStart e_2.fWord) v)).2.1 (Q (e_2.fWord, (apR (smallR d).1 (aftI (smallR d).1 (aftI (smallR d).1 (smallR d).1.fStart e_2.fWord) u) (aftI (smallR d).1 (aftI (smallR d).1 (smallR d).1.fStart e_2.fWord) v)).1, false, 0)) ((Inv_2 (wr (x47 + 1)) ∧ mu_2 (wr (x47 + 1)) < mu_2 x47))) (Q ([], [], true, 0))))))))
noncomputable abbrev qalikeM0 (d : ApiDet) := (ApiDet.cl (smallR d).1)
noncomputable abbrev qalikeM1 (u : (List Int)) (v : (List Int)) := (I (([u, v] : (List (List Int))).length : Int))
noncomputable abbrev qalikeM2 := (List (List Int))
theorem alikeM_walk (d : ApiDet) (u : (List Int)) (v : (List Int)) (Q : ((List Int) × (List Int) × Bool × Int) → Prop) (h : alikeM_vc d u v Q) : Ct 34 [.sv (.agg [I d.fLetters, I d.fStart, LS (lsT intT) d.fNext, LS intT d.fMark]), .sv (.one (LS intT u)), .sv (.one (LS intT v))] [] Q (fun (r : ((List Int) × (List Int) × Bool × Int)) => .tup [.one (LS intT r.1), .one (LS intT r.2.1), .one (B r.2.2.1), .one (I r.2.2.2)]) := by
 have ht := tab_ok
 refine Ct.body Try.func34 rfl rfl rfl rfl (fun c hn => ?_)
 unfold alikeM_vc at h
 refine En.lenA 0 2 (by rfl) (by rfl) (fun hl => ?_)
 replace h := h hl
 clear hl
 refine En.lenA 0 3 (by rfl) (by rfl) (fun hl => ?_)
 replace h := h hl
 clear hl
 refine En.lenL 1 (by rfl) (fun hl => ?_)
 replace h := h hl
 clear hl
 refine En.lenL 2 (by rfl) (fun hl => ?_)
 replace h := h hl
 clear hl
 refine En.seq ?_
 refine En.region ?_
 refine WL.run ht hn 5 ⟨[sl 1 (LS intT u), sl 2 (LS intT v), sl 3 (.ptr 0 0)], [.box (ApiDet.cl d) 73 false]⟩ (by kernel_rfl) ?_
 refine WL.nil ?_
 refine En.seq ?_
 refine En.region ?_
 refine WL.run ht hn 1 ⟨[sl 1 (LS intT u), sl 2 (LS intT v), sl 3 (.ptr 0 0), (21, .sv (.agg (ApiDet.cl d)))], [.box (ApiDet.cl d) 73 false]⟩ (by kernel_rfl) ?_
 refine WL.mt0 (K := []) (p := none) hn (by rfl) (mt_call (smallM_ct d) en86 (caps := []) [] rfl (by rfl) (by kernel_rfl) (by kernel_rfl) (by rfl) (by rfl) (by rfl)) (by rfl) (by rfl) (by rfl) ?_
 refine WL.run ht hn 6 ⟨[sl 1 (LS intT u), sl 2 (LS intT v), sl 3 (.ptr 0 0), sl 9 (I (smallR d).2), sl 10 (.ptr 1 0)], [.box (ApiDet.cl d) 73 false, .box (qalikeM0 d) 73 false]⟩ (by kernel_rfl) ?_
 refine WL.nil ?_
 refine En.seq ?_
 refine En.seq ?_
 refine En.region ?_
 refine WL.run ht hn 2 ⟨[sl 1 (LS intT u), sl 2 (LS intT v), sl 3 (.ptr 0 0), sl 9 (I (smallR d).2), sl 10 (.ptr 1 0), sl 26 (B ((smallR d).2 != 0))], [.box (ApiDet.cl d) 73 false, .box (qalikeM0 d) 73 false]⟩ (by kernel_rfl) ?_
 refine WL.nil ?_
 refine En.cond (b := ((smallR d).2 != 0)) (by kernel_rfl) (fun hb => ?_) (fun hb => ?_)
 replace h := h.1 hb
 refine En.seq ?_
 refine En.region ?_
 refine WL.run ht hn 5 ⟨[sl 6 (.v (.slice none 0 0)), sl 7 (.v (.slice none 0 0)), sl 8 (B false), sl 9 (I (smallR d).2)], [.gone, .gone]⟩ (by kernel_rfl) ?_
 refine WL.nil ?_
 refine En.ret ?_
 refine En.nilLS 6 intT (by rfl) ?_
 refine En.nilLS 7 intT (by rfl) ?_
 exact En.back ht ([], [], false, (smallR d).2) h (by kernel_rfl) rfl
 replace h := h.2 hb
 refine En.skip ?_
 refine En.seq ?_
 refine En.seq ?_
 refine En.region ?_
 refine WL.run ht hn 2 ⟨[sl 1 (LS intT u), sl 2 (LS intT v), sl 3 (.ptr 0 0), sl 10 (.ptr 1 0), sl 28 (LS intT u), sl 29 (LS intT v)], [.box (ApiDet.cl d) 73 false, .box (qalikeM0 d) 73 false]⟩ (by kernel_rfl) ?_
 refine WL.mt0 (K := []) (p := some (2, rowI 23 (lsT intT) ([u, v] : (qalikeM2)))) hn (by rfl) (mt_lit (T := (lsT intT)) ([u, v] : (qalikeM2)) (mt_bsl 2 (r := cellsOf (lsT intT) ([u, v] : (qalikeM2))) ht rfl (by rfl) (by rfl) (by rfl) (by kernel_rfl) (by rfl)) (fun _ h => by cases h) (fun _ => rfl) (fun _ => rfl) (by rfl) (Nat.le_of_ble_eq_true rfl)) (by rfl) (by rfl) (by rfl) ?_
 refine WL.run ht hn 2 ⟨[sl 1 (LS intT u), sl 2 (LS intT v), sl 3 (.ptr 0 0), sl 10 (.ptr 1 0), sl 30 (.own 2), sl 31 (qalikeM1 u v), sl 32 (I 0)], [.box (ApiDet.cl d) 73 false, .box (qalikeM0 d) 73 false, rowI 23 (lsT intT) ([u, v] : (qalikeM2))]⟩ (by kernel_rfl) ?_
 refine WL.nil ?_
 refine En.block ?_
 obtain ⟨Inv, mu, h0_2, hI_2⟩ := h
 refine En.loop (σ := Int) (fun zz => Inv zz) (fun zz => mu zz) (fun zz => ⟨[sl 1 (LS intT u), sl 2 (LS intT v), sl 3 (.ptr 0 0), sl 10 (.ptr 1 0), sl 30 (.own 2), sl 31 (qalikeM1 u v), sl 32 (I zz)], [.box (ApiDet.cl d) 73 false, .box (qalikeM0 d) 73 false, rowI 23 (lsT intT) ([u, v] : (qalikeM2))]⟩) 0 h0_2 (sub_ok (by kernel_rfl)) ?_
 intro x32 h
 replace h := hI_2 _ h
 show En c ⟨[sl 1 (LS intT u), sl 2 (LS intT v), sl 3 (.ptr 0 0), sl 10 (.ptr 1 0), sl 30 (.own 2), sl 31 (qalikeM1 u v), sl 32 (I x32)], [.box (ApiDet.cl d) 73 false, .box (qalikeM0 d) 73 false, rowI 23 (lsT intT) ([u, v] : (qalikeM2))]⟩ _
 refine En.seq ?_
 refine En.region ?_
 refine WL.run ht hn 1 ⟨[sl 1 (LS intT u), sl 2 (LS intT v), sl 3 (.ptr 0 0), sl 10 (.ptr 1 0), sl 30 (.own 2), sl 31 (qalikeM1 u v), sl 32 (I x32), sl 33 (B (decide (x32 < (([u, v] : (qalikeM2)).length : Int))))], [.box (ApiDet.cl d) 73 false, .box (qalikeM0 d) 73 false, rowI 23 (lsT intT) ([u, v] : (qalikeM2))]⟩ (by kernel_rfl) ?_
 refine WL.nil ?_
 refine En.seq ?_
 refine En.cond (b := (decide (x32 < (([u, v] : (qalikeM2)).length : Int)))) (by kernel_rfl) (fun hb => ?_) (fun hb => ?_)
 replace h := h.1 hb
 refine En.skip ?_
 refine En.seq ?_
 refine En.block ?_
 refine En.seq ?_
 refine En.region ?_
 obtain ⟨e, he, h⟩ := h
 refine WL.val hn (by rfl) (val_indexO (T := (lsT intT)) (l := ([u, v] : (qalikeM2))) (k := x32) ht rfl (by rfl) (by rfl) (by rfl) (by rfl) (by decide) (by rfl) (by rfl) (by rfl) he) (by rfl) ?_
 refine WL.val hn (by rfl) (val_loadO (T := (lsT intT)) (l := ([u, v] : (qalikeM2))) (y := e) ht rfl (by rfl) (by rfl) (by rfl) (by rfl) (by rfl) (idx_some he).2.2 (by rfl)) (by rfl) ?_
 refine WL.run ht hn 1 ⟨[sl 1 (LS intT u), sl 2 (LS intT v), sl 3 (.ptr 0 0), sl 10 (.ptr 1 0), sl 12 (LS intT e), sl 30 (.own 2), sl 31 (qalikeM1 u v), sl 32 (I x32)], [.box (ApiDet.cl d) 73 false, .box (qalikeM0 d) 73 false, rowI 23 (lsT intT) ([u, v] : (qalikeM2))]⟩ (by kernel_rfl) ?_
 refine WL.nil ?_
 refine En.seq ?_
 refine En.region ?_
 refine WL.run ht hn 3 ⟨[sl 1 (LS intT u), sl 2 (LS intT v), sl 3 (.ptr 0 0), sl 10 (.ptr 1 0), sl 30 (.own 2), sl 31 (qalikeM1 u v), sl 32 (I x32), sl 37 (I d.fLetters), sl 38 (LS intT e)], [.box (ApiDet.cl d) 73 false, .box (qalikeM0 d) 73 false, rowI 23 (lsT intT) ([u, v] : (qalikeM2))]⟩ (by kernel_rfl) ?_
 refine WL.mt0 (K := []) (p := none) hn (by rfl) (mt_call (mayW_ct d.fLetters e) en88 (caps := []) [] rfl (by rfl) (by kernel_rfl) (by kernel_rfl) (by rfl) (by rfl) (by rfl)) (by rfl) (by rfl) (by rfl) ?_
 refine WL.run ht hn 1 ⟨[sl 1 (LS intT u), sl 2 (LS intT v), sl 3 (.ptr 0 0), sl 10 (.ptr 1 0), sl 13 (I (mayE d.fLetters e)), sl 30 (.own 2), sl 31 (qalikeM1 u v), sl 32 (I x32)], [.box (ApiDet.cl d) 73 false, .box (qalikeM0 d) 73 false, rowI 23 (lsT intT) ([u, v] : (qalikeM2))]⟩ (by kernel_rfl) ?_
 refine WL.nil ?_
 refine En.seq ?_
 refine En.region ?_
 refine WL.run ht hn 2 ⟨[sl 1 (LS intT u), sl 2 (LS intT v), sl 3 (.ptr 0 0), sl 10 (.ptr 1 0), sl 13 (I (mayE d.fLetters e)), sl 30 (.own 2), sl 31 (qalikeM1 u v), sl 32 (I x32), sl 41 (B ((mayE d.fLetters e) != 0))], [.box (ApiDet.cl d) 73 false, .box (qalikeM0 d) 73 false, rowI 23 (lsT intT) ([u, v] : (qalikeM2))]⟩ (by kernel_rfl) ?_
 refine WL.nil ?_
 refine En.cond (b := ((mayE d.fLetters e) != 0)) (by kernel_rfl) (fun hb => ?_) (fun hb => ?_)
 replace h := h.1 hb
 refine En.seq ?_
 refine En.region ?_
 refine WL.run ht hn 5 ⟨[sl 6 (.v (.slice none 0 0)), sl 7 (.v (.slice none 0 0)), sl 8 (B false), sl 9 (I (mayE d.fLetters e))], [.gone, .gone, .gone]⟩ (by kernel_rfl) ?_
 refine WL.nil ?_
 refine En.ret ?_
 refine En.nilLS 6 intT (by rfl) ?_
 refine En.nilLS 7 intT (by rfl) ?_
 exact En.back ht ([], [], false, (mayE d.fLetters e)) h (by kernel_rfl) rfl
 replace h := h.2 hb
 refine En.skip ?_
 refine En.region ?_
 refine WL.run ht hn 2 ⟨[sl 1 (LS intT u), sl 2 (LS intT v), sl 3 (.ptr 0 0), sl 10 (.ptr 1 0), sl 30 (.own 2), sl 31 (qalikeM1 u v), sl 32 (I (wr (x32 + 1)))], [.box (ApiDet.cl d) 73 false, .box (qalikeM0 d) 73 false, rowI 23 (lsT intT) ([u, v] : (qalikeM2))]⟩ (by kernel_rfl) ?_
 refine WL.nil ?_
 exact En.at (I := fun zz => Inv zz ∧ mu zz < mu x32) (T := fun zz => ⟨[sl 1 (LS intT u), sl 2 (LS intT v), sl 3 (.ptr 0 0), sl 10 (.ptr 1 0), sl 30 (.own 2), sl 31 (qalikeM1 u v), sl 32 (I zz)], [.box (ApiDet.cl d) 73 false, .box (qalikeM0 d) 73 false, rowI 23 (lsT intT) ([u, v] : (qalikeM2))]⟩) (wr (x32 + 1)) h (by kernel_rfl)
 replace h := h.2 hb
 refine En.exit rfl ?_
 refine En.seq ?_
 refine En.seq ?_
 refine En.region ?_
 refine WL.run ht hn 1 ⟨[sl 1 (LS intT u), sl 2 (LS intT v), sl 10 (.ptr 1 0), (44, .sv (.agg (qalikeM0 d)))], [.gone, .box (qalikeM0 d) 73 false, .gone]⟩ (by kernel_rfl) ?_
 have hp := h.1
 replace h := h.2
 refine WL.mtQ (Q := ElemQ (smallR d).1) (x := fun (r : (List MonoidElement)) => .sv (.one (LS MonoidElement.ty r))) (p := fun _ => none) hn (by rfl) (mtq_call (elems_ct (smallR d).1 hp) en87 (caps := []) [] rfl (by rfl) (by kernel_rfl) (by kernel_rfl) (by rfl) (fun _ => rfl) (by rfl)) (fun r hr_2 => ⟨by rfl, _, by rfl, ?_⟩)
 replace h := h r hr_2
 refine WL.run ht hn 2 ⟨[sl 1 (LS intT u), sl 2 (LS intT v), sl 10 (.ptr 1 0), sl 45 (LS MonoidElement.ty r), sl 46 (I (r.length : Int)), sl 47 (I 0)], [.gone, .box (qalikeM0 d) 73 false, .gone]⟩ (by kernel_rfl) ?_
 refine WL.nil ?_
 refine En.block ?_
 obtain ⟨Inv_2, mu_2, h0, hI⟩ := h
 refine En.loop (σ := Int) (fun zz => Inv_2 zz) (fun zz => mu_2 zz) (fun zz => ⟨[sl 1 (LS intT u), sl 2 (LS intT v), sl 10 (.ptr 1 0), sl 45 (LS MonoidElement.ty r), sl 46 (I (r.length : Int)), sl 47 (I zz)], [.gone, .box (qalikeM0 d) 73 false, .gone]⟩) 0 h0 (sub_ok (by kernel_rfl)) ?_
 intro x47 h
 replace h := hI _ h
 show En c ⟨[sl 1 (LS intT u), sl 2 (LS intT v), sl 10 (.ptr 1 0), sl 45 (LS MonoidElement.ty r), sl 46 (I (r.length : Int)), sl 47 (I x47)], [.gone, .box (qalikeM0 d) 73 false, .gone]⟩ _
 refine En.seq ?_
 refine En.region ?_
 refine WL.run ht hn 1 ⟨[sl 1 (LS intT u), sl 2 (LS intT v), sl 10 (.ptr 1 0), sl 45 (LS MonoidElement.ty r), sl 46 (I (r.length : Int)), sl 47 (I x47), sl 48 (B (decide (x47 < (r.length : Int))))], [.gone, .box (qalikeM0 d) 73 false, .gone]⟩ (by kernel_rfl) ?_
 refine WL.nil ?_
 refine En.seq ?_
 refine En.cond (b := (decide (x47 < (r.length : Int)))) (by kernel_rfl) (fun hb => ?_) (fun hb => ?_)
 replace h := h.1 hb
 refine En.skip ?_
 refine En.seq ?_
 refine En.block ?_
 refine En.seq ?_
 refine En.region ?_
 obtain ⟨e_2, he_2, h⟩ := h
 refine WL.val hn (by rfl) (val_index (T := MonoidElement.ty) (l := r) (i := x47) ht rfl (by rfl) (by rfl) (by rfl) (by rfl) (by rfl) (by rfl) he_2) (by rfl) ?_
 refine WL.val hn (by rfl) (val_load (s := .agg (MonoidElement.cl e_2)) ht rfl (by rfl) (by rfl) (by rfl) (by rfl) (by rfl)) (by rfl) ?_
 refine WL.run ht hn 2 ⟨[sl 1 (LS intT u), sl 2 (LS intT v), sl 10 (.ptr 1 0), sl 15 (.ptr 3 0), sl 45 (LS MonoidElement.ty r), sl 46 (I (r.length : Int)), sl 47 (I x47)], [.gone, .box (qalikeM0 d) 73 false, .gone, .box (MonoidElement.cl e_2) 179 false]⟩ (by kernel_rfl) ?_
 refine WL.nil ?_
 refine En.seq ?_
 refine En.region ?_
 refine WL.run ht hn 5 ⟨[sl 1 (LS intT u), sl 2 (LS intT v), sl 10 (.ptr 1 0), sl 15 (.ptr 3 0), sl 45 (LS MonoidElement.ty r), sl 46 (I (r.length : Int)), sl 47 (I x47), (51, .sv (.agg (qalikeM0 d))), sl 53 (I (smallR d).1.fStart), sl 55 (LS intT e_2.fWord)], [.gone, .box (qalikeM0 d) 73 false, .gone, .box (MonoidElement.cl e_2) 179 false]⟩ (by kernel_rfl) ?_
 have hp := h.1
 replace h := h.2
 refine WL.mt0 (K := []) (p := none) hn (by rfl) (mt_call (afterI_ct (smallR d).1 (smallR d).1.fStart e_2.fWord hp) en89 (caps := []) [] rfl (by rfl) (by kernel_rfl) (by kernel_rfl) (by rfl) (by rfl) (by rfl)) (by rfl) (by rfl) (by rfl) ?_
 refine WL.run ht hn 1 ⟨[sl 1 (LS intT u), sl 2 (LS intT v), sl 10 (.ptr 1 0), sl 15 (.ptr 3 0), sl 16 (I (aftI (smallR d).1 (smallR d).1.fStart e_2.fWord)), sl 45 (LS MonoidElement.ty r), sl 46 (I (r.length : Int)), sl 47 (I x47)], [.gone, .box (qalikeM0 d) 73 false, .gone, .box (MonoidElement.cl e_2) 179 false]⟩ (by kernel_rfl) ?_
 refine WL.nil ?_
 refine En.seq ?_
 have hp_2 := h.1
 replace h := h.2
 have hp_3 := h.1
 replace h := h.2
 have hp_4 := h.1
 replace h := h.2
 refine En.regionA ⟨[sl 1 (LS intT u), sl 2 (LS intT v), sl 10 (.ptr 1 0), sl 15 (.ptr 3 0), sl 16 (I (aftI (smallR d).1 (smallR d).1.fStart e_2.fWord)), sl 45 (LS MonoidElement.ty r), sl 46 (I (r.length : Int)), sl 47 (I x47)], [.sv (.agg (qalikeM0 d)), .sv (.agg (qalikeM0 d)), .sv (.one (I (aftI (smallR d).1 (smallR d).1.fStart e_2.fWord))), .sv (.one (LS intT u)), .sv (.one (I (aftI (smallR d).1 (aftI (smallR d).1 (smallR d).1.fStart e_2.fWord) u))), .sv (.agg (qalikeM0 d)), .sv (.one (I (aftI (smallR d).1 (smallR d).1.fStart e_2.fWord))), .sv (.one (LS intT v)), .sv (.one (I (aftI (smallR d).1 (aftI (smallR d).1 (smallR d).1.fStart e_2.fWord) v))), .tup [.one (LS intT (apR (smallR d).1 (aftI (smallR d).1 (aftI (smallR d).1 (smallR d).1.fStart e_2.fWord) u) (aftI (smallR d).1 (aftI (smallR d).1 (smallR d).1.fStart e_2.fWord) v)).1), .one (B (apR (smallR d).1 (aftI (smallR d).1 (aftI (smallR d).1 (smallR d).1.fStart e_2.fWord) u) (aftI (smallR d).1 (aftI (smallR d).1 (smallR d).1.fStart e_2.fWord) v)).2.1), .one (I (apR (smallR d).1 (aftI (smallR d).1 (aftI (smallR d).1 (smallR d).1.fStart e_2.fWord) u) (aftI (smallR d).1 (aftI (smallR d).1 (smallR d).1.fStart e_2.fWord) v)).2.2)], .tup [.one (LS intT (apR (smallR d).1 (aftI (smallR d).1 (aftI (smallR d).1 (smallR d).1.fStart e_2.fWord) u) (aftI (smallR d).1 (aftI (smallR d).1 (smallR d).1.fStart e_2.fWord) v)).1), .one (B (apR (smallR d).1 (aftI (smallR d).1 (aftI (smallR d).1 (smallR d).1.fStart e_2.fWord) u) (aftI (smallR d).1 (aftI (smallR d).1 (smallR d).1.fStart e_2.fWord) v)).2.1), .one (I (apR (smallR d).1 (aftI (smallR d).1 (aftI (smallR d).1 (smallR d).1.fStart e_2.fWord) u) (aftI (smallR d).1 (aftI (smallR d).1 (smallR d).1.fStart e_2.fWord) v)).2.2)], .sv (.one (LS intT (apR (smallR d).1 (aftI (smallR d).1 (aftI (smallR d).1 (smallR d).1.fStart e_2.fWord) u) (aftI (smallR d).1 (aftI (smallR d).1 (smallR d).1.fStart e_2.fWord) v)).1)), .sv (.one (B (apR (smallR d).1 (aftI (smallR d).1 (aftI (smallR d).1 (smallR d).1.fStart e_2.fWord) u) (aftI (smallR d).1 (aftI (smallR d).1 (smallR d).1.fStart e_2.fWord) v)).2.1)), .sv (.one (I (apR (smallR d).1 (aftI (smallR d).1 (aftI (smallR d).1 (smallR d).1.fStart e_2.fWord) u) (aftI (smallR d).1 (aftI (smallR d).1 (smallR d).1.fStart e_2.fWord) v)).2.2)), .sv (.one (LS intT (apR (smallR d).1 (aftI (smallR d).1 (aftI (smallR d).1 (smallR d).1.fStart e_2.fWord) u) (aftI (smallR d).1 (aftI (smallR d).1 (smallR d).1.fStart e_2.fWord) v)).1)), .sv (.one (B (apR (smallR d).1 (aftI (smallR d).1 (aftI (smallR d).1 (smallR d).1.fStart e_2.fWord) u) (aftI (smallR d).1 (aftI (smallR d).1 (smallR d).1.fStart e_2.fWord) v)).2.1)), .sv (.one (I (apR (smallR d).1 (aftI (smallR d).1 (aftI (smallR d).1 (smallR d).1.fStart e_2.fWord) u) (aftI (smallR d).1 (aftI (smallR d).1 (smallR d).1.fStart e_2.fWord) v)).2.2))], [⟨.gone, none, none, none⟩, ⟨.box (qalikeM0 d) 73 false, none, none, none⟩, ⟨.gone, none, none, none⟩, ⟨.box (MonoidElement.cl e_2) 179 false, none, none, none⟩]⟩ ⟨[sl 1 (LS intT u), sl 2 (LS intT v), sl 10 (.ptr 1 0), sl 15 (.ptr 3 0), sl 17 (LS intT (apR (smallR d).1 (aftI (smallR d).1 (aftI (smallR d).1 (smallR d).1.fStart e_2.fWord) u) (aftI (smallR d).1 (aftI (smallR d).1 (smallR d).1.fStart e_2.fWord) v)).1), sl 18 (B (apR (smallR d).1 (aftI (smallR d).1 (aftI (smallR d).1 (smallR d).1.fStart e_2.fWord) u) (aftI (smallR d).1 (aftI (smallR d).1 (smallR d).1.fStart e_2.fWord) v)).2.1), sl 45 (LS MonoidElement.ty r), sl 46 (I (r.length : Int)), sl 47 (I x47)], [.gone, .box (qalikeM0 d) 73 false, .gone, .box (MonoidElement.cl e_2) 179 false]⟩ (by kernel_rfl) hn (by kernel_rfl) (by rfl) (by kernel_rfl) ?_ (by kernel_rfl) ?_
 exact ⟨.mt ⟨[sl 10 (.ptr 1 0)], [.gone, .box (qalikeM0 d) 73 false]⟩ [] none (by kernel_rfl) (by rfl) (mt_ev ht (by kernel_rfl)) rfl rfl rfl rfl,
 .mt ⟨[sl 10 (.ptr 1 0)], [.gone, .box (qalikeM0 d) 73 false]⟩ [] none (by kernel_rfl) (by rfl) (mt_ev ht (by kernel_rfl)) rfl rfl rfl rfl,
 .mt ⟨[sl 16 (I (aftI (smallR d).1 (smallR d).1.fStart e_2.fWord))], []⟩ [] none (by kernel_rfl) (by rfl) (mt_ev ht (by kernel_rfl)) rfl rfl rfl rfl,
 .mt ⟨[sl 1 (LS intT u)], []⟩ [] none (by kernel_rfl) (by rfl) (mt_ev ht (by kernel_rfl)) rfl rfl rfl rfl,
 .mt ⟨[(59, .sv (.agg (qalikeM0 d))), sl 60 (I (aftI (smallR d).1 (smallR d).1.fStart e_2.fWord)), sl 61 (LS intT u)], []⟩ [] none (by kernel_rfl) (by rfl) (mt_call (afterI_ct (smallR d).1 (aftI (smallR d).1 (smallR d).1.fStart e_2.fWord) u hp_2) en89 (caps := []) [] rfl (by rfl) (by kernel_rfl) (by kernel_rfl) (by rfl) (by rfl) (by rfl)) rfl rfl rfl rfl,
 .mt ⟨[sl 10 (.ptr 1 0)], [.gone, .box (qalikeM0 d) 73 false]⟩ [] none (by kernel_rfl) (by rfl) (mt_ev ht (by kernel_rfl)) rfl rfl rfl rfl,
 .mt ⟨[sl 16 (I (aftI (smallR d).1 (smallR d).1.fStart e_2.fWord))], []⟩ [] none (by kernel_rfl) (by rfl) (mt_ev ht (by kernel_rfl)) rfl rfl rfl rfl,
 .mt ⟨[sl 2 (LS intT v)], []⟩ [] none (by kernel_rfl) (by rfl) (mt_ev ht (by kernel_rfl)) rfl rfl rfl rfl,
 .mt ⟨[(63, .sv (.agg (qalikeM0 d))), sl 64 (I (aftI (smallR d).1 (smallR d).1.fStart e_2.fWord)), sl 65 (LS intT v)], []⟩ [] none (by kernel_rfl) (by rfl) (mt_call (afterI_ct (smallR d).1 (aftI (smallR d).1 (smallR d).1.fStart e_2.fWord) v hp_3) en89 (caps := []) [] rfl (by rfl) (by kernel_rfl) (by kernel_rfl) (by rfl) (by rfl) (by rfl)) rfl rfl rfl rfl,
 .mt ⟨[(58, .sv (.agg (qalikeM0 d))), sl 62 (I (aftI (smallR d).1 (aftI (smallR d).1 (smallR d).1.fStart e_2.fWord) u)), sl 66 (I (aftI (smallR d).1 (aftI (smallR d).1 (smallR d).1.fStart e_2.fWord) v))], []⟩ [] none (by kernel_rfl) (by rfl) (mt_call (apart_ct (smallR d).1 (aftI (smallR d).1 (aftI (smallR d).1 (smallR d).1.fStart e_2.fWord) u) (aftI (smallR d).1 (aftI (smallR d).1 (smallR d).1.fStart e_2.fWord) v) hp_4) en90 (caps := []) [] rfl (by rfl) (by kernel_rfl) (by kernel_rfl) (by rfl) (by rfl) (by rfl)) rfl rfl rfl rfl,
 .mt ⟨[(67, .tup [.one (LS intT (apR (smallR d).1 (aftI (smallR d).1 (aftI (smallR d).1 (smallR d).1.fStart e_2.fWord) u) (aftI (smallR d).1 (aftI (smallR d).1 (smallR d).1.fStart e_2.fWord) v)).1), .one (B (apR (smallR d).1 (aftI (smallR d).1 (aftI (smallR d).1 (smallR d).1.fStart e_2.fWord) u) (aftI (smallR d).1 (aftI (smallR d).1 (smallR d).1.fStart e_2.fWord) v)).2.1), .one (I (apR (smallR d).1 (aftI (smallR d).1 (aftI (smallR d).1 (smallR d).1.fStart e_2.fWord) u) (aftI (smallR d).1 (aftI (smallR d).1 (smallR d).1.fStart e_2.fWord) v)).2.2)])], []⟩ [] none (by kernel_rfl) (by rfl) (mt_ev ht (by kernel_rfl)) rfl rfl rfl rfl,
 .mt ⟨[(57, .tup [.one (LS intT (apR (smallR d).1 (aftI (smallR d).1 (aftI (smallR d).1 (smallR d).1.fStart e_2.fWord) u) (aftI (smallR d).1 (aftI (smallR d).1 (smallR d).1.fStart e_2.fWord) v)).1), .one (B (apR (smallR d).1 (aftI (smallR d).1 (aftI (smallR d).1 (smallR d).1.fStart e_2.fWord) u) (aftI (smallR d).1 (aftI (smallR d).1 (smallR d).1.fStart e_2.fWord) v)).2.1), .one (I (apR (smallR d).1 (aftI (smallR d).1 (aftI (smallR d).1 (smallR d).1.fStart e_2.fWord) u) (aftI (smallR d).1 (aftI (smallR d).1 (smallR d).1.fStart e_2.fWord) v)).2.2)])], []⟩ [] none (by kernel_rfl) (by rfl) (mt_ev ht (by kernel_rfl)) rfl rfl rfl rfl,
 .mt ⟨[(57, .tup [.one (LS intT (apR (smallR d).1 (aftI (smallR d).1 (aftI (smallR d).1 (smallR d).1.fStart e_2.fWord) u) (aftI (smallR d).1 (aftI (smallR d).1 (smallR d).1.fStart e_2.fWord) v)).1), .one (B (apR (smallR d).1 (aftI (smallR d).1 (aftI (smallR d).1 (smallR d).1.fStart e_2.fWord) u) (aftI (smallR d).1 (aftI (smallR d).1 (smallR d).1.fStart e_2.fWord) v)).2.1), .one (I (apR (smallR d).1 (aftI (smallR d).1 (aftI (smallR d).1 (smallR d).1.fStart e_2.fWord) u) (aftI (smallR d).1 (aftI (smallR d).1 (smallR d).1.fStart e_2.fWord) v)).2.2)])], []⟩ [] none (by kernel_rfl) (by rfl) (mt_ev ht (by kernel_rfl)) rfl rfl rfl rfl,
 .mt ⟨[(57, .tup [.one (LS intT (apR (smallR d).1 (aftI (smallR d).1 (aftI (smallR d).1 (smallR d).1.fStart e_2.fWord) u) (aftI (smallR d).1 (aftI (smallR d).1 (smallR d).1.fStart e_2.fWord) v)).1), .one (B (apR (smallR d).1 (aftI (smallR d).1 (aftI (smallR d).1 (smallR d).1.fStart e_2.fWord) u) (aftI (smallR d).1 (aftI (smallR d).1 (smallR d).1.fStart e_2.fWord) v)).2.1), .one (I (apR (smallR d).1 (aftI (smallR d).1 (aftI (smallR d).1 (smallR d).1.fStart e_2.fWord) u) (aftI (smallR d).1 (aftI (smallR d).1 (smallR d).1.fStart e_2.fWord) v)).2.2)])], []⟩ [] none (by kernel_rfl) (by rfl) (mt_ev ht (by kernel_rfl)) rfl rfl rfl rfl,
 .mt ⟨[sl 68 (LS intT (apR (smallR d).1 (aftI (smallR d).1 (aftI (smallR d).1 (smallR d).1.fStart e_2.fWord) u) (aftI (smallR d).1 (aftI (smallR d).1 (smallR d).1.fStart e_2.fWord) v)).1)], []⟩ [] none (by kernel_rfl) (by rfl) (mt_ev ht (by kernel_rfl)) rfl rfl rfl rfl,
 .mt ⟨[sl 69 (B (apR (smallR d).1 (aftI (smallR d).1 (aftI (smallR d).1 (smallR d).1.fStart e_2.fWord) u) (aftI (smallR d).1 (aftI (smallR d).1 (smallR d).1.fStart e_2.fWord) v)).2.1)], []⟩ [] none (by kernel_rfl) (by rfl) (mt_ev ht (by kernel_rfl)) rfl rfl rfl rfl,
 .mt ⟨[sl 70 (I (apR (smallR d).1 (aftI (smallR d).1 (aftI (smallR d).1 (smallR d).1.fStart e_2.fWord) u) (aftI (smallR d).1 (aftI (smallR d).1 (smallR d).1.fStart e_2.fWord) v)).2.2)], []⟩ [] none (by kernel_rfl) (by rfl) (mt_ev ht (by kernel_rfl)) rfl rfl rfl rfl,
 trivial⟩
 refine En.seq ?_
 refine En.region ?_
 refine WL.run ht hn 1 ⟨[sl 1 (LS intT u), sl 2 (LS intT v), sl 10 (.ptr 1 0), sl 15 (.ptr 3 0), sl 17 (LS intT (apR (smallR d).1 (aftI (smallR d).1 (aftI (smallR d).1 (smallR d).1.fStart e_2.fWord) u) (aftI (smallR d).1 (aftI (smallR d).1 (smallR d).1.fStart e_2.fWord) v)).1), sl 45 (LS MonoidElement.ty r), sl 46 (I (r.length : Int)), sl 47 (I x47), sl 71 (B (apR (smallR d).1 (aftI (smallR d).1 (aftI (smallR d).1 (smallR d).1.fStart e_2.fWord) u) (aftI (smallR d).1 (aftI (smallR d).1 (smallR d).1.fStart e_2.fWord) v)).2.1)], [.gone, .box (qalikeM0 d) 73 false, .gone, .box (MonoidElement.cl e_2) 179 false]⟩ (by kernel_rfl) ?_
 refine WL.nil ?_
 refine En.cond (b := (apR (smallR d).1 (aftI (smallR d).1 (aftI (smallR d).1 (smallR d).1.fStart e_2.fWord) u) (aftI (smallR d).1 (aftI (smallR d).1 (smallR d).1.fStart e_2.fWord) v)).2.1) (by kernel_rfl) (fun hb => ?_) (fun hb => ?_)
 replace h := h.1 hb
 refine En.seq ?_
 refine En.region ?_
 refine WL.run ht hn 7 ⟨[sl 6 (LS intT e_2.fWord), sl 7 (LS intT (apR (smallR d).1 (aftI (smallR d).1 (aftI (smallR d).1 (smallR d).1.fStart e_2.fWord) u) (aftI (smallR d).1 (aftI (smallR d).1 (smallR d).1.fStart e_2.fWord) v)).1), sl 8 (B false), sl 9 (I 0)], [.gone, .gone, .gone, .gone]⟩ (by kernel_rfl) ?_
 refine WL.nil ?_
 refine En.ret ?_
 exact En.back ht (e_2.fWord, (apR (smallR d).1 (aftI (smallR d).1 (aftI (smallR d).1 (smallR d).1.fStart e_2.fWord) u) (aftI (smallR d).1 (aftI (smallR d).1 (smallR d).1.fStart e_2.fWord) v)).1, false, 0) h (by kernel_rfl) rfl
 replace h := h.2 hb
 refine En.skip ?_
 refine En.region ?_
 refine WL.run ht hn 2 ⟨[sl 1 (LS intT u), sl 2 (LS intT v), sl 10 (.ptr 1 0), sl 45 (LS MonoidElement.ty r), sl 46 (I (r.length : Int)), sl 47 (I (wr (x47 + 1)))], [.gone, .box (qalikeM0 d) 73 false, .gone, .gone]⟩ (by kernel_rfl) ?_
 refine WL.nil ?_
 exact En.at (I := fun zz => Inv_2 zz ∧ mu_2 zz < mu_2 x47) (T := fun zz => ⟨[sl 1 (LS intT u), sl 2 (LS intT v), sl 10 (.ptr 1 0), sl 45 (LS MonoidElement.ty r), sl 46 (I (r.length : Int)), sl 47 (I zz)], [.gone, .box (qalikeM0 d) 73 false, .gone]⟩) (wr (x47 + 1)) h (by kernel_rfl)
 replace h := h.2 hb
 refine En.exit rfl ?_
 refine En.seq ?_
 refine En.region ?_
 refine WL.run ht hn 4 ⟨[sl 6 (.v (.slice none 0 0)), sl 7 (.v (.slice none 0 0)), sl 8 (B true), sl 9 (I 0)], [.gone, .gone, .gone]⟩ (by kernel_rfl) ?_
 refine WL.nil ?_
 refine En.ret ?_
 refine En.nilLS 6 intT (by rfl) ?_
 refine En.nilLS 7 intT (by rfl) ?_
 exact En.back ht ([], [], true, 0) h (by kernel_rfl) rfl
theorem en34 : ∀ args w, (callFunc 34 args).run Try.prog w = .ok (.enter 34 args) w := enters_of Try.func34 (by kernel_rfl) rfl
theorem alikeM_ct (d : ApiDet) (u : (List Int)) (v : (List Int))  : Ct 34 [.sv (.agg [I d.fLetters, I d.fStart, LS (lsT intT) d.fNext, LS intT d.fMark]), .sv (.one (LS intT u)), .sv (.one (LS intT v))] [] (AlikeQ d u v) (fun (r : ((List Int) × (List Int) × Bool × Int)) => .tup [.one (LS intT r.1), .one (LS intT r.2.1), .one (B r.2.2.1), .one (I r.2.2.2)]) := by
 refine alikeM_walk d u v (AlikeQ d u v) ?_
 unfold alikeM_vc
 intro _ _ _ _
 refine ⟨fun hb => ?_, fun hb => ?_⟩
 ·have hb := bne_iff_ne.1 hb
  exact ⟨fun _ => hb, fun h => absurd h hb⟩
 rw [bne_eq_false_iff_eq] at hb
 obtain ⟨hM, hL⟩ := smallR_ok hb
 generalize hm : (smallR d).1 = m at *
 have hdet := hM.det
 have h5 := hM.five
 refine ⟨fun i => ∃ k : Nat, i = k ∧ k ≤ 2 ∧ ∀ j x, j < k → ([u, v] : List (List Int))[j]? = some x → mayE d.fLetters x = 0, fun i => 2 - i.toNat, ⟨0, rfl, Nat.zero_le _, fun j x hj => by omega⟩, ?_⟩
 rintro _ ⟨k, rfl, hk, hC⟩
 refine ⟨fun hb1 => ?_, fun hb1 => ?_⟩
 ·have hkl : k < ([u, v] : List (List Int)).length := dlt hb1
  refine ⟨_, idx_at hkl, fun hb2 => ?_, fun hb2 => ?_⟩
  ·have hb2 := bne_iff_ne.1 hb2
   refine ⟨fun _ => hb2, fun _ hu hv => absurd ?_ hb2⟩
   have hk2 : k = 0 ∨ k = 1 := by simp only [List.length_cons, List.length_nil] at hkl; omega
   rcases hk2 with rfl | rfl
   ·exact hu
   ·exact hv
  ·rw [bne_eq_false_iff_eq] at hb2
   have hw : wr ((k : Int) + 1) = ((k + 1 : Nat) : Int) := wr_nat (by omega)
   refine ⟨⟨k + 1, hw, hkl, fun j x hj hx => ?_⟩, ?_⟩
   ·by_cases hjk : j < k
    ·exact hC j x hjk hx
    ·have : j = k := by omega
     subst this
     rw [List.getElem?_eq_getElem hkl] at hx
     cases hx
     exact hb2
   ·rw [hw]
    show 2 - (k + 1) < 2 - k
    simp only [List.length_cons, List.length_nil] at hkl
    omega
 have hk2 : k = 2 := by
  have h2 : ([u, v] : List (List Int)).length ≤ k := dge hb1
  simp only [List.length_cons, List.length_nil] at h2
  omega
 subst hk2
 have hu : mayE d.fLetters u = 0 := hC 0 u (by decide) rfl
 have hv : mayE d.fLetters v = 0 := hC 1 v (by decide) rfl
 have wu : wOk m u := fun a ha => by
  have := (mayE_ok hu).2 a ha
  rw [← hL] at this
  exact this
 have wv : wOk m v := fun a ha => by
  have := (mayE_ok hv).2 a ha
  rw [← hL] at this
  exact this
 refine ⟨⟨hdet, h5⟩, fun r hr => ?_⟩
 obtain ⟨hr1, hr2, hr3⟩ := hr
 refine ⟨fun i => ∃ k : Nat, i = k ∧ k ≤ r.length ∧ ∀ j x, j < k → r[j]? = some x → aftI m (aftI m m.fStart x.fWord) u = aftI m (aftI m m.fStart x.fWord) v, fun i => r.length - i.toNat, ⟨0, rfl, Nat.zero_le _, fun j x hj => by omega⟩, ?_⟩
 rintro _ ⟨k, rfl, hk, hE⟩
 refine ⟨fun hb2 => ?_, fun hb2 => ?_⟩
 ·have hkl := dlt hb2
  obtain ⟨x, hx⟩ : ∃ x, x = r[k] := ⟨_, rfl⟩
  have hxr : x ∈ r := by rw [hx]; exact List.getElem_mem hkl
  obtain ⟨ho, how⟩ := hr1 x hxr
  have hq := aftI_in hdet _ _ ho.word hdet.start
  have hqu := aftI_in hdet _ _ wu hq
  have hqv := aftI_in hdet _ _ wv hq
  refine ⟨x, by rw [idx_at hkl, ← hx], ⟨hdet, hdet.start, ho.word⟩, ⟨hdet, hq, wu⟩, ⟨hdet, hq, wv⟩, ⟨hdet, h5, hqu, hqv⟩, fun hb3 => ?_, fun hb3 => ?_⟩
  ·have hne := (apR_iff hM hqu hqv).1 hb3
   refine ⟨fun h => ?_, fun _ _ _ => ⟨rfl, ⟨fun h => (by cases h), fun h => ?_⟩⟩⟩
   ·rcases h with h | h | h
    ·exact absurd hb h
    ·exact absurd hu h
    ·exact absurd hv h
   ·rw [hm] at h
    exact absurd (h _ hq) hne
  ·have hw : wr ((k : Int) + 1) = ((k + 1 : Nat) : Int) := wr_nat (by omega)
   refine ⟨⟨k + 1, hw, hkl, fun j y hj hy => ?_⟩, ?_⟩
   ·by_cases hjk : j < k
    ·exact hE j y hjk hy
    ·have : j = k := by omega
     subst this
     rw [List.getElem?_eq_getElem hkl, ← hx] at hy
     cases hy
     refine Classical.byContradiction fun hne => ?_
     rw [(apR_iff hM hqu hqv).2 hne] at hb3
     cases hb3
   ·rw [hw]
    show r.length - (k + 1) < r.length - k
    omega
 ·have hke : r.length ≤ k := dge hb2
  refine ⟨fun h => ?_, fun _ _ _ => ⟨rfl, ⟨fun _ q hq => ?_, fun _ => rfl⟩⟩⟩
  ·rcases h with h | h | h
   ·exact absurd hb h
   ·exact absurd hu h
   ·exact absurd hv h
  ·rw [hm] at hq ⊢
   obtain ⟨w, hw, rfl⟩ := hM.reach q hq
   obtain ⟨x, hx, e⟩ := hr3 w hw
   obtain ⟨ho, _⟩ := hr1 x hx
   obtain ⟨j, hj⟩ := List.getElem?_of_mem hx
   have hjl := (List.getElem?_eq_some_iff.1 hj).1
   have := hE j x (by omega) hj
   rw [aft_does hdet ho.word hw (by rw [← ho.does]; exact e) hdet.start] at this
   exact this
end Go.Proofs.Ytapnmjeadbhffaa


namespace Go.Proofs.Ytapnmjeadbhffaa
open Go.RowKit Go.MapKept
set_option linter.unusedSimpArgs false
set_option linter.unusedVariables false
set_option maxRecDepth 100000
section
variable {c : Cfg} {S S1 : St} {tab : Tab}
end
end Go.Proofs.Ytapnmjeadbhffaa


namespace Go.Proofs.Ytapnmjeadbhffaa
open Go.RowKit Go.MapKept
set_option linter.unusedSimpArgs false
set_option linter.unusedVariables false
set_option maxRecDepth 100000
abbrev gridI {α : Type} (tyo ty : Nat) (T : Ty α) (L : List (List α)) : Item := .grid tyo ty T.s (L.map fun l => some (rowR T l, l.length)) none
section
variable {c : Cfg} {S S1 : St} {a : Act} {w : World} {g : Gh} {hs : Nat → Value} {tab : Tab} {n : Nat} {o : Oper} {ops : Array Oper} {rest : List Oper} {N : Po}
theorem run_indexOwn {t el s e : Nat} {ti te : TI} {v iv : Value} {ik : IntKind} {k : Int} {m : Nat} {cs : List Value} (ht : tab.ok) (h1 : tab t = some ti) (h2 : ti.sl = some el) (h3 : tab el = some te) (h4 : te.size = s) (h5 : 0 < s)
  (hv : w.ownsAt e s v m cs) (hi : iv = .int ik k) (hk : 0 ≤ k ∧ k < (m : Int)) : ∃ b of cap, v = .slice (some ⟨b, of, none⟩) m cap ∧ (Instr.indexAt t v iv).run Try.prog w = .ok (.pointer (some ⟨b, of + k.toNat * s, none⟩)) w := by
 have hu := slT_some ((ht t ti h1).sl.trans h2)
 obtain ⟨hl0, r1⟩ := hv
 subst hi
 rcases r1 with ⟨e1, e2⟩ | ⟨gb, of, cap, cur, e1, _⟩
 ·omega
 ·refine ⟨gb, of, cap, e1, ?_⟩
  simp only [Instr.indexAt, asIntOf, e1, Sem.run_bind, Sem.run_pure, Result.andThen_ok, run_underlying hu, if_pos hk, (ht el te h3).run_size, h4, svs_add]
theorem own_cell {e s : Nat} {v : Value} {m : Nat} {cs : List Value} (hv : w.ownsAt e s v m cs) {b of cap q : Nat} (e1 : v = .slice (some ⟨b, of, none⟩) m cap) {k j : Nat} {u : Value} (hj : cs[k * s + j]? = some u) : w.cell? ((⟨b, of + k * s, none⟩ : Addr).add j) = some u := by
 obtain ⟨hl0, r1⟩ := hv
 rw [svs_add]
 rcases r1 with ⟨e3, _⟩ | ⟨gb, of', cap', cur, e3, e4, _, _, _, e5⟩
 ·rw [e1] at e3; cases e3
 ·rw [e1] at e3
  simp at e3
  obtain ⟨⟨rfl, rfl⟩, rfl⟩ := e3
  unfold World.cell?
  rw [e4]
  rw [← e5, List.getElem?_take] at hj
  split at hj
  ·rw [List.getElem?_drop] at hj
   simpa [Nat.add_assoc] using hj
  ·cases hj
theorem run_storeOwn {α : Type} {T : Ty α} {l : List α} {t e : Nat} {ti : TI} {v pv uv : Value} {k : Nat} {y : α} {cs : List Value} (htk : TI.ok t ti) (h2 : ti.size = T.s) (hT : T.solid) (r : w.ownsAt e T.s v l.length cs) (r2 : rowRead T l g cs) {b of nn cap : Nat} (e1 : v = .slice (some ⟨b, of, none⟩) nn cap) (e2 : pv = .pointer (some ⟨b, of + k * T.s, none⟩)) (hk : k < l.length)
  (hval0 : (T.sv y).ok g hs0 uv) (hz : (svCells (T.sv y)).length = T.s) : ∃ w', (Instr.storeAt t pv uv).run Try.prog w = .ok () w' ∧ w.grownBy w' (some b) ∧ ∃ cs', w'.ownsAt e T.s v l.length cs' ∧ rowRead T (l.set k y) g cs' := by
 obtain ⟨hl0, r1⟩ := r
 have hcells := sv_cells (hT y) hval0
 have hlen : uv.cells.toList.length = T.s := by rw [← oks_length hcells]; exact hz
 rcases r1 with ⟨e3, e4⟩ | ⟨gb, of', cap', cur, e3, e4, e5, e6, e7, e8⟩
 ·omega
 ·rw [e1] at e3
  simp at e3
  obtain ⟨⟨rfl, rfl⟩, rfl, rfl⟩ := e3
  have hkl : k * T.s + T.s ≤ l.length * T.s := by rw [← Nat.succ_mul]; exact Nat.mul_le_mul_right _ hk
  have hlc : of + l.length * T.s ≤ cur.size := Nat.le_trans (Nat.add_le_add_left (Nat.mul_le_mul_right _ e5) _) e7
  have hst := run_storeCells_at (P := Try.prog) b (of + k * T.s) e uv.cells.toList 0 cur w e4 (by rw [hlen, Nat.add_zero, Nat.add_assoc]; exact Nat.le_trans (Nat.add_le_add_left hkl _) hlc) (fun u hu => (oks_cells hcells u hu).one)
  simp only [Nat.add_zero] at hst
  refine ⟨w.setRow b (cur.toList.take (of + k * T.s) ++ uv.cells.toList ++ cur.toList.drop (of + k * T.s + uv.cells.toList.length)).toArray, ?_, ?_, ?_⟩
  ·simp only [Instr.storeAt, e2, Instr.sureAddr, storeVar, Sem.run_bind, Sem.run_pure, Result.andThen_ok, htk.run_size]
   rw [if_neg (by rw [h2]; simp at hlen; simp [hlen])]
   simp only [hst, Result.andThen_ok, Sem.run_pure]
  ·exact ⟨rfl, rfl, rfl, by simp, fun q hq hne => setRow_other w b q _ (fun e => hne (by rw [e]))⟩
  ·have hset := r2.set hk hval0 (by rw [← hlen]; simp)
   refine ⟨_, ⟨by have := hset.length; rw [List.length_set] at this; exact this, .inr ⟨b, of, cap, _, by rw [e1], setRow_heap w b _ _ _ _ e4, e5, e6, ?_, ?_⟩⟩, hset⟩
   ·simp only [List.size_toArray, List.length_append, List.length_take, List.length_drop, Array.length_toList] at hlen ⊢
    omega
   ·show (List.drop of (_ ++ uv.cells.toList ++ _)).take _ = _
    rw [drop_seg _ _ (by rw [Array.length_toList]; exact Nat.le_trans (Nat.add_le_add_left (Nat.le_trans (Nat.le_add_right _ _) hkl) _) hlc), ← e8, hlen]
    exact seg_take (cur.toList.drop of) uv.cells.toList (k * T.s) T.s (l.length * T.s) hlen hkl (by rw [List.length_drop, Array.length_toList]; exact Nat.le_sub_of_add_le (by rw [Nat.add_comm]; exact hlc))
end
end Go.Proofs.Ytapnmjeadbhffaa


namespace Go.Proofs.Ytapnmjeadbhffaa
open Go.RowKit Go.MapKept
set_option linter.unusedSimpArgs false
set_option linter.unusedVariables false
set_option maxRecDepth 100000
section
variable {g : Gh} {hs : Nat → Value} {i : Nat} {b : At}
end
section
variable {c : Cfg} {S S1 : St} {a : Act} {w : World} {g : Gh} {hs : Nat → Value} {tab : Tab} {n : Nat} {o : Oper} {ops : Array Oper} {rest L : List Oper} {N : Po}
theorem own_slice {e : TypeId} {s m : Nat} {v : Value} {cs : List Value} (h : w.ownsAt e s v m cs) : ∃ ao cap, v = .slice ao m cap := by
 obtain ⟨_, h⟩ := h
 rcases h with ⟨rfl, rfl⟩ | ⟨gb, of, cap, cur, rfl, _⟩
 ·exact ⟨none, 0, rfl⟩
 ·exact ⟨_, cap, rfl⟩
def nilT : Ty Unit := ⟨1, fun _ => .one (.v (.slice none 0 0))⟩
theorem nil_cells {k : Nat} {cs : List Value} (h : rowRead nilT (List.replicate k ()) g cs) : cs = List.replicate k (.slice none 0 0) := by
 obtain ⟨us, rfl, h2, h3⟩ := h
 have hu : ∀ u ∈ us, u = .slice none 0 0 := fun u hu => by
  obtain ⟨q, hq⟩ := List.mem_iff_getElem?.1 hu
  have hlt := (List.getElem?_eq_some_iff.1 hq).1
  rw [h2, List.length_replicate] at hlt
  exact (h3 q u () hq (by simp [hlt])).1.1
 have e : us = List.replicate k (.slice none 0 0) := List.eq_replicate_iff.2 ⟨by rw [h2, List.length_replicate], hu⟩
 subst e
 clear hu h2 h3
 induction k with
 | zero => rfl
 | succ k ih =>
  rw [List.replicate_succ, List.flatMap_cons, ih]
  rfl
end
end Go.Proofs.Ytapnmjeadbhffaa


namespace Go.Proofs.Ytapnmjeadbhffaa
open Go.RowKit Go.MapKept
set_option linter.unusedSimpArgs false
set_option linter.unusedVariables false
set_option maxRecDepth 100000
def At.keepG (i j : Nat) : At → Bool
 | .gs k q => !(Nat.beq k j) && (!(Nat.beq k i) || Nat.beq q 0)
 | .ge k q _ _ => !(Nat.beq k j) && (!(Nat.beq k i) || Nat.beq q 0)
 | a => a.refs.all fun k => !(Nat.beq k j) && !(Nat.beq k i)
def SV.keepG (i j : Nat) : SV → Bool
 | .one a => a.keepG i j
 | .agg l => l.all (·.keepG i j)
def SC.keepG (i j : Nat) : SC → Bool
 | .sv s => s.keepG i j
 | .tup l => l.all (·.keepG i j)
def Item.keepG (i j : Nat) : Item → Bool
 | .box cells _ _ => cells.all (·.keepG i j)
 | .iter k _ => !(Nat.beq k j) && !(Nat.beq k i)
 | .grid _ _ _ _ (some (_, k)) => !(Nat.beq k j) && !(Nat.beq k i)
 | _ => true
def dropG (i j : Nat) (F : List (Nat × SC)) : List (Nat × SC) := F.filter fun e => e.2.keepG i j
theorem beq_ne {a b : Nat} (h : (!(Nat.beq a b)) = true) : a ≠ b := fun e => by subst e; simp at h
section
variable {g : Gh} {hs hs' : Nat → Value} {i j : Nat}
theorem At.keepG_ok (h0 : gpart (hs' i) 0 = gpart (hs i) 0) (h1 : ∀ k, k ≠ i → k ≠ j → hs' k = hs k) {a : At} {u : Value} (hk : a.keepG i j = true) (h : a.ok g hs u) : a.ok g hs' u := by
 have gen : ∀ a : At, (a.refs.all fun k => !(Nat.beq k j) && !(Nat.beq k i)) = true → a.ok g hs u → a.ok g hs' u := fun a hk h => At.ok_hs (fun k hk' => by
  have := List.all_eq_true.1 hk k hk'
  rw [Bool.and_eq_true] at this
  exact h1 k (beq_ne this.2) (beq_ne this.1)) h
 have gp : ∀ k q, (!(Nat.beq k j) && (!(Nat.beq k i) || Nat.beq q 0)) = true → gpart (hs' k) q = gpart (hs k) q := fun k q hk => by
  rw [Bool.and_eq_true, Bool.or_eq_true] at hk
  by_cases e : k = i
  ·subst e
   rcases hk.2 with h2 | h2
   ·exact absurd rfl (beq_ne h2)
   ·have := Nat.eq_of_beq_eq_true h2
    subst this
    exact h0
  ·rw [h1 k e (beq_ne hk.1)]
 cases a with
 | gs k q =>
  obtain ⟨h2, h3⟩ := h
  refine ⟨?_, h3⟩
  show u = gpart (hs' k) q
  rw [gp k q hk]
  exact h2
 | ge k q m s =>
  obtain ⟨⟨b, o, n, cap, h2, h3⟩, h4⟩ := h
  exact ⟨⟨b, o, n, cap, by rw [gp k q hk]; exact h2, h3⟩, h4⟩
 | _ => exact gen _ hk h
theorem oks_keepG (h0 : gpart (hs' i) 0 = gpart (hs i) 0) (h1 : ∀ k, k ≠ i → k ≠ j → hs' k = hs k) : ∀ {l : List At} {us : List Value}, l.all (·.keepG i j) = true → oks g hs l us → oks g hs' l us
 | [], [], _, _ => trivial
 | [], _ :: _, _, h => h.elim
 | _ :: _, [], _, h => h.elim
 | _ :: _, _ :: _, hk, h => by
  rw [List.all_cons, Bool.and_eq_true] at hk
  exact ⟨At.keepG_ok h0 h1 hk.1 h.1, h.2.1, oks_keepG h0 h1 hk.2 h.2.2⟩
theorem SV.keepG_ok (h0 : gpart (hs' i) 0 = gpart (hs i) 0) (h1 : ∀ k, k ≠ i → k ≠ j → hs' k = hs k) {a : SV} {u : Value} (hk : a.keepG i j = true) (h : a.ok g hs u) : a.ok g hs' u := by
 cases a with
 | one a => exact At.keepG_ok h0 h1 hk h
 | agg l =>
  obtain ⟨cs, h2, h3⟩ := h
  exact ⟨cs, h2, oks_keepG h0 h1 hk h3⟩
theorem svs_keepG (h0 : gpart (hs' i) 0 = gpart (hs i) 0) (h1 : ∀ k, k ≠ i → k ≠ j → hs' k = hs k) : ∀ {l : List SV} {us : List Value}, l.all (·.keepG i j) = true → SV.oks g hs l us → SV.oks g hs' l us
 | [], [], _, _ => trivial
 | [], _ :: _, _, h => h.elim
 | _ :: _, [], _, h => h.elim
 | _ :: _, _ :: _, hk, h => by
  rw [List.all_cons, Bool.and_eq_true] at hk
  exact ⟨SV.keepG_ok h0 h1 hk.1 h.1, svs_keepG h0 h1 hk.2 h.2⟩
theorem SC.keepG_ok (h0 : gpart (hs' i) 0 = gpart (hs i) 0) (h1 : ∀ k, k ≠ i → k ≠ j → hs' k = hs k) {a : SC} {u : Value} (hk : a.keepG i j = true) (h : a.ok g hs u) : a.ok g hs' u := by
 cases a with
 | sv s => exact SV.keepG_ok h0 h1 hk h
 | tup l =>
  obtain ⟨us, h2, h3⟩ := h
  exact ⟨us, h2, svs_keepG h0 h1 hk h3⟩
theorem Item.keepG_ok (h0 : gpart (hs' i) 0 = gpart (hs i) 0) (h1 : ∀ k, k ≠ i → k ≠ j → hs' k = hs k) {w : World} {x : Value} {it : Item} (hk : it.keepG i j = true) (h : it.ok g hs w x) : it.ok g hs' w x := by
 cases it with
 | box cells ty fz =>
  obtain ⟨b, cs, h2, h3, h4⟩ := h
  exact ⟨b, cs, h2, oks_keepG h0 h1 hk h3, h4⟩
 | iter k r =>
  obtain ⟨rb, m, clock, seen, h2, h3, h4⟩ := h
  rw [Item.keepG, Bool.and_eq_true] at hk
  exact ⟨rb, m, clock, seen, h2, (h1 k (beq_ne hk.2) (beq_ne hk.1)).trans h3, h4⟩
 | grid tyo ty s rows link =>
  obtain ⟨us, ocs, u1, u2, u3, u4, u5, u6, u7, u8⟩ := h
  refine ⟨us, ocs, u1, u2, u3, u4, u5, u6, fun p k hl => ?_, u8⟩
  subst hl
  rw [Item.keepG, Bool.and_eq_true] at hk
  rw [h1 k (beq_ne hk.2) (beq_ne hk.1)]
  exact u7 p k rfl
 | _ => exact h
end
def rawT : Ty Value := ⟨1, fun v => .one (.v v)⟩
theorem rawT_solid : rawT.solid := fun a e => by cases e
theorem raw_cells {g : Gh} {l cs : List Value} (h : rowRead rawT l g cs) : cs = l := by
 obtain ⟨us, rfl, h2, h3⟩ := h
 induction us generalizing l with
 | nil => cases l with
  | nil => rfl
  | cons _ _ => simp at h2
 | cons u us ih =>
  cases l with
  | nil => simp at h2
  | cons v l =>
   obtain ⟨⟨h4, h5⟩, _⟩ := h3 0 u v rfl rfl
   have h4 : u = v := h4
   subst h4
   rw [List.flatMap_cons, cellV.cells h5, ih (by simpa using h2) fun q x y hx hy => h3 (q + 1) x y (by simpa using hx) (by simpa using hy)]
   rfl
theorem raw_read {g : Gh} {l : List Value} (h : ∀ u ∈ l, ∃ ao m cap, u = .slice ao m cap) : rowRead rawT l g l := by
 have hc : ∀ u ∈ l, cellV u := fun u hu => by obtain ⟨_, _, _, rfl⟩ := h u hu; trivial
 clear h
 refine ⟨l, ?_, rfl, fun q u v hu hv => ?_⟩
 ·induction l with
  | nil => rfl
  | cons u l ih =>
   rw [List.flatMap_cons, cellV.cells (hc u List.mem_cons_self), ← ih fun x hx => hc x (List.mem_cons_of_mem _ hx)]
   rfl
 ·rw [hu] at hv
  cases hv
  have h1 := hc u (List.mem_of_getElem? hu)
  exact ⟨⟨rfl, h1⟩, by rw [cellV.cells h1]; rfl⟩
theorem gpart_set_same {us : List Value} {k : Nat} {v : Value} (h : k < us.length) : gpart (.tuple (us.set k v).toArray) k = v := by
 show (us.set k v).getD k undef = v
 simp [h]
theorem gpart_set_ne {us : List Value} {k q : Nat} {v : Value} (h : q ≠ k) : gpart (.tuple (us.set k v).toArray) q = gpart (.tuple us.toArray) q := by
 show (us.set k v).getD q undef = us.getD q undef
 simp [List.getD_eq_getElem?_getD, List.getElem?_set, Ne.symm h]
theorem Blk_set {us : List Value} {k b : Nat} {v : Value} (h : Blk (.tuple (us.set k v).toArray) b) : Blk (.tuple us.toArray) b ∨ blk v = some b := by
 obtain ⟨u, hu, e⟩ := h
 rcases List.mem_or_eq_of_mem_set hu with h1 | h1
 ·exact .inl ⟨u, h1, e⟩
 ·exact .inr (h1 ▸ e)
section
variable {c : Cfg} {S S1 : St} {a : Act} {w : World} {g : Gh} {hs : Nat → Value} {tab : Tab} {n : Nat} {o : Oper} {ops : Array Oper} {rest : List Oper} {N : Po}
theorem Ok'.putG (h : Ok' c S a w g hs) {i j p tyo ty s m : Nat} {rows : List (Option (Rl (List Value) × Nat))} {link : Option (Nat × Nat)} {r : Rl (List Value)} (hm : S.M[i]? = some (.grid tyo ty s rows link)) (hj : S.M[j]? = some (.row ty s r m)) (hp : p < rows.length)
  {b of nn cap : Nat} (e1 : gpart (hs i) 0 = .slice (some ⟨b, of, none⟩) nn cap) {t : Nat} {ti : TI} (htk : TI.ok t ti) (hts : ti.size = 1) (hkM : S.M.all (·.keepG i j) = true) :
  ∃ w' hs', (Instr.storeAt t (.pointer (some ⟨b, of + p * 1, none⟩)) (hs j)).run Try.prog w = .ok () w' ∧ Ok' c ⟨dropG i j S.F, (S.M.set i (.grid tyo ty s (rows.set p (some (r, m))) none)).set j .gone⟩ a w' g hs' := by
 have hij : i ≠ j := fun e => by subst e; rw [hm] at hj; cases hj
 have hit := h.items i _ hm
 obtain ⟨csj, hcj, hrj⟩ := h.items j _ hj
 obtain ⟨us, ocs, u1, u2, u3, u3', u4, u4', uk, u5⟩ := hit
 have hlo : ocs.length = rows.length := by have := u3.1; omega
 have hslj := own_slice hcj
 have hcvj : cellV (hs j) := by obtain ⟨_, _, e⟩ := hslj; rw [e]; trivial
 have hcj1 := cellV.cells hcvj
 rw [← hlo] at u3
 obtain ⟨w', k1, k2, cs', k3, k4⟩ := run_storeOwn (T := rawT) (l := ocs) (y := hs j) (k := p) (g := g) (t := t) (nn := nn) (cap := cap) (pv := .pointer (some ⟨b, of + p * 1, none⟩)) htk (by rw [hts]; rfl) rawT_solid u3 (raw_read u3') e1 rfl (by omega) ⟨rfl, hcvj⟩ rfl
 have := raw_cells k4
 subst this
 have hbi : Blk (hs i) b := Blk.part u1 (k := 0) (by omega) (by rw [e1]; rfl)
 have hl0 : p + 1 < us.length := by omega
 let hs' : Nat → Value := fun k => if k = i then .tuple (us.set (p + 1) (hs j)).toArray else hs k
 have hsi : hs' i = .tuple (us.set (p + 1) (hs j)).toArray := if_pos rfl
 have hsk : ∀ k, k ≠ i → hs' k = hs k := fun k hk => if_neg hk
 have hg0 : gpart (hs' i) 0 = gpart (hs i) 0 := by rw [hsi, gpart_set_ne (by omega), u1]
 have hgp : gpart (hs' i) (p + 1) = hs j := by rw [hsi, gpart_set_same hl0]
 have hgq : ∀ q, q ≠ p + 1 → gpart (hs' i) q = gpart (hs i) q := fun q hq => by rw [hsi, gpart_set_ne hq, u1]
 have hbj : ∀ b', blk (hs j) = some b' → ¬ Blk (hs i) b' := fun b' e => h.sep j i _ _ (Ne.symm hij) hj hm rfl (by simp) b' (Blk.of e)
 have hbs : ∀ b', Blk (hs' i) b' → Blk (hs i) b' ∨ blk (hs j) = some b' := fun b' hb => by
  rw [hsi] at hb
  rw [u1]
  exact Blk_set hb
 have hne : ∀ q, q < us.length → q ≠ 0 → (gpart (hs i) q).ownBlock = none ∨ (gpart (hs i) q).ownBlock ≠ some b := fun q hq hq0 => by
  cases hb : (gpart (hs i) q).ownBlock with
  | none => exact .inl rfl
  | some b' => exact .inr (fun e => by cases e; exact u5 0 q b (by omega) hq (fun e => hq0 e.symm) (by rw [e1]; rfl) (ownBlock_blk' hb))
 have hset : ∀ (k : Nat) (kt : Item), (((S.M.set i (.grid tyo ty s (rows.set p (some (r, m))) none)).set j .gone))[k]? = some kt → kt ≠ .gone → (k = i ∧ kt = .grid tyo ty s (rows.set p (some (r, m))) none) ∨ (k ≠ i ∧ k ≠ j ∧ S.M[k]? = some kt) := fun k kt hk hn => by
  rw [List.getElem?_set] at hk
  by_cases ej : j = k
  ·rw [if_pos ej] at hk
   split at hk
   ·simp at hk; exact absurd hk.symm hn
   ·cases hk
  ·rw [if_neg ej, List.getElem?_set] at hk
   by_cases ei : i = k
   ·rw [if_pos ei] at hk
    split at hk
    ·simp at hk; exact .inl ⟨ei.symm, hk.symm⟩
    ·cases hk
   ·rw [if_neg ei] at hk
    exact .inr ⟨Ne.symm ei, Ne.symm ej, hk⟩
 refine ⟨w', hs', k1, h.size, h.defers, h.base.kept k2 (fun b' e => by cases e; exact (h.mine i _ hm (by simp) b hbi).2 rfl), fun t x hx => ?_, fun k kt hk => ?_, fun k l kt lt hkl hk hl hf hn b' hb => ?_, fun k kt hk hn b' hb => ?_⟩
 ·obtain ⟨hx1, hx2⟩ := List.mem_filter.1 hx
  exact SC.keepG_ok hg0 (fun k hk _ => hsk k hk) hx2 (h.slots t x hx1)
 ·by_cases hn : kt = .gone
  ·subst hn; trivial
  ·rcases hset k kt hk hn with ⟨rfl, rfl⟩ | ⟨h1, h2, h3⟩
   ·refine ⟨us.set (p + 1) (hs j), ocs.set p (hs j), hsi, by simp [u2], ?_, fun u hu => ?_, fun q r' n' hq => ?_, fun q hq => ?_, (fun p k e => by cases e), fun q q' b' hq hq' hqq hb1 hb2 => ?_⟩
    ·rw [hg0, List.length_set, ← hlo]
     exact k3
    ·rcases List.mem_or_eq_of_mem_set hu with hu | hu
     ·exact u3' u hu
     ·obtain ⟨ao, cp, e⟩ := hslj
      exact ⟨ao, m, cp, hu.trans e⟩
    ·rw [List.getElem?_set] at hq
     by_cases e : p = q
     ·subst e
      rw [if_pos rfl, if_pos hp] at hq
      simp only [Option.some.injEq, Prod.mk.injEq] at hq
      obtain ⟨rfl, rfl⟩ := hq
      rw [hgp]
      refine ⟨by rw [List.getElem?_set_self (by omega)], csj, hcj.kept k2 ?_, hrj⟩
      cases hb : (hs j).ownBlock with
      | none => exact .inl rfl
      | some b' => exact .inr (fun e => by cases e; exact hbj b (ownBlock_blk' hb) hbi)
     ·rw [if_neg e] at hq
      have hql := (List.getElem?_eq_some_iff.1 hq).1
      obtain ⟨k5, cs2, k6, k7⟩ := u4 q r' n' hq
      rw [hgq (q + 1) (by omega)]
      exact ⟨by rw [List.getElem?_set_ne e]; exact k5, cs2, k6.kept k2 (hne (q + 1) (by omega) (by omega)), k7⟩
    ·rw [List.getElem?_set] at hq
     by_cases e : p = q
     ·rw [if_pos e] at hq
      split at hq <;> simp at hq
     ·rw [if_neg e] at hq
      rw [hgq (q + 1) (by omega)]
      exact u4' q hq
    ·rw [List.length_set] at hq hq'
     by_cases e : q = p + 1
     ·subst e
      rw [hgp] at hb1
      rw [hgq q' (Ne.symm hqq)] at hb2
      exact hbj b' hb1 (Blk.part u1 hq' hb2)
     ·rw [hgq q e] at hb1
      by_cases e' : q' = p + 1
      ·subst e'
       rw [hgp] at hb2
       exact hbj b' hb2 (Blk.part u1 hq hb1)
      ·rw [hgq q' e'] at hb2
       exact u5 q q' b' hq hq' hqq hb1 hb2
   ·rw [hsk k h1]
    refine Item.keepG_ok hg0 (fun k hk _ => hsk k hk) (List.all_eq_true.1 hkM kt (List.mem_of_getElem? h3)) ?_
    exact Item.kept k2 (h := h.items k kt h3) fun b' hb => ⟨(h.mine k kt h3 hn b' hb).1, fun e => by cases e; exact h.sep i k _ kt (Ne.symm h1) hm h3 rfl hn b hbi hb⟩
 ·rcases hset k kt hk (fz_gone hf) with ⟨rfl, rfl⟩ | ⟨h1, h2, h3⟩
  ·rcases hset l lt hl hn with ⟨rfl, rfl⟩ | ⟨l1, l2, l3⟩
   ·exact absurd rfl hkl
   ·rw [hsk l l1]
    rcases hbs b' hb with h4 | h4
    ·exact h.sep k l _ lt hkl hm l3 rfl hn b' h4
    ·exact h.sep j l _ lt (Ne.symm l2) hj l3 rfl hn b' (Blk.of h4)
  ·rw [hsk k h1] at hb
   rcases hset l lt hl hn with ⟨rfl, rfl⟩ | ⟨l1, l2, l3⟩
   ·intro hb2
    rcases hbs b' hb2 with h4 | h4
    ·exact h.sep k l kt _ hkl h3 hm hf (by simp) b' hb h4
    ·exact h.sep k j kt _ h2 h3 hj hf (by simp) b' hb (Blk.of h4)
   ·rw [hsk l l1]
    exact h.sep k l kt lt hkl h3 l3 hf hn b' hb
 ·rcases hset k kt hk hn with ⟨rfl, rfl⟩ | ⟨h1, h2, h3⟩
  ·rcases hbs b' hb with h4 | h4
   ·obtain ⟨m1, m2⟩ := h.mine k _ hm (by simp) b' h4
    exact ⟨Nat.lt_of_lt_of_le m1 k2.size, fun _ => m2 rfl⟩
   ·obtain ⟨m1, m2⟩ := h.mine j _ hj (by simp) b' (Blk.of h4)
    exact ⟨Nat.lt_of_lt_of_le m1 k2.size, fun _ => m2 rfl⟩
  ·rw [hsk k h1] at hb
   obtain ⟨m1, m2⟩ := h.mine k kt h3 hn b' hb
   exact ⟨Nat.lt_of_lt_of_le m1 k2.size, m2⟩
abbrev gridH {α : Type} (tyo ty : Nat) (T : Ty α) (L : List (List α)) (p : Nat) (link : Option (Nat × Nat)) : Item := .grid tyo ty T.s ((L.map fun l => some (rowR T l, l.length)).set p none) link
theorem WL.putG0 {i j p tyo ty s m t : Nat} {rows : List (Option (Rl (List Value) × Nat))} {link : Option (Nat × Nat)} {r : Rl (List Value)} {ti : TI} {x v : Operand} {S1 : St} (ht : tab.ok) (hn : c.n = n) (hw : wantE ops S.F o = some true) (ho : o.op = .store t x v) (h1 : tab t = some ti) (h2 : ti.size = 1)
  (hx : evX S.F x = some (.sv (.one (.ge i 0 p 1)))) (hv : evX S.F v = some (.sv (.one (.own j)))) (hm : S.M[i]? = some (.grid tyo ty s rows link)) (hj : S.M[j]? = some (.row ty s r m)) (hp : p < rows.length) (hkM : S.M.all (·.keepG i j) = true)
  (e : putE n o.dst (.tup []) ⟨dropG i j S.F, (S.M.set i (.grid tyo ty s (rows.set p (some (r, m))) none)).set j .gone⟩ = some S1) (h : WL c ops rest S1 N) : WL c ops (o :: rest) S N := fun a w ⟨g, hs, hh⟩ => by
 unfold wpList
 rw [if_pos (wantE_ok hh hw)]
 refine .inl ?_
 unfold Oper.wp
 obtain ⟨⟨b, of, nn, cap, e1, e2⟩, _⟩ := evX_ok hh hx
 have hvj : a.eval v = hs j := (evX_ok hh hv).1
 obtain ⟨w', hs', k1, k2⟩ := hh.putG hm hj hp e1 (ht t ti h1) h2 hkM
 have hrun : (execOp a.eval o).run Try.prog w = .ok .skip w' := by
  have : execOp a.eval o = (do Instr.storeAt t (a.eval x) (a.eval v); pure .skip : Sem Next) := by unfold execOp; rw [ho]
  rw [this, e2, hvj]
  simp only [Sem.run_bind, k1, Result.andThen_ok, Sem.run_pure]
 rw [hrun]
 exact h _ _ ⟨g, hs', putE_ok k2 hn undef_ok e⟩
theorem gridI_set {α : Type} {T : Ty α} {L : List (List α)} {l : List α} {p : Nat} : (L.map fun l => some (rowR T l, l.length)).set p (some (rowR T l, l.length)) = ((L.set p l).map fun l => some (rowR T l, l.length)) := by
 rw [List.map_set]
theorem WL.putGH {α : Type} {T : Ty α} {L : List (List α)} {l : List α} {link : Option (Nat × Nat)} {i j p tyo ty t : Nat} {ti : TI} {x v : Operand} {S1 : St} (ht : tab.ok) (hn : c.n = n) (hw : wantE ops S.F o = some true) (ho : o.op = .store t x v) (h1 : tab t = some ti) (h2 : ti.size = 1)
  (hx : evX S.F x = some (.sv (.one (.ge i 0 p 1)))) (hv : evX S.F v = some (.sv (.one (.own j)))) (hm : S.M[i]? = some (gridH tyo ty T L p link)) (hj : S.M[j]? = some (rowI ty T l)) (hp : p < L.length) (hkM : S.M.all (·.keepG i j) = true)
  (e : putE n o.dst (.tup []) ⟨dropG i j S.F, (S.M.set i (gridI tyo ty T (L.set p l))).set j .gone⟩ = some S1) (h : WL c ops rest S1 N) : WL c ops (o :: rest) S N :=
 WL.putG0 ht hn hw ho h1 h2 hx hv hm hj (by rw [List.length_set, List.length_map]; exact hp) hkM (by rw [List.set_set, gridI_set]; exact e) h
theorem Ok'.takeG {i p tyo ty s m : Nat} {rows : List (Option (Rl (List Value) × Nat))} {link : Option (Nat × Nat)} {r : Rl (List Value)} (h : Ok' c S a w g hs) (hm : S.M[i]? = some (.grid tyo ty s rows link)) (hp : rows[p]? = some (some (r, m))) (hkM : S.M.all (·.keepG i S.M.length) = true) :
  ∃ hs', hs' S.M.length = gpart (hs i) (p + 1) ∧ Ok' c ⟨dropG i S.M.length S.F, S.M.set i (.grid tyo ty s (rows.set p none) (some (p, S.M.length))) ++ [.row ty s r m]⟩ a w g hs' := by
 have hil : i < S.M.length := (List.getElem?_eq_some_iff.1 hm).1
 have hpl : p < rows.length := (List.getElem?_eq_some_iff.1 hp).1
 have hit := h.items i _ hm
 obtain ⟨us, ocs, u1, u2, u3, u3', u4, u4', uk, u5⟩ := hit
 obtain ⟨q1, csj, q2, q3⟩ := u4 p r m hp
 have hslj := own_slice q2
 have hl0 : p + 1 < us.length := by omega
 let hs' : Nat → Value := fun k => if k = i then .tuple (us.set (p + 1) (.slice none 0 0)).toArray else if k = S.M.length then gpart (hs i) (p + 1) else hs k
 have hsi : hs' i = .tuple (us.set (p + 1) (.slice none 0 0)).toArray := if_pos rfl
 have hsj : hs' S.M.length = gpart (hs i) (p + 1) := by
  show (if S.M.length = i then _ else if S.M.length = S.M.length then _ else _) = _
  rw [if_neg (by omega), if_pos rfl]
 have hsk : ∀ k, k ≠ i → k ≠ S.M.length → hs' k = hs k := fun k h1 h2 => by
  show (if k = i then _ else if k = S.M.length then _ else hs k) = _
  rw [if_neg h1, if_neg h2]
 have hg0 : gpart (hs' i) 0 = gpart (hs i) 0 := by rw [hsi, gpart_set_ne (by omega), u1]
 have hgp : gpart (hs' i) (p + 1) = .slice none 0 0 := by rw [hsi, gpart_set_same hl0]
 have hgq : ∀ q, q ≠ p + 1 → gpart (hs' i) q = gpart (hs i) q := fun q hq => by rw [hsi, gpart_set_ne hq, u1]
 have hbs : ∀ b', Blk (hs' i) b' → Blk (hs i) b' ∧ blk (gpart (hs i) (p + 1)) ≠ some b' := fun b' hb => by
  rw [hsi] at hb
  obtain ⟨u, hu, e⟩ := hb
  obtain ⟨q, hq⟩ := List.mem_iff_getElem?.1 hu
  have hql := (List.getElem?_eq_some_iff.1 hq).1
  rw [List.length_set] at hql
  by_cases eq : q = p + 1
  ·subst eq
   rw [List.getElem?_set_self hl0] at hq
   simp at hq
   rw [← hq] at e
   cases e
  ·rw [List.getElem?_set_ne (Ne.symm eq)] at hq
   have hgu : gpart (hs i) q = u := by
    rw [u1]
    show us.getD q undef = u
    rw [List.getD_eq_getElem?_getD, hq]
    rfl
   exact ⟨Blk.part u1 hql (by rw [hgu]; exact e), fun e2 => u5 q (p + 1) b' hql hl0 eq (by rw [hgu]; exact e) e2⟩
 have hbj : ∀ b', Blk (hs' S.M.length) b' → blk (gpart (hs i) (p + 1)) = some b' := fun b' hb => by
  rw [hsj] at hb
  obtain ⟨ao, cp, e⟩ := hslj
  rw [e] at hb ⊢
  exact hb
 have hbj2 : ∀ b', blk (gpart (hs i) (p + 1)) = some b' → Blk (hs i) b' := fun b' e => Blk.part u1 hl0 e
 have hset : ∀ (k : Nat) (kt : Item), (S.M.set i (.grid tyo ty s (rows.set p none) (some (p, S.M.length))) ++ [.row ty s r m])[k]? = some kt → (k = i ∧ kt = .grid tyo ty s (rows.set p none) (some (p, S.M.length))) ∨ (k = S.M.length ∧ kt = .row ty s r m) ∨ (k ≠ i ∧ k ≠ S.M.length ∧ S.M[k]? = some kt) := fun k kt hk => by
  rw [List.getElem?_append, List.length_set] at hk
  split at hk
  ·rename_i hlt
   rw [List.getElem?_set] at hk
   by_cases ei : i = k
   ·rw [if_pos ei, if_pos hil] at hk
    simp at hk
    exact .inl ⟨ei.symm, hk.symm⟩
   ·rw [if_neg ei] at hk
    exact .inr (.inr ⟨Ne.symm ei, by omega, hk⟩)
  ·by_cases e2 : k = S.M.length
   ·subst e2
    simp at hk
    exact .inr (.inl ⟨rfl, hk.symm⟩)
   ·rw [List.getElem?_eq_none (by simp; omega)] at hk
    cases hk
 refine ⟨hs', hsj, h.size, h.defers, h.base, fun t x hx => ?_, fun k kt hk => ?_, fun k l kt lt hkl hk hl hf hn b' hb => ?_, fun k kt hk hn b' hb => ?_⟩
 ·obtain ⟨hx1, hx2⟩ := List.mem_filter.1 hx
  exact SC.keepG_ok hg0 hsk hx2 (h.slots t x hx1)
 ·rcases hset k kt hk with ⟨rfl, rfl⟩ | ⟨rfl, rfl⟩ | ⟨h1, h2, h3⟩
  ·refine ⟨us.set (p + 1) (.slice none 0 0), ocs, hsi, by simp [u2], by rw [hg0, List.length_set]; exact u3, u3', fun q r' n' hq => ?_, fun q hq => ?_, (fun p' k e => by cases e; rw [hsj]; exact q1), fun q q' b' hq hq' hqq hb1 hb2 => ?_⟩
   ·rw [List.getElem?_set] at hq
    by_cases e : p = q
    ·rw [if_pos e] at hq
     split at hq <;> simp at hq
    ·rw [if_neg e] at hq
     rw [hgq (q + 1) (by omega)]
     exact u4 q r' n' hq
   ·rw [List.getElem?_set] at hq
    by_cases e : p = q
    ·subst e
     exact hgp
    ·rw [if_neg e] at hq
     rw [hgq (q + 1) (by omega)]
     exact u4' q hq
   ·rw [List.length_set] at hq hq'
    by_cases e : q = p + 1
    ·subst e
     rw [hgp] at hb1
     cases hb1
    ·rw [hgq q e] at hb1
     by_cases e' : q' = p + 1
     ·subst e'
      rw [hgp] at hb2
      cases hb2
     ·rw [hgq q' e'] at hb2
      exact u5 q q' b' hq hq' hqq hb1 hb2
  ·rw [hsj]
   exact ⟨csj, q2, q3⟩
  ·by_cases hn : kt = .gone
   ·subst hn; trivial
   ·rw [hsk k h1 h2]
    exact Item.keepG_ok hg0 hsk (List.all_eq_true.1 hkM kt (List.mem_of_getElem? h3)) (h.items k kt h3)
 ·rcases hset k kt hk with ⟨rfl, rfl⟩ | ⟨rfl, rfl⟩ | ⟨h1, h2, h3⟩
  ·obtain ⟨hb1, hb2⟩ := hbs b' hb
   rcases hset l lt hl with ⟨rfl, rfl⟩ | ⟨rfl, rfl⟩ | ⟨l1, l2, l3⟩
   ·exact absurd rfl hkl
   ·exact fun e => hb2 (hbj b' e)
   ·rw [hsk l l1 l2]
    exact h.sep k l _ lt hkl hm l3 rfl hn b' hb1
  ·have hb1 := hbj b' hb
   rcases hset l lt hl with ⟨rfl, rfl⟩ | ⟨rfl, rfl⟩ | ⟨l1, l2, l3⟩
   ·exact fun e => (hbs b' e).2 hb1
   ·exact absurd rfl hkl
   ·rw [hsk l l1 l2]
    exact h.sep i l _ lt (Ne.symm l1) hm l3 rfl hn b' (hbj2 b' hb1)
  ·rw [hsk k h1 h2] at hb
   rcases hset l lt hl with ⟨rfl, rfl⟩ | ⟨rfl, rfl⟩ | ⟨l1, l2, l3⟩
   ·exact fun e => h.sep k l kt _ hkl h3 hm hf (by simp) b' hb (hbs b' e).1
   ·exact fun e => h.sep k i kt _ h1 h3 hm hf (by simp) b' hb (hbj2 b' (hbj b' e))
   ·rw [hsk l l1 l2]
    exact h.sep k l kt lt hkl h3 l3 hf hn b' hb
 ·rcases hset k kt hk with ⟨rfl, rfl⟩ | ⟨rfl, rfl⟩ | ⟨h1, h2, h3⟩
  ·exact h.mine k _ hm (by simp) b' (hbs b' hb).1
  ·exact h.mine i _ hm (by simp) b' (hbj2 b' (hbj b' hb))
  ·rw [hsk k h1 h2] at hb
   exact h.mine k kt h3 hn b' hb
theorem En.takeGL {α : Type} {T : Ty α} {L : List (List α)} {l : List α} {i p tyo ty j : Nat} (hm : S.M[i]? = some (gridI tyo ty T L)) (hp : L[p]? = some l) (hj : S.M.length = j) (hkM : S.M.all (·.keepG i j) = true)
  (h : En c ⟨dropG i j S.F, S.M.set i (gridH tyo ty T L p (some (p, j))) ++ [rowI ty T l]⟩ N) : En c S N := fun a w ⟨g, hs, hk⟩ => by
 subst hj
 obtain ⟨hs', _, hk'⟩ := hk.takeG (p := p) (r := rowR T l) (m := l.length) hm (by rw [List.getElem?_map, hp]; rfl) hkM
 exact h a w ⟨g, hs', hk'⟩
theorem val_indexGH {α : Type} {T : Ty α} {L : List (List α)} {i tyo ty q : Nat} {link : Option (Nat × Nat)} {k : Int} {t el : Nat} {ti te : TI} {x ix : Operand} {ik : IntKind} (ht : tab.ok) (ho : o.op = .indexAddr t x ix) (h1 : tab t = some ti) (h2 : ti.sl = some el) (h3 : tab el = some te) (h4 : te.size = 1)
  (hx : evX S.F x = some (.sv (.one (.gs i 0)))) (hm : S.M[i]? = some (gridH tyo ty T L q link)) (hi : evK S.F ix = some (.int ik k)) (hk : 0 ≤ k ∧ k < (L.length : Int)) : Val c S o (.sv (.one (.ge i 0 k.toNat 1))) := fun a w g hs h => by
 have hv : a.eval x = gpart (hs i) 0 := (evX_ok h hx).1
 obtain ⟨us, ocs, _, _, r1, _⟩ := h.items i _ hm
 rw [List.length_set, List.length_map] at r1
 rw [← hv] at r1
 obtain ⟨b, of, cap, e1, e2⟩ := run_indexOwn (iv := a.eval ix) ht h1 h2 h3 h4 (by decide) r1 (evK_ok h hi) hk
 refine ⟨.pointer (some ⟨b, of + k.toNat * 1, none⟩), ?_, ⟨b, of, L.length, cap, by rw [← hv]; exact e1, rfl⟩, trivial⟩
 have : (execOp a.eval o) = (do pure (.value (← Instr.indexAt t (a.eval x) (a.eval ix))) : Sem Next) := by unfold execOp; rw [ho]
 rw [this]
 exact run_val e2
theorem val_loadGH {α : Type} {T : Ty α} {L : List (List α)} {i p j tyo ty t : Nat} {ti : TI} {x : Operand} (ht : tab.ok) (ho : o.op = .load t x) (h1 : tab t = some ti) (h3 : ti.agg = false)
  (hx : evX S.F x = some (.sv (.one (.ge i 0 p 1)))) (hm : S.M[i]? = some (gridH tyo ty T L p (some (p, j)))) : Val c S o (.sv (.one (.own j))) := fun a w g hs h => by
 obtain ⟨⟨b, of, nn, cap, e1, e2⟩, _⟩ := evX_ok h hx
 obtain ⟨us, ocs, _, _, r1, r2, _, _, r3, _⟩ := h.items i _ hm
 have hc0 := r3 p j rfl
 have htk := ht t ti h1
 obtain ⟨ao, m, cp, hsl⟩ := r2 _ (List.mem_of_getElem? hc0)
 have hcv : cellV (hs j) := by rw [hsl]; trivial
 have hlo : ocs.length = ((L.map fun l => some (rowR T l, l.length)).set p none).length := by have := r1.1; omega
 have hnn : nn = ((L.map fun l => some (rowR T l, l.length)).set p none).length := by
  obtain ⟨_, r⟩ := r1
  rcases r with ⟨e3, _⟩ | ⟨gb, of', cap', cur, e3, _⟩
  ·rw [e1] at e3; cases e3
  ·rw [e1] at e3; simp only [Value.slice.injEq] at e3; exact e3.2.1
 subst hnn
 have hc := own_cell (q := 0) r1 e1 (k := p) (j := 0) (u := hs j) (by rw [Nat.mul_one, Nat.add_zero]; exact hc0)
 rw [svs_add, Nat.add_zero, Nat.mul_one] at hc
 have : (execOp a.eval o) = (do pure (.value (← Instr.loadAt t (a.eval x))) : Sem Next) := by unfold execOp; rw [ho]
 rw [this]
 refine ⟨hs j, run_val ?_, rfl, hcv⟩
 simp only [Instr.loadAt, e2, Instr.sureAddr, loadVar, Sem.run_bind, Sem.run_pure, Result.andThen_ok, htk.run_isAgg]
 rw [h3]
 simp [load, Sem.run, hc]
end
end Go.Proofs.Ytapnmjeadbhffaa


namespace Go.Proofs.Ytapnmjeadbhffaa
open Go.RowKit Go.MapKept
set_option linter.unusedSimpArgs false
set_option linter.unusedVariables false
set_option maxRecDepth 100000
section
variable {c : Cfg} {S S1 : St} {a : Act} {w : World} {g : Gh} {hs : Nat → Value} {tab : Tab} {n : Nat} {o : Oper} {ops : Array Oper} {rest : List Oper} {N : Po}
end
end Go.Proofs.Ytapnmjeadbhffaa


namespace Go.Proofs.Ytapnmjeadbhffaa
open Go.RowKit Go.MapKept
set_option linter.unusedSimpArgs false
set_option linter.unusedVariables false
set_option maxRecDepth 100000
def PanC (c : Cfg) (ps : List PanicEntry → Prop) (bad : Prop) : Prop := ∀ ch a w' g', a.defers = c.dfr → ps ch → bad → Base c w' g' → c.pan ch a w'
def CtP {β : Type} (f : Nat) (ins : List SC) (M : List Item) (pin : List Nat) (post : β → Prop) (out : β → SC) (M' : β → List Item) (ps : List PanicEntry → Prop) (bad : Prop) : Prop := ∀ (w : World) (g : Gh) (hs : Nat → Value) (args : List Value), Pers g w → okArgs g hs ins args → ItemsOk (fun _ => True) 0 M g hs w →
 Calls Try.prog f args.toArray w (fun en w' => (∃ v g' hs' r, en = .returned v ∧ post r ∧ (out r).ok g' hs' v ∧ (∀ i ∈ pin, hs' i = hs i) ∧ Base (cfgM 0 w g (mayM M hs)) w' g' ∧ ItemsOk (mayM M hs) w.heap.size (M' r) g' hs' w') ∨
  ∃ ch g', en = .panicked ch ∧ ps ch ∧ bad ∧ Base (cfgM 0 w g (mayM M hs)) w' g')
def CtX (f : Nat) (ins : List SC) (M : List Item) (ps : List PanicEntry → Prop) : Prop := ∀ (w : World) (g : Gh) (hs : Nat → Value) (args : List Value), Pers g w → okArgs g hs ins args → ItemsOk (fun _ => True) 0 M g hs w →
 Calls Try.prog f args.toArray w (fun en w' => ∃ ch g', en = .panicked ch ∧ ps ch ∧ Base (cfgM 0 w g (mayM M hs)) w' g')
theorem CtP.toE {β γ : Type} {f : Nat} {ins : List SC} {M : List Item} {pin : List Nat} {post : β → Prop} {out : β → SC} {M1 : β → List Item} {ps : List PanicEntry → Prop} {post' : γ → Prop} {out' : γ → SC} {M2 : γ → List Item} (h : CtP f ins M pin post out M1 ps False) (hp : ∀ r, post r → ∃ s, post' s ∧ out' s = out r ∧ M2 s = M1 r) : CtE f ins M pin post' out' M2 := fun w g hs args h1 h2 h3 =>
 (h w g hs args h1 h2 h3).mono fun e w' k => by
  rcases k with ⟨v, g', hs', r, e1, e2, e3, e4⟩ | ⟨_, _, _, _, k, _⟩
  ·obtain ⟨s, s1, s2, s3⟩ := hp r e2
   exact ⟨v, g', hs', s, e1, s1, by rw [s2]; exact e3, by rw [s3]; exact e4⟩
  ·exact k.elim
theorem CtP.toX {β : Type} {f : Nat} {ins : List SC} {M : List Item} {pin : List Nat} {out : β → SC} {M1 : β → List Item} {ps : List PanicEntry → Prop} {P : Prop} (h : CtP f ins M pin (fun _ => False) out M1 ps P) : CtX f ins M ps := fun w g hs args h1 h2 h3 =>
 (h w g hs args h1 h2 h3).mono fun e w' k => by
  rcases k with ⟨_, _, _, _, _, k, _⟩ | ⟨ch, g', e1, e2, _, e4⟩
  ·exact k.elim
  ·exact ⟨ch, g', e1, e2, e4⟩
theorem Base.cast {c c' : Cfg} {w : World} {g : Gh} (h : Base c w g) (h1 : c'.w0 = c.w0) (h2 : c'.g0 = c.g0) (h3 : c'.may = c.may) : Base c' w g := by
 refine ⟨h1 ▸ h.os, h1 ▸ h.tape, h1 ▸ h.output, h1 ▸ h.grows, fun b hb hm => ?_, h2 ▸ h.ghle, fun b o e => ?_, h.pers⟩
 ·rw [h1] at hb ⊢
  rw [h3] at hm
  exact h.frame b hb hm
 ·rw [h1, h2, h3]
  exact h.ghnew b o e
theorem CtP.body {β : Type} {f : Nat} {fn : Func} {code : Code} {n : Nat} {rs : Array ResultVar} {ins : List SC} {M : List Item} {pin : List Nat} {post : β → Prop} {out : β → SC} {M' : β → List Item} {ps : List PanicEntry → Prop} {bad : Prop} (hf : Try.prog.funcs[f]? = some fn) (hb : fn.body = some code) (hn : fn.ntmps = n) (hr : fn.results = rs)
  (hl : Nat.ble ins.length n = true) (hpin : pinned pin ins = true) (h : ∀ (c : Cfg) (B : Nat → Nat), c.n = n → PanC c ps bad → En c ⟨enumF 0 (ins.map (pinS pin B)), M⟩ (cwp code (PQ c (RetE c rs pin B post out M') [] (RetE c rs pin B post out M')))) : CtP f ins M pin post out M' ps bad := fun w g hs args hp ha hm => by
 have hl := Nat.le_of_ble_eq_true hl
 have hla := okArgs_length ha
 have hB : ∀ i ∈ pin, hs i = .pointer (some ⟨(blk (hs i)).getD 0, 0, none⟩) := fun i hi => by
  obtain ⟨x, hx, e⟩ := List.any_eq_true.1 (List.all_eq_true.1 hpin i hi)
  split at e
  ·rename_i j
   have e := Nat.eq_of_beq_eq_true e
   subst e
   obtain ⟨u, ⟨b, h1, _⟩, _⟩ := okArgs_get ha hx
   rw [h1]
   rfl
  ·cases e
 let c : Cfg := ⟨n, w, g, mayM M hs, [], fun ch a w' => a.defers = [] ∧ ps ch ∧ bad ∧ ∃ g', Base (cfgM 0 w g (mayM M hs)) w' g'⟩
 have hpc : PanC c ps bad := fun ch a w' g' h1 h2 h3 h4 => ⟨h1, h2, h3, g', h4.cast rfl rfl rfl⟩
 refine calls_of_wp hf hb (Code.wp_mono (fun e a w' q => ?_) (h c (fun i => (blk (hs i)).getD 0) rfl hpc { tmps := args.toArray ++ Array.replicate (fn.ntmps - args.toArray.size) undef, defers := [] } w ⟨g, hs, ?_⟩))
 ·have key : RetE c rs pin (fun i => (blk (hs i)).getD 0) post out M' a w' → a.defers = [] ∧ ∃ v, (results fn a.tmps).run Try.prog w' = .ok v w' ∧ ((∃ v' g' hs' r, Ending.returned v = .returned v' ∧ post r ∧ (out r).ok g' hs' v' ∧ (∀ i ∈ pin, hs' i = hs i) ∧ Base (cfgM 0 w g (mayM M hs)) w' g' ∧ ItemsOk (mayM M hs) w.heap.size (M' r) g' hs' w') ∨ ∃ ch g', Ending.returned v = .panicked ch ∧ ps ch ∧ bad ∧ Base (cfgM 0 w g (mayM M hs)) w' g') := fun ⟨h1, v, g', hs', r, h2, h3, h4, h5, h6, h7⟩ => by
   refine ⟨h1, v, ?_, .inl ⟨v, g', hs', r, rfl, h3, h4, fun i hi => (h5 i hi).trans (hB i hi).symm, h6.cast rfl rfl rfl, h7⟩⟩
   subst hr
   exact h2
  cases e with
  | panic ch =>
   obtain ⟨q1, q2, q3, g', q4⟩ := (q : a.defers = [] ∧ ps ch ∧ bad ∧ ∃ g', Base (cfgM 0 w g (mayM M hs)) w' g')
   exact ⟨q1, .inr ⟨ch, g', rfl, q2, q3, q4⟩⟩
  | normal => exact key q
  | ret => exact key q
  | exit _ => exact (q : False).elim
  | goto _ => exact (q : False).elim
  | outgrown => exact (q : False).elim
 ·refine ⟨?_, rfl, ⟨rfl, rfl, rfl, Nat.le_refl _, fun _ _ _ => rfl, Gh.le.refl g, fun b o e => .inl e, hp⟩, fun t x hx => ?_, hm.items, hm.sep, fun i it hi hn b hb => ?_⟩
  ·simp [c, hn]
   omega
  ·obtain ⟨u, h1, _, h3⟩ := enumF_ok (okArgs_pin hB ha) hx
   simp only [Nat.sub_zero] at h1
   have hlt := (List.getElem?_eq_some_iff.1 h1).1
   have : (args.toArray ++ Array.replicate (fn.ntmps - args.toArray.size) undef).getD t undef = u := by
    rw [Array.getD_eq_getD_getElem?, Array.getElem?_append_left (by simpa using hlt)]
    simp [h1]
   rw [this]
   exact h3
  ·obtain ⟨h1, h2⟩ := hm.mine i it hi hn b hb
   exact ⟨h1, fun hf => ⟨.inl ⟨i, it, hi, hf, hb⟩, (h2 hf).2⟩⟩
theorem splitO {α : Type} {p : Prop} (o : Option α) (h1 : o = none → p) (h2 : ∀ r, o = some r → p) : p := by
 cases h : o with
 | none => exact h1 h
 | some r => exact h2 r h
def deadR : Rd := ⟨fun _ _ => False, fun _ _ _ _ h => h⟩
section
variable {c : Cfg} {S S1 : St} {a : Act} {w : World} {g : Gh} {hs : Nat → Value} {tab : Tab} {n : Nat} {o : Oper} {ops : Array Oper} {rest : List Oper} {N : Po}
theorem Base.callM (h : Ok' c S a w g hs) {M : List Item} {rn : List Nat} (hM : M.map (fun it => some (it.mv (rnF rn S.M.length))) = rn.map (fun j => S.M[j]?)) {w' : World} {g' : Gh} (hb : Base (cfgM 0 w g (mayM M (fun i => hs (rnF rn S.M.length i)))) w' g') : Base c w' g' := by
 have hat : ∀ (i : Nat) (it : Item), M[i]? = some it → ∃ j, rn[i]? = some j ∧ rnF rn S.M.length i = j ∧ S.M[j]? = some (it.mv (rnF rn S.M.length)) := fun i it hi => by
  have := congrArg (·[i]?) hM
  simp only [List.getElem?_map, hi, Option.map_some] at this
  cases hr : rn[i]? with
  | none => rw [hr] at this; simp at this
  | some j =>
   rw [hr] at this
   simp at this
   have hlt := (List.getElem?_eq_some_iff.1 hr).1
   refine ⟨j, rfl, ?_, this.symm⟩
   unfold rnF
   rw [show Nat.blt i rn.length = true from by simpa [Nat.blt_eq] using hlt]
   simp [hr]
 have hmay : ∀ b, mayM M (fun i => hs (rnF rn S.M.length i)) b → ∃ j it, S.M[j]? = some it ∧ it.fz = false ∧ Blk (hs j) b := fun b ⟨i, it, h1, h2, h3⟩ => by
  obtain ⟨j, _, h4, h5⟩ := hat i it h1
  simp only [h4] at h3
  exact ⟨j, _, h5, by rw [Item.mv_fz]; exact h2, h3⟩
 refine ⟨hb.os.trans h.base.os, hb.tape.trans h.base.tape, hb.output.trans h.base.output, Nat.le_trans h.base.grows hb.grows, fun b hb1 hm => ?_, h.base.ghle.trans hb.ghle, fun b o e => ?_, hb.pers⟩
 ·refine (hb.frame b (Nat.lt_of_lt_of_le hb1 h.base.grows) fun hm2 => ?_).trans (h.base.frame b hb1 hm)
  obtain ⟨j, jt, h8, h9, h10⟩ := hmay b hm2
  rcases ((h.mine j jt h8 (fz_gone h9) b h10).2 h9).1 with h11 | h11
  ·exact hm h11
  ·omega
 ·rcases hb.ghnew b o e with h1 | h1 | h1
  ·exact h.base.ghnew b o h1
  ·obtain ⟨j, jt, h8, h9, h10⟩ := hmay b h1
   exact .inr ((h.mine j jt h8 (fz_gone h9) b h10).2 h9).1
  ·exact .inr (.inr (Nat.le_trans h.base.grows h1))
def LeftX (c : Cfg) (S : St) (M : List Item) (rn : List Nat) (ps : List PanicEntry → Prop) : Prop := ∀ a w g hs, Ok' c S a w g hs → ∀ ch w' g', ps ch → Base (cfgM 0 w g (mayM M (fun i => hs (rnF rn S.M.length i)))) w' g' → Base c w' g' → c.pan ch a w'
theorem leftX {M : List Item} {rn : List Nat} {ps : List PanicEntry → Prop} {P : Prop} (hpan : PanC c ps P) (hP : P) : LeftX c S M rn ps := fun a w g hs hk ch w' g' h1 _ h2 => hpan ch a w' g' hk.defers h1 hP h2
theorem mt_callX {f : Nat} {ins : List SC} {M : List Item} {ps : List PanicEntry → Prop} {x : SC} {K : List Nat} {p : Option (Nat × Item)} (ct : CtX f ins M ps) (en : ∀ args w, (callFunc f args).run Try.prog w = .ok (.enter f args) w) {caps : List Nat} (rn : List Nat) {fo : Operand} {args : Array Operand} {ats : Array TypeId}
  (ho : o.op = .call ⟨.value fo, args, ats⟩) (hf : evX S.F fo = some (.sv (.one (.fn f caps)))) (ha : ArgsAs c S args caps (ins.map (SC.ren (rnF rn S.M.length))))
  (hM : M.map (fun it => some (it.mv (rnF rn S.M.length))) = rn.map (fun j => S.M[j]?)) (hnd : rn.Nodup) (hpan : LeftX c S M rn ps) : MT c S o x K p := fun a w g hs hk N Z hN => by
 unfold Oper.wp
 have hfv : a.eval fo = .func (.func f) #[] (caps.map hs).toArray := (evX_ok hk hf).1
 have hrun : (execOp a.eval o).run Try.prog w = .ok (.enter f ((args.toList.map a.eval) ++ caps.map hs).toArray) w := by
  unfold execOp
  simp only [ho, resolve, hfv, Deferred.ofValue, Sem.run_bind, Sem.run_pure, Result.andThen_ok, invoke]
  rw [show (#[] ++ Array.map a.eval args ++ (List.map hs caps).toArray : Array Value) = (args.toList.map a.eval ++ caps.map hs).toArray by simp]
  exact en _ _
 rw [hrun]
 refine (ct w g (fun i => hs (rnF rn S.M.length i)) _ hk.base.pers (okArgs_ren (ha a w g hs hk)) (items_in hk hM hnd)).mono ?_
 rintro e' w' ⟨ch, g', rfl, h1, h2⟩
 exact hpan a w g hs hk ch w' g' h1 h2 (Base.callM hk hM h2)
theorem WL.callX {f : Nat} {ins : List SC} {M : List Item} {ps : List PanicEntry → Prop} (ct : CtX f ins M ps) (en : ∀ args w, (callFunc f args).run Try.prog w = .ok (.enter f args) w) {caps : List Nat} (rn : List Nat) {fo : Operand} {args : Array Operand} {ats : Array TypeId}
  (hw : wantE ops S.F o = some true) (ho : o.op = .call ⟨.value fo, args, ats⟩) (hf : evX S.F fo = some (.sv (.one (.fn f caps)))) (ha : ArgsAs c S args caps (ins.map (SC.ren (rnF rn S.M.length))))
  (hM : M.map (fun it => some (it.mv (rnF rn S.M.length))) = rn.map (fun j => S.M[j]?)) (hnd : rn.Nodup) (hpan : LeftX c S M rn ps) : WL c ops (o :: rest) S N := fun a w ⟨g, hs, hk⟩ => by
 unfold wpList
 rw [if_pos (wantE_ok hk hw)]
 exact .inl (mt_callX (x := .sv (.one (.rd deadR))) (K := []) (p := none) ct en rn ho hf ha hM hnd hpan a w g hs hk _ N fun v w' g' h' _ h2 _ => absurd h2.1 (fun h => h))
theorem mt_dead {x : SC} {K : List Nat} {p : Option (Nat × Item)} (t : Nat) (hl : look t S.F = some (.sv (.one (.rd deadR)))) : MT c S o x K p := fun a w g hs hk N Z hN => absurd (hk.slots t _ (look_mem hl)).1 (fun h => h)
theorem En.dead (t : Nat) (hl : look t S.F = some (.sv (.one (.rd deadR)))) : En c S N := fun a w ⟨g, hs, hk⟩ => absurd (hk.slots t _ (look_mem hl)).1 (fun h => h)
def psStop (ty : Nat) (ch : List PanicEntry) : Prop := ∃ code at_ : Int, code ≠ 0 ∧ ch = [{ v := .iface ty (.agg #[.int .i64 code, .int .i64 at_]), recovered := false }]
theorem WL.panicI {ty d : Nat} {fs : Array Field} {o1 o2 : Oper} {x : Operand} {code at_ : Int} {P : Prop} (hn : c.n = n) (hw1 : wantE ops S.F o1 = some true) (ho1 : o1.op = .makeInterface ty x) (hd : o1.dst = some d) (hdn : Nat.blt d n = true) (hu : Try.prog.underlying ty = some (.struct fs)) (hx : evX S.F x = some (.sv (.agg [I code, I at_])))
  (hw2 : wantE ops S.F o2 = some true) (hg2 : o2.guard = none) (ho2 : o2.op = .panic (.tmp d)) (hc : code ≠ 0) (hpan : PanC c (psStop ty) P) (hP : P) : WL c ops (o1 :: o2 :: rest) S N := fun a w ⟨g, hs, hk⟩ => by
 unfold wpList
 rw [if_pos (wantE_ok hk hw1)]
 refine .inl ?_
 unfold Oper.wp
 obtain ⟨cs, h1, h2⟩ := evX_ok hk hx
 have hcs : cs = [.int .i64 code, .int .i64 at_] := by
  match cs, h2 with
  | [c1, c2], h2 =>
   have e1 : c1 = .int .i64 code := h2.1.1
   have e2 : c2 = .int .i64 at_ := h2.2.2.1.1
   rw [e1, e2]
 subst hcs
 have hrun : (execOp a.eval o1).run Try.prog w = .ok (.value (.iface ty (.agg #[.int .i64 code, .int .i64 at_]))) w := by
  have : execOp a.eval o1 = (do pure (.value (← Instr.makeInterface ty (a.eval x))) : Sem Next) := by unfold execOp; rw [ho1]
  rw [this]
  refine run_val ?_
  simp only [Instr.makeInterface, Sem.run_bind, run_underlying hu, Result.andThen_ok, h1, Sem.run_pure]
 rw [hrun]
 show wpList Try.prog ops (OnlyP c N) (o2 :: rest) _ w
 unfold wpList
 have hwant : Region.wanted o2 (yielded ops (a.put o1.dst (.iface ty (.agg #[.int .i64 code, .int .i64 at_]))).tmps) = true := by unfold Region.wanted; rw [hg2]
 rw [if_pos hwant]
 refine .inl ?_
 unfold Oper.wp
 have hev : (a.put o1.dst (.iface ty (.agg #[.int .i64 code, .int .i64 at_]))).eval (.tmp d) = .iface ty (.agg #[.int .i64 code, .int .i64 at_]) := by
  rw [hd]
  have hsz : d < a.tmps.size := by rw [hk.size, hn]; exact Nat.le_of_ble_eq_true hdn
  simp [Act.put, Act.eval, hsz]
 have hrun2 : (execOp (a.put o1.dst (.iface ty (.agg #[.int .i64 code, .int .i64 at_]))).eval o2).run Try.prog w = .halt (.panic (.iface ty (.agg #[.int .i64 code, .int .i64 at_]))) w := by
  have : execOp (a.put o1.dst (.iface ty (.agg #[.int .i64 code, .int .i64 at_]))).eval o2 = (do pure (.value (← Instr.panic ((a.put o1.dst (.iface ty (.agg #[.int .i64 code, .int .i64 at_]))).eval (.tmp d)))) : Sem Next) := by unfold execOp; rw [ho2]
  rw [this, hev]
  rfl
 rw [hrun2]
 refine hpan _ _ w g ?_ ⟨code, at_, hc, rfl⟩ hP hk.base
 rw [hd]
 exact hk.defers
end
end Go.Proofs.Ytapnmjeadbhffaa


namespace Go.Proofs.Ytapnmjeadbhffaa
open Go.RowKit Go.MapKept
set_option linter.unusedSimpArgs false
set_option linter.unusedVariables false
set_option maxRecDepth 100000
def byteAt (s : ByteArray) (i : Int) : Option Int := if 0 ≤ i then (s[i.toNat]?).map (fun b => ((b.toNat : Nat) : Int)) else none
section
variable {c : Cfg} {S S1 : St} {a : Act} {w : World} {g : Gh} {hs : Nat → Value} {tab : Tab} {n : Nat} {o : Oper} {ops : Array Oper} {rest : List Oper} {N : Po}
theorem val_indexS {x ix : Operand} {t : Nat} {s : ByteArray} {k : IntKind} {i b : Int} (ho : o.op = .index t x ix) (hu : Try.prog.underlying t = some .string) (hx : evX S.F x = some (.sv (.one (.v (.string s))))) (hi : evK S.F ix = some (.int k i)) (hb : byteAt s i = some b) : Val c S o (.sv (.one (.v (.int .u8 b)))) := fun a w g hs h => by
 have h1 : a.eval x = .string s := (evX_ok h hx).1
 unfold byteAt at hb
 split at hb
 ·rename_i h0
  cases hs : s[i.toNat]? with
  | none => rw [hs] at hb; cases hb
  | some y =>
   rw [hs] at hb
   simp at hb
   subst hb
   refine ⟨.int .u8 (y.toNat : Int), ?_, rfl, trivial⟩
   have e : execOp a.eval o = (do pure (.value (← Instr.index t (a.eval x) (a.eval ix))) : Sem Next) := by unfold execOp; rw [ho]
   rw [e]
   refine run_val ?_
   simp only [Instr.index, evK_ok h hi, asIntOf, h1, Sem.run_bind, Sem.run_pure, Result.andThen_ok, run_underlying hu, if_pos h0, hs]
 ·cases hb
theorem val_ext2 {f : Nat} {fo x y : Operand} {ats : Array TypeId} {u v r : Value} (hrun : ∀ w, (callFunc f #[u, v]).run Try.prog w = .ok (.value r) w) (hr : cellV r) (ho : o.op = .call ⟨.value fo, #[x, y], ats⟩) (hf : evX S.F fo = some (.sv (.one (.fn f [])))) (hx : evX S.F x = some (.sv (.one (.v u)))) (hy : evX S.F y = some (.sv (.one (.v v)))) : Val c S o (.sv (.one (.v r))) := fun a w g hs h => by
 have h1 : a.eval x = u := (evX_ok h hx).1
 have h2 : a.eval y = v := (evX_ok h hy).1
 have hfv : a.eval fo = .func (.func f) #[] #[] := (evX_ok h hf).1
 refine ⟨r, ?_, rfl, hr⟩
 unfold execOp
 simp only [ho, resolve, hfv, Deferred.ofValue, Sem.run_bind, Sem.run_pure, Result.andThen_ok, invoke]
 have e : (#[] ++ Array.map a.eval #[x, y] ++ #[] : Array Value) = #[u, v] := by simp [h1, h2]
 rw [e]
 exact hrun w
theorem val_lenS {x : Operand} {t : Nat} {s : ByteArray} (ho : o.op = .call ⟨.builtin .len, #[x], #[t]⟩) (hu : Try.prog.underlying t = some .string) (hx : evX S.F x = some (.sv (.one (.v (.string s))))) : Val c S o (.sv (.one (I (s.size : Int)))) := fun a w g hs h => by
 have h1 : a.eval x = .string s := (evX_ok h hx).1
 refine ⟨.int .i64 s.size, ?_, rfl, trivial⟩
 have e : execOp a.eval o = (do pure (.value (← Builtin.len_ #[t] o.type #[a.eval x])) : Sem Next) := by
  unfold execOp
  rw [ho]
  simp [resolve, invoke, builtin]
 rw [e, h1]
 refine run_val ?_
 simp [Builtin.len_, run_underlying hu, goInt]
end
inductive Tr (α : Type) where
 | node (a : α) (kids : List (Tr α))
def Tr.lab {α : Type} : Tr α → α
 | .node a _ => a
def Tr.kids {α : Type} : Tr α → List (Tr α)
 | .node _ l => l
inductive TrOk {α : Type} (lab : α → List Value) (g : Gh) : Tr α → Value → Prop
 | mk (a : α) (kids : List (Tr α)) (b off : Nat) (ao : Option Addr) (cap b' o' : Nat) (us : Nat → Value)
   (h1 : ∀ j c, (lab a)[j]? = some c → g.cell ⟨b, off + j, none⟩ = some c) (h2 : g.cell ⟨b, off + (lab a).length, none⟩ = some (.slice ao kids.length cap))
   (h3 : kids.length ≤ cap) (h4 : cap ≤ maxLen) (h5 : ao = none → cap = 0) (h6 : 0 < kids.length → ao = some ⟨b', o', none⟩)
   (h7 : ∀ q x, kids[q]? = some x → g.cell ⟨b', o' + q, none⟩ = some (us q)) (h8 : ∀ q x, kids[q]? = some x → TrOk lab g x (us q)) : TrOk lab g (.node a kids) (.pointer (some ⟨b, off, none⟩))
theorem TrOk.mono {α : Type} {lab : α → List Value} {g g' : Gh} (hg : Gh.le g g') {t : Tr α} {v : Value} (h : TrOk lab g t v) : TrOk lab g' t v := by
 induction h with
 | mk a kids b off ao cap b' o' us h1 h2 h3 h4 h5 h6 h7 h8 ih => exact .mk a kids b off ao cap b' o' us (fun j c hj => Gh.cell_up hg (h1 j c hj)) (Gh.cell_up hg h2) h3 h4 h5 h6 (fun q x hx => Gh.cell_up hg (h7 q x hx)) ih
theorem TrOk.ptr {α : Type} {lab : α → List Value} {g : Gh} {t : Tr α} {v : Value} (h : TrOk lab g t v) : ∃ b off, v = .pointer (some ⟨b, off, none⟩) := by
 cases h
 exact ⟨_, _, rfl⟩
def trR {α : Type} (lab : α → List Value) (t : Tr α) : Rd := ⟨fun g v => TrOk lab g t v, fun _ _ _ hg h => h.mono hg⟩
abbrev TT {α : Type} (lab : α → List Value) : Ty (Tr α) := ⟨1, fun t => .one (.rd (trR lab t))⟩
def nodeS {α : Type} (lab : α → List Value) (a : α) (kids : List (Tr α)) : List At := (lab a).map .v ++ [LS (TT lab) kids]
theorem oks_vals {g : Gh} {hs : Nat → Value} : ∀ {l : List Value}, (∀ c ∈ l, cellV c) → oks g hs (l.map .v) l
 | [], _ => trivial
 | c :: _, h => ⟨⟨rfl, h c List.mem_cons_self⟩, h c List.mem_cons_self, oks_vals fun x hx => h x (List.mem_cons_of_mem _ hx)⟩
theorem vals_oks {g : Gh} {hs : Nat → Value} : ∀ {l us : List Value}, oks g hs (l.map .v) us → us = l
 | [], [], _ => rfl
 | [], _ :: _, h => h.elim
 | _ :: _, [], h => h.elim
 | c :: l, u :: us, h => by
  have h1 : u = c := h.1.1
  rw [h1, vals_oks h.2.2]
theorem oks_split {g : Gh} {hs : Nat → Value} : ∀ {l l' : List At} {us : List Value}, oks g hs (l ++ l') us → ∃ u1 u2, us = u1 ++ u2 ∧ oks g hs l u1 ∧ oks g hs l' u2
 | [], l', us, h => ⟨[], us, rfl, trivial, h⟩
 | _ :: _, _, [], h => h.elim
 | _ :: _, _, u :: _, h => by
  obtain ⟨u1, u2, e, h1, h2⟩ := oks_split h.2.2
  exact ⟨u :: u1, u2, by rw [e]; rfl, ⟨h.1, h.2.1, h1⟩, h2⟩
theorem oks_join {g : Gh} {hs : Nat → Value} : ∀ {l l' : List At} {us us' : List Value}, oks g hs l us → oks g hs l' us' → oks g hs (l ++ l') (us ++ us')
 | [], _, [], _, _, h => h
 | [], _, _ :: _, _, h, _ => h.elim
 | _ :: _, _, [], _, h, _ => h.elim
 | _ :: _, _, _ :: _, _, h, h' => ⟨h.1, h.2.1, oks_join h.2.2 h'⟩
theorem tr_pe {α : Type} {lab : α → List Value} (hl : ∀ a, ∀ c ∈ lab a, cellV c) {g : Gh} {t : Tr α} {v : Value} (h : TrOk lab g t v) : ptrTo (svR (.agg (nodeS lab t.lab t.kids))) ((lab t.lab).length + 1) g v := by
 cases h with
 | mk a kids b off ao cap b' o' us h1 h2 h3 h4 h5 h6 h7 h8 =>
  have hLS : oks g hs0 [LS (TT lab) kids] [Value.slice ao kids.length cap] := by
   refine ⟨⟨⟨⟨ao, kids.length, cap, rfl, rfl, h3, h4, h5, fun q x hx => ?_⟩, ao, cap, rfl⟩, trivial⟩, trivial, trivial⟩
   have hq := (List.getElem?_eq_some_iff.1 hx).1
   obtain ⟨b2, o2, e⟩ := (h8 q x hx).ptr
   have hc : (us q).cells = #[us q] := by rw [e]; rfl
   refine ⟨b', o', us q, h6 (by omega), ⟨h8 q x hx, by rw [e]; trivial⟩, by rw [hc]; rfl, fun j c hj => ?_⟩
   rw [hc] at hj
   cases j with
   | zero =>
    simp at hj
    subst hj
    have := h7 q x hx
    simpa using this
   | succ j => simp at hj
  refine ⟨b, off, .agg (lab a ++ [Value.slice ao kids.length cap]).toArray, rfl, ⟨_, rfl, oks_join (oks_vals (hl a)) hLS⟩, by simp [Value.cells, Tr.lab], fun j c hj => ?_⟩
  have hj : (lab a ++ [Value.slice ao kids.length cap])[j]? = some c := by simpa [Value.cells] using hj
  rw [List.getElem?_append] at hj
  split at hj
  ·exact h1 j c hj
  ·rename_i hn
   have : j = (lab a).length := by
    have := (List.getElem?_eq_some_iff.1 hj).1
    simp at this
    omega
   subst this
   simp at hj
   subst hj
   exact h2
theorem pe_tr {α : Type} {lab : α → List Value} {g : Gh} {a : α} {kids : List (Tr α)} {v : Value} (h : ptrTo (svR (.agg (nodeS lab a kids))) ((lab a).length + 1) g v) : TrOk lab g (.node a kids) v := by
 obtain ⟨b, off, x, rfl, ⟨cs, rfl, h1⟩, _, h2⟩ := h
 obtain ⟨u1, u2, rfl, k1, k2⟩ := oks_split h1
 have := vals_oks k1
 subst this
 match u2, k2 with
 | [u], k2 =>
  obtain ⟨⟨⟨ao, n, cap, rfl, rfl, h3, h4, h5, h6⟩, _⟩, _⟩ := k2.1
  have hc : ∀ j c, (lab a ++ [Value.slice ao kids.length cap])[j]? = some c → g.cell ⟨b, off + j, none⟩ = some c := fun j c hj => h2 j c (by simpa [Value.cells] using hj)
  have key : ∀ q, ∃ u : Value, ∀ x, kids[q]? = some x → ∃ b o, ao = some ⟨b, o, none⟩ ∧ TrOk lab g x u ∧ g.cell ⟨b, o + q, none⟩ = some u := fun q => by
   cases hq : kids[q]? with
   | none => exact ⟨undef, fun x hx => by cases hx⟩
   | some x =>
    obtain ⟨b', o', u, e, k3, k4, k5⟩ := h6 q x hq
    refine ⟨u, fun y hy => ?_⟩
    cases hy
    have k3 : TrOk lab g x u := k3.1
    obtain ⟨b2, o2, e2⟩ := k3.ptr
    have := k5 0 u (by rw [e2]; rfl)
    refine ⟨b', o', e, k3, ?_⟩
    simpa using this
  have hao : 0 < kids.length → ∃ b o, ao = some ⟨b, o, none⟩ := fun hp => by
   obtain ⟨b', o', u, e, _⟩ := h6 0 kids[0] (by simp [hp])
   exact ⟨b', o', e⟩
  by_cases hp : 0 < kids.length
  ·obtain ⟨b', o', rfl⟩ := hao hp
   refine .mk a kids b off _ cap b' o' (fun q => (key q).choose) (fun j c hj => hc j c (by rw [List.getElem?_append_left (List.getElem?_eq_some_iff.1 hj).1]; exact hj)) (hc _ _ (by simp)) h3 h4 h5 (fun _ => rfl) (fun q x hx => ?_) (fun q x hx => ?_)
   ·obtain ⟨b2, o2, e, _, k⟩ := (key q).choose_spec x hx
    cases e
    exact k
   ·obtain ⟨b2, o2, e, k, _⟩ := (key q).choose_spec x hx
    exact k
  ·have hk : kids = [] := by
    cases kids with
    | nil => rfl
    | cons _ _ => simp at hp
   subst hk
   exact .mk a [] b off ao cap 0 0 (fun _ => undef) (fun j c hj => hc j c (by rw [List.getElem?_append_left (List.getElem?_eq_some_iff.1 hj).1]; exact hj)) (hc _ _ (by simp)) h3 h4 h5 (fun h => by simp at h) (fun q x hx => by simp at hx) (fun q x hx => by simp at hx)
section
variable {c : Cfg} {S S1 : St} {a : Act} {w : World} {g : Gh} {hs : Nat → Value} {tab : Tab} {n : Nat} {o : Oper} {ops : Array Oper} {rest : List Oper} {N : Po}
theorem tree_of {α : Type} {lab : α → List Value} {x : α} {kids : List (Tr α)} {i ty : Nat} {cells : List At} {k : Nat} (hm : S.M[i]? = some (.box cells ty true)) (hc : cells = nodeS lab x kids) (hk : (lab x).length + 1 = k) : ∀ a w g hs, Ok' c S a w g hs → ∀ u, SC.ok g hs (.sv (.one (.ptr i 0))) u → SC.ok g hs (.sv (.one (.rd (trR lab (.node x kids))))) u := fun a w g hs h u hu => by
 obtain ⟨⟨b, h1, rfl⟩, _⟩ := hu
 obtain ⟨b', cs, h2, h3, h4, h5⟩ := h.items i _ hm
 rw [h1] at h2
 simp at h2
 subst h2
 subst hc
 have hg := h5 rfl
 have hrefs : (nodeS lab x kids).flatMap At.refs = [] := by
  unfold nodeS
  rw [List.flatMap_append]
  have : ((lab x).map At.v).flatMap At.refs = [] := by
   induction lab x with
   | nil => rfl
   | cons y l ih => simp [At.refs, ih]
  rw [this]
  rfl
 refine ⟨pe_tr ⟨b, 0, .agg cs.toArray, rfl, ⟨cs, rfl, oks_hs (fun i hi => by rw [hrefs] at hi; cases hi) h3⟩, ?_, fun j c hj => ?_⟩, trivial⟩
 ·have := oks_length h3
  simp only [nodeS, List.length_append, List.length_map, List.length_cons, List.length_nil] at this
  simp [Value.cells, ← this]
 ·unfold Gh.cell
  rw [hg]
  simpa [Value.cells] using hj
theorem node_of {α : Type} {lab : α → List Value} (hl : ∀ a, ∀ c ∈ lab a, cellV c) {t : Tr α} {s : SV} {k : Nat} (hs : SV.agg (nodeS lab t.lab t.kids) = s) (hk : (lab t.lab).length + 1 = k) : ∀ a w g hs', Ok' c S a w g hs' → ∀ u, SC.ok g hs' (.sv (.one (.rd (trR lab t)))) u → SC.ok g hs' (.sv (.one (.pe (svR s) k))) u := fun a w g hs' _ u hu => by
 subst hs hk
 exact ⟨tr_pe hl hu.1, hu.2⟩
theorem val_node {α : Type} {lab : α → List Value} (hl : ∀ a, ∀ c ∈ lab a, cellV c) {t : Tr α} {s : SV} {k : Nat} {x : Operand} (ho : o.op = .nilCheck x) (hx : evX S.F x = some (.sv (.one (.rd (trR lab t))))) (hs : SV.agg (nodeS lab t.lab t.kids) = s) (hk : (lab t.lab).length + 1 = k) : Val c S o (.sv (.one (.pe (svR s) k))) := fun a w g hs' h => by
 have h1 := evX_ok h hx
 have h2 : TrOk lab g t (a.eval x) := h1.1
 obtain ⟨b, off, e⟩ := h2.ptr
 exact ⟨a.eval x, by simp [execOp, ho, e], node_of hl hs hk a w g hs' h _ h1⟩
def optR {α : Type} (lab : α → List Value) (o : Option (Tr α)) : Rd := ⟨fun g v => match o with
 | none => v = .pointer none
 | some t => TrOk lab g t v, fun g g' v hg h => by
  cases o with
  | none => exact h
  | some t => exact h.mono hg⟩
theorem some_of {α : Type} {lab : α → List Value} {o : Option (Tr α)} {t : Tr α} (h : o = some t) : ∀ a w g hs, Ok' c S a w g hs → ∀ u, SC.ok g hs (.sv (.one (.rd (optR lab o)))) u → SC.ok g hs (.sv (.one (.rd (trR lab t)))) u := fun a w g hs _ u hu => by
 subst h
 exact hu
end
end Go.Proofs.Ytapnmjeadbhffaa


namespace Go.Proofs.Ytapnmjeadbhffaa
open Go.RowKit Go.MapKept
set_option linter.unusedSimpArgs false
set_option linter.unusedVariables false
set_option maxRecDepth 100000
structure RLab where
 fKind : Int
 fLetter : Int
deriving DecidableEq, Inhabited
def rLab (a : RLab) : List Value := [.int .i64 a.fKind, .int .i64 a.fLetter]
theorem rLabH : ∀ a, ∀ c ∈ rLab a, cellV c := fun a c h => by
 simp only [rLab, List.mem_cons, List.not_mem_nil, or_false] at h
 rcases h with rfl | rfl <;> trivial
def chr (text : ByteArray) (i : Int) : Int := (byteAt text i).getD 0
theorem byteAt_ok {text : ByteArray} {i : Int} (h0 : 0 ≤ i) (h1 : i < text.size) : byteAt text i = some (chr text i) := by
 unfold chr byteAt
 rw [if_pos h0]
 have : i.toNat < text.size := by omega
 simp [this]
theorem chr_end {text : ByteArray} {i : Int} (h1 : text.size ≤ i) : chr text i = 0 := by
 unfold chr byteAt
 split
 ·have : ¬ i.toNat < text.size := by omega
  simp [this]
 ·rfl
def rNow_vc (text : ByteArray) (pos : Int) (deep : Int) (Q : Int × Int × Int → Prop) : Prop :=
 IfP (pos == (text.size : Int)) (Q (0, pos, deep)) (∃ b, byteAt text pos = some b ∧
 Q (b, pos, deep))
theorem rNow_walk (text : ByteArray) (pos : Int) (deep : Int) (Q : Int × Int × Int → Prop) (h : rNow_vc text pos deep Q) : CtE 209 [.sv (.one (.ptr 0 0))] [.box [.v (.string text), I pos, I deep] 268 false] [0] Q (fun (r : Int × Int × Int) => .sv (.one (.v (.int .u8 r.1)))) (fun (r : Int × Int × Int) => [.box [.v (.string text), I r.2.1, I r.2.2] 268 false]) := by
 have ht := tab_ok
 refine CtE.body Try.func209 rfl rfl rfl (by kernel_rfl) (by kernel_rfl) (fun c Bk hn => ?_)
 unfold rNow_vc at h
 show En c ⟨[sl 0 (.pptr 0 0 (Bk 0))], [.box [.v (.string text), I pos, I deep] 268 false]⟩ _
 refine En.seq ?_
 refine En.region ?_
 refine WL.run ht hn 1 ⟨[sl 0 (.pptr 0 0 (Bk 0))], [.box [.v (.string text), I pos, I deep] 268 false]⟩ (by kernel_rfl) ?_
 refine WL.nil ?_
 refine En.seq ?_
 refine En.seq ?_
 refine En.regionS (by kernel_rfl) (by kernel_rfl) ?_
 refine SL.run ht hn 8 ⟨[sl 0 (.pptr 0 0 (Bk 0)), sl 3 (.ptr 0 0), sl 4 (.ptr 0 0), sl 5 (.ptr 0 1), sl 6 (I pos), sl 7 (.ptr 0 0), sl 8 (.ptr 0 0), sl 9 (.ptr 0 0), sl 10 (.v (.string text))], [.box [.v (.string text), I pos, I deep] 268 false]⟩ (by kernel_rfl) ?_
 refine SL.val hn (by rfl) (val_lenS (s := text) rfl Try.underlying9 (by rfl)) (by rfl) ?_
 refine SL.run ht hn 1 ⟨[sl 0 (.pptr 0 0 (Bk 0)), sl 3 (.ptr 0 0), sl 4 (.ptr 0 0), sl 5 (.ptr 0 1), sl 6 (I pos), sl 7 (.ptr 0 0), sl 8 (.ptr 0 0), sl 9 (.ptr 0 0), sl 10 (.v (.string text)), sl 11 (I (text.size : Int)), sl 12 (B (pos == (text.size : Int)))], [.box [.v (.string text), I pos, I deep] 268 false]⟩ (by kernel_rfl) ?_
 refine SL.nil ⟨by kernel_rfl, ?_⟩
 refine En.cond (b := (pos == (text.size : Int))) (by kernel_rfl) (fun hb => ?_) (fun hb => ?_)
 replace h := h.1 hb
 refine En.seq ?_
 refine En.region ?_
 refine WL.run ht hn 1 ⟨[sl 0 (.pptr 0 0 (Bk 0)), sl 2 (.v (.int .u8 0))], [.box [.v (.string text), I pos, I deep] 268 false]⟩ (by kernel_rfl) ?_
 refine WL.nil ?_
 refine En.ret ?_
 exact En.backE [0] ht (0, pos, deep) h (by kernel_rfl) (by rfl) rfl
 replace h := h.2 hb
 refine En.skip ?_
 refine En.seq ?_
 obtain ⟨b, hb_2, h⟩ := h
 refine En.regionA ⟨[sl 0 (.pptr 0 0 (Bk 0))], [.sv (.one (.ptr 0 0)), .sv (.one (.ptr 0 0)), .sv (.one (.ptr 0 0)), .sv (.one (.v (.string text))), .sv (.one (.ptr 0 0)), .sv (.one (.ptr 0 0)), .sv (.one (.ptr 0 1)), .sv (.one (I pos)), .sv (.one (.v (.int .u8 b))), .sv (.one (.v (.int .u8 b)))], [⟨.box [.v (.string text), I pos, I deep] 268 false, none, none, none⟩]⟩ ⟨[sl 0 (.pptr 0 0 (Bk 0)), sl 2 (.v (.int .u8 b))], [.box [.v (.string text), I pos, I deep] 268 false]⟩ (by kernel_rfl) hn (by kernel_rfl) (by rfl) (by kernel_rfl) ?_ (by kernel_rfl) ?_
 exact ⟨.mt ⟨[sl 0 (.pptr 0 0 (Bk 0))], []⟩ [] none (by kernel_rfl) (by rfl) (mt_ev ht (by kernel_rfl)) rfl rfl rfl rfl,
 .mt ⟨[sl 13 (.ptr 0 0)], []⟩ [] none (by kernel_rfl) (by rfl) (mt_ev ht (by kernel_rfl)) rfl rfl rfl rfl,
 .mt ⟨[sl 14 (.ptr 0 0)], []⟩ [] none (by kernel_rfl) (by rfl) (mt_ev ht (by kernel_rfl)) rfl rfl rfl rfl,
 .mt ⟨[sl 15 (.ptr 0 0)], [.box [.v (.string text), I pos, I deep] 268 false]⟩ [] none (by kernel_rfl) (by rfl) (mt_ev ht (by kernel_rfl)) rfl rfl rfl rfl,
 .mt ⟨[sl 0 (.pptr 0 0 (Bk 0))], []⟩ [] none (by kernel_rfl) (by rfl) (mt_ev ht (by kernel_rfl)) rfl rfl rfl rfl,
 .mt ⟨[sl 17 (.ptr 0 0)], []⟩ [] none (by kernel_rfl) (by rfl) (mt_ev ht (by kernel_rfl)) rfl rfl rfl rfl,
 .mt ⟨[sl 18 (.ptr 0 0)], []⟩ [] none (by kernel_rfl) (by rfl) (mt_ev ht (by kernel_rfl)) rfl rfl rfl rfl,
 .mt ⟨[sl 19 (.ptr 0 1)], [.box [.v (.string text), I pos, I deep] 268 false]⟩ [] none (by kernel_rfl) (by rfl) (mt_ev ht (by kernel_rfl)) rfl rfl rfl rfl,
 .mt ⟨[sl 16 (.v (.string text)), sl 20 (I pos)], []⟩ [] none (by kernel_rfl) (by rfl) (mt_val (val_indexS (s := text) (i := pos) rfl Try.underlying9 (by rfl) (by rfl) hb_2)) rfl rfl rfl rfl,
 .mt ⟨[sl 21 (.v (.int .u8 b))], []⟩ [] none (by kernel_rfl) (by rfl) (mt_ev ht (by kernel_rfl)) rfl rfl rfl rfl,
 trivial⟩
 refine En.ret ?_
 exact En.backE [0] ht (b, pos, deep) h (by kernel_rfl) (by rfl) rfl
theorem en209 : ∀ args w, (callFunc 209 args).run Try.prog w = .ok (.enter 209 args) w := enters_of Try.func209 (by kernel_rfl) rfl
theorem rNow_ct (text : ByteArray) (pos : Int) (deep : Int) (hp : 0 ≤ pos ∧ pos ≤ text.size)  : CtE 209 [.sv (.one (.ptr 0 0))] [.box [.v (.string text), I pos, I deep] 268 false] [0] (fun (_ : Unit) => True) (fun _ => .sv (.one (.v (.int .u8 (chr text pos))))) (fun _ => [.box [.v (.string text), I (pos), I (deep)] 268 false]) := by
  refine (rNow_walk text pos deep (fun res_ => res_ = (chr text pos, pos, deep)) ?_).imp (fun r hr => ⟨(), trivial, by subst hr; rfl, by subst hr; rfl⟩)
  unfold rNow_vc
  refine ⟨fun h => ?_, fun h => ⟨_, byteAt_ok hp.1 (by have : pos ≠ text.size := by simpa using h
                                                       omega), rfl⟩⟩
  rw [chr_end (by have : pos = text.size := by simpa using h
                  omega)]
theorem en156 : ∀ args w, (callFunc 156 args).run Try.prog w = .ok (.enter 156 args) w := enters_of Try.func156 (by kernel_rfl) rfl
theorem rFail_ct (text : ByteArray) (pos deep code : Int) (hp : code ≠ 0) : CtX 156 [.sv (.one (.ptr 0 0)), .sv (.one (I code))] [.box [.v (.string text), I pos, I deep] 268 false] (psStop 265) := by
 have ht := tab_ok
 refine CtP.toX (β := Unit) (pin := [0]) (out := fun _ => .tup []) (M1 := fun _ => []) (P := True) ?_
 refine CtP.body Try.func156 rfl rfl rfl (by kernel_rfl) (by kernel_rfl) (fun c Bk hn hpan => ?_)
 show En c ⟨[(0, .sv (.one (.pptr 0 0 (Bk 0)))), (1, .sv (.one (I code)))], [.box [.v (.string text), I pos, I deep] 268 false]⟩ _
 refine En.region ?_
 refine WL.run ht hn 7 ⟨[(10, .sv (.agg [I code, I pos]))], [.box [.v (.string text), I pos, I deep] 268 false]⟩ (by kernel_rfl) ?_
 exact WL.panicI (code := code) (at_ := pos) hn (by rfl) rfl rfl (by rfl) Try.underlying265 (by rfl) (by rfl) rfl rfl hp hpan trivial
theorem idxByte_run (s : ByteArray) (b : Int) (w : World) : (callFunc 249 #[.string s, .int .u8 b]).run Try.prog w = .ok (.value (.int .i64 (firstIdx s b.toNat.toUInt8))) w := by
 rw [run_callFunc_extern Try.func249 (by kernel_rfl) (by kernel_rfl) (by kernel_rfl) (e := Extern.BytealgIndexByte.indexByte) (by rfl), run_indexByte_string]
 rfl
def idxLite_vc (s : ByteArray) (b : Int) (Q : Int → Prop) : Prop :=
 Q (firstIdx s (b).toNat.toUInt8)
theorem idxLite_walk (s : ByteArray) (b : Int) (Q : Int → Prop) (h : idxLite_vc s b Q) : Ct 247 [.sv (.one (.v (.string s))), .sv (.one (.v (.int .u8 b)))] [] Q (fun (r : Int) => .sv (.one (I r))) := by
 have ht := tab_ok
 refine Ct.body Try.func247 rfl rfl rfl rfl (fun c hn => ?_)
 unfold idxLite_vc at h
 refine En.seq ?_
 refine En.region ?_
 refine WL.run ht hn 1 ⟨[sl 0 (.v (.string s)), sl 1 (.v (.int .u8 b))], []⟩ (by kernel_rfl) ?_
 refine WL.nil ?_
 refine En.seq ?_
 refine En.region ?_
 refine WL.run ht hn 2 ⟨[sl 5 (.v (.string s)), sl 6 (.v (.int .u8 b))], []⟩ (by kernel_rfl) ?_
 refine WL.val hn (by rfl) (val_ext2 (idxByte_run s b) trivial rfl (by rfl) (by rfl) (by rfl)) (by rfl) ?_
 refine WL.run ht hn 1 ⟨[sl 4 (I (firstIdx s (b).toNat.toUInt8))], []⟩ (by kernel_rfl) ?_
 refine WL.nil ?_
 refine En.ret ?_
 exact En.back ht (firstIdx s (b).toNat.toUInt8) h (by kernel_rfl) rfl
theorem en247 : ∀ args w, (callFunc 247 args).run Try.prog w = .ok (.enter 247 args) w := enters_of Try.func247 (by kernel_rfl) rfl
theorem idxLite_ct (s : ByteArray) (b : Int)  : Ct 247 [.sv (.one (.v (.string s))), .sv (.one (.v (.int .u8 b)))] [] (fun (_ : Unit) => True) (fun _ => .sv (.one (I (firstIdx s b.toNat.toUInt8)))) := by
 refine (idxLite_walk s b (fun res_ => res_ = (firstIdx s b.toNat.toUInt8)) ?_).fun
 unfold idxLite_vc
 rfl
def idxStr_vc (s : ByteArray) (b : Int) (Q : Int → Prop) : Prop :=
 Q (firstIdx s (b).toNat.toUInt8)
theorem idxStr_walk (s : ByteArray) (b : Int) (Q : Int → Prop) (h : idxStr_vc s b Q) : Ct 242 [.sv (.one (.v (.string s))), .sv (.one (.v (.int .u8 b)))] [] Q (fun (r : Int) => .sv (.one (I r))) := by
 have ht := tab_ok
 refine Ct.body Try.func242 rfl rfl rfl rfl (fun c hn => ?_)
 unfold idxStr_vc at h
 refine En.seq ?_
 refine En.region ?_
 refine WL.run ht hn 1 ⟨[sl 0 (.v (.string s)), sl 1 (.v (.int .u8 b))], []⟩ (by kernel_rfl) ?_
 refine WL.nil ?_
 refine En.seq ?_
 refine En.region ?_
 refine WL.run ht hn 2 ⟨[sl 5 (.v (.string s)), sl 6 (.v (.int .u8 b))], []⟩ (by kernel_rfl) ?_
 refine WL.mt0 (K := []) (p := none) hn (by rfl) (mt_call (idxLite_ct s b) en247 (caps := []) [] rfl (by rfl) (by kernel_rfl) (by kernel_rfl) (by rfl) (by rfl) (by rfl)) (by rfl) (by rfl) (by rfl) ?_
 refine WL.run ht hn 1 ⟨[sl 4 (I (firstIdx s (b).toNat.toUInt8))], []⟩ (by kernel_rfl) ?_
 refine WL.nil ?_
 refine En.ret ?_
 exact En.back ht (firstIdx s (b).toNat.toUInt8) h (by kernel_rfl) rfl
theorem en242 : ∀ args w, (callFunc 242 args).run Try.prog w = .ok (.enter 242 args) w := enters_of Try.func242 (by kernel_rfl) rfl
theorem idxStr_ct (s : ByteArray) (b : Int)  : Ct 242 [.sv (.one (.v (.string s))), .sv (.one (.v (.int .u8 b)))] [] (fun (_ : Unit) => True) (fun _ => .sv (.one (I (firstIdx s b.toNat.toUInt8)))) := by
 refine (idxStr_walk s b (fun res_ => res_ = (firstIdx s b.toNat.toUInt8)) ?_).fun
 unfold idxStr_vc
 rfl
def rBeg_vc (text : ByteArray) (pos : Int) (deep : Int) (Q : Bool × Int × Int → Prop) : Prop :=
 ∃ J : Bool → Int → Int → Prop, (IfP (decide (pos < (text.size : Int))) ((0 ≤ pos ∧ pos ≤ text.size) ∧
 J (decide ((firstIdx (ByteArray.mk #[48, 49, 97, 98, 99, 100, 40]) ((chr text pos)).toNat.toUInt8) ≥ 0)) (pos) (deep)) (J false pos deep)) ∧
 (∀ (x2 : Bool) (y01 : Int) (y02 : Int), J x2 y01 y02 → Q (x2, y01, y02))
noncomputable abbrev qrBeg0 (text : ByteArray) (pos : Int) := (firstIdx (ByteArray.mk #[48, 49, 97, 98, 99, 100, 40]) ((chr text pos)).toNat.toUInt8)
theorem rBeg_walk (text : ByteArray) (pos : Int) (deep : Int) (Q : Bool × Int × Int → Prop) (h : rBeg_vc text pos deep Q) : CtE 229 [.sv (.one (.ptr 0 0))] [.box [.v (.string text), I pos, I deep] 268 false] [0] Q (fun (r : Bool × Int × Int) => .sv (.one (B r.1))) (fun (r : Bool × Int × Int) => [.box [.v (.string text), I r.2.1, I r.2.2] 268 false]) := by
 have ht := tab_ok
 refine CtE.body Try.func229 rfl rfl rfl (by kernel_rfl) (by kernel_rfl) (fun c Bk hn => ?_)
 unfold rBeg_vc at h
 show En c ⟨[sl 0 (.pptr 0 0 (Bk 0))], [.box [.v (.string text), I pos, I deep] 268 false]⟩ _
 refine En.seq ?_
 refine En.region ?_
 refine WL.run ht hn 1 ⟨[sl 0 (.pptr 0 0 (Bk 0))], [.box [.v (.string text), I pos, I deep] 268 false]⟩ (by kernel_rfl) ?_
 refine WL.nil ?_
 obtain ⟨J, h, hJ⟩ := h
 refine En.seqJ (σ := Bool × Int × Int) (fun zz => J zz.1 zz.2.1 zz.2.2) (fun zz => ⟨[sl 0 (.pptr 0 0 (Bk 0)), sl 2 (B zz.1)], [.box [.v (.string text), I zz.2.1, I zz.2.2] 268 false]⟩) ?_ ?_
 ·refine splitB (decide (pos < (text.size : Int))) (fun hb_2 => ?_) (fun hb_2 => ?_)
  ·replace h := h.1 hb_2
   have hp_2 := h.1
   replace h := h.2
   refine En.regionA ⟨[sl 0 (.pptr 0 0 (Bk 0))], [.sv (.one (.ptr 0 0)), .sv (.one (.ptr 0 0)), .sv (.one (.ptr 0 1)), .sv (.one (I pos)), .sv (.one (.ptr 0 0)), .sv (.one (.ptr 0 0)), .sv (.one (.ptr 0 0)), .sv (.one (.v (.string text))), .sv (.one (I (text.size : Int))), .sv (.one (B true)), .sv (.one (B true)), .sv (.one (.ptr 0 0)), .sv (.one (.v (.int .u8 (chr text pos)))), .sv (.one (I (qrBeg0 text pos))), .sv (.one (B (decide ((qrBeg0 text pos) ≥ 0)))), .sv (.one (B (decide ((qrBeg0 text pos) ≥ 0)))), .sv (.one (B (decide ((qrBeg0 text pos) ≥ 0))))], [⟨.box [.v (.string text), I pos, I deep] 268 false, none, none, some (12, .box [.v (.string text), I (pos), I (deep)] 268 false)⟩]⟩ ⟨[sl 0 (.pptr 0 0 (Bk 0)), sl 2 (B (decide ((qrBeg0 text pos) ≥ 0)))], [.box [.v (.string text), I (pos), I (deep)] 268 false]⟩ (by kernel_rfl) hn (by kernel_rfl) (by rfl) (by kernel_rfl) ?_ (by kernel_rfl) ?_
   ·exact ⟨.mt ⟨[sl 0 (.pptr 0 0 (Bk 0))], []⟩ [] none (by kernel_rfl) (by rfl) (mt_ev ht (by kernel_rfl)) rfl rfl rfl rfl,
  .mt ⟨[sl 3 (.ptr 0 0)], []⟩ [] none (by kernel_rfl) (by rfl) (mt_ev ht (by kernel_rfl)) rfl rfl rfl rfl,
  .mt ⟨[sl 4 (.ptr 0 0)], []⟩ [] none (by kernel_rfl) (by rfl) (mt_ev ht (by kernel_rfl)) rfl rfl rfl rfl,
  .mt ⟨[sl 5 (.ptr 0 1)], [.box [.v (.string text), I pos, I deep] 268 false]⟩ [] none (by kernel_rfl) (by rfl) (mt_ev ht (by kernel_rfl)) rfl rfl rfl rfl,
  .mt ⟨[sl 0 (.pptr 0 0 (Bk 0))], []⟩ [] none (by kernel_rfl) (by rfl) (mt_ev ht (by kernel_rfl)) rfl rfl rfl rfl,
  .mt ⟨[sl 7 (.ptr 0 0)], []⟩ [] none (by kernel_rfl) (by rfl) (mt_ev ht (by kernel_rfl)) rfl rfl rfl rfl,
  .mt ⟨[sl 8 (.ptr 0 0)], []⟩ [] none (by kernel_rfl) (by rfl) (mt_ev ht (by kernel_rfl)) rfl rfl rfl rfl,
  .mt ⟨[sl 9 (.ptr 0 0)], [.box [.v (.string text), I pos, I deep] 268 false]⟩ [] none (by kernel_rfl) (by rfl) (mt_ev ht (by kernel_rfl)) rfl rfl rfl rfl,
  .mt ⟨[sl 10 (.v (.string text))], []⟩ [] none (by kernel_rfl) (by rfl) (mt_val (val_lenS (s := text) rfl Try.underlying9 (by rfl))) rfl rfl rfl rfl,
  .mt ⟨[sl 6 (I pos), sl 11 (I (text.size : Int))], []⟩ [] none (by kernel_rfl) (by rfl) (mt_castB hb_2 (mt_ev ht (by kernel_rfl))) rfl rfl rfl rfl,
  .mt ⟨[sl 12 (B true)], []⟩ [] none (by kernel_rfl) (by rfl) (mt_ev ht (by kernel_rfl)) rfl rfl rfl rfl,
  .mt ⟨[sl 0 (.pptr 0 0 (Bk 0)), sl 13 (B true)], []⟩ [] none (by kernel_rfl) (by rfl) (mt_ev ht (by kernel_rfl)) rfl rfl rfl rfl,
  .me ⟨[sl 13 (B true), sl 14 (.ptr 0 0)], [.box [.v (.string text), I pos, I deep] 268 false]⟩ [(0, .box [.v (.string text), I (pos), I (deep)] 268 false)] (by kernel_rfl) (by rfl) (me_call (rNow_ct text pos deep hp_2) en209 (caps := []) [0] rfl (by rfl) (argsAs (by kernel_rfl) (by rfl)) (by kernel_rfl) (by decide) (by rfl) (by rfl)) rfl rfl rfl ⟨⟨_, rfl, rfl, rfl, rfl, rfl⟩, trivial⟩,
  .mt ⟨[sl 13 (B true), sl 15 (.v (.int .u8 (chr text pos)))], []⟩ [] none (by kernel_rfl) (by rfl) (mt_call (idxStr_ct (ByteArray.mk #[48, 49, 97, 98, 99, 100, 40]) (chr text pos)) en242 (caps := []) [] rfl (by rfl) (by kernel_rfl) (by kernel_rfl) (by rfl) (by rfl) (by rfl)) rfl rfl rfl rfl,
  .mt ⟨[sl 13 (B true), sl 16 (I (qrBeg0 text pos))], []⟩ [] none (by kernel_rfl) (by rfl) (mt_ev ht (by kernel_rfl)) rfl rfl rfl rfl,
  .mt ⟨[sl 13 (B true), sl 17 (B (decide ((qrBeg0 text pos) ≥ 0)))], []⟩ [] none (by kernel_rfl) (by rfl) (mt_ev ht (by kernel_rfl)) rfl rfl rfl rfl,
  .mt ⟨[sl 18 (B (decide ((qrBeg0 text pos) ≥ 0)))], []⟩ [] none (by kernel_rfl) (by rfl) (mt_ev ht (by kernel_rfl)) rfl rfl rfl rfl,
  trivial⟩
   ·exact En.at (I := fun zz => J zz.1 zz.2.1 zz.2.2) (T := fun zz => ⟨[sl 0 (.pptr 0 0 (Bk 0)), sl 2 (B zz.1)], [.box [.v (.string text), I zz.2.1, I zz.2.2] 268 false]⟩) ((decide ((qrBeg0 text pos) ≥ 0)), (pos), (deep)) h (by kernel_rfl)
  ·replace h := h.2 hb_2
   refine En.regionA ⟨[sl 0 (.pptr 0 0 (Bk 0))], [.sv (.one (.ptr 0 0)), .sv (.one (.ptr 0 0)), .sv (.one (.ptr 0 1)), .sv (.one (I pos)), .sv (.one (.ptr 0 0)), .sv (.one (.ptr 0 0)), .sv (.one (.ptr 0 0)), .sv (.one (.v (.string text))), .sv (.one (I (text.size : Int))), .sv (.one (B false)), .sv (.one (B false)), .tup [], .tup [], .tup [], .tup [], .sv (.one (B false)), .sv (.one (B false))], [⟨.box [.v (.string text), I pos, I deep] 268 false, none, none, none⟩]⟩ ⟨[sl 0 (.pptr 0 0 (Bk 0)), sl 2 (B false)], [.box [.v (.string text), I pos, I deep] 268 false]⟩ (by kernel_rfl) hn (by kernel_rfl) (by rfl) (by kernel_rfl) ?_ (by kernel_rfl) ?_
   ·exact ⟨.mt ⟨[sl 0 (.pptr 0 0 (Bk 0))], []⟩ [] none (by kernel_rfl) (by rfl) (mt_ev ht (by kernel_rfl)) rfl rfl rfl rfl,
  .mt ⟨[sl 3 (.ptr 0 0)], []⟩ [] none (by kernel_rfl) (by rfl) (mt_ev ht (by kernel_rfl)) rfl rfl rfl rfl,
  .mt ⟨[sl 4 (.ptr 0 0)], []⟩ [] none (by kernel_rfl) (by rfl) (mt_ev ht (by kernel_rfl)) rfl rfl rfl rfl,
  .mt ⟨[sl 5 (.ptr 0 1)], [.box [.v (.string text), I pos, I deep] 268 false]⟩ [] none (by kernel_rfl) (by rfl) (mt_ev ht (by kernel_rfl)) rfl rfl rfl rfl,
  .mt ⟨[sl 0 (.pptr 0 0 (Bk 0))], []⟩ [] none (by kernel_rfl) (by rfl) (mt_ev ht (by kernel_rfl)) rfl rfl rfl rfl,
  .mt ⟨[sl 7 (.ptr 0 0)], []⟩ [] none (by kernel_rfl) (by rfl) (mt_ev ht (by kernel_rfl)) rfl rfl rfl rfl,
  .mt ⟨[sl 8 (.ptr 0 0)], []⟩ [] none (by kernel_rfl) (by rfl) (mt_ev ht (by kernel_rfl)) rfl rfl rfl rfl,
  .mt ⟨[sl 9 (.ptr 0 0)], [.box [.v (.string text), I pos, I deep] 268 false]⟩ [] none (by kernel_rfl) (by rfl) (mt_ev ht (by kernel_rfl)) rfl rfl rfl rfl,
  .mt ⟨[sl 10 (.v (.string text))], []⟩ [] none (by kernel_rfl) (by rfl) (mt_val (val_lenS (s := text) rfl Try.underlying9 (by rfl))) rfl rfl rfl rfl,
  .mt ⟨[sl 6 (I pos), sl 11 (I (text.size : Int))], []⟩ [] none (by kernel_rfl) (by rfl) (mt_castB hb_2 (mt_ev ht (by kernel_rfl))) rfl rfl rfl rfl,
  .mt ⟨[sl 12 (B false)], []⟩ [] none (by kernel_rfl) (by rfl) (mt_ev ht (by kernel_rfl)) rfl rfl rfl rfl,
  .skip ⟨[sl 13 (B false)], []⟩ (by kernel_rfl) (by rfl) rfl rfl rfl rfl,
  .skip ⟨[sl 13 (B false)], []⟩ (by kernel_rfl) (by rfl) rfl rfl rfl rfl,
  .skip ⟨[sl 13 (B false)], []⟩ (by kernel_rfl) (by rfl) rfl rfl rfl rfl,
  .skip ⟨[sl 13 (B false)], []⟩ (by kernel_rfl) (by rfl) rfl rfl rfl rfl,
  .mt ⟨[sl 13 (B false), (17, .tup [])], []⟩ [] none (by kernel_rfl) (by rfl) (mt_ev ht (by kernel_rfl)) rfl rfl rfl rfl,
  .mt ⟨[sl 18 (B false)], []⟩ [] none (by kernel_rfl) (by rfl) (mt_ev ht (by kernel_rfl)) rfl rfl rfl rfl,
  trivial⟩
   ·exact En.at (I := fun zz => J zz.1 zz.2.1 zz.2.2) (T := fun zz => ⟨[sl 0 (.pptr 0 0 (Bk 0)), sl 2 (B zz.1)], [.box [.v (.string text), I zz.2.1, I zz.2.2] 268 false]⟩) (false, pos, deep) h (by kernel_rfl)
 ·rintro ⟨x2, y01, y02⟩ h
  replace h := hJ _ _ _ h
  show En c ⟨[sl 0 (.pptr 0 0 (Bk 0)), sl 2 (B x2)], [.box [.v (.string text), I y01, I y02] 268 false]⟩ _
  refine En.ret ?_
  exact En.backE [0] ht (x2, y01, y02) h (by kernel_rfl) (by rfl) rfl
theorem en229 : ∀ args w, (callFunc 229 args).run Try.prog w = .ok (.enter 229 args) w := enters_of Try.func229 (by kernel_rfl) rfl
def begB (text : ByteArray) (pos : Int) : Bool := (decide (pos < (text.size : Int))) && (decide ((firstIdx (ByteArray.mk #[48, 49, 97, 98, 99, 100, 40]) ((chr text pos)).toNat.toUInt8) ≥ 0))
theorem rBeg_ct (text : ByteArray) (pos : Int) (deep : Int) (hp : 0 ≤ pos ∧ pos ≤ text.size)  : CtE 229 [.sv (.one (.ptr 0 0))] [.box [.v (.string text), I pos, I deep] 268 false] [0] (fun (_ : Unit) => True) (fun _ => .sv (.one (B (begB text pos)))) (fun _ => [.box [.v (.string text), I (pos), I (deep)] 268 false]) := by
 refine (rBeg_walk text pos deep (fun res_ => res_ = (begB text pos, pos, deep)) ?_).imp (fun r hr => ⟨(), trivial, by subst hr; rfl, by subst hr; rfl⟩)
 unfold rBeg_vc
 refine ⟨fun b p d => b = begB text pos ∧ p = pos ∧ d = deep, ⟨fun h => ⟨hp, ?_, rfl, rfl⟩, fun h => ⟨?_, rfl, rfl⟩⟩, ?_⟩
 ·unfold begB; rw [h]; rfl
 ·unfold begB; rw [h]; rfl
 ·rintro _ _ _ ⟨rfl, rfl, rfl⟩
  rfl
abbrev RTr := Tr RLab
def nd (k l : Int) (kids : List RTr) : RTr := .node ⟨k, l⟩ kids
def partS (wh : Int → Int → Option (RTr × Int)) (text : ByteArray) (p d : Int) : Option (RTr × Int) :=
 if chr text p = 48 ∨ chr text p = 49 then some (nd (chr text p - 48) 0 [], p + 1)
 else if 97 ≤ chr text p ∧ chr text p ≤ 100 then some (nd 2 (chr text p - 97) [], p + 1)
 else if chr text p = 40 then
  if d = 40 then none
  else match wh (p + 1) (d + 1) with
   | none => none
   | some r => if chr text r.2 = 41 then some (r.1, r.2 + 1) else none
 else none
def starsS (text : ByteArray) : Nat → RTr → Int → RTr × Int
 | 0, t, p => (t, p)
 | m + 1, t, p => if chr text p = 42 then starsS text m (nd 5 0 [t]) (p + 1) else (t, p)
def oneS (wh : Int → Int → Option (RTr × Int)) (text : ByteArray) (p d : Int) : Option (RTr × Int) := match partS wh text p d with
 | none => none
 | some r => some (starsS text text.size r.1 r.2)
def rowL (one : Int → Option (RTr × Int)) (text : ByteArray) : Nat → List RTr → Int → Option (List RTr × Int)
 | 0, _, _ => none
 | m + 1, l, p => if begB text p then match one p with
   | none => none
   | some r => rowL one text m (l ++ [r.1]) r.2
  else some (l, p)
def rowS (wh : Int → Int → Option (RTr × Int)) (text : ByteArray) (p d : Int) : Option (RTr × Int) := match oneS wh text p d with
 | none => none
 | some r => match rowL (fun p => oneS wh text p d) text (text.size + 1) [r.1] r.2 with
  | none => none
  | some r => some (nd 4 0 r.1, r.2)
def wholeL (row : Int → Option (RTr × Int)) (text : ByteArray) : Nat → List RTr → Int → Option (List RTr × Int)
 | 0, _, _ => none
 | m + 1, l, p => if chr text p = 43 then match row (p + 1) with
   | none => none
   | some r => wholeL row text m (l ++ [r.1]) r.2
  else some (l, p)
def wholeS (wh : Int → Int → Option (RTr × Int)) (text : ByteArray) (p d : Int) : Option (RTr × Int) := match rowS wh text p d with
 | none => none
 | some r => match wholeL (fun p => rowS wh text p d) text (text.size + 1) [r.1] r.2 with
  | none => none
  | some r => some (nd 3 0 r.1, r.2)
def pW (text : ByteArray) : Nat → Int → Int → Option (RTr × Int)
 | 0, _, _ => none
 | k + 1, p, d => wholeS (pW text k) text p d
def rOk (k : Nat) (text : ByteArray) (pos deep : Int) : Prop := (text.size ≤ 4000) ∧ (0 ≤ pos ∧ pos ≤ text.size ∧ text.size - pos < k) ∧ 0 ≤ deep ∧ deep ≤ 40
def WC (k : Nat) : Prop := ∀ (text : ByteArray) (pos deep : Int), rOk k text pos deep → (∀ r, pW text k pos deep = some r → CtE 155 [.sv (.one (.ptr 0 0))] [.box [.v (.string text), I pos, I deep] 268 false] [0] (fun (_ : Unit) => True) (fun _ => .sv (.one (.rd (trR rLab r.1)))) (fun _ => [.box [.v (.string text), I r.2, I deep] 268 false])) ∧ (pW text k pos deep = none → CtX 155 [.sv (.one (.ptr 0 0))] [.box [.v (.string text), I pos, I deep] 268 false] (psStop 265))
theorem wI_ok (k : Nat) (ih : WC k) (text : ByteArray) (pos deep : Int) (hp : rOk k text pos deep) (r : RTr × Int) (hx : pW text k pos deep = some r) : CtE 155 [.sv (.one (.ptr 0 0))] [.box [.v (.string text), I pos, I deep] 268 false] [0] (fun (_ : Unit) => True) (fun _ => .sv (.one (.rd (trR rLab r.1)))) (fun _ => [.box [.v (.string text), I r.2, I deep] 268 false]) := (ih text pos deep hp).1 r hx
theorem wI_bad (k : Nat) (ih : WC k) (text : ByteArray) (pos deep : Int) (hp : rOk k text pos deep) (hx : pW text k pos deep = none) : CtX 155 [.sv (.one (.ptr 0 0))] [.box [.v (.string text), I pos, I deep] 268 false] (psStop 265) := (ih text pos deep hp).2 hx
theorem en155 : ∀ args w, (callFunc 155 args).run Try.prog w = .ok (.enter 155 args) w := enters_of Try.func155 (by kernel_rfl) rfl
def rPart_vc (k : Nat) (text : ByteArray) (pos : Int) (deep : Int) (Q : (Tr RLab) × Int × Int → Prop) (P : Prop) : Prop :=
 (0 ≤ pos ∧ pos ≤ text.size) ∧
 IfP (((chr text pos) == 48) || ((chr text pos) == 49)) (Q ((Tr.node (RLab.mk (wr (IntKind.wrap .u8 ((chr text pos) - 48))) 0) []), (wr ((pos) + 1)), (deep))) (IfP ((decide ((chr text pos) ≥ 97)) && (decide ((chr text pos) ≤ 100))) (Q ((Tr.node (RLab.mk 2 (wr (IntKind.wrap .u8 ((chr text pos) - 97)))) []), (wr ((pos) + 1)), (deep))) (IfP ((chr text pos) == 40) (IfP ((deep) == 40) (((7 : Int) ≠ 0) ∧
 P) ((rOk k text (wr ((pos) + 1)) (wr ((deep) + 1))) ∧
 ((pW text k (wr ((pos) + 1)) (wr ((deep) + 1))) = none → P) ∧ ∀ r, (pW text k (wr ((pos) + 1)) (wr ((deep) + 1))) = some r →
 ((0 ≤ (r.2) ∧ (r.2) ≤ text.size) ∧
 IfP ((chr text (r.2)) != 41) (((4 : Int) ≠ 0) ∧
 P) (Q ((r.1), (wr (((r.2)) + 1)), (wr (((wr ((deep) + 1))) - 1))))))) (((4 : Int) ≠ 0) ∧
 P)))
theorem rPart_walk (k : Nat) (text : ByteArray) (pos : Int) (deep : Int) (ih : WC k) (Q : (Tr RLab) × Int × Int → Prop) (P : Prop) (h : rPart_vc k text pos deep Q P) : CtP 241 [.sv (.one (.ptr 0 0))] [.box [.v (.string text), I pos, I deep] 268 false] [0] Q (fun (r : (Tr RLab) × Int × Int) => .sv (.one (.rd (trR rLab r.1)))) (fun (r : (Tr RLab) × Int × Int) => [.box [.v (.string text), I r.2.1, I r.2.2] 268 false]) (psStop 265) P := by
 have ht := tab_ok
 refine CtP.body Try.func241 rfl rfl rfl (by kernel_rfl) (by kernel_rfl) (fun c Bk hn hpan => ?_)
 unfold rPart_vc at h
 show En c ⟨[sl 0 (.pptr 0 0 (Bk 0))], [.box [.v (.string text), I pos, I deep] 268 false]⟩ _
 refine En.seq ?_
 refine En.region ?_
 refine WL.run ht hn 1 ⟨[sl 0 (.pptr 0 0 (Bk 0))], [.box [.v (.string text), I pos, I deep] 268 false]⟩ (by kernel_rfl) ?_
 refine WL.nil ?_
 refine En.seq ?_
 refine En.region ?_
 refine WL.run ht hn 1 ⟨[sl 0 (.pptr 0 0 (Bk 0)), sl 5 (.ptr 0 0)], [.box [.v (.string text), I pos, I deep] 268 false]⟩ (by kernel_rfl) ?_
 have hp := h.1
 replace h := h.2
 refine WL.callE (rNow_ct text pos deep hp) en209 (caps := []) [0] hn (by rfl) rfl (by rfl) (argsAs (by kernel_rfl) (by rfl)) (by kernel_rfl) (by decide) (by rfl) (by rfl) (fun _ _ => ⟨by rfl, _, by rfl, ?_⟩)
 refine WL.run ht hn 1 ⟨[sl 0 (.pptr 0 0 (Bk 0)), sl 3 (.v (.int .u8 (chr text pos)))], [.box [.v (.string text), I (pos), I (deep)] 268 false]⟩ (by kernel_rfl) ?_
 refine WL.nil ?_
 refine En.seq ?_
 refine En.block ?_
 refine En.seq ?_
 refine En.region ?_
 refine WL.run ht hn 3 ⟨[sl 0 (.pptr 0 0 (Bk 0)), sl 3 (.v (.int .u8 (chr text pos))), sl 10 (B ((chr text pos) == 48))], [.box [.v (.string text), I (pos), I (deep)] 268 false]⟩ (by kernel_rfl) ?_
 refine WL.thru ⟨[sl 0 (.pptr 0 0 (Bk 0)), sl 3 (.v (.int .u8 (chr text pos))), sl 7 (B (((chr text pos) == 48) || ((chr text pos) == 49)))], [.box [.v (.string text), I (pos), I (deep)] 268 false]⟩ ?_ ?_
 refine splitB ((chr text pos) == 48) (fun hb0 => ?_) (fun hb0 => ?_)
 refine WL.setB 10 hb0 (by kernel_rfl) ?_
 refine WL.run ht hn 4 ⟨[sl 0 (.pptr 0 0 (Bk 0)), sl 3 (.v (.int .u8 (chr text pos))), sl 7 (B true)], [.box [.v (.string text), I (pos), I (deep)] 268 false]⟩ (by kernel_rfl) ?_
 exact WL.nil (sub_ok (by simp only [hb0]; kernel_rfl))
 refine WL.setB 10 hb0 (by kernel_rfl) ?_
 refine WL.run ht hn 4 ⟨[sl 0 (.pptr 0 0 (Bk 0)), sl 3 (.v (.int .u8 (chr text pos))), sl 7 (B ((chr text pos) == 49))], [.box [.v (.string text), I (pos), I (deep)] 268 false]⟩ (by kernel_rfl) ?_
 exact WL.nil (sub_ok (by simp only [hb0]; kernel_rfl))
 refine En.cond (b := (((chr text pos) == 48) || ((chr text pos) == 49))) (by kernel_rfl) (fun hb => ?_) (fun hb => ?_)
 replace h := h.1 hb
 refine En.seq ?_
 refine En.region ?_
 refine WL.run ht hn 8 ⟨[sl 0 (.pptr 0 0 (Bk 0)), sl 3 (.v (.int .u8 (chr text pos)))], [.box [.v (.string text), I (wr ((pos) + 1)), I (deep)] 268 false]⟩ (by kernel_rfl) ?_
 refine WL.nil ?_
 refine En.seq ?_
 refine En.region ?_
 refine WL.run ht hn 6 ⟨[sl 0 (.pptr 0 0 (Bk 0)), sl 2 (.ptr 1 0)], [.box [.v (.string text), I (wr ((pos) + 1)), I (deep)] 268 false, .box [I (wr (IntKind.wrap .u8 ((chr text pos) - 48))), I 0, .v (.slice none 0 0)] 316 false]⟩ (by kernel_rfl) ?_
 refine WL.nil ?_
 refine En.ret ?_
 refine En.nilBox (T := (TT rLab)) 1 2 (by rfl) (by rfl) ?_
 refine En.freeze [1] (by rfl) ?_
 refine En.ghost 2 (o1 (.rd (trR rLab (Tr.node (RLab.mk (wr (IntKind.wrap .u8 ((chr text pos) - 48))) 0) [])))) (by rfl) (tree_of (lab := rLab) (x := (RLab.mk (wr (IntKind.wrap .u8 ((chr text pos) - 48))) 0)) (kids := []) (i := 1) (by rfl) (by rfl) (by rfl)) ?_
 exact En.backE [0] ht ((Tr.node (RLab.mk (wr (IntKind.wrap .u8 ((chr text pos) - 48))) 0) []), (wr ((pos) + 1)), (deep)) h (by kernel_rfl) (by rfl) rfl
 replace h := h.2 hb
 refine En.seq ?_
 refine En.region ?_
 refine WL.run ht hn 3 ⟨[sl 0 (.pptr 0 0 (Bk 0)), sl 3 (.v (.int .u8 (chr text pos))), sl 29 (B (decide ((chr text pos) ≥ 97)))], [.box [.v (.string text), I (pos), I (deep)] 268 false]⟩ (by kernel_rfl) ?_
 refine WL.thru ⟨[sl 0 (.pptr 0 0 (Bk 0)), sl 3 (.v (.int .u8 (chr text pos))), sl 26 (B ((decide ((chr text pos) ≥ 97)) && (decide ((chr text pos) ≤ 100))))], [.box [.v (.string text), I (pos), I (deep)] 268 false]⟩ ?_ ?_
 refine splitB (decide ((chr text pos) ≥ 97)) (fun hb0 => ?_) (fun hb0 => ?_)
 refine WL.setB 29 hb0 (by kernel_rfl) ?_
 refine WL.run ht hn 4 ⟨[sl 0 (.pptr 0 0 (Bk 0)), sl 3 (.v (.int .u8 (chr text pos))), sl 26 (B (decide ((chr text pos) ≤ 100)))], [.box [.v (.string text), I (pos), I (deep)] 268 false]⟩ (by kernel_rfl) ?_
 exact WL.nil (sub_ok (by simp only [hb0]; kernel_rfl))
 refine WL.setB 29 hb0 (by kernel_rfl) ?_
 refine WL.run ht hn 4 ⟨[sl 0 (.pptr 0 0 (Bk 0)), sl 3 (.v (.int .u8 (chr text pos))), sl 26 (B false)], [.box [.v (.string text), I (pos), I (deep)] 268 false]⟩ (by kernel_rfl) ?_
 exact WL.nil (sub_ok (by simp only [hb0]; kernel_rfl))
 refine En.cond (b := ((decide ((chr text pos) ≥ 97)) && (decide ((chr text pos) ≤ 100)))) (by kernel_rfl) (fun hb => ?_) (fun hb => ?_)
 replace h := h.1 hb
 refine En.seq ?_
 refine En.region ?_
 refine WL.run ht hn 8 ⟨[sl 0 (.pptr 0 0 (Bk 0)), sl 3 (.v (.int .u8 (chr text pos)))], [.box [.v (.string text), I (wr ((pos) + 1)), I (deep)] 268 false]⟩ (by kernel_rfl) ?_
 refine WL.nil ?_
 refine En.seq ?_
 refine En.region ?_
 refine WL.run ht hn 6 ⟨[sl 0 (.pptr 0 0 (Bk 0)), sl 2 (.ptr 1 0)], [.box [.v (.string text), I (wr ((pos) + 1)), I (deep)] 268 false, .box [I 2, I (wr (IntKind.wrap .u8 ((chr text pos) - 97))), .v (.slice none 0 0)] 316 false]⟩ (by kernel_rfl) ?_
 refine WL.nil ?_
 refine En.ret ?_
 refine En.nilBox (T := (TT rLab)) 1 2 (by rfl) (by rfl) ?_
 refine En.freeze [1] (by rfl) ?_
 refine En.ghost 2 (o1 (.rd (trR rLab (Tr.node (RLab.mk 2 (wr (IntKind.wrap .u8 ((chr text pos) - 97)))) [])))) (by rfl) (tree_of (lab := rLab) (x := (RLab.mk 2 (wr (IntKind.wrap .u8 ((chr text pos) - 97))))) (kids := []) (i := 1) (by rfl) (by rfl) (by rfl)) ?_
 exact En.backE [0] ht ((Tr.node (RLab.mk 2 (wr (IntKind.wrap .u8 ((chr text pos) - 97)))) []), (wr ((pos) + 1)), (deep)) h (by kernel_rfl) (by rfl) rfl
 replace h := h.2 hb
 refine En.seq ?_
 refine En.region ?_
 refine WL.run ht hn 3 ⟨[sl 0 (.pptr 0 0 (Bk 0)), sl 45 (B ((chr text pos) == 40))], [.box [.v (.string text), I (pos), I (deep)] 268 false]⟩ (by kernel_rfl) ?_
 refine WL.nil ?_
 refine En.cond (b := ((chr text pos) == 40)) (by kernel_rfl) (fun hb => ?_) (fun hb => ?_)
 replace h := h.1 hb
 refine En.seq ?_
 refine En.seq ?_
 refine En.region ?_
 refine WL.run ht hn 5 ⟨[sl 0 (.pptr 0 0 (Bk 0)), sl 52 (B ((deep) == 40))], [.box [.v (.string text), I (pos), I (deep)] 268 false]⟩ (by kernel_rfl) ?_
 refine WL.nil ?_
 refine En.cond (b := ((deep) == 40)) (by kernel_rfl) (fun hb => ?_) (fun hb => ?_)
 replace h := h.1 hb
 refine En.region ?_
 refine WL.run ht hn 1 ⟨[sl 0 (.pptr 0 0 (Bk 0)), sl 53 (.ptr 0 0)], [.box [.v (.string text), I (pos), I (deep)] 268 false]⟩ (by kernel_rfl) ?_
 have hp := h.1
 replace h := h.2
 exact WL.callX (rFail_ct text (pos) (deep) 7 hp) en156 (caps := []) [0] (by rfl) rfl (by rfl) (argsAs (by kernel_rfl) (by rfl)) (by kernel_rfl) (by decide) (leftX hpan h)
 replace h := h.2 hb
 refine En.skip ?_
 refine En.seq ?_
 refine En.region ?_
 refine WL.run ht hn 8 ⟨[sl 0 (.pptr 0 0 (Bk 0))], [.box [.v (.string text), I (pos), I (wr ((deep) + 1))] 268 false]⟩ (by kernel_rfl) ?_
 refine WL.nil ?_
 refine En.seq ?_
 refine En.region ?_
 refine WL.run ht hn 8 ⟨[sl 0 (.pptr 0 0 (Bk 0))], [.box [.v (.string text), I (wr ((pos) + 1)), I (wr ((deep) + 1))] 268 false]⟩ (by kernel_rfl) ?_
 refine WL.nil ?_
 refine En.seq ?_
 refine En.region ?_
 refine WL.run ht hn 1 ⟨[sl 0 (.pptr 0 0 (Bk 0)), sl 69 (.ptr 0 0)], [.box [.v (.string text), I (wr ((pos) + 1)), I (wr ((deep) + 1))] 268 false]⟩ (by kernel_rfl) ?_
 have hp := h.1
 replace h := h.2
 refine splitO ((pW text k (wr ((pos) + 1)) (wr ((deep) + 1)))) (fun hr_2 => ?_) (fun r hr_2 => ?_)
 exact WL.callX (wI_bad k ih text (wr ((pos) + 1)) (wr ((deep) + 1)) hp hr_2) en155 (caps := []) [0] (by rfl) rfl (by rfl) (argsAs (by kernel_rfl) (by rfl)) (by kernel_rfl) (by decide) (leftX hpan (h.1 hr_2))
 replace h := h.2 r hr_2
 refine WL.callE (wI_ok k ih text (wr ((pos) + 1)) (wr ((deep) + 1)) hp r hr_2) en155 (caps := []) [0] hn (by rfl) rfl (by rfl) (argsAs (by kernel_rfl) (by rfl)) (by kernel_rfl) (by decide) (by rfl) (by rfl) (fun _ _ => ⟨by rfl, _, by rfl, ?_⟩)
 refine WL.run ht hn 1 ⟨[sl 0 (.pptr 0 0 (Bk 0)), sl 4 (.rd (trR rLab (r.1)))], [.box [.v (.string text), I (r.2), I (wr ((deep) + 1))] 268 false]⟩ (by kernel_rfl) ?_
 refine WL.nil ?_
 refine En.seq ?_
 refine En.seq ?_
 refine En.region ?_
 refine WL.run ht hn 1 ⟨[sl 0 (.pptr 0 0 (Bk 0)), sl 4 (.rd (trR rLab (r.1))), sl 71 (.ptr 0 0)], [.box [.v (.string text), I (r.2), I (wr ((deep) + 1))] 268 false]⟩ (by kernel_rfl) ?_
 have hp := h.1
 replace h := h.2
 refine WL.callE (rNow_ct text (r.2) (wr ((deep) + 1)) hp) en209 (caps := []) [0] hn (by rfl) rfl (by rfl) (argsAs (by kernel_rfl) (by rfl)) (by kernel_rfl) (by decide) (by rfl) (by rfl) (fun _ _ => ⟨by rfl, _, by rfl, ?_⟩)
 refine WL.run ht hn 1 ⟨[sl 0 (.pptr 0 0 (Bk 0)), sl 4 (.rd (trR rLab (r.1))), sl 73 (B ((chr text (r.2)) != 41))], [.box [.v (.string text), I ((r.2)), I ((wr ((deep) + 1)))] 268 false]⟩ (by kernel_rfl) ?_
 refine WL.nil ?_
 refine En.cond (b := ((chr text (r.2)) != 41)) (by kernel_rfl) (fun hb => ?_) (fun hb => ?_)
 replace h := h.1 hb
 refine En.region ?_
 refine WL.run ht hn 1 ⟨[sl 0 (.pptr 0 0 (Bk 0)), sl 4 (.rd (trR rLab (r.1))), sl 74 (.ptr 0 0)], [.box [.v (.string text), I ((r.2)), I ((wr ((deep) + 1)))] 268 false]⟩ (by kernel_rfl) ?_
 have hp := h.1
 replace h := h.2
 exact WL.callX (rFail_ct text ((r.2)) ((wr ((deep) + 1))) 4 hp) en156 (caps := []) [0] (by rfl) rfl (by rfl) (argsAs (by kernel_rfl) (by rfl)) (by kernel_rfl) (by decide) (leftX hpan h)
 replace h := h.2 hb
 refine En.skip ?_
 refine En.seq ?_
 refine En.region ?_
 refine WL.run ht hn 8 ⟨[sl 0 (.pptr 0 0 (Bk 0)), sl 4 (.rd (trR rLab (r.1)))], [.box [.v (.string text), I (wr (((r.2)) + 1)), I ((wr ((deep) + 1)))] 268 false]⟩ (by kernel_rfl) ?_
 refine WL.nil ?_
 refine En.seq ?_
 refine En.region ?_
 refine WL.run ht hn 8 ⟨[sl 0 (.pptr 0 0 (Bk 0)), sl 4 (.rd (trR rLab (r.1)))], [.box [.v (.string text), I (wr (((r.2)) + 1)), I (wr (((wr ((deep) + 1))) - 1))] 268 false]⟩ (by kernel_rfl) ?_
 refine WL.nil ?_
 refine En.seq ?_
 refine En.region ?_
 refine WL.run ht hn 2 ⟨[sl 0 (.pptr 0 0 (Bk 0)), sl 2 (.rd (trR rLab (r.1)))], [.box [.v (.string text), I (wr (((r.2)) + 1)), I (wr (((wr ((deep) + 1))) - 1))] 268 false]⟩ (by kernel_rfl) ?_
 refine WL.nil ?_
 refine En.ret ?_
 exact En.backE [0] ht ((r.1), (wr (((r.2)) + 1)), (wr (((wr ((deep) + 1))) - 1))) h (by kernel_rfl) (by rfl) rfl
 replace h := h.2 hb
 refine En.skip ?_
 refine En.seq ?_
 refine En.region ?_
 refine WL.run ht hn 1 ⟨[sl 0 (.pptr 0 0 (Bk 0)), sl 91 (.ptr 0 0)], [.box [.v (.string text), I (pos), I (deep)] 268 false]⟩ (by kernel_rfl) ?_
 have hp := h.1
 replace h := h.2
 exact WL.callX (rFail_ct text (pos) (deep) 4 hp) en156 (caps := []) [0] (by rfl) rfl (by rfl) (argsAs (by kernel_rfl) (by rfl)) (by kernel_rfl) (by decide) (leftX hpan h)
theorem en241 : ∀ args w, (callFunc 241 args).run Try.prog w = .ok (.enter 241 args) w := enters_of Try.func241 (by kernel_rfl) rfl
theorem chr_lt {text : ByteArray} {p : Int} (h : chr text p ≠ 0) : p < text.size := by
 by_cases hh : p < text.size
 ·exact hh
 ·exact absurd (chr_end (by omega)) h
theorem chr_rng (text : ByteArray) (p : Int) : 0 ≤ chr text p ∧ chr text p ≤ 255 := by
 unfold chr byteAt
 split
 ·cases h : text[p.toNat]? with
  | none => simp
  | some b =>
   have := b.toNat_lt
   simp
   omega
 ·simp
def Good (text : ByteArray) (f : Int → Int → Option (RTr × Int)) : Prop := ∀ (p d : Int) (r : RTr × Int), 0 ≤ p → p ≤ text.size → f p d = some r → p < r.2 ∧ r.2 ≤ text.size
theorem partS_good {text : ByteArray} {wh : Int → Int → Option (RTr × Int)} (hw : Good text wh) : Good text (partS wh text) := fun p d r h0 h1 e => by
 unfold partS at e
 split at e
 ·rename_i hc
  have := chr_lt (text := text) (p := p) (by omega)
  cases e
  simp only
  omega
 ·split at e
  ·rename_i hc
   have := chr_lt (text := text) (p := p) (by omega)
   cases e
   simp only
   omega
  ·split at e
   ·rename_i hc
    have := chr_lt (text := text) (p := p) (by omega)
    split at e
    ·cases e
    ·split at e
     ·cases e
     ·rename_i r' hr
      obtain ⟨k1, k2⟩ := hw (p + 1) (d + 1) r' (by omega) (by omega) hr
      split at e
      ·rename_i hc2
       have := chr_lt (text := text) (p := r'.2) (by omega)
       cases e
       simp only
       omega
      ·cases e
   ·cases e
theorem starsS_good {text : ByteArray} : ∀ (m : Nat) (t : RTr) (p : Int), p ≤ text.size → p ≤ (starsS text m t p).2 ∧ (starsS text m t p).2 ≤ text.size
 | 0, t, p, h1 => ⟨Int.le_refl _, h1⟩
 | m + 1, t, p, h1 => by
  unfold starsS
  split
  ·rename_i hc
   have := chr_lt (text := text) (p := p) (by omega)
   have := starsS_good (text := text) m (nd 5 0 [t]) (p + 1) (by omega)
   omega
  ·exact ⟨Int.le_refl _, h1⟩
theorem oneS_good {text : ByteArray} {wh : Int → Int → Option (RTr × Int)} (hw : Good text wh) : Good text (oneS wh text) := fun p d r h0 h1 e => by
 unfold oneS at e
 split at e
 ·cases e
 ·rename_i r' hr
  cases e
  have := partS_good hw p d r' h0 h1 hr
  have := starsS_good (text := text) text.size r'.1 r'.2 (by omega)
  omega
theorem rowL_good {text : ByteArray} {one : Int → Option (RTr × Int)} (ho : ∀ (p : Int) (r : RTr × Int), 0 ≤ p → p ≤ text.size → one p = some r → p < r.2 ∧ r.2 ≤ text.size) : ∀ (m : Nat) (l : List RTr) (p : Int) (r : List RTr × Int), 0 ≤ p → p ≤ text.size → rowL one text m l p = some r → p ≤ r.2 ∧ r.2 ≤ text.size
 | 0, l, p, r, _, _, e => by simp [rowL] at e
 | m + 1, l, p, r, h0, h1, e => by
  unfold rowL at e
  split at e
  ·split at e
   ·cases e
   ·rename_i r' hr
    have k := ho p r' h0 h1 hr
    have := rowL_good ho m _ r'.2 r (by omega) (by omega) e
    omega
  ·cases e
   exact ⟨Int.le_refl _, h1⟩
theorem rowS_good {text : ByteArray} {wh : Int → Int → Option (RTr × Int)} (hw : Good text wh) : Good text (rowS wh text) := fun p d r h0 h1 e => by
 unfold rowS at e
 split at e
 ·cases e
 ·rename_i r' hr
  have k := oneS_good hw p d r' h0 h1 hr
  split at e
  ·cases e
  ·rename_i r2 hr2
   cases e
   have := rowL_good (fun p r h0 h1 e => oneS_good hw p d r h0 h1 e) _ _ _ _ (by omega) (by omega) hr2
   simp only
   omega
theorem wholeL_good {text : ByteArray} {row : Int → Option (RTr × Int)} (ho : ∀ (p : Int) (r : RTr × Int), 0 ≤ p → p ≤ text.size → row p = some r → p < r.2 ∧ r.2 ≤ text.size) : ∀ (m : Nat) (l : List RTr) (p : Int) (r : List RTr × Int), 0 ≤ p → p ≤ text.size → wholeL row text m l p = some r → p ≤ r.2 ∧ r.2 ≤ text.size
 | 0, l, p, r, _, _, e => by simp [wholeL] at e
 | m + 1, l, p, r, h0, h1, e => by
  unfold wholeL at e
  split at e
  ·rename_i hc
   have := chr_lt (text := text) (p := p) (by omega)
   split at e
   ·cases e
   ·rename_i r' hr
    have k := ho (p + 1) r' (by omega) (by omega) hr
    have := wholeL_good ho m _ r'.2 r (by omega) (by omega) e
    omega
  ·cases e
   exact ⟨Int.le_refl _, h1⟩
theorem wholeS_good {text : ByteArray} {wh : Int → Int → Option (RTr × Int)} (hw : Good text wh) : Good text (wholeS wh text) := fun p d r h0 h1 e => by
 unfold wholeS at e
 split at e
 ·cases e
 ·rename_i r' hr
  have k := rowS_good hw p d r' h0 h1 hr
  split at e
  ·cases e
  ·rename_i r2 hr2
   cases e
   have := wholeL_good (fun p r h0 h1 e => rowS_good hw p d r h0 h1 e) _ _ _ _ (by omega) (by omega) hr2
   simp only
   omega
theorem pW_good {text : ByteArray} : ∀ k, Good text (pW text k)
 | 0 => fun p d r _ _ e => by simp [pW] at e
 | k + 1 => wholeS_good (pW_good k)
theorem kd_in {c : Int} (a : Int) (h0 : 0 ≤ c - a) (h1 : c ≤ 255) (ha : 0 ≤ a) : wr (IntKind.wrap .u8 (c - a)) = c - a := by
 have : IntKind.wrap .u8 (c - a) = c - a := by
  show (c - a) % 256 = c - a
  exact Int.emod_eq_of_lt h0 (by omega)
 rw [this, wr_in (by omega) (by omega)]
theorem rPart_all (k : Nat) (text : ByteArray) (pos deep : Int) (hp : rOk (k + 1) text pos deep) (Q : (Tr RLab) × Int × Int → Prop) (P : Prop) (h1 : partS (pW text k) text pos deep = none → P) (h2 : ∀ r, partS (pW text k) text pos deep = some r → Q (r.1, r.2, deep)) : rPart_vc k text pos deep Q P := by
 unfold rPart_vc
 obtain ⟨hz, ⟨p0, p1, pk⟩, d0, d1⟩ := hp
 have hr := chr_rng text pos
 unfold partS at h1 h2
 refine ⟨⟨p0, p1⟩, fun hb => ?_, fun hb => ⟨fun hb2 => ?_, fun hb2 => ⟨fun hb3 => ⟨fun hb4 => ⟨by decide, ?_⟩, fun hb4 => ?_⟩, fun hb3 => ⟨by decide, ?_⟩⟩⟩⟩
 ·have hc : chr text pos = 48 ∨ chr text pos = 49 := by simpa using hb
  have := chr_lt (text := text) (p := pos) (by omega)
  rw [kd_in 48 (by omega) (by omega) (by omega), wr_in (by omega) (by omega)]
  exact h2 _ (if_pos hc)
 ·have hc : ¬ (chr text pos = 48 ∨ chr text pos = 49) := by simpa using hb
  have hc2 : 97 ≤ chr text pos ∧ chr text pos ≤ 100 := by simpa using hb2
  have := chr_lt (text := text) (p := pos) (by omega)
  rw [kd_in 97 (by omega) (by omega) (by omega), wr_in (by omega) (by omega)]
  rw [if_neg hc, if_pos hc2] at h2
  exact h2 _ rfl
 ·have hc : ¬ (chr text pos = 48 ∨ chr text pos = 49) := by simpa using hb
  have hc2 : ¬ (97 ≤ chr text pos ∧ chr text pos ≤ 100) := by simpa using hb2
  have hc3 : chr text pos = 40 := by simpa using hb3
  have hc4 : deep = 40 := by simpa using hb4
  rw [if_neg hc, if_neg hc2, if_pos hc3, if_pos hc4] at h1
  exact h1 rfl
 ·have hc : ¬ (chr text pos = 48 ∨ chr text pos = 49) := by simpa using hb
  have hc2 : ¬ (97 ≤ chr text pos ∧ chr text pos ≤ 100) := by simpa using hb2
  have hc3 : chr text pos = 40 := by simpa using hb3
  have hc4 : ¬ deep = 40 := by simpa using hb4
  have := chr_lt (text := text) (p := pos) (by omega)
  rw [if_neg hc, if_neg hc2, if_pos hc3, if_neg hc4] at h1 h2
  rw [wr_in (n := pos + 1) (by omega) (by omega), wr_in (n := deep + 1) (by omega) (by omega)]
  refine ⟨⟨hz, ⟨by omega, by omega, by omega⟩, by omega, by omega⟩, fun e => ?_, fun r hr2 => ?_⟩
  ·rw [e] at h1
   exact h1 rfl
  ·obtain ⟨k1, k2⟩ := pW_good k (pos + 1) (deep + 1) r (by omega) (by omega) hr2
   rw [hr2] at h1 h2
   refine ⟨⟨by omega, k2⟩, fun hb5 => ⟨by decide, ?_⟩, fun hb5 => ?_⟩
   ·have hc5 : ¬ chr text r.2 = 41 := by simpa using hb5
    simp only [if_neg hc5] at h1
    exact h1 trivial
   ·have hc5 : chr text r.2 = 41 := by simpa using hb5
    have := chr_lt (text := text) (p := r.2) (by omega)
    simp only [if_pos hc5] at h2
    rw [wr_in (by omega) (by omega), wr_in (by omega) (by omega), show deep + 1 - 1 = deep by omega]
    exact h2 _ rfl
 ·have hc : ¬ (chr text pos = 48 ∨ chr text pos = 49) := by simpa using hb
  have hc2 : ¬ (97 ≤ chr text pos ∧ chr text pos ≤ 100) := by simpa using hb2
  have hc3 : ¬ chr text pos = 40 := by simpa using hb3
  rw [if_neg hc, if_neg hc2, if_neg hc3] at h1
  exact h1 rfl
theorem rPart_ok (k : Nat) (ih : WC k) (text : ByteArray) (pos deep : Int) (hp : rOk (k + 1) text pos deep) (r : RTr × Int) (hx : partS (pW text k) text pos deep = some r) : CtE 241 [.sv (.one (.ptr 0 0))] [.box [.v (.string text), I pos, I deep] 268 false] [0] (fun (_ : Unit) => True) (fun _ => .sv (.one (.rd (trR rLab r.1)))) (fun _ => [.box [.v (.string text), I r.2, I deep] 268 false]) :=
 (rPart_walk k text pos deep ih (fun x => x = (r.1, r.2, deep)) False (rPart_all k text pos deep hp _ _ (fun e => by rw [hx] at e; cases e) (fun y e => by rw [hx] at e; cases e; rfl))).toE fun x hx => ⟨(), trivial, by subst hx; rfl, by subst hx; rfl⟩
theorem rPart_bad (k : Nat) (ih : WC k) (text : ByteArray) (pos deep : Int) (hp : rOk (k + 1) text pos deep) (hx : partS (pW text k) text pos deep = none) : CtX 241 [.sv (.one (.ptr 0 0))] [.box [.v (.string text), I pos, I deep] 268 false] (psStop 265) :=
 (rPart_walk k text pos deep ih (fun _ => False) True (rPart_all k text pos deep hp _ _ (fun _ => trivial) (fun y e => by rw [hx] at e; cases e))).toX
def rOne_vc (k : Nat) (text : ByteArray) (pos : Int) (deep : Int) (Q : (Tr RLab) × Int × Int → Prop) (P : Prop) : Prop :=
 (rOk (k + 1) text pos deep) ∧
 ((partS (pW text k) text pos deep) = none → P) ∧ ∀ r, (partS (pW text k) text pos deep) = some r →
 (∃ (Inv : (Tr RLab) → Int → Int → Prop) (mu : (Tr RLab) → Int → Int → Nat), Inv (r.1) (r.2) deep ∧
 ∀ (x3 : (Tr RLab)) (y01 : Int) (y02 : Int) , Inv x3 y01 y02 → ((0 ≤ y01 ∧ y01 ≤ text.size) ∧
 IfP ((chr text y01) == 42) ((Inv (Tr.node (RLab.mk 5 0) ([x3] : (List (Tr RLab)))) (wr ((y01) + 1)) (y02) ∧ mu (Tr.node (RLab.mk 5 0) ([x3] : (List (Tr RLab)))) (wr ((y01) + 1)) (y02) < mu x3 y01 y02)) (Q (x3, (y01), (y02)))))
theorem rOne_walk (k : Nat) (text : ByteArray) (pos : Int) (deep : Int) (ih : WC k) (Q : (Tr RLab) × Int × Int → Prop) (P : Prop) (h : rOne_vc k text pos deep Q P) : CtP 228 [.sv (.one (.ptr 0 0))] [.box [.v (.string text), I pos, I deep] 268 false] [0] Q (fun (r : (Tr RLab) × Int × Int) => .sv (.one (.rd (trR rLab r.1)))) (fun (r : (Tr RLab) × Int × Int) => [.box [.v (.string text), I r.2.1, I r.2.2] 268 false]) (psStop 265) P := by
 have ht := tab_ok
 refine CtP.body Try.func228 rfl rfl rfl (by kernel_rfl) (by kernel_rfl) (fun c Bk hn hpan => ?_)
 unfold rOne_vc at h
 show En c ⟨[sl 0 (.pptr 0 0 (Bk 0))], [.box [.v (.string text), I pos, I deep] 268 false]⟩ _
 refine En.seq ?_
 refine En.region ?_
 refine WL.run ht hn 1 ⟨[sl 0 (.pptr 0 0 (Bk 0))], [.box [.v (.string text), I pos, I deep] 268 false]⟩ (by kernel_rfl) ?_
 refine WL.nil ?_
 refine En.seq ?_
 refine En.region ?_
 refine WL.run ht hn 1 ⟨[sl 0 (.pptr 0 0 (Bk 0)), sl 4 (.ptr 0 0)], [.box [.v (.string text), I pos, I deep] 268 false]⟩ (by kernel_rfl) ?_
 have hp := h.1
 replace h := h.2
 refine splitO ((partS (pW text k) text pos deep)) (fun hr_2 => ?_) (fun r hr_2 => ?_)
 exact WL.callX (rPart_bad k ih text pos deep hp hr_2) en241 (caps := []) [0] (by rfl) rfl (by rfl) (argsAs (by kernel_rfl) (by rfl)) (by kernel_rfl) (by decide) (leftX hpan (h.1 hr_2))
 replace h := h.2 r hr_2
 refine WL.callE (rPart_ok k ih text pos deep hp r hr_2) en241 (caps := []) [0] hn (by rfl) rfl (by rfl) (argsAs (by kernel_rfl) (by rfl)) (by kernel_rfl) (by decide) (by rfl) (by rfl) (fun _ _ => ⟨by rfl, _, by rfl, ?_⟩)
 refine WL.run ht hn 1 ⟨[sl 0 (.pptr 0 0 (Bk 0)), sl 3 (.rd (trR rLab (r.1)))], [.box [.v (.string text), I (r.2), I deep] 268 false]⟩ (by kernel_rfl) ?_
 refine WL.nil ?_
 refine En.seq ?_
 refine En.block ?_
 obtain ⟨Inv, mu, h0, hI⟩ := h
 refine En.loop (σ := (Tr RLab) × Int × Int) (fun zz => Inv zz.1 zz.2.1 zz.2.2) (fun zz => mu zz.1 zz.2.1 zz.2.2) (fun zz => ⟨[sl 0 (.pptr 0 0 (Bk 0)), sl 3 (.rd (trR rLab zz.1))], [.box [.v (.string text), I zz.2.1, I zz.2.2] 268 false]⟩) ((r.1), (r.2), deep) h0 (sub_ok (by kernel_rfl)) ?_
 rintro ⟨x3, y01, y02⟩ h
 replace h := hI _ _ _ h
 show En c ⟨[sl 0 (.pptr 0 0 (Bk 0)), sl 3 (.rd (trR rLab x3))], [.box [.v (.string text), I y01, I y02] 268 false]⟩ _
 refine En.seq ?_
 refine En.seq ?_
 refine En.region ?_
 refine WL.run ht hn 1 ⟨[sl 0 (.pptr 0 0 (Bk 0)), sl 3 (.rd (trR rLab x3)), sl 6 (.ptr 0 0)], [.box [.v (.string text), I y01, I y02] 268 false]⟩ (by kernel_rfl) ?_
 have hp := h.1
 replace h := h.2
 refine WL.callE (rNow_ct text y01 y02 hp) en209 (caps := []) [0] hn (by rfl) rfl (by rfl) (argsAs (by kernel_rfl) (by rfl)) (by kernel_rfl) (by decide) (by rfl) (by rfl) (fun _ _ => ⟨by rfl, _, by rfl, ?_⟩)
 refine WL.run ht hn 1 ⟨[sl 0 (.pptr 0 0 (Bk 0)), sl 3 (.rd (trR rLab x3)), sl 8 (B ((chr text y01) == 42))], [.box [.v (.string text), I (y01), I (y02)] 268 false]⟩ (by kernel_rfl) ?_
 refine WL.nil ?_
 refine En.cond (b := ((chr text y01) == 42)) (by kernel_rfl) (fun hb => ?_) (fun hb => ?_)
 replace h := h.1 hb
 refine En.skip ?_
 refine En.block ?_
 refine En.seq ?_
 refine En.region ?_
 refine WL.run ht hn 8 ⟨[sl 0 (.pptr 0 0 (Bk 0)), sl 3 (.rd (trR rLab x3))], [.box [.v (.string text), I (wr ((y01) + 1)), I (y02)] 268 false]⟩ (by kernel_rfl) ?_
 refine WL.nil ?_
 refine En.region ?_
 refine WL.run ht hn 1 ⟨[sl 0 (.pptr 0 0 (Bk 0)), sl 16 (.rd (trR rLab x3))], [.box [.v (.string text), I (wr ((y01) + 1)), I (y02)] 268 false]⟩ (by kernel_rfl) ?_
 refine WL.mt0 (K := []) (p := some (1, rowI 152 (TT rLab) ([x3] : (List (Tr RLab))))) hn (by rfl) (mt_lit (T := (TT rLab)) ([x3] : (List (Tr RLab))) (mt_bsl 1 (r := cellsOf (TT rLab) ([x3] : (List (Tr RLab)))) ht rfl (by rfl) (by rfl) (by rfl) (by kernel_rfl) (by rfl)) (fun _ h => by cases h) (fun _ => rfl) (fun _ => rfl) (by rfl) (Nat.le_of_ble_eq_true rfl)) (by rfl) (by rfl) (by rfl) ?_
 refine WL.run ht hn 3 ⟨[sl 0 (.pptr 0 0 (Bk 0)), sl 3 (.ptr 2 0)], [.box [.v (.string text), I (wr ((y01) + 1)), I (y02)] 268 false, rowI 152 (TT rLab) ([x3] : (List (Tr RLab))), .box [I 5, I 0, .own 1] 316 false]⟩ (by kernel_rfl) ?_
 refine WL.nil ?_
 refine En.seal (T := (TT rLab)) (l := ([x3] : (List (Tr RLab)))) (e := 152) 1 rfl ?_
 refine En.freeze [2] (by rfl) ?_
 refine En.ghost 3 (o1 (.rd (trR rLab (Tr.node (RLab.mk 5 0) ([x3] : (List (Tr RLab))))))) (by rfl) (tree_of (lab := rLab) (x := (RLab.mk 5 0)) (kids := ([x3] : (List (Tr RLab)))) (i := 2) (by rfl) (by rfl) (by rfl)) ?_
 exact En.at (I := fun zz => Inv zz.1 zz.2.1 zz.2.2 ∧ mu zz.1 zz.2.1 zz.2.2 < mu x3 y01 y02) (T := fun zz => ⟨[sl 0 (.pptr 0 0 (Bk 0)), sl 3 (.rd (trR rLab zz.1))], [.box [.v (.string text), I zz.2.1, I zz.2.2] 268 false]⟩) ((Tr.node (RLab.mk 5 0) ([x3] : (List (Tr RLab)))), (wr ((y01) + 1)), (y02)) h (by kernel_rfl)
 replace h := h.2 hb
 refine En.exit rfl ?_
 refine En.seq ?_
 refine En.region ?_
 refine WL.run ht hn 2 ⟨[sl 0 (.pptr 0 0 (Bk 0)), sl 2 (.rd (trR rLab x3))], [.box [.v (.string text), I (y01), I (y02)] 268 false]⟩ (by kernel_rfl) ?_
 refine WL.nil ?_
 refine En.ret ?_
 exact En.backE [0] ht (x3, (y01), (y02)) h (by kernel_rfl) (by rfl) rfl
theorem en228 : ∀ args w, (callFunc 228 args).run Try.prog w = .ok (.enter 228 args) w := enters_of Try.func228 (by kernel_rfl) rfl
theorem rOne_all (k : Nat) (text : ByteArray) (pos deep : Int) (hp : rOk (k + 1) text pos deep) (Q : (Tr RLab) × Int × Int → Prop) (P : Prop) (h1 : oneS (pW text k) text pos deep = none → P) (h2 : ∀ r, oneS (pW text k) text pos deep = some r → Q (r.1, r.2, deep)) : rOne_vc k text pos deep Q P := by
 unfold rOne_vc
 refine ⟨hp, fun e => h1 (by unfold oneS; rw [e]), fun r hr => ?_⟩
 obtain ⟨hz, ⟨p0, p1, pk⟩, d0, d1⟩ := hp
 obtain ⟨k1, k2⟩ := partS_good (pW_good k) pos deep r p0 p1 hr
 have h3 := h2 _ (by unfold oneS; rw [hr])
 obtain ⟨R0, hR0⟩ : ∃ R0, R0 = starsS text text.size r.1 r.2 := ⟨_, rfl⟩
 rw [← hR0] at h3
 refine ⟨fun t p d => ∃ m : Nat, d = deep ∧ 0 ≤ p ∧ p ≤ text.size ∧ text.size - p ≤ m ∧ R0 = starsS text m t p, fun _ p _ => (text.size - p).toNat, ⟨text.size, rfl, by omega, k2, by omega, hR0⟩, ?_⟩
 rintro t p d ⟨m, rfl, q0, q1, qm, he⟩
 refine ⟨⟨q0, q1⟩, fun hb => ?_, fun hb => ?_⟩
 ·have hc : chr text p = 42 := by simpa using hb
  have := chr_lt (text := text) (p := p) (by omega)
  rw [wr_in (by omega) (by omega)]
  obtain ⟨m', rfl⟩ : ∃ m', m = m' + 1 := ⟨m - 1, by omega⟩
  rw [starsS, if_pos hc] at he
  exact ⟨⟨m', rfl, by omega, by omega, by omega, he⟩, by show ((text.size : Int) - (p + 1)).toNat < ((text.size : Int) - p).toNat; omega⟩
 ·have hc : ¬ chr text p = 42 := by simpa using hb
  have he2 : starsS text m t p = (t, p) := by
   cases m with
   | zero => rfl
   | succ m => rw [starsS, if_neg hc]
  rw [he, he2] at h3
  exact h3
theorem rOne_ok (k : Nat) (ih : WC k) (text : ByteArray) (pos deep : Int) (hp : rOk (k + 1) text pos deep) (r : RTr × Int) (hx : oneS (pW text k) text pos deep = some r) : CtE 228 [.sv (.one (.ptr 0 0))] [.box [.v (.string text), I pos, I deep] 268 false] [0] (fun (_ : Unit) => True) (fun _ => .sv (.one (.rd (trR rLab r.1)))) (fun _ => [.box [.v (.string text), I r.2, I deep] 268 false]) :=
 (rOne_walk k text pos deep ih (fun x => x = (r.1, r.2, deep)) False (rOne_all k text pos deep hp _ _ (fun e => by rw [hx] at e; cases e) (fun y e => by rw [hx] at e; cases e; rfl))).toE fun x hx => ⟨(), trivial, by subst hx; rfl, by subst hx; rfl⟩
theorem rOne_bad (k : Nat) (ih : WC k) (text : ByteArray) (pos deep : Int) (hp : rOk (k + 1) text pos deep) (hx : oneS (pW text k) text pos deep = none) : CtX 228 [.sv (.one (.ptr 0 0))] [.box [.v (.string text), I pos, I deep] 268 false] (psStop 265) :=
 (rOne_walk k text pos deep ih (fun _ => False) True (rOne_all k text pos deep hp _ _ (fun _ => trivial) (fun y e => by rw [hx] at e; cases e))).toX
def rRow_vc (k : Nat) (text : ByteArray) (pos : Int) (deep : Int) (Q : (Tr RLab) × Int × Int → Prop) (P : Prop) : Prop :=
 (rOk (k + 1) text pos deep) ∧
 ((oneS (pW text k) text pos deep) = none → P) ∧ ∀ r, (oneS (pW text k) text pos deep) = some r →
 (∃ (Inv : Int → Int → (List (Tr RLab)) → Prop) (mu : Int → Int → (List (Tr RLab)) → Nat), Inv (r.2) deep ([(r.1)] : (List (Tr RLab))) ∧
 ∀ (y01 : Int) (y02 : Int) (l1 : (List (Tr RLab))) , Inv y01 y02 l1 → ((0 ≤ y01 ∧ y01 ≤ text.size) ∧
 IfP (begB text y01) ((rOk (k + 1) text (y01) (y02)) ∧
 ((oneS (pW text k) text (y01) (y02)) = none → P) ∧ ∀ r_2, (oneS (pW text k) text (y01) (y02)) = some r_2 →
 (capOk l1.length (([(r_2.1)] : (List (Tr RLab))) : (List (Tr RLab))).length 8 ∧
 (Inv (r_2.2) (y02) (l1 ++ ([(r_2.1)] : (List (Tr RLab)))) ∧ mu (r_2.2) (y02) (l1 ++ ([(r_2.1)] : (List (Tr RLab)))) < mu y01 y02 l1))) (Q ((Tr.node (RLab.mk 4 0) l1), (y01), (y02)))))
noncomputable abbrev qrRow0 := (List (Tr RLab))
theorem rRow_walk (k : Nat) (text : ByteArray) (pos : Int) (deep : Int) (ih : WC k) (Q : (Tr RLab) × Int × Int → Prop) (P : Prop) (h : rRow_vc k text pos deep Q P) : CtP 208 [.sv (.one (.ptr 0 0))] [.box [.v (.string text), I pos, I deep] 268 false] [0] Q (fun (r : (Tr RLab) × Int × Int) => .sv (.one (.rd (trR rLab r.1)))) (fun (r : (Tr RLab) × Int × Int) => [.box [.v (.string text), I r.2.1, I r.2.2] 268 false]) (psStop 265) P := by
 have ht := tab_ok
 refine CtP.body Try.func208 rfl rfl rfl (by kernel_rfl) (by kernel_rfl) (fun c Bk hn hpan => ?_)
 unfold rRow_vc at h
 show En c ⟨[sl 0 (.pptr 0 0 (Bk 0))], [.box [.v (.string text), I pos, I deep] 268 false]⟩ _
 refine En.seq ?_
 refine En.region ?_
 refine WL.run ht hn 1 ⟨[sl 0 (.pptr 0 0 (Bk 0))], [.box [.v (.string text), I pos, I deep] 268 false]⟩ (by kernel_rfl) ?_
 refine WL.nil ?_
 refine En.seq ?_
 refine En.region ?_
 refine WL.run ht hn 1 ⟨[sl 0 (.pptr 0 0 (Bk 0)), sl 4 (.ptr 0 0)], [.box [.v (.string text), I pos, I deep] 268 false]⟩ (by kernel_rfl) ?_
 have hp := h.1
 replace h := h.2
 refine splitO ((oneS (pW text k) text pos deep)) (fun hr_2 => ?_) (fun r hr_2 => ?_)
 exact WL.callX (rOne_bad k ih text pos deep hp hr_2) en228 (caps := []) [0] (by rfl) rfl (by rfl) (argsAs (by kernel_rfl) (by rfl)) (by kernel_rfl) (by decide) (leftX hpan (h.1 hr_2))
 replace h := h.2 r hr_2
 refine WL.callE (rOne_ok k ih text pos deep hp r hr_2) en228 (caps := []) [0] hn (by rfl) rfl (by rfl) (argsAs (by kernel_rfl) (by rfl)) (by kernel_rfl) (by decide) (by rfl) (by rfl) (fun _ _ => ⟨by rfl, _, by rfl, ?_⟩)
 refine WL.mt0 (K := []) (p := some (1, rowI 152 (TT rLab) ([(r.1)] : (qrRow0)))) hn (by rfl) (mt_lit (T := (TT rLab)) ([(r.1)] : (qrRow0)) (mt_bsl 1 (r := cellsOf (TT rLab) ([(r.1)] : (qrRow0))) ht rfl (by rfl) (by rfl) (by rfl) (by kernel_rfl) (by rfl)) (fun _ h => by cases h) (fun _ => rfl) (fun _ => rfl) (by rfl) (Nat.le_of_ble_eq_true rfl)) (by rfl) (by rfl) (by rfl) ?_
 refine WL.run ht hn 3 ⟨[sl 0 (.pptr 0 0 (Bk 0)), sl 3 (.ptr 2 0)], [.box [.v (.string text), I (r.2), I deep] 268 false, rowI 152 (TT rLab) ([(r.1)] : (qrRow0)), .box [I 4, I 0, .own 1] 316 false]⟩ (by kernel_rfl) ?_
 refine WL.nil ?_
 refine En.seq ?_
 refine En.block ?_
 obtain ⟨Inv, mu, h0, hI⟩ := h
 refine En.loop (σ := Int × Int × (qrRow0)) (fun zz => Inv zz.1 zz.2.1 zz.2.2) (fun zz => mu zz.1 zz.2.1 zz.2.2) (fun zz => ⟨[sl 0 (.pptr 0 0 (Bk 0)), sl 3 (.ptr 2 0)], [.box [.v (.string text), I zz.1, I zz.2.1] 268 false, rowI 152 (TT rLab) zz.2.2, .box [I 4, I 0, .own 1] 316 false]⟩) ((r.2), deep, ([(r.1)] : (qrRow0))) h0 (sub_ok (by kernel_rfl)) ?_
 rintro ⟨y01, y02, l1⟩ h
 replace h := hI _ _ _ h
 show En c ⟨[sl 0 (.pptr 0 0 (Bk 0)), sl 3 (.ptr 2 0)], [.box [.v (.string text), I y01, I y02] 268 false, rowI 152 (TT rLab) l1, .box [I 4, I 0, .own 1] 316 false]⟩ _
 refine En.seq ?_
 refine En.seq ?_
 refine En.region ?_
 refine WL.run ht hn 1 ⟨[sl 0 (.pptr 0 0 (Bk 0)), sl 3 (.ptr 2 0), sl 9 (.ptr 0 0)], [.box [.v (.string text), I y01, I y02] 268 false, rowI 152 (TT rLab) l1, .box [I 4, I 0, .own 1] 316 false]⟩ (by kernel_rfl) ?_
 have hp := h.1
 replace h := h.2
 refine WL.callE (rBeg_ct text y01 y02 hp) en229 (caps := []) [0] hn (by rfl) rfl (by rfl) (argsAs (by kernel_rfl) (by rfl)) (by kernel_rfl) (by decide) (by rfl) (by rfl) (fun _ _ => ⟨by rfl, _, by rfl, ?_⟩)
 refine WL.nil ?_
 refine En.cond (b := (begB text y01)) (by kernel_rfl) (fun hb => ?_) (fun hb => ?_)
 replace h := h.1 hb
 refine En.skip ?_
 refine En.block ?_
 have hp_2 := h.1
 replace h := h.2
 refine splitO ((oneS (pW text k) text (y01) (y02))) (fun hr_3 => ?_) (fun r_2 hr_3 => ?_)
 refine En.regionA ⟨[sl 0 (.pptr 0 0 (Bk 0)), sl 3 (.ptr 2 0)], [.sv (.one (.ptr 2 0)), .sv (.one (.ptr 2 0)), .sv (.one (.ptr 2 0)), .sv (.one (.ptr 2 2)), .sv (.one (.own 1)), .sv (.one (.ptr 0 0)), .sv (.one (.rd deadR)), .sv (.one (.rd deadR)), .sv (.one (.rd deadR)), .sv (.one (.ptr 2 0)), .sv (.one (.ptr 2 2)), .sv (.one (.rd deadR))], [⟨.box [.v (.string text), I (y01), I (y02)] 268 false, none, none, none⟩, ⟨rowI 152 (TT rLab) l1, none, none, none⟩, ⟨.box [I 4, I 0, .own 1] 316 false, none, none, none⟩]⟩ ⟨[sl 17 (.rd deadR)], [.gone, .gone, .gone]⟩ (by kernel_rfl) hn (by kernel_rfl) (by rfl) (by kernel_rfl) ?_ (by kernel_rfl) ?_
 exact ⟨.mt ⟨[sl 3 (.ptr 2 0)], []⟩ [] none (by kernel_rfl) (by rfl) (mt_ev ht (by kernel_rfl)) rfl rfl rfl rfl,
 .mt ⟨[sl 3 (.ptr 2 0)], []⟩ [] none (by kernel_rfl) (by rfl) (mt_ev ht (by kernel_rfl)) rfl rfl rfl rfl,
 .mt ⟨[sl 12 (.ptr 2 0)], []⟩ [] none (by kernel_rfl) (by rfl) (mt_ev ht (by kernel_rfl)) rfl rfl rfl rfl,
 .mt ⟨[sl 13 (.ptr 2 0)], []⟩ [] none (by kernel_rfl) (by rfl) (mt_ev ht (by kernel_rfl)) rfl rfl rfl rfl,
 .mt ⟨[sl 14 (.ptr 2 2)], [.gone, .gone, .box [I 4, I 0, .own 1] 316 false]⟩ [] none (by kernel_rfl) (by rfl) (mt_ev ht (by kernel_rfl)) rfl rfl rfl rfl,
 .mt ⟨[sl 0 (.pptr 0 0 (Bk 0))], []⟩ [] none (by kernel_rfl) (by rfl) (mt_ev ht (by kernel_rfl)) rfl rfl rfl rfl,
 .mt ⟨[sl 16 (.ptr 0 0)], [.box [.v (.string text), I (y01), I (y02)] 268 false]⟩ [] none (by kernel_rfl) (by rfl) (mt_callX (rOne_bad k ih text (y01) (y02) hp_2 hr_3) en228 (caps := []) [0] rfl (by rfl) (argsAs (by kernel_rfl) (by rfl)) (by kernel_rfl) (by decide) (leftX hpan (h.1 hr_3))) rfl rfl rfl rfl,
 .mt ⟨[sl 17 (.rd deadR)], []⟩ [] none (by kernel_rfl) (by rfl) (mt_dead 17 (by rfl)) rfl rfl rfl rfl,
 .mt ⟨[sl 15 (.own 1), sl 18 (.rd deadR)], []⟩ [] none (by kernel_rfl) (by rfl) (mt_dead 18 (by rfl)) rfl rfl rfl rfl,
 .mt ⟨[sl 11 (.ptr 2 0)], []⟩ [] none (by kernel_rfl) (by rfl) (mt_ev ht (by kernel_rfl)) rfl rfl rfl rfl,
 .mt ⟨[sl 20 (.ptr 2 0)], []⟩ [] none (by kernel_rfl) (by rfl) (mt_ev ht (by kernel_rfl)) rfl rfl rfl rfl,
 .mt ⟨[sl 19 (.rd deadR), sl 21 (.ptr 2 2)], []⟩ [] none (by kernel_rfl) (by rfl) (mt_dead 19 (by rfl)) rfl rfl rfl rfl,
 trivial⟩
 exact En.dead 17 (by rfl)
 replace h := h.2 r_2 hr_3
 have hp_3 := h.1
 replace h := h.2
 refine En.regionA ⟨[sl 0 (.pptr 0 0 (Bk 0)), sl 3 (.ptr 2 0)], [.sv (.one (.ptr 2 0)), .sv (.one (.ptr 2 0)), .sv (.one (.ptr 2 0)), .sv (.one (.ptr 2 2)), .sv (.one (.own 1)), .sv (.one (.ptr 0 0)), .sv (.one (.rd (trR rLab (r_2.1)))), .sv (.one (LS (TT rLab) ([(r_2.1)] : (qrRow0)))), .sv (.one (.own 3)), .sv (.one (.ptr 2 0)), .sv (.one (.ptr 2 2)), .tup []], [⟨.box [.v (.string text), I (y01), I (y02)] 268 false, none, none, some (6, .box [.v (.string text), I (r_2.2), I (y02)] 268 false)⟩, ⟨rowI 152 (TT rLab) l1, none, some 8, none⟩, ⟨.box [I 4, I 0, .own 1] 316 false, none, none, some (11, .box [I 4, I 0, .own 3] 316 false)⟩, ⟨rowI 152 (TT rLab) (l1 ++ ([(r_2.1)] : (qrRow0))), some 8, none, none⟩]⟩ ⟨[sl 0 (.pptr 0 0 (Bk 0)), sl 3 (.ptr 2 0)], [.box [.v (.string text), I (r_2.2), I (y02)] 268 false, .gone, .box [I 4, I 0, .own 3] 316 false, rowI 152 (TT rLab) (l1 ++ ([(r_2.1)] : (qrRow0)))]⟩ (by kernel_rfl) hn (by kernel_rfl) (by rfl) (by kernel_rfl) ?_ (by kernel_rfl) ?_
 exact ⟨.mt ⟨[sl 3 (.ptr 2 0)], []⟩ [] none (by kernel_rfl) (by rfl) (mt_ev ht (by kernel_rfl)) rfl rfl rfl rfl,
 .mt ⟨[sl 3 (.ptr 2 0)], []⟩ [] none (by kernel_rfl) (by rfl) (mt_ev ht (by kernel_rfl)) rfl rfl rfl rfl,
 .mt ⟨[sl 12 (.ptr 2 0)], []⟩ [] none (by kernel_rfl) (by rfl) (mt_ev ht (by kernel_rfl)) rfl rfl rfl rfl,
 .mt ⟨[sl 13 (.ptr 2 0)], []⟩ [] none (by kernel_rfl) (by rfl) (mt_ev ht (by kernel_rfl)) rfl rfl rfl rfl,
 .mt ⟨[sl 14 (.ptr 2 2)], [.gone, .gone, .box [I 4, I 0, .own 1] 316 false]⟩ [] none (by kernel_rfl) (by rfl) (mt_ev ht (by kernel_rfl)) rfl rfl rfl rfl,
 .mt ⟨[sl 0 (.pptr 0 0 (Bk 0))], []⟩ [] none (by kernel_rfl) (by rfl) (mt_ev ht (by kernel_rfl)) rfl rfl rfl rfl,
 .me ⟨[sl 16 (.ptr 0 0)], [.box [.v (.string text), I (y01), I (y02)] 268 false]⟩ [(0, .box [.v (.string text), I (r_2.2), I (y02)] 268 false)] (by kernel_rfl) (by rfl) (me_call (rOne_ok k ih text (y01) (y02) hp_2 r_2 hr_3) en228 (caps := []) [0] rfl (by rfl) (argsAs (by kernel_rfl) (by rfl)) (by kernel_rfl) (by decide) (by rfl) (by rfl)) rfl rfl rfl ⟨⟨_, rfl, rfl, rfl, rfl, rfl⟩, trivial⟩,
 .mt ⟨[sl 17 (.rd (trR rLab (r_2.1)))], []⟩ [] none (by kernel_rfl) (by rfl) (mt_seal (q := 3) (e := 152) (mt_lit (T := (TT rLab)) ([(r_2.1)] : (qrRow0)) (mt_bsl 3 (r := cellsOf (TT rLab) ([(r_2.1)] : (qrRow0))) ht rfl (by rfl) (by rfl) (by rfl) (by kernel_rfl) (by rfl)) (fun _ h => by cases h) (fun _ => rfl) (fun _ => rfl) (by rfl) (Nat.le_of_ble_eq_true rfl))) rfl rfl rfl rfl,
 .mt ⟨[sl 15 (.own 1), sl 18 (LS (TT rLab) ([(r_2.1)] : (qrRow0)))], [.gone, rowI 152 (TT rLab) l1]⟩ [1] (some 3) (by kernel_rfl) (by rfl) (mt_append (T := (TT rLab)) (l := l1) (es := ([(r_2.1)] : (qrRow0))) (p := 3) ht rfl (by rfl) (by rfl) (by rfl) (by rfl) (by decide) (by rfl) (by rfl) (srcLS (T := (TT rLab)) (es := ([(r_2.1)] : (qrRow0))) (fun _ h => by cases h) (by decide) (by rfl)) (by exact hp_3) (by exact hp_3.le (by decide))) rfl rfl rfl rfl,
 .mt ⟨[sl 11 (.ptr 2 0)], []⟩ [] none (by kernel_rfl) (by rfl) (mt_ev ht (by kernel_rfl)) rfl rfl rfl rfl,
 .mt ⟨[sl 20 (.ptr 2 0)], []⟩ [] none (by kernel_rfl) (by rfl) (mt_ev ht (by kernel_rfl)) rfl rfl rfl rfl,
 .mu ⟨[sl 19 (.own 3), sl 21 (.ptr 2 2)], [.gone, .gone, .box [I 4, I 0, .own 1] 316 false]⟩ 2 _ _ rfl rfl (by kernel_rfl) (by rfl) (mu_store2 ht rfl (by rfl) (by rfl) (by rfl) (by rfl) (fun h => by cases h) (by rfl) (by rfl)) rfl rfl rfl rfl rfl rfl rfl,
 trivial⟩
 refine En.move 3 1 (by rfl) (by rfl) ?_
 exact En.at (I := fun zz => Inv zz.1 zz.2.1 zz.2.2 ∧ mu zz.1 zz.2.1 zz.2.2 < mu y01 y02 l1) (T := fun zz => ⟨[sl 0 (.pptr 0 0 (Bk 0)), sl 3 (.ptr 2 0)], [.box [.v (.string text), I zz.1, I zz.2.1] 268 false, rowI 152 (TT rLab) zz.2.2, .box [I 4, I 0, .own 1] 316 false]⟩) ((r_2.2), (y02), (l1 ++ ([(r_2.1)] : (qrRow0)))) h (by kernel_rfl)
 replace h := h.2 hb
 refine En.exit rfl ?_
 refine En.seq ?_
 refine En.region ?_
 refine WL.run ht hn 2 ⟨[sl 0 (.pptr 0 0 (Bk 0)), sl 2 (.ptr 2 0)], [.box [.v (.string text), I (y01), I (y02)] 268 false, rowI 152 (TT rLab) l1, .box [I 4, I 0, .own 1] 316 false]⟩ (by kernel_rfl) ?_
 refine WL.nil ?_
 refine En.ret ?_
 refine En.seal (T := (TT rLab)) (l := l1) (e := 152) 1 rfl ?_
 refine En.freeze [2] (by rfl) ?_
 refine En.ghost 2 (o1 (.rd (trR rLab (Tr.node (RLab.mk 4 0) l1)))) (by rfl) (tree_of (lab := rLab) (x := (RLab.mk 4 0)) (kids := l1) (i := 2) (by rfl) (by rfl) (by rfl)) ?_
 exact En.backE [0] ht ((Tr.node (RLab.mk 4 0) l1), (y01), (y02)) h (by kernel_rfl) (by rfl) rfl
theorem en208 : ∀ args w, (callFunc 208 args).run Try.prog w = .ok (.enter 208 args) w := enters_of Try.func208 (by kernel_rfl) rfl
theorem rRow_all (k : Nat) (text : ByteArray) (pos deep : Int) (hp : rOk (k + 1) text pos deep) (Q : (Tr RLab) × Int × Int → Prop) (P : Prop) (h1 : rowS (pW text k) text pos deep = none → P) (h2 : ∀ r, rowS (pW text k) text pos deep = some r → Q (r.1, r.2, deep)) : rRow_vc k text pos deep Q P := by
 unfold rRow_vc
 refine ⟨hp, fun e => h1 (by unfold rowS; rw [e]), fun r hr => ?_⟩
 obtain ⟨hz, ⟨p0, p1, pk⟩, d0, d1⟩ := hp
 obtain ⟨k1, k2⟩ := oneS_good (pW_good k) pos deep r p0 p1 hr
 unfold rowS at h1 h2
 simp only [hr] at h1 h2
 obtain ⟨R0, hR0⟩ : ∃ R0, R0 = rowL (fun p => oneS (pW text k) text p deep) text (text.size + 1) [r.1] r.2 := ⟨_, rfl⟩
 rw [← hR0] at h1 h2
 refine ⟨fun p d l => ∃ m : Nat, d = deep ∧ pos ≤ p ∧ p ≤ text.size ∧ text.size - p < m ∧ R0 = rowL (fun p => oneS (pW text k) text p deep) text m l p ∧ (l.length : Int) ≤ p, fun p _ _ => (text.size - p).toNat, ⟨text.size + 1, rfl, by omega, k2, by omega, hR0, by simp only [List.length_cons, List.length_nil]; omega⟩, ?_⟩
 rintro p d l ⟨m, rfl, q0, q1, qm, he, hl⟩
 obtain ⟨m', rfl⟩ : ∃ m', m = m' + 1 := ⟨m - 1, by omega⟩
 refine ⟨⟨by omega, q1⟩, fun hb => ?_, fun hb => ?_⟩
 ·have hc := hb
  have : p < text.size := by
   unfold begB at hb
   rw [Bool.and_eq_true] at hb
   exact of_decide_eq_true hb.1
  rw [rowL, if_pos hc] at he
  refine ⟨⟨hz, ⟨by omega, by omega, by omega⟩, d0, d1⟩, fun e => h1 ?_, fun r2 hr2 => ?_⟩
  ·simp only [e] at he
   rw [he]
  ·obtain ⟨k3, k4⟩ := oneS_good (pW_good k) p d r2 (by omega) (by omega) hr2
   simp only [hr2] at he
   refine ⟨capOk_of (by simp only [List.length_cons, List.length_nil]; omega), ⟨m', rfl, by omega, k4, by omega, he, by rw [List.length_append]; simp only [List.length_cons, List.length_nil]; omega⟩, by show ((text.size : Int) - r2.2).toNat < ((text.size : Int) - p).toNat; omega⟩
 ·have hc : ¬ begB text p = true := by rw [hb]; decide
  rw [rowL, if_neg hc] at he
  exact h2 (nd 4 0 l, p) (by rw [he])
theorem rRow_ok (k : Nat) (ih : WC k) (text : ByteArray) (pos deep : Int) (hp : rOk (k + 1) text pos deep) (r : RTr × Int) (hx : rowS (pW text k) text pos deep = some r) : CtE 208 [.sv (.one (.ptr 0 0))] [.box [.v (.string text), I pos, I deep] 268 false] [0] (fun (_ : Unit) => True) (fun _ => .sv (.one (.rd (trR rLab r.1)))) (fun _ => [.box [.v (.string text), I r.2, I deep] 268 false]) :=
 (rRow_walk k text pos deep ih (fun x => x = (r.1, r.2, deep)) False (rRow_all k text pos deep hp _ _ (fun e => by rw [hx] at e; cases e) (fun y e => by rw [hx] at e; cases e; rfl))).toE fun x hx => ⟨(), trivial, by subst hx; rfl, by subst hx; rfl⟩
theorem rRow_bad (k : Nat) (ih : WC k) (text : ByteArray) (pos deep : Int) (hp : rOk (k + 1) text pos deep) (hx : rowS (pW text k) text pos deep = none) : CtX 208 [.sv (.one (.ptr 0 0))] [.box [.v (.string text), I pos, I deep] 268 false] (psStop 265) :=
 (rRow_walk k text pos deep ih (fun _ => False) True (rRow_all k text pos deep hp _ _ (fun _ => trivial) (fun y e => by rw [hx] at e; cases e))).toX
def rWhole_vc (k : Nat) (text : ByteArray) (pos : Int) (deep : Int) (Q : (Tr RLab) × Int × Int → Prop) (P : Prop) : Prop :=
 (rOk (k + 1) text pos deep) ∧
 ((rowS (pW text k) text pos deep) = none → P) ∧ ∀ r, (rowS (pW text k) text pos deep) = some r →
 (∃ (Inv : Int → Int → (List (Tr RLab)) → Prop) (mu : Int → Int → (List (Tr RLab)) → Nat), Inv (r.2) deep ([(r.1)] : (List (Tr RLab))) ∧
 ∀ (y01 : Int) (y02 : Int) (l1 : (List (Tr RLab))) , Inv y01 y02 l1 → ((0 ≤ y01 ∧ y01 ≤ text.size) ∧
 IfP ((chr text y01) == 43) ((rOk (k + 1) text (wr ((y01) + 1)) (y02)) ∧
 ((rowS (pW text k) text (wr ((y01) + 1)) (y02)) = none → P) ∧ ∀ r_2, (rowS (pW text k) text (wr ((y01) + 1)) (y02)) = some r_2 →
 (capOk l1.length (([(r_2.1)] : (List (Tr RLab))) : (List (Tr RLab))).length 8 ∧
 (Inv (r_2.2) (y02) (l1 ++ ([(r_2.1)] : (List (Tr RLab)))) ∧ mu (r_2.2) (y02) (l1 ++ ([(r_2.1)] : (List (Tr RLab)))) < mu y01 y02 l1))) (Q ((Tr.node (RLab.mk 3 0) l1), (y01), (y02)))))
theorem rWhole_walk (k : Nat) (text : ByteArray) (pos : Int) (deep : Int) (ih : WC k) (Q : (Tr RLab) × Int × Int → Prop) (P : Prop) (h : rWhole_vc k text pos deep Q P) : CtP 155 [.sv (.one (.ptr 0 0))] [.box [.v (.string text), I pos, I deep] 268 false] [0] Q (fun (r : (Tr RLab) × Int × Int) => .sv (.one (.rd (trR rLab r.1)))) (fun (r : (Tr RLab) × Int × Int) => [.box [.v (.string text), I r.2.1, I r.2.2] 268 false]) (psStop 265) P := by
 have ht := tab_ok
 refine CtP.body Try.func155 rfl rfl rfl (by kernel_rfl) (by kernel_rfl) (fun c Bk hn hpan => ?_)
 unfold rWhole_vc at h
 show En c ⟨[sl 0 (.pptr 0 0 (Bk 0))], [.box [.v (.string text), I pos, I deep] 268 false]⟩ _
 refine En.seq ?_
 refine En.region ?_
 refine WL.run ht hn 1 ⟨[sl 0 (.pptr 0 0 (Bk 0))], [.box [.v (.string text), I pos, I deep] 268 false]⟩ (by kernel_rfl) ?_
 refine WL.nil ?_
 refine En.seq ?_
 refine En.region ?_
 refine WL.run ht hn 1 ⟨[sl 0 (.pptr 0 0 (Bk 0)), sl 4 (.ptr 0 0)], [.box [.v (.string text), I pos, I deep] 268 false]⟩ (by kernel_rfl) ?_
 have hp := h.1
 replace h := h.2
 refine splitO ((rowS (pW text k) text pos deep)) (fun hr_2 => ?_) (fun r hr_2 => ?_)
 exact WL.callX (rRow_bad k ih text pos deep hp hr_2) en208 (caps := []) [0] (by rfl) rfl (by rfl) (argsAs (by kernel_rfl) (by rfl)) (by kernel_rfl) (by decide) (leftX hpan (h.1 hr_2))
 replace h := h.2 r hr_2
 refine WL.callE (rRow_ok k ih text pos deep hp r hr_2) en208 (caps := []) [0] hn (by rfl) rfl (by rfl) (argsAs (by kernel_rfl) (by rfl)) (by kernel_rfl) (by decide) (by rfl) (by rfl) (fun _ _ => ⟨by rfl, _, by rfl, ?_⟩)
 refine WL.mt0 (K := []) (p := some (1, rowI 152 (TT rLab) ([(r.1)] : (List (Tr RLab))))) hn (by rfl) (mt_lit (T := (TT rLab)) ([(r.1)] : (List (Tr RLab))) (mt_bsl 1 (r := cellsOf (TT rLab) ([(r.1)] : (List (Tr RLab)))) ht rfl (by rfl) (by rfl) (by rfl) (by kernel_rfl) (by rfl)) (fun _ h => by cases h) (fun _ => rfl) (fun _ => rfl) (by rfl) (Nat.le_of_ble_eq_true rfl)) (by rfl) (by rfl) (by rfl) ?_
 refine WL.run ht hn 3 ⟨[sl 0 (.pptr 0 0 (Bk 0)), sl 3 (.ptr 2 0)], [.box [.v (.string text), I (r.2), I deep] 268 false, rowI 152 (TT rLab) ([(r.1)] : (List (Tr RLab))), .box [I 3, I 0, .own 1] 316 false]⟩ (by kernel_rfl) ?_
 refine WL.nil ?_
 refine En.seq ?_
 refine En.block ?_
 obtain ⟨Inv, mu, h0, hI⟩ := h
 refine En.loop (σ := Int × Int × (List (Tr RLab))) (fun zz => Inv zz.1 zz.2.1 zz.2.2) (fun zz => mu zz.1 zz.2.1 zz.2.2) (fun zz => ⟨[sl 0 (.pptr 0 0 (Bk 0)), sl 3 (.ptr 2 0)], [.box [.v (.string text), I zz.1, I zz.2.1] 268 false, rowI 152 (TT rLab) zz.2.2, .box [I 3, I 0, .own 1] 316 false]⟩) ((r.2), deep, ([(r.1)] : (List (Tr RLab)))) h0 (sub_ok (by kernel_rfl)) ?_
 rintro ⟨y01, y02, l1⟩ h
 replace h := hI _ _ _ h
 show En c ⟨[sl 0 (.pptr 0 0 (Bk 0)), sl 3 (.ptr 2 0)], [.box [.v (.string text), I y01, I y02] 268 false, rowI 152 (TT rLab) l1, .box [I 3, I 0, .own 1] 316 false]⟩ _
 refine En.seq ?_
 refine En.seq ?_
 refine En.region ?_
 refine WL.run ht hn 1 ⟨[sl 0 (.pptr 0 0 (Bk 0)), sl 3 (.ptr 2 0), sl 9 (.ptr 0 0)], [.box [.v (.string text), I y01, I y02] 268 false, rowI 152 (TT rLab) l1, .box [I 3, I 0, .own 1] 316 false]⟩ (by kernel_rfl) ?_
 have hp := h.1
 replace h := h.2
 refine WL.callE (rNow_ct text y01 y02 hp) en209 (caps := []) [0] hn (by rfl) rfl (by rfl) (argsAs (by kernel_rfl) (by rfl)) (by kernel_rfl) (by decide) (by rfl) (by rfl) (fun _ _ => ⟨by rfl, _, by rfl, ?_⟩)
 refine WL.run ht hn 1 ⟨[sl 0 (.pptr 0 0 (Bk 0)), sl 3 (.ptr 2 0), sl 11 (B ((chr text y01) == 43))], [.box [.v (.string text), I (y01), I (y02)] 268 false, rowI 152 (TT rLab) l1, .box [I 3, I 0, .own 1] 316 false]⟩ (by kernel_rfl) ?_
 refine WL.nil ?_
 refine En.cond (b := ((chr text y01) == 43)) (by kernel_rfl) (fun hb => ?_) (fun hb => ?_)
 replace h := h.1 hb
 refine En.skip ?_
 refine En.block ?_
 refine En.seq ?_
 refine En.region ?_
 refine WL.run ht hn 8 ⟨[sl 0 (.pptr 0 0 (Bk 0)), sl 3 (.ptr 2 0)], [.box [.v (.string text), I (wr ((y01) + 1)), I (y02)] 268 false, rowI 152 (TT rLab) l1, .box [I 3, I 0, .own 1] 316 false]⟩ (by kernel_rfl) ?_
 refine WL.nil ?_
 have hp_2 := h.1
 replace h := h.2
 refine splitO ((rowS (pW text k) text (wr ((y01) + 1)) (y02))) (fun hr_3 => ?_) (fun r_2 hr_3 => ?_)
 refine En.regionA ⟨[sl 0 (.pptr 0 0 (Bk 0)), sl 3 (.ptr 2 0)], [.sv (.one (.ptr 2 0)), .sv (.one (.ptr 2 0)), .sv (.one (.ptr 2 0)), .sv (.one (.ptr 2 2)), .sv (.one (.own 1)), .sv (.one (.ptr 0 0)), .sv (.one (.rd deadR)), .sv (.one (.rd deadR)), .sv (.one (.rd deadR)), .sv (.one (.ptr 2 0)), .sv (.one (.ptr 2 2)), .sv (.one (.rd deadR))], [⟨.box [.v (.string text), I (wr ((y01) + 1)), I (y02)] 268 false, none, none, none⟩, ⟨rowI 152 (TT rLab) l1, none, none, none⟩, ⟨.box [I 3, I 0, .own 1] 316 false, none, none, none⟩]⟩ ⟨[sl 25 (.rd deadR)], [.gone, .gone, .gone]⟩ (by kernel_rfl) hn (by kernel_rfl) (by rfl) (by kernel_rfl) ?_ (by kernel_rfl) ?_
 exact ⟨.mt ⟨[sl 3 (.ptr 2 0)], []⟩ [] none (by kernel_rfl) (by rfl) (mt_ev ht (by kernel_rfl)) rfl rfl rfl rfl,
 .mt ⟨[sl 3 (.ptr 2 0)], []⟩ [] none (by kernel_rfl) (by rfl) (mt_ev ht (by kernel_rfl)) rfl rfl rfl rfl,
 .mt ⟨[sl 20 (.ptr 2 0)], []⟩ [] none (by kernel_rfl) (by rfl) (mt_ev ht (by kernel_rfl)) rfl rfl rfl rfl,
 .mt ⟨[sl 21 (.ptr 2 0)], []⟩ [] none (by kernel_rfl) (by rfl) (mt_ev ht (by kernel_rfl)) rfl rfl rfl rfl,
 .mt ⟨[sl 22 (.ptr 2 2)], [.gone, .gone, .box [I 3, I 0, .own 1] 316 false]⟩ [] none (by kernel_rfl) (by rfl) (mt_ev ht (by kernel_rfl)) rfl rfl rfl rfl,
 .mt ⟨[sl 0 (.pptr 0 0 (Bk 0))], []⟩ [] none (by kernel_rfl) (by rfl) (mt_ev ht (by kernel_rfl)) rfl rfl rfl rfl,
 .mt ⟨[sl 24 (.ptr 0 0)], [.box [.v (.string text), I (wr ((y01) + 1)), I (y02)] 268 false]⟩ [] none (by kernel_rfl) (by rfl) (mt_callX (rRow_bad k ih text (wr ((y01) + 1)) (y02) hp_2 hr_3) en208 (caps := []) [0] rfl (by rfl) (argsAs (by kernel_rfl) (by rfl)) (by kernel_rfl) (by decide) (leftX hpan (h.1 hr_3))) rfl rfl rfl rfl,
 .mt ⟨[sl 25 (.rd deadR)], []⟩ [] none (by kernel_rfl) (by rfl) (mt_dead 25 (by rfl)) rfl rfl rfl rfl,
 .mt ⟨[sl 23 (.own 1), sl 26 (.rd deadR)], []⟩ [] none (by kernel_rfl) (by rfl) (mt_dead 26 (by rfl)) rfl rfl rfl rfl,
 .mt ⟨[sl 19 (.ptr 2 0)], []⟩ [] none (by kernel_rfl) (by rfl) (mt_ev ht (by kernel_rfl)) rfl rfl rfl rfl,
 .mt ⟨[sl 28 (.ptr 2 0)], []⟩ [] none (by kernel_rfl) (by rfl) (mt_ev ht (by kernel_rfl)) rfl rfl rfl rfl,
 .mt ⟨[sl 27 (.rd deadR), sl 29 (.ptr 2 2)], []⟩ [] none (by kernel_rfl) (by rfl) (mt_dead 27 (by rfl)) rfl rfl rfl rfl,
 trivial⟩
 exact En.dead 25 (by rfl)
 replace h := h.2 r_2 hr_3
 have hp_3 := h.1
 replace h := h.2
 refine En.regionA ⟨[sl 0 (.pptr 0 0 (Bk 0)), sl 3 (.ptr 2 0)], [.sv (.one (.ptr 2 0)), .sv (.one (.ptr 2 0)), .sv (.one (.ptr 2 0)), .sv (.one (.ptr 2 2)), .sv (.one (.own 1)), .sv (.one (.ptr 0 0)), .sv (.one (.rd (trR rLab (r_2.1)))), .sv (.one (LS (TT rLab) ([(r_2.1)] : (List (Tr RLab))))), .sv (.one (.own 3)), .sv (.one (.ptr 2 0)), .sv (.one (.ptr 2 2)), .tup []], [⟨.box [.v (.string text), I (wr ((y01) + 1)), I (y02)] 268 false, none, none, some (6, .box [.v (.string text), I (r_2.2), I (y02)] 268 false)⟩, ⟨rowI 152 (TT rLab) l1, none, some 8, none⟩, ⟨.box [I 3, I 0, .own 1] 316 false, none, none, some (11, .box [I 3, I 0, .own 3] 316 false)⟩, ⟨rowI 152 (TT rLab) (l1 ++ ([(r_2.1)] : (List (Tr RLab)))), some 8, none, none⟩]⟩ ⟨[sl 0 (.pptr 0 0 (Bk 0)), sl 3 (.ptr 2 0)], [.box [.v (.string text), I (r_2.2), I (y02)] 268 false, .gone, .box [I 3, I 0, .own 3] 316 false, rowI 152 (TT rLab) (l1 ++ ([(r_2.1)] : (List (Tr RLab))))]⟩ (by kernel_rfl) hn (by kernel_rfl) (by rfl) (by kernel_rfl) ?_ (by kernel_rfl) ?_
 exact ⟨.mt ⟨[sl 3 (.ptr 2 0)], []⟩ [] none (by kernel_rfl) (by rfl) (mt_ev ht (by kernel_rfl)) rfl rfl rfl rfl,
 .mt ⟨[sl 3 (.ptr 2 0)], []⟩ [] none (by kernel_rfl) (by rfl) (mt_ev ht (by kernel_rfl)) rfl rfl rfl rfl,
 .mt ⟨[sl 20 (.ptr 2 0)], []⟩ [] none (by kernel_rfl) (by rfl) (mt_ev ht (by kernel_rfl)) rfl rfl rfl rfl,
 .mt ⟨[sl 21 (.ptr 2 0)], []⟩ [] none (by kernel_rfl) (by rfl) (mt_ev ht (by kernel_rfl)) rfl rfl rfl rfl,
 .mt ⟨[sl 22 (.ptr 2 2)], [.gone, .gone, .box [I 3, I 0, .own 1] 316 false]⟩ [] none (by kernel_rfl) (by rfl) (mt_ev ht (by kernel_rfl)) rfl rfl rfl rfl,
 .mt ⟨[sl 0 (.pptr 0 0 (Bk 0))], []⟩ [] none (by kernel_rfl) (by rfl) (mt_ev ht (by kernel_rfl)) rfl rfl rfl rfl,
 .me ⟨[sl 24 (.ptr 0 0)], [.box [.v (.string text), I (wr ((y01) + 1)), I (y02)] 268 false]⟩ [(0, .box [.v (.string text), I (r_2.2), I (y02)] 268 false)] (by kernel_rfl) (by rfl) (me_call (rRow_ok k ih text (wr ((y01) + 1)) (y02) hp_2 r_2 hr_3) en208 (caps := []) [0] rfl (by rfl) (argsAs (by kernel_rfl) (by rfl)) (by kernel_rfl) (by decide) (by rfl) (by rfl)) rfl rfl rfl ⟨⟨_, rfl, rfl, rfl, rfl, rfl⟩, trivial⟩,
 .mt ⟨[sl 25 (.rd (trR rLab (r_2.1)))], []⟩ [] none (by kernel_rfl) (by rfl) (mt_seal (q := 3) (e := 152) (mt_lit (T := (TT rLab)) ([(r_2.1)] : (List (Tr RLab))) (mt_bsl 3 (r := cellsOf (TT rLab) ([(r_2.1)] : (List (Tr RLab)))) ht rfl (by rfl) (by rfl) (by rfl) (by kernel_rfl) (by rfl)) (fun _ h => by cases h) (fun _ => rfl) (fun _ => rfl) (by rfl) (Nat.le_of_ble_eq_true rfl))) rfl rfl rfl rfl,
 .mt ⟨[sl 23 (.own 1), sl 26 (LS (TT rLab) ([(r_2.1)] : (List (Tr RLab))))], [.gone, rowI 152 (TT rLab) l1]⟩ [1] (some 3) (by kernel_rfl) (by rfl) (mt_append (T := (TT rLab)) (l := l1) (es := ([(r_2.1)] : (List (Tr RLab)))) (p := 3) ht rfl (by rfl) (by rfl) (by rfl) (by rfl) (by decide) (by rfl) (by rfl) (srcLS (T := (TT rLab)) (es := ([(r_2.1)] : (List (Tr RLab)))) (fun _ h => by cases h) (by decide) (by rfl)) (by exact hp_3) (by exact hp_3.le (by decide))) rfl rfl rfl rfl,
 .mt ⟨[sl 19 (.ptr 2 0)], []⟩ [] none (by kernel_rfl) (by rfl) (mt_ev ht (by kernel_rfl)) rfl rfl rfl rfl,
 .mt ⟨[sl 28 (.ptr 2 0)], []⟩ [] none (by kernel_rfl) (by rfl) (mt_ev ht (by kernel_rfl)) rfl rfl rfl rfl,
 .mu ⟨[sl 27 (.own 3), sl 29 (.ptr 2 2)], [.gone, .gone, .box [I 3, I 0, .own 1] 316 false]⟩ 2 _ _ rfl rfl (by kernel_rfl) (by rfl) (mu_store2 ht rfl (by rfl) (by rfl) (by rfl) (by rfl) (fun h => by cases h) (by rfl) (by rfl)) rfl rfl rfl rfl rfl rfl rfl,
 trivial⟩
 refine En.move 3 1 (by rfl) (by rfl) ?_
 exact En.at (I := fun zz => Inv zz.1 zz.2.1 zz.2.2 ∧ mu zz.1 zz.2.1 zz.2.2 < mu y01 y02 l1) (T := fun zz => ⟨[sl 0 (.pptr 0 0 (Bk 0)), sl 3 (.ptr 2 0)], [.box [.v (.string text), I zz.1, I zz.2.1] 268 false, rowI 152 (TT rLab) zz.2.2, .box [I 3, I 0, .own 1] 316 false]⟩) ((r_2.2), (y02), (l1 ++ ([(r_2.1)] : (List (Tr RLab))))) h (by kernel_rfl)
 replace h := h.2 hb
 refine En.exit rfl ?_
 refine En.seq ?_
 refine En.region ?_
 refine WL.run ht hn 2 ⟨[sl 0 (.pptr 0 0 (Bk 0)), sl 2 (.ptr 2 0)], [.box [.v (.string text), I (y01), I (y02)] 268 false, rowI 152 (TT rLab) l1, .box [I 3, I 0, .own 1] 316 false]⟩ (by kernel_rfl) ?_
 refine WL.nil ?_
 refine En.ret ?_
 refine En.seal (T := (TT rLab)) (l := l1) (e := 152) 1 rfl ?_
 refine En.freeze [2] (by rfl) ?_
 refine En.ghost 2 (o1 (.rd (trR rLab (Tr.node (RLab.mk 3 0) l1)))) (by rfl) (tree_of (lab := rLab) (x := (RLab.mk 3 0)) (kids := l1) (i := 2) (by rfl) (by rfl) (by rfl)) ?_
 exact En.backE [0] ht ((Tr.node (RLab.mk 3 0) l1), (y01), (y02)) h (by kernel_rfl) (by rfl) rfl
theorem rWhole_all (k : Nat) (text : ByteArray) (pos deep : Int) (hp : rOk (k + 1) text pos deep) (Q : (Tr RLab) × Int × Int → Prop) (P : Prop) (h1 : pW text (k + 1) pos deep = none → P) (h2 : ∀ r, pW text (k + 1) pos deep = some r → Q (r.1, r.2, deep)) : rWhole_vc k text pos deep Q P := by
 unfold rWhole_vc
 rw [pW] at h1 h2
 refine ⟨hp, fun e => h1 (by unfold wholeS; rw [e]), fun r hr => ?_⟩
 obtain ⟨hz, ⟨p0, p1, pk⟩, d0, d1⟩ := hp
 obtain ⟨k1, k2⟩ := rowS_good (pW_good k) pos deep r p0 p1 hr
 unfold wholeS at h1 h2
 simp only [hr] at h1 h2
 obtain ⟨R0, hR0⟩ : ∃ R0, R0 = wholeL (fun p => rowS (pW text k) text p deep) text (text.size + 1) [r.1] r.2 := ⟨_, rfl⟩
 rw [← hR0] at h1 h2
 refine ⟨fun p d l => ∃ m : Nat, d = deep ∧ pos ≤ p ∧ p ≤ text.size ∧ text.size - p < m ∧ R0 = wholeL (fun p => rowS (pW text k) text p deep) text m l p ∧ (l.length : Int) ≤ p, fun p _ _ => (text.size - p).toNat, ⟨text.size + 1, rfl, by omega, k2, by omega, hR0, by simp only [List.length_cons, List.length_nil]; omega⟩, ?_⟩
 rintro p d l ⟨m, rfl, q0, q1, qm, he, hl⟩
 obtain ⟨m', rfl⟩ : ∃ m', m = m' + 1 := ⟨m - 1, by omega⟩
 refine ⟨⟨by omega, q1⟩, fun hb => ?_, fun hb => ?_⟩
 ·have hc : chr text p = 43 := by simpa using hb
  have := chr_lt (text := text) (p := p) (by omega)
  rw [wr_in (by omega) (by omega)]
  rw [wholeL, if_pos hc] at he
  refine ⟨⟨hz, ⟨by omega, by omega, by omega⟩, d0, d1⟩, fun e => h1 ?_, fun r2 hr2 => ?_⟩
  ·simp only [e] at he
   rw [he]
  ·obtain ⟨k3, k4⟩ := rowS_good (pW_good k) (p + 1) d r2 (by omega) (by omega) hr2
   simp only [hr2] at he
   refine ⟨capOk_of (by simp only [List.length_cons, List.length_nil]; omega), ⟨m', rfl, by omega, k4, by omega, he, by rw [List.length_append]; simp only [List.length_cons, List.length_nil]; omega⟩, by show ((text.size : Int) - r2.2).toNat < ((text.size : Int) - p).toNat; omega⟩
 ·have hc : ¬ chr text p = 43 := by simpa using hb
  rw [wholeL, if_neg hc] at he
  exact h2 (nd 3 0 l, p) (by rw [he])
theorem rWhole_ok (k : Nat) (ih : WC k) (text : ByteArray) (pos deep : Int) (hp : rOk (k + 1) text pos deep) (r : RTr × Int) (hx : pW text (k + 1) pos deep = some r) : CtE 155 [.sv (.one (.ptr 0 0))] [.box [.v (.string text), I pos, I deep] 268 false] [0] (fun (_ : Unit) => True) (fun _ => .sv (.one (.rd (trR rLab r.1)))) (fun _ => [.box [.v (.string text), I r.2, I deep] 268 false]) :=
 (rWhole_walk k text pos deep ih (fun x => x = (r.1, r.2, deep)) False (rWhole_all k text pos deep hp _ _ (fun e => by rw [hx] at e; cases e) (fun y e => by rw [hx] at e; cases e; rfl))).toE fun x hx => ⟨(), trivial, by subst hx; rfl, by subst hx; rfl⟩
theorem rWhole_bad (k : Nat) (ih : WC k) (text : ByteArray) (pos deep : Int) (hp : rOk (k + 1) text pos deep) (hx : pW text (k + 1) pos deep = none) : CtX 155 [.sv (.one (.ptr 0 0))] [.box [.v (.string text), I pos, I deep] 268 false] (psStop 265) :=
 (rWhole_walk k text pos deep ih (fun _ => False) True (rWhole_all k text pos deep hp _ _ (fun _ => trivial) (fun y e => by rw [hx] at e; cases e))).toX
theorem regWhole : ∀ k, WC k
 | 0 => fun text pos deep hp => absurd hp.2.1 (by omega)
 | k + 1 => fun text pos deep hp => ⟨rWhole_ok k (regWhole k) text pos deep hp, rWhole_bad k (regWhole k) text pos deep hp⟩
end Go.Proofs.Ytapnmjeadbhffaa

