/- Lemmas towards the statement: mirrors of functions, and plain laws. No condition. -/
import Derived.Test.YtobenjahlicnoaaPackLearnBlind3
namespace Go.Proofs.Ytobenjahlicnoaa
open Go.RowKit Go.MapKept
set_option linter.unusedSimpArgs false
set_option linter.unusedVariables false
set_option maxRecDepth 100000
def cloneInt_vc (l : List Int) (Q : (List Int) → Prop) : Prop :=
 l.length ≤ 9223372036854775807 →
 (∀ isnil : Bool, (isnil = true → l = []) →
 (IfP (isnil != false) (Q []) (capOk ([] : List Int).length (l : List Int).length 8 ∧
 Q (([] : List Int) ++ l))))
theorem cloneInt_walk (l : List Int) (Q : (List Int) → Prop) (h : cloneInt_vc l Q) : CtJ 37 [.sv (.one (LS intT l))] [] Q (fun (r : List Int) => rowI 3 intT r) := by
 have ht := tab_ok
 refine CtJ.body Try.func37 rfl rfl rfl rfl (fun c hn hmay => ?_)
 unfold cloneInt_vc at h
 refine En.lenL 0 (by rfl) (fun hl => ?_)
 replace h := h hl
 clear hl
 refine En.sr ?_
 refine WL.rn ht hn 1 ⟨[sl 0 (LS intT l)], []⟩ ?_
 refine En.seq ?_
 refine En.sr ?_
 refine WL.r ht hn 1 ⟨[sl 0 (LS intT l), sl 3 (LS intT l)], []⟩ ?_
 refine WL.eqNil (T := intT) (l := l) .eql false (by simp) ht hn (by rfl) rfl (by rfl) (by rfl) (by rfl) rfl (by rfl) (fun isnil hisnil => ?_)
 replace h := h isnil hisnil
 clear hisnil
 refine WL.nil ?_
 refine En.ch h (fun h => ?_) (fun h => ?_)
 refine En.sr ?_
 refine WL.rn ht hn 1 ⟨[sl 2 (.v (.slice none 0 0))], []⟩ ?_
 refine En.ret ?_
 exact En.backN (by rfl) h
 refine En.skip ?_
 refine En.sr ?_
 refine WL.mt0 (K := []) (p := some (0, rowI 3 intT ([] : List Int))) hn (by rfl) (mt_empty intT 0 ht rfl (by rfl) (by rfl) (by rfl)) (by rfl) (by rfl) (by rfl) ?_
 refine WL.r ht hn 1 ⟨[sl 5 (.own 0), sl 6 (LS intT l)], [rowI 3 intT ([] : List Int)]⟩ ?_
 obtain ⟨hp, h⟩ := h
 refine WL.mt (S2 := ⟨[sl 6 (LS intT l)], [rowI 3 intT ([] : List Int)]⟩) (K := [0]) (p := some (0, rowI 3 intT (([] : List Int) ++ l))) hn (by rfl) (mt_append (T := intT) (l := ([] : List Int)) (es := l) ht rfl (by rfl) (by rfl) (by rfl) (by rfl) (by decide) (by rfl) (by rfl) (srcLS (T := intT) (es := l) (fun _ h => by cases h) (by decide) (by rfl)) (by exact hp) (by exact hp.le (by decide))) (by kernel_rfl) (by rfl) (by rfl) (by rfl) ?_
 refine WL.rn ht hn 1 ⟨[sl 2 (.own 0)], [rowI 3 intT (([] : List Int) ++ l)]⟩ ?_
 refine En.ret ?_
 exact En.backJ (itf := fun l => rowI 3 intT l) hmay (by rfl) (by rfl) rfl rfl h
theorem en37 : ∀ args w, (callFunc 37 args).run Try.prog w = .ok (.enter 37 args) w := enters_of Try.func37 (by kernel_rfl) rfl
theorem cloneInt_ct (l : List Int) (hp : l.length * 8 ≤ 140737488355328) : CtI 37 [.sv (.one (LS intT l))] [] (rowI 3 intT l) := by
 refine (cloneInt_walk l (fun r => r = l) ?_).fun
 unfold cloneInt_vc
 refine fun _ isnil h => ⟨fun hb => (h (by simpa using hb)).symm, fun _ => ⟨?_, by simp⟩⟩
 unfold capOk
 simpa using hp
def exploreInt_vc (letters : Int) (start : Int) (domgo : ((Int × Int) → Prop)) (go : ((Int × Int) → Int)) (dommark : (Int → Prop)) (mark : (Int → Int)) (limit : Int) (Q : (ApiDet × Bool) → Prop) : Prop :=
 ∃ (Inv : (List (Int × Int)) → (List Int) → (List (List Int)) → (List Int) → Prop) (mu : (List (Int × Int)) → (List Int) → (List (List Int)) → (List Int) → Nat), Inv (mput start 0 ([] : List (Int × Int))) ([start] : List Int) ([] : List (List Int)) ([] : List Int) ∧
 ∀ (m2 : List (Int × Int)) (l3 : List Int) (l6 : List (List Int)) (l7 : List Int) , Inv m2 l3 l6 l7 → (IfP (decide ((l6.length : Int) < (l3.length : Int))) (∃ e, idx l3 (l6.length : Int) = some e ∧
 makeOk letters letters 8 ∧
 ∃ (Inv_2 : Int → (List (Int × Int)) → (List Int) → (List Int) → Prop) (mu_2 : Int → (List (Int × Int)) → (List Int) → (List Int) → Nat), Inv_2 0 m2 l3 (List.replicate (letters).toNat (0 : Int)) ∧
 ∀ (x43 : Int) (m2_2 : List (Int × Int)) (l3_2 : List Int) (l8 : List Int) , Inv_2 x43 m2_2 l3_2 l8 → (IfP (decide (x43 < letters)) ((domgo (e, x43)) ∧
 ∃ J : Int → (List (Int × Int)) → (List Int) → Prop, (IfP (!(mget (go (e, x43)) m2_2).isSome) (IfP ((l3_2.length : Int) == limit) (Q ((ApiDet.mk 0 0 [] []), false)) (capOk l3_2.length (([(go (e, x43))] : List Int) : List Int).length 8 ∧
 J (l3_2.length : Int) (mput (go (e, x43)) (l3_2.length : Int) m2_2) (l3_2 ++ ([(go (e, x43))] : List Int)))) (J ((mget (go (e, x43)) m2_2).getD (0 : Int)) m2_2 l3_2)) ∧
 (∀ (x19 : Int) (m2_3 : List (Int × Int)) (l3_3 : List Int), J x19 m2_3 l3_3 → ∃ e_2, idx l8 x43 = some e_2 ∧
 (Inv_2 (wr (x43 + 1)) m2_3 l3_3 (l8.set (x43).toNat x19) ∧ mu_2 (wr (x43 + 1)) m2_3 l3_3 (l8.set (x43).toNat x19) < mu_2 x43 m2_2 l3_2 l8))) (capOk l6.length (([l8] : List (List Int)) : List (List Int)).length 24 ∧
 (dommark e) ∧
 capOk l7.length (([(mark e)] : List Int) : List Int).length 8 ∧
 (Inv m2_2 l3_2 (l6 ++ ([l8] : List (List Int))) (l7 ++ ([(mark e)] : List Int)) ∧ mu m2_2 l3_2 (l6 ++ ([l8] : List (List Int))) (l7 ++ ([(mark e)] : List Int)) < mu m2 l3 l6 l7)))) (Q ((ApiDet.mk letters 0 l6 l7), true)))
noncomputable abbrev qe0 := (.box [I 0, I 0, .v (.slice none 0 0), .v (.slice none 0 0)] 25 false : Item)
noncomputable abbrev qe1 (letters : Int) := (.box [I letters, I 0, .own 6, .own 7] 25 false : Item)
noncomputable abbrev qe2 := sl 10 (.ptr 0 0)
noncomputable abbrev qe3 := sl 12 (.ptr 1 0)
noncomputable abbrev qe4 := sl 13 (.own 2)
noncomputable abbrev qe5 := sl 14 (.own 3)
noncomputable abbrev qe6 (letters : Int) := (.box [I letters, I 0, .v (.slice none 0 0), .v (.slice none 0 0)] 25 false : Item)
noncomputable abbrev qe7 := sl 16 (.own 8)
noncomputable abbrev qe8 := (List (List Int))
noncomputable abbrev qe9 (limit : Int) := sl 4 (I limit)
set_option maxHeartbeats 2000000 in
theorem exploreInt_walk (letters : Int) (start : Int) (domgo : ((Int × Int) → Prop)) (go : ((Int × Int) → Int)) (dommark : (Int → Prop)) (mark : (Int → Int)) (limit : Int) (Q : (ApiDet × Bool) → Prop) (h : exploreInt_vc letters start domgo go dommark mark limit Q) : Ct 74 [.sv (.one (I letters)), .sv (.one (I start)), .sv (.one (.rd (fvR (fun (x : (Int × Int)) => [.sv (.one (I x.1)), .sv (.one (I x.2))]) (fun (r : Int) => .sv (.one (I r))) domgo go))), .sv (.one (.rd (fvR (fun (x : Int) => [.sv (.one (I x))]) (fun (r : Int) => .sv (.one (I r))) dommark mark))), .sv (.one (I limit))] [] Q (fun (r : (ApiDet × Bool)) => .tup [.agg [I r.1.fLetters, I r.1.fStart, LS (lsT intT) r.1.fNext, LS intT r.1.fMark], .one (B r.2)]) := by
 have ht := tab_ok
 refine Ct.body Try.func74 rfl rfl rfl rfl (fun c hn => ?_)
 unfold exploreInt_vc at h
 refine En.sr ?_
 refine WL.rn ht hn 2 ⟨[sl 0 (I letters), sl 1 (I start), sl 2 (.rd (fvR (fun (x : (Int × Int)) => [.sv (.one (I x.1)), .sv (.one (I x.2))]) (fun (r : Int) => .sv (.one (I r))) domgo go)), sl 3 (.rd (fvR (fun (x : Int) => [.sv (.one (I x))]) (fun (r : Int) => .sv (.one (I r))) dommark mark)), qe9 limit, qe2], [qe0]⟩ ?_
 refine En.sr ?_
 refine WL.rn ht hn 4 ⟨[sl 0 (I letters), sl 1 (I start), sl 2 (.rd (fvR (fun (x : (Int × Int)) => [.sv (.one (I x.1)), .sv (.one (I x.2))]) (fun (r : Int) => .sv (.one (I r))) domgo go)), sl 3 (.rd (fvR (fun (x : Int) => [.sv (.one (I x))]) (fun (r : Int) => .sv (.one (I r))) dommark mark)), qe9 limit, qe2, qe3], [qe0, qe6 letters]⟩ ?_
 refine En.sr ?_
 refine WL.mt0 (K := []) (p := some (2, mapI encI3 intT ([] : List (Int × Int)))) hn (by rfl) (mt_makeMap encI3 intT 2 rfl) (by rfl) (by rfl) (by rfl) ?_
 refine WL.r ht hn 1 ⟨[sl 0 (I letters), sl 1 (I start), sl 2 (.rd (fvR (fun (x : (Int × Int)) => [.sv (.one (I x.1)), .sv (.one (I x.2))]) (fun (r : Int) => .sv (.one (I r))) domgo go)), sl 3 (.rd (fvR (fun (x : Int) => [.sv (.one (I x))]) (fun (r : Int) => .sv (.one (I r))) dommark mark)), qe9 limit, qe2, qe3, sl 23 (.own 2), sl 24 (I start)], [qe0, qe6 letters, mapI encI3 intT ([] : List (Int × Int))]⟩ ?_
 refine WL.mapPut (T := intT) keyI3 (k := start) (y := 0) hn (by rfl) (.inr rfl) Try.underlying219 (by rfl) (by rfl) (by rfl) (by rfl) (by rfl) (by rfl) ?_
 refine WL.rn ht hn 2 ⟨[sl 0 (I letters), sl 1 (I start), sl 2 (.rd (fvR (fun (x : (Int × Int)) => [.sv (.one (I x.1)), .sv (.one (I x.2))]) (fun (r : Int) => .sv (.one (I r))) domgo go)), sl 3 (.rd (fvR (fun (x : Int) => [.sv (.one (I x))]) (fun (r : Int) => .sv (.one (I r))) dommark mark)), qe9 limit, qe2, qe3, qe4], [qe0, qe6 letters, mapI encI3 intT (mput start 0 ([] : List (Int × Int)))]⟩ ?_
 refine En.seq ?_
 refine En.sr ?_
 refine WL.r ht hn 1 ⟨[sl 0 (I letters), sl 2 (.rd (fvR (fun (x : (Int × Int)) => [.sv (.one (I x.1)), .sv (.one (I x.2))]) (fun (r : Int) => .sv (.one (I r))) domgo go)), sl 3 (.rd (fvR (fun (x : Int) => [.sv (.one (I x))]) (fun (r : Int) => .sv (.one (I r))) dommark mark)), qe9 limit, qe2, qe3, qe4, sl 26 (I start)], [qe0, qe6 letters, mapI encI3 intT (mput start 0 ([] : List (Int × Int)))]⟩ ?_
 refine WL.mt0 (K := []) (p := some (3, rowI 3 intT ([start] : List Int))) hn (by rfl) (mt_lit (T := intT) ([start] : List Int) (mt_bsl 3 (r := cellsOf intT ([start] : List Int)) ht rfl (by rfl) (by rfl) (by rfl) (by kernel_rfl) (by rfl)) (fun _ h => by cases h) (fun _ => rfl) (fun _ => rfl) (by rfl) (Nat.le_of_ble_eq_true rfl)) (by rfl) (by rfl) (by rfl) ?_
 refine WL.rn ht hn 1 ⟨[sl 0 (I letters), sl 2 (.rd (fvR (fun (x : (Int × Int)) => [.sv (.one (I x.1)), .sv (.one (I x.2))]) (fun (r : Int) => .sv (.one (I r))) domgo go)), sl 3 (.rd (fvR (fun (x : Int) => [.sv (.one (I x))]) (fun (r : Int) => .sv (.one (I r))) dommark mark)), qe9 limit, qe2, qe3, qe4, qe5], [qe0, qe6 letters, mapI encI3 intT (mput start 0 ([] : List (Int × Int))), rowI 3 intT ([start] : List Int)]⟩ ?_
 refine En.block ?_
 refine En.nilBoxO (T := (lsT intT)) 1 2 6 23 (by rfl) (by rfl) (by rfl) (by rfl) ?_
 refine En.nilBoxO (T := intT) 1 3 7 3 (by rfl) (by rfl) (by rfl) (by rfl) ?_
 obtain ⟨Inv, mu, h0_2, hI_2⟩ := h
 refine En.loop (σ := (List (Int × Int)) × (List Int) × qe8 × (List Int)) (fun zz => Inv zz.1 zz.2.1 zz.2.2.1 zz.2.2.2) (fun zz => mu zz.1 zz.2.1 zz.2.2.1 zz.2.2.2) (fun zz => ⟨[sl 0 (I letters), sl 2 (.rd (fvR (fun (x : (Int × Int)) => [.sv (.one (I x.1)), .sv (.one (I x.2))]) (fun (r : Int) => .sv (.one (I r))) domgo go)), sl 3 (.rd (fvR (fun (x : Int) => [.sv (.one (I x))]) (fun (r : Int) => .sv (.one (I r))) dommark mark)), qe9 limit, qe2, qe3, qe4, qe5], [qe0, qe1 letters, mapI encI3 intT zz.1, rowI 3 intT zz.2.1, .gone, .gone, rowI 23 (lsT intT) zz.2.2.1, rowI 3 intT zz.2.2.2]⟩) ((mput start 0 ([] : List (Int × Int))), ([start] : List Int), ([] : qe8), ([] : List Int)) h0_2 (sub_ok (by kernel_rfl)) ?_
 rintro ⟨m2, l3, l6, l7⟩ h
 replace h := hI_2 _ _ _ _ h
 show En c ⟨[sl 0 (I letters), sl 2 (.rd (fvR (fun (x : (Int × Int)) => [.sv (.one (I x.1)), .sv (.one (I x.2))]) (fun (r : Int) => .sv (.one (I r))) domgo go)), sl 3 (.rd (fvR (fun (x : Int) => [.sv (.one (I x))]) (fun (r : Int) => .sv (.one (I r))) dommark mark)), qe9 limit, qe2, qe3, qe4, qe5], [qe0, qe1 letters, mapI encI3 intT m2, rowI 3 intT l3, .gone, .gone, rowI 23 (lsT intT) l6, rowI 3 intT l7]⟩ _
 refine En.seq ?_
 refine En.sr ?_
 refine WL.rn ht hn 6 ⟨[sl 0 (I letters), sl 2 (.rd (fvR (fun (x : (Int × Int)) => [.sv (.one (I x.1)), .sv (.one (I x.2))]) (fun (r : Int) => .sv (.one (I r))) domgo go)), sl 3 (.rd (fvR (fun (x : Int) => [.sv (.one (I x))]) (fun (r : Int) => .sv (.one (I r))) dommark mark)), qe9 limit, qe2, qe3, qe4, qe5, sl 33 (B (decide ((l6.length : Int) < (l3.length : Int))))], [qe0, qe1 letters, mapI encI3 intT m2, rowI 3 intT l3, .gone, .gone, rowI 23 (lsT intT) l6, rowI 3 intT l7]⟩ ?_
 refine En.ch h (fun h => ?_) (fun h => ?_)
 refine En.skip ?_
 refine En.block ?_
 refine En.sr ?_
 refine WL.r ht hn 4 ⟨[sl 0 (I letters), sl 2 (.rd (fvR (fun (x : (Int × Int)) => [.sv (.one (I x.1)), .sv (.one (I x.2))]) (fun (r : Int) => .sv (.one (I r))) domgo go)), sl 3 (.rd (fvR (fun (x : Int) => [.sv (.one (I x))]) (fun (r : Int) => .sv (.one (I r))) dommark mark)), qe9 limit, qe2, qe3, qe4, qe5, sl 34 (.own 3), sl 37 (I (l6.length : Int))], [qe0, qe1 letters, mapI encI3 intT m2, rowI 3 intT l3, .gone, .gone, rowI 23 (lsT intT) l6, rowI 3 intT l7]⟩ ?_
 obtain ⟨e, he, h⟩ := h
 refine WL.v hn (val_indexO (T := intT) (l := l3) (k := (l6.length : Int)) ht rfl (by rfl) (by rfl) (by rfl) (by rfl) (by decide) (by rfl) (by rfl) (by rfl) he) ?_
 refine WL.v hn (val_loadO (T := intT) (l := l3) (y := e) ht rfl (by rfl) (by rfl) (by rfl) (by rfl) (by rfl) (idx_some he).2.2 (by rfl)) ?_
 refine WL.rn ht hn 1 ⟨[sl 0 (I letters), sl 2 (.rd (fvR (fun (x : (Int × Int)) => [.sv (.one (I x.1)), .sv (.one (I x.2))]) (fun (r : Int) => .sv (.one (I r))) domgo go)), sl 3 (.rd (fvR (fun (x : Int) => [.sv (.one (I x))]) (fun (r : Int) => .sv (.one (I r))) dommark mark)), qe9 limit, qe2, qe3, qe4, qe5, sl 15 (I e)], [qe0, qe1 letters, mapI encI3 intT m2, rowI 3 intT l3, .gone, .gone, rowI 23 (lsT intT) l6, rowI 3 intT l7]⟩ ?_
 refine En.sr ?_
 refine WL.r ht hn 1 ⟨[sl 0 (I letters), sl 2 (.rd (fvR (fun (x : (Int × Int)) => [.sv (.one (I x.1)), .sv (.one (I x.2))]) (fun (r : Int) => .sv (.one (I r))) domgo go)), sl 3 (.rd (fvR (fun (x : Int) => [.sv (.one (I x))]) (fun (r : Int) => .sv (.one (I r))) dommark mark)), qe9 limit, qe2, qe3, qe4, qe5, sl 15 (I e), sl 40 (I letters)], [qe0, qe1 letters, mapI encI3 intT m2, rowI 3 intT l3, .gone, .gone, rowI 23 (lsT intT) l6, rowI 3 intT l7]⟩ ?_
 obtain ⟨hp, h⟩ := h
 refine WL.mt0 (K := []) (p := some (8, rowI 3 intT (List.replicate (letters).toNat (0 : Int)))) hn (by rfl) (mt_make (T := intT) (0 : Int) (zv := (.int .i64 0)) 8 (l := letters) (cp := letters) ht rfl (by rfl) (by rfl) (by rfl) (by rfl) (by decide) (by rfl) (by rfl) hp.1 hp.2.1 hp.2.2 (hp.le (by decide)) rfl (fun _ => ⟨rfl, trivial⟩)) (by rfl) (by rfl) (by rfl) ?_
 refine WL.rn ht hn 1 ⟨[sl 0 (I letters), sl 2 (.rd (fvR (fun (x : (Int × Int)) => [.sv (.one (I x.1)), .sv (.one (I x.2))]) (fun (r : Int) => .sv (.one (I r))) domgo go)), sl 3 (.rd (fvR (fun (x : Int) => [.sv (.one (I x))]) (fun (r : Int) => .sv (.one (I r))) dommark mark)), qe9 limit, qe2, qe3, qe4, qe5, sl 15 (I e), qe7], [qe0, qe1 letters, mapI encI3 intT m2, rowI 3 intT l3, .gone, .gone, rowI 23 (lsT intT) l6, rowI 3 intT l7, rowI 3 intT (List.replicate (letters).toNat (0 : Int))]⟩ ?_
 refine En.seq ?_
 refine En.sr ?_
 refine WL.rn ht hn 2 ⟨[sl 0 (I letters), sl 2 (.rd (fvR (fun (x : (Int × Int)) => [.sv (.one (I x.1)), .sv (.one (I x.2))]) (fun (r : Int) => .sv (.one (I r))) domgo go)), sl 3 (.rd (fvR (fun (x : Int) => [.sv (.one (I x))]) (fun (r : Int) => .sv (.one (I r))) dommark mark)), qe9 limit, qe2, qe3, qe4, qe5, sl 15 (I e), qe7, sl 42 (I letters), sl 43 (I 0)], [qe0, qe1 letters, mapI encI3 intT m2, rowI 3 intT l3, .gone, .gone, rowI 23 (lsT intT) l6, rowI 3 intT l7, rowI 3 intT (List.replicate (letters).toNat (0 : Int))]⟩ ?_
 refine En.block ?_
 obtain ⟨Inv_2, mu_2, h0, hI⟩ := h
 refine En.loop (σ := Int × (List (Int × Int)) × (List Int) × (List Int)) (fun zz => Inv_2 zz.1 zz.2.1 zz.2.2.1 zz.2.2.2) (fun zz => mu_2 zz.1 zz.2.1 zz.2.2.1 zz.2.2.2) (fun zz => ⟨[sl 0 (I letters), sl 2 (.rd (fvR (fun (x : (Int × Int)) => [.sv (.one (I x.1)), .sv (.one (I x.2))]) (fun (r : Int) => .sv (.one (I r))) domgo go)), sl 3 (.rd (fvR (fun (x : Int) => [.sv (.one (I x))]) (fun (r : Int) => .sv (.one (I r))) dommark mark)), qe9 limit, qe2, qe3, qe4, qe5, sl 15 (I e), qe7, sl 42 (I letters), sl 43 (I zz.1)], [qe0, qe1 letters, mapI encI3 intT zz.2.1, rowI 3 intT zz.2.2.1, .gone, .gone, rowI 23 (lsT intT) l6, rowI 3 intT l7, rowI 3 intT zz.2.2.2]⟩) (0, m2, l3, (List.replicate (letters).toNat (0 : Int))) h0 (sub_ok (by kernel_rfl)) ?_
 rintro ⟨x43, m2_2, l3_2, l8⟩ h
 replace h := hI _ _ _ _ h
 show En c ⟨[sl 0 (I letters), sl 2 (.rd (fvR (fun (x : (Int × Int)) => [.sv (.one (I x.1)), .sv (.one (I x.2))]) (fun (r : Int) => .sv (.one (I r))) domgo go)), sl 3 (.rd (fvR (fun (x : Int) => [.sv (.one (I x))]) (fun (r : Int) => .sv (.one (I r))) dommark mark)), qe9 limit, qe2, qe3, qe4, qe5, sl 15 (I e), qe7, sl 42 (I letters), sl 43 (I x43)], [qe0, qe1 letters, mapI encI3 intT m2_2, rowI 3 intT l3_2, .gone, .gone, rowI 23 (lsT intT) l6, rowI 3 intT l7, rowI 3 intT l8]⟩ _
 refine En.sr ?_
 refine WL.rn ht hn 1 ⟨[sl 0 (I letters), sl 2 (.rd (fvR (fun (x : (Int × Int)) => [.sv (.one (I x.1)), .sv (.one (I x.2))]) (fun (r : Int) => .sv (.one (I r))) domgo go)), sl 3 (.rd (fvR (fun (x : Int) => [.sv (.one (I x))]) (fun (r : Int) => .sv (.one (I r))) dommark mark)), qe9 limit, qe2, qe3, qe4, qe5, sl 15 (I e), qe7, sl 42 (I letters), sl 43 (I x43), sl 44 (B (decide (x43 < letters)))], [qe0, qe1 letters, mapI encI3 intT m2_2, rowI 3 intT l3_2, .gone, .gone, rowI 23 (lsT intT) l6, rowI 3 intT l7, rowI 3 intT l8]⟩ ?_
 refine En.seq ?_
 refine En.ch h (fun h => ?_) (fun h => ?_)
 refine En.skip ?_
 refine En.seq ?_
 refine En.block ?_
 refine En.sr ?_
 refine WL.rn ht hn 2 ⟨[sl 0 (I letters), sl 2 (.rd (fvR (fun (x : (Int × Int)) => [.sv (.one (I x.1)), .sv (.one (I x.2))]) (fun (r : Int) => .sv (.one (I r))) domgo go)), sl 3 (.rd (fvR (fun (x : Int) => [.sv (.one (I x))]) (fun (r : Int) => .sv (.one (I r))) dommark mark)), qe9 limit, qe2, qe3, qe4, qe5, sl 15 (I e), qe7, sl 17 (I x43), sl 42 (I letters), sl 43 (I x43)], [qe0, qe1 letters, mapI encI3 intT m2_2, rowI 3 intT l3_2, .gone, .gone, rowI 23 (lsT intT) l6, rowI 3 intT l7, rowI 3 intT l8]⟩ ?_
 refine En.sr ?_
 refine WL.r ht hn 3 ⟨[sl 0 (I letters), sl 2 (.rd (fvR (fun (x : (Int × Int)) => [.sv (.one (I x.1)), .sv (.one (I x.2))]) (fun (r : Int) => .sv (.one (I r))) domgo go)), sl 3 (.rd (fvR (fun (x : Int) => [.sv (.one (I x))]) (fun (r : Int) => .sv (.one (I r))) dommark mark)), qe9 limit, qe2, qe3, qe4, qe5, sl 15 (I e), qe7, sl 17 (I x43), sl 42 (I letters), sl 43 (I x43), sl 46 (.rd (fvR (fun (x : (Int × Int)) => [.sv (.one (I x.1)), .sv (.one (I x.2))]) (fun (r : Int) => .sv (.one (I r))) domgo go)), sl 47 (I e), sl 48 (I x43)], [qe0, qe1 letters, mapI encI3 intT m2_2, rowI 3 intT l3_2, .gone, .gone, rowI 23 (lsT intT) l6, rowI 3 intT l7, rowI 3 intT l8]⟩ ?_
 obtain ⟨hp, h⟩ := h
 refine WL.m0 hn (mt_callv (e, x43) hp rfl (by rfl) (by rfl) (by rfl) (by rfl)) ?_
 refine WL.rn ht hn 1 ⟨[sl 0 (I letters), sl 2 (.rd (fvR (fun (x : (Int × Int)) => [.sv (.one (I x.1)), .sv (.one (I x.2))]) (fun (r : Int) => .sv (.one (I r))) domgo go)), sl 3 (.rd (fvR (fun (x : Int) => [.sv (.one (I x))]) (fun (r : Int) => .sv (.one (I r))) dommark mark)), qe9 limit, qe2, qe3, qe4, qe5, sl 15 (I e), qe7, sl 17 (I x43), sl 18 (I (go (e, x43))), sl 42 (I letters), sl 43 (I x43)], [qe0, qe1 letters, mapI encI3 intT m2_2, rowI 3 intT l3_2, .gone, .gone, rowI 23 (lsT intT) l6, rowI 3 intT l7, rowI 3 intT l8]⟩ ?_
 refine En.sr ?_
 refine WL.r ht hn 2 ⟨[sl 0 (I letters), sl 2 (.rd (fvR (fun (x : (Int × Int)) => [.sv (.one (I x.1)), .sv (.one (I x.2))]) (fun (r : Int) => .sv (.one (I r))) domgo go)), sl 3 (.rd (fvR (fun (x : Int) => [.sv (.one (I x))]) (fun (r : Int) => .sv (.one (I r))) dommark mark)), qe9 limit, qe2, qe3, qe4, qe5, sl 15 (I e), qe7, sl 17 (I x43), sl 18 (I (go (e, x43))), sl 42 (I letters), sl 43 (I x43), sl 51 (.own 2), sl 52 (I (go (e, x43)))], [qe0, qe1 letters, mapI encI3 intT m2_2, rowI 3 intT l3_2, .gone, .gone, rowI 23 (lsT intT) l6, rowI 3 intT l7, rowI 3 intT l8]⟩ ?_
 refine WL.v hn (val_lookup (T := intT) (D := m2_2) keyI3 (k := (go (e, x43))) (ok := true) (0 : Int) (zv := (.int .i64 0)) rfl Try.underlying219 (fun _ => by kernel_rfl) (fun _ => ⟨rfl, trivial⟩) (mapAs encI3 intT m2_2) (by rfl) (by rfl) (by rfl) (fun _ => rfl)) ?_
 refine WL.rn ht hn 5 ⟨[sl 0 (I letters), sl 2 (.rd (fvR (fun (x : (Int × Int)) => [.sv (.one (I x.1)), .sv (.one (I x.2))]) (fun (r : Int) => .sv (.one (I r))) domgo go)), sl 3 (.rd (fvR (fun (x : Int) => [.sv (.one (I x))]) (fun (r : Int) => .sv (.one (I r))) dommark mark)), qe9 limit, qe2, qe3, qe4, qe5, sl 15 (I e), qe7, sl 17 (I x43), sl 18 (I (go (e, x43))), sl 19 (I ((mget (go (e, x43)) m2_2).getD (0 : Int))), sl 20 (B (mget (go (e, x43)) m2_2).isSome), sl 42 (I letters), sl 43 (I x43)], [qe0, qe1 letters, mapI encI3 intT m2_2, rowI 3 intT l3_2, .gone, .gone, rowI 23 (lsT intT) l6, rowI 3 intT l7, rowI 3 intT l8]⟩ ?_
 obtain ⟨J, h, hJ⟩ := h
 refine En.seqJ (σ := Int × (List (Int × Int)) × (List Int)) (fun zz => J zz.1 zz.2.1 zz.2.2) (fun zz => ⟨[sl 0 (I letters), sl 2 (.rd (fvR (fun (x : (Int × Int)) => [.sv (.one (I x.1)), .sv (.one (I x.2))]) (fun (r : Int) => .sv (.one (I r))) domgo go)), sl 3 (.rd (fvR (fun (x : Int) => [.sv (.one (I x))]) (fun (r : Int) => .sv (.one (I r))) dommark mark)), qe9 limit, qe2, qe3, qe4, qe5, sl 15 (I e), qe7, sl 17 (I x43), sl 19 (I zz.1), sl 42 (I letters), sl 43 (I x43)], [qe0, qe1 letters, mapI encI3 intT zz.2.1, rowI 3 intT zz.2.2, .gone, .gone, rowI 23 (lsT intT) l6, rowI 3 intT l7, rowI 3 intT l8]⟩) ?_ ?_
 refine En.sr ?_
 refine WL.rn ht hn 2 ⟨[sl 0 (I letters), sl 2 (.rd (fvR (fun (x : (Int × Int)) => [.sv (.one (I x.1)), .sv (.one (I x.2))]) (fun (r : Int) => .sv (.one (I r))) domgo go)), sl 3 (.rd (fvR (fun (x : Int) => [.sv (.one (I x))]) (fun (r : Int) => .sv (.one (I r))) dommark mark)), qe9 limit, qe2, qe3, qe4, qe5, sl 15 (I e), qe7, sl 17 (I x43), sl 18 (I (go (e, x43))), sl 19 (I ((mget (go (e, x43)) m2_2).getD (0 : Int))), sl 42 (I letters), sl 43 (I x43), sl 57 (B (!(mget (go (e, x43)) m2_2).isSome))], [qe0, qe1 letters, mapI encI3 intT m2_2, rowI 3 intT l3_2, .gone, .gone, rowI 23 (lsT intT) l6, rowI 3 intT l7, rowI 3 intT l8]⟩ ?_
 refine En.ch h (fun h => ?_) (fun h => ?_)
 refine En.sr ?_
 refine WL.rn ht hn 3 ⟨[sl 0 (I letters), sl 2 (.rd (fvR (fun (x : (Int × Int)) => [.sv (.one (I x.1)), .sv (.one (I x.2))]) (fun (r : Int) => .sv (.one (I r))) domgo go)), sl 3 (.rd (fvR (fun (x : Int) => [.sv (.one (I x))]) (fun (r : Int) => .sv (.one (I r))) dommark mark)), qe9 limit, qe2, qe3, qe4, qe5, sl 15 (I e), qe7, sl 17 (I x43), sl 18 (I (go (e, x43))), sl 19 (I (l3_2.length : Int)), sl 42 (I letters), sl 43 (I x43)], [qe0, qe1 letters, mapI encI3 intT m2_2, rowI 3 intT l3_2, .gone, .gone, rowI 23 (lsT intT) l6, rowI 3 intT l7, rowI 3 intT l8]⟩ ?_
 refine En.seq ?_
 refine En.sr ?_
 refine WL.rn ht hn 3 ⟨[sl 0 (I letters), sl 2 (.rd (fvR (fun (x : (Int × Int)) => [.sv (.one (I x.1)), .sv (.one (I x.2))]) (fun (r : Int) => .sv (.one (I r))) domgo go)), sl 3 (.rd (fvR (fun (x : Int) => [.sv (.one (I x))]) (fun (r : Int) => .sv (.one (I r))) dommark mark)), qe9 limit, qe2, qe3, qe4, qe5, sl 15 (I e), qe7, sl 17 (I x43), sl 18 (I (go (e, x43))), sl 19 (I (l3_2.length : Int)), sl 42 (I letters), sl 43 (I x43), sl 62 (B ((l3_2.length : Int) == limit))], [qe0, qe1 letters, mapI encI3 intT m2_2, rowI 3 intT l3_2, .gone, .gone, rowI 23 (lsT intT) l6, rowI 3 intT l7, rowI 3 intT l8]⟩ ?_
 refine En.ch h (fun h => ?_) (fun h => ?_)
 refine En.sr ?_
 refine WL.rn ht hn 3 ⟨[qe2, sl 11 (B false)], [qe0, .gone, .gone, .gone, .gone, .gone, .gone, .gone, .gone]⟩ ?_
 refine En.ret ?_
 refine En.nilBox (T := (lsT intT)) 0 2 (by rfl) (by rfl) ?_
 refine En.nilBox (T := intT) 0 3 (by rfl) (by rfl) ?_
 exact En.back ht ((ApiDet.mk 0 0 [] []), false) h (by kernel_rfl) rfl
 refine En.skip ?_
 refine En.sr ?_
 refine WL.r ht hn 3 ⟨[sl 0 (I letters), sl 2 (.rd (fvR (fun (x : (Int × Int)) => [.sv (.one (I x.1)), .sv (.one (I x.2))]) (fun (r : Int) => .sv (.one (I r))) domgo go)), sl 3 (.rd (fvR (fun (x : Int) => [.sv (.one (I x))]) (fun (r : Int) => .sv (.one (I r))) dommark mark)), qe9 limit, qe2, qe3, qe4, qe5, sl 15 (I e), qe7, sl 17 (I x43), sl 18 (I (go (e, x43))), sl 19 (I (l3_2.length : Int)), sl 42 (I letters), sl 43 (I x43), sl 64 (.own 2), sl 65 (I (go (e, x43))), sl 66 (I (l3_2.length : Int))], [qe0, qe1 letters, mapI encI3 intT m2_2, rowI 3 intT l3_2, .gone, .gone, rowI 23 (lsT intT) l6, rowI 3 intT l7, rowI 3 intT l8]⟩ ?_
 refine WL.mapPut (T := intT) keyI3 (k := (go (e, x43))) (y := (l3_2.length : Int)) hn (by rfl) (.inl rfl) Try.underlying219 (by rfl) (by rfl) (by rfl) (by rfl) (by rfl) (by rfl) ?_
 refine WL.nil ?_
 refine En.region ?_
 refine WL.r ht hn 2 ⟨[sl 0 (I letters), sl 2 (.rd (fvR (fun (x : (Int × Int)) => [.sv (.one (I x.1)), .sv (.one (I x.2))]) (fun (r : Int) => .sv (.one (I r))) domgo go)), sl 3 (.rd (fvR (fun (x : Int) => [.sv (.one (I x))]) (fun (r : Int) => .sv (.one (I r))) dommark mark)), qe9 limit, qe2, qe3, qe4, sl 15 (I e), qe7, sl 17 (I x43), sl 19 (I (l3_2.length : Int)), sl 42 (I letters), sl 43 (I x43), sl 67 (.own 3), sl 68 (I (go (e, x43)))], [qe0, qe1 letters, mapI encI3 intT (mput (go (e, x43)) (l3_2.length : Int) m2_2), rowI 3 intT l3_2, .gone, .gone, rowI 23 (lsT intT) l6, rowI 3 intT l7, rowI 3 intT l8]⟩ ?_
 refine WL.mt0 (K := []) (p := some (9, rowI 3 intT ([go (e, x43)] : List Int))) hn (by rfl) (mt_lit (T := intT) ([go (e, x43)] : List Int) (mt_bsl 9 (r := cellsOf intT ([go (e, x43)] : List Int)) ht rfl (by rfl) (by rfl) (by rfl) (by kernel_rfl) (by rfl)) (fun _ h => by cases h) (fun _ => rfl) (fun _ => rfl) (by rfl) (Nat.le_of_ble_eq_true rfl)) (by rfl) (by rfl) (by rfl) ?_
 refine WL.seal (T := intT) (l := ([go (e, x43)] : List Int)) (e := 3) 9 rfl ?_
 refine WL.r ht hn 0 ⟨[sl 0 (I letters), sl 2 (.rd (fvR (fun (x : (Int × Int)) => [.sv (.one (I x.1)), .sv (.one (I x.2))]) (fun (r : Int) => .sv (.one (I r))) domgo go)), sl 3 (.rd (fvR (fun (x : Int) => [.sv (.one (I x))]) (fun (r : Int) => .sv (.one (I r))) dommark mark)), qe9 limit, qe2, qe3, qe4, sl 15 (I e), qe7, sl 17 (I x43), sl 19 (I (l3_2.length : Int)), sl 42 (I letters), sl 43 (I x43), sl 67 (.own 3), sl 68 (I (go (e, x43))), sl 69 (LS intT ([go (e, x43)] : List Int))], [qe0, qe1 letters, mapI encI3 intT (mput (go (e, x43)) (l3_2.length : Int) m2_2), rowI 3 intT l3_2, .gone, .gone, rowI 23 (lsT intT) l6, rowI 3 intT l7, rowI 3 intT l8, .gone]⟩ ?_
 obtain ⟨hp, h⟩ := h
 refine WL.mt (S2 := ⟨[sl 0 (I letters), sl 2 (.rd (fvR (fun (x : (Int × Int)) => [.sv (.one (I x.1)), .sv (.one (I x.2))]) (fun (r : Int) => .sv (.one (I r))) domgo go)), sl 3 (.rd (fvR (fun (x : Int) => [.sv (.one (I x))]) (fun (r : Int) => .sv (.one (I r))) dommark mark)), qe9 limit, qe2, qe3, qe4, sl 15 (I e), qe7, sl 17 (I x43), sl 19 (I (l3_2.length : Int)), sl 42 (I letters), sl 43 (I x43), sl 68 (I (go (e, x43))), sl 69 (LS intT ([go (e, x43)] : List Int))], [qe0, qe1 letters, mapI encI3 intT (mput (go (e, x43)) (l3_2.length : Int) m2_2), rowI 3 intT l3_2, .gone, .gone, rowI 23 (lsT intT) l6, rowI 3 intT l7, rowI 3 intT l8, .gone]⟩) (K := [3]) (p := some (3, rowI 3 intT (l3_2 ++ ([go (e, x43)] : List Int)))) hn (by rfl) (mt_append (T := intT) (l := l3_2) (es := ([go (e, x43)] : List Int)) ht rfl (by rfl) (by rfl) (by rfl) (by rfl) (by decide) (by rfl) (by rfl) (srcLS (T := intT) (es := ([go (e, x43)] : List Int)) (fun _ h => by cases h) (by decide) (by rfl)) (by exact hp) (by exact hp.le (by decide))) (by kernel_rfl) (by rfl) (by rfl) (by rfl) ?_
 refine WL.rn ht hn 1 ⟨[sl 0 (I letters), sl 2 (.rd (fvR (fun (x : (Int × Int)) => [.sv (.one (I x.1)), .sv (.one (I x.2))]) (fun (r : Int) => .sv (.one (I r))) domgo go)), sl 3 (.rd (fvR (fun (x : Int) => [.sv (.one (I x))]) (fun (r : Int) => .sv (.one (I r))) dommark mark)), qe9 limit, qe2, qe3, qe4, qe5, sl 15 (I e), qe7, sl 17 (I x43), sl 19 (I (l3_2.length : Int)), sl 42 (I letters), sl 43 (I x43)], [qe0, qe1 letters, mapI encI3 intT (mput (go (e, x43)) (l3_2.length : Int) m2_2), rowI 3 intT (l3_2 ++ ([go (e, x43)] : List Int)), .gone, .gone, rowI 23 (lsT intT) l6, rowI 3 intT l7, rowI 3 intT l8, .gone]⟩ ?_
 exact En.at (I := fun zz => J zz.1 zz.2.1 zz.2.2) (T := fun zz => ⟨[sl 0 (I letters), sl 2 (.rd (fvR (fun (x : (Int × Int)) => [.sv (.one (I x.1)), .sv (.one (I x.2))]) (fun (r : Int) => .sv (.one (I r))) domgo go)), sl 3 (.rd (fvR (fun (x : Int) => [.sv (.one (I x))]) (fun (r : Int) => .sv (.one (I r))) dommark mark)), qe9 limit, qe2, qe3, qe4, qe5, sl 15 (I e), qe7, sl 17 (I x43), sl 19 (I zz.1), sl 42 (I letters), sl 43 (I x43)], [qe0, qe1 letters, mapI encI3 intT zz.2.1, rowI 3 intT zz.2.2, .gone, .gone, rowI 23 (lsT intT) l6, rowI 3 intT l7, rowI 3 intT l8]⟩) ((l3_2.length : Int), (mput (go (e, x43)) (l3_2.length : Int) m2_2), (l3_2 ++ ([go (e, x43)] : List Int))) h (by kernel_rfl)
 refine En.skip ?_
 exact En.at (I := fun zz => J zz.1 zz.2.1 zz.2.2) (T := fun zz => ⟨[sl 0 (I letters), sl 2 (.rd (fvR (fun (x : (Int × Int)) => [.sv (.one (I x.1)), .sv (.one (I x.2))]) (fun (r : Int) => .sv (.one (I r))) domgo go)), sl 3 (.rd (fvR (fun (x : Int) => [.sv (.one (I x))]) (fun (r : Int) => .sv (.one (I r))) dommark mark)), qe9 limit, qe2, qe3, qe4, qe5, sl 15 (I e), qe7, sl 17 (I x43), sl 19 (I zz.1), sl 42 (I letters), sl 43 (I x43)], [qe0, qe1 letters, mapI encI3 intT zz.2.1, rowI 3 intT zz.2.2, .gone, .gone, rowI 23 (lsT intT) l6, rowI 3 intT l7, rowI 3 intT l8]⟩) (((mget (go (e, x43)) m2_2).getD (0 : Int)), m2_2, l3_2) h (by kernel_rfl)
 rintro ⟨x19, m2_3, l3_3⟩ h
 replace h := hJ _ _ _ h
 show En c ⟨[sl 0 (I letters), sl 2 (.rd (fvR (fun (x : (Int × Int)) => [.sv (.one (I x.1)), .sv (.one (I x.2))]) (fun (r : Int) => .sv (.one (I r))) domgo go)), sl 3 (.rd (fvR (fun (x : Int) => [.sv (.one (I x))]) (fun (r : Int) => .sv (.one (I r))) dommark mark)), qe9 limit, qe2, qe3, qe4, qe5, sl 15 (I e), qe7, sl 17 (I x43), sl 19 (I x19), sl 42 (I letters), sl 43 (I x43)], [qe0, qe1 letters, mapI encI3 intT m2_3, rowI 3 intT l3_3, .gone, .gone, rowI 23 (lsT intT) l6, rowI 3 intT l7, rowI 3 intT l8]⟩ _
 refine En.region ?_
 refine WL.r ht hn 3 ⟨[sl 0 (I letters), sl 2 (.rd (fvR (fun (x : (Int × Int)) => [.sv (.one (I x.1)), .sv (.one (I x.2))]) (fun (r : Int) => .sv (.one (I r))) domgo go)), sl 3 (.rd (fvR (fun (x : Int) => [.sv (.one (I x))]) (fun (r : Int) => .sv (.one (I r))) dommark mark)), qe9 limit, qe2, qe3, qe4, qe5, sl 15 (I e), qe7, sl 42 (I letters), sl 43 (I x43), sl 71 (.own 8), sl 72 (I x43), sl 73 (I x19)], [qe0, qe1 letters, mapI encI3 intT m2_3, rowI 3 intT l3_3, .gone, .gone, rowI 23 (lsT intT) l6, rowI 3 intT l7, rowI 3 intT l8]⟩ ?_
 obtain ⟨e_2, he_2, h⟩ := h
 refine WL.v hn (val_indexO (T := intT) (l := l8) (k := x43) ht rfl (by rfl) (by rfl) (by rfl) (by rfl) (by decide) (by rfl) (by rfl) (by rfl) he_2) ?_
 refine WL.storeO (T := intT) (l := l8) (y := x19) ht hn (by rfl) rfl (by rfl) (by rfl) (fun _ h => by cases h) (by rfl) (by rfl) (idx_lt he_2) (by rfl) (by rfl) (by rfl) (by rfl) ?_
 refine WL.nil ?_
 refine En.region ?_
 refine WL.rn ht hn 2 ⟨[sl 0 (I letters), sl 2 (.rd (fvR (fun (x : (Int × Int)) => [.sv (.one (I x.1)), .sv (.one (I x.2))]) (fun (r : Int) => .sv (.one (I r))) domgo go)), sl 3 (.rd (fvR (fun (x : Int) => [.sv (.one (I x))]) (fun (r : Int) => .sv (.one (I r))) dommark mark)), qe9 limit, qe2, qe3, qe4, qe5, sl 15 (I e), qe7, sl 42 (I letters), sl 43 (I (wr (x43 + 1)))], [qe0, qe1 letters, mapI encI3 intT m2_3, rowI 3 intT l3_3, .gone, .gone, rowI 23 (lsT intT) l6, rowI 3 intT l7, rowI 3 intT (l8.set (x43).toNat x19)]⟩ ?_
 exact En.at (I := fun zz => Inv_2 zz.1 zz.2.1 zz.2.2.1 zz.2.2.2 ∧ mu_2 zz.1 zz.2.1 zz.2.2.1 zz.2.2.2 < mu_2 x43 m2_2 l3_2 l8) (T := fun zz => ⟨[sl 0 (I letters), sl 2 (.rd (fvR (fun (x : (Int × Int)) => [.sv (.one (I x.1)), .sv (.one (I x.2))]) (fun (r : Int) => .sv (.one (I r))) domgo go)), sl 3 (.rd (fvR (fun (x : Int) => [.sv (.one (I x))]) (fun (r : Int) => .sv (.one (I r))) dommark mark)), qe9 limit, qe2, qe3, qe4, qe5, sl 15 (I e), qe7, sl 42 (I letters), sl 43 (I zz.1)], [qe0, qe1 letters, mapI encI3 intT zz.2.1, rowI 3 intT zz.2.2.1, .gone, .gone, rowI 23 (lsT intT) l6, rowI 3 intT l7, rowI 3 intT zz.2.2.2]⟩) ((wr (x43 + 1)), m2_3, l3_3, (l8.set (x43).toNat x19)) h (by kernel_rfl)
 refine En.exit rfl ?_
 refine En.sr ?_
 refine WL.r ht hn 3 ⟨[sl 0 (I letters), sl 2 (.rd (fvR (fun (x : (Int × Int)) => [.sv (.one (I x.1)), .sv (.one (I x.2))]) (fun (r : Int) => .sv (.one (I r))) domgo go)), sl 3 (.rd (fvR (fun (x : Int) => [.sv (.one (I x))]) (fun (r : Int) => .sv (.one (I r))) dommark mark)), qe9 limit, qe2, qe3, qe4, qe5, sl 15 (I e), sl 77 (.own 6), sl 78 (.own 8)], [qe0, qe1 letters, mapI encI3 intT m2_2, rowI 3 intT l3_2, .gone, .gone, rowI 23 (lsT intT) l6, rowI 3 intT l7, rowI 3 intT l8]⟩ ?_
 refine WL.seal (T := intT) (l := l8) (e := 3) 8 rfl ?_
 refine WL.r ht hn 0 ⟨[sl 0 (I letters), sl 2 (.rd (fvR (fun (x : (Int × Int)) => [.sv (.one (I x.1)), .sv (.one (I x.2))]) (fun (r : Int) => .sv (.one (I r))) domgo go)), sl 3 (.rd (fvR (fun (x : Int) => [.sv (.one (I x))]) (fun (r : Int) => .sv (.one (I r))) dommark mark)), qe9 limit, qe2, qe3, qe4, qe5, sl 15 (I e), sl 77 (.own 6), sl 78 (LS intT l8)], [qe0, qe1 letters, mapI encI3 intT m2_2, rowI 3 intT l3_2, .gone, .gone, rowI 23 (lsT intT) l6, rowI 3 intT l7, .gone]⟩ ?_
 refine WL.mt0 (K := []) (p := some (9, rowI 23 (lsT intT) ([l8] : qe8))) hn (by rfl) (mt_lit (T := (lsT intT)) ([l8] : qe8) (mt_bsl 9 (r := cellsOf (lsT intT) ([l8] : qe8)) ht rfl (by rfl) (by rfl) (by rfl) (by kernel_rfl) (by rfl)) (fun _ h => by cases h) (fun _ => rfl) (fun _ => rfl) (by rfl) (Nat.le_of_ble_eq_true rfl)) (by rfl) (by rfl) (by rfl) ?_
 refine WL.seal (T := (lsT intT)) (l := ([l8] : qe8)) (e := 23) 9 rfl ?_
 refine WL.r ht hn 0 ⟨[sl 0 (I letters), sl 2 (.rd (fvR (fun (x : (Int × Int)) => [.sv (.one (I x.1)), .sv (.one (I x.2))]) (fun (r : Int) => .sv (.one (I r))) domgo go)), sl 3 (.rd (fvR (fun (x : Int) => [.sv (.one (I x))]) (fun (r : Int) => .sv (.one (I r))) dommark mark)), qe9 limit, qe2, qe3, qe4, qe5, sl 15 (I e), sl 77 (.own 6), sl 78 (LS intT l8), sl 79 (LS (lsT intT) ([l8] : qe8))], [qe0, qe1 letters, mapI encI3 intT m2_2, rowI 3 intT l3_2, .gone, .gone, rowI 23 (lsT intT) l6, rowI 3 intT l7, .gone, .gone]⟩ ?_
 refine WL.junk 1 2 (by rfl) ?_
 obtain ⟨hp, h⟩ := h
 refine WL.mt (S2 := ⟨[sl 0 (I letters), sl 2 (.rd (fvR (fun (x : (Int × Int)) => [.sv (.one (I x.1)), .sv (.one (I x.2))]) (fun (r : Int) => .sv (.one (I r))) domgo go)), sl 3 (.rd (fvR (fun (x : Int) => [.sv (.one (I x))]) (fun (r : Int) => .sv (.one (I r))) dommark mark)), qe9 limit, qe2, qe3, qe4, qe5, sl 15 (I e), sl 78 (LS intT l8), sl 79 (LS (lsT intT) ([l8] : qe8))], [qe0, .box [I letters, I 0, .junk, .own 7] 25 false, mapI encI3 intT m2_2, rowI 3 intT l3_2, .gone, .gone, rowI 23 (lsT intT) l6, rowI 3 intT l7, .gone, .gone]⟩) (K := [6]) (p := some (6, rowI 23 (lsT intT) (l6 ++ ([l8] : qe8)))) hn (by rfl) (mt_append (T := (lsT intT)) (l := l6) (es := ([l8] : qe8)) ht rfl (by rfl) (by rfl) (by rfl) (by rfl) (by decide) (by rfl) (by rfl) (srcLS (T := (lsT intT)) (es := ([l8] : qe8)) (fun _ h => by cases h) (by decide) (by rfl)) (by exact hp) (by exact hp.le (by decide))) (by kernel_rfl) (by rfl) (by rfl) (by rfl) ?_
 refine WL.rn ht hn 2 ⟨[sl 0 (I letters), sl 2 (.rd (fvR (fun (x : (Int × Int)) => [.sv (.one (I x.1)), .sv (.one (I x.2))]) (fun (r : Int) => .sv (.one (I r))) domgo go)), sl 3 (.rd (fvR (fun (x : Int) => [.sv (.one (I x))]) (fun (r : Int) => .sv (.one (I r))) dommark mark)), qe9 limit, qe2, qe3, qe4, qe5, sl 15 (I e)], [qe0, qe1 letters, mapI encI3 intT m2_2, rowI 3 intT l3_2, .gone, .gone, rowI 23 (lsT intT) (l6 ++ ([l8] : qe8)), rowI 3 intT l7, .gone, .gone]⟩ ?_
 obtain ⟨hp_2, h⟩ := h
 obtain ⟨hp_3, h⟩ := h
 refine En.regionA ⟨[sl 0 (I letters), sl 2 (.rd (fvR (fun (x : (Int × Int)) => [.sv (.one (I x.1)), .sv (.one (I x.2))]) (fun (r : Int) => .sv (.one (I r))) domgo go)), sl 3 (.rd (fvR (fun (x : Int) => [.sv (.one (I x))]) (fun (r : Int) => .sv (.one (I r))) dommark mark)), qe9 limit, qe2, qe3, qe4, qe5, sl 15 (I e)], [.sv (.one (.ptr 1 3)), .sv (.one (.own 7)), .sv (.one (.rd (fvR (fun (x : Int) => [.sv (.one (I x))]) (fun (r : Int) => .sv (.one (I r))) dommark mark))), .sv (.one (I e)), .sv (.one (I (mark e))), .sv (.one (LS intT ([mark e] : List Int))), .sv (.one (.own 10)), .sv (.one (.ptr 1 3)), .tup []], [⟨(qe0), none, none, none⟩, ⟨(qe1 letters), none, none, some (8, .box [I letters, I 0, .own 6, .own 10] 25 false)⟩, ⟨mapI encI3 intT m2_2, none, none, none⟩, ⟨rowI 3 intT l3_2, none, none, none⟩, ⟨.gone, none, none, none⟩, ⟨.gone, none, none, none⟩, ⟨rowI 23 (lsT intT) (l6 ++ ([l8] : qe8)), none, none, none⟩, ⟨rowI 3 intT l7, none, some 6, none⟩, ⟨.gone, none, none, none⟩, ⟨.gone, none, none, none⟩, ⟨rowI 3 intT (l7 ++ ([mark e] : List Int)), some 6, none, none⟩]⟩ ⟨[sl 0 (I letters), sl 2 (.rd (fvR (fun (x : (Int × Int)) => [.sv (.one (I x.1)), .sv (.one (I x.2))]) (fun (r : Int) => .sv (.one (I r))) domgo go)), sl 3 (.rd (fvR (fun (x : Int) => [.sv (.one (I x))]) (fun (r : Int) => .sv (.one (I r))) dommark mark)), qe9 limit, qe2, qe3, qe4, qe5], [qe0, .box [I letters, I 0, .own 6, .own 10] 25 false, mapI encI3 intT m2_2, rowI 3 intT l3_2, .gone, .gone, rowI 23 (lsT intT) (l6 ++ ([l8] : qe8)), .gone, .gone, .gone, rowI 3 intT (l7 ++ ([mark e] : List Int))]⟩ (by kernel_rfl) hn (by kernel_rfl) (by rfl) (by kernel_rfl) ?_ (by kernel_rfl) ?_
 exact ⟨.ev ⟨[qe3], []⟩ ht,
 .ev ⟨[sl 82 (.ptr 1 3)], [.gone, qe1 letters]⟩ ht,
 .ev ⟨[sl 3 (.rd (fvR (fun (x : Int) => [.sv (.one (I x))]) (fun (r : Int) => .sv (.one (I r))) dommark mark))], []⟩ ht,
 .ev ⟨[sl 15 (I e)], []⟩ ht,
 .mt ⟨[sl 84 (.rd (fvR (fun (x : Int) => [.sv (.one (I x))]) (fun (r : Int) => .sv (.one (I r))) dommark mark)), sl 85 (I e)], []⟩ [] none (by kernel_rfl) (by rfl) (mt_callv (ins := (fun (x : Int) => [.sv (.one (I x))])) (out := (fun (r : Int) => .sv (.one (I r)))) (dom := dommark) (φ := mark) e hp_2 rfl (by rfl) (by rfl) (by rfl) (by rfl)) rfl rfl rfl rfl,
 .mt ⟨[sl 86 (I (mark e))], []⟩ [] none (by kernel_rfl) (by rfl) (mt_seal (q := 10) (e := 3) (mt_lit (T := intT) ([mark e] : List Int) (mt_bsl 10 (r := cellsOf intT ([mark e] : List Int)) ht rfl (by rfl) (by rfl) (by rfl) (by kernel_rfl) (by rfl)) (fun _ h => by cases h) (fun _ => rfl) (fun _ => rfl) (by rfl) (Nat.le_of_ble_eq_true rfl))) rfl rfl rfl rfl,
 .mt ⟨[sl 83 (.own 7), sl 87 (LS intT ([mark e] : List Int))], [.gone, .gone, .gone, .gone, .gone, .gone, .gone, rowI 3 intT l7]⟩ [7] (some 10) (by kernel_rfl) (by rfl) (mt_append (T := intT) (l := l7) (es := ([mark e] : List Int)) (p := 10) ht rfl (by rfl) (by rfl) (by rfl) (by rfl) (by decide) (by rfl) (by rfl) (srcLS (T := intT) (es := ([mark e] : List Int)) (fun _ h => by cases h) (by decide) (by rfl)) (by exact hp_3) (by exact hp_3.le (by decide))) rfl rfl rfl rfl,
 .ev ⟨[qe3], []⟩ ht,
 .mu ⟨[sl 88 (.own 10), sl 89 (.ptr 1 3)], [.gone, qe1 letters]⟩ 1 _ _ rfl rfl (by kernel_rfl) (by rfl) (mu_store2 ht rfl (by rfl) (by rfl) (by rfl) (by rfl) (fun h => by cases h) (by rfl) (by rfl)) rfl rfl rfl rfl rfl rfl rfl,
 trivial⟩
 refine En.move 10 7 (by rfl) (by rfl) ?_
 exact En.at (I := fun zz => Inv zz.1 zz.2.1 zz.2.2.1 zz.2.2.2 ∧ mu zz.1 zz.2.1 zz.2.2.1 zz.2.2.2 < mu m2 l3 l6 l7) (T := fun zz => ⟨[sl 0 (I letters), sl 2 (.rd (fvR (fun (x : (Int × Int)) => [.sv (.one (I x.1)), .sv (.one (I x.2))]) (fun (r : Int) => .sv (.one (I r))) domgo go)), sl 3 (.rd (fvR (fun (x : Int) => [.sv (.one (I x))]) (fun (r : Int) => .sv (.one (I r))) dommark mark)), qe9 limit, qe2, qe3, qe4, qe5], [qe0, qe1 letters, mapI encI3 intT zz.1, rowI 3 intT zz.2.1, .gone, .gone, rowI 23 (lsT intT) zz.2.2.1, rowI 3 intT zz.2.2.2]⟩) (m2_2, l3_2, (l6 ++ ([l8] : qe8)), (l7 ++ ([mark e] : List Int))) h (by kernel_rfl)
 refine En.exit rfl ?_
 refine En.sr ?_
 refine WL.rn ht hn 3 ⟨[qe2, sl 11 (B true)], [qe1 letters, .gone, .gone, .gone, .gone, .gone, rowI 23 (lsT intT) l6, rowI 3 intT l7]⟩ ?_
 refine En.ret ?_
 refine En.seal (T := (lsT intT)) (l := l6) (e := 23) 6 rfl ?_
 refine En.seal (T := intT) (l := l7) (e := 3) 7 rfl ?_
 exact En.back ht ((ApiDet.mk letters 0 l6 l7), true) h (by kernel_rfl) rfl
theorem en74 : ∀ args w, (callFunc 74 args).run Try.prog w = .ok (.enter 74 args) w := enters_of Try.func74 (by kernel_rfl) rfl
def classes_vc (d : ApiDet) (Q : (List Int) → Prop) : Prop :=
 d.fNext.length ≤ 9223372036854775807 →
 d.fMark.length ≤ 9223372036854775807 →
 ((d.fMark.length * 8 ≤ 140737488355328) ∧
 ∃ (Inv : Int → (List Int) → Prop) (mu : Int → (List Int) → Nat), Inv 0 (d.fMark) ∧
 ∀ (x4 : Int) (l1 : List Int) , Inv x4 l1 → (makeOk (l1.length : Int) (l1.length : Int) 8 ∧
 ∃ (Inv_2 : Int → (List (DetSplit × Int)) → (List Int) → Prop) (mu_2 : Int → (List (DetSplit × Int)) → (List Int) → Nat), Inv_2 0 ([] : List (DetSplit × Int)) (List.replicate ((l1.length : Int)).toNat (0 : Int)) ∧
 ∀ (x25 : Int) (m2 : List (DetSplit × Int)) (l3 : List Int) , Inv_2 x25 m2 l3 → (IfP (decide (x25 < (d.fNext.length : Int))) (∃ e, idx d.fNext x25 = some e ∧
 ∃ (Inv_3 : Int → (List Int) → Prop) (mu_3 : Int → (List Int) → Nat), Inv_3 0 ([] : List Int) ∧
 ∀ (x32 : Int) (l4 : List Int) , Inv_3 x32 l4 → (IfP (decide (x32 < (e.length : Int))) (∃ e_2, idx e x32 = some e_2 ∧
 ∃ e_3, idx l1 e_2 = some e_3 ∧
 ∃ e_4, idx l1 e_2 = some e_4 ∧
 capOk l4.length (([(IntKind.wrap .u8 e_3), (IntKind.wrap .u8 (Int.fdiv e_4 (2 ^ (min 8 64))))] : List Int) : List Int).length 1 ∧
 (Inv_3 (wr (x32 + 1)) (l4 ++ ([(IntKind.wrap .u8 e_3), (IntKind.wrap .u8 (Int.fdiv e_4 (2 ^ (min 8 64))))] : List Int)) ∧ mu_3 (wr (x32 + 1)) (l4 ++ ([(IntKind.wrap .u8 e_3), (IntKind.wrap .u8 (Int.fdiv e_4 (2 ^ (min 8 64))))] : List Int)) < mu_3 x32 l4)) (∃ e_5, idx l1 x25 = some e_5 ∧
 ∃ J : (List (DetSplit × Int)) → Prop, (IfP (!(mget (DetSplit.mk e_5 (bytesOf l4)) m2).isSome) (J (mput (DetSplit.mk e_5 (bytesOf l4)) (m2.length : Int) m2)) (J m2)) ∧
 (∀ (m2_2 : List (DetSplit × Int)), J m2_2 → ∃ e_6, idx l3 x25 = some e_6 ∧
 (Inv_2 (wr (x25 + 1)) m2_2 (l3.set (x25).toNat ((mget (DetSplit.mk e_5 (bytesOf l4)) m2_2).getD (0 : Int))) ∧ mu_2 (wr (x25 + 1)) m2_2 (l3.set (x25).toNat ((mget (DetSplit.mk e_5 (bytesOf l4)) m2_2).getD (0 : Int))) < mu_2 x25 m2 l3))))) (IfP ((m2.length : Int) == x4) (Q l3) ((Inv (m2.length : Int) l3 ∧ mu (m2.length : Int) l3 < mu x4 l1))))))
noncomputable abbrev qf0 (d : ApiDet) := sl 24 (I (d.fNext.length : Int))
noncomputable abbrev qf1 (d : ApiDet) := sl 23 (LS (lsT intT) d.fNext)
noncomputable abbrev qf2 (d : ApiDet) (y0) (y1) := ([sl 1 (.ptr 0 0), sl 3 (.own 1), sl 4 (I y0), sl 5 (.own 2), sl 6 (.own 3), sl 7 (I y1), sl 12 (.ptr 5 0), (qf1 d), (qf0 d), sl 25 (I y1)] : List (Nat × SC))
noncomputable abbrev qf3 (y0) := (IntKind.wrap .u8 (Int.fdiv y0 (2 ^ (min 8 64))))
noncomputable abbrev qf4 (d : ApiDet) (y0) (y1) (y2) (y3) (y4) := ([.box (ApiDet.cl d) 25 false, rowI 3 intT y0, mapI DetSplit.enc intT y1, rowI 3 intT y2, .gone, .box [I y3, .v (.string (bytesOf y4))] 267 false] : List Item)
noncomputable abbrev qf5 := sl 1 (.ptr 0 0)
noncomputable abbrev qf6 (d : ApiDet) (y0) (y1) (y2) := ([.box (ApiDet.cl d) 25 false, rowI 3 intT y0, mapI DetSplit.enc intT y1, rowI 3 intT y2] : List Item)
noncomputable abbrev qf7 (d : ApiDet) (y0) (y1) (y2) (y3) (y4) := ([.box (ApiDet.cl d) 25 false, rowI 3 intT y0, mapI DetSplit.enc intT y1, rowI 3 intT y2, .gone, .box [I y3, .v (.string (bytesOf y4))] 267 false] : List Item)
noncomputable abbrev qf8 (d : ApiDet) (y0) (y1) := ([.box (ApiDet.cl d) 25 false, .gone, mapI DetSplit.enc intT y0, rowI 3 intT y1] : List Item)
noncomputable abbrev qf9 (y0) := (IntKind.wrap .u8 y0)
noncomputable abbrev qf10 (d : ApiDet) (y0) (y1) (y2) (y3) := ([.box (ApiDet.cl d) 25 false, rowI 3 intT y0, mapI DetSplit.enc intT y1, rowI 3 intT y2, rowI 5 (intKT .u8) y3] : List Item)
set_option maxHeartbeats 2000000 in
theorem classes_walk (d : ApiDet) (Q : (List Int) → Prop) (h : classes_vc d Q) : Ct 127 [.sv (.agg [I d.fLetters, I d.fStart, LS (lsT intT) d.fNext, LS intT d.fMark])] [] Q (fun (r : List Int) => .sv (.one (LS intT r))) := by
 have ht := tab_ok
 refine Ct.body Try.func127 rfl rfl rfl rfl (fun c hn => ?_)
 unfold classes_vc at h
 refine En.lenA 0 2 (by rfl) (by rfl) (fun hl => ?_)
 replace h := h hl
 clear hl
 refine En.lenA 0 3 (by rfl) (by rfl) (fun hl => ?_)
 replace h := h hl
 clear hl
 refine En.sr ?_
 refine WL.rn ht hn 2 ⟨[qf5], [.box (ApiDet.cl d) 25 false]⟩ ?_
 refine En.sr ?_
 refine WL.r ht hn 2 ⟨[qf5, sl 16 (LS intT d.fMark)], [.box (ApiDet.cl d) 25 false]⟩ ?_
 obtain ⟨hp, h⟩ := h
 refine WL.mt0 (K := []) (p := some (1, rowI 3 intT d.fMark)) hn (by rfl) (mt_callI 1 (cloneInt_ct d.fMark hp) en37 (caps := []) [] rfl rfl (by rfl) (by kernel_rfl) (by kernel_rfl) (by rfl) (by rfl)) (by rfl) (by rfl) (by rfl) ?_
 refine WL.rn ht hn 1 ⟨[qf5, sl 3 (.own 1)], [.box (ApiDet.cl d) 25 false, rowI 3 intT d.fMark]⟩ ?_
 refine En.sr ?_
 refine WL.rn ht hn 1 ⟨[qf5, sl 3 (.own 1), sl 4 (I 0)], [.box (ApiDet.cl d) 25 false, rowI 3 intT d.fMark]⟩ ?_
 refine En.block ?_
 obtain ⟨Inv, mu, h0_3, hI_3⟩ := h
 refine En.loop (σ := Int × (List Int)) (fun zz => Inv zz.1 zz.2) (fun zz => mu zz.1 zz.2) (fun zz => ⟨[qf5, sl 3 (.own 1), sl 4 (I zz.1)], [.box (ApiDet.cl d) 25 false, rowI 3 intT zz.2]⟩) (0, d.fMark) h0_3 (sub_ok (by kernel_rfl)) ?_
 rintro ⟨x4, l1⟩ h
 replace h := hI_3 _ _ h
 show En c ⟨[qf5, sl 3 (.own 1), sl 4 (I x4)], [.box (ApiDet.cl d) 25 false, rowI 3 intT l1]⟩ _
 refine En.block ?_
 refine En.sr ?_
 refine WL.mt0 (K := []) (p := some (2, mapI DetSplit.enc intT ([] : List (DetSplit × Int)))) hn (by rfl) (mt_makeMap DetSplit.enc intT 2 rfl) (by rfl) (by rfl) (by rfl) ?_
 refine WL.rn ht hn 1 ⟨[qf5, sl 3 (.own 1), sl 4 (I x4), sl 5 (.own 2)], [.box (ApiDet.cl d) 25 false, rowI 3 intT l1, mapI DetSplit.enc intT ([] : List (DetSplit × Int))]⟩ ?_
 refine En.sr ?_
 refine WL.r ht hn 2 ⟨[qf5, sl 3 (.own 1), sl 4 (I x4), sl 5 (.own 2), sl 20 (I (l1.length : Int))], [.box (ApiDet.cl d) 25 false, rowI 3 intT l1, mapI DetSplit.enc intT ([] : List (DetSplit × Int))]⟩ ?_
 obtain ⟨hp, h⟩ := h
 refine WL.mt0 (K := []) (p := some (3, rowI 3 intT (List.replicate (l1.length : Int).toNat (0 : Int)))) hn (by rfl) (mt_make (T := intT) (0 : Int) (zv := (.int .i64 0)) 3 (l := (l1.length : Int)) (cp := (l1.length : Int)) ht rfl (by rfl) (by rfl) (by rfl) (by rfl) (by decide) (by rfl) (by rfl) hp.1 hp.2.1 hp.2.2 (hp.le (by decide)) rfl (fun _ => ⟨rfl, trivial⟩)) (by rfl) (by rfl) (by rfl) ?_
 refine WL.rn ht hn 1 ⟨[qf5, sl 3 (.own 1), sl 4 (I x4), sl 5 (.own 2), sl 6 (.own 3)], [.box (ApiDet.cl d) 25 false, rowI 3 intT l1, mapI DetSplit.enc intT ([] : List (DetSplit × Int)), rowI 3 intT (List.replicate (l1.length : Int).toNat (0 : Int))]⟩ ?_
 refine En.seq ?_
 refine En.sr ?_
 refine WL.rn ht hn 4 ⟨[qf5, sl 3 (.own 1), sl 4 (I x4), sl 5 (.own 2), sl 6 (.own 3), qf1 d, qf0 d, sl 25 (I 0)], [.box (ApiDet.cl d) 25 false, rowI 3 intT l1, mapI DetSplit.enc intT ([] : List (DetSplit × Int)), rowI 3 intT (List.replicate (l1.length : Int).toNat (0 : Int))]⟩ ?_
 refine En.block ?_
 obtain ⟨Inv_2, mu_2, h0_2, hI_2⟩ := h
 refine En.loop (σ := Int × (List (DetSplit × Int)) × (List Int)) (fun zz => Inv_2 zz.1 zz.2.1 zz.2.2) (fun zz => mu_2 zz.1 zz.2.1 zz.2.2) (fun zz => ⟨[qf5, sl 3 (.own 1), sl 4 (I x4), sl 5 (.own 2), sl 6 (.own 3), qf1 d, qf0 d, sl 25 (I zz.1)], [.box (ApiDet.cl d) 25 false, rowI 3 intT l1, mapI DetSplit.enc intT zz.2.1, rowI 3 intT zz.2.2]⟩) (0, ([] : List (DetSplit × Int)), (List.replicate (l1.length : Int).toNat (0 : Int))) h0_2 (sub_ok (by kernel_rfl)) ?_
 rintro ⟨x25, m2, l3⟩ h
 replace h := hI_2 _ _ _ h
 show En c ⟨[qf5, sl 3 (.own 1), sl 4 (I x4), sl 5 (.own 2), sl 6 (.own 3), qf1 d, qf0 d, sl 25 (I x25)], (qf6 d l1 m2 l3)⟩ _
 refine En.sr ?_
 refine WL.rn ht hn 1 ⟨[qf5, sl 3 (.own 1), sl 4 (I x4), sl 5 (.own 2), sl 6 (.own 3), qf1 d, qf0 d, sl 25 (I x25), sl 26 (B (decide (x25 < (d.fNext.length : Int))))], (qf6 d l1 m2 l3)⟩ ?_
 refine En.seq ?_
 refine En.ch h (fun h => ?_) (fun h => ?_)
 refine En.skip ?_
 refine En.seq ?_
 refine En.block ?_
 refine En.sr ?_
 refine WL.r ht hn 1 ⟨[qf5, sl 3 (.own 1), sl 4 (I x4), sl 5 (.own 2), sl 6 (.own 3), qf1 d, qf0 d, sl 25 (I x25), sl 27 (I x25)], (qf6 d l1 m2 l3)⟩ ?_
 obtain ⟨e, he, h⟩ := h
 refine WL.v hn (val_ix (T := (lsT intT)) (l := d.fNext) (i := x25) ht rfl he) ?_
 refine WL.v hn (val_ld (s := .one (LS intT e)) ht rfl) ?_
 refine WL.rn ht hn 2 ⟨[qf5, sl 3 (.own 1), sl 4 (I x4), sl 5 (.own 2), sl 6 (.own 3), sl 7 (I x25), sl 8 (LS intT e), qf1 d, qf0 d, sl 25 (I x25)], (qf6 d l1 m2 l3)⟩ ?_
 refine En.sr ?_
 refine WL.rn ht hn 1 ⟨[qf5, sl 3 (.own 1), sl 4 (I x4), sl 5 (.own 2), sl 6 (.own 3), sl 7 (I x25), sl 8 (LS intT e), sl 9 (.v (.slice none 0 0)), qf1 d, qf0 d, sl 25 (I x25)], (qf6 d l1 m2 l3)⟩ ?_
 refine En.seq ?_
 refine En.sr ?_
 refine WL.rn ht hn 3 ⟨[qf5, sl 3 (.own 1), sl 4 (I x4), sl 5 (.own 2), sl 6 (.own 3), sl 7 (I x25), sl 9 (.v (.slice none 0 0)), qf1 d, qf0 d, sl 25 (I x25), sl 30 (LS intT e), sl 31 (I (e.length : Int)), sl 32 (I 0)], (qf6 d l1 m2 l3)⟩ ?_
 refine En.block ?_
 refine En.rowNil 9 4 5 (intKT .u8) (by rfl) (by rfl) ?_
 obtain ⟨Inv_3, mu_3, h0, hI⟩ := h
 refine En.loop (σ := Int × (List Int)) (fun zz => Inv_3 zz.1 zz.2) (fun zz => mu_3 zz.1 zz.2) (fun zz => ⟨[qf5, sl 3 (.own 1), sl 4 (I x4), sl 5 (.own 2), sl 6 (.own 3), sl 7 (I x25), sl 9 (.own 4), qf1 d, qf0 d, sl 25 (I x25), sl 30 (LS intT e), sl 31 (I (e.length : Int)), sl 32 (I zz.1)], [.box (ApiDet.cl d) 25 false, rowI 3 intT l1, mapI DetSplit.enc intT m2, rowI 3 intT l3, rowI 5 (intKT .u8) zz.2]⟩) (0, ([] : List Int)) h0 (sub_ok (by kernel_rfl)) ?_
 rintro ⟨x32, l4⟩ h
 replace h := hI _ _ h
 show En c ⟨[qf5, sl 3 (.own 1), sl 4 (I x4), sl 5 (.own 2), sl 6 (.own 3), sl 7 (I x25), sl 9 (.own 4), qf1 d, qf0 d, sl 25 (I x25), sl 30 (LS intT e), sl 31 (I (e.length : Int)), sl 32 (I x32)], (qf10 d l1 m2 l3 l4)⟩ _
 refine En.sr ?_
 refine WL.rn ht hn 1 ⟨[qf5, sl 3 (.own 1), sl 4 (I x4), sl 5 (.own 2), sl 6 (.own 3), sl 7 (I x25), sl 9 (.own 4), qf1 d, qf0 d, sl 25 (I x25), sl 30 (LS intT e), sl 31 (I (e.length : Int)), sl 32 (I x32), sl 33 (B (decide (x32 < (e.length : Int))))], (qf10 d l1 m2 l3 l4)⟩ ?_
 refine En.seq ?_
 refine En.ch h (fun h => ?_) (fun h => ?_)
 refine En.skip ?_
 refine En.seq ?_
 refine En.block ?_
 refine En.sr ?_
 obtain ⟨e_2, he_2, h⟩ := h
 refine WL.v hn (val_ix (T := intT) (l := e) (i := x32) ht rfl he_2) ?_
 refine WL.v hn (val_ld (s := .one (I e_2)) ht rfl) ?_
 refine WL.rn ht hn 1 ⟨[qf5, sl 3 (.own 1), sl 4 (I x4), sl 5 (.own 2), sl 6 (.own 3), sl 7 (I x25), sl 9 (.own 4), sl 11 (I e_2), qf1 d, qf0 d, sl 25 (I x25), sl 30 (LS intT e), sl 31 (I (e.length : Int)), sl 32 (I x32)], (qf10 d l1 m2 l3 l4)⟩ ?_
 obtain ⟨e_3, he_3, h⟩ := h
 obtain ⟨e_4, he_4, h⟩ := h
 obtain ⟨hp_2, h⟩ := h
 refine En.regionA ⟨[qf5, sl 3 (.own 1), sl 4 (I x4), sl 5 (.own 2), sl 6 (.own 3), sl 7 (I x25), sl 9 (.own 4), sl 11 (I e_2), qf1 d, qf0 d, sl 25 (I x25), sl 30 (LS intT e), sl 31 (I (e.length : Int)), sl 32 (I x32)], [.sv (.one (.own 4)), .sv (.one (.own 1)), .sv (.one (I e_2)), .sv (.one (.oe 1 (e_2).toNat 1)), .sv (.one (I e_3)), .sv (.one (.v (.int .u8 (qf9 e_3)))), .sv (.one (.own 1)), .sv (.one (I e_2)), .sv (.one (.oe 1 (e_2).toNat 1)), .sv (.one (I e_4)), .sv (.one (I (Int.fdiv e_4 (2 ^ (min 8 64))))), .sv (.one (.v (.int .u8 (qf3 e_4)))), .sv (.one (LS (intKT .u8) ([qf9 e_3, qf3 e_4] : List Int))), .sv (.one (.own 5)), .sv (.one (.own 5))], [⟨.box (ApiDet.cl d) 25 false, none, none, none⟩, ⟨rowI 3 intT l1, none, none, none⟩, ⟨mapI DetSplit.enc intT m2, none, none, none⟩, ⟨rowI 3 intT l3, none, none, none⟩, ⟨rowI 5 (intKT .u8) l4, none, some 13, none⟩, ⟨rowI 5 (intKT .u8) (l4 ++ ([qf9 e_3, qf3 e_4] : List Int)), some 13, none, none⟩]⟩ ⟨[qf5, sl 3 (.own 1), sl 4 (I x4), sl 5 (.own 2), sl 6 (.own 3), sl 7 (I x25), sl 9 (.own 5), qf1 d, qf0 d, sl 25 (I x25), sl 30 (LS intT e), sl 31 (I (e.length : Int)), sl 32 (I x32)], [.box (ApiDet.cl d) 25 false, rowI 3 intT l1, mapI DetSplit.enc intT m2, rowI 3 intT l3, .gone, rowI 5 (intKT .u8) (l4 ++ ([qf9 e_3, qf3 e_4] : List Int))]⟩ (by kernel_rfl) hn (by kernel_rfl) (by rfl) (by kernel_rfl) ?_ (by kernel_rfl) ?_
 exact ⟨.ev ⟨[sl 9 (.own 4)], []⟩ ht,
 .ev ⟨[sl 3 (.own 1)], []⟩ ht,
 .ev ⟨[sl 11 (I e_2)], []⟩ ht,
 .vl ⟨[sl 37 (.own 1), sl 38 (I e_2)], [.gone, rowI 3 intT l1]⟩ (mt_val (val_indexO (T := intT) (l := l1) (k := e_2) ht rfl (by rfl) (by rfl) (by rfl) (by rfl) (by decide) (by rfl) (by rfl) (by rfl) he_3)),
 .vl ⟨[sl 39 (.oe 1 (e_2).toNat 1)], [.gone, rowI 3 intT l1]⟩ (mt_val (val_loadO (T := intT) (l := l1) (y := e_3) ht rfl (by rfl) (by rfl) (by rfl) (by rfl) (by rfl) (idx_some he_3).2.2 (by rfl))),
 .ev ⟨[sl 40 (I e_3)], []⟩ ht,
 .ev ⟨[sl 3 (.own 1)], []⟩ ht,
 .ev ⟨[sl 11 (I e_2)], []⟩ ht,
 .vl ⟨[sl 42 (.own 1), sl 43 (I e_2)], [.gone, rowI 3 intT l1]⟩ (mt_val (val_indexO (T := intT) (l := l1) (k := e_2) ht rfl (by rfl) (by rfl) (by rfl) (by rfl) (by decide) (by rfl) (by rfl) (by rfl) he_4)),
 .vl ⟨[sl 44 (.oe 1 (e_2).toNat 1)], [.gone, rowI 3 intT l1]⟩ (mt_val (val_loadO (T := intT) (l := l1) (y := e_4) ht rfl (by rfl) (by rfl) (by rfl) (by rfl) (by rfl) (idx_some he_4).2.2 (by rfl))),
 .ev ⟨[sl 45 (I e_4)], []⟩ ht,
 .ev ⟨[sl 46 (I (Int.fdiv e_4 (2 ^ (min 8 64))))], []⟩ ht,
 .mt ⟨[sl 41 (.v (.int .u8 (qf9 e_3))), sl 47 (.v (.int .u8 (qf3 e_4)))], []⟩ [] none (by kernel_rfl) (by rfl) (mt_seal (q := 5) (e := 5) (mt_lit (T := (intKT .u8)) ([qf9 e_3, qf3 e_4] : List Int) (mt_bsl 5 (r := cellsOf (intKT .u8) ([qf9 e_3, qf3 e_4] : List Int)) ht rfl (by rfl) (by rfl) (by rfl) (by kernel_rfl) (by rfl)) (fun _ h => by cases h) (fun _ => rfl) (fun _ => rfl) (by rfl) (Nat.le_of_ble_eq_true rfl))) rfl rfl rfl rfl,
 .mt ⟨[sl 36 (.own 4), sl 48 (LS (intKT .u8) ([qf9 e_3, qf3 e_4] : List Int))], [.gone, .gone, .gone, .gone, rowI 5 (intKT .u8) l4]⟩ [4] (some 5) (by kernel_rfl) (by rfl) (mt_append (T := (intKT .u8)) (l := l4) (es := ([qf9 e_3, qf3 e_4] : List Int)) (p := 5) ht rfl (by rfl) (by rfl) (by rfl) (by rfl) (by decide) (by rfl) (by rfl) (srcLS (T := (intKT .u8)) (es := ([qf9 e_3, qf3 e_4] : List Int)) (fun _ h => by cases h) (by decide) (by rfl)) (by exact hp_2) (by exact hp_2.le (by decide))) rfl rfl rfl rfl,
 .ev ⟨[sl 49 (.own 5)], []⟩ ht,
 trivial⟩
 refine En.region ?_
 refine WL.rn ht hn 2 ⟨[qf5, sl 3 (.own 1), sl 4 (I x4), sl 5 (.own 2), sl 6 (.own 3), sl 7 (I x25), sl 9 (.own 5), qf1 d, qf0 d, sl 25 (I x25), sl 30 (LS intT e), sl 31 (I (e.length : Int)), sl 32 (I (wr (x32 + 1)))], [.box (ApiDet.cl d) 25 false, rowI 3 intT l1, mapI DetSplit.enc intT m2, rowI 3 intT l3, .gone, rowI 5 (intKT .u8) (l4 ++ ([qf9 e_3, qf3 e_4] : List Int))]⟩ ?_
 refine En.move 5 4 (by rfl) (by rfl) ?_
 exact En.at (I := fun zz => Inv_3 zz.1 zz.2 ∧ mu_3 zz.1 zz.2 < mu_3 x32 l4) (T := fun zz => ⟨[qf5, sl 3 (.own 1), sl 4 (I x4), sl 5 (.own 2), sl 6 (.own 3), sl 7 (I x25), sl 9 (.own 4), qf1 d, qf0 d, sl 25 (I x25), sl 30 (LS intT e), sl 31 (I (e.length : Int)), sl 32 (I zz.1)], [.box (ApiDet.cl d) 25 false, rowI 3 intT l1, mapI DetSplit.enc intT m2, rowI 3 intT l3, rowI 5 (intKT .u8) zz.2]⟩) ((wr (x32 + 1)), (l4 ++ ([qf9 e_3, qf3 e_4] : List Int))) h (by kernel_rfl)
 refine En.exit rfl ?_
 refine En.seq ?_
 obtain ⟨e_5, he_5, h⟩ := h
 refine En.regionA ⟨[qf5, sl 3 (.own 1), sl 4 (I x4), sl 5 (.own 2), sl 6 (.own 3), sl 7 (I x25), sl 9 (.own 4), qf1 d, qf0 d, sl 25 (I x25)], [.sv (.one (.own 1)), .sv (.one (I x25)), .sv (.one (.oe 1 (x25).toNat 1)), .sv (.one (I e_5)), .sv (.one (.own 4)), .sv (.one (.v (.string (bytesOf l4)))), .sv (.agg [I e_5, .v (.string (bytesOf l4))]), .sv (.one (.ptr 5 0)), .tup []], [⟨.box (ApiDet.cl d) 25 false, none, none, none⟩, ⟨rowI 3 intT l1, none, none, none⟩, ⟨mapI DetSplit.enc intT m2, none, none, none⟩, ⟨rowI 3 intT l3, none, none, none⟩, ⟨rowI 5 (intKT .u8) l4, none, none, none⟩, ⟨.box [I 0, .v (.string ByteArray.empty)] 267 false, some 7, none, some (8, .box [I e_5, .v (.string (bytesOf l4))] 267 false)⟩]⟩ ⟨(qf2 d x4 x25), (qf4 d l1 m2 l3 e_5 l4)⟩ (by kernel_rfl) hn (by kernel_rfl) (by rfl) (by kernel_rfl) ?_ (by kernel_rfl) ?_
 exact ⟨.ev ⟨[sl 3 (.own 1)], []⟩ ht,
 .ev ⟨[sl 7 (I x25)], []⟩ ht,
 .vl ⟨[sl 51 (.own 1), sl 52 (I x25)], [.gone, rowI 3 intT l1]⟩ (mt_val (val_indexO (T := intT) (l := l1) (k := x25) ht rfl (by rfl) (by rfl) (by rfl) (by rfl) (by decide) (by rfl) (by rfl) (by rfl) he_5)),
 .vl ⟨[sl 53 (.oe 1 (x25).toNat 1)], [.gone, rowI 3 intT l1]⟩ (mt_val (val_loadO (T := intT) (l := l1) (y := e_5) ht rfl (by rfl) (by rfl) (by rfl) (by rfl) (by rfl) (idx_some he_5).2.2 (by rfl))),
 .ev ⟨[sl 9 (.own 4)], []⟩ ht,
 .vl ⟨[sl 55 (.own 4)], [.gone, .gone, .gone, .gone, rowI 5 (intKT .u8) l4]⟩ (mt_val (val_str rfl Try.underlying178 Try.underlying5 Try.underlying9 (srcOwn (T := intKT .u8) (es := l4) (fun _ h => by cases h) (by rfl) (by rfl)))),
 .ev ⟨[sl 54 (I e_5), sl 56 (.v (.string (bytesOf l4)))], []⟩ ht,
 .mt ⟨[], []⟩ [] (some 5) (by kernel_rfl) (by rfl) (mt_alloc2 5 267 ht rfl (by rfl) (by rfl)) rfl rfl rfl rfl,
 .mu ⟨[sl 12 (.ptr 5 0), (57, .sv (.agg [I e_5, .v (.string (bytesOf l4))]))], [.gone, .gone, .gone, .gone, .gone, .box [I 0, .v (.string ByteArray.empty)] 267 false]⟩ 5 _ _ rfl rfl (by kernel_rfl) (by rfl) (mu_store2 ht rfl (by rfl) (by rfl) (by rfl) (by rfl) (fun h => by cases h) (by rfl) (by rfl)) rfl rfl rfl rfl rfl rfl rfl,
 trivial⟩
 obtain ⟨J, h, hJ⟩ := h
 refine En.seqJ (σ := (List (DetSplit × Int))) (fun zz => J zz) (fun zz => ⟨(qf2 d x4 x25), (qf7 d l1 zz l3 e_5 l4)⟩) ?_ ?_
 refine En.sr ?_
 refine WL.r ht hn 2 ⟨[qf5, sl 3 (.own 1), sl 4 (I x4), sl 5 (.own 2), sl 6 (.own 3), sl 7 (I x25), sl 12 (.ptr 5 0), qf1 d, qf0 d, sl 25 (I x25), sl 59 (.own 2), (60, .sv (.agg [I e_5, .v (.string (bytesOf l4))]))], (qf4 d l1 m2 l3 e_5 l4)⟩ ?_
 refine WL.v hn (val_lookup (T := intT) (D := m2) DetSplit.keyLaw (k := (DetSplit.mk e_5 (bytesOf l4))) (ok := true) (0 : Int) (zv := (.int .i64 0)) rfl Try.underlying265 (fun _ => by kernel_rfl) (fun _ => ⟨rfl, trivial⟩) (mapAs DetSplit.enc intT m2) (by rfl) (by rfl) (by rfl) (fun _ => rfl)) ?_
 refine WL.rn ht hn 5 ⟨[qf5, sl 3 (.own 1), sl 4 (I x4), sl 5 (.own 2), sl 6 (.own 3), sl 7 (I x25), sl 12 (.ptr 5 0), sl 14 (B (mget (DetSplit.mk e_5 (bytesOf l4)) m2).isSome), qf1 d, qf0 d, sl 25 (I x25)], (qf4 d l1 m2 l3 e_5 l4)⟩ ?_
 refine En.sr ?_
 refine WL.rn ht hn 2 ⟨[qf5, sl 3 (.own 1), sl 4 (I x4), sl 5 (.own 2), sl 6 (.own 3), sl 7 (I x25), sl 12 (.ptr 5 0), qf1 d, qf0 d, sl 25 (I x25), sl 65 (B (!(mget (DetSplit.mk e_5 (bytesOf l4)) m2).isSome))], (qf4 d l1 m2 l3 e_5 l4)⟩ ?_
 refine En.ch h (fun h => ?_) (fun h => ?_)
 refine En.region ?_
 refine WL.r ht hn 3 ⟨[qf5, sl 3 (.own 1), sl 4 (I x4), sl 5 (.own 2), sl 6 (.own 3), sl 7 (I x25), sl 12 (.ptr 5 0), qf1 d, qf0 d, sl 25 (I x25), sl 66 (.own 2), (67, .sv (.agg [I e_5, .v (.string (bytesOf l4))])), sl 68 (.own 2)], (qf4 d l1 m2 l3 e_5 l4)⟩ ?_
 refine WL.v hn (val_lenM (enc := DetSplit.enc) (T := intT) (D := m2) rfl Try.underlying265 (by rfl) (by rfl) (mapAs _ _ _)) ?_
 refine WL.mapPut (T := intT) DetSplit.keyLaw (k := (DetSplit.mk e_5 (bytesOf l4))) (y := (m2.length : Int)) hn (by rfl) (.inl rfl) Try.underlying265 (by rfl) (by rfl) (by rfl) (by rfl) (by rfl) (by rfl) ?_
 refine WL.nil ?_
 exact En.at (I := fun zz => J zz) (T := fun zz => ⟨(qf2 d x4 x25), (qf7 d l1 zz l3 e_5 l4)⟩) (mput (DetSplit.mk e_5 (bytesOf l4)) (m2.length : Int) m2) h (by kernel_rfl)
 refine En.skip ?_
 exact En.at (I := fun zz => J zz) (T := fun zz => ⟨(qf2 d x4 x25), (qf7 d l1 zz l3 e_5 l4)⟩) m2 h (by kernel_rfl)
 intro m2_2 h
 replace h := hJ _ h
 show En c ⟨(qf2 d x4 x25), [.box (ApiDet.cl d) 25 false, rowI 3 intT l1, mapI DetSplit.enc intT m2_2, rowI 3 intT l3, .gone, .box [I e_5, .v (.string (bytesOf l4))] 267 false]⟩ _
 refine En.region ?_
 refine WL.r ht hn 4 ⟨[qf5, sl 3 (.own 1), sl 4 (I x4), sl 5 (.own 2), sl 6 (.own 3), qf1 d, qf0 d, sl 25 (I x25), sl 70 (.own 3), sl 71 (I x25), sl 72 (.own 2), (73, .sv (.agg [I e_5, .v (.string (bytesOf l4))]))], [.box (ApiDet.cl d) 25 false, rowI 3 intT l1, mapI DetSplit.enc intT m2_2, rowI 3 intT l3, .gone, .gone]⟩ ?_
 refine WL.v hn (val_lookup (T := intT) (D := m2_2) DetSplit.keyLaw (k := (DetSplit.mk e_5 (bytesOf l4))) (ok := false) (0 : Int) (zv := (.int .i64 0)) rfl Try.underlying265 (fun _ => by kernel_rfl) (fun _ => ⟨rfl, trivial⟩) (mapAs DetSplit.enc intT m2_2) (by rfl) (by rfl) (by rfl) (fun _ => rfl)) ?_
 obtain ⟨e_6, he_6, h⟩ := h
 refine WL.v hn (val_indexO (T := intT) (l := l3) (k := x25) ht rfl (by rfl) (by rfl) (by rfl) (by rfl) (by decide) (by rfl) (by rfl) (by rfl) he_6) ?_
 refine WL.storeO (T := intT) (l := l3) (y := ((mget (DetSplit.mk e_5 (bytesOf l4)) m2_2).getD (0 : Int))) ht hn (by rfl) rfl (by rfl) (by rfl) (fun _ h => by cases h) (by rfl) (by rfl) (idx_lt he_6) (by rfl) (by rfl) (by rfl) (by rfl) ?_
 refine WL.nil ?_
 refine En.region ?_
 refine WL.rn ht hn 2 ⟨[qf5, sl 3 (.own 1), sl 4 (I x4), sl 5 (.own 2), sl 6 (.own 3), qf1 d, qf0 d, sl 25 (I (wr (x25 + 1)))], [.box (ApiDet.cl d) 25 false, rowI 3 intT l1, mapI DetSplit.enc intT m2_2, rowI 3 intT (l3.set (x25).toNat ((mget (DetSplit.mk e_5 (bytesOf l4)) m2_2).getD (0 : Int))), .gone, .gone]⟩ ?_
 exact En.at (I := fun zz => Inv_2 zz.1 zz.2.1 zz.2.2 ∧ mu_2 zz.1 zz.2.1 zz.2.2 < mu_2 x25 m2 l3) (T := fun zz => ⟨[qf5, sl 3 (.own 1), sl 4 (I x4), sl 5 (.own 2), sl 6 (.own 3), qf1 d, qf0 d, sl 25 (I zz.1)], [.box (ApiDet.cl d) 25 false, rowI 3 intT l1, mapI DetSplit.enc intT zz.2.1, rowI 3 intT zz.2.2]⟩) ((wr (x25 + 1)), m2_2, (l3.set (x25).toNat ((mget (DetSplit.mk e_5 (bytesOf l4)) m2_2).getD (0 : Int)))) h (by kernel_rfl)
 refine En.exit rfl ?_
 refine En.sr ?_
 refine WL.rn ht hn 2 ⟨[qf5, sl 3 (.own 3), sl 4 (I x4), sl 5 (.own 2)], (qf8 d m2 l3)⟩ ?_
 refine En.seq ?_
 refine En.sr ?_
 refine WL.r ht hn 1 ⟨[qf5, sl 3 (.own 3), sl 4 (I x4), sl 5 (.own 2), sl 78 (.own 2)], (qf8 d m2 l3)⟩ ?_
 refine WL.v hn (val_lenM (enc := DetSplit.enc) (T := intT) (D := m2) rfl Try.underlying265 (by rfl) (by rfl) (mapAs _ _ _)) ?_
 refine WL.rn ht hn 2 ⟨[qf5, sl 3 (.own 3), sl 5 (.own 2), sl 81 (B ((m2.length : Int) == x4))], (qf8 d m2 l3)⟩ ?_
 refine En.ch h (fun h => ?_) (fun h => ?_)
 refine En.sr ?_
 refine WL.rn ht hn 2 ⟨[sl 2 (.own 3)], [.gone, .gone, .gone, rowI 3 intT l3]⟩ ?_
 refine En.ret ?_
 refine En.seal (T := intT) (l := l3) (e := 3) 3 rfl ?_
 exact En.back ht l3 h (by kernel_rfl) rfl
 refine En.skip ?_
 refine En.region ?_
 refine WL.r ht hn 1 ⟨[qf5, sl 3 (.own 3), sl 83 (.own 2)], (qf8 d m2 l3)⟩ ?_
 refine WL.v hn (val_lenM (enc := DetSplit.enc) (T := intT) (D := m2) rfl Try.underlying265 (by rfl) (by rfl) (mapAs _ _ _)) ?_
 refine WL.rn ht hn 1 ⟨[qf5, sl 3 (.own 3), sl 4 (I (m2.length : Int))], [.box (ApiDet.cl d) 25 false, .gone, .gone, rowI 3 intT l3]⟩ ?_
 refine En.move 3 1 (by rfl) (by rfl) ?_
 exact En.at (I := fun zz => Inv zz.1 zz.2 ∧ mu zz.1 zz.2 < mu x4 l1) (T := fun zz => ⟨[qf5, sl 3 (.own 1), sl 4 (I zz.1)], [.box (ApiDet.cl d) 25 false, rowI 3 intT zz.2]⟩) ((m2.length : Int), l3) h (by kernel_rfl)
theorem en127 : ∀ args w, (callFunc 127 args).run Try.prog w = .ok (.enter 127 args) w := enters_of Try.func127 (by kernel_rfl) rfl
end Go.Proofs.Ytobenjahlicnoaa
namespace Go.Proofs.Ytobenjahlicnoaa
open Go.RowKit Go.MapKept
set_option linter.unusedSimpArgs false
set_option linter.unusedVariables false
set_option maxRecDepth 100000
set_option linter.unusedSectionVars false
theorem nodup_le {α : Type} : ∀ {l m : List α}, l.Nodup → (∀ x ∈ l, x ∈ m) → l.length ≤ m.length
 | [], _, _, _ => Nat.zero_le _
 | x :: l, m, hn, h => by
  rw [List.nodup_cons] at hn
  obtain ⟨s, t, rfl⟩ := List.append_of_mem (h x List.mem_cons_self)
  have := nodup_le (l := l) (m := s ++ t) hn.2 fun y hy => by
   have h1 := h y (List.mem_cons_of_mem _ hy)
   rw [List.mem_append, List.mem_cons] at h1
   rw [List.mem_append]
   rcases h1 with h1 | rfl | h1
   ·exact .inl h1
   ·exact absurd hy hn.1
   ·exact .inr h1
  simp only [List.length_append, List.length_cons] at this ⊢
  omega
theorem idxOf_left {α : Type} [DecidableEq α] {x : α} : ∀ {l r : List α}, x ∈ l → (l ++ r).idxOf x = l.idxOf x
 | [], _, h => by simp at h
 | y :: l, r, h => by
  rw [List.cons_append, List.idxOf_cons, List.idxOf_cons]
  by_cases e : y = x
  ·simp [e]
  ·have hm : x ∈ l := by
    rcases List.mem_cons.1 h with h | h
    ·exact absurd h.symm e
    ·exact h
   simp [e, idxOf_left (r := r) hm]
theorem idxOf_map {α β : Type} [DecidableEq α] [DecidableEq β] {φ : α → β} {x : α} : ∀ {l : List α}, (∀ y ∈ l, φ y = φ x → y = x) → (l.map φ).idxOf (φ x) = l.idxOf x
 | [], _ => rfl
 | y :: l, h => by
  rw [List.map_cons, List.idxOf_cons, List.idxOf_cons]
  have ih := idxOf_map (l := l) fun z hz => h z (List.mem_cons_of_mem _ hz)
  by_cases e : y = x
  ·simp [e]
  ·have : φ y ≠ φ x := fun e2 => e (h y List.mem_cons_self e2)
   rw [show (φ y == φ x) = false by simpa using this, show (y == x) = false by simpa using e]
   simp [ih]
section
variable {K : Type} [DecidableEq K]
def growTo (go : K → Nat → K) (k : K) : Nat → List K → List K
 | 0, l => l
 | n + 1, l => if go k n ∈ growTo go k n l then growTo go k n l else growTo go k n l ++ [go k n]
def expl (go : K → Nat → K) (L : Nat) (k0 : K) : Nat → List K
 | 0 => [k0]
 | i + 1 => match (expl go L k0 i)[i]? with
  | some k => growTo go k L (expl go L k0 i)
  | none => expl go L k0 i
variable {go : K → Nat → K} {mark : K → Int} {L : Nat} {k0 : K} {P : K → Prop}
theorem growTo_app (k : K) : ∀ (n : Nat) (l : List K), ∃ r, growTo go k n l = l ++ r
 | 0, l => ⟨[], by simp [growTo]⟩
 | n + 1, l => by
  obtain ⟨r, hr⟩ := growTo_app k n l
  rw [growTo]
  split
  ·exact ⟨r, hr⟩
  ·exact ⟨r ++ [go k n], by rw [hr, List.append_assoc]⟩
theorem growTo_nodup {k : K} : ∀ {n : Nat} {l : List K}, l.Nodup → (growTo go k n l).Nodup
 | 0, _, h => h
 | n + 1, l, h => by
  have ih := growTo_nodup (k := k) (n := n) h
  rw [growTo]
  split
  ·exact ih
  ·rename_i hm
   rw [List.nodup_append]
   exact ⟨ih, by simp, fun x hx y hy => by simp at hy; subst hy; exact fun e => hm (e ▸ hx)⟩
theorem growTo_mem {k x : K} : ∀ {n : Nat} {l : List K}, x ∈ growTo go k n l ↔ x ∈ l ∨ ∃ a, a < n ∧ go k a = x
 | 0, l => by simp [growTo]
 | n + 1, l => by
  have ih := growTo_mem (k := k) (x := x) (n := n) (l := l)
  have key : x ∈ growTo go k (n + 1) l ↔ x ∈ growTo go k n l ∨ go k n = x := by
   rw [growTo]
   split
   ·rename_i hm
    constructor
    ·exact .inl
    ·rintro (h | rfl)
     ·exact h
     ·exact hm
   ·rw [List.mem_append, List.mem_singleton]
    constructor
    ·rintro (h | rfl)
     ·exact .inl h
     ·exact .inr rfl
    ·rintro (h | rfl)
     ·exact .inl h
     ·exact .inr rfl
  rw [key, ih]
  constructor
  ·rintro ((h | ⟨a, h1, h2⟩) | h)
   ·exact .inl h
   ·exact .inr ⟨a, by omega, h2⟩
   ·exact .inr ⟨n, by omega, h⟩
  ·rintro (h | ⟨a, h1, h2⟩)
   ·exact .inl (.inl h)
   ·by_cases e : a = n
    ·subst e; exact .inr h2
    ·exact .inl (.inr ⟨a, by omega, h2⟩)
theorem expl_step (i : Nat) : ∃ r, expl go L k0 (i + 1) = expl go L k0 i ++ r := by
 rw [expl]
 split
 ·exact growTo_app _ _ _
 ·exact ⟨[], by simp⟩
theorem expl_app {i : Nat} : ∀ {j : Nat}, i ≤ j → ∃ r, expl go L k0 j = expl go L k0 i ++ r
 | 0, h => by
  obtain rfl : i = 0 := by omega
  exact ⟨[], by simp⟩
 | j + 1, h => by
  by_cases e : i = j + 1
  ·subst e; exact ⟨[], by simp⟩
  ·obtain ⟨r, hr⟩ := expl_app (i := i) (j := j) (by omega)
   obtain ⟨r2, hr2⟩ := expl_step (go := go) (L := L) (k0 := k0) j
   exact ⟨r ++ r2, by rw [hr2, hr, List.append_assoc]⟩
theorem expl_nodup : ∀ {i : Nat}, (expl go L k0 i).Nodup
 | 0 => by simp [expl]
 | i + 1 => by
  rw [expl]
  split
  ·exact growTo_nodup expl_nodup
  ·exact expl_nodup
theorem expl_stop {i : Nat} (h : (expl go L k0 i).length ≤ i) : ∀ {j : Nat}, i ≤ j → expl go L k0 j = expl go L k0 i
 | 0, hj => by
  obtain rfl : i = 0 := by omega
  rfl
 | j + 1, hj => by
  by_cases e : i = j + 1
  ·subst e; rfl
  ·have ih := expl_stop h (j := j) (by omega)
   rw [expl, ih, List.getElem?_eq_none (by omega)]
theorem expl_one {n m : Nat} (hn : (expl go L k0 n).length = n) (hm : (expl go L k0 m).length = m) : expl go L k0 n = expl go L k0 m := by
 rcases Nat.le_total n m with h | h
 ·exact (expl_stop (by omega) h).symm
 ·exact expl_stop (by omega) h
theorem expl_mono {i j : Nat} (h : i ≤ j) : (expl go L k0 i).length ≤ (expl go L k0 j).length := by
 obtain ⟨r, hr⟩ := expl_app (go := go) (L := L) (k0 := k0) h
 rw [hr, List.length_append]
 omega
theorem expl_in (h0 : P k0) (hP : ∀ k a, P k → a < L → P (go k a)) : ∀ {i : Nat} {k : K}, k ∈ expl go L k0 i → P k
 | 0, k, h => by
  simp [expl] at h
  exact h ▸ h0
 | i + 1, k, h => by
  rw [expl] at h
  split at h
  ·rename_i q hq
   rcases growTo_mem.1 h with h | ⟨a, ha, rfl⟩
   ·exact expl_in h0 hP h
   ·exact hP _ _ (expl_in h0 hP (List.mem_of_getElem? hq)) ha
  ·exact expl_in h0 hP h
theorem expl_first (i : Nat) : (expl go L k0 i)[0]? = some k0 := by
 obtain ⟨r, hr⟩ := expl_app (go := go) (L := L) (k0 := k0) (Nat.zero_le i)
 rw [hr]
 simp [expl]
theorem expl_get {n j : Nat} {k : K} (hj : j < n) (hk : (expl go L k0 n)[j]? = some k) : (expl go L k0 j)[j]? = some k := by
 obtain ⟨r, hr⟩ := expl_app (go := go) (L := L) (k0 := k0) (Nat.le_of_lt hj)
 by_cases h : j < (expl go L k0 j).length
 ·rw [hr, List.getElem?_append_left h] at hk
  exact hk
 ·have e := expl_stop (go := go) (L := L) (k0 := k0) (i := j) (by omega) (j := n) (by omega)
  rw [e, List.getElem?_eq_none (by omega)] at hk
  cases hk
theorem expl_closed {n : Nat} (hn : (expl go L k0 n).length = n) {k : K} (hk : k ∈ expl go L k0 n) {a : Nat} (ha : a < L) : go k a ∈ expl go L k0 n := by
 obtain ⟨j, hj⟩ := List.getElem?_of_mem hk
 have hlt : j < n := by
  have := (List.getElem?_eq_some_iff.1 hj).1
  omega
 have h1 := expl_get hlt hj
 obtain ⟨r, hr⟩ := expl_app (go := go) (L := L) (k0 := k0) (show j + 1 ≤ n from hlt)
 rw [hr]
 refine List.mem_append_left _ ?_
 rw [expl, h1]
 exact growTo_mem.2 (.inr ⟨a, ha, rfl⟩)
theorem expl_ends {m : List K} (h0 : k0 ∈ m) (hP : ∀ k a, k ∈ m → a < L → go k a ∈ m) : ∃ n, (expl go L k0 n).length = n ∧ n ≤ m.length := by
 have hall : ∀ i, (expl go L k0 i).length ≤ m.length := fun i => nodup_le expl_nodup fun x hx => expl_in (P := fun k => k ∈ m) h0 hP hx
 by_cases h : ∃ n, n ≤ m.length ∧ (expl go L k0 n).length ≤ n
 ·obtain ⟨n, h1, h2⟩ := h
  have h3 : (expl go L k0 (expl go L k0 n).length).length ≤ (expl go L k0 n).length := expl_mono h2
  have h4 := expl_stop h3 h2
  exact ⟨(expl go L k0 n).length, by rw [← h4], hall n⟩
 ·exfalso
  have := hall m.length
  exact h ⟨m.length, Nat.le_refl _, this⟩
def rowOf (go : K → Nat → K) (L : Nat) (l : List K) (k : K) : List Int := (List.range L).map fun a => (l.idxOf (go k a) : Int)
def detOf (go : K → Nat → K) (mark : K → Int) (L : Nat) (l : List K) : ApiDet := ⟨L, 0, l.map (rowOf go L l), l.map mark⟩
open Classical in
noncomputable def explL (go : K → Nat → K) (L : Nat) (k0 : K) : List K := if h : ∃ n, (expl go L k0 n).length = n then expl go L k0 h.choose else [k0]
theorem explL_eq {n : Nat} (h : (expl go L k0 n).length = n) : explL go L k0 = expl go L k0 n := by
 unfold explL
 have hx : ∃ n, (expl go L k0 n).length = n := ⟨n, h⟩
 rw [dif_pos hx]
 exact expl_one hx.choose_spec h
noncomputable def explD (go : K → Nat → K) (mark : K → Int) (L : Nat) (k0 : K) : ApiDet := detOf go mark L (explL go L k0)
open Classical in
noncomputable def explR (go : K → Nat → K) (mark : K → Int) (L : Nat) (k0 : K) (limit : Int) : ApiDet × Bool :=
 if ∃ n : Nat, (expl go L k0 n).length = n ∧ (n : Int) ≤ limit then (explD go mark L k0, true) else (⟨0, 0, [], []⟩, false)
theorem explR_ends {limit : Int} {m : List K} (h0 : k0 ∈ m) (hP : ∀ k a, k ∈ m → a < L → go k a ∈ m) (hl : (m.length : Int) ≤ limit) : explR go mark L k0 limit = (explD go mark L k0, true) := by
 obtain ⟨n, h1, h2⟩ := expl_ends (L := L) h0 hP
 unfold explR
 rw [if_pos ⟨n, h1, by omega⟩]
section
variable {K' : Type} [DecidableEq K'] {go' : K' → Nat → K'} {mark' : K' → Int} {φ : K → K'}
theorem growTo_map (inj : ∀ x y, P x → P y → φ x = φ y → x = y) (hg : ∀ k a, P k → a < L → φ (go k a) = go' (φ k) a) (hP : ∀ k a, P k → a < L → P (go k a)) {k : K} (hk : P k) : ∀ {n : Nat} {l : List K}, n ≤ L → (∀ x ∈ l, P x) → growTo go' (φ k) n (l.map φ) = (growTo go k n l).map φ
 | 0, l, _, _ => rfl
 | n + 1, l, hn, hl => by
  have ih := growTo_map inj hg hP hk (n := n) (l := l) (by omega) hl
  have hin : ∀ x ∈ growTo go k n l, P x := fun x hx => by
   rcases growTo_mem.1 hx with h | ⟨a, ha, rfl⟩
   ·exact hl x h
   ·exact hP k a hk (by omega)
  have hmem : go' (φ k) n ∈ (growTo go k n l).map φ ↔ go k n ∈ growTo go k n l := by
   rw [← hg k n hk (by omega), List.mem_map]
   constructor
   ·rintro ⟨x, hx, e⟩
    exact inj _ _ (hin x hx) (hP k n hk (by omega)) e ▸ hx
   ·exact fun h => ⟨_, h, rfl⟩
  rw [growTo, growTo, ih]
  by_cases h : go k n ∈ growTo go k n l
  ·rw [if_pos h, if_pos (hmem.2 h)]
  ·rw [if_neg h, if_neg (fun e => h (hmem.1 e)), List.map_append, List.map_cons, List.map_nil, hg k n hk (by omega)]
theorem expl_map (h0 : P k0) (inj : ∀ x y, P x → P y → φ x = φ y → x = y) (hg : ∀ k a, P k → a < L → φ (go k a) = go' (φ k) a) (hP : ∀ k a, P k → a < L → P (go k a)) : ∀ {i : Nat}, expl go' L (φ k0) i = (expl go L k0 i).map φ
 | 0 => rfl
 | i + 1 => by
  rw [expl, expl, expl_map h0 inj hg hP, List.getElem?_map]
  cases hk : (expl go L k0 i)[i]? with
  | none => rfl
  | some k =>
   show growTo go' (φ k) L _ = _
   exact growTo_map inj hg hP (expl_in h0 hP (List.mem_of_getElem? hk)) (Nat.le_refl _) fun x hx => expl_in h0 hP hx
theorem explL_map (h0 : P k0) (inj : ∀ x y, P x → P y → φ x = φ y → x = y) (hg : ∀ k a, P k → a < L → φ (go k a) = go' (φ k) a) (hP : ∀ k a, P k → a < L → P (go k a)) : explL go' L (φ k0) = (explL go L k0).map φ := by
 by_cases h : ∃ n, (expl go L k0 n).length = n
 ·obtain ⟨n, hn⟩ := h
  rw [explL_eq hn, explL_eq (n := n) (by rw [expl_map h0 inj hg hP, List.length_map]; exact hn), expl_map h0 inj hg hP]
 ·have h' : ¬ ∃ n, (expl go' L (φ k0) n).length = n := fun ⟨n, hn⟩ => h ⟨n, by rw [expl_map h0 inj hg hP, List.length_map] at hn; exact hn⟩
  unfold explL
  rw [dif_neg h, dif_neg h']
  rfl
theorem explL_in (h0 : P k0) (hP : ∀ k a, P k → a < L → P (go k a)) {k : K} (hk : k ∈ explL go L k0) : P k := by
 unfold explL at hk
 split at hk
 ·exact expl_in h0 hP hk
 ·simp at hk
  exact hk ▸ h0
theorem explD_map (h0 : P k0) (inj : ∀ x y, P x → P y → φ x = φ y → x = y) (hg : ∀ k a, P k → a < L → φ (go k a) = go' (φ k) a) (hP : ∀ k a, P k → a < L → P (go k a)) (hm : ∀ k, P k → mark' (φ k) = mark k) : explD go' mark' L (φ k0) = explD go mark L k0 := by
 unfold explD detOf
 rw [explL_map h0 inj hg hP, List.map_map, List.map_map]
 have hin : ∀ k ∈ explL go L k0, P k := fun k hk => explL_in h0 hP hk
 refine congr (congrArg _ (List.map_congr_left fun k hk => ?_)) (List.map_congr_left fun k hk => hm k (hin k hk))
 show rowOf go' L _ (φ k) = rowOf go L _ k
 unfold rowOf
 refine List.map_congr_left fun a ha => ?_
 have ha : a < L := List.mem_range.1 ha
 have hk := hin k hk
 rw [← hg k a hk ha, idxOf_map fun y hy e => inj _ _ (hin y hy) (hP k a hk ha) e]
end
end
abbrev Lang := List Nat → Int
noncomputable instance langDec : DecidableEq Lang := fun _ _ => Classical.propDecidable _
def rs (L : Nat) (r : Lang) : Lang := fun w => if ∀ a ∈ w, a < L then r w else 0
theorem rs_congr {L : Nat} {r s : Lang} (h : ∀ w, (∀ a ∈ w, a < L) → r w = s w) : rs L r = rs L s := by
 funext w
 unfold rs
 split
 ·rename_i hw
  exact h w hw
 ·rfl
def der (r : Lang) (a : Nat) : Lang := fun w => r (a :: w)
theorem rs_cons {L : Nat} {r : Lang} {a : Nat} (ha : a < L) {w : List Nat} : rs L r (a :: w) = rs L (der r a) w := by
 unfold rs
 by_cases h : ∀ b ∈ w, b < L
 ·rw [if_pos h, if_pos (show ∀ b ∈ a :: w, b < L from fun b hb => (List.mem_cons.1 hb).elim (fun e => e ▸ ha) (h b))]
  rfl
 ·rw [if_neg h, if_neg (fun e => h fun b hb => e b (List.mem_cons_of_mem _ hb))]
theorem der_rs {L : Nat} {r : Lang} {a : Nat} (ha : a < L) : der (rs L r) a = rs L (der r a) := funext fun _ => rs_cons ha
theorem rs_at {L : Nat} {r s : Lang} (h : rs L r = rs L s) {w : List Nat} (hw : ∀ a ∈ w, a < L) : r w = s w := by
 have := congrFun h w
 unfold rs at this
 rw [if_pos hw, if_pos hw] at this
 exact this
noncomputable def canon (L : Nat) (r : Lang) : ApiDet := explD der (fun r => r []) L (rs L r)
theorem canon_congr {L : Nat} {r s : Lang} (h : ∀ w, (∀ a ∈ w, a < L) → r w = s w) : canon L r = canon L s := by
 unfold canon
 rw [rs_congr h]
section
variable {K : Type} [DecidableEq K] {go : K → Nat → K} {mark : K → Int} {L : Nat} {k0 : K} {P : K → Prop}
def langK (go : K → Nat → K) (mark : K → Int) (k : K) : Lang := fun w => mark (w.foldl go k)
theorem der_lang {k : K} {a : Nat} (ha : a < L) : rs L (langK go mark (go k a)) = der (rs L (langK go mark k)) a := by
 rw [der_rs ha]
 rfl
theorem canon_of (h0 : P k0) (hP : ∀ k a, P k → a < L → P (go k a)) (inj : ∀ x y, P x → P y → rs L (langK go mark x) = rs L (langK go mark y) → x = y) : explD go mark L k0 = canon L (langK go mark k0) := by
 unfold canon
 refine (explD_map (φ := fun k => rs L (langK go mark k)) h0 inj (fun k a _ ha => der_lang ha) hP fun k _ => ?_).symm
 show rs L (langK go mark k) [] = _
 unfold rs
 rw [if_pos (fun b hb => by simp at hb)]
 rfl
end
def stepD (d : ApiDet) (q : Nat) (a : Nat) : Nat := ((d.fNext.getD q []).getD a 0).toNat
def langD (d : ApiDet) (q : Nat) : Lang := fun w => d.fMark.getD (w.foldl (stepD d) q) 0
section
variable {K : Type} [DecidableEq K] {go : K → Nat → K} {mark : K → Int} {L : Nat} {k0 : K} {P : K → Prop}
theorem getD_of {α : Type} {l : List α} {i : Nat} {d x : α} (h : l[i]? = some x) : l.getD i d = x := by simp [h]
theorem idxOf_get {l : List K} {k : K} (h : k ∈ l) : l[l.idxOf k]? = some k := by
 rw [List.getElem?_eq_getElem (List.idxOf_lt_length_of_mem h)]
 simp
theorem detOf_step {l : List K} {k : K} (hk : k ∈ l) {a : Nat} (ha : a < L) : stepD (detOf go mark L l) (l.idxOf k) a = l.idxOf (go k a) := by
 unfold stepD detOf
 have h1 : (l.map (rowOf go L l)).getD (l.idxOf k) [] = rowOf go L l k := getD_of (by rw [List.getElem?_map, idxOf_get hk]; rfl)
 have h2 : (rowOf go L l k).getD a 0 = (l.idxOf (go k a) : Int) := getD_of (by unfold rowOf; rw [List.getElem?_map, List.getElem?_range ha]; rfl)
 show (((l.map (rowOf go L l)).getD (l.idxOf k) []).getD a 0).toNat = _
 rw [h1, h2]
 simp
theorem detOf_run {l : List K} (hcl : ∀ k ∈ l, ∀ a, a < L → go k a ∈ l) : ∀ {w : List Nat} {k : K}, k ∈ l → (∀ a ∈ w, a < L) → w.foldl (stepD (detOf go mark L l)) (l.idxOf k) = l.idxOf (w.foldl go k)
 | [], k, hk, _ => rfl
 | a :: w, k, hk, hw => by
  have ha := hw a List.mem_cons_self
  rw [List.foldl_cons, List.foldl_cons, detOf_step hk ha, detOf_run hcl (hcl k hk a ha) fun b hb => hw b (List.mem_cons_of_mem _ hb)]
theorem foldl_in {l : List K} (hcl : ∀ k ∈ l, ∀ a, a < L → go k a ∈ l) : ∀ {w : List Nat} {k : K}, k ∈ l → (∀ a ∈ w, a < L) → w.foldl go k ∈ l
 | [], k, hk, _ => hk
 | a :: w, k, hk, hw => foldl_in (w := w) (k := go k a) hcl (hcl k hk a (hw a List.mem_cons_self)) fun b hb => hw b (List.mem_cons_of_mem _ hb)
theorem detOf_lang {l : List K} (hcl : ∀ k ∈ l, ∀ a, a < L → go k a ∈ l) {k : K} (hk : k ∈ l) {w : List Nat} (hw : ∀ a ∈ w, a < L) : langD (detOf go mark L l) (l.idxOf k) w = langK go mark k w := by
 unfold langD langK
 rw [detOf_run hcl hk hw]
 refine getD_of ?_
 show (l.map mark)[_]? = _
 rw [List.getElem?_map, idxOf_get (foldl_in hcl hk hw)]
 rfl
theorem explD_facts {m : List K} (h0 : k0 ∈ m) (hP : ∀ k a, k ∈ m → a < L → go k a ∈ m) : ∃ l : List K, explL go L k0 = l ∧ l.Nodup ∧ (∀ k ∈ l, k ∈ m) ∧ l.length ≤ m.length ∧ l[0]? = some k0 ∧ ∀ k ∈ l, ∀ a, a < L → go k a ∈ l := by
 obtain ⟨n, h1, h2⟩ := expl_ends (L := L) h0 hP
 exact ⟨_, explL_eq h1, expl_nodup, fun k hk => expl_in (P := fun k => k ∈ m) h0 hP hk, by omega, expl_first n, fun k hk a ha => expl_closed h1 hk ha⟩
theorem idxOf_first {l : List K} (h : l[0]? = some k0) : l.idxOf k0 = 0 := by
 cases l with
 | nil => simp at h
 | cons x l => simp at h; simp [h]
theorem explD_lang {m : List K} (h0 : k0 ∈ m) (hP : ∀ k a, k ∈ m → a < L → go k a ∈ m) {w : List Nat} (hw : ∀ a ∈ w, a < L) : langD (explD go mark L k0) 0 w = langK go mark k0 w := by
 obtain ⟨l, e, _, _, _, h1, h2⟩ := explD_facts (L := L) h0 hP
 unfold explD
 rw [e]
 have := detOf_lang (mark := mark) h2 (List.mem_of_getElem? h1) hw
 rw [idxOf_first h1] at this
 exact this
end
structure Wf (d : ApiDet) : Prop where
 letters : 0 ≤ d.fLetters
 rows : ∀ r ∈ d.fNext, r.length = d.fLetters.toNat
 next : ∀ r ∈ d.fNext, ∀ x ∈ r, 0 ≤ x ∧ x < (d.fNext.length : Int)
 start : 0 ≤ d.fStart ∧ d.fStart < (d.fNext.length : Int)
 mark : d.fMark.length = d.fNext.length
section
variable {K : Type} [DecidableEq K] {go : K → Nat → K} {mark : K → Int} {L : Nat} {k0 : K} {P : K → Prop}
theorem explD_wf {m : List K} (h0 : k0 ∈ m) (hP : ∀ k a, k ∈ m → a < L → go k a ∈ m) : Wf (explD go mark L k0) := by
 obtain ⟨l, e, _, _, _, h1, h2⟩ := explD_facts (L := L) h0 hP
 unfold explD
 rw [e]
 refine ⟨by simp [detOf], ?_, ?_, ?_, by simp [detOf]⟩
 ·intro r hr
  obtain ⟨k, _, rfl⟩ := List.mem_map.1 hr
  simp [rowOf, detOf]
 ·intro r hr x hx
  obtain ⟨k, hk, rfl⟩ := List.mem_map.1 hr
  obtain ⟨a, ha, rfl⟩ := List.mem_map.1 hx
  have := List.idxOf_lt_length_of_mem (h2 k hk a (List.mem_range.1 ha))
  simp only [detOf, List.length_map]
  omega
 ·have : 0 < l.length := (List.getElem?_eq_some_iff.1 h1).1
  simp only [detOf, List.length_map]
  omega
theorem explD_count {m : List K} (h0 : k0 ∈ m) (hP : ∀ k a, k ∈ m → a < L → go k a ∈ m) : (explD go mark L k0).fNext.length ≤ m.length := by
 obtain ⟨l, e, _, _, h3, _⟩ := explD_facts (L := L) h0 hP
 unfold explD
 rw [e]
 simpa [detOf] using h3
theorem explD_marks {Q : Int → Prop} {m : List K} (h0 : k0 ∈ m) (hP : ∀ k a, k ∈ m → a < L → go k a ∈ m) (hQ : ∀ k ∈ m, Q (mark k)) : ∀ x ∈ (explD go mark L k0).fMark, Q x := fun x hx => by
 obtain ⟨l, e, _, h4, _⟩ := explD_facts (L := L) h0 hP
 unfold explD at hx
 rw [e] at hx
 obtain ⟨k, hk, rfl⟩ := List.mem_map.1 hx
 exact hQ k (h4 k hk)
end
section
variable {K : Type} [DecidableEq K] {go : K → Nat → K} {mark : K → Int} {L : Nat} {k0 : K} {P : K → Prop}
theorem growTo_mono {k : K} {l : List K} {a : Nat} : ∀ {b : Nat}, a ≤ b → ∃ r, growTo go k b l = growTo go k a l ++ r
 | 0, h => by
  obtain rfl : a = 0 := by omega
  exact ⟨[], by simp⟩
 | b + 1, h => by
  by_cases e : a = b + 1
  ·subst e; exact ⟨[], by simp⟩
  ·obtain ⟨r, hr⟩ := growTo_mono (k := k) (l := l) (a := a) (b := b) (by omega)
   rw [growTo]
   split
   ·exact ⟨r, hr⟩
   ·exact ⟨r ++ [go k b], by rw [hr, List.append_assoc]⟩
theorem expl_fails {i a : Nat} {e : K} {limit : Int} (he : (expl go L k0 i)[i]? = some e) (ha : a < L) (hn : go e a ∉ growTo go e a (expl go L k0 i)) (hl : ((growTo go e a (expl go L k0 i)).length : Int) = limit) : ¬ ∃ n : Nat, (expl go L k0 n).length = n ∧ (n : Int) ≤ limit := by
 rintro ⟨n, h1, h2⟩
 have hi := (List.getElem?_eq_some_iff.1 he).1
 have h3 : expl go L k0 (i + 1) = growTo go e L (expl go L k0 i) := by rw [expl, he]
 have h4 : growTo go e (a + 1) (expl go L k0 i) = growTo go e a (expl go L k0 i) ++ [go e a] := by rw [growTo, if_neg hn]
 obtain ⟨r, hr⟩ := growTo_mono (go := go) (k := e) (l := expl go L k0 i) (show a + 1 ≤ L from ha)
 have h5 : (expl go L k0 (i + 1)).length = (growTo go e a (expl go L k0 i)).length + 1 + r.length := by
  rw [h3, hr, h4]
  simp
  omega
 rcases Nat.lt_or_ge n (i + 1) with h | h
 ·have := expl_stop (go := go) (L := L) (k0 := k0) (i := n) (by omega) (j := i) (by omega)
  rw [this] at hi
  omega
 ·have := expl_mono (go := go) (L := L) (k0 := k0) h
  omega
def MapOf (m : List (K × Int)) (l : List K) : Prop := ∀ k, mget k m = if k ∈ l then some (l.idxOf k : Int) else none
theorem MapOf.one : MapOf (mput k0 0 ([] : List (K × Int))) [k0] := fun k => by
 rw [mget_put]
 by_cases h : k = k0
 ·subst h; simp
 ·simp [h, mget]
theorem idxOf_last {l : List K} {k : K} (h : k ∉ l) : (l ++ [k]).idxOf k = l.length := by
 induction l with
 | nil => simp
 | cons x l ih =>
  have h1 : x ≠ k := fun e => h (e ▸ List.mem_cons_self)
  have h2 : k ∉ l := fun e => h (List.mem_cons_of_mem _ e)
  rw [List.cons_append, List.idxOf_cons, ih h2, show (x == k) = false by simpa using h1]
  simp
theorem MapOf.push {m : List (K × Int)} {l : List K} (h : MapOf m l) {k : K} (hk : k ∉ l) : MapOf (mput k (l.length : Int) m) (l ++ [k]) := fun q => by
 rw [mget_put]
 by_cases e : q = k
 ·subst e
  simp [idxOf_last hk]
 ·rw [if_neg e, h q]
  by_cases hq : q ∈ l
  ·rw [if_pos hq, if_pos (List.mem_append_left _ hq), idxOf_left hq]
  ·rw [if_neg hq, if_neg (by simp [hq, e])]
theorem rowOf_left {l r : List K} {k : K} (h : ∀ a, a < L → go k a ∈ l) : rowOf go L (l ++ r) k = rowOf go L l k := by
 unfold rowOf
 refine List.map_congr_left fun a ha => ?_
 rw [idxOf_left (h a (List.mem_range.1 ha))]
theorem set_row {α : Type} (f : Nat → α) (z : α) {a L : Nat} (h : a < L) : (((List.range a).map f) ++ List.replicate (L - a) z).set a (f a) = (List.range (a + 1)).map f ++ List.replicate (L - (a + 1)) z := by
 refine List.ext_getElem? fun i => ?_
 rw [List.getElem?_set]
 by_cases e : a = i
 ·subst e
  rw [if_pos rfl, if_pos (by simp; omega), List.getElem?_append_left (by simp), List.getElem?_map, List.getElem?_range (by omega)]
  rfl
 ·rw [if_neg e]
  by_cases h1 : i < a
  ·rw [List.getElem?_append_left (by simpa using h1), List.getElem?_append_left (by simp; omega), List.getElem?_map, List.getElem?_map, List.getElem?_range h1, List.getElem?_range (by omega)]
  ·rw [List.getElem?_append_right (by simp; omega), List.getElem?_append_right (by simp; omega), List.getElem?_replicate, List.getElem?_replicate]
   simp only [List.length_map, List.length_range]
   by_cases h2 : i < L
   ·rw [if_pos (by omega), if_pos (by omega)]
   ·rw [if_neg (by omega), if_neg (by omega)]
end
theorem explore_plain {K : Type} [DecidableEq K] (letters : Int) (start : K) (domgo : (K × Int) → Prop) (go : (K × Int) → K) (dommark : K → Prop) (mark : K → Int) (limit : Int) (b : Nat) (Q : (ApiDet × Bool) → Prop)
  (P : K → Prop) (h0 : P start) (hP : ∀ k (a : Nat), P k → (a : Int) < letters → domgo (k, (a : Int)) ∧ P (go (k, (a : Int)))) (hm : ∀ k, P k → dommark k) (hl : 0 ≤ letters ∧ letters ≤ 1000) (hlim : 1 ≤ limit ∧ limit ≤ 2097152) (hb : b ≤ 64)
  (hQ : Q (explR (fun k (a : Nat) => go (k, (a : Int))) mark letters.toNat start limit)) :
 ∃ (Inv : (List (K × Int)) → (List K) → (List (List Int)) → (List Int) → Prop) (mu : (List (K × Int)) → (List K) → (List (List Int)) → (List Int) → Nat), Inv (mput start 0 ([] : List (K × Int))) ([start] : List K) ([] : List (List Int)) ([] : List Int) ∧
 ∀ (m2 : List (K × Int)) (l3 : List K) (l6 : List (List Int)) (l7 : List Int) , Inv m2 l3 l6 l7 → (IfP (decide ((l6.length : Int) < (l3.length : Int))) (∃ e, idx l3 (l6.length : Int) = some e ∧
 makeOk letters letters 8 ∧
 ∃ (Inv_2 : Int → (List (K × Int)) → (List K) → (List Int) → Prop) (mu_2 : Int → (List (K × Int)) → (List K) → (List Int) → Nat), Inv_2 0 m2 l3 (List.replicate (letters).toNat (0 : Int)) ∧
 ∀ (x43 : Int) (m2_2 : List (K × Int)) (l3_2 : List K) (l8 : List Int) , Inv_2 x43 m2_2 l3_2 l8 → (IfP (decide (x43 < letters)) ((domgo (e, x43)) ∧
 ∃ J : Int → (List (K × Int)) → (List K) → Prop, (IfP (!(mget (go (e, x43)) m2_2).isSome) (IfP ((l3_2.length : Int) == limit) (Q ((ApiDet.mk 0 0 [] []), false)) (capOk l3_2.length (([(go (e, x43))] : List K) : List K).length b ∧
 J (l3_2.length : Int) (mput (go (e, x43)) (l3_2.length : Int) m2_2) (l3_2 ++ ([(go (e, x43))] : List K)))) (J ((mget (go (e, x43)) m2_2).getD (0 : Int)) m2_2 l3_2)) ∧
 (∀ (x19 : Int) (m2_3 : List (K × Int)) (l3_3 : List K), J x19 m2_3 l3_3 → ∃ e_2, idx l8 x43 = some e_2 ∧
 (Inv_2 (wr (x43 + 1)) m2_3 l3_3 (l8.set (x43).toNat x19) ∧ mu_2 (wr (x43 + 1)) m2_3 l3_3 (l8.set (x43).toNat x19) < mu_2 x43 m2_2 l3_2 l8))) (capOk l6.length (([l8] : List (List Int)) : List (List Int)).length 24 ∧
 (dommark e) ∧
 capOk l7.length (([(mark e)] : List Int) : List Int).length 8 ∧
 (Inv m2_2 l3_2 (l6 ++ ([l8] : List (List Int))) (l7 ++ ([(mark e)] : List Int)) ∧ mu m2_2 l3_2 (l6 ++ ([l8] : List (List Int))) (l7 ++ ([(mark e)] : List Int)) < mu m2 l3 l6 l7)))) (Q ((ApiDet.mk letters 0 l6 l7), true))) := by
 obtain ⟨L, rfl⟩ : ∃ L : Nat, letters = L := ⟨letters.toNat, by omega⟩
 rw [Int.toNat_natCast] at hQ ⊢
 generalize hg : (fun (k : K) (a : Nat) => go (k, (a : Int))) = g at hQ
 have hgo : ∀ k (a : Nat), go (k, (a : Int)) = g k a := fun k a => by rw [← hg]
 have hPg : ∀ k a, P k → a < L → P (g k a) := fun k a hk ha => by rw [← hgo]; exact (hP k a hk (by omega)).2
 have hin : ∀ i k, k ∈ expl g L start i → P k := fun i k hk => expl_in h0 hPg hk
 refine ⟨fun m2 l3 l6 l7 => ∃ i : Nat, l6.length = i ∧ l7.length = i ∧ l3 = expl g L start i ∧ i ≤ l3.length ∧ (l3.length : Int) ≤ limit ∧ MapOf m2 l3 ∧ l6 = (l3.take i).map (rowOf g L l3) ∧ l7 = (l3.take i).map mark ∧ ∀ k ∈ l3.take i, ∀ a, a < L → g k a ∈ l3,
  fun m2 l3 l6 l7 => (limit + 1).toNat - l6.length, ⟨0, rfl, rfl, rfl, by simp, by simp; omega, MapOf.one, rfl, rfl, fun k hk => by simp at hk⟩, ?_⟩
 rintro m2 l3 l6 l7 ⟨i, hi1, hi1', hl3, hi2, hi3, hmap, hl6, hl7, hcl⟩
 refine ⟨fun hlt => ?_, fun hge => ?_⟩
 ·have hlt : i < l3.length := by
   have := of_decide_eq_true hlt
   omega
  have he : l3[i]? = some l3[i] := List.getElem?_eq_getElem hlt
  generalize l3[i] = e at he
  have hPe : P e := hin i e (hl3 ▸ List.mem_of_getElem? he)
  refine ⟨e, by simp [idx, hi1, he], ⟨by omega, by omega, by omega⟩, fun x m l row => ∃ a : Nat, x = a ∧ a ≤ L ∧ l = growTo g e a l3 ∧ MapOf m l ∧ (l.length : Int) ≤ limit ∧ row = (List.range a).map (fun c => (l.idxOf (g e c) : Int)) ++ List.replicate (L - a) 0, fun x _ _ _ => L - x.toNat,
   ⟨0, rfl, Nat.zero_le _, rfl, hmap, hi3, by simp⟩, ?_⟩
  rintro x m l row ⟨a, rfl, ha, hlg, hm2, hl2, hrow⟩
  refine ⟨fun hlt2 => ?_, fun hge2 => ?_⟩
  ·have ha : a < L := by
    have := of_decide_eq_true hlt2
    omega
   refine ⟨(hP e a hPe (by omega)).1, fun x19 m3 l4 => l4 = growTo g e (a + 1) l3 ∧ MapOf m3 l4 ∧ (l4.length : Int) ≤ limit ∧ x19 = (l4.idxOf (g e a) : Int) ∧ ∃ r, l4 = l ++ r, ?_, ?_⟩
   ·rw [hgo]
    by_cases hmem : g e a ∈ l
    ·have h1 : mget (g e a) m = some (l.idxOf (g e a) : Int) := by rw [hm2, if_pos hmem]
     rw [h1]
     refine ⟨fun h => (by cases h), fun _ => ⟨?_, hm2, hl2, rfl, [], by simp⟩⟩
     rw [growTo, ← hlg, if_pos hmem]
    ·have h1 : mget (g e a) m = none := by rw [hm2, if_neg hmem]
     rw [h1]
     refine ⟨fun _ => ⟨fun hfull => ?_, fun hroom => ⟨?_, ?_, hm2.push hmem, ?_, ?_, [g e a], rfl⟩⟩, fun h => (by cases h)⟩
     ·have hfull : (l.length : Int) = limit := by simpa using hfull
      have hf := expl_fails (go := g) (L := L) (k0 := start) (i := i) (a := a) (e := e) (limit := limit) (by rw [← hl3]; exact he) ha (by rw [← hl3, ← hlg]; exact hmem) (by rw [← hl3, ← hlg]; exact hfull)
      have : explR g mark L start limit = (⟨0, 0, [], []⟩, false) := by
       unfold explR
       rw [if_neg hf]
      rw [this] at hQ
      exact hQ
     ·unfold capOk
      simp only [List.length_cons, List.length_nil]
      have h64 : (l.length + (0 + 1)) * b ≤ (l.length + 1) * 64 := Nat.mul_le_mul_left _ hb
      omega
     ·rw [growTo, ← hlg, if_neg hmem]
     ·have hne : (l.length : Int) ≠ limit := by simpa using hroom
      rw [List.length_append]
      simp only [List.length_cons, List.length_nil]
      omega
     ·rw [idxOf_last hmem]
   ·rintro x19 m3 l4 ⟨hl4, hm4, hl5, rfl, r, hr⟩
    have hlen : row.length = L := by
     rw [hrow]
     simp
     omega
    refine ⟨row[a]'(by omega), by simp [idx, hlen, ha], ⟨a + 1, ?_, by omega, hl4, hm4, hl5, ?_⟩, ?_⟩
    ·rw [wr_in (by omega) (by omega)]
     omega
    ·rw [Int.toNat_natCast]
     have hst : ∀ c, c < a → l4.idxOf (g e c) = l.idxOf (g e c) := fun c hc => by
      rw [hr, idxOf_left]
      rw [hlg]
      exact growTo_mem.2 (.inr ⟨c, hc, rfl⟩)
     have : row = (List.range a).map (fun c => (l4.idxOf (g e c) : Int)) ++ List.replicate (L - a) 0 := by
      rw [hrow]
      congr 1
      refine List.map_congr_left fun c hc => ?_
      rw [hst c (List.mem_range.1 hc)]
     rw [this]
     exact set_row (fun c => (l4.idxOf (g e c) : Int)) 0 ha
    ·rw [wr_in (by omega) (by omega)]
     simp only
     omega
  ·obtain rfl : a = L := by
    have := of_decide_eq_false hge2
    omega
   have hnext : l = expl g a start (i + 1) := by rw [expl, ← hl3, he, hlg]
   obtain ⟨r, hr⟩ := growTo_app (go := g) e a l3
   rw [← hlg] at hr
   have htake : l.take (i + 1) = l3.take i ++ [e] := by
    rw [hr, List.take_append_of_le_length (by omega), List.take_add_one, he]
    rfl
   have hrow' : row = rowOf g a l e := by
    rw [hrow]
    simp [rowOf]
   have hcl' : ∀ k ∈ l.take (i + 1), ∀ c, c < a → g k c ∈ l := fun k hk c hc => by
    rw [htake, List.mem_append, List.mem_singleton] at hk
    rcases hk with hk | rfl
    ·rw [hr]
     exact List.mem_append_left _ (hcl k hk c hc)
    ·rw [hlg]
     exact growTo_mem.2 (.inr ⟨c, hc, rfl⟩)
   have hge : i + 1 ≤ l.length := by
    rw [hr, List.length_append]
    omega
   refine ⟨?_, hm e hPe, ?_, ⟨i + 1, by simp [hi1], by simp [hi1'], hnext, hge, hl2, hm2, ?_, ?_, hcl'⟩, ?_⟩
   ·unfold capOk
    simp only [List.length_cons, List.length_nil]
    omega
   ·unfold capOk
    simp only [List.length_cons, List.length_nil]
    omega
   ·rw [htake, List.map_append, hl6, hrow', List.map_cons, List.map_nil]
    congr 1
    refine List.map_congr_left fun k hk => ?_
    rw [hr]
    exact (rowOf_left (hcl k hk)).symm
   ·rw [htake, List.map_append, hl7]
    rfl
   ·simp only [List.length_append, List.length_cons, List.length_nil]
    omega
 ·have hge : l3.length = i := by
   have := of_decide_eq_false hge
   omega
  have hdone : (expl g L start i).length = i := by rw [← hl3]; exact hge
  have : explR g mark L start limit = (⟨L, 0, l6, l7⟩, true) := by
   unfold explR
   rw [if_pos ⟨i, hdone, by omega⟩]
   unfold explD
   rw [explL_eq hdone, ← hl3]
   have ht : l3.take i = l3 := by rw [← hge]; exact List.take_length
   rw [ht] at hl6 hl7
   rw [hl6, hl7]
   rfl
  rw [this] at hQ
  exact hQ
theorem onto_inj {m : Nat} {f : Nat → Nat} (hon : ∀ j, j < m → ∃ i, i < m ∧ f i = j) {i j : Nat} (hi : i < m) (hj : j < m) (h : f i = f j) : i = j := by
 refine Decidable.byContradiction fun hne => ?_
 have := nodup_le (l := List.range m) (m := ((List.range m).erase i).map f) List.nodup_range fun x hx => by
  obtain ⟨q, hq, rfl⟩ := hon x (List.mem_range.1 hx)
  rw [List.mem_map]
  by_cases e : q = i
  ·subst e
   exact ⟨j, (List.mem_erase_of_ne (fun e => hne e.symm)).2 (List.mem_range.2 hj), h.symm⟩
  ·exact ⟨q, (List.mem_erase_of_ne e).2 (List.mem_range.2 hq), rfl⟩
 rw [List.length_range, List.length_map, List.length_erase_of_mem (List.mem_range.2 hi), List.length_range] at this
 omega
theorem onto_le {k m : Nat} {f : Nat → Nat} (hon : ∀ j, j < k → ∃ i, i < m ∧ f i = j) : k ≤ m := by
 have := nodup_le (l := List.range k) (m := (List.range m).map f) List.nodup_range fun x hx => by
  obtain ⟨q, hq, rfl⟩ := hon x (List.mem_range.1 hx)
  exact List.mem_map.2 ⟨q, List.mem_range.2 hq, rfl⟩
 simpa using this
def two8 (c : Int) : List Int := [c % 256, c / 256 % 256]
theorem two8_inj {c d : Int} (hc : 0 ≤ c ∧ c < 65536) (hd : 0 ≤ d ∧ d < 65536) (h : two8 c = two8 d) : c = d := by
 unfold two8 at h
 simp only [List.cons.injEq] at h
 omega
theorem two8_in {c : Int} : ∀ x ∈ two8 c, 0 ≤ x ∧ x < 256 := by
 intro x hx
 unfold two8 at hx
 simp only [List.mem_cons, List.not_mem_nil, or_false] at hx
 omega
theorem two8_eq (c : Int) : [IntKind.wrap .u8 c, IntKind.wrap .u8 (Int.fdiv c (2 ^ (min 8 64)))] = two8 c := by
 have h : ((2 : Int) ^ (min 8 64)) = 256 := by decide
 rw [h, IntKind.wrap_u8, IntKind.wrap_u8, Int.fdiv_eq_ediv_of_nonneg _ (by omega)]
 rfl
theorem twos_inj : ∀ {l m : List Int}, (∀ x ∈ l, 0 ≤ x ∧ x < 65536) → (∀ x ∈ m, 0 ≤ x ∧ x < 65536) → l.flatMap two8 = m.flatMap two8 → l = m
 | [], [], _, _, _ => rfl
 | [], _ :: _, _, _, h => by simp [two8] at h
 | _ :: _, [], _, _, h => by simp [two8] at h
 | x :: l, y :: m, hl, hm, h => by
  rw [List.flatMap_cons, List.flatMap_cons] at h
  have h1 := List.append_inj h (by simp [two8])
  rw [two8_inj (hl x List.mem_cons_self) (hm y List.mem_cons_self) h1.1, twos_inj (fun z hz => hl z (List.mem_cons_of_mem _ hz)) (fun z hz => hm z (List.mem_cons_of_mem _ hz)) h1.2]
theorem twos_in {l : List Int} : ∀ x ∈ l.flatMap two8, 0 ≤ x ∧ x < 256 := fun x hx => by
 obtain ⟨c, _, h⟩ := List.mem_flatMap.1 hx
 exact two8_in x h
def rowCls (cls : List Int) (r : List Int) : List Int := r.map fun t => cls.getD t.toNat 0
def keyOf (cls : List Int) (q : Nat) (r : List Int) : DetSplit := ⟨cls.getD q 0, bytesOf ((rowCls cls r).flatMap two8)⟩
structure RoundOf (N : List (List Int)) (cls next : List Int) (m : Nat) : Prop where
 len : next.length = N.length
 range : ∀ x ∈ next, 0 ≤ x ∧ x < (m : Int)
 onto : ∀ j : Nat, j < m → (j : Int) ∈ next
 same : ∀ (p q : Nat) (r s : List Int) (x y : Int), N[p]? = some r → N[q]? = some s → next[p]? = some x → next[q]? = some y → (x = y ↔ keyOf cls p r = keyOf cls q s)
structure ClsPre (d : ApiDet) : Prop where
 size : d.fNext.length ≤ 65536
 next : ∀ r ∈ d.fNext, ∀ x ∈ r, 0 ≤ x ∧ x < (d.fNext.length : Int)
 wide : ∀ r ∈ d.fNext, r.length ≤ 1000
 marks : d.fMark.length = d.fNext.length
 small : ∀ x ∈ d.fMark, 0 ≤ x ∧ x < 65536
structure Half (N : List (List Int)) (cls : List Int) (q : Nat) (m2 : List (DetSplit × Int)) (next : List Int) : Prop where
 len : next.length = N.length
 get : ∀ (p : Nat) (r : List Int), p < q → N[p]? = some r → ∃ x : Int, next[p]? = some x ∧ mget (keyOf cls p r) m2 = some x
 range : ∀ (k : DetSplit) (x : Int), mget k m2 = some x → 0 ≤ x ∧ x < (m2.length : Int)
 inj : ∀ (k l : DetSplit) (x : Int), mget k m2 = some x → mget l m2 = some x → k = l
 onto : ∀ j : Nat, j < m2.length → ∃ p : Nat, p < q ∧ next[p]? = some (j : Int)
 size : m2.length ≤ q
theorem mput_length {κ : Type} [DecidableEq κ] {a : κ} {v : Int} : ∀ {D : List (κ × Int)}, mget a D = none → (mput a v D).length = D.length + 1
 | [], _ => rfl
 | x :: D, h => by
  rw [mget] at h
  split at h
  ·cases h
  ·rename_i e
   rw [mput, if_neg e, List.length_cons, mput_length h, List.length_cons]
theorem Half.start {N : List (List Int)} {cls next : List Int} (h : next.length = N.length) : Half N cls 0 [] next :=
 ⟨h, fun p r hp => absurd hp (Nat.not_lt_zero _), fun k x e => by simp [mget] at e, fun k l x e => by simp [mget] at e, fun j hj => by simp at hj, Nat.le_refl _⟩
theorem Half.known {N : List (List Int)} {cls next : List Int} {q : Nat} {m2 : List (DetSplit × Int)} (h : Half N cls q m2 next) {r : List Int} (hr : N[q]? = some r) {x : Int} (hx : mget (keyOf cls q r) m2 = some x) : Half N cls (q + 1) m2 (next.set q x) := by
 have hq : q < next.length := by rw [h.len]; exact (List.getElem?_eq_some_iff.1 hr).1
 refine ⟨by simp [h.len], fun p s hp hs => ?_, h.range, h.inj, fun j hj => ?_, Nat.le_succ_of_le h.size⟩
 ·by_cases e : p = q
  ·subst e
   rw [hr] at hs
   cases hs
   exact ⟨x, by rw [List.getElem?_set_self hq], hx⟩
  ·obtain ⟨y, h1, h2⟩ := h.get p s (by omega) hs
   exact ⟨y, by rw [List.getElem?_set_ne (Ne.symm e)]; exact h1, h2⟩
 ·obtain ⟨p, h1, h2⟩ := h.onto j hj
  exact ⟨p, by omega, by rw [List.getElem?_set_ne (by omega)]; exact h2⟩
theorem Half.new {N : List (List Int)} {cls next : List Int} {q : Nat} {m2 : List (DetSplit × Int)} (h : Half N cls q m2 next) {r : List Int} (hr : N[q]? = some r) (hx : mget (keyOf cls q r) m2 = none) : Half N cls (q + 1) (mput (keyOf cls q r) (m2.length : Int) m2) (next.set q (m2.length : Int)) := by
 have hq : q < next.length := by rw [h.len]; exact (List.getElem?_eq_some_iff.1 hr).1
 have hl := mput_length (v := (m2.length : Int)) hx
 refine ⟨by simp [h.len], fun p s hp hs => ?_, fun k x e => ?_, fun k l x e1 e2 => ?_, fun j hj => ?_, by rw [hl]; have := h.size; omega⟩
 ·by_cases e : p = q
  ·subst e
   rw [hr] at hs
   cases hs
   exact ⟨_, by rw [List.getElem?_set_self hq], by rw [mget_put, if_pos rfl]⟩
  ·obtain ⟨y, h1, h2⟩ := h.get p s (by omega) hs
   refine ⟨y, by rw [List.getElem?_set_ne (Ne.symm e)]; exact h1, ?_⟩
   rw [mget_put, if_neg (fun e2 => by rw [e2, hx] at h2; cases h2)]
   exact h2
 ·rw [mget_put] at e
  rw [hl]
  split at e
  ·cases e; omega
  ·have := h.range k x e
   omega
 ·rw [mget_put] at e1 e2
  split at e1 <;> split at e2
  ·rename_i a b; rw [a, b]
  ·cases e1
   have := h.range l _ e2
   omega
  ·cases e2
   have := h.range k _ e1
   omega
  ·exact h.inj k l x e1 e2
 ·rw [hl] at hj
  by_cases e : j = m2.length
  ·subst e
   exact ⟨q, by omega, by rw [List.getElem?_set_self hq]⟩
  ·obtain ⟨p, h1, h2⟩ := h.onto j (by omega)
   exact ⟨p, by omega, by rw [List.getElem?_set_ne (by omega)]; exact h2⟩
theorem Half.round {N : List (List Int)} {cls next : List Int} {m2 : List (DetSplit × Int)} (h : Half N cls N.length m2 next) : RoundOf N cls next m2.length := by
 have hget : ∀ (p : Nat) (r : List Int) (x : Int), N[p]? = some r → next[p]? = some x → mget (keyOf cls p r) m2 = some x := fun p r x h1 h2 => by
  obtain ⟨y, h3, h4⟩ := h.get p r (List.getElem?_eq_some_iff.1 h1).1 h1
  rw [h2] at h3
  cases h3
  exact h4
 refine ⟨h.len, fun x hx => ?_, fun j hj => ?_, fun p q r s x y h1 h2 h3 h4 => ?_⟩
 ·obtain ⟨p, hp⟩ := List.getElem?_of_mem hx
  have hlt := (List.getElem?_eq_some_iff.1 hp).1
  rw [h.len] at hlt
  exact h.range _ x (hget p _ x (List.getElem?_eq_getElem hlt) hp)
 ·obtain ⟨p, _, h2⟩ := h.onto j hj
  exact List.mem_of_getElem? h2
 ·have k1 := hget p r x h1 h3
  have k2 := hget q s y h2 h4
  constructor
  ·rintro rfl
   exact h.inj _ _ x k1 k2
  ·intro e
   rw [e, k2] at k1
   cases k1
   rfl
theorem succ_rs {d : ApiDet} {L p q a : Nat} (h : rs L (langD d p) = rs L (langD d q)) (ha : a < L) : rs L (langD d (stepD d p a)) = rs L (langD d (stepD d q a)) :=
 rs_congr fun w hw => rs_at (w := a :: w) h fun b hb => (List.mem_cons.1 hb).elim (fun e => e ▸ ha) (hw b)
structure ClsInv (d : ApiDet) (L : Nat) (x4 : Int) (cls : List Int) : Prop where
 len : cls.length = d.fNext.length
 range : ∀ x ∈ cls, 0 ≤ x ∧ x < 65536
 sound : ∀ p q, p < d.fNext.length → q < d.fNext.length → rs L (langD d p) = rs L (langD d q) → cls.getD p 0 = cls.getD q 0
 marks : ∀ p q, p < d.fNext.length → q < d.fNext.length → cls.getD p 0 = cls.getD q 0 → d.fMark.getD p 0 = d.fMark.getD q 0
 count : x4 = 0 ∨ ∃ m : Nat, x4 = m ∧ m ≤ d.fNext.length ∧ (∀ x ∈ cls, 0 ≤ x ∧ x < (m : Int)) ∧ ∀ j : Nat, j < m → (j : Int) ∈ cls
theorem getD_mem {α : Type} {l : List α} {i : Nat} {z : α} (h : i < l.length) : l.getD i z ∈ l := by
 rw [List.getD_eq_getElem?_getD, List.getElem?_eq_getElem h]
 exact List.getElem_mem h
theorem getD_some {α : Type} {l : List α} {i : Nat} {z : α} (h : i < l.length) : l[i]? = some (l.getD i z) := by
 rw [List.getD_eq_getElem?_getD, List.getElem?_eq_getElem h]
 rfl
section
variable {d : ApiDet} (hd : ClsPre d) {L : Nat} (hL : ∀ r ∈ d.fNext, r.length = L)
include hd
theorem ClsPre.step {q a : Nat} (hq : q < d.fNext.length) : stepD d q a < d.fNext.length := by
 unfold stepD
 have hr := getD_mem (z := []) hq
 by_cases h : a < (d.fNext.getD q []).length
 ·have := hd.next _ hr _ (getD_mem (z := 0) h)
  omega
 ·rw [List.getD_eq_getElem?_getD (l := d.fNext.getD q []), List.getElem?_eq_none (by omega)]
  simp only [Option.getD_none]
  omega
theorem keyOf_iff {cls : List Int} (hr : ∀ x ∈ cls, 0 ≤ x ∧ x < 65536) (hlen : cls.length = d.fNext.length) {p q : Nat} (hp : p < d.fNext.length) (hq : q < d.fNext.length) (hrows : (d.fNext.getD p []).length = (d.fNext.getD q []).length) :
  keyOf cls p (d.fNext.getD p []) = keyOf cls q (d.fNext.getD q []) ↔ cls.getD p 0 = cls.getD q 0 ∧ ∀ a, a < (d.fNext.getD p []).length → cls.getD (stepD d p a) 0 = cls.getD (stepD d q a) 0 := by
 have hin : ∀ r ∈ d.fNext, ∀ x ∈ rowCls cls r, 0 ≤ x ∧ x < 65536 := fun r hr2 x hx => by
  obtain ⟨t, ht, rfl⟩ := List.mem_map.1 hx
  have := hd.next r hr2 t ht
  exact hr _ (getD_mem (by omega))
 unfold keyOf
 simp only [DetSplit.mk.injEq]
 refine and_congr Iff.rfl ⟨fun h a ha => ?_, fun h => ?_⟩
 ·have h1 := twos_inj (hin _ (getD_mem hp)) (hin _ (getD_mem hq)) (bytesOf_inj twos_in twos_in h)
  have h2 := congrArg (fun l => l[a]?) h1
  simp only [rowCls, List.getElem?_map, getD_some (z := (0 : Int)) ha, getD_some (z := (0 : Int)) (show a < (d.fNext.getD q []).length by omega), Option.map_some, Option.some.injEq] at h2
  exact h2
 ·have : rowCls cls (d.fNext.getD p []) = rowCls cls (d.fNext.getD q []) := by
   unfold rowCls
   refine List.ext_getElem? fun a => ?_
   rw [List.getElem?_map, List.getElem?_map]
   by_cases ha : a < (d.fNext.getD p []).length
   ·rw [getD_some (z := (0 : Int)) ha, getD_some (z := (0 : Int)) (show a < (d.fNext.getD q []).length by omega), Option.map_some, Option.map_some]
    exact congrArg some (h a ha)
   ·rw [List.getElem?_eq_none (by omega), List.getElem?_eq_none (by omega)]
  rw [this]
include hL
theorem ClsInv.next {cls next : List Int} {x4 : Int} {m : Nat} (h : ClsInv d L x4 cls) (hR : RoundOf d.fNext cls next m) (hm : m ≤ d.fNext.length) : ClsInv d L m next := by
 have hrow : ∀ p, p < d.fNext.length → (d.fNext.getD p []).length = L := fun p hp => hL _ (getD_mem hp)
 have key : ∀ p q, p < d.fNext.length → q < d.fNext.length → (next.getD p 0 = next.getD q 0 ↔ cls.getD p 0 = cls.getD q 0 ∧ ∀ a, a < L → cls.getD (stepD d p a) 0 = cls.getD (stepD d q a) 0) := fun p q hp hq => by
  rw [hR.same p q _ _ _ _ (getD_some (z := []) hp) (getD_some (z := []) hq) (getD_some (z := 0) (by rw [hR.len]; exact hp)) (getD_some (z := 0) (by rw [hR.len]; exact hq)), keyOf_iff hd h.range h.len hp hq (by rw [hrow p hp, hrow q hq]), hrow p hp]
 have h65 := hd.size
 refine ⟨hR.len, fun x hx => by have := hR.range x hx; omega, fun p q hp hq hw => ?_, fun p q hp hq e => h.marks p q hp hq ((key p q hp hq).1 e).1, .inr ⟨m, rfl, hm, hR.range, hR.onto⟩⟩
 exact (key p q hp hq).2 ⟨h.sound p q hp hq hw, fun a ha => h.sound _ _ (hd.step hp) (hd.step hq) (succ_rs hw ha)⟩
theorem ClsInv.factor {cls next : List Int} {x4 : Int} {m : Nat} (h : ClsInv d L x4 cls) (hR : RoundOf d.fNext cls next m) : ∃ f : Nat → Nat, ∀ i, i < d.fNext.length → f (next.getD i 0).toNat = (cls.getD i 0).toNat := by
 have hrow : ∀ p, p < d.fNext.length → (d.fNext.getD p []).length = L := fun p hp => hL _ (getD_mem hp)
 have key : ∀ p q, p < d.fNext.length → q < d.fNext.length → next.getD p 0 = next.getD q 0 → cls.getD p 0 = cls.getD q 0 := fun p q hp hq e =>
  ((keyOf_iff hd h.range h.len hp hq (by rw [hrow p hp, hrow q hq])).1 ((hR.same p q _ _ _ _ (getD_some (z := []) hp) (getD_some (z := []) hq) (getD_some (z := 0) (by rw [hR.len]; exact hp)) (getD_some (z := 0) (by rw [hR.len]; exact hq))).1 e)).1
 have hx : ∀ j : Nat, j < m → ∃ i : Nat, i < d.fNext.length ∧ next.getD i 0 = (j : Int) := fun j hj => by
  obtain ⟨i, hi⟩ := List.getElem?_of_mem (hR.onto j hj)
  have hlt := (List.getElem?_eq_some_iff.1 hi).1
  exact ⟨i, by rw [hR.len] at hlt; exact hlt, by simp [hi]⟩
 refine ⟨fun j => if hj : j < m then (cls.getD (hx j hj).choose 0).toNat else 0, fun i hi => ?_⟩
 have hr := hR.range _ (getD_mem (l := next) (z := 0) (by rw [hR.len]; exact hi))
 have hj : (next.getD i 0).toNat < m := by omega
 show (if hj : _ then _ else _) = _
 rw [dif_pos hj]
 obtain ⟨k1, k2⟩ := (hx _ hj).choose_spec
 rw [key _ i k1 hi (by rw [k2]; omega)]
theorem ClsInv.le {cls next : List Int} {x4 : Int} {m : Nat} (h : ClsInv d L x4 cls) (hR : RoundOf d.fNext cls next m) : x4 ≤ m := by
 rcases h.count with h0 | ⟨m', h1, h2, h3, h4⟩
 ·omega
 ·obtain ⟨f, hf⟩ := h.factor hd hL hR
  have := onto_le (k := m') (m := m) (f := f) fun j hj => by
   obtain ⟨i, hi⟩ := List.getElem?_of_mem (h4 j hj)
   have hlt := (List.getElem?_eq_some_iff.1 hi).1
   rw [h.len] at hlt
   have hr := hR.range _ (getD_mem (l := next) (z := 0) (by rw [hR.len]; exact hlt))
   refine ⟨(next.getD i 0).toNat, by omega, ?_⟩
   rw [hf i hlt]
   simp [hi]
  omega
theorem ClsInv.ends {cls next : List Int} {x4 : Int} {m : Nat} (h : ClsInv d L x4 cls) (hR : RoundOf d.fNext cls next m) (hm : m ≤ d.fNext.length) (he : (m : Int) = x4) : ∀ p q, p < d.fNext.length → q < d.fNext.length → (next.getD p 0 = next.getD q 0 ↔ rs L (langD d p) = rs L (langD d q)) := by
 have hrow : ∀ p, p < d.fNext.length → (d.fNext.getD p []).length = L := fun p hp => hL _ (getD_mem hp)
 have key : ∀ p q, p < d.fNext.length → q < d.fNext.length → (next.getD p 0 = next.getD q 0 ↔ cls.getD p 0 = cls.getD q 0 ∧ ∀ a, a < L → cls.getD (stepD d p a) 0 = cls.getD (stepD d q a) 0) := fun p q hp hq => by
  rw [hR.same p q _ _ _ _ (getD_some (z := []) hp) (getD_some (z := []) hq) (getD_some (z := 0) (by rw [hR.len]; exact hp)) (getD_some (z := 0) (by rw [hR.len]; exact hq)), keyOf_iff hd h.range h.len hp hq (by rw [hrow p hp, hrow q hq]), hrow p hp]
 intro p q hp hq
 -- no class was split
 have stay : ∀ p q, p < d.fNext.length → q < d.fNext.length → cls.getD p 0 = cls.getD q 0 → next.getD p 0 = next.getD q 0 := by
  intro p q hp hq e
  have hnp := hR.range _ (getD_mem (l := next) (z := 0) (by rw [hR.len]; exact hp))
  have hnq := hR.range _ (getD_mem (l := next) (z := 0) (by rw [hR.len]; exact hq))
  rcases h.count with h0 | ⟨m', h1, h2, h3, h4⟩
  ·omega
  ·have hmm : m' = m := by omega
   subst hmm
   obtain ⟨f, hf⟩ := h.factor hd hL hR
   have hon : ∀ j, j < m' → ∃ i, i < m' ∧ f i = j := fun j hj => by
    obtain ⟨i, hi⟩ := List.getElem?_of_mem (h4 j hj)
    have hlt := (List.getElem?_eq_some_iff.1 hi).1
    rw [h.len] at hlt
    have hr := hR.range _ (getD_mem (l := next) (z := 0) (by rw [hR.len]; exact hlt))
    refine ⟨(next.getD i 0).toNat, by omega, ?_⟩
    rw [hf i hlt]
    simp [hi]
   have := onto_inj hon (i := (next.getD p 0).toNat) (j := (next.getD q 0).toNat) (by omega) (by omega) (by rw [hf p hp, hf q hq, e])
   omega
 constructor
 ·intro e
  have go : ∀ (w : List Nat) (p q : Nat), p < d.fNext.length → q < d.fNext.length → next.getD p 0 = next.getD q 0 → (∀ a ∈ w, a < L) → langD d p w = langD d q w := by
   intro w
   induction w with
   | nil => exact fun p q hp hq e _ => h.marks p q hp hq ((key p q hp hq).1 e).1
   | cons a w ih =>
    intro p q hp hq e hw
    exact ih (stepD d p a) (stepD d q a) (hd.step hp) (hd.step hq) (stay _ _ (hd.step hp) (hd.step hq) (((key p q hp hq).1 e).2 a (hw a List.mem_cons_self))) fun b hb => hw b (List.mem_cons_of_mem _ hb)
  exact rs_congr fun w hw => go w p q hp hq e hw
 ·exact fun e => (key p q hp hq).2 ⟨h.sound p q hp hq e, fun a ha => h.sound _ _ (hd.step hp) (hd.step hq) (succ_rs e ha)⟩
end
structure ClsOk (d : ApiDet) : Prop where
 wf : Wf d
 size : d.fNext.length ≤ 65536
 wide : d.fLetters ≤ 1000
 small : ∀ x ∈ d.fMark, 0 ≤ x ∧ x < 65536
theorem ClsOk.pre {d : ApiDet} (h : ClsOk d) : ClsPre d :=
 ⟨h.size, h.wf.next, fun r hr => by have := h.wf.rows r hr; have := h.wide; have := h.wf.letters; omega, h.wf.mark, h.small⟩
structure IsClass (d : ApiDet) (cls : List Int) : Prop where
 len : cls.length = d.fNext.length
 range : ∀ x ∈ cls, 0 ≤ x ∧ x < (d.fNext.length : Int)
 same : ∀ p q, p < d.fNext.length → q < d.fNext.length → (cls.getD p 0 = cls.getD q 0 ↔ rs d.fLetters.toNat (langD d p) = rs d.fLetters.toNat (langD d q))
theorem classes_plain (d : ApiDet) (h : ClsOk d) : classes_vc d (IsClass d) := by
 have hd := h.pre
 have hsz := h.size
 have hL : ∀ r ∈ d.fNext, r.length = d.fLetters.toNat := h.wf.rows
 intro _ _
 refine ⟨by rw [h.wf.mark]; omega, fun x4 l1 => ClsInv d d.fLetters.toNat x4 l1, fun x4 _ => ((d.fNext.length : Int) + 1 - x4).toNat, ⟨h.wf.mark, h.small, fun p q _ _ e => ?_, fun p q _ _ e => e, .inl rfl⟩, ?_⟩
 ·exact rs_at (w := []) e fun b hb => by simp at hb
 intro x4 l1 hI
 refine ⟨⟨by omega, Int.le_refl _, by rw [hI.len]; omega⟩, fun x m next => ∃ q : Nat, x = q ∧ q ≤ d.fNext.length ∧ Half d.fNext l1 q m next, fun x _ _ => d.fNext.length - x.toNat, ⟨0, rfl, Nat.zero_le _, Half.start (by simp [hI.len])⟩, ?_⟩
 rintro x m2 l3 ⟨q, rfl, hq, hH⟩
 refine ⟨fun hb => ?_, fun hb => ?_⟩
 ·have hlt : q < d.fNext.length := by
   have := of_decide_eq_true hb
   omega
  have he : d.fNext[q]? = some d.fNext[q] := List.getElem?_eq_getElem hlt
  generalize d.fNext[q] = e at he
  have hem := List.mem_of_getElem? he
  have hew := hd.wide e hem
  refine ⟨e, by simp [idx, he], fun x l => ∃ a : Nat, x = a ∧ a ≤ e.length ∧ l = ((rowCls l1 e).take a).flatMap two8, fun x _ => e.length - x.toNat, ⟨0, rfl, Nat.zero_le _, by simp⟩, ?_⟩
  rintro x l4 ⟨a, rfl, ha, rfl⟩
  refine ⟨fun hb2 => ?_, fun hb2 => ?_⟩
  ·have hlt2 : a < e.length := by
    have := of_decide_eq_true hb2
    omega
   have hx := hd.next e hem _ (List.getElem_mem hlt2)
   have hg : idx l1 e[a] = some (l1.getD e[a].toNat 0) := by
    unfold idx
    rw [if_pos hx.1]
    exact getD_some (by rw [hI.len]; omega)
   have hlen : (((rowCls l1 e).take a).flatMap two8).length = 2 * a := by
    rw [List.length_flatMap]
    have : (List.map (fun x => (two8 x).length) (List.take a (rowCls l1 e))) = List.replicate a 2 := by
     rw [List.eq_replicate_iff]
     refine ⟨by simp [rowCls]; omega, fun z hz => ?_⟩
     obtain ⟨y, _, rfl⟩ := List.mem_map.1 hz
     rfl
    rw [this]
    simp
    omega
   refine ⟨e[a], by simp [idx, hlt2], _, hg, _, hg, ?_, ?_, ?_⟩
   ·unfold capOk
    rw [hlen]
    simp only [List.length_cons, List.length_nil]
    omega
   ·refine ⟨a + 1, ?_, hlt2, ?_⟩
    ·rw [wr_in (by omega) (by omega)]
     omega
    ·rw [two8_eq, List.take_add_one, List.flatMap_append]
     congr 1
     have : (rowCls l1 e)[a]? = some (l1.getD e[a].toNat 0) := by
      unfold rowCls
      rw [List.getElem?_map, List.getElem?_eq_getElem hlt2]
      rfl
     rw [this]
     simp
   ·rw [wr_in (by omega) (by omega)]
    simp only
    omega
  ·have hae : a = e.length := by
    have := of_decide_eq_false hb2
    omega
   subst hae
   have hall : (rowCls l1 e).take e.length = rowCls l1 e := List.take_of_length_le (by simp [rowCls])
   rw [hall]
   have hq1 : idx l1 (q : Int) = some (l1.getD q 0) := by
    unfold idx
    rw [if_pos (by omega), Int.toNat_natCast]
    exact getD_some (by rw [hI.len]; exact hlt)
   have hkey : (DetSplit.mk (l1.getD q 0) (bytesOf ((rowCls l1 e).flatMap two8))) = keyOf l1 q e := rfl
   refine ⟨l1.getD q 0, hq1, fun m => Half d.fNext l1 (q + 1) m (l3.set q ((mget (keyOf l1 q e) m).getD 0)), ?_, ?_⟩
   ·rw [hkey]
    cases hm : mget (keyOf l1 q e) m2 with
    | none =>
     refine ⟨fun _ => ?_, fun h => (by cases h)⟩
     show Half _ _ _ _ (l3.set q ((mget (keyOf l1 q e) (mput (keyOf l1 q e) (m2.length : Int) m2)).getD 0))
     rw [mget_put, if_pos rfl]
     exact hH.new he hm
    | some y =>
     refine ⟨fun h => (by cases h), fun _ => ?_⟩
     show Half _ _ _ _ (l3.set q ((mget (keyOf l1 q e) m2).getD 0))
     rw [hm]
     exact hH.known he hm
   ·intro m3 hm3
    refine ⟨l3.getD q 0, ?_, ⟨q + 1, ?_, hlt, ?_⟩, ?_⟩
    ·unfold idx
     rw [if_pos (by omega), Int.toNat_natCast]
     exact getD_some (by rw [hH.len]; exact hlt)
    ·rw [wr_in (by omega) (by omega)]
     omega
    ·rw [Int.toNat_natCast, hkey]
     exact hm3
    ·rw [wr_in (by omega) (by omega)]
     simp only
     omega
 ·have hqe : q = d.fNext.length := by
   have := of_decide_eq_false hb
   omega
  subst hqe
  have hR := hH.round
  have hle := hH.size
  refine ⟨fun he => ?_, fun he => ⟨hI.next hd hL hR hle, ?_⟩⟩
  ·have he : (m2.length : Int) = x4 := by simpa using he
   exact ⟨hR.len, fun x hx => by have := hR.range x hx; omega, hI.ends hd hL hR hle he⟩
  ·have he : (m2.length : Int) ≠ x4 := by simpa using he
   have := hI.le hd hL hR
   simp only
   omega
theorem classes_ct (d : ApiDet) (h : ClsOk d) : Ct 127 [.sv (.agg [I d.fLetters, I d.fStart, LS (lsT intT) d.fNext, LS intT d.fMark])] [] (IsClass d) (fun r => .sv (.one (LS intT r))) := classes_walk d _ (classes_plain d h)
end Go.Proofs.Ytobenjahlicnoaa
namespace Go.Proofs.Ytobenjahlicnoaa
open Go.RowKit Go.MapKept
set_option linter.unusedSimpArgs false
set_option linter.unusedVariables false
set_option maxRecDepth 100000
def ExplPre {K : Type} (letters : Int) (start : K) (domgo : (K × Int) → Prop) (go : (K × Int) → K) (dommark : K → Prop) (limit : Int) : Prop :=
 (0 ≤ letters ∧ letters ≤ 1000) ∧ (1 ≤ limit ∧ limit ≤ 2097152) ∧ ∃ P : K → Prop, P start ∧ (∀ k (a : Nat), P k → (a : Int) < letters → domgo (k, (a : Int)) ∧ P (go (k, (a : Int)))) ∧ ∀ k, P k → dommark k
theorem exploreInt_ct (letters : Int) (start : Int) (domgo : ((Int × Int) → Prop)) (go : ((Int × Int) → Int)) (dommark : (Int → Prop)) (mark : (Int → Int)) (limit : Int) (hp : ExplPre letters start domgo go dommark limit) : Ct 74 [.sv (.one (I letters)), .sv (.one (I start)), .sv (.one (.rd (fvR (fun (x : (Int × Int)) => [.sv (.one (I x.1)), .sv (.one (I x.2))]) (fun (r : Int) => .sv (.one (I r))) domgo go))), .sv (.one (.rd (fvR (fun (x : Int) => [.sv (.one (I x))]) (fun (r : Int) => .sv (.one (I r))) dommark mark))), .sv (.one (I limit))] [] (fun (_ : Unit) => True) (fun _ => .tup [.agg [I (explR (fun k (a : Nat) => go (k, (a : Int))) mark letters.toNat start limit).1.fLetters, I (explR (fun k (a : Nat) => go (k, (a : Int))) mark letters.toNat start limit).1.fStart, LS (lsT intT) (explR (fun k (a : Nat) => go (k, (a : Int))) mark letters.toNat start limit).1.fNext, LS intT (explR (fun k (a : Nat) => go (k, (a : Int))) mark letters.toNat start limit).1.fMark], .one (B (explR (fun k (a : Nat) => go (k, (a : Int))) mark letters.toNat start limit).2)]) := by
 refine (exploreInt_walk letters start domgo go dommark mark limit (fun res_ => res_ = (explR (fun k (a : Nat) => go (k, (a : Int))) mark letters.toNat start limit)) ?_).fun
 obtain ⟨h1, h2, P, h3, h4, h5⟩ := hp
 exact explore_plain letters start domgo go dommark mark limit 8 (fun r => r = explR (fun k (a : Nat) => go (k, (a : Int))) mark letters.toNat start limit) P h3 h4 h5 h1 h2 (by decide) rfl
def smGo_vc (k : Int) (a : Int) (cls : List Int) (d : ApiDet) (back : List Int) (Q : Int → Prop) : Prop :=
 ∃ e, idx back k = some e ∧
 ∃ e_2, idx d.fNext e = some e_2 ∧
 ∃ e_3, idx e_2 a = some e_3 ∧
 ∃ e_4, idx cls e_3 = some e_4 ∧
 Q e_4
noncomputable abbrev qg0 (cls : List Int) (d : ApiDet) (back : List Int) := ([.box [LS intT cls] 23 true, .box (ApiDet.cl d) 25 true, .box [LS intT back] 23 true] : List Item)
theorem smGo_walk (k : Int) (a : Int) (cls : List Int) (d : ApiDet) (back : List Int) (Q : Int → Prop) (h : smGo_vc k a cls d back Q) : Ct 128 [.sv (.one (I k)), .sv (.one (I a)), .sv (.one (.ptr 0 0)), .sv (.one (.ptr 1 0)), .sv (.one (.ptr 2 0))] [.box [LS intT cls] 23 true, .box [I d.fLetters, I d.fStart, LS (lsT intT) d.fNext, LS intT d.fMark] 25 true, .box [LS intT back] 23 true] Q (fun (r : Int) => .sv (.one (I r))) := by
 have ht := tab_ok
 refine Ct.body Try.func128 rfl rfl rfl rfl (fun c hn => ?_)
 unfold smGo_vc at h
 refine En.sr ?_
 refine WL.rn ht hn 1 ⟨[sl 0 (I k), sl 1 (I a), sl 2 (.ptr 0 0), sl 3 (.ptr 1 0), sl 4 (.ptr 2 0)], (qg0 cls d back)⟩ ?_
 refine En.seq ?_
 refine En.regionS (by kernel_rfl) (by kernel_rfl) ?_
 refine SL.run ht hn 5 ⟨[sl 0 (I k), sl 1 (I a), sl 2 (.ptr 0 0), sl 3 (.ptr 1 0), sl 4 (.ptr 2 0), sl 8 (LS intT cls), sl 9 (.ptr 1 2), sl 10 (LS (lsT intT) d.fNext), sl 11 (LS intT back), sl 12 (I k)], (qg0 cls d back)⟩ (by kernel_rfl) ?_
 obtain ⟨e, he, h⟩ := h
 refine SL.val hn (by rfl) (val_ix (T := intT) (l := back) (i := k) ht rfl he) (by rfl) ?_
 refine SL.val hn (by rfl) (val_ld (s := .one (I e)) ht rfl) (by rfl) ?_
 obtain ⟨e_2, he_2, h⟩ := h
 refine SL.val hn (by rfl) (val_ix (T := (lsT intT)) (l := d.fNext) (i := e) ht rfl he_2) (by rfl) ?_
 refine SL.val hn (by rfl) (val_ld (s := .one (LS intT e_2)) ht rfl) (by rfl) ?_
 refine SL.run ht hn 1 ⟨[sl 0 (I k), sl 1 (I a), sl 2 (.ptr 0 0), sl 3 (.ptr 1 0), sl 4 (.ptr 2 0), sl 8 (LS intT cls), sl 9 (.ptr 1 2), sl 10 (LS (lsT intT) d.fNext), sl 11 (LS intT back), sl 12 (I k), sl 13 (.pe (svR (.one (I e))) 1), sl 14 (I e), sl 15 (.pe (svR (.one (LS intT e_2))) 1), sl 16 (LS intT e_2), sl 17 (I a)], (qg0 cls d back)⟩ (by kernel_rfl) ?_
 obtain ⟨e_3, he_3, h⟩ := h
 refine SL.val hn (by rfl) (val_ix (T := intT) (l := e_2) (i := a) ht rfl he_3) (by rfl) ?_
 refine SL.val hn (by rfl) (val_ld (s := .one (I e_3)) ht rfl) (by rfl) ?_
 obtain ⟨e_4, he_4, h⟩ := h
 refine SL.val hn (by rfl) (val_ix (T := intT) (l := cls) (i := e_3) ht rfl he_4) (by rfl) ?_
 refine SL.val hn (by rfl) (val_ld (s := .one (I e_4)) ht rfl) (by rfl) ?_
 refine SL.run ht hn 1 ⟨[sl 0 (I k), sl 1 (I a), sl 2 (.ptr 0 0), sl 3 (.ptr 1 0), sl 4 (.ptr 2 0), sl 7 (I e_4), sl 8 (LS intT cls), sl 9 (.ptr 1 2), sl 10 (LS (lsT intT) d.fNext), sl 11 (LS intT back), sl 12 (I k), sl 13 (.pe (svR (.one (I e))) 1), sl 14 (I e), sl 15 (.pe (svR (.one (LS intT e_2))) 1), sl 16 (LS intT e_2), sl 17 (I a), sl 18 (.pe (svR (.one (I e_3))) 1), sl 19 (I e_3), sl 20 (.pe (svR (.one (I e_4))) 1), sl 21 (I e_4)], (qg0 cls d back)⟩ (by kernel_rfl) ?_
 refine SL.nil ⟨by kernel_rfl, ?_⟩
 exact En.rb ht e_4 h
theorem en128 : ∀ args w, (callFunc 128 args).run Try.prog w = .ok (.enter 128 args) w := enters_of Try.func128 (by kernel_rfl) rfl
def smMark_vc (k : Int) (d : ApiDet) (back : List Int) (Q : Int → Prop) : Prop :=
 ∃ e, idx back k = some e ∧
 ∃ e_2, idx d.fMark e = some e_2 ∧
 Q e_2
theorem smMark_walk (k : Int) (d : ApiDet) (back : List Int) (Q : Int → Prop) (h : smMark_vc k d back Q) : Ct 129 [.sv (.one (I k)), .sv (.one (.ptr 0 0)), .sv (.one (.ptr 1 0))] [.box [I d.fLetters, I d.fStart, LS (lsT intT) d.fNext, LS intT d.fMark] 25 true, .box [LS intT back] 23 true] Q (fun (r : Int) => .sv (.one (I r))) := by
 have ht := tab_ok
 refine Ct.body Try.func129 rfl rfl rfl rfl (fun c hn => ?_)
 unfold smMark_vc at h
 refine En.sr ?_
 refine WL.rn ht hn 1 ⟨[sl 0 (I k), sl 1 (.ptr 0 0), sl 2 (.ptr 1 0)], [.box (ApiDet.cl d) 25 true, .box [LS intT back] 23 true]⟩ ?_
 refine En.seq ?_
 refine En.regionS (by kernel_rfl) (by kernel_rfl) ?_
 refine SL.run ht hn 4 ⟨[sl 0 (I k), sl 1 (.ptr 0 0), sl 2 (.ptr 1 0), sl 5 (.ptr 0 3), sl 6 (LS intT d.fMark), sl 7 (LS intT back), sl 8 (I k)], [.box (ApiDet.cl d) 25 true, .box [LS intT back] 23 true]⟩ (by kernel_rfl) ?_
 obtain ⟨e, he, h⟩ := h
 refine SL.val hn (by rfl) (val_ix (T := intT) (l := back) (i := k) ht rfl he) (by rfl) ?_
 refine SL.val hn (by rfl) (val_ld (s := .one (I e)) ht rfl) (by rfl) ?_
 obtain ⟨e_2, he_2, h⟩ := h
 refine SL.val hn (by rfl) (val_ix (T := intT) (l := d.fMark) (i := e) ht rfl he_2) (by rfl) ?_
 refine SL.val hn (by rfl) (val_ld (s := .one (I e_2)) ht rfl) (by rfl) ?_
 refine SL.run ht hn 1 ⟨[sl 0 (I k), sl 1 (.ptr 0 0), sl 2 (.ptr 1 0), sl 4 (I e_2), sl 5 (.ptr 0 3), sl 6 (LS intT d.fMark), sl 7 (LS intT back), sl 8 (I k), sl 9 (.pe (svR (.one (I e))) 1), sl 10 (I e), sl 11 (.pe (svR (.one (I e_2))) 1), sl 12 (I e_2)], [.box (ApiDet.cl d) 25 true, .box [LS intT back] 23 true]⟩ (by kernel_rfl) ?_
 refine SL.nil ⟨by kernel_rfl, ?_⟩
 exact En.rb ht e_2 h
theorem en129 : ∀ args w, (callFunc 129 args).run Try.prog w = .ok (.enter 129 args) w := enters_of Try.func129 (by kernel_rfl) rfl
def smGo (cls : List Int) (d : ApiDet) (back : List Int) (c a : Int) : Int := cls.getD ((d.fNext.getD (back.getD c.toNat 0).toNat []).getD a.toNat 0).toNat 0
def smDom (cls : List Int) (d : ApiDet) (back : List Int) (c a : Int) : Prop := (0 ≤ c ∧ c < (back.length : Int)) ∧ (0 ≤ back.getD c.toNat 0 ∧ back.getD c.toNat 0 < (d.fNext.length : Int)) ∧ (0 ≤ a ∧ a < ((d.fNext.getD (back.getD c.toNat 0).toNat []).length : Int)) ∧ 0 ≤ (d.fNext.getD (back.getD c.toNat 0).toNat []).getD a.toNat 0 ∧ (d.fNext.getD (back.getD c.toNat 0).toNat []).getD a.toNat 0 < (cls.length : Int)
def smMark (d : ApiDet) (back : List Int) (c : Int) : Int := d.fMark.getD (back.getD c.toNat 0).toNat 0
def smMarkDom (d : ApiDet) (back : List Int) (c : Int) : Prop := (0 ≤ c ∧ c < (back.length : Int)) ∧ 0 ≤ back.getD c.toNat 0 ∧ back.getD c.toNat 0 < (d.fMark.length : Int)
theorem idx_getD {α : Type} {l : List α} {i : Int} (z : α) (h0 : 0 ≤ i) (h1 : i < (l.length : Int)) : idx l i = some (l.getD i.toNat z) := by
 unfold idx
 rw [if_pos h0]
 exact getD_some (by omega)
theorem smGo_ct (k : Int) (a : Int) (cls : List Int) (d : ApiDet) (back : List Int) (hd : smDom cls d back k a) : Ct 128 [.sv (.one (I k)), .sv (.one (I a)), .sv (.one (.ptr 0 0)), .sv (.one (.ptr 1 0)), .sv (.one (.ptr 2 0))] [.box [LS intT cls] 23 true, .box [I d.fLetters, I d.fStart, LS (lsT intT) d.fNext, LS intT d.fMark] 25 true, .box [LS intT back] 23 true] (fun (_ : Unit) => True) (fun _ => .sv (.one (I (smGo cls d back k a)))) := by
 refine (smGo_walk k a cls d back (fun res_ => res_ = (smGo cls d back k a)) ?_).fun
 obtain ⟨⟨h1, h2⟩, ⟨h3, h4⟩, ⟨h5, h6⟩, h7, h8⟩ := hd
 exact ⟨_, idx_getD 0 h1 h2, _, idx_getD [] h3 h4, _, idx_getD 0 h5 h6, _, idx_getD 0 h7 h8, rfl⟩
theorem smMark_ct (k : Int) (d : ApiDet) (back : List Int) (hd : smMarkDom d back k) : Ct 129 [.sv (.one (I k)), .sv (.one (.ptr 0 0)), .sv (.one (.ptr 1 0))] [.box [I d.fLetters, I d.fStart, LS (lsT intT) d.fNext, LS intT d.fMark] 25 true, .box [LS intT back] 23 true] (fun (_ : Unit) => True) (fun _ => .sv (.one (I (smMark d back k)))) := by
 refine (smMark_walk k d back (fun res_ => res_ = (smMark d back k)) ?_).fun
 obtain ⟨⟨h1, h2⟩, h3, h4⟩ := hd
 exact ⟨_, idx_getD 0 h1 h2, _, idx_getD 0 h3 h4, rfl⟩
def smallest_vc (d : ApiDet) (Q : ApiDet → Prop) : Prop :=
 d.fNext.length ≤ 9223372036854775807 →
 d.fMark.length ≤ 9223372036854775807 →
 ((ClsOk d) ∧
 ∀ r : (List Int), (IsClass d) r →
 (makeOk (r.length : Int) (r.length : Int) 8 ∧
 ∃ (Inv : Int → (List Int) → Prop) (mu : Int → (List Int) → Nat), Inv 0 (List.replicate ((r.length : Int)).toNat (0 : Int)) ∧
 ∀ (x16 : Int) (l3 : List Int) , Inv x16 l3 → (IfP (decide (x16 < (r.length : Int))) (∃ e, idx r x16 = some e ∧
 ∃ e_2, idx l3 e = some e_2 ∧
 (Inv (wr (x16 + 1)) (l3.set (e).toNat x16) ∧ mu (wr (x16 + 1)) (l3.set (e).toNat x16) < mu x16 l3)) (∃ e_3, idx r d.fStart = some e_3 ∧
 (ExplPre d.fLetters e_3 (fun (x : Int × Int) => smDom r d l3 x.1 x.2) (fun (x : Int × Int) => smGo r d l3 x.1 x.2) (smMarkDom d l3) (wr ((r.length : Int) + 1))) ∧
 Q (explR (fun k (a : Nat) => (fun (x : Int × Int) => smGo r d l3 x.1 x.2) (k, (a : Int))) (smMark d l3) (d.fLetters).toNat e_3 (wr ((r.length : Int) + 1))).1))))
noncomputable abbrev qi0 := (.box [I 0, I 0, .v (.slice none 0 0), .v (.slice none 0 0)] 25 false : Item)
noncomputable abbrev qi1 (d : ApiDet) (y0) (y1) := ([.box (ApiDet.cl d) 25 false, (qi0), .box [LS intT y0] 23 false, rowI 3 intT y1, .box [.own 3] 23 false] : List Item)
noncomputable abbrev qi2 := sl 1 (.ptr 0 0)
noncomputable abbrev qi3 := sl 2 (.ptr 1 0)
noncomputable abbrev qi4 := sl 3 (.ptr 2 0)
noncomputable abbrev qi5 := sl 4 (.ptr 4 0)
theorem smallest_walk (d : ApiDet) (Q : ApiDet → Prop) (h : smallest_vc d Q) : Ct 77 [.sv (.agg [I d.fLetters, I d.fStart, LS (lsT intT) d.fNext, LS intT d.fMark])] [] Q (fun (r : ApiDet) => .sv (.agg [I r.fLetters, I r.fStart, LS (lsT intT) r.fNext, LS intT r.fMark])) := by
 have ht := tab_ok
 refine Ct.body Try.func77 rfl rfl rfl rfl (fun c hn => ?_)
 unfold smallest_vc at h
 refine En.lenA 0 2 (by rfl) (by rfl) (fun hl => ?_)
 replace h := h hl
 clear hl
 refine En.lenA 0 3 (by rfl) (by rfl) (fun hl => ?_)
 replace h := h hl
 clear hl
 refine En.sr ?_
 refine WL.rn ht hn 2 ⟨[qi2, qi3], [.box (ApiDet.cl d) 25 false, qi0]⟩ ?_
 refine En.sr ?_
 refine WL.r ht hn 1 ⟨[qi2, qi3, (9, .sv (.agg (ApiDet.cl d)))], [.box (ApiDet.cl d) 25 false, qi0]⟩ ?_
 obtain ⟨hp, h⟩ := h
 refine WL.mtQ (Q := IsClass d) (x := fun (r : List Int) => .sv (.one (LS intT r))) (p := fun _ => none) hn (by rfl) (mtq_call (classes_ct d hp) en127 (caps := []) [] rfl (by rfl) (by kernel_rfl) (by kernel_rfl) (by rfl) (fun _ => rfl) (by rfl)) (fun r hr_2 => ⟨by rfl, _, by rfl, ?_⟩)
 replace h := h r hr_2
 refine WL.rn ht hn 2 ⟨[qi2, qi3, qi4], [.box (ApiDet.cl d) 25 false, qi0, .box [LS intT r] 23 false]⟩ ?_
 refine En.sr ?_
 refine WL.r ht hn 2 ⟨[qi2, qi3, qi4, sl 12 (I (r.length : Int))], [.box (ApiDet.cl d) 25 false, qi0, .box [LS intT r] 23 false]⟩ ?_
 obtain ⟨hp, h⟩ := h
 refine WL.mt0 (K := []) (p := some (3, rowI 3 intT (List.replicate (r.length : Int).toNat (0 : Int)))) hn (by rfl) (mt_make (T := intT) (0 : Int) (zv := (.int .i64 0)) 3 (l := (r.length : Int)) (cp := (r.length : Int)) ht rfl (by rfl) (by rfl) (by rfl) (by rfl) (by decide) (by rfl) (by rfl) hp.1 hp.2.1 hp.2.2 (hp.le (by decide)) rfl (fun _ => ⟨rfl, trivial⟩)) (by rfl) (by rfl) (by rfl) ?_
 refine WL.rn ht hn 2 ⟨[qi2, qi3, qi4, qi5], [.box (ApiDet.cl d) 25 false, qi0, .box [LS intT r] 23 false, rowI 3 intT (List.replicate (r.length : Int).toNat (0 : Int)), .box [.own 3] 23 false]⟩ ?_
 refine En.seq ?_
 refine En.sr ?_
 refine WL.rn ht hn 3 ⟨[qi2, qi3, qi4, qi5, sl 14 (LS intT r), sl 15 (I (r.length : Int)), sl 16 (I 0)], [.box (ApiDet.cl d) 25 false, qi0, .box [LS intT r] 23 false, rowI 3 intT (List.replicate (r.length : Int).toNat (0 : Int)), .box [.own 3] 23 false]⟩ ?_
 refine En.block ?_
 obtain ⟨Inv, mu, h0, hI⟩ := h
 refine En.loop (σ := Int × (List Int)) (fun zz => Inv zz.1 zz.2) (fun zz => mu zz.1 zz.2) (fun zz => ⟨[qi2, qi3, qi4, qi5, sl 14 (LS intT r), sl 15 (I (r.length : Int)), sl 16 (I zz.1)], [.box (ApiDet.cl d) 25 false, qi0, .box [LS intT r] 23 false, rowI 3 intT zz.2, .box [.own 3] 23 false]⟩) (0, (List.replicate (r.length : Int).toNat (0 : Int))) h0 (sub_ok (by kernel_rfl)) ?_
 rintro ⟨x16, l3⟩ h
 replace h := hI _ _ h
 show En c ⟨[qi2, qi3, qi4, qi5, sl 14 (LS intT r), sl 15 (I (r.length : Int)), sl 16 (I x16)], (qi1 d r l3)⟩ _
 refine En.sr ?_
 refine WL.rn ht hn 1 ⟨[qi2, qi3, qi4, qi5, sl 14 (LS intT r), sl 15 (I (r.length : Int)), sl 16 (I x16), sl 17 (B (decide (x16 < (r.length : Int))))], (qi1 d r l3)⟩ ?_
 refine En.seq ?_
 refine En.ch h (fun h => ?_) (fun h => ?_)
 refine En.skip ?_
 refine En.seq ?_
 refine En.block ?_
 refine En.sr ?_
 refine WL.r ht hn 1 ⟨[qi2, qi3, qi4, qi5, sl 14 (LS intT r), sl 15 (I (r.length : Int)), sl 16 (I x16), sl 18 (I x16)], (qi1 d r l3)⟩ ?_
 obtain ⟨e, he, h⟩ := h
 refine WL.v hn (val_ix (T := intT) (l := r) (i := x16) ht rfl he) ?_
 refine WL.v hn (val_ld (s := .one (I e)) ht rfl) ?_
 refine WL.rn ht hn 2 ⟨[qi2, qi3, qi4, qi5, sl 5 (I x16), sl 6 (I e), sl 14 (LS intT r), sl 15 (I (r.length : Int)), sl 16 (I x16)], (qi1 d r l3)⟩ ?_
 refine En.region ?_
 refine WL.r ht hn 3 ⟨[qi2, qi3, qi4, qi5, sl 14 (LS intT r), sl 15 (I (r.length : Int)), sl 16 (I x16), sl 21 (.own 3), sl 22 (I e), sl 23 (I x16)], (qi1 d r l3)⟩ ?_
 obtain ⟨e_2, he_2, h⟩ := h
 refine WL.v hn (val_indexO (T := intT) (l := l3) (k := e) ht rfl (by rfl) (by rfl) (by rfl) (by rfl) (by decide) (by rfl) (by rfl) (by rfl) he_2) ?_
 refine WL.storeO (T := intT) (l := l3) (y := x16) ht hn (by rfl) rfl (by rfl) (by rfl) (fun _ h => by cases h) (by rfl) (by rfl) (idx_lt he_2) (by rfl) (by rfl) (by rfl) (by rfl) ?_
 refine WL.nil ?_
 refine En.region ?_
 refine WL.rn ht hn 2 ⟨[qi2, qi3, qi4, qi5, sl 14 (LS intT r), sl 15 (I (r.length : Int)), sl 16 (I (wr (x16 + 1)))], [.box (ApiDet.cl d) 25 false, qi0, .box [LS intT r] 23 false, rowI 3 intT (l3.set (e).toNat x16), .box [.own 3] 23 false]⟩ ?_
 exact En.at (I := fun zz => Inv zz.1 zz.2 ∧ mu zz.1 zz.2 < mu x16 l3) (T := fun zz => ⟨[qi2, qi3, qi4, qi5, sl 14 (LS intT r), sl 15 (I (r.length : Int)), sl 16 (I zz.1)], [.box (ApiDet.cl d) 25 false, qi0, .box [LS intT r] 23 false, rowI 3 intT zz.2, .box [.own 3] 23 false]⟩) ((wr (x16 + 1)), (l3.set (e).toNat x16)) h (by kernel_rfl)
 refine En.exit rfl ?_
 refine En.seq ?_
 refine En.seal (T := intT) (l := l3) (e := 3) 3 rfl ?_
 refine En.freeze [2, 0, 4] (by rfl) ?_
 obtain ⟨e_3, he_3, h⟩ := h
 obtain ⟨hp_2, h⟩ := h
 refine En.regionA ⟨[qi2, qi3, qi4, qi5], [.sv (.one (.ptr 0 0)), .sv (.one (I d.fLetters)), .sv (.one (LS intT r)), .sv (.one (.ptr 0 1)), .sv (.one (I d.fStart)), .sv (.one (.pe (svR (.one (I e_3))) 1)), .sv (.one (I e_3)), .sv (.one (.rd (fvR (fun (x_ : (Int × Int)) => [.sv (.one (I x_.1)), .sv (.one (I x_.2))]) (fun (r : Int) => .sv (.one (I r))) (fun (x : Int × Int) => smDom r d l3 x.1 x.2) (fun (x : Int × Int) => smGo r d l3 x.1 x.2)))), .sv (.one (.rd (fvR (fun (x_ : Int) => [.sv (.one (I x_))]) (fun (r : Int) => .sv (.one (I r))) (smMarkDom d l3) (smMark d l3)))), .sv (.one (LS intT r)), .sv (.one (I (r.length : Int))), .sv (.one (I (wr ((r.length : Int) + 1)))), .tup [.agg (ApiDet.cl (explR (fun k (a : Nat) => (fun (x : Int × Int) => smGo r d l3 x.1 x.2) (k, (a : Int))) (smMark d l3) (d.fLetters).toNat e_3 (wr ((r.length : Int) + 1))).1), .one (B (explR (fun k (a : Nat) => (fun (x : Int × Int) => smGo r d l3 x.1 x.2) (k, (a : Int))) (smMark d l3) (d.fLetters).toNat e_3 (wr ((r.length : Int) + 1))).2)], .tup [.agg (ApiDet.cl (explR (fun k (a : Nat) => (fun (x : Int × Int) => smGo r d l3 x.1 x.2) (k, (a : Int))) (smMark d l3) (d.fLetters).toNat e_3 (wr ((r.length : Int) + 1))).1), .one (B (explR (fun k (a : Nat) => (fun (x : Int × Int) => smGo r d l3 x.1 x.2) (k, (a : Int))) (smMark d l3) (d.fLetters).toNat e_3 (wr ((r.length : Int) + 1))).2)], .sv (.agg (ApiDet.cl (explR (fun k (a : Nat) => (fun (x : Int × Int) => smGo r d l3 x.1 x.2) (k, (a : Int))) (smMark d l3) (d.fLetters).toNat e_3 (wr ((r.length : Int) + 1))).1)), .sv (.one (B (explR (fun k (a : Nat) => (fun (x : Int × Int) => smGo r d l3 x.1 x.2) (k, (a : Int))) (smMark d l3) (d.fLetters).toNat e_3 (wr ((r.length : Int) + 1))).2)), .sv (.one (.ptr 5 0)), .tup [], .sv (.one (B (explR (fun k (a : Nat) => (fun (x : Int × Int) => smGo r d l3 x.1 x.2) (k, (a : Int))) (smMark d l3) (d.fLetters).toNat e_3 (wr ((r.length : Int) + 1))).2))], [⟨.box (ApiDet.cl d) 25 true, none, none, none⟩, ⟨(qi0), none, none, none⟩, ⟨.box [LS intT r] 23 true, none, none, none⟩, ⟨.gone, none, none, none⟩, ⟨.box [LS intT l3] 23 true, none, none, none⟩, ⟨(qi0), some 16, none, some (17, .box (ApiDet.cl (explR (fun k (a : Nat) => (fun (x : Int × Int) => smGo r d l3 x.1 x.2) (k, (a : Int))) (smMark d l3) (d.fLetters).toNat e_3 (wr ((r.length : Int) + 1))).1) 25 false)⟩]⟩ ⟨[qi3, sl 7 (.ptr 5 0)], [.gone, qi0, .gone, .gone, .gone, .box (ApiDet.cl (explR (fun k (a : Nat) => (fun (x : Int × Int) => smGo r d l3 x.1 x.2) (k, (a : Int))) (smMark d l3) (d.fLetters).toNat e_3 (wr ((r.length : Int) + 1))).1) 25 false]⟩ (by kernel_rfl) hn (by kernel_rfl) (by rfl) (by kernel_rfl) ?_ (by kernel_rfl) ?_
 exact ⟨.ev ⟨[qi2], []⟩ ht,
 .ev ⟨[sl 27 (.ptr 0 0)], [.box (ApiDet.cl d) 25 true]⟩ ht,
 .ev ⟨[qi4], [.gone, .gone, .box [LS intT r] 23 true]⟩ ht,
 .ev ⟨[qi2], []⟩ ht,
 .ev ⟨[sl 30 (.ptr 0 1)], [.box (ApiDet.cl d) 25 true]⟩ ht,
 .vl ⟨[sl 29 (LS intT r), sl 31 (I d.fStart)], []⟩ (mt_val (val_ix (T := intT) (l := r) (i := d.fStart) ht rfl he_3)),
 .vl ⟨[sl 32 (.pe (svR (.one (I e_3))) 1)], []⟩ (mt_val (val_ld (s := .one (I e_3)) ht rfl)),
 .mt ⟨[qi2, qi4, qi5], [.box (ApiDet.cl d) 25 true, .gone, .box [LS intT r] 23 true, .gone, .box [LS intT l3] 23 true]⟩ [] none (by kernel_rfl) (by rfl) (mt_fv (x := .sv (.one (.fn 128 [2, 0, 4]))) ht (by kernel_rfl) (fv_of (M := [.box [LS intT r] 23 true, .box (ApiDet.cl d) 25 true, .box [LS intT l3] 23 true]) (caps := [2, 0, 4]) (fun x_ hx => smGo_ct x_.1 x_.2 r d l3 hx) en128 rfl (by kernel_rfl) (by rfl) (fun _ => rfl))) rfl rfl rfl rfl,
 .mt ⟨[qi2, qi5], [.box (ApiDet.cl d) 25 true, .gone, .gone, .gone, .box [LS intT l3] 23 true]⟩ [] none (by kernel_rfl) (by rfl) (mt_fv (x := .sv (.one (.fn 129 [0, 4]))) ht (by kernel_rfl) (fv_of (M := [.box (ApiDet.cl d) 25 true, .box [LS intT l3] 23 true]) (caps := [0, 4]) (fun x_ hx => smMark_ct x_ d l3 hx) en129 rfl (by kernel_rfl) (by rfl) (fun _ => rfl))) rfl rfl rfl rfl,
 .ev ⟨[qi4], [.gone, .gone, .box [LS intT r] 23 true]⟩ ht,
 .ev ⟨[sl 36 (LS intT r)], []⟩ ht,
 .ev ⟨[sl 37 (I (r.length : Int))], []⟩ ht,
 .vl ⟨[sl 28 (I d.fLetters), sl 33 (I e_3), sl 34 (.rd (fvR (fun (x_ : (Int × Int)) => [.sv (.one (I x_.1)), .sv (.one (I x_.2))]) (fun (r : Int) => .sv (.one (I r))) (fun (x : Int × Int) => smDom r d l3 x.1 x.2) (fun (x : Int × Int) => smGo r d l3 x.1 x.2))), sl 35 (.rd (fvR (fun (x_ : Int) => [.sv (.one (I x_))]) (fun (r : Int) => .sv (.one (I r))) (smMarkDom d l3) (smMark d l3))), sl 38 (I (wr ((r.length : Int) + 1)))], []⟩ (mt_c (exploreInt_ct d.fLetters e_3 (fun (x : Int × Int) => smDom r d l3 x.1 x.2) (fun (x : Int × Int) => smGo r d l3 x.1 x.2) (smMarkDom d l3) (smMark d l3) (wr ((r.length : Int) + 1)) hp_2) en74 rfl),
 .ev ⟨[(39, .tup [.agg (ApiDet.cl (explR (fun k (a : Nat) => (fun (x : Int × Int) => smGo r d l3 x.1 x.2) (k, (a : Int))) (smMark d l3) (d.fLetters).toNat e_3 (wr ((r.length : Int) + 1))).1), .one (B (explR (fun k (a : Nat) => (fun (x : Int × Int) => smGo r d l3 x.1 x.2) (k, (a : Int))) (smMark d l3) (d.fLetters).toNat e_3 (wr ((r.length : Int) + 1))).2)])], []⟩ ht,
 .ev ⟨[(26, .tup [.agg (ApiDet.cl (explR (fun k (a : Nat) => (fun (x : Int × Int) => smGo r d l3 x.1 x.2) (k, (a : Int))) (smMark d l3) (d.fLetters).toNat e_3 (wr ((r.length : Int) + 1))).1), .one (B (explR (fun k (a : Nat) => (fun (x : Int × Int) => smGo r d l3 x.1 x.2) (k, (a : Int))) (smMark d l3) (d.fLetters).toNat e_3 (wr ((r.length : Int) + 1))).2)])], []⟩ ht,
 .ev ⟨[(26, .tup [.agg (ApiDet.cl (explR (fun k (a : Nat) => (fun (x : Int × Int) => smGo r d l3 x.1 x.2) (k, (a : Int))) (smMark d l3) (d.fLetters).toNat e_3 (wr ((r.length : Int) + 1))).1), .one (B (explR (fun k (a : Nat) => (fun (x : Int × Int) => smGo r d l3 x.1 x.2) (k, (a : Int))) (smMark d l3) (d.fLetters).toNat e_3 (wr ((r.length : Int) + 1))).2)])], []⟩ ht,
 .mt ⟨[], []⟩ [] (some 5) (by kernel_rfl) (by rfl) (mt_alloc2 5 25 ht rfl (by rfl) (by rfl)) rfl rfl rfl rfl,
 .mu ⟨[sl 7 (.ptr 5 0), (40, .sv (.agg (ApiDet.cl (explR (fun k (a : Nat) => (fun (x : Int × Int) => smGo r d l3 x.1 x.2) (k, (a : Int))) (smMark d l3) (d.fLetters).toNat e_3 (wr ((r.length : Int) + 1))).1)))], [.gone, .gone, .gone, .gone, .gone, qi0]⟩ 5 _ _ rfl rfl (by kernel_rfl) (by rfl) (mu_store2 ht rfl (by rfl) (by rfl) (by rfl) (by rfl) (fun h => by cases h) (by rfl) (by rfl)) rfl rfl rfl rfl rfl rfl rfl,
 .ev ⟨[sl 41 (B (explR (fun k (a : Nat) => (fun (x : Int × Int) => smGo r d l3 x.1 x.2) (k, (a : Int))) (smMark d l3) (d.fLetters).toNat e_3 (wr ((r.length : Int) + 1))).2)], []⟩ ht,
 trivial⟩
 refine En.sr ?_
 refine WL.rn ht hn 2 ⟨[qi3], [.gone, .box (ApiDet.cl (explR (fun k (a : Nat) => (fun (x : Int × Int) => smGo r d l3 x.1 x.2) (k, (a : Int))) (smMark d l3) (d.fLetters).toNat e_3 (wr ((r.length : Int) + 1))).1) 25 false, .gone, .gone, .gone, .gone]⟩ ?_
 refine En.ret ?_
 exact En.back ht (explR (fun k (a : Nat) => (fun (x : Int × Int) => smGo r d l3 x.1 x.2) (k, (a : Int))) (smMark d l3) (d.fLetters).toNat e_3 (wr ((r.length : Int) + 1))).1 h (by kernel_rfl) rfl
theorem en77 : ∀ args w, (callFunc 77 args).run Try.prog w = .ok (.enter 77 args) w := enters_of Try.func77 (by kernel_rfl) rfl
end Go.Proofs.Ytobenjahlicnoaa
namespace Go.Proofs.Ytobenjahlicnoaa
open Go.RowKit Go.MapKept
set_option linter.unusedSimpArgs false
set_option linter.unusedVariables false
set_option maxRecDepth 100000
set_option linter.unusedSectionVars false
def BackOk (cls back : List Int) (n : Nat) : Prop := back.length = n ∧ ∀ q, q < n → ∃ p : Nat, p < n ∧ back.getD (cls.getD q 0).toNat 0 = (p : Int) ∧ cls.getD p 0 = cls.getD q 0
section
variable {d : ApiDet} {cls back : List Int}
theorem smGo_at (hb : BackOk cls back d.fNext.length) {q : Nat} (hq : q < d.fNext.length) : ∃ p : Nat, p < d.fNext.length ∧ cls.getD p 0 = cls.getD q 0 ∧ (∀ a : Nat, smGo cls d back (cls.getD q 0) a = cls.getD (stepD d p a) 0) ∧ smMark d back (cls.getD q 0) = d.fMark.getD p 0 := by
 obtain ⟨p, h1, h2, h3⟩ := hb.2 q hq
 refine ⟨p, h1, h3, fun a => ?_, ?_⟩
 ·unfold smGo stepD
  rw [h2, Int.toNat_natCast, Int.toNat_natCast]
 ·unfold smMark
  rw [h2, Int.toNat_natCast]
theorem smLang (h : ClsOk d) (hc : IsClass d cls) (hb : BackOk cls back d.fNext.length) : ∀ (w : List Nat) (q : Nat), q < d.fNext.length → (∀ a ∈ w, a < d.fLetters.toNat) → langK (fun k (a : Nat) => smGo cls d back k (a : Int)) (smMark d back) (cls.getD q 0) w = langD d q w := by
 intro w
 induction w with
 | nil =>
  intro q hq _
  obtain ⟨p, h1, h2, _, h4⟩ := smGo_at hb hq
  show smMark d back (cls.getD q 0) = d.fMark.getD q 0
  rw [h4]
  exact rs_at (w := []) ((hc.same p q h1 hq).1 h2) fun b hb => by simp at hb
 | cons a w ih =>
  intro q hq hw
  obtain ⟨p, h1, h2, h3, _⟩ := smGo_at hb hq
  show langK (fun k (a : Nat) => smGo cls d back k (a : Int)) (smMark d back) (smGo cls d back (cls.getD q 0) a) w = _
  rw [h3, ih (stepD d p a) (h.pre.step h1) fun b hb => hw b (List.mem_cons_of_mem _ hb)]
  exact rs_at (w := a :: w) ((hc.same p q h1 hq).1 h2) hw
theorem smKeys (h : ClsOk d) (hc : IsClass d cls) (hb : BackOk cls back d.fNext.length) {k : Int} (hk : k ∈ cls) (a : Nat) : smGo cls d back k a ∈ cls := by
 obtain ⟨q, hq⟩ := List.getElem?_of_mem hk
 have hlt := (List.getElem?_eq_some_iff.1 hq).1
 rw [hc.len] at hlt
 obtain ⟨p, h1, _, h3, _⟩ := smGo_at (cls := cls) hb hlt
 rw [show k = cls.getD q 0 by simp [hq], h3]
 exact getD_mem (by rw [hc.len]; exact h.pre.step h1)
theorem smCanon (h : ClsOk d) (hc : IsClass d cls) (hb : BackOk cls back d.fNext.length) {q : Nat} (hq : q < d.fNext.length) (limit : Int) (hl : (cls.length : Int) ≤ limit) :
  explR (fun k (a : Nat) => smGo cls d back k (a : Int)) (smMark d back) d.fLetters.toNat (cls.getD q 0) limit = (canon d.fLetters.toNat (langD d q), true) := by
 have h0 : cls.getD q 0 ∈ cls := getD_mem (by rw [hc.len]; exact hq)
 rw [explR_ends h0 (fun k a hk _ => smKeys h hc hb hk a) hl]
 congr 1
 rw [canon_of (P := fun k => k ∈ cls) h0 (fun k a hk _ => smKeys h hc hb hk a) ?_]
 ·exact canon_congr fun w hw => smLang h hc hb w q hq hw
 ·intro x y hx hy e
  obtain ⟨p, hp⟩ := List.getElem?_of_mem hx
  obtain ⟨s, hs⟩ := List.getElem?_of_mem hy
  have hpl := (List.getElem?_eq_some_iff.1 hp).1
  have hsl := (List.getElem?_eq_some_iff.1 hs).1
  rw [hc.len] at hpl hsl
  have ex : x = cls.getD p 0 := by simp [hp]
  have ey : y = cls.getD s 0 := by simp [hs]
  rw [ex, ey] at e ⊢
  refine (hc.same p s hpl hsl).2 (rs_congr fun w hw => ?_)
  rw [← smLang h hc hb w p hpl hw, ← smLang h hc hb w s hsl hw]
  exact rs_at e hw
theorem smDom_at (h : ClsOk d) (hc : IsClass d cls) (hb : BackOk cls back d.fNext.length) {k : Int} (hk : k ∈ cls) : (∀ a : Nat, (a : Int) < d.fLetters → smDom cls d back k a) ∧ smMarkDom d back k := by
 obtain ⟨q, hq⟩ := List.getElem?_of_mem hk
 have hlt := (List.getElem?_eq_some_iff.1 hq).1
 rw [hc.len] at hlt
 obtain ⟨p, h1, h2, h3⟩ := hb.2 q hlt
 have hkr := hc.range k hk
 have ek : k = cls.getD q 0 := by simp [hq]
 rw [← ek] at h2
 have hb1 := hb.1
 have hrow := h.wf.rows _ (getD_mem (l := d.fNext) (z := []) h1)
 have hlet := h.wf.letters
 refine ⟨fun a ha => ?_, ?_⟩
 ·unfold smDom
  rw [h2, Int.toNat_natCast, Int.toNat_natCast, hrow]
  have hn := h.wf.next _ (getD_mem (l := d.fNext) (z := []) h1) _ (getD_mem (l := d.fNext.getD p []) (i := a) (z := 0) (by omega))
  rw [hc.len]
  omega
 ·unfold smMarkDom
  rw [h2, h.wf.mark]
  omega
end
theorem smallest_plain (d : ApiDet) (h : ClsOk d) : smallest_vc d (fun r => r = canon d.fLetters.toNat (langD d d.fStart.toNat)) := by
 intro _ _
 have hsz := h.size
 refine ⟨h, fun cls hc => ⟨⟨by omega, Int.le_refl _, by rw [hc.len]; omega⟩, fun x l => ∃ k : Nat, x = k ∧ k ≤ cls.length ∧ l.length = cls.length ∧ ∀ q, q < k → ∃ p : Nat, p < cls.length ∧ l.getD (cls.getD q 0).toNat 0 = (p : Int) ∧ cls.getD p 0 = cls.getD q 0, fun x _ => cls.length - x.toNat,
  ⟨0, rfl, Nat.zero_le _, by simp, fun q hq => absurd hq (Nat.not_lt_zero _)⟩, ?_⟩⟩
 rintro x l ⟨k, rfl, hk, hl, hg⟩
 refine ⟨fun hb => ?_, fun hb => ?_⟩
 ·have hlt : k < cls.length := by
   have := of_decide_eq_true hb
   omega
  have hr := hc.range _ (getD_mem (z := 0) hlt)
  have hcl := hc.len
  refine ⟨cls.getD k 0, by rw [idx_getD 0 (by omega) (by omega), Int.toNat_natCast], l.getD (cls.getD k 0).toNat 0, idx_getD 0 hr.1 (by omega), ⟨k + 1, ?_, hlt, by simp [hl], fun q hq => ?_⟩, ?_⟩
  ·rw [wr_in (by omega) (by omega)]
   omega
  ·by_cases e : cls.getD q 0 = cls.getD k 0
   ·refine ⟨k, hlt, ?_, e.symm⟩
    rw [e]
    have : (l.set (cls.getD k 0).toNat (k : Int))[(cls.getD k 0).toNat]? = some (k : Int) := List.getElem?_set_self (by omega)
    rw [List.getD_eq_getElem?_getD, this]
    rfl
   ·have hqk : q < k := by
     rcases Nat.lt_or_ge q k with h | h
     ·exact h
     ·exact absurd (by rw [show q = k by omega]) e
    obtain ⟨p, h1, h2, h3⟩ := hg q hqk
    refine ⟨p, h1, ?_, h3⟩
    have hrq := hc.range _ (getD_mem (l := cls) (i := q) (z := 0) (by omega))
    rw [List.getD_eq_getElem?_getD, List.getElem?_set_ne (by omega), ← List.getD_eq_getElem?_getD]
    exact h2
  ·rw [wr_in (by omega) (by omega)]
   simp only
   omega
 ·have hke : k = cls.length := by
   have := of_decide_eq_false hb
   omega
  subst hke
  have hst := h.wf.start
  have hback : BackOk cls l d.fNext.length := ⟨by rw [hl, hc.len], by rw [← hc.len]; exact hg⟩
  have hcl := hc.len
  have h0 : cls.getD d.fStart.toNat 0 ∈ cls := getD_mem (by omega)
  refine ⟨cls.getD d.fStart.toNat 0, idx_getD 0 hst.1 (by omega), ⟨⟨h.wf.letters, h.wide⟩, ?_, fun k => k ∈ cls, h0, fun k a hk ha => ⟨(smDom_at h hc hback hk).1 a ha, smKeys h hc hback hk a⟩, fun k hk => (smDom_at h hc hback hk).2⟩, ?_⟩
  ·rw [wr_in (by omega) (by omega)]
   omega
  ·rw [wr_in (by omega) (by omega)]
   have := smCanon h hc hback (q := d.fStart.toNat) (by omega) ((cls.length : Int) + 1) (by omega)
   exact congrArg Prod.fst this
theorem smallest_ct (d : ApiDet) (h : ClsOk d) : Ct 77 [.sv (.agg [I d.fLetters, I d.fStart, LS (lsT intT) d.fNext, LS intT d.fMark])] [] (fun (_ : Unit) => True) (fun _ => .sv (.agg [I (canon d.fLetters.toNat (langD d d.fStart.toNat)).fLetters, I (canon d.fLetters.toNat (langD d d.fStart.toNat)).fStart, LS (lsT intT) (canon d.fLetters.toNat (langD d d.fStart.toNat)).fNext, LS intT (canon d.fLetters.toNat (langD d d.fStart.toNat)).fMark])) :=
 (smallest_walk d (fun r => r = canon d.fLetters.toNat (langD d d.fStart.toNat)) (smallest_plain d h)).fun
theorem foldl_der : ∀ (w : List Nat) (k : Lang) (u : List Nat), (w.foldl der k) u = k (w ++ u)
 | [], _, _ => rfl
 | a :: w, k, u => by
  rw [List.foldl_cons, foldl_der w]
  rfl
theorem langK_der (k : Lang) (w : List Nat) : langK der (fun r => r []) k w = k w := by
 show (w.foldl der k) [] = _
 rw [foldl_der, List.append_nil]
structure CanonOk (L : Nat) (r : Lang) (n : Nat) : Prop where
 wf : Wf (canon L r)
 letters : (canon L r).fLetters = L
 start : (canon L r).fStart = 0
 count : (canon L r).fNext.length ≤ n
 lang : ∀ w, (∀ a ∈ w, a < L) → langD (canon L r) 0 w = r w
 marks : ∀ m ∈ (canon L r).fMark, ∃ u, m = r u
theorem canon_vals {L : Nat} {r : Lang} : ∀ m ∈ (canon L r).fMark, ∃ u, m = r u := fun m hm => by
 unfold canon explD detOf at hm
 obtain ⟨k, hk, rfl⟩ := List.mem_map.1 hm
 obtain ⟨u, rfl⟩ := explL_in (P := fun s : Lang => ∃ u : List Nat, s = rs L (fun w => r (u ++ w))) ⟨[], rfl⟩ (by
  rintro k a ⟨u, rfl⟩ ha
  refine ⟨u ++ [a], ?_⟩
  rw [der_rs ha]
  refine rs_congr fun w _ => ?_
  show r (u ++ a :: w) = _
  rw [List.append_assoc]
  rfl) hk
 exact ⟨u, by simp [rs]⟩
theorem canonOk_keys {K : Type} {go : K → Nat → K} {mark : K → Int} {L : Nat} {k0 : K} {m : List K} (h0 : k0 ∈ m) (hP : ∀ k a, k ∈ m → a < L → go k a ∈ m) : CanonOk L (langK go mark k0) m.length := by
 have h1 : rs L (langK go mark k0) ∈ m.map fun k => rs L (langK go mark k) := List.mem_map.2 ⟨k0, h0, rfl⟩
 have h2 : ∀ s a, s ∈ (m.map fun k => rs L (langK go mark k)) → a < L → der s a ∈ m.map fun k => rs L (langK go mark k) := fun s a hs ha => by
  obtain ⟨k, hk, rfl⟩ := List.mem_map.1 hs
  exact List.mem_map.2 ⟨go k a, hP k a hk ha, by rw [der_rs ha]; rfl⟩
 have hc := explD_count (mark := fun r : Lang => r []) h1 h2
 rw [List.length_map] at hc
 refine ⟨explD_wf (mark := fun r : Lang => r []) h1 h2, rfl, rfl, hc, fun w hw => ?_, canon_vals⟩
 have := explD_lang (mark := fun r : Lang => r []) h1 h2 hw
 rw [langK_der] at this
 refine this.trans ?_
 unfold rs
 rw [if_pos hw]
theorem canonOk_det {d : ApiDet} (h : ClsPre d) {L q : Nat} (hq : q < d.fNext.length) : CanonOk L (langD d q) d.fNext.length := by
 have := canonOk_keys (go := stepD d) (mark := fun q => d.fMark.getD q 0) (L := L) (k0 := q) (m := List.range d.fNext.length) (List.mem_range.2 hq) fun k a hk _ => List.mem_range.2 (h.step (List.mem_range.1 hk))
 rw [List.length_range] at this
 exact this
section
variable {d : ApiDet}
end
end Go.Proofs.Ytobenjahlicnoaa
namespace Go.Proofs.Ytobenjahlicnoaa
open Go.RowKit Go.MapKept
set_option linter.unusedSimpArgs false
set_option linter.unusedVariables false
set_option maxRecDepth 100000
def indexLInt_vc (l : List (List Int)) (dom : ((List Int) → Prop)) (φ : ((List Int) → Bool)) (Q : Int → Prop) : Prop :=
 l.length ≤ 9223372036854775807 →
 (∃ (Inv : Int → Prop) (mu : Int → Nat), Inv 0 ∧
 ∀ (x8 : Int) , Inv x8 → (IfP (decide (x8 < (l.length : Int))) (∃ e, idx l x8 = some e ∧
 (dom e) ∧
 IfP (φ e) (Q x8) ((Inv (wr (x8 + 1)) ∧ mu (wr (x8 + 1)) < mu x8))) (Q (-1))))
theorem indexLInt_walk (l : List (List Int)) (dom : ((List Int) → Prop)) (φ : ((List Int) → Bool)) (Q : Int → Prop) (h : indexLInt_vc l dom φ Q) : Ct 81 [.sv (.one (LS (lsT intT) l)), .sv (.one (.rd (fvR (fun x => [.sv (.one (LS intT x))]) (fun b => .sv (.one (B b))) dom φ)))] [] Q (fun (r : Int) => .sv (.one (I r))) := by
 have ht := tab_ok
 refine Ct.body Try.func81 rfl rfl rfl rfl (fun c hn => ?_)
 unfold indexLInt_vc at h
 refine En.lenL 0 (by rfl) (fun hl => ?_)
 replace h := h hl
 clear hl
 refine En.sr ?_
 refine WL.rn ht hn 1 ⟨[sl 0 (LS (lsT intT) l), sl 1 (.rd (fvR (fun x => [.sv (.one (LS intT x))]) (fun b => .sv (.one (B b))) dom φ))], []⟩ ?_
 refine En.seq ?_
 refine En.sr ?_
 refine WL.rn ht hn 3 ⟨[sl 0 (LS (lsT intT) l), sl 1 (.rd (fvR (fun x => [.sv (.one (LS intT x))]) (fun b => .sv (.one (B b))) dom φ)), sl 7 (I (l.length : Int)), sl 8 (I 0)], []⟩ ?_
 refine En.block ?_
 obtain ⟨Inv, mu, h0, hI⟩ := h
 refine En.loop (σ := Int) (fun zz => Inv zz) (fun zz => mu zz) (fun zz => ⟨[sl 0 (LS (lsT intT) l), sl 1 (.rd (fvR (fun x => [.sv (.one (LS intT x))]) (fun b => .sv (.one (B b))) dom φ)), sl 7 (I (l.length : Int)), sl 8 (I zz)], []⟩) 0 h0 (sub_ok (by kernel_rfl)) ?_
 intro x8 h
 replace h := hI _ h
 show En c ⟨[sl 0 (LS (lsT intT) l), sl 1 (.rd (fvR (fun x => [.sv (.one (LS intT x))]) (fun b => .sv (.one (B b))) dom φ)), sl 7 (I (l.length : Int)), sl 8 (I x8)], []⟩ _
 refine En.sr ?_
 refine WL.rn ht hn 1 ⟨[sl 0 (LS (lsT intT) l), sl 1 (.rd (fvR (fun x => [.sv (.one (LS intT x))]) (fun b => .sv (.one (B b))) dom φ)), sl 7 (I (l.length : Int)), sl 8 (I x8), sl 9 (B (decide (x8 < (l.length : Int))))], []⟩ ?_
 refine En.seq ?_
 refine En.ch h (fun h => ?_) (fun h => ?_)
 refine En.skip ?_
 refine En.seq ?_
 refine En.block ?_
 refine En.sr ?_
 refine WL.rn ht hn 2 ⟨[sl 0 (LS (lsT intT) l), sl 1 (.rd (fvR (fun x => [.sv (.one (LS intT x))]) (fun b => .sv (.one (B b))) dom φ)), sl 5 (I x8), sl 7 (I (l.length : Int)), sl 8 (I x8)], []⟩ ?_
 refine En.sr ?_
 refine WL.r ht hn 3 ⟨[sl 0 (LS (lsT intT) l), sl 1 (.rd (fvR (fun x => [.sv (.one (LS intT x))]) (fun b => .sv (.one (B b))) dom φ)), sl 5 (I x8), sl 7 (I (l.length : Int)), sl 8 (I x8), sl 11 (.rd (fvR (fun x => [.sv (.one (LS intT x))]) (fun b => .sv (.one (B b))) dom φ)), sl 12 (LS (lsT intT) l), sl 13 (I x8)], []⟩ ?_
 obtain ⟨e, he, h⟩ := h
 refine WL.v hn (val_ix (T := (lsT intT)) (l := l) (i := x8) ht rfl he) ?_
 refine WL.v hn (val_ld (s := .one (LS intT e)) ht rfl) ?_
 obtain ⟨hp, h⟩ := h
 refine WL.m0 hn (mt_callv e hp rfl (by rfl) (by rfl) (by rfl) (by rfl)) ?_
 refine WL.nil ?_
 refine En.ch h (fun h => ?_) (fun h => ?_)
 refine En.sr ?_
 refine WL.rn ht hn 2 ⟨[sl 4 (I x8)], []⟩ ?_
 exact En.rb ht x8 h
 refine En.skip ?_
 refine En.region ?_
 refine WL.rn ht hn 2 ⟨[sl 0 (LS (lsT intT) l), sl 1 (.rd (fvR (fun x => [.sv (.one (LS intT x))]) (fun b => .sv (.one (B b))) dom φ)), sl 7 (I (l.length : Int)), sl 8 (I (wr (x8 + 1)))], []⟩ ?_
 exact En.at (I := fun zz => Inv zz ∧ mu zz < mu x8) (T := fun zz => ⟨[sl 0 (LS (lsT intT) l), sl 1 (.rd (fvR (fun x => [.sv (.one (LS intT x))]) (fun b => .sv (.one (B b))) dom φ)), sl 7 (I (l.length : Int)), sl 8 (I zz)], []⟩) (wr (x8 + 1)) h (by kernel_rfl)
 refine En.exit rfl ?_
 refine En.sr ?_
 refine WL.rn ht hn 1 ⟨[sl 4 (I (-1))], []⟩ ?_
 exact En.rb ht (-1) h
theorem en81 : ∀ args w, (callFunc 81 args).run Try.prog w = .ok (.enter 81 args) w := enters_of Try.func81 (by kernel_rfl) rfl
theorem indexLInt_ct (l : List (List Int)) (dom : (List Int) → Prop) (φ : (List Int) → Bool) (hd : ∀ x ∈ l, dom x) : Ct 81 [.sv (.one (LS (lsT intT) l)), .sv (.one (.rd (fvR (fun x => [.sv (.one (LS intT x))]) (fun b => .sv (.one (B b))) dom φ)))] [] (fun (_ : Unit) => True) (fun _ => .sv (.one (I (idxTo φ l)))) := by
 refine (indexLInt_walk l dom φ (fun r => r = idxTo φ l) ?_).fun
 unfold indexLInt_vc
 exact index_plain l dom φ hd
def anyLInt_vc (l : List (List Int)) (dom : ((List Int) → Prop)) (φ : ((List Int) → Bool)) (Q : Bool → Prop) : Prop :=
 l.length ≤ 9223372036854775807 →
 ((∀ x_ ∈ l, dom x_) ∧
 Q (decide ((idxTo φ l) ≥ 0)))
theorem anyLInt_walk (l : List (List Int)) (dom : ((List Int) → Prop)) (φ : ((List Int) → Bool)) (Q : Bool → Prop) (h : anyLInt_vc l dom φ Q) : Ct 34 [.sv (.one (LS (lsT intT) l)), .sv (.one (.rd (fvR (fun x => [.sv (.one (LS intT x))]) (fun b => .sv (.one (B b))) dom φ)))] [] Q (fun (r : Bool) => .sv (.one (B r))) := by
 have ht := tab_ok
 refine Ct.body Try.func34 rfl rfl rfl rfl (fun c hn => ?_)
 unfold anyLInt_vc at h
 refine En.lenL 0 (by rfl) (fun hl => ?_)
 replace h := h hl
 clear hl
 refine En.sr ?_
 refine WL.rn ht hn 1 ⟨[sl 0 (LS (lsT intT) l), sl 1 (.rd (fvR (fun x => [.sv (.one (LS intT x))]) (fun b => .sv (.one (B b))) dom φ))], []⟩ ?_
 refine En.sr ?_
 refine WL.r ht hn 2 ⟨[sl 5 (LS (lsT intT) l), sl 6 (.rd (fvR (fun x => [.sv (.one (LS intT x))]) (fun b => .sv (.one (B b))) dom φ))], []⟩ ?_
 obtain ⟨hp, h⟩ := h
 refine WL.m0 hn (mt_c (indexLInt_ct l dom φ hp) en81 rfl) ?_
 refine WL.rn ht hn 2 ⟨[sl 4 (B (decide ((idxTo φ l) ≥ 0)))], []⟩ ?_
 exact En.rb ht (decide ((idxTo φ l) ≥ 0)) h
theorem en34 : ∀ args w, (callFunc 34 args).run Try.prog w = .ok (.enter 34 args) w := enters_of Try.func34 (by kernel_rfl) rfl
theorem anyLInt_ct (l : List (List Int)) (dom : (List Int) → Prop) (φ : (List Int) → Bool) (hd : ∀ x ∈ l, dom x) : Ct 34 [.sv (.one (LS (lsT intT) l)), .sv (.one (.rd (fvR (fun x => [.sv (.one (LS intT x))]) (fun b => .sv (.one (B b))) dom φ)))] [] (fun (_ : Unit) => True) (fun _ => .sv (.one (B (l.any φ)))) := by
 refine (anyLInt_walk l dom φ (fun r => r = l.any φ) ?_).fun
 unfold anyLInt_vc
 exact fun _ => ⟨hd, by rw [← idxTo_nonneg φ l]⟩
def indexInt_vc (l : List Int) (dom : (Int → Prop)) (φ : (Int → Bool)) (Q : Int → Prop) : Prop :=
 l.length ≤ 9223372036854775807 →
 (∃ (Inv : Int → Prop) (mu : Int → Nat), Inv 0 ∧
 ∀ (x8 : Int) , Inv x8 → (IfP (decide (x8 < (l.length : Int))) (∃ e, idx l x8 = some e ∧
 (dom e) ∧
 IfP (φ e) (Q x8) ((Inv (wr (x8 + 1)) ∧ mu (wr (x8 + 1)) < mu x8))) (Q (-1))))
noncomputable abbrev qk0 (l : List Int) := sl 7 (I (l.length : Int))
theorem indexInt_walk (l : List Int) (dom : (Int → Prop)) (φ : (Int → Bool)) (Q : Int → Prop) (h : indexInt_vc l dom φ Q) : Ct 87 [.sv (.one (LS intT l)), .sv (.one (.rd (fvR (fun x => [.sv (.one (I x))]) (fun b => .sv (.one (B b))) dom φ)))] [] Q (fun (r : Int) => .sv (.one (I r))) := by
 have ht := tab_ok
 refine Ct.body Try.func87 rfl rfl rfl rfl (fun c hn => ?_)
 unfold indexInt_vc at h
 refine En.lenL 0 (by rfl) (fun hl => ?_)
 replace h := h hl
 clear hl
 refine En.sr ?_
 refine WL.rn ht hn 1 ⟨[sl 0 (LS intT l), sl 1 (.rd (fvR (fun x => [.sv (.one (I x))]) (fun b => .sv (.one (B b))) dom φ))], []⟩ ?_
 refine En.seq ?_
 refine En.sr ?_
 refine WL.rn ht hn 3 ⟨[sl 0 (LS intT l), sl 1 (.rd (fvR (fun x => [.sv (.one (I x))]) (fun b => .sv (.one (B b))) dom φ)), qk0 l, sl 8 (I 0)], []⟩ ?_
 refine En.block ?_
 obtain ⟨Inv, mu, h0, hI⟩ := h
 refine En.loop (σ := Int) (fun zz => Inv zz) (fun zz => mu zz) (fun zz => ⟨[sl 0 (LS intT l), sl 1 (.rd (fvR (fun x => [.sv (.one (I x))]) (fun b => .sv (.one (B b))) dom φ)), qk0 l, sl 8 (I zz)], []⟩) 0 h0 (sub_ok (by kernel_rfl)) ?_
 intro x8 h
 replace h := hI _ h
 show En c ⟨[sl 0 (LS intT l), sl 1 (.rd (fvR (fun x => [.sv (.one (I x))]) (fun b => .sv (.one (B b))) dom φ)), qk0 l, sl 8 (I x8)], []⟩ _
 refine En.sr ?_
 refine WL.rn ht hn 1 ⟨[sl 0 (LS intT l), sl 1 (.rd (fvR (fun x => [.sv (.one (I x))]) (fun b => .sv (.one (B b))) dom φ)), qk0 l, sl 8 (I x8), sl 9 (B (decide (x8 < (l.length : Int))))], []⟩ ?_
 refine En.seq ?_
 refine En.ch h (fun h => ?_) (fun h => ?_)
 refine En.skip ?_
 refine En.seq ?_
 refine En.block ?_
 refine En.sr ?_
 refine WL.rn ht hn 2 ⟨[sl 0 (LS intT l), sl 1 (.rd (fvR (fun x => [.sv (.one (I x))]) (fun b => .sv (.one (B b))) dom φ)), sl 5 (I x8), qk0 l, sl 8 (I x8)], []⟩ ?_
 refine En.sr ?_
 refine WL.r ht hn 3 ⟨[sl 0 (LS intT l), sl 1 (.rd (fvR (fun x => [.sv (.one (I x))]) (fun b => .sv (.one (B b))) dom φ)), sl 5 (I x8), qk0 l, sl 8 (I x8), sl 11 (.rd (fvR (fun x => [.sv (.one (I x))]) (fun b => .sv (.one (B b))) dom φ)), sl 12 (LS intT l), sl 13 (I x8)], []⟩ ?_
 obtain ⟨e, he, h⟩ := h
 refine WL.v hn (val_ix (T := intT) (l := l) (i := x8) ht rfl he) ?_
 refine WL.v hn (val_ld (s := .one (I e)) ht rfl) ?_
 obtain ⟨hp, h⟩ := h
 refine WL.m0 hn (mt_callv e hp rfl (by rfl) (by rfl) (by rfl) (by rfl)) ?_
 refine WL.nil ?_
 refine En.ch h (fun h => ?_) (fun h => ?_)
 refine En.sr ?_
 refine WL.rn ht hn 2 ⟨[sl 4 (I x8)], []⟩ ?_
 exact En.rb ht x8 h
 refine En.skip ?_
 refine En.region ?_
 refine WL.rn ht hn 2 ⟨[sl 0 (LS intT l), sl 1 (.rd (fvR (fun x => [.sv (.one (I x))]) (fun b => .sv (.one (B b))) dom φ)), qk0 l, sl 8 (I (wr (x8 + 1)))], []⟩ ?_
 exact En.at (I := fun zz => Inv zz ∧ mu zz < mu x8) (T := fun zz => ⟨[sl 0 (LS intT l), sl 1 (.rd (fvR (fun x => [.sv (.one (I x))]) (fun b => .sv (.one (B b))) dom φ)), qk0 l, sl 8 (I zz)], []⟩) (wr (x8 + 1)) h (by kernel_rfl)
 refine En.exit rfl ?_
 refine En.sr ?_
 refine WL.rn ht hn 1 ⟨[sl 4 (I (-1))], []⟩ ?_
 exact En.rb ht (-1) h
theorem en87 : ∀ args w, (callFunc 87 args).run Try.prog w = .ok (.enter 87 args) w := enters_of Try.func87 (by kernel_rfl) rfl
theorem indexInt_ct (l : List Int) (dom : Int → Prop) (φ : Int → Bool) (hd : ∀ x ∈ l, dom x) : Ct 87 [.sv (.one (LS intT l)), .sv (.one (.rd (fvR (fun x => [.sv (.one (I x))]) (fun b => .sv (.one (B b))) dom φ)))] [] (fun (_ : Unit) => True) (fun _ => .sv (.one (I (idxTo φ l)))) := by
 refine (indexInt_walk l dom φ (fun r => r = idxTo φ l) ?_).fun
 unfold indexInt_vc
 exact index_plain l dom φ hd
def anyInt_vc (l : List Int) (dom : (Int → Prop)) (φ : (Int → Bool)) (Q : Bool → Prop) : Prop :=
 l.length ≤ 9223372036854775807 →
 ((∀ x_ ∈ l, dom x_) ∧
 Q (decide ((idxTo φ l) ≥ 0)))
theorem anyInt_walk (l : List Int) (dom : (Int → Prop)) (φ : (Int → Bool)) (Q : Bool → Prop) (h : anyInt_vc l dom φ Q) : Ct 41 [.sv (.one (LS intT l)), .sv (.one (.rd (fvR (fun x => [.sv (.one (I x))]) (fun b => .sv (.one (B b))) dom φ)))] [] Q (fun (r : Bool) => .sv (.one (B r))) := by
 have ht := tab_ok
 refine Ct.body Try.func41 rfl rfl rfl rfl (fun c hn => ?_)
 unfold anyInt_vc at h
 refine En.lenL 0 (by rfl) (fun hl => ?_)
 replace h := h hl
 clear hl
 refine En.sr ?_
 refine WL.rn ht hn 1 ⟨[sl 0 (LS intT l), sl 1 (.rd (fvR (fun x => [.sv (.one (I x))]) (fun b => .sv (.one (B b))) dom φ))], []⟩ ?_
 refine En.sr ?_
 refine WL.r ht hn 2 ⟨[sl 5 (LS intT l), sl 6 (.rd (fvR (fun x => [.sv (.one (I x))]) (fun b => .sv (.one (B b))) dom φ))], []⟩ ?_
 obtain ⟨hp, h⟩ := h
 refine WL.m0 hn (mt_c (indexInt_ct l dom φ hp) en87 rfl) ?_
 refine WL.rn ht hn 2 ⟨[sl 4 (B (decide ((idxTo φ l) ≥ 0)))], []⟩ ?_
 exact En.rb ht (decide ((idxTo φ l) ≥ 0)) h
theorem en41 : ∀ args w, (callFunc 41 args).run Try.prog w = .ok (.enter 41 args) w := enters_of Try.func41 (by kernel_rfl) rfl
theorem anyInt_ct (l : List Int) (dom : Int → Prop) (φ : Int → Bool) (hd : ∀ x ∈ l, dom x) : Ct 41 [.sv (.one (LS intT l)), .sv (.one (.rd (fvR (fun x => [.sv (.one (I x))]) (fun b => .sv (.one (B b))) dom φ)))] [] (fun (_ : Unit) => True) (fun _ => .sv (.one (B (l.any φ)))) := by
 refine (anyInt_walk l dom φ (fun r => r = l.any φ) ?_).fun
 unfold anyInt_vc
 exact fun _ => ⟨hd, by rw [← idxTo_nonneg φ l]⟩
def altNo (n q : Int) : Bool := (decide (q < 0)) || (decide (q ≥ n))
theorem altNo_iff {n q : Int} : altNo n q = false ↔ 0 ≤ q ∧ q < n := by
 unfold altNo
 simp only [Bool.or_eq_false_iff, decide_eq_false_iff_not]
 omega
def detErr (x : ApiDet) : Int :=
 if (decide (x.fLetters < 1)) || (decide (x.fLetters > 4)) then 2 else
 if (decide ((x.fNext.length : Int) < 1)) || (decide ((x.fNext.length : Int) > 3000)) then 1 else
 if ((x.fMark.length : Int) != (x.fNext.length : Int)) || x.fNext.any (fun r => (r.length : Int) != (x).fLetters) then 3 else
 if altNo (x.fNext.length : Int) x.fStart || x.fNext.any (fun r => r.any (altNo (x.fNext.length : Int))) then 2 else
 if x.fMark.any (fun m => (m != 0) && (m != 1)) then 2 else 0
structure DetOk (x : ApiDet) : Prop where
 letters : 1 ≤ x.fLetters ∧ x.fLetters ≤ 4
 size : 1 ≤ x.fNext.length ∧ x.fNext.length ≤ 3000
 marks : x.fMark.length = x.fNext.length
 rows : ∀ r ∈ x.fNext, (r.length : Int) = x.fLetters
 start : 0 ≤ x.fStart ∧ x.fStart < (x.fNext.length : Int)
 in_ : ∀ r ∈ x.fNext, ∀ p ∈ r, 0 ≤ p ∧ p < (x.fNext.length : Int)
 mark : ∀ m ∈ x.fMark, m = 0 ∨ m = 1
theorem detErr_iff (x : ApiDet) : detErr x = 0 ↔ DetOk x := by
 unfold detErr
 constructor
 ·intro h
  by_cases h1 : ((decide (x.fLetters < 1)) || (decide (x.fLetters > 4))) = true
  ·rw [if_pos h1] at h; cases h
  rw [if_neg h1] at h
  by_cases h2 : ((decide ((x.fNext.length : Int) < 1)) || (decide ((x.fNext.length : Int) > 3000))) = true
  ·rw [if_pos h2] at h; cases h
  rw [if_neg h2] at h
  by_cases h3 : (((x.fMark.length : Int) != (x.fNext.length : Int)) || x.fNext.any (fun r => (r.length : Int) != (x).fLetters)) = true
  ·rw [if_pos h3] at h; cases h
  rw [if_neg h3] at h
  by_cases h4 : (altNo (x.fNext.length : Int) x.fStart || x.fNext.any (fun r => r.any (altNo (x.fNext.length : Int)))) = true
  ·rw [if_pos h4] at h; cases h
  rw [if_neg h4] at h
  by_cases h5 : x.fMark.any (fun m => (m != 0) && (m != 1)) = true
  ·rw [if_pos h5] at h; cases h
  simp only [Bool.not_eq_true, Bool.or_eq_false_iff, decide_eq_false_iff_not, List.any_eq_false, altNo_iff, bne_eq_false_iff_eq, Bool.and_eq_false_iff, Bool.not_eq_false, bne_iff_ne, ne_eq, Decidable.not_not] at h1 h2 h3 h4 h5
  exact ⟨by omega, by omega, by omega, fun r hr => h3.2 r hr, h4.1, fun r hr p hp => h4.2 r hr p hp, fun m hm => h5 m hm⟩
 ·intro h
  have h1 : ((decide (x.fLetters < 1)) || (decide (x.fLetters > 4))) = false := by
   have := h.letters
   simp only [Bool.or_eq_false_iff, decide_eq_false_iff_not]; omega
  have h2 : ((decide ((x.fNext.length : Int) < 1)) || (decide ((x.fNext.length : Int) > 3000))) = false := by
   have := h.size
   simp only [Bool.or_eq_false_iff, decide_eq_false_iff_not]; omega
  have h3 : (((x.fMark.length : Int) != (x.fNext.length : Int)) || x.fNext.any (fun r => (r.length : Int) != (x).fLetters)) = false := by
   simp only [Bool.or_eq_false_iff, bne_eq_false_iff_eq, List.any_eq_false, bne_iff_ne, ne_eq, Decidable.not_not]
   exact ⟨by have := h.marks; omega, h.rows⟩
  have h4 : (altNo (x.fNext.length : Int) x.fStart || x.fNext.any (fun r => r.any (altNo (x.fNext.length : Int)))) = false := by
   simp only [Bool.or_eq_false_iff, altNo_iff]
   refine ⟨h.start, ?_⟩
   rw [List.any_eq_false]
   intro r hr
   rw [Bool.not_eq_true, List.any_eq_false]
   intro p hp
   rw [Bool.not_eq_true, altNo_iff]
   exact h.in_ r hr p hp
  have h5 : x.fMark.any (fun m => (m != 0) && (m != 1)) = false := by
   rw [List.any_eq_false]
   intro m hm
   rcases h.mark m hm with rfl | rfl <;> decide
  rw [h1, h2, h3, h4, h5]
  rfl
theorem DetOk.cls {d : ApiDet} (h : DetOk d) : ClsOk d := by
 have h1 := h.letters
 have h2 := h.size
 refine ⟨⟨by omega, fun r hr => by have := h.rows r hr; omega, h.in_, h.start, h.marks⟩, by omega, by omega, fun m hm => by rcases h.mark m hm with rfl | rfl <;> decide⟩
theorem CanonOk.det {L : Nat} {r : Lang} {n : Nat} (h : CanonOk L r n) (hL : 1 ≤ L ∧ L ≤ 4) (hn : n ≤ 3000) (hr : ∀ w, r w = 0 ∨ r w = 1) : DetOk (canon L r) := by
 have h1 := h.wf.start
 have h2 := h.count
 refine ⟨by rw [h.letters]; omega, by omega, h.wf.mark, fun s hs => ?_, h1, h.wf.next, fun m hm => ?_⟩
 ·have := h.wf.rows s hs
  rw [h.letters] at this ⊢
  omega
 ·obtain ⟨u, rfl⟩ := h.marks m hm
  exact hr u
noncomputable def leastR (d : ApiDet) : ApiDet × Int := if detErr d = 0 then (canon d.fLetters.toNat (langD d d.fStart.toNat), 0) else (⟨0, 0, [], []⟩, detErr d)
def detC1_vc (r : List Int) (x : ApiDet) (Q : Bool → Prop) : Prop :=
 r.length ≤ 9223372036854775807 →
 (Q ((r.length : Int) != x.fLetters))
theorem detC1_walk (r : List Int) (x : ApiDet) (Q : Bool → Prop) (h : detC1_vc r x Q) : Ct 92 [.sv (.one (LS intT r)), .sv (.one (.ptr 0 0))] [.box [I x.fLetters, I x.fStart, LS (lsT intT) x.fNext, LS intT x.fMark] 25 true] Q (fun (r : Bool) => .sv (.one (B r))) := by
 have ht := tab_ok
 refine Ct.body Try.func92 rfl rfl rfl rfl (fun c hn => ?_)
 unfold detC1_vc at h
 refine En.lenL 0 (by rfl) (fun hl => ?_)
 replace h := h hl
 clear hl
 refine En.sr ?_
 refine WL.rn ht hn 1 ⟨[sl 0 (LS intT r), sl 1 (.ptr 0 0)], [.box (ApiDet.cl x) 25 true]⟩ ?_
 refine En.sr ?_
 refine WL.rn ht hn 6 ⟨[sl 3 (B ((r.length : Int) != x.fLetters))], [.gone]⟩ ?_
 exact En.rb ht ((r.length : Int) != x.fLetters) h
theorem en92 : ∀ args w, (callFunc 92 args).run Try.prog w = .ok (.enter 92 args) w := enters_of Try.func92 (by kernel_rfl) rfl
def detC2_vc (q : Int) (n : Int) (Q : Bool → Prop) : Prop :=
 Q ((decide (q < 0)) || (decide (q ≥ n)))
theorem detC2_walk (q : Int) (n : Int) (Q : Bool → Prop) (h : detC2_vc q n Q) : Ct 93 [.sv (.one (I q)), .sv (.one (.ptr 0 0))] [.box [I n] 3 true] Q (fun (r : Bool) => .sv (.one (B r))) := by
 have ht := tab_ok
 refine Ct.body Try.func93 rfl rfl rfl rfl (fun c hn => ?_)
 unfold detC2_vc at h
 refine En.sr ?_
 refine WL.rn ht hn 1 ⟨[sl 0 (I q), sl 1 (.ptr 0 0)], [.box [I n] 3 true]⟩ ?_
 refine En.sr ?_
 refine WL.r ht hn 3 ⟨[sl 0 (I q), sl 1 (.ptr 0 0), sl 6 (B (decide (q < 0)))], [.box [I n] 3 true]⟩ ?_
 refine WL.thru ⟨[sl 3 (B ((decide (q < 0)) || (decide (q ≥ n))))], [.gone]⟩ ?_ ?_
 refine splitB (decide (q < 0)) (fun hb0 => ?_) (fun hb0 => ?_)
 refine WL.sB 6 hb0 ?_
 refine WL.r ht hn 5 ⟨[sl 3 (B true)], [.gone]⟩ ?_
 exact WL.nil (sub_ok (by simp only [hb0]; kernel_rfl))
 refine WL.sB 6 hb0 ?_
 refine WL.r ht hn 5 ⟨[sl 3 (B (decide (q ≥ n)))], [.gone]⟩ ?_
 exact WL.nil (sub_ok (by simp only [hb0]; kernel_rfl))
 exact En.rb ht ((decide (q < 0)) || (decide (q ≥ n))) h
theorem en93 : ∀ args w, (callFunc 93 args).run Try.prog w = .ok (.enter 93 args) w := enters_of Try.func93 (by kernel_rfl) rfl
def detC3_vc (l : List Int) (domno : (Int → Prop)) (no : (Int → Bool)) (Q : Bool → Prop) : Prop :=
 l.length ≤ 9223372036854775807 →
 ((∀ x_ ∈ l, domno x_) ∧
 Q (l.any no))
theorem detC3_walk (l : List Int) (domno : (Int → Prop)) (no : (Int → Bool)) (Q : Bool → Prop) (h : detC3_vc l domno no Q) : Ct 94 [.sv (.one (LS intT l)), .sv (.one (.ptr 0 0))] [.box [.rd (fvR (fun (x : Int) => [.sv (.one (I x))]) (fun (r : Bool) => .sv (.one (B r))) domno no)] 92 true] Q (fun (r : Bool) => .sv (.one (B r))) := by
 have ht := tab_ok
 refine Ct.body Try.func94 rfl rfl rfl rfl (fun c hn => ?_)
 unfold detC3_vc at h
 refine En.lenL 0 (by rfl) (fun hl => ?_)
 replace h := h hl
 clear hl
 refine En.sr ?_
 refine WL.rn ht hn 1 ⟨[sl 0 (LS intT l), sl 1 (.ptr 0 0)], [.box [.rd (fvR (fun (x : Int) => [.sv (.one (I x))]) (fun (r : Bool) => .sv (.one (B r))) domno no)] 92 true]⟩ ?_
 refine En.sr ?_
 refine WL.r ht hn 2 ⟨[sl 4 (LS intT l), sl 5 (.rd (fvR (fun (x : Int) => [.sv (.one (I x))]) (fun (r : Bool) => .sv (.one (B r))) domno no))], [.gone]⟩ ?_
 obtain ⟨hp, h⟩ := h
 refine WL.m0 hn (mt_c (anyInt_ct l domno no hp) en41 rfl) ?_
 refine WL.rn ht hn 1 ⟨[sl 3 (B (l.any no))], [.gone]⟩ ?_
 exact En.rb ht (l.any no) h
theorem en94 : ∀ args w, (callFunc 94 args).run Try.prog w = .ok (.enter 94 args) w := enters_of Try.func94 (by kernel_rfl) rfl
def detC4_vc (m : Int) (Q : Bool → Prop) : Prop :=
 Q ((m != 0) && (m != 1))
theorem detC4_walk (m : Int) (Q : Bool → Prop) (h : detC4_vc m Q) : Ct 95 [.sv (.one (I m))] [] Q (fun (r : Bool) => .sv (.one (B r))) := by
 have ht := tab_ok
 refine Ct.body Try.func95 rfl rfl rfl rfl (fun c hn => ?_)
 unfold detC4_vc at h
 refine En.sr ?_
 refine WL.rn ht hn 1 ⟨[sl 0 (I m)], []⟩ ?_
 refine En.sr ?_
 refine WL.r ht hn 3 ⟨[sl 0 (I m), sl 5 (B (m != 0))], []⟩ ?_
 refine WL.thru ⟨[sl 2 (B ((m != 0) && (m != 1)))], []⟩ ?_ ?_
 refine splitB (m != 0) (fun hb0 => ?_) (fun hb0 => ?_)
 refine WL.sB 5 hb0 ?_
 refine WL.r ht hn 4 ⟨[sl 2 (B (m != 1))], []⟩ ?_
 exact WL.nil (sub_ok (by simp only [hb0]; kernel_rfl))
 refine WL.sB 5 hb0 ?_
 refine WL.r ht hn 4 ⟨[sl 2 (B false)], []⟩ ?_
 exact WL.nil (sub_ok (by simp only [hb0]; kernel_rfl))
 exact En.rb ht ((m != 0) && (m != 1)) h
theorem en95 : ∀ args w, (callFunc 95 args).run Try.prog w = .ok (.enter 95 args) w := enters_of Try.func95 (by kernel_rfl) rfl
theorem detC1_ct (r : List Int) (x : ApiDet)  : Ct 92 [.sv (.one (LS intT r)), .sv (.one (.ptr 0 0))] [.box [I x.fLetters, I x.fStart, LS (lsT intT) x.fNext, LS intT x.fMark] 25 true] (fun (_ : Unit) => True) (fun _ => .sv (.one (B ((r.length : Int) != x.fLetters)))) := by
 refine (detC1_walk r x (fun res_ => res_ = ((r.length : Int) != x.fLetters)) ?_).fun
 exact fun _ => rfl
theorem detC2_ct (q : Int) (n : Int)  : Ct 93 [.sv (.one (I q)), .sv (.one (.ptr 0 0))] [.box [I n] 3 true] (fun (_ : Unit) => True) (fun _ => .sv (.one (B (altNo n q)))) := by
 refine (detC2_walk q n (fun res_ => res_ = (altNo n q)) ?_).fun
 rfl
theorem detC3_ct (l : List Int) (domno : (Int → Prop)) (no : (Int → Bool)) (hd : ∀ x ∈ l, domno x) : Ct 94 [.sv (.one (LS intT l)), .sv (.one (.ptr 0 0))] [.box [.rd (fvR (fun (x : Int) => [.sv (.one (I x))]) (fun (r : Bool) => .sv (.one (B r))) domno no)] 92 true] (fun (_ : Unit) => True) (fun _ => .sv (.one (B (l.any no)))) := by
 refine (detC3_walk l domno no (fun res_ => res_ = (l.any no)) ?_).fun
 exact fun _ => ⟨hd, rfl⟩
theorem detC4_ct (m : Int)  : Ct 95 [.sv (.one (I m))] [] (fun (_ : Unit) => True) (fun _ => .sv (.one (B ((m != 0) && (m != 1))))) := by
 refine (detC4_walk m (fun res_ => res_ = ((m != 0) && (m != 1))) ?_).fun
 rfl
def detCheck_vc (x : ApiDet) (Q : Int → Prop) : Prop :=
 x.fNext.length ≤ 9223372036854775807 →
 x.fMark.length ≤ 9223372036854775807 →
 (IfP ((decide (x.fLetters < 1)) || (decide (x.fLetters > 4))) (Q 2) (IfP ((decide ((x.fNext.length : Int) < 1)) || (decide ((x.fNext.length : Int) > 3000))) (Q 1) (∃ J : Bool → Prop, (IfP ((x.fMark.length : Int) != (x.fNext.length : Int)) (J true) ((∀ x_ ∈ x.fNext, (fun _ => True) x_) ∧
 J (x.fNext.any (fun r => (r.length : Int) != (x).fLetters)))) ∧
 (∀ (x32 : Bool), J x32 → IfP x32 (Q 3) (∃ J_2 : Bool → Prop, (((fun _ => True) x.fStart) ∧
 IfP ((altNo (x.fNext.length : Int)) x.fStart) (J_2 true) ((∀ x_ ∈ x.fNext, (fun l => ∀ x ∈ l, (fun _ => True) x) x_) ∧
 J_2 (x.fNext.any (fun l => l.any (altNo (x.fNext.length : Int)))))) ∧
 (∀ (x43 : Bool), J_2 x43 → IfP x43 (Q 2) ((∀ x_ ∈ x.fMark, (fun _ => True) x_) ∧
 IfP (x.fMark.any (fun m => (m != 0) && (m != 1))) (Q 2) (Q 0))))))))
noncomputable abbrev qm0 (x : ApiDet) := ([.box (ApiDet.cl x) 25 false, .box [I (x.fNext.length : Int)] 3 false] : List Item)
noncomputable abbrev qm1 := sl 1 (.ptr 0 0)
noncomputable abbrev qm2 (x : ApiDet) := (altNo (x.fNext.length : Int))
noncomputable abbrev qm3 (x : ApiDet) := ([.box (ApiDet.cl x) 25 false, .gone, .gone] : List Item)
noncomputable abbrev qm4 := sl 3 (.ptr 1 0)
theorem detCheck_walk (x : ApiDet) (Q : Int → Prop) (h : detCheck_vc x Q) : Ct 52 [.sv (.agg [I x.fLetters, I x.fStart, LS (lsT intT) x.fNext, LS intT x.fMark])] [] Q (fun (r : Int) => .sv (.one (I r))) := by
 have ht := tab_ok
 refine Ct.body Try.func52 rfl rfl rfl rfl (fun c hn => ?_)
 unfold detCheck_vc at h
 refine En.lenA 0 2 (by rfl) (by rfl) (fun hl => ?_)
 replace h := h hl
 clear hl
 refine En.lenA 0 3 (by rfl) (by rfl) (fun hl => ?_)
 replace h := h hl
 clear hl
 refine En.sr ?_
 refine WL.rn ht hn 2 ⟨[qm1], [.box (ApiDet.cl x) 25 false]⟩ ?_
 refine En.seq ?_
 refine En.sr ?_
 refine WL.r ht hn 4 ⟨[qm1, sl 8 (B (decide (x.fLetters < 1)))], [.box (ApiDet.cl x) 25 false]⟩ ?_
 refine WL.thru ⟨[qm1, sl 12 (B ((decide (x.fLetters < 1)) || (decide (x.fLetters > 4))))], [.box (ApiDet.cl x) 25 false]⟩ ?_ ?_
 refine splitB (decide (x.fLetters < 1)) (fun hb0 => ?_) (fun hb0 => ?_)
 refine WL.sB 8 hb0 ?_
 refine WL.r ht hn 4 ⟨[qm1, sl 12 (B true)], [.box (ApiDet.cl x) 25 false]⟩ ?_
 exact WL.nil (sub_ok (by simp only [hb0]; kernel_rfl))
 refine WL.sB 8 hb0 ?_
 refine WL.r ht hn 4 ⟨[qm1, sl 12 (B (decide (x.fLetters > 4)))], [.box (ApiDet.cl x) 25 false]⟩ ?_
 exact WL.nil (sub_ok (by simp only [hb0]; kernel_rfl))
 refine En.ch h (fun h => ?_) (fun h => ?_)
 refine En.sr ?_
 refine WL.rn ht hn 1 ⟨[sl 2 (I 2)], [.gone]⟩ ?_
 exact En.rb ht 2 h
 refine En.skip ?_
 refine En.sr ?_
 refine WL.rn ht hn 5 ⟨[qm1, qm4], (qm0 x)⟩ ?_
 refine En.seq ?_
 refine En.sr ?_
 refine WL.r ht hn 3 ⟨[qm1, qm4, sl 18 (B (decide ((x.fNext.length : Int) < 1)))], (qm0 x)⟩ ?_
 refine WL.thru ⟨[qm1, qm4, sl 21 (B ((decide ((x.fNext.length : Int) < 1)) || (decide ((x.fNext.length : Int) > 3000))))], (qm0 x)⟩ ?_ ?_
 refine splitB (decide ((x.fNext.length : Int) < 1)) (fun hb0 => ?_) (fun hb0 => ?_)
 refine WL.sB 18 hb0 ?_
 refine WL.r ht hn 3 ⟨[qm1, qm4, sl 21 (B true)], (qm0 x)⟩ ?_
 exact WL.nil (sub_ok (by simp only [hb0]; kernel_rfl))
 refine WL.sB 18 hb0 ?_
 refine WL.r ht hn 3 ⟨[qm1, qm4, sl 21 (B (decide ((x.fNext.length : Int) > 3000)))], (qm0 x)⟩ ?_
 exact WL.nil (sub_ok (by simp only [hb0]; kernel_rfl))
 refine En.ch h (fun h => ?_) (fun h => ?_)
 refine En.sr ?_
 refine WL.rn ht hn 1 ⟨[sl 2 (I 1)], [.gone, .gone]⟩ ?_
 exact En.rb ht 1 h
 refine En.skip ?_
 refine En.seq ?_
 obtain ⟨J, h, hJ⟩ := h
 refine En.seqJ (σ := Bool) (fun zz => J zz) (fun zz => ⟨[qm1, qm4, sl 32 (B zz)], (qm0 x)⟩) ?_ ?_
 refine En.region ?_
 refine WL.r ht hn 6 ⟨[qm1, qm4, sl 27 (B ((x.fMark.length : Int) != (x.fNext.length : Int)))], (qm0 x)⟩ ?_
 refine splitB ((x.fMark.length : Int) != (x.fNext.length : Int)) (fun hb => ?_) (fun hb => ?_)
 replace h := h.1 hb
 refine WL.sB 27 hb ?_
 refine WL.rn ht hn 5 ⟨[qm1, qm4, sl 32 (B true)], (qm0 x)⟩ ?_
 exact En.at (I := fun zz => J zz) (T := fun zz => ⟨[qm1, qm4, sl 32 (B zz)], (qm0 x)⟩) true h (by kernel_rfl)
 replace h := h.2 hb
 refine WL.sB 27 hb ?_
 refine WL.r ht hn 3 ⟨[qm1, qm4, sl 27 (B false), sl 29 (LS (lsT intT) x.fNext), sl 30 (.fn 92 [0])], (qm0 x)⟩ ?_
 obtain ⟨hp, h⟩ := h
 refine WL.m0 hn (mt_lendF [0] (by rfl) (by rfl) (mt_ghost 30 (o1 (.rd (fvR (fun (x_ : List Int) => [.sv (.one (LS intT x_))]) (fun (r : Bool) => .sv (.one (B r))) (fun _ => True) (fun r => (r.length : Int) != (x).fLetters)))) (by rfl) (fv_of (M := [.box (ApiDet.cl x) 25 true]) (caps := [0]) (fun x_ _ => detC1_ct x_ x) en92 rfl (by kernel_rfl) (by rfl) (fun _ => rfl)) (mt_c (anyLInt_ct x.fNext (fun _ => True) (fun r => (r.length : Int) != (x).fLetters) hp) en34 rfl))) ?_
 refine WL.rn ht hn 1 ⟨[qm1, qm4, sl 32 (B (x.fNext.any (fun r => (r.length : Int) != (x).fLetters)))], (qm0 x)⟩ ?_
 exact En.at (I := fun zz => J zz) (T := fun zz => ⟨[qm1, qm4, sl 32 (B zz)], (qm0 x)⟩) (x.fNext.any (fun r => (r.length : Int) != (x).fLetters)) h (by kernel_rfl)
 intro x32 h
 replace h := hJ _ h
 show En c ⟨[qm1, qm4, sl 32 (B x32)], (qm0 x)⟩ _
 refine En.ch h (fun h => ?_) (fun h => ?_)
 refine En.sr ?_
 refine WL.rn ht hn 1 ⟨[sl 2 (I 3)], [.gone, .gone]⟩ ?_
 exact En.rb ht 3 h
 refine En.skip ?_
 refine En.sr ?_
 refine WL.rn ht hn 3 ⟨[qm1, sl 4 (.ptr 2 0)], [.box (ApiDet.cl x) 25 false, .box [I (x.fNext.length : Int)] 3 false, .box [.fn 93 [1]] 92 false]⟩ ?_
 refine En.seq ?_
 obtain ⟨J_2, h, hJ_2⟩ := h
 refine En.seqJ (σ := Bool) (fun zz => J_2 zz) (fun zz => ⟨[qm1, sl 43 (B zz)], (qm3 x)⟩) ?_ ?_
 refine En.region ?_
 refine WL.r ht hn 3 ⟨[qm1, sl 4 (.ptr 2 0), sl 34 (.fn 93 [1]), sl 36 (I x.fStart)], [.box (ApiDet.cl x) 25 false, .box [I (x.fNext.length : Int)] 3 false, .box [.fn 93 [1]] 92 false]⟩ ?_
 refine WL.freeze [1] (by rfl) ?_
 refine WL.ghost 34 (o1 (.rd (fvR (fun (x_ : Int) => [.sv (.one (I x_))]) (fun (r : Bool) => .sv (.one (B r))) (fun _ => True) (qm2 x)))) (by rfl) (fv_of (M := [.box [I (x.fNext.length : Int)] 3 true]) (caps := [1]) (fun x_ _ => detC2_ct x_ (x.fNext.length : Int)) en93 rfl (by kernel_rfl) (by rfl) (fun _ => rfl)) ?_
 obtain ⟨hp, h⟩ := h
 refine WL.m0 hn (mt_callv x.fStart hp rfl (by rfl) (by rfl) (by rfl) (by rfl)) ?_
 refine WL.r ht hn 1 ⟨[qm1, sl 4 (.ptr 2 0), sl 38 (B ((qm2 x) x.fStart))], [.box (ApiDet.cl x) 25 false, .box [I (x.fNext.length : Int)] 3 true, .box [.fn 93 [1]] 92 false]⟩ ?_
 refine splitB ((qm2 x) x.fStart) (fun hb => ?_) (fun hb => ?_)
 replace h := h.1 hb
 refine WL.sB 38 hb ?_
 refine WL.rn ht hn 5 ⟨[qm1, sl 43 (B true)], (qm3 x)⟩ ?_
 exact En.at (I := fun zz => J_2 zz) (T := fun zz => ⟨[qm1, sl 43 (B zz)], (qm3 x)⟩) true h (by kernel_rfl)
 replace h := h.2 hb
 refine WL.sB 38 hb ?_
 refine WL.r ht hn 3 ⟨[qm1, sl 38 (B false), sl 40 (LS (lsT intT) x.fNext), sl 41 (.fn 94 [2])], [.box (ApiDet.cl x) 25 false, .box [I (x.fNext.length : Int)] 3 true, .box [.fn 93 [1]] 92 false]⟩ ?_
 obtain ⟨hp, h⟩ := h
 refine WL.m0 hn (mt_lendB (.rd (fvR (fun (x_ : Int) => [.sv (.one (I x_))]) (fun (r : Bool) => .sv (.one (B r))) (fun _ => True) (qm2 x))) 2 0 (by rfl) (by rfl) (fv_at (fv_of (M := [.box [I (x.fNext.length : Int)] 3 true]) (caps := [1]) (fun x_ _ => detC2_ct x_ (x.fNext.length : Int)) en93 rfl (by kernel_rfl) (by rfl) (fun _ => rfl))) (mt_lendF [2] (by rfl) (by rfl) (mt_ghost 41 (o1 (.rd (fvR (fun (x_ : List Int) => [.sv (.one (LS intT x_))]) (fun (r : Bool) => .sv (.one (B r))) (fun l => ∀ x ∈ l, (fun _ => True) x) (fun l => l.any (qm2 x))))) (by rfl) (fv_of (M := [.box [.rd (fvR (fun (x_ : Int) => [.sv (.one (I x_))]) (fun (r : Bool) => .sv (.one (B r))) (fun _ => True) (qm2 x))] 92 true]) (caps := [2]) (fun x_ hx => detC3_ct x_ (fun _ => True) (qm2 x) hx) en94 rfl (by kernel_rfl) (by rfl) (fun _ => rfl)) (mt_c (anyLInt_ct x.fNext (fun l => ∀ x ∈ l, (fun _ => True) x) (fun l => l.any (qm2 x)) hp) en34 rfl)))) ?_
 refine WL.rn ht hn 1 ⟨[qm1, sl 43 (B (x.fNext.any (fun l => l.any (qm2 x))))], (qm3 x)⟩ ?_
 exact En.at (I := fun zz => J_2 zz) (T := fun zz => ⟨[qm1, sl 43 (B zz)], (qm3 x)⟩) (x.fNext.any (fun l => l.any (qm2 x))) h (by kernel_rfl)
 intro x43 h
 replace h := hJ_2 _ h
 show En c ⟨[qm1, sl 43 (B x43)], (qm3 x)⟩ _
 refine En.ch h (fun h => ?_) (fun h => ?_)
 refine En.sr ?_
 refine WL.rn ht hn 1 ⟨[sl 2 (I 2)], [.gone, .gone, .gone]⟩ ?_
 exact En.rb ht 2 h
 refine En.skip ?_
 refine En.seq ?_
 refine En.sr ?_
 refine WL.r ht hn 2 ⟨[sl 45 (LS intT x.fMark)], [.gone, .gone, .gone]⟩ ?_
 obtain ⟨hp, h⟩ := h
 refine WL.m0 hn (mt_c (Ct.args (anyInt_ct x.fMark (fun _ => True) (fun m => (m != 0) && (m != 1)) hp) (argLe_same (argLe_to (fv_const (ins := (fun (x_ : Int) => [.sv (.one (I x_))])) (out := (fun (r : Bool) => .sv (.one (B r)))) (dom := (fun _ => True)) (φ := (fun m => (m != 0) && (m != 1))) (fun x_ _ => detC4_ct x_) en95) argLe_nil))) en41 rfl) ?_
 refine WL.nil ?_
 refine En.ch h (fun h => ?_) (fun h => ?_)
 refine En.sr ?_
 refine WL.rn ht hn 1 ⟨[sl 2 (I 2)], [.gone, .gone, .gone]⟩ ?_
 exact En.rb ht 2 h
 refine En.skip ?_
 refine En.sr ?_
 refine WL.rn ht hn 1 ⟨[sl 2 (I 0)], [.gone, .gone, .gone]⟩ ?_
 exact En.rb ht 0 h
theorem en52 : ∀ args w, (callFunc 52 args).run Try.prog w = .ok (.enter 52 args) w := enters_of Try.func52 (by kernel_rfl) rfl
theorem detCheck_ct (x : ApiDet)  : Ct 52 [.sv (.agg [I x.fLetters, I x.fStart, LS (lsT intT) x.fNext, LS intT x.fMark])] [] (fun (_ : Unit) => True) (fun _ => .sv (.one (I (detErr x)))) := by
 refine (detCheck_walk x (fun res_ => res_ = (detErr x)) ?_).fun
 intro _ _
 refine ⟨fun h1 => ?_, fun h1 => ⟨fun h2 => ?_, fun h2 => ?_⟩⟩
 ·show _ = detErr x
  unfold detErr; rw [if_pos h1]
 ·show _ = detErr x
  unfold detErr; rw [if_neg (by rw [h1]; decide), if_pos h2]
 refine ⟨fun b => b = (((x.fMark.length : Int) != (x.fNext.length : Int)) || x.fNext.any (fun r => (r.length : Int) != (x).fLetters)), ⟨fun h => by rw [h]; rfl, fun h => ⟨fun _ _ => trivial, by rw [h]; rfl⟩⟩, ?_⟩
 rintro b rfl
 refine ⟨fun h3 => ?_, fun h3 => ?_⟩
 ·show _ = detErr x
  unfold detErr; rw [if_neg (by rw [h1]; decide), if_neg (by rw [h2]; decide), if_pos h3]
 refine ⟨fun b => b = (altNo (x.fNext.length : Int) x.fStart || x.fNext.any (fun l => l.any (altNo (x.fNext.length : Int)))), ⟨trivial, fun h => by rw [h]; rfl, fun h => ⟨fun _ _ _ _ => trivial, by rw [h]; rfl⟩⟩, ?_⟩
 rintro b rfl
 refine ⟨fun h4 => ?_, fun h4 => ⟨fun _ _ => trivial, fun h5 => ?_, fun h5 => ?_⟩⟩
 ·show _ = detErr x
  unfold detErr; rw [if_neg (by rw [h1]; decide), if_neg (by rw [h2]; decide), if_neg (by rw [h3]; decide), if_pos h4]
 ·show _ = detErr x
  unfold detErr; rw [if_neg (by rw [h1]; decide), if_neg (by rw [h2]; decide), if_neg (by rw [h3]; decide), if_neg (by rw [h4]; decide), if_pos h5]
 ·show _ = detErr x
  unfold detErr; rw [if_neg (by rw [h1]; decide), if_neg (by rw [h2]; decide), if_neg (by rw [h3]; decide), if_neg (by rw [h4]; decide), if_neg (by rw [h5]; decide)]
def detLeast_vc (x : ApiDet) (Q : (ApiDet × Int) → Prop) : Prop :=
 x.fNext.length ≤ 9223372036854775807 →
 x.fMark.length ≤ 9223372036854775807 →
 (IfP ((detErr x) != 0) (Q ((ApiDet.mk 0 0 [] []), (detErr x))) ((ClsOk x) ∧
 Q ((canon (x).fLetters.toNat (langD x (x).fStart.toNat)), 0)))
noncomputable abbrev qn0 := (.box [I 0, I 0, .v (.slice none 0 0), .v (.slice none 0 0)] 25 false : Item)
theorem detLeast_walk (x : ApiDet) (Q : (ApiDet × Int) → Prop) (h : detLeast_vc x Q) : Ct 31 [.sv (.agg [I x.fLetters, I x.fStart, LS (lsT intT) x.fNext, LS intT x.fMark])] [] Q (fun (r : (ApiDet × Int)) => .tup [.agg [I r.1.fLetters, I r.1.fStart, LS (lsT intT) r.1.fNext, LS intT r.1.fMark], .one (I r.2)]) := by
 have ht := tab_ok
 refine Ct.body Try.func31 rfl rfl rfl rfl (fun c hn => ?_)
 unfold detLeast_vc at h
 refine En.lenA 0 2 (by rfl) (by rfl) (fun hl => ?_)
 replace h := h hl
 clear hl
 refine En.lenA 0 3 (by rfl) (by rfl) (fun hl => ?_)
 replace h := h hl
 clear hl
 refine En.sr ?_
 refine WL.rn ht hn 3 ⟨[sl 1 (.ptr 0 0), sl 2 (.ptr 1 0)], [.box (ApiDet.cl x) 25 false, qn0]⟩ ?_
 refine En.seq ?_
 refine En.sr ?_
 refine WL.r ht hn 1 ⟨[sl 1 (.ptr 0 0), sl 2 (.ptr 1 0), (5, .sv (.agg (ApiDet.cl x)))], [.box (ApiDet.cl x) 25 false, qn0]⟩ ?_
 refine WL.m0 hn (mt_c (detCheck_ct x) en52 rfl) ?_
 refine WL.rn ht hn 1 ⟨[sl 1 (.ptr 0 0), sl 2 (.ptr 1 0), sl 4 (I (detErr x))], [.box (ApiDet.cl x) 25 false, qn0]⟩ ?_
 refine En.sr ?_
 refine WL.rn ht hn 2 ⟨[sl 1 (.ptr 0 0), sl 2 (.ptr 1 0), sl 4 (I (detErr x)), sl 8 (B ((detErr x) != 0))], [.box (ApiDet.cl x) 25 false, qn0]⟩ ?_
 refine En.ch h (fun h => ?_) (fun h => ?_)
 refine En.sr ?_
 refine WL.rn ht hn 4 ⟨[sl 2 (.ptr 1 0), sl 3 (I (detErr x))], [.gone, qn0]⟩ ?_
 refine En.ret ?_
 refine En.nilBox (T := (lsT intT)) 1 2 (by rfl) (by rfl) ?_
 refine En.nilBox (T := intT) 1 3 (by rfl) (by rfl) ?_
 exact En.back ht ((ApiDet.mk 0 0 [] []), (detErr x)) h (by kernel_rfl) rfl
 refine En.skip ?_
 refine En.sr ?_
 refine WL.r ht hn 1 ⟨[sl 2 (.ptr 1 0), (11, .sv (.agg (ApiDet.cl x)))], [.gone, qn0]⟩ ?_
 obtain ⟨hp, h⟩ := h
 refine WL.m0 hn (mt_c (smallest_ct x hp) en77 rfl) ?_
 refine WL.rn ht hn 2 ⟨[sl 2 (.ptr 1 0), sl 3 (I 0)], [.gone, .box (ApiDet.cl (canon (x).fLetters.toNat (langD x (x).fStart.toNat))) 25 false]⟩ ?_
 exact En.rb ht ((canon (x).fLetters.toNat (langD x (x).fStart.toNat)), 0) h
theorem en31 : ∀ args w, (callFunc 31 args).run Try.prog w = .ok (.enter 31 args) w := enters_of Try.func31 (by kernel_rfl) rfl
theorem detLeast_ct (x : ApiDet)  : Ct 31 [.sv (.agg [I x.fLetters, I x.fStart, LS (lsT intT) x.fNext, LS intT x.fMark])] [] (fun (_ : Unit) => True) (fun _ => .tup [.agg [I (leastR x).1.fLetters, I (leastR x).1.fStart, LS (lsT intT) (leastR x).1.fNext, LS intT (leastR x).1.fMark], .one (I (leastR x).2)]) := by
 refine (detLeast_walk x (fun res_ => res_ = (leastR x)) ?_).fun
 intro _ _
 refine ⟨fun h => ?_, fun h => ?_⟩
 ·show _ = leastR x
  unfold leastR
  rw [if_neg (by simpa using h)]
 ·have h0 : detErr x = 0 := by simpa using h
  refine ⟨((detErr_iff x).1 h0).cls, ?_⟩
  show _ = leastR x
  unfold leastR
  rw [if_pos h0]
def detTwo_vc (x : ApiDet) (y : ApiDet) (Q : Int → Prop) : Prop :=
 x.fNext.length ≤ 9223372036854775807 →
 x.fMark.length ≤ 9223372036854775807 →
 y.fNext.length ≤ 9223372036854775807 →
 y.fMark.length ≤ 9223372036854775807 →
 (∃ (Inv : Int → Prop) (mu : Int → Nat), Inv 0 ∧
 ∀ (x12 : Int) , Inv x12 → (IfP (decide (x12 < (([x, y] : List ApiDet).length : Int))) (∃ e, idx ([x, y] : List ApiDet) x12 = some e ∧
 IfP ((detErr e) != 0) (Q (detErr e)) ((Inv (wr (x12 + 1)) ∧ mu (wr (x12 + 1)) < mu x12))) (IfP (x.fLetters != y.fLetters) (Q 3) (Q 0))))
noncomputable abbrev qo0 (x : ApiDet) (y : ApiDet) := ([.box (ApiDet.cl x) 25 false, .box (ApiDet.cl y) 25 false, rowI 25 ApiDet.ty ([x, y] : List ApiDet)] : List Item)
noncomputable abbrev qo1 (x : ApiDet) (y : ApiDet) := sl 11 (I (([x, y] : List ApiDet).length : Int))
noncomputable abbrev qo2 (x : ApiDet) (y : ApiDet) := ([.box (ApiDet.cl x) 25 false, .box (ApiDet.cl y) 25 false, rowI 25 ApiDet.ty ([x, y] : List ApiDet), .gone] : List Item)
noncomputable abbrev qo3 := sl 2 (.ptr 0 0)
noncomputable abbrev qo4 := sl 3 (.ptr 1 0)
theorem detTwo_walk (x : ApiDet) (y : ApiDet) (Q : Int → Prop) (h : detTwo_vc x y Q) : Ct 130 [.sv (.agg [I x.fLetters, I x.fStart, LS (lsT intT) x.fNext, LS intT x.fMark]), .sv (.agg [I y.fLetters, I y.fStart, LS (lsT intT) y.fNext, LS intT y.fMark])] [] Q (fun (r : Int) => .sv (.one (I r))) := by
 have ht := tab_ok
 refine Ct.body Try.func130 rfl rfl rfl rfl (fun c hn => ?_)
 unfold detTwo_vc at h
 refine En.lenA 0 2 (by rfl) (by rfl) (fun hl => ?_)
 replace h := h hl
 clear hl
 refine En.lenA 0 3 (by rfl) (by rfl) (fun hl => ?_)
 replace h := h hl
 clear hl
 refine En.lenA 1 2 (by rfl) (by rfl) (fun hl => ?_)
 replace h := h hl
 clear hl
 refine En.lenA 1 3 (by rfl) (by rfl) (fun hl => ?_)
 replace h := h hl
 clear hl
 refine En.sr ?_
 refine WL.rn ht hn 3 ⟨[qo3, qo4], [.box (ApiDet.cl x) 25 false, .box (ApiDet.cl y) 25 false]⟩ ?_
 refine En.seq ?_
 refine En.sr ?_
 refine WL.r ht hn 2 ⟨[qo3, qo4, (8, .sv (.agg (ApiDet.cl x))), (9, .sv (.agg (ApiDet.cl y)))], [.box (ApiDet.cl x) 25 false, .box (ApiDet.cl y) 25 false]⟩ ?_
 refine WL.mt0 (K := []) (p := some (2, rowI 25 ApiDet.ty ([x, y] : List ApiDet))) hn (by rfl) (mt_lit (T := ApiDet.ty) ([x, y] : List ApiDet) (mt_bsl 2 (r := cellsOf ApiDet.ty ([x, y] : List ApiDet)) ht rfl (by rfl) (by rfl) (by rfl) (by kernel_rfl) (by rfl)) (fun _ h => by cases h) (fun _ => rfl) (fun _ => rfl) (by rfl) (Nat.le_of_ble_eq_true rfl)) (by rfl) (by rfl) (by rfl) ?_
 refine WL.rn ht hn 2 ⟨[qo3, qo4, sl 10 (.own 2), qo1 x y, sl 12 (I 0)], (qo0 x y)⟩ ?_
 refine En.block ?_
 obtain ⟨Inv, mu, h0, hI⟩ := h
 refine En.loop (σ := Int) (fun zz => Inv zz) (fun zz => mu zz) (fun zz => ⟨[qo3, qo4, sl 10 (.own 2), qo1 x y, sl 12 (I zz)], (qo0 x y)⟩) 0 h0 (sub_ok (by kernel_rfl)) ?_
 intro x12 h
 replace h := hI _ h
 show En c ⟨[qo3, qo4, sl 10 (.own 2), qo1 x y, sl 12 (I x12)], (qo0 x y)⟩ _
 refine En.sr ?_
 refine WL.rn ht hn 1 ⟨[qo3, qo4, sl 10 (.own 2), qo1 x y, sl 12 (I x12), sl 13 (B (decide (x12 < (([x, y] : List ApiDet).length : Int))))], (qo0 x y)⟩ ?_
 refine En.seq ?_
 refine En.ch h (fun h => ?_) (fun h => ?_)
 refine En.skip ?_
 refine En.seq ?_
 refine En.block ?_
 refine En.sr ?_
 obtain ⟨e, he, h⟩ := h
 refine WL.v hn (val_indexO (T := ApiDet.ty) (l := ([x, y] : List ApiDet)) (k := x12) ht rfl (by rfl) (by rfl) (by rfl) (by rfl) (by decide) (by rfl) (by rfl) (by rfl) he) ?_
 refine WL.v hn (val_loadO (T := ApiDet.ty) (l := ([x, y] : List ApiDet)) (y := e) ht rfl (by rfl) (by rfl) (by rfl) (by rfl) (by rfl) (idx_some he).2.2 (by rfl)) ?_
 refine WL.rn ht hn 2 ⟨[qo3, qo4, sl 6 (.ptr 3 0), sl 10 (.own 2), qo1 x y, sl 12 (I x12)], [.box (ApiDet.cl x) 25 false, .box (ApiDet.cl y) 25 false, rowI 25 ApiDet.ty ([x, y] : List ApiDet), .box (ApiDet.cl e) 25 false]⟩ ?_
 refine En.sr ?_
 refine WL.r ht hn 1 ⟨[qo3, qo4, sl 10 (.own 2), qo1 x y, sl 12 (I x12), (16, .sv (.agg (ApiDet.cl e)))], (qo2 x y)⟩ ?_
 refine WL.m0 hn (mt_c (detCheck_ct e) en52 rfl) ?_
 refine WL.rn ht hn 1 ⟨[qo3, qo4, sl 7 (I (detErr e)), sl 10 (.own 2), qo1 x y, sl 12 (I x12)], (qo2 x y)⟩ ?_
 refine En.sr ?_
 refine WL.rn ht hn 2 ⟨[qo3, qo4, sl 7 (I (detErr e)), sl 10 (.own 2), qo1 x y, sl 12 (I x12), sl 19 (B ((detErr e) != 0))], (qo2 x y)⟩ ?_
 refine En.ch h (fun h => ?_) (fun h => ?_)
 refine En.sr ?_
 refine WL.rn ht hn 2 ⟨[sl 4 (I (detErr e))], [.gone, .gone, .gone, .gone]⟩ ?_
 exact En.rb ht (detErr e) h
 refine En.skip ?_
 refine En.region ?_
 refine WL.rn ht hn 2 ⟨[qo3, qo4, sl 10 (.own 2), qo1 x y, sl 12 (I (wr (x12 + 1)))], (qo2 x y)⟩ ?_
 exact En.at (I := fun zz => Inv zz ∧ mu zz < mu x12) (T := fun zz => ⟨[qo3, qo4, sl 10 (.own 2), qo1 x y, sl 12 (I zz)], (qo0 x y)⟩) (wr (x12 + 1)) h (by kernel_rfl)
 refine En.exit rfl ?_
 refine En.seq ?_
 refine En.sr ?_
 refine WL.rn ht hn 5 ⟨[sl 26 (B (x.fLetters != y.fLetters))], [.gone, .gone, .gone]⟩ ?_
 refine En.ch h (fun h => ?_) (fun h => ?_)
 refine En.sr ?_
 refine WL.rn ht hn 1 ⟨[sl 4 (I 3)], [.gone, .gone, .gone]⟩ ?_
 exact En.rb ht 3 h
 refine En.skip ?_
 refine En.sr ?_
 refine WL.rn ht hn 1 ⟨[sl 4 (I 0)], [.gone, .gone, .gone]⟩ ?_
 exact En.rb ht 0 h
theorem en130 : ∀ args w, (callFunc 130 args).run Try.prog w = .ok (.enter 130 args) w := enters_of Try.func130 (by kernel_rfl) rfl
def twoErr (x y : ApiDet) : Int := if detErr x = 0 then (if detErr y = 0 then (if x.fLetters = y.fLetters then 0 else 3) else detErr y) else detErr x
theorem detTwo_ct (x : ApiDet) (y : ApiDet)  : Ct 130 [.sv (.agg [I x.fLetters, I x.fStart, LS (lsT intT) x.fNext, LS intT x.fMark]), .sv (.agg [I y.fLetters, I y.fStart, LS (lsT intT) y.fNext, LS intT y.fMark])] [] (fun (_ : Unit) => True) (fun _ => .sv (.one (I (twoErr x y)))) := by
 refine (detTwo_walk x y (fun res_ => res_ = (twoErr x y)) ?_).fun
 intro _ _ _ _
 refine ⟨fun i => i = 0 ∨ (i = 1 ∧ detErr x = 0) ∨ (i = 2 ∧ detErr x = 0 ∧ detErr y = 0), fun i => 2 - i.toNat, .inl rfl, ?_⟩
 rintro i (rfl | ⟨rfl, hx⟩ | ⟨rfl, hx, hy⟩)
 ·refine ⟨fun _ => ⟨x, rfl, fun h => ?_, fun h => ⟨.inr (.inl ⟨rfl, by simpa using h⟩), by decide⟩⟩, (fun h => by cases h)⟩
  show _ = twoErr x y
  unfold twoErr
  rw [if_neg (by simpa using h)]
 ·refine ⟨fun _ => ⟨y, rfl, fun h => ?_, fun h => ⟨.inr (.inr ⟨rfl, hx, by simpa using h⟩), by decide⟩⟩, (fun h => by cases h)⟩
  show _ = twoErr x y
  unfold twoErr
  rw [if_pos hx, if_neg (by simpa using h)]
 ·refine ⟨(fun h => by cases h), fun _ => ⟨fun h => ?_, fun h => ?_⟩⟩
  ·show _ = twoErr x y
   unfold twoErr
   rw [if_pos hx, if_pos hy, if_neg (by simpa using h)]
  ·show _ = twoErr x y
   unfold twoErr
   rw [if_pos hx, if_pos hy, if_pos (by simpa using h)]
theorem twoErr_iff (x y : ApiDet) : twoErr x y = 0 ↔ DetOk x ∧ DetOk y ∧ x.fLetters = y.fLetters := by
 unfold twoErr
 rw [← detErr_iff, ← detErr_iff]
 constructor
 ·intro h
  by_cases h1 : detErr x = 0
  ·rw [if_pos h1] at h
   by_cases h2 : detErr y = 0
   ·rw [if_pos h2] at h
    by_cases h3 : x.fLetters = y.fLetters
    ·exact ⟨h1, h2, h3⟩
    ·rw [if_neg h3] at h; cases h
   ·rw [if_neg h2] at h; exact absurd h h2
  ·rw [if_neg h1] at h; exact absurd h h1
 ·rintro ⟨h1, h2, h3⟩
  rw [if_pos h1, if_pos h2, if_pos h3]
end Go.Proofs.Ytobenjahlicnoaa
