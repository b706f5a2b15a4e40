/- Lemmas towards the statement: mirrors of functions, and plain laws. No condition. -/
import Derived.Test.YtapnmjeadbhffaaPackRegularSums4


namespace Go.Proofs.Ytapnmjeadbhffaa
open Go.RowKit Go.MapKept
set_option linter.unusedSimpArgs false
set_option linter.unusedVariables false
set_option maxRecDepth 100000
def cloneInt_vc (l : (List Int)) (Q : (List Int) → Prop) : Prop :=
 l.length ≤ 9223372036854775807 →
 (∀ isnil : Bool, (isnil = true → l = []) →
 (IfP (isnil != false) (Q []) (capOk ([] : (List Int)).length (l : (List Int)).length 8 ∧
 Q (([] : (List Int)) ++ l))))
theorem cloneInt_walk (l : (List Int)) (Q : (List Int) → Prop) (h : cloneInt_vc l Q) : CtJ 49 [.sv (.one (LS intT l))] [] Q (fun (r : (List Int)) => rowI 3 intT r) := by
 have ht := tab_ok
 refine CtJ.body Try.func49 rfl rfl rfl rfl (fun c hn hmay => ?_)
 unfold cloneInt_vc at h
 refine En.lenL 0 (by rfl) (fun hl => ?_)
 replace h := h hl
 clear hl
 refine En.seq ?_
 refine En.region ?_
 refine WL.run ht hn 1 ⟨[sl 0 (LS intT l)], []⟩ (by kernel_rfl) ?_
 refine WL.nil ?_
 refine En.seq ?_
 refine En.seq ?_
 refine En.region ?_
 refine WL.run ht hn 1 ⟨[sl 0 (LS intT l), sl 3 (LS intT l)], []⟩ (by kernel_rfl) ?_
 refine WL.eqNil (T := intT) (l := l) .eql false (by simp) ht hn (by rfl) rfl (by rfl) (by rfl) (by rfl) rfl (by rfl) (fun isnil hisnil => ?_)
 replace h := h isnil hisnil
 clear hisnil
 refine WL.nil ?_
 refine En.cond (b := (isnil != false)) (by kernel_rfl) (fun hb => ?_) (fun hb => ?_)
 replace h := h.1 hb
 refine En.seq ?_
 refine En.region ?_
 refine WL.run ht hn 1 ⟨[sl 2 (.v (.slice none 0 0))], []⟩ (by kernel_rfl) ?_
 refine WL.nil ?_
 refine En.ret ?_
 exact En.backN (by rfl) h
 replace h := h.2 hb
 refine En.skip ?_
 refine En.seq ?_
 refine En.region ?_
 refine WL.mt0 (K := []) (p := some (0, rowI 3 intT ([] : (List Int)))) hn (by rfl) (mt_empty intT 0 ht rfl (by rfl) (by rfl) (by rfl)) (by rfl) (by rfl) (by rfl) ?_
 refine WL.run ht hn 1 ⟨[sl 5 (.own 0), sl 6 (LS intT l)], [rowI 3 intT ([] : (List Int))]⟩ (by kernel_rfl) ?_
 have hp := h.1
 replace h := h.2
 refine WL.mt (S2 := ⟨[sl 6 (LS intT l)], [rowI 3 intT ([] : (List Int))]⟩) (K := [0]) (p := some (0, rowI 3 intT (([] : (List Int)) ++ l))) hn (by rfl) (mt_append (T := intT) (l := ([] : (List Int))) (es := l) ht rfl (by rfl) (by rfl) (by rfl) (by rfl) (by decide) (by rfl) (by rfl) (srcLS (T := intT) (es := l) (fun _ h => by cases h) (by decide) (by rfl)) (by exact hp) (by exact hp.le (by decide))) (by kernel_rfl) (by rfl) (by rfl) (by rfl) ?_
 refine WL.run ht hn 1 ⟨[sl 2 (.own 0)], [rowI 3 intT (([] : (List Int)) ++ l)]⟩ (by kernel_rfl) ?_
 refine WL.nil ?_
 refine En.ret ?_
 exact En.backJ (itf := fun l => rowI 3 intT l) hmay (by rfl) (by rfl) rfl rfl h
theorem en49 : ∀ args w, (callFunc 49 args).run Try.prog w = .ok (.enter 49 args) w := enters_of Try.func49 (by kernel_rfl) rfl
theorem cloneInt_ct (l : List Int) (hp : l.length * 8 ≤ 140737488355328) : CtI 49 [.sv (.one (LS intT l))] [] (rowI 3 intT l) := by
 refine (cloneInt_walk l (fun r => r = l) ?_).fun
 unfold cloneInt_vc
 refine fun _ isnil h => ⟨fun hb => (h (by simpa using hb)).symm, fun _ => ⟨?_, by simp⟩⟩
 unfold capOk
 simpa using hp
def exploreInt_vc (letters : Int) (start : Int) (domgo : ((Int × Int) → Prop)) (go : ((Int × Int) → Int)) (dommark : (Int → Prop)) (mark : (Int → Int)) (limit : Int) (Q : (ApiDet × Bool) → Prop) : Prop :=
 ∃ (Inv : (List (Int × Int)) → (List Int) → (List (List Int)) → (List Int) → Prop) (mu : (List (Int × Int)) → (List Int) → (List (List Int)) → (List Int) → Nat), Inv (mput start 0 ([] : List (Int × Int))) ([start] : (List Int)) ([] : (List (List Int))) ([] : (List Int)) ∧
 ∀ (m2 : (List (Int × Int))) (l3 : (List Int)) (l6 : (List (List Int))) (l7 : (List Int)) , Inv m2 l3 l6 l7 → (IfP (decide ((l6.length : Int) < (l3.length : Int))) (∃ e, idx l3 (l6.length : Int) = some e ∧
 makeOk letters letters 8 ∧
 ∃ (Inv_2 : Int → (List (Int × Int)) → (List Int) → (List Int) → Prop) (mu_2 : Int → (List (Int × Int)) → (List Int) → (List Int) → Nat), Inv_2 0 m2 l3 (List.replicate (letters).toNat (0 : Int)) ∧
 ∀ (x43 : Int) (m2_2 : (List (Int × Int))) (l3_2 : (List Int)) (l8 : (List Int)) , Inv_2 x43 m2_2 l3_2 l8 → (IfP (decide (x43 < letters)) ((domgo (e, x43)) ∧
 ∃ J : Int → (List (Int × Int)) → (List Int) → Prop, (IfP (!(mget (go (e, x43)) m2_2).isSome) (IfP ((l3_2.length : Int) == limit) (Q ((ApiDet.mk 0 0 [] []), false)) (capOk l3_2.length (([(go (e, x43))] : (List Int)) : (List Int)).length 8 ∧
 J (l3_2.length : Int) (mput (go (e, x43)) (l3_2.length : Int) m2_2) (l3_2 ++ ([(go (e, x43))] : (List Int))))) (J ((mget (go (e, x43)) m2_2).getD (0 : Int)) m2_2 l3_2)) ∧
 (∀ (x19 : Int) (m2_3 : (List (Int × Int))) (l3_3 : (List Int)), J x19 m2_3 l3_3 → ∃ e_2, idx l8 x43 = some e_2 ∧
 (Inv_2 (wr (x43 + 1)) m2_3 l3_3 (l8.set (x43).toNat x19) ∧ mu_2 (wr (x43 + 1)) m2_3 l3_3 (l8.set (x43).toNat x19) < mu_2 x43 m2_2 l3_2 l8))) (capOk l6.length (([l8] : (List (List Int))) : (List (List Int))).length 24 ∧
 (dommark e) ∧
 capOk l7.length (([(mark e)] : (List Int)) : (List Int)).length 8 ∧
 (Inv m2_2 l3_2 (l6 ++ ([l8] : (List (List Int)))) (l7 ++ ([(mark e)] : (List Int))) ∧ mu m2_2 l3_2 (l6 ++ ([l8] : (List (List Int)))) (l7 ++ ([(mark e)] : (List Int))) < mu m2 l3 l6 l7)))) (Q ((ApiDet.mk letters 0 l6 l7), true)))
set_option maxHeartbeats 2000000 in
theorem exploreInt_walk (letters : Int) (start : Int) (domgo : ((Int × Int) → Prop)) (go : ((Int × Int) → Int)) (dommark : (Int → Prop)) (mark : (Int → Int)) (limit : Int) (Q : (ApiDet × Bool) → Prop) (h : exploreInt_vc letters start domgo go dommark mark limit Q) : Ct 74 [.sv (.one (I letters)), .sv (.one (I start)), .sv (.one (.rd (fvR (fun (x : (Int × Int)) => [.sv (.one (I x.1)), .sv (.one (I x.2))]) (fun (r : Int) => .sv (.one (I r))) domgo go))), .sv (.one (.rd (fvR (fun (x : Int) => [.sv (.one (I x))]) (fun (r : Int) => .sv (.one (I r))) dommark mark))), .sv (.one (I limit))] [] Q (fun (r : (ApiDet × Bool)) => .tup [.agg [I r.1.fLetters, I r.1.fStart, LS (lsT intT) r.1.fNext, LS intT r.1.fMark], .one (B r.2)]) := by
 have ht := tab_ok
 refine Ct.body Try.func74 rfl rfl rfl rfl (fun c hn => ?_)
 unfold exploreInt_vc at h
 refine En.seq ?_
 refine En.region ?_
 refine WL.run ht hn 2 ⟨[sl 0 (I letters), sl 1 (I start), sl 2 (.rd (fvR (fun (x : (Int × Int)) => [.sv (.one (I x.1)), .sv (.one (I x.2))]) (fun (r : Int) => .sv (.one (I r))) domgo go)), sl 3 (.rd (fvR (fun (x : Int) => [.sv (.one (I x))]) (fun (r : Int) => .sv (.one (I r))) dommark mark)), sl 4 (I limit), sl 10 (.ptr 0 0)], [.box [I 0, I 0, .v (.slice none 0 0), .v (.slice none 0 0)] 73 false]⟩ (by kernel_rfl) ?_
 refine WL.nil ?_
 refine En.seq ?_
 refine En.region ?_
 refine WL.run ht hn 4 ⟨[sl 0 (I letters), sl 1 (I start), sl 2 (.rd (fvR (fun (x : (Int × Int)) => [.sv (.one (I x.1)), .sv (.one (I x.2))]) (fun (r : Int) => .sv (.one (I r))) domgo go)), sl 3 (.rd (fvR (fun (x : Int) => [.sv (.one (I x))]) (fun (r : Int) => .sv (.one (I r))) dommark mark)), sl 4 (I limit), sl 10 (.ptr 0 0), sl 12 (.ptr 1 0)], [.box [I 0, I 0, .v (.slice none 0 0), .v (.slice none 0 0)] 73 false, .box [I letters, I 0, .v (.slice none 0 0), .v (.slice none 0 0)] 73 false]⟩ (by kernel_rfl) ?_
 refine WL.nil ?_
 refine En.seq ?_
 refine En.region ?_
 refine WL.mt0 (K := []) (p := some (2, mapI encI3 intT ([] : List (Int × Int)))) hn (by rfl) (mt_makeMap encI3 intT 2 rfl) (by rfl) (by rfl) (by rfl) ?_
 refine WL.run ht hn 1 ⟨[sl 0 (I letters), sl 1 (I start), sl 2 (.rd (fvR (fun (x : (Int × Int)) => [.sv (.one (I x.1)), .sv (.one (I x.2))]) (fun (r : Int) => .sv (.one (I r))) domgo go)), sl 3 (.rd (fvR (fun (x : Int) => [.sv (.one (I x))]) (fun (r : Int) => .sv (.one (I r))) dommark mark)), sl 4 (I limit), sl 10 (.ptr 0 0), sl 12 (.ptr 1 0), sl 23 (.own 2), sl 24 (I start)], [.box [I 0, I 0, .v (.slice none 0 0), .v (.slice none 0 0)] 73 false, .box [I letters, I 0, .v (.slice none 0 0), .v (.slice none 0 0)] 73 false, mapI encI3 intT ([] : List (Int × Int))]⟩ (by kernel_rfl) ?_
 refine WL.mapPut (T := intT) keyI3 (k := start) (y := 0) hn (by rfl) (.inr rfl) Try.underlying274 (by rfl) (by rfl) (by rfl) (by rfl) (by rfl) (by rfl) ?_
 refine WL.run ht hn 2 ⟨[sl 0 (I letters), sl 1 (I start), sl 2 (.rd (fvR (fun (x : (Int × Int)) => [.sv (.one (I x.1)), .sv (.one (I x.2))]) (fun (r : Int) => .sv (.one (I r))) domgo go)), sl 3 (.rd (fvR (fun (x : Int) => [.sv (.one (I x))]) (fun (r : Int) => .sv (.one (I r))) dommark mark)), sl 4 (I limit), sl 10 (.ptr 0 0), sl 12 (.ptr 1 0), sl 13 (.own 2)], [.box [I 0, I 0, .v (.slice none 0 0), .v (.slice none 0 0)] 73 false, .box [I letters, I 0, .v (.slice none 0 0), .v (.slice none 0 0)] 73 false, mapI encI3 intT (mput start 0 ([] : List (Int × Int)))]⟩ (by kernel_rfl) ?_
 refine WL.nil ?_
 refine En.seq ?_
 refine En.seq ?_
 refine En.region ?_
 refine WL.run ht hn 1 ⟨[sl 0 (I letters), sl 2 (.rd (fvR (fun (x : (Int × Int)) => [.sv (.one (I x.1)), .sv (.one (I x.2))]) (fun (r : Int) => .sv (.one (I r))) domgo go)), sl 3 (.rd (fvR (fun (x : Int) => [.sv (.one (I x))]) (fun (r : Int) => .sv (.one (I r))) dommark mark)), sl 4 (I limit), sl 10 (.ptr 0 0), sl 12 (.ptr 1 0), sl 13 (.own 2), sl 26 (I start)], [.box [I 0, I 0, .v (.slice none 0 0), .v (.slice none 0 0)] 73 false, .box [I letters, I 0, .v (.slice none 0 0), .v (.slice none 0 0)] 73 false, mapI encI3 intT (mput start 0 ([] : List (Int × Int)))]⟩ (by kernel_rfl) ?_
 refine WL.mt0 (K := []) (p := some (3, rowI 3 intT ([start] : (List Int)))) hn (by rfl) (mt_lit (T := intT) ([start] : (List Int)) (mt_bsl 3 (r := cellsOf intT ([start] : (List Int))) ht rfl (by rfl) (by rfl) (by rfl) (by kernel_rfl) (by rfl)) (fun _ h => by cases h) (fun _ => rfl) (fun _ => rfl) (by rfl) (Nat.le_of_ble_eq_true rfl)) (by rfl) (by rfl) (by rfl) ?_
 refine WL.run ht hn 1 ⟨[sl 0 (I letters), sl 2 (.rd (fvR (fun (x : (Int × Int)) => [.sv (.one (I x.1)), .sv (.one (I x.2))]) (fun (r : Int) => .sv (.one (I r))) domgo go)), sl 3 (.rd (fvR (fun (x : Int) => [.sv (.one (I x))]) (fun (r : Int) => .sv (.one (I r))) dommark mark)), sl 4 (I limit), sl 10 (.ptr 0 0), sl 12 (.ptr 1 0), sl 13 (.own 2), sl 14 (.own 3)], [.box [I 0, I 0, .v (.slice none 0 0), .v (.slice none 0 0)] 73 false, .box [I letters, I 0, .v (.slice none 0 0), .v (.slice none 0 0)] 73 false, mapI encI3 intT (mput start 0 ([] : List (Int × Int))), rowI 3 intT ([start] : (List Int))]⟩ (by kernel_rfl) ?_
 refine WL.nil ?_
 refine En.block ?_
 refine En.nilBoxO (T := (lsT intT)) 1 2 6 23 (by rfl) (by rfl) (by rfl) (by rfl) ?_
 refine En.nilBoxO (T := intT) 1 3 7 3 (by rfl) (by rfl) (by rfl) (by rfl) ?_
 obtain ⟨Inv, mu, h0_2, hI_2⟩ := h
 refine En.loop (σ := (List (Int × Int)) × (List Int) × (List (List Int)) × (List Int)) (fun zz => Inv zz.1 zz.2.1 zz.2.2.1 zz.2.2.2) (fun zz => mu zz.1 zz.2.1 zz.2.2.1 zz.2.2.2) (fun zz => ⟨[sl 0 (I letters), sl 2 (.rd (fvR (fun (x : (Int × Int)) => [.sv (.one (I x.1)), .sv (.one (I x.2))]) (fun (r : Int) => .sv (.one (I r))) domgo go)), sl 3 (.rd (fvR (fun (x : Int) => [.sv (.one (I x))]) (fun (r : Int) => .sv (.one (I r))) dommark mark)), sl 4 (I limit), sl 10 (.ptr 0 0), sl 12 (.ptr 1 0), sl 13 (.own 2), sl 14 (.own 3)], [.box [I 0, I 0, .v (.slice none 0 0), .v (.slice none 0 0)] 73 false, .box [I letters, I 0, .own 6, .own 7] 73 false, mapI encI3 intT zz.1, rowI 3 intT zz.2.1, .gone, .gone, rowI 23 (lsT intT) zz.2.2.1, rowI 3 intT zz.2.2.2]⟩) ((mput start 0 ([] : List (Int × Int))), ([start] : (List Int)), ([] : (List (List Int))), ([] : (List Int))) h0_2 (sub_ok (by kernel_rfl)) ?_
 rintro ⟨m2, l3, l6, l7⟩ h
 replace h := hI_2 _ _ _ _ h
 show En c ⟨[sl 0 (I letters), sl 2 (.rd (fvR (fun (x : (Int × Int)) => [.sv (.one (I x.1)), .sv (.one (I x.2))]) (fun (r : Int) => .sv (.one (I r))) domgo go)), sl 3 (.rd (fvR (fun (x : Int) => [.sv (.one (I x))]) (fun (r : Int) => .sv (.one (I r))) dommark mark)), sl 4 (I limit), sl 10 (.ptr 0 0), sl 12 (.ptr 1 0), sl 13 (.own 2), sl 14 (.own 3)], [.box [I 0, I 0, .v (.slice none 0 0), .v (.slice none 0 0)] 73 false, .box [I letters, I 0, .own 6, .own 7] 73 false, mapI encI3 intT m2, rowI 3 intT l3, .gone, .gone, rowI 23 (lsT intT) l6, rowI 3 intT l7]⟩ _
 refine En.seq ?_
 refine En.seq ?_
 refine En.region ?_
 refine WL.run ht hn 6 ⟨[sl 0 (I letters), sl 2 (.rd (fvR (fun (x : (Int × Int)) => [.sv (.one (I x.1)), .sv (.one (I x.2))]) (fun (r : Int) => .sv (.one (I r))) domgo go)), sl 3 (.rd (fvR (fun (x : Int) => [.sv (.one (I x))]) (fun (r : Int) => .sv (.one (I r))) dommark mark)), sl 4 (I limit), sl 10 (.ptr 0 0), sl 12 (.ptr 1 0), sl 13 (.own 2), sl 14 (.own 3), sl 33 (B (decide ((l6.length : Int) < (l3.length : Int))))], [.box [I 0, I 0, .v (.slice none 0 0), .v (.slice none 0 0)] 73 false, .box [I letters, I 0, .own 6, .own 7] 73 false, mapI encI3 intT m2, rowI 3 intT l3, .gone, .gone, rowI 23 (lsT intT) l6, rowI 3 intT l7]⟩ (by kernel_rfl) ?_
 refine WL.nil ?_
 refine En.cond (b := (decide ((l6.length : Int) < (l3.length : Int)))) (by kernel_rfl) (fun hb => ?_) (fun hb => ?_)
 replace h := h.1 hb
 refine En.skip ?_
 refine En.block ?_
 refine En.seq ?_
 refine En.region ?_
 refine WL.run ht hn 4 ⟨[sl 0 (I letters), sl 2 (.rd (fvR (fun (x : (Int × Int)) => [.sv (.one (I x.1)), .sv (.one (I x.2))]) (fun (r : Int) => .sv (.one (I r))) domgo go)), sl 3 (.rd (fvR (fun (x : Int) => [.sv (.one (I x))]) (fun (r : Int) => .sv (.one (I r))) dommark mark)), sl 4 (I limit), sl 10 (.ptr 0 0), sl 12 (.ptr 1 0), sl 13 (.own 2), sl 14 (.own 3), sl 34 (.own 3), sl 37 (I (l6.length : Int))], [.box [I 0, I 0, .v (.slice none 0 0), .v (.slice none 0 0)] 73 false, .box [I letters, I 0, .own 6, .own 7] 73 false, mapI encI3 intT m2, rowI 3 intT l3, .gone, .gone, rowI 23 (lsT intT) l6, rowI 3 intT l7]⟩ (by kernel_rfl) ?_
 obtain ⟨e, he, h⟩ := h
 refine WL.val hn (by rfl) (val_indexO (T := intT) (l := l3) (k := (l6.length : Int)) ht rfl (by rfl) (by rfl) (by rfl) (by rfl) (by decide) (by rfl) (by rfl) (by rfl) he) (by rfl) ?_
 refine WL.val hn (by rfl) (val_loadO (T := intT) (l := l3) (y := e) ht rfl (by rfl) (by rfl) (by rfl) (by rfl) (by rfl) (idx_some he).2.2 (by rfl)) (by rfl) ?_
 refine WL.run ht hn 1 ⟨[sl 0 (I letters), sl 2 (.rd (fvR (fun (x : (Int × Int)) => [.sv (.one (I x.1)), .sv (.one (I x.2))]) (fun (r : Int) => .sv (.one (I r))) domgo go)), sl 3 (.rd (fvR (fun (x : Int) => [.sv (.one (I x))]) (fun (r : Int) => .sv (.one (I r))) dommark mark)), sl 4 (I limit), sl 10 (.ptr 0 0), sl 12 (.ptr 1 0), sl 13 (.own 2), sl 14 (.own 3), sl 15 (I e)], [.box [I 0, I 0, .v (.slice none 0 0), .v (.slice none 0 0)] 73 false, .box [I letters, I 0, .own 6, .own 7] 73 false, mapI encI3 intT m2, rowI 3 intT l3, .gone, .gone, rowI 23 (lsT intT) l6, rowI 3 intT l7]⟩ (by kernel_rfl) ?_
 refine WL.nil ?_
 refine En.seq ?_
 refine En.region ?_
 refine WL.run ht hn 1 ⟨[sl 0 (I letters), sl 2 (.rd (fvR (fun (x : (Int × Int)) => [.sv (.one (I x.1)), .sv (.one (I x.2))]) (fun (r : Int) => .sv (.one (I r))) domgo go)), sl 3 (.rd (fvR (fun (x : Int) => [.sv (.one (I x))]) (fun (r : Int) => .sv (.one (I r))) dommark mark)), sl 4 (I limit), sl 10 (.ptr 0 0), sl 12 (.ptr 1 0), sl 13 (.own 2), sl 14 (.own 3), sl 15 (I e), sl 40 (I letters)], [.box [I 0, I 0, .v (.slice none 0 0), .v (.slice none 0 0)] 73 false, .box [I letters, I 0, .own 6, .own 7] 73 false, mapI encI3 intT m2, rowI 3 intT l3, .gone, .gone, rowI 23 (lsT intT) l6, rowI 3 intT l7]⟩ (by kernel_rfl) ?_
 have hp := h.1
 replace h := h.2
 refine WL.mt0 (K := []) (p := some (8, rowI 3 intT (List.replicate (letters).toNat (0 : Int)))) hn (by rfl) (mt_make (T := intT) (0 : Int) (zv := (.int .i64 0)) 8 (l := letters) (cp := letters) ht rfl (by rfl) (by rfl) (by rfl) (by rfl) (by decide) (by rfl) (by rfl) hp.1 hp.2.1 hp.2.2 (hp.le (by decide)) rfl (fun _ => ⟨rfl, trivial⟩)) (by rfl) (by rfl) (by rfl) ?_
 refine WL.run ht hn 1 ⟨[sl 0 (I letters), sl 2 (.rd (fvR (fun (x : (Int × Int)) => [.sv (.one (I x.1)), .sv (.one (I x.2))]) (fun (r : Int) => .sv (.one (I r))) domgo go)), sl 3 (.rd (fvR (fun (x : Int) => [.sv (.one (I x))]) (fun (r : Int) => .sv (.one (I r))) dommark mark)), sl 4 (I limit), sl 10 (.ptr 0 0), sl 12 (.ptr 1 0), sl 13 (.own 2), sl 14 (.own 3), sl 15 (I e), sl 16 (.own 8)], [.box [I 0, I 0, .v (.slice none 0 0), .v (.slice none 0 0)] 73 false, .box [I letters, I 0, .own 6, .own 7] 73 false, mapI encI3 intT m2, rowI 3 intT l3, .gone, .gone, rowI 23 (lsT intT) l6, rowI 3 intT l7, rowI 3 intT (List.replicate (letters).toNat (0 : Int))]⟩ (by kernel_rfl) ?_
 refine WL.nil ?_
 refine En.seq ?_
 refine En.seq ?_
 refine En.region ?_
 refine WL.run ht hn 2 ⟨[sl 0 (I letters), sl 2 (.rd (fvR (fun (x : (Int × Int)) => [.sv (.one (I x.1)), .sv (.one (I x.2))]) (fun (r : Int) => .sv (.one (I r))) domgo go)), sl 3 (.rd (fvR (fun (x : Int) => [.sv (.one (I x))]) (fun (r : Int) => .sv (.one (I r))) dommark mark)), sl 4 (I limit), sl 10 (.ptr 0 0), sl 12 (.ptr 1 0), sl 13 (.own 2), sl 14 (.own 3), sl 15 (I e), sl 16 (.own 8), sl 42 (I letters), sl 43 (I 0)], [.box [I 0, I 0, .v (.slice none 0 0), .v (.slice none 0 0)] 73 false, .box [I letters, I 0, .own 6, .own 7] 73 false, mapI encI3 intT m2, rowI 3 intT l3, .gone, .gone, rowI 23 (lsT intT) l6, rowI 3 intT l7, rowI 3 intT (List.replicate (letters).toNat (0 : Int))]⟩ (by kernel_rfl) ?_
 refine WL.nil ?_
 refine En.block ?_
 obtain ⟨Inv_2, mu_2, h0, hI⟩ := h
 refine En.loop (σ := Int × (List (Int × Int)) × (List Int) × (List Int)) (fun zz => Inv_2 zz.1 zz.2.1 zz.2.2.1 zz.2.2.2) (fun zz => mu_2 zz.1 zz.2.1 zz.2.2.1 zz.2.2.2) (fun zz => ⟨[sl 0 (I letters), sl 2 (.rd (fvR (fun (x : (Int × Int)) => [.sv (.one (I x.1)), .sv (.one (I x.2))]) (fun (r : Int) => .sv (.one (I r))) domgo go)), sl 3 (.rd (fvR (fun (x : Int) => [.sv (.one (I x))]) (fun (r : Int) => .sv (.one (I r))) dommark mark)), sl 4 (I limit), sl 10 (.ptr 0 0), sl 12 (.ptr 1 0), sl 13 (.own 2), sl 14 (.own 3), sl 15 (I e), sl 16 (.own 8), sl 42 (I letters), sl 43 (I zz.1)], [.box [I 0, I 0, .v (.slice none 0 0), .v (.slice none 0 0)] 73 false, .box [I letters, I 0, .own 6, .own 7] 73 false, mapI encI3 intT zz.2.1, rowI 3 intT zz.2.2.1, .gone, .gone, rowI 23 (lsT intT) l6, rowI 3 intT l7, rowI 3 intT zz.2.2.2]⟩) (0, m2, l3, (List.replicate (letters).toNat (0 : Int))) h0 (sub_ok (by kernel_rfl)) ?_
 rintro ⟨x43, m2_2, l3_2, l8⟩ h
 replace h := hI _ _ _ _ h
 show En c ⟨[sl 0 (I letters), sl 2 (.rd (fvR (fun (x : (Int × Int)) => [.sv (.one (I x.1)), .sv (.one (I x.2))]) (fun (r : Int) => .sv (.one (I r))) domgo go)), sl 3 (.rd (fvR (fun (x : Int) => [.sv (.one (I x))]) (fun (r : Int) => .sv (.one (I r))) dommark mark)), sl 4 (I limit), sl 10 (.ptr 0 0), sl 12 (.ptr 1 0), sl 13 (.own 2), sl 14 (.own 3), sl 15 (I e), sl 16 (.own 8), sl 42 (I letters), sl 43 (I x43)], [.box [I 0, I 0, .v (.slice none 0 0), .v (.slice none 0 0)] 73 false, .box [I letters, I 0, .own 6, .own 7] 73 false, mapI encI3 intT m2_2, rowI 3 intT l3_2, .gone, .gone, rowI 23 (lsT intT) l6, rowI 3 intT l7, rowI 3 intT l8]⟩ _
 refine En.seq ?_
 refine En.region ?_
 refine WL.run ht hn 1 ⟨[sl 0 (I letters), sl 2 (.rd (fvR (fun (x : (Int × Int)) => [.sv (.one (I x.1)), .sv (.one (I x.2))]) (fun (r : Int) => .sv (.one (I r))) domgo go)), sl 3 (.rd (fvR (fun (x : Int) => [.sv (.one (I x))]) (fun (r : Int) => .sv (.one (I r))) dommark mark)), sl 4 (I limit), sl 10 (.ptr 0 0), sl 12 (.ptr 1 0), sl 13 (.own 2), sl 14 (.own 3), sl 15 (I e), sl 16 (.own 8), sl 42 (I letters), sl 43 (I x43), sl 44 (B (decide (x43 < letters)))], [.box [I 0, I 0, .v (.slice none 0 0), .v (.slice none 0 0)] 73 false, .box [I letters, I 0, .own 6, .own 7] 73 false, mapI encI3 intT m2_2, rowI 3 intT l3_2, .gone, .gone, rowI 23 (lsT intT) l6, rowI 3 intT l7, rowI 3 intT l8]⟩ (by kernel_rfl) ?_
 refine WL.nil ?_
 refine En.seq ?_
 refine En.cond (b := (decide (x43 < letters))) (by kernel_rfl) (fun hb => ?_) (fun hb => ?_)
 replace h := h.1 hb
 refine En.skip ?_
 refine En.seq ?_
 refine En.block ?_
 refine En.seq ?_
 refine En.region ?_
 refine WL.run ht hn 2 ⟨[sl 0 (I letters), sl 2 (.rd (fvR (fun (x : (Int × Int)) => [.sv (.one (I x.1)), .sv (.one (I x.2))]) (fun (r : Int) => .sv (.one (I r))) domgo go)), sl 3 (.rd (fvR (fun (x : Int) => [.sv (.one (I x))]) (fun (r : Int) => .sv (.one (I r))) dommark mark)), sl 4 (I limit), sl 10 (.ptr 0 0), sl 12 (.ptr 1 0), sl 13 (.own 2), sl 14 (.own 3), sl 15 (I e), sl 16 (.own 8), sl 17 (I x43), sl 42 (I letters), sl 43 (I x43)], [.box [I 0, I 0, .v (.slice none 0 0), .v (.slice none 0 0)] 73 false, .box [I letters, I 0, .own 6, .own 7] 73 false, mapI encI3 intT m2_2, rowI 3 intT l3_2, .gone, .gone, rowI 23 (lsT intT) l6, rowI 3 intT l7, rowI 3 intT l8]⟩ (by kernel_rfl) ?_
 refine WL.nil ?_
 refine En.seq ?_
 refine En.region ?_
 refine WL.run ht hn 3 ⟨[sl 0 (I letters), sl 2 (.rd (fvR (fun (x : (Int × Int)) => [.sv (.one (I x.1)), .sv (.one (I x.2))]) (fun (r : Int) => .sv (.one (I r))) domgo go)), sl 3 (.rd (fvR (fun (x : Int) => [.sv (.one (I x))]) (fun (r : Int) => .sv (.one (I r))) dommark mark)), sl 4 (I limit), sl 10 (.ptr 0 0), sl 12 (.ptr 1 0), sl 13 (.own 2), sl 14 (.own 3), sl 15 (I e), sl 16 (.own 8), sl 17 (I x43), sl 42 (I letters), sl 43 (I x43), sl 46 (.rd (fvR (fun (x : (Int × Int)) => [.sv (.one (I x.1)), .sv (.one (I x.2))]) (fun (r : Int) => .sv (.one (I r))) domgo go)), sl 47 (I e), sl 48 (I x43)], [.box [I 0, I 0, .v (.slice none 0 0), .v (.slice none 0 0)] 73 false, .box [I letters, I 0, .own 6, .own 7] 73 false, mapI encI3 intT m2_2, rowI 3 intT l3_2, .gone, .gone, rowI 23 (lsT intT) l6, rowI 3 intT l7, rowI 3 intT l8]⟩ (by kernel_rfl) ?_
 have hp := h.1
 replace h := h.2
 refine WL.mt0 (K := []) (p := none) hn (by rfl) (mt_callv (e, x43) hp rfl (by rfl) (by rfl) (by rfl) (by rfl)) (by rfl) (by rfl) (by rfl) ?_
 refine WL.run ht hn 1 ⟨[sl 0 (I letters), sl 2 (.rd (fvR (fun (x : (Int × Int)) => [.sv (.one (I x.1)), .sv (.one (I x.2))]) (fun (r : Int) => .sv (.one (I r))) domgo go)), sl 3 (.rd (fvR (fun (x : Int) => [.sv (.one (I x))]) (fun (r : Int) => .sv (.one (I r))) dommark mark)), sl 4 (I limit), sl 10 (.ptr 0 0), sl 12 (.ptr 1 0), sl 13 (.own 2), sl 14 (.own 3), sl 15 (I e), sl 16 (.own 8), sl 17 (I x43), sl 18 (I (go (e, x43))), sl 42 (I letters), sl 43 (I x43)], [.box [I 0, I 0, .v (.slice none 0 0), .v (.slice none 0 0)] 73 false, .box [I letters, I 0, .own 6, .own 7] 73 false, mapI encI3 intT m2_2, rowI 3 intT l3_2, .gone, .gone, rowI 23 (lsT intT) l6, rowI 3 intT l7, rowI 3 intT l8]⟩ (by kernel_rfl) ?_
 refine WL.nil ?_
 refine En.seq ?_
 refine En.region ?_
 refine WL.run ht hn 2 ⟨[sl 0 (I letters), sl 2 (.rd (fvR (fun (x : (Int × Int)) => [.sv (.one (I x.1)), .sv (.one (I x.2))]) (fun (r : Int) => .sv (.one (I r))) domgo go)), sl 3 (.rd (fvR (fun (x : Int) => [.sv (.one (I x))]) (fun (r : Int) => .sv (.one (I r))) dommark mark)), sl 4 (I limit), sl 10 (.ptr 0 0), sl 12 (.ptr 1 0), sl 13 (.own 2), sl 14 (.own 3), sl 15 (I e), sl 16 (.own 8), sl 17 (I x43), sl 18 (I (go (e, x43))), sl 42 (I letters), sl 43 (I x43), sl 51 (.own 2), sl 52 (I (go (e, x43)))], [.box [I 0, I 0, .v (.slice none 0 0), .v (.slice none 0 0)] 73 false, .box [I letters, I 0, .own 6, .own 7] 73 false, mapI encI3 intT m2_2, rowI 3 intT l3_2, .gone, .gone, rowI 23 (lsT intT) l6, rowI 3 intT l7, rowI 3 intT l8]⟩ (by kernel_rfl) ?_
 refine WL.val hn (by rfl) (val_lookup (T := intT) (D := m2_2) keyI3 (k := (go (e, x43))) (ok := true) (0 : Int) (zv := (.int .i64 0)) rfl Try.underlying274 (fun _ => by kernel_rfl) (fun _ => ⟨rfl, trivial⟩) (mapAs encI3 intT m2_2) (by rfl) (by rfl) (by rfl) (fun _ => rfl)) (by rfl) ?_
 refine WL.run ht hn 5 ⟨[sl 0 (I letters), sl 2 (.rd (fvR (fun (x : (Int × Int)) => [.sv (.one (I x.1)), .sv (.one (I x.2))]) (fun (r : Int) => .sv (.one (I r))) domgo go)), sl 3 (.rd (fvR (fun (x : Int) => [.sv (.one (I x))]) (fun (r : Int) => .sv (.one (I r))) dommark mark)), sl 4 (I limit), sl 10 (.ptr 0 0), sl 12 (.ptr 1 0), sl 13 (.own 2), sl 14 (.own 3), sl 15 (I e), sl 16 (.own 8), sl 17 (I x43), sl 18 (I (go (e, x43))), sl 19 (I ((mget (go (e, x43)) m2_2).getD (0 : Int))), sl 20 (B (mget (go (e, x43)) m2_2).isSome), sl 42 (I letters), sl 43 (I x43)], [.box [I 0, I 0, .v (.slice none 0 0), .v (.slice none 0 0)] 73 false, .box [I letters, I 0, .own 6, .own 7] 73 false, mapI encI3 intT m2_2, rowI 3 intT l3_2, .gone, .gone, rowI 23 (lsT intT) l6, rowI 3 intT l7, rowI 3 intT l8]⟩ (by kernel_rfl) ?_
 refine WL.nil ?_
 obtain ⟨J, h, hJ⟩ := h
 refine En.seqJ (σ := Int × (List (Int × Int)) × (List Int)) (fun zz => J zz.1 zz.2.1 zz.2.2) (fun zz => ⟨[sl 0 (I letters), sl 2 (.rd (fvR (fun (x : (Int × Int)) => [.sv (.one (I x.1)), .sv (.one (I x.2))]) (fun (r : Int) => .sv (.one (I r))) domgo go)), sl 3 (.rd (fvR (fun (x : Int) => [.sv (.one (I x))]) (fun (r : Int) => .sv (.one (I r))) dommark mark)), sl 4 (I limit), sl 10 (.ptr 0 0), sl 12 (.ptr 1 0), sl 13 (.own 2), sl 14 (.own 3), sl 15 (I e), sl 16 (.own 8), sl 17 (I x43), sl 19 (I zz.1), sl 42 (I letters), sl 43 (I x43)], [.box [I 0, I 0, .v (.slice none 0 0), .v (.slice none 0 0)] 73 false, .box [I letters, I 0, .own 6, .own 7] 73 false, mapI encI3 intT zz.2.1, rowI 3 intT zz.2.2, .gone, .gone, rowI 23 (lsT intT) l6, rowI 3 intT l7, rowI 3 intT l8]⟩) ?_ ?_
 refine En.seq ?_
 refine En.region ?_
 refine WL.run ht hn 2 ⟨[sl 0 (I letters), sl 2 (.rd (fvR (fun (x : (Int × Int)) => [.sv (.one (I x.1)), .sv (.one (I x.2))]) (fun (r : Int) => .sv (.one (I r))) domgo go)), sl 3 (.rd (fvR (fun (x : Int) => [.sv (.one (I x))]) (fun (r : Int) => .sv (.one (I r))) dommark mark)), sl 4 (I limit), sl 10 (.ptr 0 0), sl 12 (.ptr 1 0), sl 13 (.own 2), sl 14 (.own 3), sl 15 (I e), sl 16 (.own 8), sl 17 (I x43), sl 18 (I (go (e, x43))), sl 19 (I ((mget (go (e, x43)) m2_2).getD (0 : Int))), sl 42 (I letters), sl 43 (I x43), sl 57 (B (!(mget (go (e, x43)) m2_2).isSome))], [.box [I 0, I 0, .v (.slice none 0 0), .v (.slice none 0 0)] 73 false, .box [I letters, I 0, .own 6, .own 7] 73 false, mapI encI3 intT m2_2, rowI 3 intT l3_2, .gone, .gone, rowI 23 (lsT intT) l6, rowI 3 intT l7, rowI 3 intT l8]⟩ (by kernel_rfl) ?_
 refine WL.nil ?_
 refine En.cond (b := (!(mget (go (e, x43)) m2_2).isSome)) (by kernel_rfl) (fun hb => ?_) (fun hb => ?_)
 replace h := h.1 hb
 refine En.seq ?_
 refine En.region ?_
 refine WL.run ht hn 3 ⟨[sl 0 (I letters), sl 2 (.rd (fvR (fun (x : (Int × Int)) => [.sv (.one (I x.1)), .sv (.one (I x.2))]) (fun (r : Int) => .sv (.one (I r))) domgo go)), sl 3 (.rd (fvR (fun (x : Int) => [.sv (.one (I x))]) (fun (r : Int) => .sv (.one (I r))) dommark mark)), sl 4 (I limit), sl 10 (.ptr 0 0), sl 12 (.ptr 1 0), sl 13 (.own 2), sl 14 (.own 3), sl 15 (I e), sl 16 (.own 8), sl 17 (I x43), sl 18 (I (go (e, x43))), sl 19 (I (l3_2.length : Int)), sl 42 (I letters), sl 43 (I x43)], [.box [I 0, I 0, .v (.slice none 0 0), .v (.slice none 0 0)] 73 false, .box [I letters, I 0, .own 6, .own 7] 73 false, mapI encI3 intT m2_2, rowI 3 intT l3_2, .gone, .gone, rowI 23 (lsT intT) l6, rowI 3 intT l7, rowI 3 intT l8]⟩ (by kernel_rfl) ?_
 refine WL.nil ?_
 refine En.seq ?_
 refine En.seq ?_
 refine En.region ?_
 refine WL.run ht hn 3 ⟨[sl 0 (I letters), sl 2 (.rd (fvR (fun (x : (Int × Int)) => [.sv (.one (I x.1)), .sv (.one (I x.2))]) (fun (r : Int) => .sv (.one (I r))) domgo go)), sl 3 (.rd (fvR (fun (x : Int) => [.sv (.one (I x))]) (fun (r : Int) => .sv (.one (I r))) dommark mark)), sl 4 (I limit), sl 10 (.ptr 0 0), sl 12 (.ptr 1 0), sl 13 (.own 2), sl 14 (.own 3), sl 15 (I e), sl 16 (.own 8), sl 17 (I x43), sl 18 (I (go (e, x43))), sl 19 (I (l3_2.length : Int)), sl 42 (I letters), sl 43 (I x43), sl 62 (B ((l3_2.length : Int) == limit))], [.box [I 0, I 0, .v (.slice none 0 0), .v (.slice none 0 0)] 73 false, .box [I letters, I 0, .own 6, .own 7] 73 false, mapI encI3 intT m2_2, rowI 3 intT l3_2, .gone, .gone, rowI 23 (lsT intT) l6, rowI 3 intT l7, rowI 3 intT l8]⟩ (by kernel_rfl) ?_
 refine WL.nil ?_
 refine En.cond (b := ((l3_2.length : Int) == limit)) (by kernel_rfl) (fun hb => ?_) (fun hb => ?_)
 replace h := h.1 hb
 refine En.seq ?_
 refine En.region ?_
 refine WL.run ht hn 3 ⟨[sl 10 (.ptr 0 0), sl 11 (B false)], [.box [I 0, I 0, .v (.slice none 0 0), .v (.slice none 0 0)] 73 false, .gone, .gone, .gone, .gone, .gone, .gone, .gone, .gone]⟩ (by kernel_rfl) ?_
 refine WL.nil ?_
 refine En.ret ?_
 refine En.nilBox (T := (lsT intT)) 0 2 (by rfl) (by rfl) ?_
 refine En.nilBox (T := intT) 0 3 (by rfl) (by rfl) ?_
 exact En.back ht ((ApiDet.mk 0 0 [] []), false) h (by kernel_rfl) rfl
 replace h := h.2 hb
 refine En.skip ?_
 refine En.seq ?_
 refine En.region ?_
 refine WL.run ht hn 3 ⟨[sl 0 (I letters), sl 2 (.rd (fvR (fun (x : (Int × Int)) => [.sv (.one (I x.1)), .sv (.one (I x.2))]) (fun (r : Int) => .sv (.one (I r))) domgo go)), sl 3 (.rd (fvR (fun (x : Int) => [.sv (.one (I x))]) (fun (r : Int) => .sv (.one (I r))) dommark mark)), sl 4 (I limit), sl 10 (.ptr 0 0), sl 12 (.ptr 1 0), sl 13 (.own 2), sl 14 (.own 3), sl 15 (I e), sl 16 (.own 8), sl 17 (I x43), sl 18 (I (go (e, x43))), sl 19 (I (l3_2.length : Int)), sl 42 (I letters), sl 43 (I x43), sl 64 (.own 2), sl 65 (I (go (e, x43))), sl 66 (I (l3_2.length : Int))], [.box [I 0, I 0, .v (.slice none 0 0), .v (.slice none 0 0)] 73 false, .box [I letters, I 0, .own 6, .own 7] 73 false, mapI encI3 intT m2_2, rowI 3 intT l3_2, .gone, .gone, rowI 23 (lsT intT) l6, rowI 3 intT l7, rowI 3 intT l8]⟩ (by kernel_rfl) ?_
 refine WL.mapPut (T := intT) keyI3 (k := (go (e, x43))) (y := (l3_2.length : Int)) hn (by rfl) (.inl rfl) Try.underlying274 (by rfl) (by rfl) (by rfl) (by rfl) (by rfl) (by rfl) ?_
 refine WL.nil ?_
 refine En.region ?_
 refine WL.run ht hn 2 ⟨[sl 0 (I letters), sl 2 (.rd (fvR (fun (x : (Int × Int)) => [.sv (.one (I x.1)), .sv (.one (I x.2))]) (fun (r : Int) => .sv (.one (I r))) domgo go)), sl 3 (.rd (fvR (fun (x : Int) => [.sv (.one (I x))]) (fun (r : Int) => .sv (.one (I r))) dommark mark)), sl 4 (I limit), sl 10 (.ptr 0 0), sl 12 (.ptr 1 0), sl 13 (.own 2), sl 15 (I e), sl 16 (.own 8), sl 17 (I x43), sl 19 (I (l3_2.length : Int)), sl 42 (I letters), sl 43 (I x43), sl 67 (.own 3), sl 68 (I (go (e, x43)))], [.box [I 0, I 0, .v (.slice none 0 0), .v (.slice none 0 0)] 73 false, .box [I letters, I 0, .own 6, .own 7] 73 false, mapI encI3 intT (mput (go (e, x43)) (l3_2.length : Int) m2_2), rowI 3 intT l3_2, .gone, .gone, rowI 23 (lsT intT) l6, rowI 3 intT l7, rowI 3 intT l8]⟩ (by kernel_rfl) ?_
 refine WL.mt0 (K := []) (p := some (9, rowI 3 intT ([(go (e, x43))] : (List Int)))) hn (by rfl) (mt_lit (T := intT) ([(go (e, x43))] : (List Int)) (mt_bsl 9 (r := cellsOf intT ([(go (e, x43))] : (List Int))) ht rfl (by rfl) (by rfl) (by rfl) (by kernel_rfl) (by rfl)) (fun _ h => by cases h) (fun _ => rfl) (fun _ => rfl) (by rfl) (Nat.le_of_ble_eq_true rfl)) (by rfl) (by rfl) (by rfl) ?_
 refine WL.seal (T := intT) (l := ([(go (e, x43))] : (List Int))) (e := 3) 9 rfl ?_
 refine WL.run ht hn 0 ⟨[sl 0 (I letters), sl 2 (.rd (fvR (fun (x : (Int × Int)) => [.sv (.one (I x.1)), .sv (.one (I x.2))]) (fun (r : Int) => .sv (.one (I r))) domgo go)), sl 3 (.rd (fvR (fun (x : Int) => [.sv (.one (I x))]) (fun (r : Int) => .sv (.one (I r))) dommark mark)), sl 4 (I limit), sl 10 (.ptr 0 0), sl 12 (.ptr 1 0), sl 13 (.own 2), sl 15 (I e), sl 16 (.own 8), sl 17 (I x43), sl 19 (I (l3_2.length : Int)), sl 42 (I letters), sl 43 (I x43), sl 67 (.own 3), sl 68 (I (go (e, x43))), sl 69 (LS intT ([(go (e, x43))] : (List Int)))], [.box [I 0, I 0, .v (.slice none 0 0), .v (.slice none 0 0)] 73 false, .box [I letters, I 0, .own 6, .own 7] 73 false, mapI encI3 intT (mput (go (e, x43)) (l3_2.length : Int) m2_2), rowI 3 intT l3_2, .gone, .gone, rowI 23 (lsT intT) l6, rowI 3 intT l7, rowI 3 intT l8, .gone]⟩ (by kernel_rfl) ?_
 have hp := h.1
 replace h := h.2
 refine WL.mt (S2 := ⟨[sl 0 (I letters), sl 2 (.rd (fvR (fun (x : (Int × Int)) => [.sv (.one (I x.1)), .sv (.one (I x.2))]) (fun (r : Int) => .sv (.one (I r))) domgo go)), sl 3 (.rd (fvR (fun (x : Int) => [.sv (.one (I x))]) (fun (r : Int) => .sv (.one (I r))) dommark mark)), sl 4 (I limit), sl 10 (.ptr 0 0), sl 12 (.ptr 1 0), sl 13 (.own 2), sl 15 (I e), sl 16 (.own 8), sl 17 (I x43), sl 19 (I (l3_2.length : Int)), sl 42 (I letters), sl 43 (I x43), sl 68 (I (go (e, x43))), sl 69 (LS intT ([(go (e, x43))] : (List Int)))], [.box [I 0, I 0, .v (.slice none 0 0), .v (.slice none 0 0)] 73 false, .box [I letters, I 0, .own 6, .own 7] 73 false, mapI encI3 intT (mput (go (e, x43)) (l3_2.length : Int) m2_2), rowI 3 intT l3_2, .gone, .gone, rowI 23 (lsT intT) l6, rowI 3 intT l7, rowI 3 intT l8, .gone]⟩) (K := [3]) (p := some (3, rowI 3 intT (l3_2 ++ ([(go (e, x43))] : (List Int))))) hn (by rfl) (mt_append (T := intT) (l := l3_2) (es := ([(go (e, x43))] : (List Int))) ht rfl (by rfl) (by rfl) (by rfl) (by rfl) (by decide) (by rfl) (by rfl) (srcLS (T := intT) (es := ([(go (e, x43))] : (List Int))) (fun _ h => by cases h) (by decide) (by rfl)) (by exact hp) (by exact hp.le (by decide))) (by kernel_rfl) (by rfl) (by rfl) (by rfl) ?_
 refine WL.run ht hn 1 ⟨[sl 0 (I letters), sl 2 (.rd (fvR (fun (x : (Int × Int)) => [.sv (.one (I x.1)), .sv (.one (I x.2))]) (fun (r : Int) => .sv (.one (I r))) domgo go)), sl 3 (.rd (fvR (fun (x : Int) => [.sv (.one (I x))]) (fun (r : Int) => .sv (.one (I r))) dommark mark)), sl 4 (I limit), sl 10 (.ptr 0 0), sl 12 (.ptr 1 0), sl 13 (.own 2), sl 14 (.own 3), sl 15 (I e), sl 16 (.own 8), sl 17 (I x43), sl 19 (I (l3_2.length : Int)), sl 42 (I letters), sl 43 (I x43)], [.box [I 0, I 0, .v (.slice none 0 0), .v (.slice none 0 0)] 73 false, .box [I letters, I 0, .own 6, .own 7] 73 false, mapI encI3 intT (mput (go (e, x43)) (l3_2.length : Int) m2_2), rowI 3 intT (l3_2 ++ ([(go (e, x43))] : (List Int))), .gone, .gone, rowI 23 (lsT intT) l6, rowI 3 intT l7, rowI 3 intT l8, .gone]⟩ (by kernel_rfl) ?_
 refine WL.nil ?_
 exact En.at (I := fun zz => J zz.1 zz.2.1 zz.2.2) (T := fun zz => ⟨[sl 0 (I letters), sl 2 (.rd (fvR (fun (x : (Int × Int)) => [.sv (.one (I x.1)), .sv (.one (I x.2))]) (fun (r : Int) => .sv (.one (I r))) domgo go)), sl 3 (.rd (fvR (fun (x : Int) => [.sv (.one (I x))]) (fun (r : Int) => .sv (.one (I r))) dommark mark)), sl 4 (I limit), sl 10 (.ptr 0 0), sl 12 (.ptr 1 0), sl 13 (.own 2), sl 14 (.own 3), sl 15 (I e), sl 16 (.own 8), sl 17 (I x43), sl 19 (I zz.1), sl 42 (I letters), sl 43 (I x43)], [.box [I 0, I 0, .v (.slice none 0 0), .v (.slice none 0 0)] 73 false, .box [I letters, I 0, .own 6, .own 7] 73 false, mapI encI3 intT zz.2.1, rowI 3 intT zz.2.2, .gone, .gone, rowI 23 (lsT intT) l6, rowI 3 intT l7, rowI 3 intT l8]⟩) ((l3_2.length : Int), (mput (go (e, x43)) (l3_2.length : Int) m2_2), (l3_2 ++ ([(go (e, x43))] : (List Int)))) h (by kernel_rfl)
 replace h := h.2 hb
 refine En.skip ?_
 exact En.at (I := fun zz => J zz.1 zz.2.1 zz.2.2) (T := fun zz => ⟨[sl 0 (I letters), sl 2 (.rd (fvR (fun (x : (Int × Int)) => [.sv (.one (I x.1)), .sv (.one (I x.2))]) (fun (r : Int) => .sv (.one (I r))) domgo go)), sl 3 (.rd (fvR (fun (x : Int) => [.sv (.one (I x))]) (fun (r : Int) => .sv (.one (I r))) dommark mark)), sl 4 (I limit), sl 10 (.ptr 0 0), sl 12 (.ptr 1 0), sl 13 (.own 2), sl 14 (.own 3), sl 15 (I e), sl 16 (.own 8), sl 17 (I x43), sl 19 (I zz.1), sl 42 (I letters), sl 43 (I x43)], [.box [I 0, I 0, .v (.slice none 0 0), .v (.slice none 0 0)] 73 false, .box [I letters, I 0, .own 6, .own 7] 73 false, mapI encI3 intT zz.2.1, rowI 3 intT zz.2.2, .gone, .gone, rowI 23 (lsT intT) l6, rowI 3 intT l7, rowI 3 intT l8]⟩) (((mget (go (e, x43)) m2_2).getD (0 : Int)), m2_2, l3_2) h (by kernel_rfl)
 rintro ⟨x19, m2_3, l3_3⟩ h
 replace h := hJ _ _ _ h
 show En c ⟨[sl 0 (I letters), sl 2 (.rd (fvR (fun (x : (Int × Int)) => [.sv (.one (I x.1)), .sv (.one (I x.2))]) (fun (r : Int) => .sv (.one (I r))) domgo go)), sl 3 (.rd (fvR (fun (x : Int) => [.sv (.one (I x))]) (fun (r : Int) => .sv (.one (I r))) dommark mark)), sl 4 (I limit), sl 10 (.ptr 0 0), sl 12 (.ptr 1 0), sl 13 (.own 2), sl 14 (.own 3), sl 15 (I e), sl 16 (.own 8), sl 17 (I x43), sl 19 (I x19), sl 42 (I letters), sl 43 (I x43)], [.box [I 0, I 0, .v (.slice none 0 0), .v (.slice none 0 0)] 73 false, .box [I letters, I 0, .own 6, .own 7] 73 false, mapI encI3 intT m2_3, rowI 3 intT l3_3, .gone, .gone, rowI 23 (lsT intT) l6, rowI 3 intT l7, rowI 3 intT l8]⟩ _
 refine En.region ?_
 refine WL.run ht hn 3 ⟨[sl 0 (I letters), sl 2 (.rd (fvR (fun (x : (Int × Int)) => [.sv (.one (I x.1)), .sv (.one (I x.2))]) (fun (r : Int) => .sv (.one (I r))) domgo go)), sl 3 (.rd (fvR (fun (x : Int) => [.sv (.one (I x))]) (fun (r : Int) => .sv (.one (I r))) dommark mark)), sl 4 (I limit), sl 10 (.ptr 0 0), sl 12 (.ptr 1 0), sl 13 (.own 2), sl 14 (.own 3), sl 15 (I e), sl 16 (.own 8), sl 42 (I letters), sl 43 (I x43), sl 71 (.own 8), sl 72 (I x43), sl 73 (I x19)], [.box [I 0, I 0, .v (.slice none 0 0), .v (.slice none 0 0)] 73 false, .box [I letters, I 0, .own 6, .own 7] 73 false, mapI encI3 intT m2_3, rowI 3 intT l3_3, .gone, .gone, rowI 23 (lsT intT) l6, rowI 3 intT l7, rowI 3 intT l8]⟩ (by kernel_rfl) ?_
 obtain ⟨e_2, he_2, h⟩ := h
 refine WL.val hn (by rfl) (val_indexO (T := intT) (l := l8) (k := x43) ht rfl (by rfl) (by rfl) (by rfl) (by rfl) (by decide) (by rfl) (by rfl) (by rfl) he_2) (by rfl) ?_
 refine WL.storeO (T := intT) (l := l8) (y := x19) ht hn (by rfl) rfl (by rfl) (by rfl) (fun _ h => by cases h) (by rfl) (by rfl) (idx_lt he_2) (by rfl) (by rfl) (by rfl) (by rfl) ?_
 refine WL.nil ?_
 refine En.region ?_
 refine WL.run ht hn 2 ⟨[sl 0 (I letters), sl 2 (.rd (fvR (fun (x : (Int × Int)) => [.sv (.one (I x.1)), .sv (.one (I x.2))]) (fun (r : Int) => .sv (.one (I r))) domgo go)), sl 3 (.rd (fvR (fun (x : Int) => [.sv (.one (I x))]) (fun (r : Int) => .sv (.one (I r))) dommark mark)), sl 4 (I limit), sl 10 (.ptr 0 0), sl 12 (.ptr 1 0), sl 13 (.own 2), sl 14 (.own 3), sl 15 (I e), sl 16 (.own 8), sl 42 (I letters), sl 43 (I (wr (x43 + 1)))], [.box [I 0, I 0, .v (.slice none 0 0), .v (.slice none 0 0)] 73 false, .box [I letters, I 0, .own 6, .own 7] 73 false, mapI encI3 intT m2_3, rowI 3 intT l3_3, .gone, .gone, rowI 23 (lsT intT) l6, rowI 3 intT l7, rowI 3 intT (l8.set (x43).toNat x19)]⟩ (by kernel_rfl) ?_
 refine WL.nil ?_
 exact En.at (I := fun zz => Inv_2 zz.1 zz.2.1 zz.2.2.1 zz.2.2.2 ∧ mu_2 zz.1 zz.2.1 zz.2.2.1 zz.2.2.2 < mu_2 x43 m2_2 l3_2 l8) (T := fun zz => ⟨[sl 0 (I letters), sl 2 (.rd (fvR (fun (x : (Int × Int)) => [.sv (.one (I x.1)), .sv (.one (I x.2))]) (fun (r : Int) => .sv (.one (I r))) domgo go)), sl 3 (.rd (fvR (fun (x : Int) => [.sv (.one (I x))]) (fun (r : Int) => .sv (.one (I r))) dommark mark)), sl 4 (I limit), sl 10 (.ptr 0 0), sl 12 (.ptr 1 0), sl 13 (.own 2), sl 14 (.own 3), sl 15 (I e), sl 16 (.own 8), sl 42 (I letters), sl 43 (I zz.1)], [.box [I 0, I 0, .v (.slice none 0 0), .v (.slice none 0 0)] 73 false, .box [I letters, I 0, .own 6, .own 7] 73 false, mapI encI3 intT zz.2.1, rowI 3 intT zz.2.2.1, .gone, .gone, rowI 23 (lsT intT) l6, rowI 3 intT l7, rowI 3 intT zz.2.2.2]⟩) ((wr (x43 + 1)), m2_3, l3_3, (l8.set (x43).toNat x19)) h (by kernel_rfl)
 replace h := h.2 hb
 refine En.exit rfl ?_
 refine En.seq ?_
 refine En.region ?_
 refine WL.run ht hn 3 ⟨[sl 0 (I letters), sl 2 (.rd (fvR (fun (x : (Int × Int)) => [.sv (.one (I x.1)), .sv (.one (I x.2))]) (fun (r : Int) => .sv (.one (I r))) domgo go)), sl 3 (.rd (fvR (fun (x : Int) => [.sv (.one (I x))]) (fun (r : Int) => .sv (.one (I r))) dommark mark)), sl 4 (I limit), sl 10 (.ptr 0 0), sl 12 (.ptr 1 0), sl 13 (.own 2), sl 14 (.own 3), sl 15 (I e), sl 77 (.own 6), sl 78 (.own 8)], [.box [I 0, I 0, .v (.slice none 0 0), .v (.slice none 0 0)] 73 false, .box [I letters, I 0, .own 6, .own 7] 73 false, mapI encI3 intT m2_2, rowI 3 intT l3_2, .gone, .gone, rowI 23 (lsT intT) l6, rowI 3 intT l7, rowI 3 intT l8]⟩ (by kernel_rfl) ?_
 refine WL.seal (T := intT) (l := l8) (e := 3) 8 rfl ?_
 refine WL.run ht hn 0 ⟨[sl 0 (I letters), sl 2 (.rd (fvR (fun (x : (Int × Int)) => [.sv (.one (I x.1)), .sv (.one (I x.2))]) (fun (r : Int) => .sv (.one (I r))) domgo go)), sl 3 (.rd (fvR (fun (x : Int) => [.sv (.one (I x))]) (fun (r : Int) => .sv (.one (I r))) dommark mark)), sl 4 (I limit), sl 10 (.ptr 0 0), sl 12 (.ptr 1 0), sl 13 (.own 2), sl 14 (.own 3), sl 15 (I e), sl 77 (.own 6), sl 78 (LS intT l8)], [.box [I 0, I 0, .v (.slice none 0 0), .v (.slice none 0 0)] 73 false, .box [I letters, I 0, .own 6, .own 7] 73 false, mapI encI3 intT m2_2, rowI 3 intT l3_2, .gone, .gone, rowI 23 (lsT intT) l6, rowI 3 intT l7, .gone]⟩ (by kernel_rfl) ?_
 refine WL.mt0 (K := []) (p := some (9, rowI 23 (lsT intT) ([l8] : (List (List Int))))) hn (by rfl) (mt_lit (T := (lsT intT)) ([l8] : (List (List Int))) (mt_bsl 9 (r := cellsOf (lsT intT) ([l8] : (List (List Int)))) ht rfl (by rfl) (by rfl) (by rfl) (by kernel_rfl) (by rfl)) (fun _ h => by cases h) (fun _ => rfl) (fun _ => rfl) (by rfl) (Nat.le_of_ble_eq_true rfl)) (by rfl) (by rfl) (by rfl) ?_
 refine WL.seal (T := (lsT intT)) (l := ([l8] : (List (List Int)))) (e := 23) 9 rfl ?_
 refine WL.run ht hn 0 ⟨[sl 0 (I letters), sl 2 (.rd (fvR (fun (x : (Int × Int)) => [.sv (.one (I x.1)), .sv (.one (I x.2))]) (fun (r : Int) => .sv (.one (I r))) domgo go)), sl 3 (.rd (fvR (fun (x : Int) => [.sv (.one (I x))]) (fun (r : Int) => .sv (.one (I r))) dommark mark)), sl 4 (I limit), sl 10 (.ptr 0 0), sl 12 (.ptr 1 0), sl 13 (.own 2), sl 14 (.own 3), sl 15 (I e), sl 77 (.own 6), sl 78 (LS intT l8), sl 79 (LS (lsT intT) ([l8] : (List (List Int))))], [.box [I 0, I 0, .v (.slice none 0 0), .v (.slice none 0 0)] 73 false, .box [I letters, I 0, .own 6, .own 7] 73 false, mapI encI3 intT m2_2, rowI 3 intT l3_2, .gone, .gone, rowI 23 (lsT intT) l6, rowI 3 intT l7, .gone, .gone]⟩ (by kernel_rfl) ?_
 refine WL.junk 1 2 (by rfl) ?_
 have hp := h.1
 replace h := h.2
 refine WL.mt (S2 := ⟨[sl 0 (I letters), sl 2 (.rd (fvR (fun (x : (Int × Int)) => [.sv (.one (I x.1)), .sv (.one (I x.2))]) (fun (r : Int) => .sv (.one (I r))) domgo go)), sl 3 (.rd (fvR (fun (x : Int) => [.sv (.one (I x))]) (fun (r : Int) => .sv (.one (I r))) dommark mark)), sl 4 (I limit), sl 10 (.ptr 0 0), sl 12 (.ptr 1 0), sl 13 (.own 2), sl 14 (.own 3), sl 15 (I e), sl 78 (LS intT l8), sl 79 (LS (lsT intT) ([l8] : (List (List Int))))], [.box [I 0, I 0, .v (.slice none 0 0), .v (.slice none 0 0)] 73 false, .box [I letters, I 0, .junk, .own 7] 73 false, mapI encI3 intT m2_2, rowI 3 intT l3_2, .gone, .gone, rowI 23 (lsT intT) l6, rowI 3 intT l7, .gone, .gone]⟩) (K := [6]) (p := some (6, rowI 23 (lsT intT) (l6 ++ ([l8] : (List (List Int)))))) hn (by rfl) (mt_append (T := (lsT intT)) (l := l6) (es := ([l8] : (List (List Int)))) ht rfl (by rfl) (by rfl) (by rfl) (by rfl) (by decide) (by rfl) (by rfl) (srcLS (T := (lsT intT)) (es := ([l8] : (List (List Int)))) (fun _ h => by cases h) (by decide) (by rfl)) (by exact hp) (by exact hp.le (by decide))) (by kernel_rfl) (by rfl) (by rfl) (by rfl) ?_
 refine WL.run ht hn 2 ⟨[sl 0 (I letters), sl 2 (.rd (fvR (fun (x : (Int × Int)) => [.sv (.one (I x.1)), .sv (.one (I x.2))]) (fun (r : Int) => .sv (.one (I r))) domgo go)), sl 3 (.rd (fvR (fun (x : Int) => [.sv (.one (I x))]) (fun (r : Int) => .sv (.one (I r))) dommark mark)), sl 4 (I limit), sl 10 (.ptr 0 0), sl 12 (.ptr 1 0), sl 13 (.own 2), sl 14 (.own 3), sl 15 (I e)], [.box [I 0, I 0, .v (.slice none 0 0), .v (.slice none 0 0)] 73 false, .box [I letters, I 0, .own 6, .own 7] 73 false, mapI encI3 intT m2_2, rowI 3 intT l3_2, .gone, .gone, rowI 23 (lsT intT) (l6 ++ ([l8] : (List (List Int)))), rowI 3 intT l7, .gone, .gone]⟩ (by kernel_rfl) ?_
 refine WL.nil ?_
 have hp_2 := h.1
 replace h := h.2
 have hp_3 := h.1
 replace h := h.2
 refine En.regionA ⟨[sl 0 (I letters), sl 2 (.rd (fvR (fun (x : (Int × Int)) => [.sv (.one (I x.1)), .sv (.one (I x.2))]) (fun (r : Int) => .sv (.one (I r))) domgo go)), sl 3 (.rd (fvR (fun (x : Int) => [.sv (.one (I x))]) (fun (r : Int) => .sv (.one (I r))) dommark mark)), sl 4 (I limit), sl 10 (.ptr 0 0), sl 12 (.ptr 1 0), sl 13 (.own 2), sl 14 (.own 3), sl 15 (I e)], [.sv (.one (.ptr 1 3)), .sv (.one (.own 7)), .sv (.one (.rd (fvR (fun (x : Int) => [.sv (.one (I x))]) (fun (r : Int) => .sv (.one (I r))) dommark mark))), .sv (.one (I e)), .sv (.one (I (mark e))), .sv (.one (LS intT ([(mark e)] : (List Int)))), .sv (.one (.own 10)), .sv (.one (.ptr 1 3)), .tup []], [⟨.box [I 0, I 0, .v (.slice none 0 0), .v (.slice none 0 0)] 73 false, none, none, none⟩, ⟨.box [I letters, I 0, .own 6, .own 7] 73 false, none, none, some (8, .box [I letters, I 0, .own 6, .own 10] 73 false)⟩, ⟨mapI encI3 intT m2_2, none, none, none⟩, ⟨rowI 3 intT l3_2, none, none, none⟩, ⟨.gone, none, none, none⟩, ⟨.gone, none, none, none⟩, ⟨rowI 23 (lsT intT) (l6 ++ ([l8] : (List (List Int)))), none, none, none⟩, ⟨rowI 3 intT l7, none, some 6, none⟩, ⟨.gone, none, none, none⟩, ⟨.gone, none, none, none⟩, ⟨rowI 3 intT (l7 ++ ([(mark e)] : (List Int))), some 6, none, none⟩]⟩ ⟨[sl 0 (I letters), sl 2 (.rd (fvR (fun (x : (Int × Int)) => [.sv (.one (I x.1)), .sv (.one (I x.2))]) (fun (r : Int) => .sv (.one (I r))) domgo go)), sl 3 (.rd (fvR (fun (x : Int) => [.sv (.one (I x))]) (fun (r : Int) => .sv (.one (I r))) dommark mark)), sl 4 (I limit), sl 10 (.ptr 0 0), sl 12 (.ptr 1 0), sl 13 (.own 2), sl 14 (.own 3)], [.box [I 0, I 0, .v (.slice none 0 0), .v (.slice none 0 0)] 73 false, .box [I letters, I 0, .own 6, .own 10] 73 false, mapI encI3 intT m2_2, rowI 3 intT l3_2, .gone, .gone, rowI 23 (lsT intT) (l6 ++ ([l8] : (List (List Int)))), .gone, .gone, .gone, rowI 3 intT (l7 ++ ([(mark e)] : (List Int)))]⟩ (by kernel_rfl) hn (by kernel_rfl) (by rfl) (by kernel_rfl) ?_ (by kernel_rfl) ?_
 exact ⟨.mt ⟨[sl 12 (.ptr 1 0)], []⟩ [] none (by kernel_rfl) (by rfl) (mt_ev ht (by kernel_rfl)) rfl rfl rfl rfl,
 .mt ⟨[sl 82 (.ptr 1 3)], [.gone, .box [I letters, I 0, .own 6, .own 7] 73 false]⟩ [] none (by kernel_rfl) (by rfl) (mt_ev ht (by kernel_rfl)) rfl rfl rfl rfl,
 .mt ⟨[sl 3 (.rd (fvR (fun (x : Int) => [.sv (.one (I x))]) (fun (r : Int) => .sv (.one (I r))) dommark mark))], []⟩ [] none (by kernel_rfl) (by rfl) (mt_ev ht (by kernel_rfl)) rfl rfl rfl rfl,
 .mt ⟨[sl 15 (I e)], []⟩ [] none (by kernel_rfl) (by rfl) (mt_ev ht (by kernel_rfl)) rfl rfl rfl rfl,
 .mt ⟨[sl 84 (.rd (fvR (fun (x : Int) => [.sv (.one (I x))]) (fun (r : Int) => .sv (.one (I r))) dommark mark)), sl 85 (I e)], []⟩ [] none (by kernel_rfl) (by rfl) (mt_callv (ins := (fun (x : Int) => [.sv (.one (I x))])) (out := (fun (r : Int) => .sv (.one (I r)))) (dom := dommark) (φ := mark) e hp_2 rfl (by rfl) (by rfl) (by rfl) (by rfl)) rfl rfl rfl rfl,
 .mt ⟨[sl 86 (I (mark e))], []⟩ [] none (by kernel_rfl) (by rfl) (mt_seal (q := 10) (e := 3) (mt_lit (T := intT) ([(mark e)] : (List Int)) (mt_bsl 10 (r := cellsOf intT ([(mark e)] : (List Int))) ht rfl (by rfl) (by rfl) (by rfl) (by kernel_rfl) (by rfl)) (fun _ h => by cases h) (fun _ => rfl) (fun _ => rfl) (by rfl) (Nat.le_of_ble_eq_true rfl))) rfl rfl rfl rfl,
 .mt ⟨[sl 83 (.own 7), sl 87 (LS intT ([(mark e)] : (List Int)))], [.gone, .gone, .gone, .gone, .gone, .gone, .gone, rowI 3 intT l7]⟩ [7] (some 10) (by kernel_rfl) (by rfl) (mt_append (T := intT) (l := l7) (es := ([(mark e)] : (List Int))) (p := 10) ht rfl (by rfl) (by rfl) (by rfl) (by rfl) (by decide) (by rfl) (by rfl) (srcLS (T := intT) (es := ([(mark e)] : (List Int))) (fun _ h => by cases h) (by decide) (by rfl)) (by exact hp_3) (by exact hp_3.le (by decide))) rfl rfl rfl rfl,
 .mt ⟨[sl 12 (.ptr 1 0)], []⟩ [] none (by kernel_rfl) (by rfl) (mt_ev ht (by kernel_rfl)) rfl rfl rfl rfl,
 .mu ⟨[sl 88 (.own 10), sl 89 (.ptr 1 3)], [.gone, .box [I letters, I 0, .own 6, .own 7] 73 false]⟩ 1 _ _ rfl rfl (by kernel_rfl) (by rfl) (mu_store2 ht rfl (by rfl) (by rfl) (by rfl) (by rfl) (fun h => by cases h) (by rfl) (by rfl)) rfl rfl rfl rfl rfl rfl rfl,
 trivial⟩
 refine En.move 10 7 (by rfl) (by rfl) ?_
 exact En.at (I := fun zz => Inv zz.1 zz.2.1 zz.2.2.1 zz.2.2.2 ∧ mu zz.1 zz.2.1 zz.2.2.1 zz.2.2.2 < mu m2 l3 l6 l7) (T := fun zz => ⟨[sl 0 (I letters), sl 2 (.rd (fvR (fun (x : (Int × Int)) => [.sv (.one (I x.1)), .sv (.one (I x.2))]) (fun (r : Int) => .sv (.one (I r))) domgo go)), sl 3 (.rd (fvR (fun (x : Int) => [.sv (.one (I x))]) (fun (r : Int) => .sv (.one (I r))) dommark mark)), sl 4 (I limit), sl 10 (.ptr 0 0), sl 12 (.ptr 1 0), sl 13 (.own 2), sl 14 (.own 3)], [.box [I 0, I 0, .v (.slice none 0 0), .v (.slice none 0 0)] 73 false, .box [I letters, I 0, .own 6, .own 7] 73 false, mapI encI3 intT zz.1, rowI 3 intT zz.2.1, .gone, .gone, rowI 23 (lsT intT) zz.2.2.1, rowI 3 intT zz.2.2.2]⟩) (m2_2, l3_2, (l6 ++ ([l8] : (List (List Int)))), (l7 ++ ([(mark e)] : (List Int)))) h (by kernel_rfl)
 replace h := h.2 hb
 refine En.exit rfl ?_
 refine En.seq ?_
 refine En.region ?_
 refine WL.run ht hn 3 ⟨[sl 10 (.ptr 0 0), sl 11 (B true)], [.box [I letters, I 0, .own 6, .own 7] 73 false, .gone, .gone, .gone, .gone, .gone, rowI 23 (lsT intT) l6, rowI 3 intT l7]⟩ (by kernel_rfl) ?_
 refine WL.nil ?_
 refine En.ret ?_
 refine En.seal (T := (lsT intT)) (l := l6) (e := 23) 6 rfl ?_
 refine En.seal (T := intT) (l := l7) (e := 3) 7 rfl ?_
 exact En.back ht ((ApiDet.mk letters 0 l6 l7), true) h (by kernel_rfl) rfl
theorem en74 : ∀ args w, (callFunc 74 args).run Try.prog w = .ok (.enter 74 args) w := enters_of Try.func74 (by kernel_rfl) rfl
def exploreDetCouple_vc (letters : Int) (start : DetCouple) (domgo : ((DetCouple × Int) → Prop)) (go : ((DetCouple × Int) → DetCouple)) (dommark : (DetCouple → Prop)) (mark : (DetCouple → Int)) (limit : Int) (Q : (ApiDet × Bool) → Prop) : Prop :=
 ∃ (Inv : (List (DetCouple × Int)) → (List DetCouple) → (List (List Int)) → (List Int) → Prop) (mu : (List (DetCouple × Int)) → (List DetCouple) → (List (List Int)) → (List Int) → Nat), Inv (mput start 0 ([] : List (DetCouple × Int))) ([start] : (List DetCouple)) ([] : (List (List Int))) ([] : (List Int)) ∧
 ∀ (m3 : (List (DetCouple × Int))) (l4 : (List DetCouple)) (l8 : (List (List Int))) (l9 : (List Int)) , Inv m3 l4 l8 l9 → (IfP (decide ((l8.length : Int) < (l4.length : Int))) (∃ e, idx l4 (l8.length : Int) = some e ∧
 makeOk letters letters 8 ∧
 ∃ (Inv_2 : Int → (List (DetCouple × Int)) → (List DetCouple) → (List Int) → Prop) (mu_2 : Int → (List (DetCouple × Int)) → (List DetCouple) → (List Int) → Nat), Inv_2 0 m3 l4 (List.replicate (letters).toNat (0 : Int)) ∧
 ∀ (x43 : Int) (m3_2 : (List (DetCouple × Int))) (l4_2 : (List DetCouple)) (l11 : (List Int)) , Inv_2 x43 m3_2 l4_2 l11 → (IfP (decide (x43 < letters)) ((domgo (e, x43)) ∧
 ∃ J : Int → (List (DetCouple × Int)) → (List DetCouple) → Prop, (IfP (!(mget (go (e, x43)) m3_2).isSome) (IfP ((l4_2.length : Int) == limit) (Q ((ApiDet.mk 0 0 [] []), false)) (capOk l4_2.length (([(go (e, x43))] : (List DetCouple)) : (List DetCouple)).length 16 ∧
 J (l4_2.length : Int) (mput (go (e, x43)) (l4_2.length : Int) m3_2) (l4_2 ++ ([(go (e, x43))] : (List DetCouple))))) (J ((mget (go (e, x43)) m3_2).getD (0 : Int)) m3_2 l4_2)) ∧
 (∀ (x19 : Int) (m3_3 : (List (DetCouple × Int))) (l4_3 : (List DetCouple)), J x19 m3_3 l4_3 → ∃ e_2, idx l11 x43 = some e_2 ∧
 (Inv_2 (wr (x43 + 1)) m3_3 l4_3 (l11.set (x43).toNat x19) ∧ mu_2 (wr (x43 + 1)) m3_3 l4_3 (l11.set (x43).toNat x19) < mu_2 x43 m3_2 l4_2 l11))) (capOk l8.length (([l11] : (List (List Int))) : (List (List Int))).length 24 ∧
 (dommark e) ∧
 capOk l9.length (([(mark e)] : (List Int)) : (List Int)).length 8 ∧
 (Inv m3_2 l4_2 (l8 ++ ([l11] : (List (List Int)))) (l9 ++ ([(mark e)] : (List Int))) ∧ mu m3_2 l4_2 (l8 ++ ([l11] : (List (List Int)))) (l9 ++ ([(mark e)] : (List Int))) < mu m3 l4 l8 l9)))) (Q ((ApiDet.mk letters 0 l8 l9), true)))
set_option maxHeartbeats 2000000 in
theorem exploreDetCouple_walk (letters : Int) (start : DetCouple) (domgo : ((DetCouple × Int) → Prop)) (go : ((DetCouple × Int) → DetCouple)) (dommark : (DetCouple → Prop)) (mark : (DetCouple → Int)) (limit : Int) (Q : (ApiDet × Bool) → Prop) (h : exploreDetCouple_vc letters start domgo go dommark mark limit Q) : Ct 79 [.sv (.one (I letters)), .sv (.agg [I start.fE0, I start.fE1]), .sv (.one (.rd (fvR (fun (x : (DetCouple × Int)) => [.sv (.agg [I x.1.fE0, I x.1.fE1]), .sv (.one (I x.2))]) (fun (r : DetCouple) => .sv (.agg [I r.fE0, I r.fE1])) domgo go))), .sv (.one (.rd (fvR (fun (x : DetCouple) => [.sv (.agg [I x.fE0, I x.fE1])]) (fun (r : Int) => .sv (.one (I r))) dommark mark))), .sv (.one (I limit))] [] Q (fun (r : (ApiDet × Bool)) => .tup [.agg [I r.1.fLetters, I r.1.fStart, LS (lsT intT) r.1.fNext, LS intT r.1.fMark], .one (B r.2)]) := by
 have ht := tab_ok
 refine Ct.body Try.func79 rfl rfl rfl rfl (fun c hn => ?_)
 unfold exploreDetCouple_vc at h
 refine En.seq ?_
 refine En.region ?_
 refine WL.run ht hn 3 ⟨[sl 0 (I letters), sl 2 (.rd (fvR (fun (x : (DetCouple × Int)) => [.sv (.agg (DetCouple.cl x.1)), .sv (.one (I x.2))]) (fun (r : DetCouple) => .sv (.agg (DetCouple.cl r))) domgo go)), sl 3 (.rd (fvR (fun (x : DetCouple) => [.sv (.agg (DetCouple.cl x))]) (fun (r : Int) => .sv (.one (I r))) dommark mark)), sl 4 (I limit), sl 6 (.ptr 0 0), sl 10 (.ptr 1 0)], [.box (DetCouple.cl start) 169 false, .box [I 0, I 0, .v (.slice none 0 0), .v (.slice none 0 0)] 73 false]⟩ (by kernel_rfl) ?_
 refine WL.nil ?_
 refine En.seq ?_
 refine En.region ?_
 refine WL.run ht hn 4 ⟨[sl 0 (I letters), sl 2 (.rd (fvR (fun (x : (DetCouple × Int)) => [.sv (.agg (DetCouple.cl x.1)), .sv (.one (I x.2))]) (fun (r : DetCouple) => .sv (.agg (DetCouple.cl r))) domgo go)), sl 3 (.rd (fvR (fun (x : DetCouple) => [.sv (.agg (DetCouple.cl x))]) (fun (r : Int) => .sv (.one (I r))) dommark mark)), sl 4 (I limit), sl 6 (.ptr 0 0), sl 10 (.ptr 1 0), sl 12 (.ptr 2 0)], [.box (DetCouple.cl start) 169 false, .box [I 0, I 0, .v (.slice none 0 0), .v (.slice none 0 0)] 73 false, .box [I letters, I 0, .v (.slice none 0 0), .v (.slice none 0 0)] 73 false]⟩ (by kernel_rfl) ?_
 refine WL.nil ?_
 refine En.seq ?_
 refine En.region ?_
 refine WL.mt0 (K := []) (p := some (3, mapI DetCouple.enc intT ([] : List (DetCouple × Int)))) hn (by rfl) (mt_makeMap DetCouple.enc intT 3 rfl) (by rfl) (by rfl) (by rfl) ?_
 refine WL.run ht hn 1 ⟨[sl 0 (I letters), sl 2 (.rd (fvR (fun (x : (DetCouple × Int)) => [.sv (.agg (DetCouple.cl x.1)), .sv (.one (I x.2))]) (fun (r : DetCouple) => .sv (.agg (DetCouple.cl r))) domgo go)), sl 3 (.rd (fvR (fun (x : DetCouple) => [.sv (.agg (DetCouple.cl x))]) (fun (r : Int) => .sv (.one (I r))) dommark mark)), sl 4 (I limit), sl 6 (.ptr 0 0), sl 10 (.ptr 1 0), sl 12 (.ptr 2 0), sl 23 (.own 3), (24, .sv (.agg (DetCouple.cl start)))], [.box (DetCouple.cl start) 169 false, .box [I 0, I 0, .v (.slice none 0 0), .v (.slice none 0 0)] 73 false, .box [I letters, I 0, .v (.slice none 0 0), .v (.slice none 0 0)] 73 false, mapI DetCouple.enc intT ([] : List (DetCouple × Int))]⟩ (by kernel_rfl) ?_
 refine WL.mapPut (T := intT) DetCouple.keyLaw (k := start) (y := 0) hn (by rfl) (.inr rfl) Try.underlying278 (by rfl) (by rfl) (by rfl) (by rfl) (by rfl) (by rfl) ?_
 refine WL.run ht hn 2 ⟨[sl 0 (I letters), sl 2 (.rd (fvR (fun (x : (DetCouple × Int)) => [.sv (.agg (DetCouple.cl x.1)), .sv (.one (I x.2))]) (fun (r : DetCouple) => .sv (.agg (DetCouple.cl r))) domgo go)), sl 3 (.rd (fvR (fun (x : DetCouple) => [.sv (.agg (DetCouple.cl x))]) (fun (r : Int) => .sv (.one (I r))) dommark mark)), sl 4 (I limit), sl 6 (.ptr 0 0), sl 10 (.ptr 1 0), sl 12 (.ptr 2 0), sl 13 (.own 3)], [.box (DetCouple.cl start) 169 false, .box [I 0, I 0, .v (.slice none 0 0), .v (.slice none 0 0)] 73 false, .box [I letters, I 0, .v (.slice none 0 0), .v (.slice none 0 0)] 73 false, mapI DetCouple.enc intT (mput start 0 ([] : List (DetCouple × Int)))]⟩ (by kernel_rfl) ?_
 refine WL.nil ?_
 refine En.seq ?_
 refine En.seq ?_
 refine En.region ?_
 refine WL.run ht hn 1 ⟨[sl 0 (I letters), sl 2 (.rd (fvR (fun (x : (DetCouple × Int)) => [.sv (.agg (DetCouple.cl x.1)), .sv (.one (I x.2))]) (fun (r : DetCouple) => .sv (.agg (DetCouple.cl r))) domgo go)), sl 3 (.rd (fvR (fun (x : DetCouple) => [.sv (.agg (DetCouple.cl x))]) (fun (r : Int) => .sv (.one (I r))) dommark mark)), sl 4 (I limit), sl 10 (.ptr 1 0), sl 12 (.ptr 2 0), sl 13 (.own 3), (26, .sv (.agg (DetCouple.cl start)))], [.gone, .box [I 0, I 0, .v (.slice none 0 0), .v (.slice none 0 0)] 73 false, .box [I letters, I 0, .v (.slice none 0 0), .v (.slice none 0 0)] 73 false, mapI DetCouple.enc intT (mput start 0 ([] : List (DetCouple × Int)))]⟩ (by kernel_rfl) ?_
 refine WL.mt0 (K := []) (p := some (4, rowI 169 DetCouple.ty ([start] : (List DetCouple)))) hn (by rfl) (mt_lit (T := DetCouple.ty) ([start] : (List DetCouple)) (mt_bsl 4 (r := cellsOf DetCouple.ty ([start] : (List DetCouple))) ht rfl (by rfl) (by rfl) (by rfl) (by kernel_rfl) (by rfl)) (fun _ h => by cases h) (fun _ => rfl) (fun _ => rfl) (by rfl) (Nat.le_of_ble_eq_true rfl)) (by rfl) (by rfl) (by rfl) ?_
 refine WL.run ht hn 1 ⟨[sl 0 (I letters), sl 2 (.rd (fvR (fun (x : (DetCouple × Int)) => [.sv (.agg (DetCouple.cl x.1)), .sv (.one (I x.2))]) (fun (r : DetCouple) => .sv (.agg (DetCouple.cl r))) domgo go)), sl 3 (.rd (fvR (fun (x : DetCouple) => [.sv (.agg (DetCouple.cl x))]) (fun (r : Int) => .sv (.one (I r))) dommark mark)), sl 4 (I limit), sl 10 (.ptr 1 0), sl 12 (.ptr 2 0), sl 13 (.own 3), sl 14 (.own 4)], [.gone, .box [I 0, I 0, .v (.slice none 0 0), .v (.slice none 0 0)] 73 false, .box [I letters, I 0, .v (.slice none 0 0), .v (.slice none 0 0)] 73 false, mapI DetCouple.enc intT (mput start 0 ([] : List (DetCouple × Int))), rowI 169 DetCouple.ty ([start] : (List DetCouple))]⟩ (by kernel_rfl) ?_
 refine WL.nil ?_
 refine En.block ?_
 refine En.nilBoxO (T := (lsT intT)) 2 2 8 23 (by rfl) (by rfl) (by rfl) (by rfl) ?_
 refine En.nilBoxO (T := intT) 2 3 9 3 (by rfl) (by rfl) (by rfl) (by rfl) ?_
 obtain ⟨Inv, mu, h0_2, hI_2⟩ := h
 refine En.loop (σ := (List (DetCouple × Int)) × (List DetCouple) × (List (List Int)) × (List Int)) (fun zz => Inv zz.1 zz.2.1 zz.2.2.1 zz.2.2.2) (fun zz => mu zz.1 zz.2.1 zz.2.2.1 zz.2.2.2) (fun zz => ⟨[sl 0 (I letters), sl 2 (.rd (fvR (fun (x : (DetCouple × Int)) => [.sv (.agg (DetCouple.cl x.1)), .sv (.one (I x.2))]) (fun (r : DetCouple) => .sv (.agg (DetCouple.cl r))) domgo go)), sl 3 (.rd (fvR (fun (x : DetCouple) => [.sv (.agg (DetCouple.cl x))]) (fun (r : Int) => .sv (.one (I r))) dommark mark)), sl 4 (I limit), sl 10 (.ptr 1 0), sl 12 (.ptr 2 0), sl 13 (.own 3), sl 14 (.own 4)], [.gone, .box [I 0, I 0, .v (.slice none 0 0), .v (.slice none 0 0)] 73 false, .box [I letters, I 0, .own 8, .own 9] 73 false, mapI DetCouple.enc intT zz.1, rowI 169 DetCouple.ty zz.2.1, .gone, .gone, .gone, rowI 23 (lsT intT) zz.2.2.1, rowI 3 intT zz.2.2.2]⟩) ((mput start 0 ([] : List (DetCouple × Int))), ([start] : (List DetCouple)), ([] : (List (List Int))), ([] : (List Int))) h0_2 (sub_ok (by kernel_rfl)) ?_
 rintro ⟨m3, l4, l8, l9⟩ h
 replace h := hI_2 _ _ _ _ h
 show En c ⟨[sl 0 (I letters), sl 2 (.rd (fvR (fun (x : (DetCouple × Int)) => [.sv (.agg (DetCouple.cl x.1)), .sv (.one (I x.2))]) (fun (r : DetCouple) => .sv (.agg (DetCouple.cl r))) domgo go)), sl 3 (.rd (fvR (fun (x : DetCouple) => [.sv (.agg (DetCouple.cl x))]) (fun (r : Int) => .sv (.one (I r))) dommark mark)), sl 4 (I limit), sl 10 (.ptr 1 0), sl 12 (.ptr 2 0), sl 13 (.own 3), sl 14 (.own 4)], [.gone, .box [I 0, I 0, .v (.slice none 0 0), .v (.slice none 0 0)] 73 false, .box [I letters, I 0, .own 8, .own 9] 73 false, mapI DetCouple.enc intT m3, rowI 169 DetCouple.ty l4, .gone, .gone, .gone, rowI 23 (lsT intT) l8, rowI 3 intT l9]⟩ _
 refine En.seq ?_
 refine En.seq ?_
 refine En.region ?_
 refine WL.run ht hn 6 ⟨[sl 0 (I letters), sl 2 (.rd (fvR (fun (x : (DetCouple × Int)) => [.sv (.agg (DetCouple.cl x.1)), .sv (.one (I x.2))]) (fun (r : DetCouple) => .sv (.agg (DetCouple.cl r))) domgo go)), sl 3 (.rd (fvR (fun (x : DetCouple) => [.sv (.agg (DetCouple.cl x))]) (fun (r : Int) => .sv (.one (I r))) dommark mark)), sl 4 (I limit), sl 10 (.ptr 1 0), sl 12 (.ptr 2 0), sl 13 (.own 3), sl 14 (.own 4), sl 33 (B (decide ((l8.length : Int) < (l4.length : Int))))], [.gone, .box [I 0, I 0, .v (.slice none 0 0), .v (.slice none 0 0)] 73 false, .box [I letters, I 0, .own 8, .own 9] 73 false, mapI DetCouple.enc intT m3, rowI 169 DetCouple.ty l4, .gone, .gone, .gone, rowI 23 (lsT intT) l8, rowI 3 intT l9]⟩ (by kernel_rfl) ?_
 refine WL.nil ?_
 refine En.cond (b := (decide ((l8.length : Int) < (l4.length : Int)))) (by kernel_rfl) (fun hb => ?_) (fun hb => ?_)
 replace h := h.1 hb
 refine En.skip ?_
 refine En.block ?_
 refine En.seq ?_
 refine En.region ?_
 refine WL.run ht hn 4 ⟨[sl 0 (I letters), sl 2 (.rd (fvR (fun (x : (DetCouple × Int)) => [.sv (.agg (DetCouple.cl x.1)), .sv (.one (I x.2))]) (fun (r : DetCouple) => .sv (.agg (DetCouple.cl r))) domgo go)), sl 3 (.rd (fvR (fun (x : DetCouple) => [.sv (.agg (DetCouple.cl x))]) (fun (r : Int) => .sv (.one (I r))) dommark mark)), sl 4 (I limit), sl 10 (.ptr 1 0), sl 12 (.ptr 2 0), sl 13 (.own 3), sl 14 (.own 4), sl 34 (.own 4), sl 37 (I (l8.length : Int))], [.gone, .box [I 0, I 0, .v (.slice none 0 0), .v (.slice none 0 0)] 73 false, .box [I letters, I 0, .own 8, .own 9] 73 false, mapI DetCouple.enc intT m3, rowI 169 DetCouple.ty l4, .gone, .gone, .gone, rowI 23 (lsT intT) l8, rowI 3 intT l9]⟩ (by kernel_rfl) ?_
 obtain ⟨e, he, h⟩ := h
 refine WL.val hn (by rfl) (val_indexO (T := DetCouple.ty) (l := l4) (k := (l8.length : Int)) ht rfl (by rfl) (by rfl) (by rfl) (by rfl) (by decide) (by rfl) (by rfl) (by rfl) he) (by rfl) ?_
 refine WL.val hn (by rfl) (val_loadO (T := DetCouple.ty) (l := l4) (y := e) ht rfl (by rfl) (by rfl) (by rfl) (by rfl) (by rfl) (idx_some he).2.2 (by rfl)) (by rfl) ?_
 refine WL.run ht hn 2 ⟨[sl 0 (I letters), sl 2 (.rd (fvR (fun (x : (DetCouple × Int)) => [.sv (.agg (DetCouple.cl x.1)), .sv (.one (I x.2))]) (fun (r : DetCouple) => .sv (.agg (DetCouple.cl r))) domgo go)), sl 3 (.rd (fvR (fun (x : DetCouple) => [.sv (.agg (DetCouple.cl x))]) (fun (r : Int) => .sv (.one (I r))) dommark mark)), sl 4 (I limit), sl 10 (.ptr 1 0), sl 12 (.ptr 2 0), sl 13 (.own 3), sl 14 (.own 4), sl 15 (.ptr 10 0)], [.gone, .box [I 0, I 0, .v (.slice none 0 0), .v (.slice none 0 0)] 73 false, .box [I letters, I 0, .own 8, .own 9] 73 false, mapI DetCouple.enc intT m3, rowI 169 DetCouple.ty l4, .gone, .gone, .gone, rowI 23 (lsT intT) l8, rowI 3 intT l9, .box (DetCouple.cl e) 169 false]⟩ (by kernel_rfl) ?_
 refine WL.nil ?_
 refine En.seq ?_
 refine En.region ?_
 refine WL.run ht hn 1 ⟨[sl 0 (I letters), sl 2 (.rd (fvR (fun (x : (DetCouple × Int)) => [.sv (.agg (DetCouple.cl x.1)), .sv (.one (I x.2))]) (fun (r : DetCouple) => .sv (.agg (DetCouple.cl r))) domgo go)), sl 3 (.rd (fvR (fun (x : DetCouple) => [.sv (.agg (DetCouple.cl x))]) (fun (r : Int) => .sv (.one (I r))) dommark mark)), sl 4 (I limit), sl 10 (.ptr 1 0), sl 12 (.ptr 2 0), sl 13 (.own 3), sl 14 (.own 4), sl 15 (.ptr 10 0), sl 40 (I letters)], [.gone, .box [I 0, I 0, .v (.slice none 0 0), .v (.slice none 0 0)] 73 false, .box [I letters, I 0, .own 8, .own 9] 73 false, mapI DetCouple.enc intT m3, rowI 169 DetCouple.ty l4, .gone, .gone, .gone, rowI 23 (lsT intT) l8, rowI 3 intT l9, .box (DetCouple.cl e) 169 false]⟩ (by kernel_rfl) ?_
 have hp := h.1
 replace h := h.2
 refine WL.mt0 (K := []) (p := some (11, rowI 3 intT (List.replicate (letters).toNat (0 : Int)))) hn (by rfl) (mt_make (T := intT) (0 : Int) (zv := (.int .i64 0)) 11 (l := letters) (cp := letters) ht rfl (by rfl) (by rfl) (by rfl) (by rfl) (by decide) (by rfl) (by rfl) hp.1 hp.2.1 hp.2.2 (hp.le (by decide)) rfl (fun _ => ⟨rfl, trivial⟩)) (by rfl) (by rfl) (by rfl) ?_
 refine WL.run ht hn 1 ⟨[sl 0 (I letters), sl 2 (.rd (fvR (fun (x : (DetCouple × Int)) => [.sv (.agg (DetCouple.cl x.1)), .sv (.one (I x.2))]) (fun (r : DetCouple) => .sv (.agg (DetCouple.cl r))) domgo go)), sl 3 (.rd (fvR (fun (x : DetCouple) => [.sv (.agg (DetCouple.cl x))]) (fun (r : Int) => .sv (.one (I r))) dommark mark)), sl 4 (I limit), sl 10 (.ptr 1 0), sl 12 (.ptr 2 0), sl 13 (.own 3), sl 14 (.own 4), sl 15 (.ptr 10 0), sl 16 (.own 11)], [.gone, .box [I 0, I 0, .v (.slice none 0 0), .v (.slice none 0 0)] 73 false, .box [I letters, I 0, .own 8, .own 9] 73 false, mapI DetCouple.enc intT m3, rowI 169 DetCouple.ty l4, .gone, .gone, .gone, rowI 23 (lsT intT) l8, rowI 3 intT l9, .box (DetCouple.cl e) 169 false, rowI 3 intT (List.replicate (letters).toNat (0 : Int))]⟩ (by kernel_rfl) ?_
 refine WL.nil ?_
 refine En.seq ?_
 refine En.seq ?_
 refine En.region ?_
 refine WL.run ht hn 2 ⟨[sl 0 (I letters), sl 2 (.rd (fvR (fun (x : (DetCouple × Int)) => [.sv (.agg (DetCouple.cl x.1)), .sv (.one (I x.2))]) (fun (r : DetCouple) => .sv (.agg (DetCouple.cl r))) domgo go)), sl 3 (.rd (fvR (fun (x : DetCouple) => [.sv (.agg (DetCouple.cl x))]) (fun (r : Int) => .sv (.one (I r))) dommark mark)), sl 4 (I limit), sl 10 (.ptr 1 0), sl 12 (.ptr 2 0), sl 13 (.own 3), sl 14 (.own 4), sl 15 (.ptr 10 0), sl 16 (.own 11), sl 42 (I letters), sl 43 (I 0)], [.gone, .box [I 0, I 0, .v (.slice none 0 0), .v (.slice none 0 0)] 73 false, .box [I letters, I 0, .own 8, .own 9] 73 false, mapI DetCouple.enc intT m3, rowI 169 DetCouple.ty l4, .gone, .gone, .gone, rowI 23 (lsT intT) l8, rowI 3 intT l9, .box (DetCouple.cl e) 169 false, rowI 3 intT (List.replicate (letters).toNat (0 : Int))]⟩ (by kernel_rfl) ?_
 refine WL.nil ?_
 refine En.block ?_
 obtain ⟨Inv_2, mu_2, h0, hI⟩ := h
 refine En.loop (σ := Int × (List (DetCouple × Int)) × (List DetCouple) × (List Int)) (fun zz => Inv_2 zz.1 zz.2.1 zz.2.2.1 zz.2.2.2) (fun zz => mu_2 zz.1 zz.2.1 zz.2.2.1 zz.2.2.2) (fun zz => ⟨[sl 0 (I letters), sl 2 (.rd (fvR (fun (x : (DetCouple × Int)) => [.sv (.agg (DetCouple.cl x.1)), .sv (.one (I x.2))]) (fun (r : DetCouple) => .sv (.agg (DetCouple.cl r))) domgo go)), sl 3 (.rd (fvR (fun (x : DetCouple) => [.sv (.agg (DetCouple.cl x))]) (fun (r : Int) => .sv (.one (I r))) dommark mark)), sl 4 (I limit), sl 10 (.ptr 1 0), sl 12 (.ptr 2 0), sl 13 (.own 3), sl 14 (.own 4), sl 15 (.ptr 10 0), sl 16 (.own 11), sl 42 (I letters), sl 43 (I zz.1)], [.gone, .box [I 0, I 0, .v (.slice none 0 0), .v (.slice none 0 0)] 73 false, .box [I letters, I 0, .own 8, .own 9] 73 false, mapI DetCouple.enc intT zz.2.1, rowI 169 DetCouple.ty zz.2.2.1, .gone, .gone, .gone, rowI 23 (lsT intT) l8, rowI 3 intT l9, .box (DetCouple.cl e) 169 false, rowI 3 intT zz.2.2.2]⟩) (0, m3, l4, (List.replicate (letters).toNat (0 : Int))) h0 (sub_ok (by kernel_rfl)) ?_
 rintro ⟨x43, m3_2, l4_2, l11⟩ h
 replace h := hI _ _ _ _ h
 show En c ⟨[sl 0 (I letters), sl 2 (.rd (fvR (fun (x : (DetCouple × Int)) => [.sv (.agg (DetCouple.cl x.1)), .sv (.one (I x.2))]) (fun (r : DetCouple) => .sv (.agg (DetCouple.cl r))) domgo go)), sl 3 (.rd (fvR (fun (x : DetCouple) => [.sv (.agg (DetCouple.cl x))]) (fun (r : Int) => .sv (.one (I r))) dommark mark)), sl 4 (I limit), sl 10 (.ptr 1 0), sl 12 (.ptr 2 0), sl 13 (.own 3), sl 14 (.own 4), sl 15 (.ptr 10 0), sl 16 (.own 11), sl 42 (I letters), sl 43 (I x43)], [.gone, .box [I 0, I 0, .v (.slice none 0 0), .v (.slice none 0 0)] 73 false, .box [I letters, I 0, .own 8, .own 9] 73 false, mapI DetCouple.enc intT m3_2, rowI 169 DetCouple.ty l4_2, .gone, .gone, .gone, rowI 23 (lsT intT) l8, rowI 3 intT l9, .box (DetCouple.cl e) 169 false, rowI 3 intT l11]⟩ _
 refine En.seq ?_
 refine En.region ?_
 refine WL.run ht hn 1 ⟨[sl 0 (I letters), sl 2 (.rd (fvR (fun (x : (DetCouple × Int)) => [.sv (.agg (DetCouple.cl x.1)), .sv (.one (I x.2))]) (fun (r : DetCouple) => .sv (.agg (DetCouple.cl r))) domgo go)), sl 3 (.rd (fvR (fun (x : DetCouple) => [.sv (.agg (DetCouple.cl x))]) (fun (r : Int) => .sv (.one (I r))) dommark mark)), sl 4 (I limit), sl 10 (.ptr 1 0), sl 12 (.ptr 2 0), sl 13 (.own 3), sl 14 (.own 4), sl 15 (.ptr 10 0), sl 16 (.own 11), sl 42 (I letters), sl 43 (I x43), sl 44 (B (decide (x43 < letters)))], [.gone, .box [I 0, I 0, .v (.slice none 0 0), .v (.slice none 0 0)] 73 false, .box [I letters, I 0, .own 8, .own 9] 73 false, mapI DetCouple.enc intT m3_2, rowI 169 DetCouple.ty l4_2, .gone, .gone, .gone, rowI 23 (lsT intT) l8, rowI 3 intT l9, .box (DetCouple.cl e) 169 false, rowI 3 intT l11]⟩ (by kernel_rfl) ?_
 refine WL.nil ?_
 refine En.seq ?_
 refine En.cond (b := (decide (x43 < letters))) (by kernel_rfl) (fun hb => ?_) (fun hb => ?_)
 replace h := h.1 hb
 refine En.skip ?_
 refine En.seq ?_
 refine En.block ?_
 refine En.seq ?_
 refine En.region ?_
 refine WL.run ht hn 2 ⟨[sl 0 (I letters), sl 2 (.rd (fvR (fun (x : (DetCouple × Int)) => [.sv (.agg (DetCouple.cl x.1)), .sv (.one (I x.2))]) (fun (r : DetCouple) => .sv (.agg (DetCouple.cl r))) domgo go)), sl 3 (.rd (fvR (fun (x : DetCouple) => [.sv (.agg (DetCouple.cl x))]) (fun (r : Int) => .sv (.one (I r))) dommark mark)), sl 4 (I limit), sl 10 (.ptr 1 0), sl 12 (.ptr 2 0), sl 13 (.own 3), sl 14 (.own 4), sl 15 (.ptr 10 0), sl 16 (.own 11), sl 17 (I x43), sl 42 (I letters), sl 43 (I x43)], [.gone, .box [I 0, I 0, .v (.slice none 0 0), .v (.slice none 0 0)] 73 false, .box [I letters, I 0, .own 8, .own 9] 73 false, mapI DetCouple.enc intT m3_2, rowI 169 DetCouple.ty l4_2, .gone, .gone, .gone, rowI 23 (lsT intT) l8, rowI 3 intT l9, .box (DetCouple.cl e) 169 false, rowI 3 intT l11]⟩ (by kernel_rfl) ?_
 refine WL.nil ?_
 refine En.seq ?_
 refine En.region ?_
 refine WL.run ht hn 3 ⟨[sl 0 (I letters), sl 2 (.rd (fvR (fun (x : (DetCouple × Int)) => [.sv (.agg (DetCouple.cl x.1)), .sv (.one (I x.2))]) (fun (r : DetCouple) => .sv (.agg (DetCouple.cl r))) domgo go)), sl 3 (.rd (fvR (fun (x : DetCouple) => [.sv (.agg (DetCouple.cl x))]) (fun (r : Int) => .sv (.one (I r))) dommark mark)), sl 4 (I limit), sl 10 (.ptr 1 0), sl 12 (.ptr 2 0), sl 13 (.own 3), sl 14 (.own 4), sl 15 (.ptr 10 0), sl 16 (.own 11), sl 17 (I x43), sl 42 (I letters), sl 43 (I x43), sl 46 (.rd (fvR (fun (x : (DetCouple × Int)) => [.sv (.agg (DetCouple.cl x.1)), .sv (.one (I x.2))]) (fun (r : DetCouple) => .sv (.agg (DetCouple.cl r))) domgo go)), (47, .sv (.agg (DetCouple.cl e))), sl 48 (I x43)], [.gone, .box [I 0, I 0, .v (.slice none 0 0), .v (.slice none 0 0)] 73 false, .box [I letters, I 0, .own 8, .own 9] 73 false, mapI DetCouple.enc intT m3_2, rowI 169 DetCouple.ty l4_2, .gone, .gone, .gone, rowI 23 (lsT intT) l8, rowI 3 intT l9, .box (DetCouple.cl e) 169 false, rowI 3 intT l11]⟩ (by kernel_rfl) ?_
 have hp := h.1
 replace h := h.2
 refine WL.mt0 (K := []) (p := none) hn (by rfl) (mt_callv (e, x43) hp rfl (by rfl) (by rfl) (by rfl) (by rfl)) (by rfl) (by rfl) (by rfl) ?_
 refine WL.run ht hn 2 ⟨[sl 0 (I letters), sl 2 (.rd (fvR (fun (x : (DetCouple × Int)) => [.sv (.agg (DetCouple.cl x.1)), .sv (.one (I x.2))]) (fun (r : DetCouple) => .sv (.agg (DetCouple.cl r))) domgo go)), sl 3 (.rd (fvR (fun (x : DetCouple) => [.sv (.agg (DetCouple.cl x))]) (fun (r : Int) => .sv (.one (I r))) dommark mark)), sl 4 (I limit), sl 10 (.ptr 1 0), sl 12 (.ptr 2 0), sl 13 (.own 3), sl 14 (.own 4), sl 15 (.ptr 10 0), sl 16 (.own 11), sl 17 (I x43), sl 18 (.ptr 12 0), sl 42 (I letters), sl 43 (I x43)], [.gone, .box [I 0, I 0, .v (.slice none 0 0), .v (.slice none 0 0)] 73 false, .box [I letters, I 0, .own 8, .own 9] 73 false, mapI DetCouple.enc intT m3_2, rowI 169 DetCouple.ty l4_2, .gone, .gone, .gone, rowI 23 (lsT intT) l8, rowI 3 intT l9, .box (DetCouple.cl e) 169 false, rowI 3 intT l11, .box (DetCouple.cl (go (e, x43))) 169 false]⟩ (by kernel_rfl) ?_
 refine WL.nil ?_
 refine En.seq ?_
 refine En.region ?_
 refine WL.run ht hn 2 ⟨[sl 0 (I letters), sl 2 (.rd (fvR (fun (x : (DetCouple × Int)) => [.sv (.agg (DetCouple.cl x.1)), .sv (.one (I x.2))]) (fun (r : DetCouple) => .sv (.agg (DetCouple.cl r))) domgo go)), sl 3 (.rd (fvR (fun (x : DetCouple) => [.sv (.agg (DetCouple.cl x))]) (fun (r : Int) => .sv (.one (I r))) dommark mark)), sl 4 (I limit), sl 10 (.ptr 1 0), sl 12 (.ptr 2 0), sl 13 (.own 3), sl 14 (.own 4), sl 15 (.ptr 10 0), sl 16 (.own 11), sl 17 (I x43), sl 18 (.ptr 12 0), sl 42 (I letters), sl 43 (I x43), sl 51 (.own 3), (52, .sv (.agg (DetCouple.cl (go (e, x43)))))], [.gone, .box [I 0, I 0, .v (.slice none 0 0), .v (.slice none 0 0)] 73 false, .box [I letters, I 0, .own 8, .own 9] 73 false, mapI DetCouple.enc intT m3_2, rowI 169 DetCouple.ty l4_2, .gone, .gone, .gone, rowI 23 (lsT intT) l8, rowI 3 intT l9, .box (DetCouple.cl e) 169 false, rowI 3 intT l11, .box (DetCouple.cl (go (e, x43))) 169 false]⟩ (by kernel_rfl) ?_
 refine WL.val hn (by rfl) (val_lookup (T := intT) (D := m3_2) DetCouple.keyLaw (k := (go (e, x43))) (ok := true) (0 : Int) (zv := (.int .i64 0)) rfl Try.underlying278 (fun _ => by kernel_rfl) (fun _ => ⟨rfl, trivial⟩) (mapAs DetCouple.enc intT m3_2) (by rfl) (by rfl) (by rfl) (fun _ => rfl)) (by rfl) ?_
 refine WL.run ht hn 5 ⟨[sl 0 (I letters), sl 2 (.rd (fvR (fun (x : (DetCouple × Int)) => [.sv (.agg (DetCouple.cl x.1)), .sv (.one (I x.2))]) (fun (r : DetCouple) => .sv (.agg (DetCouple.cl r))) domgo go)), sl 3 (.rd (fvR (fun (x : DetCouple) => [.sv (.agg (DetCouple.cl x))]) (fun (r : Int) => .sv (.one (I r))) dommark mark)), sl 4 (I limit), sl 10 (.ptr 1 0), sl 12 (.ptr 2 0), sl 13 (.own 3), sl 14 (.own 4), sl 15 (.ptr 10 0), sl 16 (.own 11), sl 17 (I x43), sl 18 (.ptr 12 0), sl 19 (I ((mget (go (e, x43)) m3_2).getD (0 : Int))), sl 20 (B (mget (go (e, x43)) m3_2).isSome), sl 42 (I letters), sl 43 (I x43)], [.gone, .box [I 0, I 0, .v (.slice none 0 0), .v (.slice none 0 0)] 73 false, .box [I letters, I 0, .own 8, .own 9] 73 false, mapI DetCouple.enc intT m3_2, rowI 169 DetCouple.ty l4_2, .gone, .gone, .gone, rowI 23 (lsT intT) l8, rowI 3 intT l9, .box (DetCouple.cl e) 169 false, rowI 3 intT l11, .box (DetCouple.cl (go (e, x43))) 169 false]⟩ (by kernel_rfl) ?_
 refine WL.nil ?_
 obtain ⟨J, h, hJ⟩ := h
 refine En.seqJ (σ := Int × (List (DetCouple × Int)) × (List DetCouple)) (fun zz => J zz.1 zz.2.1 zz.2.2) (fun zz => ⟨[sl 0 (I letters), sl 2 (.rd (fvR (fun (x : (DetCouple × Int)) => [.sv (.agg (DetCouple.cl x.1)), .sv (.one (I x.2))]) (fun (r : DetCouple) => .sv (.agg (DetCouple.cl r))) domgo go)), sl 3 (.rd (fvR (fun (x : DetCouple) => [.sv (.agg (DetCouple.cl x))]) (fun (r : Int) => .sv (.one (I r))) dommark mark)), sl 4 (I limit), sl 10 (.ptr 1 0), sl 12 (.ptr 2 0), sl 13 (.own 3), sl 14 (.own 4), sl 15 (.ptr 10 0), sl 16 (.own 11), sl 17 (I x43), sl 19 (I zz.1), sl 42 (I letters), sl 43 (I x43)], [.gone, .box [I 0, I 0, .v (.slice none 0 0), .v (.slice none 0 0)] 73 false, .box [I letters, I 0, .own 8, .own 9] 73 false, mapI DetCouple.enc intT zz.2.1, rowI 169 DetCouple.ty zz.2.2, .gone, .gone, .gone, rowI 23 (lsT intT) l8, rowI 3 intT l9, .box (DetCouple.cl e) 169 false, rowI 3 intT l11, .gone]⟩) ?_ ?_
 refine En.seq ?_
 refine En.region ?_
 refine WL.run ht hn 2 ⟨[sl 0 (I letters), sl 2 (.rd (fvR (fun (x : (DetCouple × Int)) => [.sv (.agg (DetCouple.cl x.1)), .sv (.one (I x.2))]) (fun (r : DetCouple) => .sv (.agg (DetCouple.cl r))) domgo go)), sl 3 (.rd (fvR (fun (x : DetCouple) => [.sv (.agg (DetCouple.cl x))]) (fun (r : Int) => .sv (.one (I r))) dommark mark)), sl 4 (I limit), sl 10 (.ptr 1 0), sl 12 (.ptr 2 0), sl 13 (.own 3), sl 14 (.own 4), sl 15 (.ptr 10 0), sl 16 (.own 11), sl 17 (I x43), sl 18 (.ptr 12 0), sl 19 (I ((mget (go (e, x43)) m3_2).getD (0 : Int))), sl 42 (I letters), sl 43 (I x43), sl 57 (B (!(mget (go (e, x43)) m3_2).isSome))], [.gone, .box [I 0, I 0, .v (.slice none 0 0), .v (.slice none 0 0)] 73 false, .box [I letters, I 0, .own 8, .own 9] 73 false, mapI DetCouple.enc intT m3_2, rowI 169 DetCouple.ty l4_2, .gone, .gone, .gone, rowI 23 (lsT intT) l8, rowI 3 intT l9, .box (DetCouple.cl e) 169 false, rowI 3 intT l11, .box (DetCouple.cl (go (e, x43))) 169 false]⟩ (by kernel_rfl) ?_
 refine WL.nil ?_
 refine En.cond (b := (!(mget (go (e, x43)) m3_2).isSome)) (by kernel_rfl) (fun hb => ?_) (fun hb => ?_)
 replace h := h.1 hb
 refine En.seq ?_
 refine En.region ?_
 refine WL.run ht hn 3 ⟨[sl 0 (I letters), sl 2 (.rd (fvR (fun (x : (DetCouple × Int)) => [.sv (.agg (DetCouple.cl x.1)), .sv (.one (I x.2))]) (fun (r : DetCouple) => .sv (.agg (DetCouple.cl r))) domgo go)), sl 3 (.rd (fvR (fun (x : DetCouple) => [.sv (.agg (DetCouple.cl x))]) (fun (r : Int) => .sv (.one (I r))) dommark mark)), sl 4 (I limit), sl 10 (.ptr 1 0), sl 12 (.ptr 2 0), sl 13 (.own 3), sl 14 (.own 4), sl 15 (.ptr 10 0), sl 16 (.own 11), sl 17 (I x43), sl 18 (.ptr 12 0), sl 19 (I (l4_2.length : Int)), sl 42 (I letters), sl 43 (I x43)], [.gone, .box [I 0, I 0, .v (.slice none 0 0), .v (.slice none 0 0)] 73 false, .box [I letters, I 0, .own 8, .own 9] 73 false, mapI DetCouple.enc intT m3_2, rowI 169 DetCouple.ty l4_2, .gone, .gone, .gone, rowI 23 (lsT intT) l8, rowI 3 intT l9, .box (DetCouple.cl e) 169 false, rowI 3 intT l11, .box (DetCouple.cl (go (e, x43))) 169 false]⟩ (by kernel_rfl) ?_
 refine WL.nil ?_
 refine En.seq ?_
 refine En.seq ?_
 refine En.region ?_
 refine WL.run ht hn 3 ⟨[sl 0 (I letters), sl 2 (.rd (fvR (fun (x : (DetCouple × Int)) => [.sv (.agg (DetCouple.cl x.1)), .sv (.one (I x.2))]) (fun (r : DetCouple) => .sv (.agg (DetCouple.cl r))) domgo go)), sl 3 (.rd (fvR (fun (x : DetCouple) => [.sv (.agg (DetCouple.cl x))]) (fun (r : Int) => .sv (.one (I r))) dommark mark)), sl 4 (I limit), sl 10 (.ptr 1 0), sl 12 (.ptr 2 0), sl 13 (.own 3), sl 14 (.own 4), sl 15 (.ptr 10 0), sl 16 (.own 11), sl 17 (I x43), sl 18 (.ptr 12 0), sl 19 (I (l4_2.length : Int)), sl 42 (I letters), sl 43 (I x43), sl 62 (B ((l4_2.length : Int) == limit))], [.gone, .box [I 0, I 0, .v (.slice none 0 0), .v (.slice none 0 0)] 73 false, .box [I letters, I 0, .own 8, .own 9] 73 false, mapI DetCouple.enc intT m3_2, rowI 169 DetCouple.ty l4_2, .gone, .gone, .gone, rowI 23 (lsT intT) l8, rowI 3 intT l9, .box (DetCouple.cl e) 169 false, rowI 3 intT l11, .box (DetCouple.cl (go (e, x43))) 169 false]⟩ (by kernel_rfl) ?_
 refine WL.nil ?_
 refine En.cond (b := ((l4_2.length : Int) == limit)) (by kernel_rfl) (fun hb => ?_) (fun hb => ?_)
 replace h := h.1 hb
 refine En.seq ?_
 refine En.region ?_
 refine WL.run ht hn 3 ⟨[sl 10 (.ptr 1 0), sl 11 (B false)], [.gone, .box [I 0, I 0, .v (.slice none 0 0), .v (.slice none 0 0)] 73 false, .gone, .gone, .gone, .gone, .gone, .gone, .gone, .gone, .gone, .gone, .gone]⟩ (by kernel_rfl) ?_
 refine WL.nil ?_
 refine En.ret ?_
 refine En.nilBox (T := (lsT intT)) 1 2 (by rfl) (by rfl) ?_
 refine En.nilBox (T := intT) 1 3 (by rfl) (by rfl) ?_
 exact En.back ht ((ApiDet.mk 0 0 [] []), false) h (by kernel_rfl) rfl
 replace h := h.2 hb
 refine En.skip ?_
 refine En.seq ?_
 refine En.region ?_
 refine WL.run ht hn 3 ⟨[sl 0 (I letters), sl 2 (.rd (fvR (fun (x : (DetCouple × Int)) => [.sv (.agg (DetCouple.cl x.1)), .sv (.one (I x.2))]) (fun (r : DetCouple) => .sv (.agg (DetCouple.cl r))) domgo go)), sl 3 (.rd (fvR (fun (x : DetCouple) => [.sv (.agg (DetCouple.cl x))]) (fun (r : Int) => .sv (.one (I r))) dommark mark)), sl 4 (I limit), sl 10 (.ptr 1 0), sl 12 (.ptr 2 0), sl 13 (.own 3), sl 14 (.own 4), sl 15 (.ptr 10 0), sl 16 (.own 11), sl 17 (I x43), sl 18 (.ptr 12 0), sl 19 (I (l4_2.length : Int)), sl 42 (I letters), sl 43 (I x43), sl 64 (.own 3), (65, .sv (.agg (DetCouple.cl (go (e, x43))))), sl 66 (I (l4_2.length : Int))], [.gone, .box [I 0, I 0, .v (.slice none 0 0), .v (.slice none 0 0)] 73 false, .box [I letters, I 0, .own 8, .own 9] 73 false, mapI DetCouple.enc intT m3_2, rowI 169 DetCouple.ty l4_2, .gone, .gone, .gone, rowI 23 (lsT intT) l8, rowI 3 intT l9, .box (DetCouple.cl e) 169 false, rowI 3 intT l11, .box (DetCouple.cl (go (e, x43))) 169 false]⟩ (by kernel_rfl) ?_
 refine WL.mapPut (T := intT) DetCouple.keyLaw (k := (go (e, x43))) (y := (l4_2.length : Int)) hn (by rfl) (.inl rfl) Try.underlying278 (by rfl) (by rfl) (by rfl) (by rfl) (by rfl) (by rfl) ?_
 refine WL.nil ?_
 refine En.region ?_
 refine WL.run ht hn 2 ⟨[sl 0 (I letters), sl 2 (.rd (fvR (fun (x : (DetCouple × Int)) => [.sv (.agg (DetCouple.cl x.1)), .sv (.one (I x.2))]) (fun (r : DetCouple) => .sv (.agg (DetCouple.cl r))) domgo go)), sl 3 (.rd (fvR (fun (x : DetCouple) => [.sv (.agg (DetCouple.cl x))]) (fun (r : Int) => .sv (.one (I r))) dommark mark)), sl 4 (I limit), sl 10 (.ptr 1 0), sl 12 (.ptr 2 0), sl 13 (.own 3), sl 15 (.ptr 10 0), sl 16 (.own 11), sl 17 (I x43), sl 19 (I (l4_2.length : Int)), sl 42 (I letters), sl 43 (I x43), sl 67 (.own 4), (68, .sv (.agg (DetCouple.cl (go (e, x43)))))], [.gone, .box [I 0, I 0, .v (.slice none 0 0), .v (.slice none 0 0)] 73 false, .box [I letters, I 0, .own 8, .own 9] 73 false, mapI DetCouple.enc intT (mput (go (e, x43)) (l4_2.length : Int) m3_2), rowI 169 DetCouple.ty l4_2, .gone, .gone, .gone, rowI 23 (lsT intT) l8, rowI 3 intT l9, .box (DetCouple.cl e) 169 false, rowI 3 intT l11, .gone]⟩ (by kernel_rfl) ?_
 refine WL.mt0 (K := []) (p := some (13, rowI 169 DetCouple.ty ([(go (e, x43))] : (List DetCouple)))) hn (by rfl) (mt_lit (T := DetCouple.ty) ([(go (e, x43))] : (List DetCouple)) (mt_bsl 13 (r := cellsOf DetCouple.ty ([(go (e, x43))] : (List DetCouple))) ht rfl (by rfl) (by rfl) (by rfl) (by kernel_rfl) (by rfl)) (fun _ h => by cases h) (fun _ => rfl) (fun _ => rfl) (by rfl) (Nat.le_of_ble_eq_true rfl)) (by rfl) (by rfl) (by rfl) ?_
 refine WL.seal (T := DetCouple.ty) (l := ([(go (e, x43))] : (List DetCouple))) (e := 169) 13 rfl ?_
 refine WL.run ht hn 0 ⟨[sl 0 (I letters), sl 2 (.rd (fvR (fun (x : (DetCouple × Int)) => [.sv (.agg (DetCouple.cl x.1)), .sv (.one (I x.2))]) (fun (r : DetCouple) => .sv (.agg (DetCouple.cl r))) domgo go)), sl 3 (.rd (fvR (fun (x : DetCouple) => [.sv (.agg (DetCouple.cl x))]) (fun (r : Int) => .sv (.one (I r))) dommark mark)), sl 4 (I limit), sl 10 (.ptr 1 0), sl 12 (.ptr 2 0), sl 13 (.own 3), sl 15 (.ptr 10 0), sl 16 (.own 11), sl 17 (I x43), sl 19 (I (l4_2.length : Int)), sl 42 (I letters), sl 43 (I x43), sl 67 (.own 4), (68, .sv (.agg (DetCouple.cl (go (e, x43))))), sl 69 (LS DetCouple.ty ([(go (e, x43))] : (List DetCouple)))], [.gone, .box [I 0, I 0, .v (.slice none 0 0), .v (.slice none 0 0)] 73 false, .box [I letters, I 0, .own 8, .own 9] 73 false, mapI DetCouple.enc intT (mput (go (e, x43)) (l4_2.length : Int) m3_2), rowI 169 DetCouple.ty l4_2, .gone, .gone, .gone, rowI 23 (lsT intT) l8, rowI 3 intT l9, .box (DetCouple.cl e) 169 false, rowI 3 intT l11, .gone, .gone]⟩ (by kernel_rfl) ?_
 have hp := h.1
 replace h := h.2
 refine WL.mt (S2 := ⟨[sl 0 (I letters), sl 2 (.rd (fvR (fun (x : (DetCouple × Int)) => [.sv (.agg (DetCouple.cl x.1)), .sv (.one (I x.2))]) (fun (r : DetCouple) => .sv (.agg (DetCouple.cl r))) domgo go)), sl 3 (.rd (fvR (fun (x : DetCouple) => [.sv (.agg (DetCouple.cl x))]) (fun (r : Int) => .sv (.one (I r))) dommark mark)), sl 4 (I limit), sl 10 (.ptr 1 0), sl 12 (.ptr 2 0), sl 13 (.own 3), sl 15 (.ptr 10 0), sl 16 (.own 11), sl 17 (I x43), sl 19 (I (l4_2.length : Int)), sl 42 (I letters), sl 43 (I x43), (68, .sv (.agg (DetCouple.cl (go (e, x43))))), sl 69 (LS DetCouple.ty ([(go (e, x43))] : (List DetCouple)))], [.gone, .box [I 0, I 0, .v (.slice none 0 0), .v (.slice none 0 0)] 73 false, .box [I letters, I 0, .own 8, .own 9] 73 false, mapI DetCouple.enc intT (mput (go (e, x43)) (l4_2.length : Int) m3_2), rowI 169 DetCouple.ty l4_2, .gone, .gone, .gone, rowI 23 (lsT intT) l8, rowI 3 intT l9, .box (DetCouple.cl e) 169 false, rowI 3 intT l11, .gone, .gone]⟩) (K := [4]) (p := some (4, rowI 169 DetCouple.ty (l4_2 ++ ([(go (e, x43))] : (List DetCouple))))) hn (by rfl) (mt_append (T := DetCouple.ty) (l := l4_2) (es := ([(go (e, x43))] : (List DetCouple))) ht rfl (by rfl) (by rfl) (by rfl) (by rfl) (by decide) (by rfl) (by rfl) (srcLS (T := DetCouple.ty) (es := ([(go (e, x43))] : (List DetCouple))) (fun _ h => by cases h) (by decide) (by rfl)) (by exact hp) (by exact hp.le (by decide))) (by kernel_rfl) (by rfl) (by rfl) (by rfl) ?_
 refine WL.run ht hn 1 ⟨[sl 0 (I letters), sl 2 (.rd (fvR (fun (x : (DetCouple × Int)) => [.sv (.agg (DetCouple.cl x.1)), .sv (.one (I x.2))]) (fun (r : DetCouple) => .sv (.agg (DetCouple.cl r))) domgo go)), sl 3 (.rd (fvR (fun (x : DetCouple) => [.sv (.agg (DetCouple.cl x))]) (fun (r : Int) => .sv (.one (I r))) dommark mark)), sl 4 (I limit), sl 10 (.ptr 1 0), sl 12 (.ptr 2 0), sl 13 (.own 3), sl 14 (.own 4), sl 15 (.ptr 10 0), sl 16 (.own 11), sl 17 (I x43), sl 19 (I (l4_2.length : Int)), sl 42 (I letters), sl 43 (I x43)], [.gone, .box [I 0, I 0, .v (.slice none 0 0), .v (.slice none 0 0)] 73 false, .box [I letters, I 0, .own 8, .own 9] 73 false, mapI DetCouple.enc intT (mput (go (e, x43)) (l4_2.length : Int) m3_2), rowI 169 DetCouple.ty (l4_2 ++ ([(go (e, x43))] : (List DetCouple))), .gone, .gone, .gone, rowI 23 (lsT intT) l8, rowI 3 intT l9, .box (DetCouple.cl e) 169 false, rowI 3 intT l11, .gone, .gone]⟩ (by kernel_rfl) ?_
 refine WL.nil ?_
 exact En.at (I := fun zz => J zz.1 zz.2.1 zz.2.2) (T := fun zz => ⟨[sl 0 (I letters), sl 2 (.rd (fvR (fun (x : (DetCouple × Int)) => [.sv (.agg (DetCouple.cl x.1)), .sv (.one (I x.2))]) (fun (r : DetCouple) => .sv (.agg (DetCouple.cl r))) domgo go)), sl 3 (.rd (fvR (fun (x : DetCouple) => [.sv (.agg (DetCouple.cl x))]) (fun (r : Int) => .sv (.one (I r))) dommark mark)), sl 4 (I limit), sl 10 (.ptr 1 0), sl 12 (.ptr 2 0), sl 13 (.own 3), sl 14 (.own 4), sl 15 (.ptr 10 0), sl 16 (.own 11), sl 17 (I x43), sl 19 (I zz.1), sl 42 (I letters), sl 43 (I x43)], [.gone, .box [I 0, I 0, .v (.slice none 0 0), .v (.slice none 0 0)] 73 false, .box [I letters, I 0, .own 8, .own 9] 73 false, mapI DetCouple.enc intT zz.2.1, rowI 169 DetCouple.ty zz.2.2, .gone, .gone, .gone, rowI 23 (lsT intT) l8, rowI 3 intT l9, .box (DetCouple.cl e) 169 false, rowI 3 intT l11, .gone]⟩) ((l4_2.length : Int), (mput (go (e, x43)) (l4_2.length : Int) m3_2), (l4_2 ++ ([(go (e, x43))] : (List DetCouple)))) h (by kernel_rfl)
 replace h := h.2 hb
 refine En.skip ?_
 exact En.at (I := fun zz => J zz.1 zz.2.1 zz.2.2) (T := fun zz => ⟨[sl 0 (I letters), sl 2 (.rd (fvR (fun (x : (DetCouple × Int)) => [.sv (.agg (DetCouple.cl x.1)), .sv (.one (I x.2))]) (fun (r : DetCouple) => .sv (.agg (DetCouple.cl r))) domgo go)), sl 3 (.rd (fvR (fun (x : DetCouple) => [.sv (.agg (DetCouple.cl x))]) (fun (r : Int) => .sv (.one (I r))) dommark mark)), sl 4 (I limit), sl 10 (.ptr 1 0), sl 12 (.ptr 2 0), sl 13 (.own 3), sl 14 (.own 4), sl 15 (.ptr 10 0), sl 16 (.own 11), sl 17 (I x43), sl 19 (I zz.1), sl 42 (I letters), sl 43 (I x43)], [.gone, .box [I 0, I 0, .v (.slice none 0 0), .v (.slice none 0 0)] 73 false, .box [I letters, I 0, .own 8, .own 9] 73 false, mapI DetCouple.enc intT zz.2.1, rowI 169 DetCouple.ty zz.2.2, .gone, .gone, .gone, rowI 23 (lsT intT) l8, rowI 3 intT l9, .box (DetCouple.cl e) 169 false, rowI 3 intT l11, .gone]⟩) (((mget (go (e, x43)) m3_2).getD (0 : Int)), m3_2, l4_2) h (by kernel_rfl)
 rintro ⟨x19, m3_3, l4_3⟩ h
 replace h := hJ _ _ _ h
 show En c ⟨[sl 0 (I letters), sl 2 (.rd (fvR (fun (x : (DetCouple × Int)) => [.sv (.agg (DetCouple.cl x.1)), .sv (.one (I x.2))]) (fun (r : DetCouple) => .sv (.agg (DetCouple.cl r))) domgo go)), sl 3 (.rd (fvR (fun (x : DetCouple) => [.sv (.agg (DetCouple.cl x))]) (fun (r : Int) => .sv (.one (I r))) dommark mark)), sl 4 (I limit), sl 10 (.ptr 1 0), sl 12 (.ptr 2 0), sl 13 (.own 3), sl 14 (.own 4), sl 15 (.ptr 10 0), sl 16 (.own 11), sl 17 (I x43), sl 19 (I x19), sl 42 (I letters), sl 43 (I x43)], [.gone, .box [I 0, I 0, .v (.slice none 0 0), .v (.slice none 0 0)] 73 false, .box [I letters, I 0, .own 8, .own 9] 73 false, mapI DetCouple.enc intT m3_3, rowI 169 DetCouple.ty l4_3, .gone, .gone, .gone, rowI 23 (lsT intT) l8, rowI 3 intT l9, .box (DetCouple.cl e) 169 false, rowI 3 intT l11, .gone]⟩ _
 refine En.region ?_
 refine WL.run ht hn 3 ⟨[sl 0 (I letters), sl 2 (.rd (fvR (fun (x : (DetCouple × Int)) => [.sv (.agg (DetCouple.cl x.1)), .sv (.one (I x.2))]) (fun (r : DetCouple) => .sv (.agg (DetCouple.cl r))) domgo go)), sl 3 (.rd (fvR (fun (x : DetCouple) => [.sv (.agg (DetCouple.cl x))]) (fun (r : Int) => .sv (.one (I r))) dommark mark)), sl 4 (I limit), sl 10 (.ptr 1 0), sl 12 (.ptr 2 0), sl 13 (.own 3), sl 14 (.own 4), sl 15 (.ptr 10 0), sl 16 (.own 11), sl 42 (I letters), sl 43 (I x43), sl 71 (.own 11), sl 72 (I x43), sl 73 (I x19)], [.gone, .box [I 0, I 0, .v (.slice none 0 0), .v (.slice none 0 0)] 73 false, .box [I letters, I 0, .own 8, .own 9] 73 false, mapI DetCouple.enc intT m3_3, rowI 169 DetCouple.ty l4_3, .gone, .gone, .gone, rowI 23 (lsT intT) l8, rowI 3 intT l9, .box (DetCouple.cl e) 169 false, rowI 3 intT l11, .gone]⟩ (by kernel_rfl) ?_
 obtain ⟨e_2, he_2, h⟩ := h
 refine WL.val hn (by rfl) (val_indexO (T := intT) (l := l11) (k := x43) ht rfl (by rfl) (by rfl) (by rfl) (by rfl) (by decide) (by rfl) (by rfl) (by rfl) he_2) (by rfl) ?_
 refine WL.storeO (T := intT) (l := l11) (y := x19) ht hn (by rfl) rfl (by rfl) (by rfl) (fun _ h => by cases h) (by rfl) (by rfl) (idx_lt he_2) (by rfl) (by rfl) (by rfl) (by rfl) ?_
 refine WL.nil ?_
 refine En.region ?_
 refine WL.run ht hn 2 ⟨[sl 0 (I letters), sl 2 (.rd (fvR (fun (x : (DetCouple × Int)) => [.sv (.agg (DetCouple.cl x.1)), .sv (.one (I x.2))]) (fun (r : DetCouple) => .sv (.agg (DetCouple.cl r))) domgo go)), sl 3 (.rd (fvR (fun (x : DetCouple) => [.sv (.agg (DetCouple.cl x))]) (fun (r : Int) => .sv (.one (I r))) dommark mark)), sl 4 (I limit), sl 10 (.ptr 1 0), sl 12 (.ptr 2 0), sl 13 (.own 3), sl 14 (.own 4), sl 15 (.ptr 10 0), sl 16 (.own 11), sl 42 (I letters), sl 43 (I (wr (x43 + 1)))], [.gone, .box [I 0, I 0, .v (.slice none 0 0), .v (.slice none 0 0)] 73 false, .box [I letters, I 0, .own 8, .own 9] 73 false, mapI DetCouple.enc intT m3_3, rowI 169 DetCouple.ty l4_3, .gone, .gone, .gone, rowI 23 (lsT intT) l8, rowI 3 intT l9, .box (DetCouple.cl e) 169 false, rowI 3 intT (l11.set (x43).toNat x19), .gone]⟩ (by kernel_rfl) ?_
 refine WL.nil ?_
 exact En.at (I := fun zz => Inv_2 zz.1 zz.2.1 zz.2.2.1 zz.2.2.2 ∧ mu_2 zz.1 zz.2.1 zz.2.2.1 zz.2.2.2 < mu_2 x43 m3_2 l4_2 l11) (T := fun zz => ⟨[sl 0 (I letters), sl 2 (.rd (fvR (fun (x : (DetCouple × Int)) => [.sv (.agg (DetCouple.cl x.1)), .sv (.one (I x.2))]) (fun (r : DetCouple) => .sv (.agg (DetCouple.cl r))) domgo go)), sl 3 (.rd (fvR (fun (x : DetCouple) => [.sv (.agg (DetCouple.cl x))]) (fun (r : Int) => .sv (.one (I r))) dommark mark)), sl 4 (I limit), sl 10 (.ptr 1 0), sl 12 (.ptr 2 0), sl 13 (.own 3), sl 14 (.own 4), sl 15 (.ptr 10 0), sl 16 (.own 11), sl 42 (I letters), sl 43 (I zz.1)], [.gone, .box [I 0, I 0, .v (.slice none 0 0), .v (.slice none 0 0)] 73 false, .box [I letters, I 0, .own 8, .own 9] 73 false, mapI DetCouple.enc intT zz.2.1, rowI 169 DetCouple.ty zz.2.2.1, .gone, .gone, .gone, rowI 23 (lsT intT) l8, rowI 3 intT l9, .box (DetCouple.cl e) 169 false, rowI 3 intT zz.2.2.2]⟩) ((wr (x43 + 1)), m3_3, l4_3, (l11.set (x43).toNat x19)) h (by kernel_rfl)
 replace h := h.2 hb
 refine En.exit rfl ?_
 refine En.seq ?_
 refine En.region ?_
 refine WL.run ht hn 3 ⟨[sl 0 (I letters), sl 2 (.rd (fvR (fun (x : (DetCouple × Int)) => [.sv (.agg (DetCouple.cl x.1)), .sv (.one (I x.2))]) (fun (r : DetCouple) => .sv (.agg (DetCouple.cl r))) domgo go)), sl 3 (.rd (fvR (fun (x : DetCouple) => [.sv (.agg (DetCouple.cl x))]) (fun (r : Int) => .sv (.one (I r))) dommark mark)), sl 4 (I limit), sl 10 (.ptr 1 0), sl 12 (.ptr 2 0), sl 13 (.own 3), sl 14 (.own 4), sl 15 (.ptr 10 0), sl 77 (.own 8), sl 78 (.own 11)], [.gone, .box [I 0, I 0, .v (.slice none 0 0), .v (.slice none 0 0)] 73 false, .box [I letters, I 0, .own 8, .own 9] 73 false, mapI DetCouple.enc intT m3_2, rowI 169 DetCouple.ty l4_2, .gone, .gone, .gone, rowI 23 (lsT intT) l8, rowI 3 intT l9, .box (DetCouple.cl e) 169 false, rowI 3 intT l11]⟩ (by kernel_rfl) ?_
 refine WL.seal (T := intT) (l := l11) (e := 3) 11 rfl ?_
 refine WL.run ht hn 0 ⟨[sl 0 (I letters), sl 2 (.rd (fvR (fun (x : (DetCouple × Int)) => [.sv (.agg (DetCouple.cl x.1)), .sv (.one (I x.2))]) (fun (r : DetCouple) => .sv (.agg (DetCouple.cl r))) domgo go)), sl 3 (.rd (fvR (fun (x : DetCouple) => [.sv (.agg (DetCouple.cl x))]) (fun (r : Int) => .sv (.one (I r))) dommark mark)), sl 4 (I limit), sl 10 (.ptr 1 0), sl 12 (.ptr 2 0), sl 13 (.own 3), sl 14 (.own 4), sl 15 (.ptr 10 0), sl 77 (.own 8), sl 78 (LS intT l11)], [.gone, .box [I 0, I 0, .v (.slice none 0 0), .v (.slice none 0 0)] 73 false, .box [I letters, I 0, .own 8, .own 9] 73 false, mapI DetCouple.enc intT m3_2, rowI 169 DetCouple.ty l4_2, .gone, .gone, .gone, rowI 23 (lsT intT) l8, rowI 3 intT l9, .box (DetCouple.cl e) 169 false, .gone]⟩ (by kernel_rfl) ?_
 refine WL.mt0 (K := []) (p := some (12, rowI 23 (lsT intT) ([l11] : (List (List Int))))) hn (by rfl) (mt_lit (T := (lsT intT)) ([l11] : (List (List Int))) (mt_bsl 12 (r := cellsOf (lsT intT) ([l11] : (List (List Int)))) ht rfl (by rfl) (by rfl) (by rfl) (by kernel_rfl) (by rfl)) (fun _ h => by cases h) (fun _ => rfl) (fun _ => rfl) (by rfl) (Nat.le_of_ble_eq_true rfl)) (by rfl) (by rfl) (by rfl) ?_
 refine WL.seal (T := (lsT intT)) (l := ([l11] : (List (List Int)))) (e := 23) 12 rfl ?_
 refine WL.run ht hn 0 ⟨[sl 0 (I letters), sl 2 (.rd (fvR (fun (x : (DetCouple × Int)) => [.sv (.agg (DetCouple.cl x.1)), .sv (.one (I x.2))]) (fun (r : DetCouple) => .sv (.agg (DetCouple.cl r))) domgo go)), sl 3 (.rd (fvR (fun (x : DetCouple) => [.sv (.agg (DetCouple.cl x))]) (fun (r : Int) => .sv (.one (I r))) dommark mark)), sl 4 (I limit), sl 10 (.ptr 1 0), sl 12 (.ptr 2 0), sl 13 (.own 3), sl 14 (.own 4), sl 15 (.ptr 10 0), sl 77 (.own 8), sl 78 (LS intT l11), sl 79 (LS (lsT intT) ([l11] : (List (List Int))))], [.gone, .box [I 0, I 0, .v (.slice none 0 0), .v (.slice none 0 0)] 73 false, .box [I letters, I 0, .own 8, .own 9] 73 false, mapI DetCouple.enc intT m3_2, rowI 169 DetCouple.ty l4_2, .gone, .gone, .gone, rowI 23 (lsT intT) l8, rowI 3 intT l9, .box (DetCouple.cl e) 169 false, .gone, .gone]⟩ (by kernel_rfl) ?_
 refine WL.junk 2 2 (by rfl) ?_
 have hp := h.1
 replace h := h.2
 refine WL.mt (S2 := ⟨[sl 0 (I letters), sl 2 (.rd (fvR (fun (x : (DetCouple × Int)) => [.sv (.agg (DetCouple.cl x.1)), .sv (.one (I x.2))]) (fun (r : DetCouple) => .sv (.agg (DetCouple.cl r))) domgo go)), sl 3 (.rd (fvR (fun (x : DetCouple) => [.sv (.agg (DetCouple.cl x))]) (fun (r : Int) => .sv (.one (I r))) dommark mark)), sl 4 (I limit), sl 10 (.ptr 1 0), sl 12 (.ptr 2 0), sl 13 (.own 3), sl 14 (.own 4), sl 15 (.ptr 10 0), sl 78 (LS intT l11), sl 79 (LS (lsT intT) ([l11] : (List (List Int))))], [.gone, .box [I 0, I 0, .v (.slice none 0 0), .v (.slice none 0 0)] 73 false, .box [I letters, I 0, .junk, .own 9] 73 false, mapI DetCouple.enc intT m3_2, rowI 169 DetCouple.ty l4_2, .gone, .gone, .gone, rowI 23 (lsT intT) l8, rowI 3 intT l9, .box (DetCouple.cl e) 169 false, .gone, .gone]⟩) (K := [8]) (p := some (8, rowI 23 (lsT intT) (l8 ++ ([l11] : (List (List Int)))))) hn (by rfl) (mt_append (T := (lsT intT)) (l := l8) (es := ([l11] : (List (List Int)))) ht rfl (by rfl) (by rfl) (by rfl) (by rfl) (by decide) (by rfl) (by rfl) (srcLS (T := (lsT intT)) (es := ([l11] : (List (List Int)))) (fun _ h => by cases h) (by decide) (by rfl)) (by exact hp) (by exact hp.le (by decide))) (by kernel_rfl) (by rfl) (by rfl) (by rfl) ?_
 refine WL.run ht hn 2 ⟨[sl 0 (I letters), sl 2 (.rd (fvR (fun (x : (DetCouple × Int)) => [.sv (.agg (DetCouple.cl x.1)), .sv (.one (I x.2))]) (fun (r : DetCouple) => .sv (.agg (DetCouple.cl r))) domgo go)), sl 3 (.rd (fvR (fun (x : DetCouple) => [.sv (.agg (DetCouple.cl x))]) (fun (r : Int) => .sv (.one (I r))) dommark mark)), sl 4 (I limit), sl 10 (.ptr 1 0), sl 12 (.ptr 2 0), sl 13 (.own 3), sl 14 (.own 4), sl 15 (.ptr 10 0)], [.gone, .box [I 0, I 0, .v (.slice none 0 0), .v (.slice none 0 0)] 73 false, .box [I letters, I 0, .own 8, .own 9] 73 false, mapI DetCouple.enc intT m3_2, rowI 169 DetCouple.ty l4_2, .gone, .gone, .gone, rowI 23 (lsT intT) (l8 ++ ([l11] : (List (List Int)))), rowI 3 intT l9, .box (DetCouple.cl e) 169 false, .gone, .gone]⟩ (by kernel_rfl) ?_
 refine WL.nil ?_
 have hp_2 := h.1
 replace h := h.2
 have hp_3 := h.1
 replace h := h.2
 refine En.regionA ⟨[sl 0 (I letters), sl 2 (.rd (fvR (fun (x : (DetCouple × Int)) => [.sv (.agg (DetCouple.cl x.1)), .sv (.one (I x.2))]) (fun (r : DetCouple) => .sv (.agg (DetCouple.cl r))) domgo go)), sl 3 (.rd (fvR (fun (x : DetCouple) => [.sv (.agg (DetCouple.cl x))]) (fun (r : Int) => .sv (.one (I r))) dommark mark)), sl 4 (I limit), sl 10 (.ptr 1 0), sl 12 (.ptr 2 0), sl 13 (.own 3), sl 14 (.own 4), sl 15 (.ptr 10 0)], [.sv (.one (.ptr 2 3)), .sv (.one (.own 9)), .sv (.one (.rd (fvR (fun (x : DetCouple) => [.sv (.agg (DetCouple.cl x))]) (fun (r : Int) => .sv (.one (I r))) dommark mark))), .sv (.agg (DetCouple.cl e)), .sv (.one (I (mark e))), .sv (.one (LS intT ([(mark e)] : (List Int)))), .sv (.one (.own 13)), .sv (.one (.ptr 2 3)), .tup []], [⟨.gone, none, none, none⟩, ⟨.box [I 0, I 0, .v (.slice none 0 0), .v (.slice none 0 0)] 73 false, none, none, none⟩, ⟨.box [I letters, I 0, .own 8, .own 9] 73 false, none, none, some (8, .box [I letters, I 0, .own 8, .own 13] 73 false)⟩, ⟨mapI DetCouple.enc intT m3_2, none, none, none⟩, ⟨rowI 169 DetCouple.ty l4_2, none, none, none⟩, ⟨.gone, none, none, none⟩, ⟨.gone, none, none, none⟩, ⟨.gone, none, none, none⟩, ⟨rowI 23 (lsT intT) (l8 ++ ([l11] : (List (List Int)))), none, none, none⟩, ⟨rowI 3 intT l9, none, some 6, none⟩, ⟨.box (DetCouple.cl e) 169 false, none, none, none⟩, ⟨.gone, none, none, none⟩, ⟨.gone, none, none, none⟩, ⟨rowI 3 intT (l9 ++ ([(mark e)] : (List Int))), some 6, none, none⟩]⟩ ⟨[sl 0 (I letters), sl 2 (.rd (fvR (fun (x : (DetCouple × Int)) => [.sv (.agg (DetCouple.cl x.1)), .sv (.one (I x.2))]) (fun (r : DetCouple) => .sv (.agg (DetCouple.cl r))) domgo go)), sl 3 (.rd (fvR (fun (x : DetCouple) => [.sv (.agg (DetCouple.cl x))]) (fun (r : Int) => .sv (.one (I r))) dommark mark)), sl 4 (I limit), sl 10 (.ptr 1 0), sl 12 (.ptr 2 0), sl 13 (.own 3), sl 14 (.own 4)], [.gone, .box [I 0, I 0, .v (.slice none 0 0), .v (.slice none 0 0)] 73 false, .box [I letters, I 0, .own 8, .own 13] 73 false, mapI DetCouple.enc intT m3_2, rowI 169 DetCouple.ty l4_2, .gone, .gone, .gone, rowI 23 (lsT intT) (l8 ++ ([l11] : (List (List Int)))), .gone, .gone, .gone, .gone, rowI 3 intT (l9 ++ ([(mark e)] : (List Int)))]⟩ (by kernel_rfl) hn (by kernel_rfl) (by rfl) (by kernel_rfl) ?_ (by kernel_rfl) ?_
 exact ⟨.mt ⟨[sl 12 (.ptr 2 0)], []⟩ [] none (by kernel_rfl) (by rfl) (mt_ev ht (by kernel_rfl)) rfl rfl rfl rfl,
 .mt ⟨[sl 82 (.ptr 2 3)], [.gone, .gone, .box [I letters, I 0, .own 8, .own 9] 73 false]⟩ [] none (by kernel_rfl) (by rfl) (mt_ev ht (by kernel_rfl)) rfl rfl rfl rfl,
 .mt ⟨[sl 3 (.rd (fvR (fun (x : DetCouple) => [.sv (.agg (DetCouple.cl x))]) (fun (r : Int) => .sv (.one (I r))) dommark mark))], []⟩ [] none (by kernel_rfl) (by rfl) (mt_ev ht (by kernel_rfl)) rfl rfl rfl rfl,
 .mt ⟨[sl 15 (.ptr 10 0)], [.gone, .gone, .gone, .gone, .gone, .gone, .gone, .gone, .gone, .gone, .box (DetCouple.cl e) 169 false]⟩ [] none (by kernel_rfl) (by rfl) (mt_ev ht (by kernel_rfl)) rfl rfl rfl rfl,
 .mt ⟨[sl 84 (.rd (fvR (fun (x : DetCouple) => [.sv (.agg (DetCouple.cl x))]) (fun (r : Int) => .sv (.one (I r))) dommark mark)), (85, .sv (.agg (DetCouple.cl e)))], []⟩ [] none (by kernel_rfl) (by rfl) (mt_callv (ins := (fun (x : DetCouple) => [.sv (.agg (DetCouple.cl x))])) (out := (fun (r : Int) => .sv (.one (I r)))) (dom := dommark) (φ := mark) e hp_2 rfl (by rfl) (by rfl) (by rfl) (by rfl)) rfl rfl rfl rfl,
 .mt ⟨[sl 86 (I (mark e))], []⟩ [] none (by kernel_rfl) (by rfl) (mt_seal (q := 13) (e := 3) (mt_lit (T := intT) ([(mark e)] : (List Int)) (mt_bsl 13 (r := cellsOf intT ([(mark e)] : (List Int))) ht rfl (by rfl) (by rfl) (by rfl) (by kernel_rfl) (by rfl)) (fun _ h => by cases h) (fun _ => rfl) (fun _ => rfl) (by rfl) (Nat.le_of_ble_eq_true rfl))) rfl rfl rfl rfl,
 .mt ⟨[sl 83 (.own 9), sl 87 (LS intT ([(mark e)] : (List Int)))], [.gone, .gone, .gone, .gone, .gone, .gone, .gone, .gone, .gone, rowI 3 intT l9]⟩ [9] (some 13) (by kernel_rfl) (by rfl) (mt_append (T := intT) (l := l9) (es := ([(mark e)] : (List Int))) (p := 13) ht rfl (by rfl) (by rfl) (by rfl) (by rfl) (by decide) (by rfl) (by rfl) (srcLS (T := intT) (es := ([(mark e)] : (List Int))) (fun _ h => by cases h) (by decide) (by rfl)) (by exact hp_3) (by exact hp_3.le (by decide))) rfl rfl rfl rfl,
 .mt ⟨[sl 12 (.ptr 2 0)], []⟩ [] none (by kernel_rfl) (by rfl) (mt_ev ht (by kernel_rfl)) rfl rfl rfl rfl,
 .mu ⟨[sl 88 (.own 13), sl 89 (.ptr 2 3)], [.gone, .gone, .box [I letters, I 0, .own 8, .own 9] 73 false]⟩ 2 _ _ rfl rfl (by kernel_rfl) (by rfl) (mu_store2 ht rfl (by rfl) (by rfl) (by rfl) (by rfl) (fun h => by cases h) (by rfl) (by rfl)) rfl rfl rfl rfl rfl rfl rfl,
 trivial⟩
 refine En.move 13 9 (by rfl) (by rfl) ?_
 exact En.at (I := fun zz => Inv zz.1 zz.2.1 zz.2.2.1 zz.2.2.2 ∧ mu zz.1 zz.2.1 zz.2.2.1 zz.2.2.2 < mu m3 l4 l8 l9) (T := fun zz => ⟨[sl 0 (I letters), sl 2 (.rd (fvR (fun (x : (DetCouple × Int)) => [.sv (.agg (DetCouple.cl x.1)), .sv (.one (I x.2))]) (fun (r : DetCouple) => .sv (.agg (DetCouple.cl r))) domgo go)), sl 3 (.rd (fvR (fun (x : DetCouple) => [.sv (.agg (DetCouple.cl x))]) (fun (r : Int) => .sv (.one (I r))) dommark mark)), sl 4 (I limit), sl 10 (.ptr 1 0), sl 12 (.ptr 2 0), sl 13 (.own 3), sl 14 (.own 4)], [.gone, .box [I 0, I 0, .v (.slice none 0 0), .v (.slice none 0 0)] 73 false, .box [I letters, I 0, .own 8, .own 9] 73 false, mapI DetCouple.enc intT zz.1, rowI 169 DetCouple.ty zz.2.1, .gone, .gone, .gone, rowI 23 (lsT intT) zz.2.2.1, rowI 3 intT zz.2.2.2]⟩) (m3_2, l4_2, (l8 ++ ([l11] : (List (List Int)))), (l9 ++ ([(mark e)] : (List Int)))) h (by kernel_rfl)
 replace h := h.2 hb
 refine En.exit rfl ?_
 refine En.seq ?_
 refine En.region ?_
 refine WL.run ht hn 3 ⟨[sl 10 (.ptr 1 0), sl 11 (B true)], [.gone, .box [I letters, I 0, .own 8, .own 9] 73 false, .gone, .gone, .gone, .gone, .gone, .gone, rowI 23 (lsT intT) l8, rowI 3 intT l9]⟩ (by kernel_rfl) ?_
 refine WL.nil ?_
 refine En.ret ?_
 refine En.seal (T := (lsT intT)) (l := l8) (e := 23) 8 rfl ?_
 refine En.seal (T := intT) (l := l9) (e := 3) 9 rfl ?_
 exact En.back ht ((ApiDet.mk letters 0 l8 l9), true) h (by kernel_rfl) rfl
theorem en79 : ∀ args w, (callFunc 79 args).run Try.prog w = .ok (.enter 79 args) w := enters_of Try.func79 (by kernel_rfl) rfl
def classes_vc (d : ApiDet) (Q : (List Int) → Prop) : Prop :=
 d.fNext.length ≤ 9223372036854775807 →
 d.fMark.length ≤ 9223372036854775807 →
 ((d.fMark.length * 8 ≤ 140737488355328) ∧
 ∃ (Inv : Int → (List Int) → Prop) (mu : Int → (List Int) → Nat), Inv 0 (d.fMark) ∧
 ∀ (x4 : Int) (l1 : (List Int)) , Inv x4 l1 → (makeOk (l1.length : Int) (l1.length : Int) 8 ∧
 ∃ (Inv_2 : Int → (List (DetSplit × Int)) → (List Int) → Prop) (mu_2 : Int → (List (DetSplit × Int)) → (List Int) → Nat), Inv_2 0 ([] : List (DetSplit × Int)) (List.replicate ((l1.length : Int)).toNat (0 : Int)) ∧
 ∀ (x25 : Int) (m2 : (List (DetSplit × Int))) (l3 : (List Int)) , Inv_2 x25 m2 l3 → (IfP (decide (x25 < (d.fNext.length : Int))) (∃ e, idx d.fNext x25 = some e ∧
 ∃ (Inv_3 : Int → (List Int) → Prop) (mu_3 : Int → (List Int) → Nat), Inv_3 0 ([] : (List Int)) ∧
 ∀ (x32 : Int) (l4 : (List Int)) , Inv_3 x32 l4 → (IfP (decide (x32 < (e.length : Int))) (∃ e_2, idx e x32 = some e_2 ∧
 ∃ e_3, idx l1 e_2 = some e_3 ∧
 ∃ e_4, idx l1 e_2 = some e_4 ∧
 capOk l4.length (([(IntKind.wrap .u8 e_3), (IntKind.wrap .u8 (Int.fdiv e_4 (2 ^ (min 8 64))))] : (List Int)) : (List Int)).length 1 ∧
 (Inv_3 (wr (x32 + 1)) (l4 ++ ([(IntKind.wrap .u8 e_3), (IntKind.wrap .u8 (Int.fdiv e_4 (2 ^ (min 8 64))))] : (List Int))) ∧ mu_3 (wr (x32 + 1)) (l4 ++ ([(IntKind.wrap .u8 e_3), (IntKind.wrap .u8 (Int.fdiv e_4 (2 ^ (min 8 64))))] : (List Int))) < mu_3 x32 l4)) (∃ e_5, idx l1 x25 = some e_5 ∧
 ∃ J : (List (DetSplit × Int)) → Prop, (IfP (!(mget (DetSplit.mk e_5 (bytesOf l4)) m2).isSome) (J (mput (DetSplit.mk e_5 (bytesOf l4)) (m2.length : Int) m2)) (J m2)) ∧
 (∀ (m2_2 : (List (DetSplit × Int))), J m2_2 → ∃ e_6, idx l3 x25 = some e_6 ∧
 (Inv_2 (wr (x25 + 1)) m2_2 (l3.set (x25).toNat ((mget (DetSplit.mk e_5 (bytesOf l4)) m2_2).getD (0 : Int))) ∧ mu_2 (wr (x25 + 1)) m2_2 (l3.set (x25).toNat ((mget (DetSplit.mk e_5 (bytesOf l4)) m2_2).getD (0 : Int))) < mu_2 x25 m2 l3))))) (IfP ((m2.length : Int) == x4) (Q l3) ((Inv (m2.length : Int) l3 ∧ mu (m2.length : Int) l3 < mu x4 l1))))))
noncomputable abbrev qclasses0 (d : ApiDet) := (I (d.fNext.length : Int))
noncomputable abbrev qclasses1 (d : ApiDet) := (LS (lsT intT) d.fNext)
set_option maxHeartbeats 2000000 in
theorem classes_walk (d : ApiDet) (Q : (List Int) → Prop) (h : classes_vc d Q) : Ct 159 [.sv (.agg [I d.fLetters, I d.fStart, LS (lsT intT) d.fNext, LS intT d.fMark])] [] Q (fun (r : (List Int)) => .sv (.one (LS intT r))) := by
 have ht := tab_ok
 refine Ct.body Try.func159 rfl rfl rfl rfl (fun c hn => ?_)
 unfold classes_vc at h
 refine En.lenA 0 2 (by rfl) (by rfl) (fun hl => ?_)
 replace h := h hl
 clear hl
 refine En.lenA 0 3 (by rfl) (by rfl) (fun hl => ?_)
 replace h := h hl
 clear hl
 refine En.seq ?_
 refine En.region ?_
 refine WL.run ht hn 2 ⟨[sl 1 (.ptr 0 0)], [.box (ApiDet.cl d) 73 false]⟩ (by kernel_rfl) ?_
 refine WL.nil ?_
 refine En.seq ?_
 refine En.region ?_
 refine WL.run ht hn 2 ⟨[sl 1 (.ptr 0 0), sl 16 (LS intT d.fMark)], [.box (ApiDet.cl d) 73 false]⟩ (by kernel_rfl) ?_
 have hp := h.1
 replace h := h.2
 refine WL.mt0 (K := []) (p := some (1, rowI 3 intT (d.fMark))) hn (by rfl) (mt_callI 1 (cloneInt_ct d.fMark hp) en49 (caps := []) [] rfl rfl (by rfl) (by kernel_rfl) (by kernel_rfl) (by rfl) (by rfl)) (by rfl) (by rfl) (by rfl) ?_
 refine WL.run ht hn 1 ⟨[sl 1 (.ptr 0 0), sl 3 (.own 1)], [.box (ApiDet.cl d) 73 false, rowI 3 intT (d.fMark)]⟩ (by kernel_rfl) ?_
 refine WL.nil ?_
 refine En.seq ?_
 refine En.region ?_
 refine WL.run ht hn 1 ⟨[sl 1 (.ptr 0 0), sl 3 (.own 1), sl 4 (I 0)], [.box (ApiDet.cl d) 73 false, rowI 3 intT (d.fMark)]⟩ (by kernel_rfl) ?_
 refine WL.nil ?_
 refine En.block ?_
 obtain ⟨Inv, mu, h0_3, hI_3⟩ := h
 refine En.loop (σ := Int × (List Int)) (fun zz => Inv zz.1 zz.2) (fun zz => mu zz.1 zz.2) (fun zz => ⟨[sl 1 (.ptr 0 0), sl 3 (.own 1), sl 4 (I zz.1)], [.box (ApiDet.cl d) 73 false, rowI 3 intT zz.2]⟩) (0, (d.fMark)) h0_3 (sub_ok (by kernel_rfl)) ?_
 rintro ⟨x4, l1⟩ h
 replace h := hI_3 _ _ h
 show En c ⟨[sl 1 (.ptr 0 0), sl 3 (.own 1), sl 4 (I x4)], [.box (ApiDet.cl d) 73 false, rowI 3 intT l1]⟩ _
 refine En.block ?_
 refine En.seq ?_
 refine En.region ?_
 refine WL.mt0 (K := []) (p := some (2, mapI DetSplit.enc intT ([] : List (DetSplit × Int)))) hn (by rfl) (mt_makeMap DetSplit.enc intT 2 rfl) (by rfl) (by rfl) (by rfl) ?_
 refine WL.run ht hn 1 ⟨[sl 1 (.ptr 0 0), sl 3 (.own 1), sl 4 (I x4), sl 5 (.own 2)], [.box (ApiDet.cl d) 73 false, rowI 3 intT l1, mapI DetSplit.enc intT ([] : List (DetSplit × Int))]⟩ (by kernel_rfl) ?_
 refine WL.nil ?_
 refine En.seq ?_
 refine En.region ?_
 refine WL.run ht hn 2 ⟨[sl 1 (.ptr 0 0), sl 3 (.own 1), sl 4 (I x4), sl 5 (.own 2), sl 20 (I (l1.length : Int))], [.box (ApiDet.cl d) 73 false, rowI 3 intT l1, mapI DetSplit.enc intT ([] : List (DetSplit × Int))]⟩ (by kernel_rfl) ?_
 have hp := h.1
 replace h := h.2
 refine WL.mt0 (K := []) (p := some (3, rowI 3 intT (List.replicate ((l1.length : Int)).toNat (0 : Int)))) hn (by rfl) (mt_make (T := intT) (0 : Int) (zv := (.int .i64 0)) 3 (l := (l1.length : Int)) (cp := (l1.length : Int)) ht rfl (by rfl) (by rfl) (by rfl) (by rfl) (by decide) (by rfl) (by rfl) hp.1 hp.2.1 hp.2.2 (hp.le (by decide)) rfl (fun _ => ⟨rfl, trivial⟩)) (by rfl) (by rfl) (by rfl) ?_
 refine WL.run ht hn 1 ⟨[sl 1 (.ptr 0 0), sl 3 (.own 1), sl 4 (I x4), sl 5 (.own 2), sl 6 (.own 3)], [.box (ApiDet.cl d) 73 false, rowI 3 intT l1, mapI DetSplit.enc intT ([] : List (DetSplit × Int)), rowI 3 intT (List.replicate ((l1.length : Int)).toNat (0 : Int))]⟩ (by kernel_rfl) ?_
 refine WL.nil ?_
 refine En.seq ?_
 refine En.seq ?_
 refine En.region ?_
 refine WL.run ht hn 4 ⟨[sl 1 (.ptr 0 0), sl 3 (.own 1), sl 4 (I x4), sl 5 (.own 2), sl 6 (.own 3), sl 23 (qclasses1 d), sl 24 (qclasses0 d), sl 25 (I 0)], [.box (ApiDet.cl d) 73 false, rowI 3 intT l1, mapI DetSplit.enc intT ([] : List (DetSplit × Int)), rowI 3 intT (List.replicate ((l1.length : Int)).toNat (0 : Int))]⟩ (by kernel_rfl) ?_
 refine WL.nil ?_
 refine En.block ?_
 obtain ⟨Inv_2, mu_2, h0_2, hI_2⟩ := h
 refine En.loop (σ := Int × (List (DetSplit × Int)) × (List Int)) (fun zz => Inv_2 zz.1 zz.2.1 zz.2.2) (fun zz => mu_2 zz.1 zz.2.1 zz.2.2) (fun zz => ⟨[sl 1 (.ptr 0 0), sl 3 (.own 1), sl 4 (I x4), sl 5 (.own 2), sl 6 (.own 3), sl 23 (qclasses1 d), sl 24 (qclasses0 d), sl 25 (I zz.1)], [.box (ApiDet.cl d) 73 false, rowI 3 intT l1, mapI DetSplit.enc intT zz.2.1, rowI 3 intT zz.2.2]⟩) (0, ([] : List (DetSplit × Int)), (List.replicate ((l1.length : Int)).toNat (0 : Int))) h0_2 (sub_ok (by kernel_rfl)) ?_
 rintro ⟨x25, m2, l3⟩ h
 replace h := hI_2 _ _ _ h
 show En c ⟨[sl 1 (.ptr 0 0), sl 3 (.own 1), sl 4 (I x4), sl 5 (.own 2), sl 6 (.own 3), sl 23 (qclasses1 d), sl 24 (qclasses0 d), sl 25 (I x25)], [.box (ApiDet.cl d) 73 false, rowI 3 intT l1, mapI DetSplit.enc intT m2, rowI 3 intT l3]⟩ _
 refine En.seq ?_
 refine En.region ?_
 refine WL.run ht hn 1 ⟨[sl 1 (.ptr 0 0), sl 3 (.own 1), sl 4 (I x4), sl 5 (.own 2), sl 6 (.own 3), sl 23 (qclasses1 d), sl 24 (qclasses0 d), sl 25 (I x25), sl 26 (B (decide (x25 < (d.fNext.length : Int))))], [.box (ApiDet.cl d) 73 false, rowI 3 intT l1, mapI DetSplit.enc intT m2, rowI 3 intT l3]⟩ (by kernel_rfl) ?_
 refine WL.nil ?_
 refine En.seq ?_
 refine En.cond (b := (decide (x25 < (d.fNext.length : Int)))) (by kernel_rfl) (fun hb => ?_) (fun hb => ?_)
 replace h := h.1 hb
 refine En.skip ?_
 refine En.seq ?_
 refine En.block ?_
 refine En.seq ?_
 refine En.region ?_
 refine WL.run ht hn 1 ⟨[sl 1 (.ptr 0 0), sl 3 (.own 1), sl 4 (I x4), sl 5 (.own 2), sl 6 (.own 3), sl 23 (qclasses1 d), sl 24 (qclasses0 d), sl 25 (I x25), sl 27 (I x25)], [.box (ApiDet.cl d) 73 false, rowI 3 intT l1, mapI DetSplit.enc intT m2, rowI 3 intT l3]⟩ (by kernel_rfl) ?_
 obtain ⟨e, he, h⟩ := h
 refine WL.val hn (by rfl) (val_index (T := (lsT intT)) (l := d.fNext) (i := x25) ht rfl (by rfl) (by rfl) (by rfl) (by rfl) (by rfl) (by rfl) he) (by rfl) ?_
 refine WL.val hn (by rfl) (val_load (s := .one (LS intT e)) ht rfl (by rfl) (by rfl) (by rfl) (by rfl) (by rfl)) (by rfl) ?_
 refine WL.run ht hn 2 ⟨[sl 1 (.ptr 0 0), sl 3 (.own 1), sl 4 (I x4), sl 5 (.own 2), sl 6 (.own 3), sl 7 (I x25), sl 8 (LS intT e), sl 23 (qclasses1 d), sl 24 (qclasses0 d), sl 25 (I x25)], [.box (ApiDet.cl d) 73 false, rowI 3 intT l1, mapI DetSplit.enc intT m2, rowI 3 intT l3]⟩ (by kernel_rfl) ?_
 refine WL.nil ?_
 refine En.seq ?_
 refine En.region ?_
 refine WL.run ht hn 1 ⟨[sl 1 (.ptr 0 0), sl 3 (.own 1), sl 4 (I x4), sl 5 (.own 2), sl 6 (.own 3), sl 7 (I x25), sl 8 (LS intT e), sl 9 (.v (.slice none 0 0)), sl 23 (qclasses1 d), sl 24 (qclasses0 d), sl 25 (I x25)], [.box (ApiDet.cl d) 73 false, rowI 3 intT l1, mapI DetSplit.enc intT m2, rowI 3 intT l3]⟩ (by kernel_rfl) ?_
 refine WL.nil ?_
 refine En.seq ?_
 refine En.seq ?_
 refine En.region ?_
 refine WL.run ht hn 3 ⟨[sl 1 (.ptr 0 0), sl 3 (.own 1), sl 4 (I x4), sl 5 (.own 2), sl 6 (.own 3), sl 7 (I x25), sl 9 (.v (.slice none 0 0)), sl 23 (qclasses1 d), sl 24 (qclasses0 d), sl 25 (I x25), sl 30 (LS intT e), sl 31 (I (e.length : Int)), sl 32 (I 0)], [.box (ApiDet.cl d) 73 false, rowI 3 intT l1, mapI DetSplit.enc intT m2, rowI 3 intT l3]⟩ (by kernel_rfl) ?_
 refine WL.nil ?_
 refine En.block ?_
 refine En.rowNil 9 4 5 (intKT .u8) (by rfl) (by rfl) ?_
 obtain ⟨Inv_3, mu_3, h0, hI⟩ := h
 refine En.loop (σ := Int × (List Int)) (fun zz => Inv_3 zz.1 zz.2) (fun zz => mu_3 zz.1 zz.2) (fun zz => ⟨[sl 1 (.ptr 0 0), sl 3 (.own 1), sl 4 (I x4), sl 5 (.own 2), sl 6 (.own 3), sl 7 (I x25), sl 9 (.own 4), sl 23 (qclasses1 d), sl 24 (qclasses0 d), sl 25 (I x25), sl 30 (LS intT e), sl 31 (I (e.length : Int)), sl 32 (I zz.1)], [.box (ApiDet.cl d) 73 false, rowI 3 intT l1, mapI DetSplit.enc intT m2, rowI 3 intT l3, rowI 5 (intKT .u8) zz.2]⟩) (0, ([] : (List Int))) h0 (sub_ok (by kernel_rfl)) ?_
 rintro ⟨x32, l4⟩ h
 replace h := hI _ _ h
 show En c ⟨[sl 1 (.ptr 0 0), sl 3 (.own 1), sl 4 (I x4), sl 5 (.own 2), sl 6 (.own 3), sl 7 (I x25), sl 9 (.own 4), sl 23 (qclasses1 d), sl 24 (qclasses0 d), sl 25 (I x25), sl 30 (LS intT e), sl 31 (I (e.length : Int)), sl 32 (I x32)], [.box (ApiDet.cl d) 73 false, rowI 3 intT l1, mapI DetSplit.enc intT m2, rowI 3 intT l3, rowI 5 (intKT .u8) l4]⟩ _
 refine En.seq ?_
 refine En.region ?_
 refine WL.run ht hn 1 ⟨[sl 1 (.ptr 0 0), sl 3 (.own 1), sl 4 (I x4), sl 5 (.own 2), sl 6 (.own 3), sl 7 (I x25), sl 9 (.own 4), sl 23 (qclasses1 d), sl 24 (qclasses0 d), sl 25 (I x25), sl 30 (LS intT e), sl 31 (I (e.length : Int)), sl 32 (I x32), sl 33 (B (decide (x32 < (e.length : Int))))], [.box (ApiDet.cl d) 73 false, rowI 3 intT l1, mapI DetSplit.enc intT m2, rowI 3 intT l3, rowI 5 (intKT .u8) l4]⟩ (by kernel_rfl) ?_
 refine WL.nil ?_
 refine En.seq ?_
 refine En.cond (b := (decide (x32 < (e.length : Int)))) (by kernel_rfl) (fun hb => ?_) (fun hb => ?_)
 replace h := h.1 hb
 refine En.skip ?_
 refine En.seq ?_
 refine En.block ?_
 refine En.seq ?_
 refine En.region ?_
 obtain ⟨e_2, he_2, h⟩ := h
 refine WL.val hn (by rfl) (val_index (T := intT) (l := e) (i := x32) ht rfl (by rfl) (by rfl) (by rfl) (by rfl) (by rfl) (by rfl) he_2) (by rfl) ?_
 refine WL.val hn (by rfl) (val_load (s := .one (I e_2)) ht rfl (by rfl) (by rfl) (by rfl) (by rfl) (by rfl)) (by rfl) ?_
 refine WL.run ht hn 1 ⟨[sl 1 (.ptr 0 0), sl 3 (.own 1), sl 4 (I x4), sl 5 (.own 2), sl 6 (.own 3), sl 7 (I x25), sl 9 (.own 4), sl 11 (I e_2), sl 23 (qclasses1 d), sl 24 (qclasses0 d), sl 25 (I x25), sl 30 (LS intT e), sl 31 (I (e.length : Int)), sl 32 (I x32)], [.box (ApiDet.cl d) 73 false, rowI 3 intT l1, mapI DetSplit.enc intT m2, rowI 3 intT l3, rowI 5 (intKT .u8) l4]⟩ (by kernel_rfl) ?_
 refine WL.nil ?_
 obtain ⟨e_3, he_3, h⟩ := h
 obtain ⟨e_4, he_4, h⟩ := h
 have hp_2 := h.1
 replace h := h.2
 refine En.regionA ⟨[sl 1 (.ptr 0 0), sl 3 (.own 1), sl 4 (I x4), sl 5 (.own 2), sl 6 (.own 3), sl 7 (I x25), sl 9 (.own 4), sl 11 (I e_2), sl 23 (qclasses1 d), sl 24 (qclasses0 d), sl 25 (I x25), sl 30 (LS intT e), sl 31 (I (e.length : Int)), sl 32 (I x32)], [.sv (.one (.own 4)), .sv (.one (.own 1)), .sv (.one (I e_2)), .sv (.one (.oe 1 ((e_2).toNat) 1)), .sv (.one (I e_3)), .sv (.one (.v (.int .u8 (IntKind.wrap .u8 e_3)))), .sv (.one (.own 1)), .sv (.one (I e_2)), .sv (.one (.oe 1 ((e_2).toNat) 1)), .sv (.one (I e_4)), .sv (.one (I (Int.fdiv e_4 (2 ^ (min 8 64))))), .sv (.one (.v (.int .u8 (IntKind.wrap .u8 (Int.fdiv e_4 (2 ^ (min 8 64))))))), .sv (.one (LS (intKT .u8) ([(IntKind.wrap .u8 e_3), (IntKind.wrap .u8 (Int.fdiv e_4 (2 ^ (min 8 64))))] : (List Int)))), .sv (.one (.own 5)), .sv (.one (.own 5))], [⟨.box (ApiDet.cl d) 73 false, none, none, none⟩, ⟨rowI 3 intT l1, none, none, none⟩, ⟨mapI DetSplit.enc intT m2, none, none, none⟩, ⟨rowI 3 intT l3, none, none, none⟩, ⟨rowI 5 (intKT .u8) l4, none, some 13, none⟩, ⟨rowI 5 (intKT .u8) (l4 ++ ([(IntKind.wrap .u8 e_3), (IntKind.wrap .u8 (Int.fdiv e_4 (2 ^ (min 8 64))))] : (List Int))), some 13, none, none⟩]⟩ ⟨[sl 1 (.ptr 0 0), sl 3 (.own 1), sl 4 (I x4), sl 5 (.own 2), sl 6 (.own 3), sl 7 (I x25), sl 9 (.own 5), sl 23 (qclasses1 d), sl 24 (qclasses0 d), sl 25 (I x25), sl 30 (LS intT e), sl 31 (I (e.length : Int)), sl 32 (I x32)], [.box (ApiDet.cl d) 73 false, rowI 3 intT l1, mapI DetSplit.enc intT m2, rowI 3 intT l3, .gone, rowI 5 (intKT .u8) (l4 ++ ([(IntKind.wrap .u8 e_3), (IntKind.wrap .u8 (Int.fdiv e_4 (2 ^ (min 8 64))))] : (List Int)))]⟩ (by kernel_rfl) hn (by kernel_rfl) (by rfl) (by kernel_rfl) ?_ (by kernel_rfl) ?_
 exact ⟨.mt ⟨[sl 9 (.own 4)], []⟩ [] none (by kernel_rfl) (by rfl) (mt_ev ht (by kernel_rfl)) rfl rfl rfl rfl,
 .mt ⟨[sl 3 (.own 1)], []⟩ [] none (by kernel_rfl) (by rfl) (mt_ev ht (by kernel_rfl)) rfl rfl rfl rfl,
 .mt ⟨[sl 11 (I e_2)], []⟩ [] none (by kernel_rfl) (by rfl) (mt_ev ht (by kernel_rfl)) rfl rfl rfl rfl,
 .mt ⟨[sl 37 (.own 1), sl 38 (I e_2)], [.gone, rowI 3 intT l1]⟩ [] none (by kernel_rfl) (by rfl) (mt_val (val_indexO (T := intT) (l := l1) (k := e_2) ht rfl (by rfl) (by rfl) (by rfl) (by rfl) (by decide) (by rfl) (by rfl) (by rfl) he_3)) rfl rfl rfl rfl,
 .mt ⟨[sl 39 (.oe 1 ((e_2).toNat) 1)], [.gone, rowI 3 intT l1]⟩ [] none (by kernel_rfl) (by rfl) (mt_val (val_loadO (T := intT) (l := l1) (y := e_3) ht rfl (by rfl) (by rfl) (by rfl) (by rfl) (by rfl) (idx_some he_3).2.2 (by rfl))) rfl rfl rfl rfl,
 .mt ⟨[sl 40 (I e_3)], []⟩ [] none (by kernel_rfl) (by rfl) (mt_ev ht (by kernel_rfl)) rfl rfl rfl rfl,
 .mt ⟨[sl 3 (.own 1)], []⟩ [] none (by kernel_rfl) (by rfl) (mt_ev ht (by kernel_rfl)) rfl rfl rfl rfl,
 .mt ⟨[sl 11 (I e_2)], []⟩ [] none (by kernel_rfl) (by rfl) (mt_ev ht (by kernel_rfl)) rfl rfl rfl rfl,
 .mt ⟨[sl 42 (.own 1), sl 43 (I e_2)], [.gone, rowI 3 intT l1]⟩ [] none (by kernel_rfl) (by rfl) (mt_val (val_indexO (T := intT) (l := l1) (k := e_2) ht rfl (by rfl) (by rfl) (by rfl) (by rfl) (by decide) (by rfl) (by rfl) (by rfl) he_4)) rfl rfl rfl rfl,
 .mt ⟨[sl 44 (.oe 1 ((e_2).toNat) 1)], [.gone, rowI 3 intT l1]⟩ [] none (by kernel_rfl) (by rfl) (mt_val (val_loadO (T := intT) (l := l1) (y := e_4) ht rfl (by rfl) (by rfl) (by rfl) (by rfl) (by rfl) (idx_some he_4).2.2 (by rfl))) rfl rfl rfl rfl,
 .mt ⟨[sl 45 (I e_4)], []⟩ [] none (by kernel_rfl) (by rfl) (mt_ev ht (by kernel_rfl)) rfl rfl rfl rfl,
 .mt ⟨[sl 46 (I (Int.fdiv e_4 (2 ^ (min 8 64))))], []⟩ [] none (by kernel_rfl) (by rfl) (mt_ev ht (by kernel_rfl)) rfl rfl rfl rfl,
 .mt ⟨[sl 41 (.v (.int .u8 (IntKind.wrap .u8 e_3))), sl 47 (.v (.int .u8 (IntKind.wrap .u8 (Int.fdiv e_4 (2 ^ (min 8 64))))))], []⟩ [] none (by kernel_rfl) (by rfl) (mt_seal (q := 5) (e := 5) (mt_lit (T := (intKT .u8)) ([(IntKind.wrap .u8 e_3), (IntKind.wrap .u8 (Int.fdiv e_4 (2 ^ (min 8 64))))] : (List Int)) (mt_bsl 5 (r := cellsOf (intKT .u8) ([(IntKind.wrap .u8 e_3), (IntKind.wrap .u8 (Int.fdiv e_4 (2 ^ (min 8 64))))] : (List Int))) ht rfl (by rfl) (by rfl) (by rfl) (by kernel_rfl) (by rfl)) (fun _ h => by cases h) (fun _ => rfl) (fun _ => rfl) (by rfl) (Nat.le_of_ble_eq_true rfl))) rfl rfl rfl rfl,
 .mt ⟨[sl 36 (.own 4), sl 48 (LS (intKT .u8) ([(IntKind.wrap .u8 e_3), (IntKind.wrap .u8 (Int.fdiv e_4 (2 ^ (min 8 64))))] : (List Int)))], [.gone, .gone, .gone, .gone, rowI 5 (intKT .u8) l4]⟩ [4] (some 5) (by kernel_rfl) (by rfl) (mt_append (T := (intKT .u8)) (l := l4) (es := ([(IntKind.wrap .u8 e_3), (IntKind.wrap .u8 (Int.fdiv e_4 (2 ^ (min 8 64))))] : (List Int))) (p := 5) ht rfl (by rfl) (by rfl) (by rfl) (by rfl) (by decide) (by rfl) (by rfl) (srcLS (T := (intKT .u8)) (es := ([(IntKind.wrap .u8 e_3), (IntKind.wrap .u8 (Int.fdiv e_4 (2 ^ (min 8 64))))] : (List Int))) (fun _ h => by cases h) (by decide) (by rfl)) (by exact hp_2) (by exact hp_2.le (by decide))) rfl rfl rfl rfl,
 .mt ⟨[sl 49 (.own 5)], []⟩ [] none (by kernel_rfl) (by rfl) (mt_ev ht (by kernel_rfl)) rfl rfl rfl rfl,
 trivial⟩
 refine En.region ?_
 refine WL.run ht hn 2 ⟨[sl 1 (.ptr 0 0), sl 3 (.own 1), sl 4 (I x4), sl 5 (.own 2), sl 6 (.own 3), sl 7 (I x25), sl 9 (.own 5), sl 23 (qclasses1 d), sl 24 (qclasses0 d), sl 25 (I x25), sl 30 (LS intT e), sl 31 (I (e.length : Int)), sl 32 (I (wr (x32 + 1)))], [.box (ApiDet.cl d) 73 false, rowI 3 intT l1, mapI DetSplit.enc intT m2, rowI 3 intT l3, .gone, rowI 5 (intKT .u8) (l4 ++ ([(IntKind.wrap .u8 e_3), (IntKind.wrap .u8 (Int.fdiv e_4 (2 ^ (min 8 64))))] : (List Int)))]⟩ (by kernel_rfl) ?_
 refine WL.nil ?_
 refine En.move 5 4 (by rfl) (by rfl) ?_
 exact En.at (I := fun zz => Inv_3 zz.1 zz.2 ∧ mu_3 zz.1 zz.2 < mu_3 x32 l4) (T := fun zz => ⟨[sl 1 (.ptr 0 0), sl 3 (.own 1), sl 4 (I x4), sl 5 (.own 2), sl 6 (.own 3), sl 7 (I x25), sl 9 (.own 4), sl 23 (qclasses1 d), sl 24 (qclasses0 d), sl 25 (I x25), sl 30 (LS intT e), sl 31 (I (e.length : Int)), sl 32 (I zz.1)], [.box (ApiDet.cl d) 73 false, rowI 3 intT l1, mapI DetSplit.enc intT m2, rowI 3 intT l3, rowI 5 (intKT .u8) zz.2]⟩) ((wr (x32 + 1)), (l4 ++ ([(IntKind.wrap .u8 e_3), (IntKind.wrap .u8 (Int.fdiv e_4 (2 ^ (min 8 64))))] : (List Int)))) h (by kernel_rfl)
 replace h := h.2 hb
 refine En.exit rfl ?_
 refine En.seq ?_
 obtain ⟨e_5, he_5, h⟩ := h
 refine En.regionA ⟨[sl 1 (.ptr 0 0), sl 3 (.own 1), sl 4 (I x4), sl 5 (.own 2), sl 6 (.own 3), sl 7 (I x25), sl 9 (.own 4), sl 23 (qclasses1 d), sl 24 (qclasses0 d), sl 25 (I x25)], [.sv (.one (.own 1)), .sv (.one (I x25)), .sv (.one (.oe 1 ((x25).toNat) 1)), .sv (.one (I e_5)), .sv (.one (.own 4)), .sv (.one (.v (.string (bytesOf l4)))), .sv (.agg [I e_5, .v (.string (bytesOf l4))]), .sv (.one (.ptr 5 0)), .tup []], [⟨.box (ApiDet.cl d) 73 false, none, none, none⟩, ⟨rowI 3 intT l1, none, none, none⟩, ⟨mapI DetSplit.enc intT m2, none, none, none⟩, ⟨rowI 3 intT l3, none, none, none⟩, ⟨rowI 5 (intKT .u8) l4, none, none, none⟩, ⟨.box [I 0, .v (.string ByteArray.empty)] 322 false, some 7, none, some (8, .box [I e_5, .v (.string (bytesOf l4))] 322 false)⟩]⟩ ⟨[sl 1 (.ptr 0 0), sl 3 (.own 1), sl 4 (I x4), sl 5 (.own 2), sl 6 (.own 3), sl 7 (I x25), sl 12 (.ptr 5 0), sl 23 (qclasses1 d), sl 24 (qclasses0 d), sl 25 (I x25)], [.box (ApiDet.cl d) 73 false, rowI 3 intT l1, mapI DetSplit.enc intT m2, rowI 3 intT l3, .gone, .box [I e_5, .v (.string (bytesOf l4))] 322 false]⟩ (by kernel_rfl) hn (by kernel_rfl) (by rfl) (by kernel_rfl) ?_ (by kernel_rfl) ?_
 exact ⟨.mt ⟨[sl 3 (.own 1)], []⟩ [] none (by kernel_rfl) (by rfl) (mt_ev ht (by kernel_rfl)) rfl rfl rfl rfl,
 .mt ⟨[sl 7 (I x25)], []⟩ [] none (by kernel_rfl) (by rfl) (mt_ev ht (by kernel_rfl)) rfl rfl rfl rfl,
 .mt ⟨[sl 51 (.own 1), sl 52 (I x25)], [.gone, rowI 3 intT l1]⟩ [] none (by kernel_rfl) (by rfl) (mt_val (val_indexO (T := intT) (l := l1) (k := x25) ht rfl (by rfl) (by rfl) (by rfl) (by rfl) (by decide) (by rfl) (by rfl) (by rfl) he_5)) rfl rfl rfl rfl,
 .mt ⟨[sl 53 (.oe 1 ((x25).toNat) 1)], [.gone, rowI 3 intT l1]⟩ [] none (by kernel_rfl) (by rfl) (mt_val (val_loadO (T := intT) (l := l1) (y := e_5) ht rfl (by rfl) (by rfl) (by rfl) (by rfl) (by rfl) (idx_some he_5).2.2 (by rfl))) rfl rfl rfl rfl,
 .mt ⟨[sl 9 (.own 4)], []⟩ [] none (by kernel_rfl) (by rfl) (mt_ev ht (by kernel_rfl)) rfl rfl rfl rfl,
 .mt ⟨[sl 55 (.own 4)], [.gone, .gone, .gone, .gone, rowI 5 (intKT .u8) l4]⟩ [] none (by kernel_rfl) (by rfl) (mt_val (val_str rfl Try.underlying299 Try.underlying5 Try.underlying9 (srcOwn (T := intKT .u8) (es := l4) (fun _ h => by cases h) (by rfl) (by rfl)))) rfl rfl rfl rfl,
 .mt ⟨[sl 54 (I e_5), sl 56 (.v (.string (bytesOf l4)))], []⟩ [] none (by kernel_rfl) (by rfl) (mt_ev ht (by kernel_rfl)) rfl rfl rfl rfl,
 .mt ⟨[], []⟩ [] (some 5) (by kernel_rfl) (by rfl) (mt_alloc2 5 322 ht rfl (by rfl) (by rfl)) rfl rfl rfl rfl,
 .mu ⟨[sl 12 (.ptr 5 0), (57, .sv (.agg [I e_5, .v (.string (bytesOf l4))]))], [.gone, .gone, .gone, .gone, .gone, .box [I 0, .v (.string ByteArray.empty)] 322 false]⟩ 5 _ _ rfl rfl (by kernel_rfl) (by rfl) (mu_store2 ht rfl (by rfl) (by rfl) (by rfl) (by rfl) (fun h => by cases h) (by rfl) (by rfl)) rfl rfl rfl rfl rfl rfl rfl,
 trivial⟩
 obtain ⟨J, h, hJ⟩ := h
 refine En.seqJ (σ := (List (DetSplit × Int))) (fun zz => J zz) (fun zz => ⟨[sl 1 (.ptr 0 0), sl 3 (.own 1), sl 4 (I x4), sl 5 (.own 2), sl 6 (.own 3), sl 7 (I x25), sl 12 (.ptr 5 0), sl 23 (qclasses1 d), sl 24 (qclasses0 d), sl 25 (I x25)], [.box (ApiDet.cl d) 73 false, rowI 3 intT l1, mapI DetSplit.enc intT zz, rowI 3 intT l3, .gone, .box [I e_5, .v (.string (bytesOf l4))] 322 false]⟩) ?_ ?_
 refine En.seq ?_
 refine En.region ?_
 refine WL.run ht hn 2 ⟨[sl 1 (.ptr 0 0), sl 3 (.own 1), sl 4 (I x4), sl 5 (.own 2), sl 6 (.own 3), sl 7 (I x25), sl 12 (.ptr 5 0), sl 23 (qclasses1 d), sl 24 (qclasses0 d), sl 25 (I x25), sl 59 (.own 2), (60, .sv (.agg [I e_5, .v (.string (bytesOf l4))]))], [.box (ApiDet.cl d) 73 false, rowI 3 intT l1, mapI DetSplit.enc intT m2, rowI 3 intT l3, .gone, .box [I e_5, .v (.string (bytesOf l4))] 322 false]⟩ (by kernel_rfl) ?_
 refine WL.val hn (by rfl) (val_lookup (T := intT) (D := m2) DetSplit.keyLaw (k := (DetSplit.mk e_5 (bytesOf l4))) (ok := true) (0 : Int) (zv := (.int .i64 0)) rfl Try.underlying320 (fun _ => by kernel_rfl) (fun _ => ⟨rfl, trivial⟩) (mapAs DetSplit.enc intT m2) (by rfl) (by rfl) (by rfl) (fun _ => rfl)) (by rfl) ?_
 refine WL.run ht hn 5 ⟨[sl 1 (.ptr 0 0), sl 3 (.own 1), sl 4 (I x4), sl 5 (.own 2), sl 6 (.own 3), sl 7 (I x25), sl 12 (.ptr 5 0), sl 14 (B (mget (DetSplit.mk e_5 (bytesOf l4)) m2).isSome), sl 23 (qclasses1 d), sl 24 (qclasses0 d), sl 25 (I x25)], [.box (ApiDet.cl d) 73 false, rowI 3 intT l1, mapI DetSplit.enc intT m2, rowI 3 intT l3, .gone, .box [I e_5, .v (.string (bytesOf l4))] 322 false]⟩ (by kernel_rfl) ?_
 refine WL.nil ?_
 refine En.seq ?_
 refine En.region ?_
 refine WL.run ht hn 2 ⟨[sl 1 (.ptr 0 0), sl 3 (.own 1), sl 4 (I x4), sl 5 (.own 2), sl 6 (.own 3), sl 7 (I x25), sl 12 (.ptr 5 0), sl 23 (qclasses1 d), sl 24 (qclasses0 d), sl 25 (I x25), sl 65 (B (!(mget (DetSplit.mk e_5 (bytesOf l4)) m2).isSome))], [.box (ApiDet.cl d) 73 false, rowI 3 intT l1, mapI DetSplit.enc intT m2, rowI 3 intT l3, .gone, .box [I e_5, .v (.string (bytesOf l4))] 322 false]⟩ (by kernel_rfl) ?_
 refine WL.nil ?_
 refine En.cond (b := (!(mget (DetSplit.mk e_5 (bytesOf l4)) m2).isSome)) (by kernel_rfl) (fun hb => ?_) (fun hb => ?_)
 replace h := h.1 hb
 refine En.region ?_
 refine WL.run ht hn 3 ⟨[sl 1 (.ptr 0 0), sl 3 (.own 1), sl 4 (I x4), sl 5 (.own 2), sl 6 (.own 3), sl 7 (I x25), sl 12 (.ptr 5 0), sl 23 (qclasses1 d), sl 24 (qclasses0 d), sl 25 (I x25), sl 66 (.own 2), (67, .sv (.agg [I e_5, .v (.string (bytesOf l4))])), sl 68 (.own 2)], [.box (ApiDet.cl d) 73 false, rowI 3 intT l1, mapI DetSplit.enc intT m2, rowI 3 intT l3, .gone, .box [I e_5, .v (.string (bytesOf l4))] 322 false]⟩ (by kernel_rfl) ?_
 refine WL.val hn (by rfl) (val_lenM (enc := DetSplit.enc) (T := intT) (D := m2) rfl Try.underlying320 (by rfl) (by rfl) (mapAs _ _ _)) (by rfl) ?_
 refine WL.mapPut (T := intT) DetSplit.keyLaw (k := (DetSplit.mk e_5 (bytesOf l4))) (y := (m2.length : Int)) hn (by rfl) (.inl rfl) Try.underlying320 (by rfl) (by rfl) (by rfl) (by rfl) (by rfl) (by rfl) ?_
 refine WL.nil ?_
 exact En.at (I := fun zz => J zz) (T := fun zz => ⟨[sl 1 (.ptr 0 0), sl 3 (.own 1), sl 4 (I x4), sl 5 (.own 2), sl 6 (.own 3), sl 7 (I x25), sl 12 (.ptr 5 0), sl 23 (qclasses1 d), sl 24 (qclasses0 d), sl 25 (I x25)], [.box (ApiDet.cl d) 73 false, rowI 3 intT l1, mapI DetSplit.enc intT zz, rowI 3 intT l3, .gone, .box [I e_5, .v (.string (bytesOf l4))] 322 false]⟩) (mput (DetSplit.mk e_5 (bytesOf l4)) (m2.length : Int) m2) h (by kernel_rfl)
 replace h := h.2 hb
 refine En.skip ?_
 exact En.at (I := fun zz => J zz) (T := fun zz => ⟨[sl 1 (.ptr 0 0), sl 3 (.own 1), sl 4 (I x4), sl 5 (.own 2), sl 6 (.own 3), sl 7 (I x25), sl 12 (.ptr 5 0), sl 23 (qclasses1 d), sl 24 (qclasses0 d), sl 25 (I x25)], [.box (ApiDet.cl d) 73 false, rowI 3 intT l1, mapI DetSplit.enc intT zz, rowI 3 intT l3, .gone, .box [I e_5, .v (.string (bytesOf l4))] 322 false]⟩) m2 h (by kernel_rfl)
 intro m2_2 h
 replace h := hJ _ h
 show En c ⟨[sl 1 (.ptr 0 0), sl 3 (.own 1), sl 4 (I x4), sl 5 (.own 2), sl 6 (.own 3), sl 7 (I x25), sl 12 (.ptr 5 0), sl 23 (qclasses1 d), sl 24 (qclasses0 d), sl 25 (I x25)], [.box (ApiDet.cl d) 73 false, rowI 3 intT l1, mapI DetSplit.enc intT m2_2, rowI 3 intT l3, .gone, .box [I e_5, .v (.string (bytesOf l4))] 322 false]⟩ _
 refine En.region ?_
 refine WL.run ht hn 4 ⟨[sl 1 (.ptr 0 0), sl 3 (.own 1), sl 4 (I x4), sl 5 (.own 2), sl 6 (.own 3), sl 23 (qclasses1 d), sl 24 (qclasses0 d), sl 25 (I x25), sl 70 (.own 3), sl 71 (I x25), sl 72 (.own 2), (73, .sv (.agg [I e_5, .v (.string (bytesOf l4))]))], [.box (ApiDet.cl d) 73 false, rowI 3 intT l1, mapI DetSplit.enc intT m2_2, rowI 3 intT l3, .gone, .gone]⟩ (by kernel_rfl) ?_
 refine WL.val hn (by rfl) (val_lookup (T := intT) (D := m2_2) DetSplit.keyLaw (k := (DetSplit.mk e_5 (bytesOf l4))) (ok := false) (0 : Int) (zv := (.int .i64 0)) rfl Try.underlying320 (fun _ => by kernel_rfl) (fun _ => ⟨rfl, trivial⟩) (mapAs DetSplit.enc intT m2_2) (by rfl) (by rfl) (by rfl) (fun _ => rfl)) (by rfl) ?_
 obtain ⟨e_6, he_6, h⟩ := h
 refine WL.val hn (by rfl) (val_indexO (T := intT) (l := l3) (k := x25) ht rfl (by rfl) (by rfl) (by rfl) (by rfl) (by decide) (by rfl) (by rfl) (by rfl) he_6) (by rfl) ?_
 refine WL.storeO (T := intT) (l := l3) (y := ((mget (DetSplit.mk e_5 (bytesOf l4)) m2_2).getD (0 : Int))) ht hn (by rfl) rfl (by rfl) (by rfl) (fun _ h => by cases h) (by rfl) (by rfl) (idx_lt he_6) (by rfl) (by rfl) (by rfl) (by rfl) ?_
 refine WL.nil ?_
 refine En.region ?_
 refine WL.run ht hn 2 ⟨[sl 1 (.ptr 0 0), sl 3 (.own 1), sl 4 (I x4), sl 5 (.own 2), sl 6 (.own 3), sl 23 (qclasses1 d), sl 24 (qclasses0 d), sl 25 (I (wr (x25 + 1)))], [.box (ApiDet.cl d) 73 false, rowI 3 intT l1, mapI DetSplit.enc intT m2_2, rowI 3 intT (l3.set (x25).toNat ((mget (DetSplit.mk e_5 (bytesOf l4)) m2_2).getD (0 : Int))), .gone, .gone]⟩ (by kernel_rfl) ?_
 refine WL.nil ?_
 exact En.at (I := fun zz => Inv_2 zz.1 zz.2.1 zz.2.2 ∧ mu_2 zz.1 zz.2.1 zz.2.2 < mu_2 x25 m2 l3) (T := fun zz => ⟨[sl 1 (.ptr 0 0), sl 3 (.own 1), sl 4 (I x4), sl 5 (.own 2), sl 6 (.own 3), sl 23 (qclasses1 d), sl 24 (qclasses0 d), sl 25 (I zz.1)], [.box (ApiDet.cl d) 73 false, rowI 3 intT l1, mapI DetSplit.enc intT zz.2.1, rowI 3 intT zz.2.2]⟩) ((wr (x25 + 1)), m2_2, (l3.set (x25).toNat ((mget (DetSplit.mk e_5 (bytesOf l4)) m2_2).getD (0 : Int)))) h (by kernel_rfl)
 replace h := h.2 hb
 refine En.exit rfl ?_
 refine En.seq ?_
 refine En.region ?_
 refine WL.run ht hn 2 ⟨[sl 1 (.ptr 0 0), sl 3 (.own 3), sl 4 (I x4), sl 5 (.own 2)], [.box (ApiDet.cl d) 73 false, .gone, mapI DetSplit.enc intT m2, rowI 3 intT l3]⟩ (by kernel_rfl) ?_
 refine WL.nil ?_
 refine En.seq ?_
 refine En.seq ?_
 refine En.region ?_
 refine WL.run ht hn 1 ⟨[sl 1 (.ptr 0 0), sl 3 (.own 3), sl 4 (I x4), sl 5 (.own 2), sl 78 (.own 2)], [.box (ApiDet.cl d) 73 false, .gone, mapI DetSplit.enc intT m2, rowI 3 intT l3]⟩ (by kernel_rfl) ?_
 refine WL.val hn (by rfl) (val_lenM (enc := DetSplit.enc) (T := intT) (D := m2) rfl Try.underlying320 (by rfl) (by rfl) (mapAs _ _ _)) (by rfl) ?_
 refine WL.run ht hn 2 ⟨[sl 1 (.ptr 0 0), sl 3 (.own 3), sl 5 (.own 2), sl 81 (B ((m2.length : Int) == x4))], [.box (ApiDet.cl d) 73 false, .gone, mapI DetSplit.enc intT m2, rowI 3 intT l3]⟩ (by kernel_rfl) ?_
 refine WL.nil ?_
 refine En.cond (b := ((m2.length : Int) == x4)) (by kernel_rfl) (fun hb => ?_) (fun hb => ?_)
 replace h := h.1 hb
 refine En.seq ?_
 refine En.region ?_
 refine WL.run ht hn 2 ⟨[sl 2 (.own 3)], [.gone, .gone, .gone, rowI 3 intT l3]⟩ (by kernel_rfl) ?_
 refine WL.nil ?_
 refine En.ret ?_
 refine En.seal (T := intT) (l := l3) (e := 3) 3 rfl ?_
 exact En.back ht l3 h (by kernel_rfl) rfl
 replace h := h.2 hb
 refine En.skip ?_
 refine En.region ?_
 refine WL.run ht hn 1 ⟨[sl 1 (.ptr 0 0), sl 3 (.own 3), sl 83 (.own 2)], [.box (ApiDet.cl d) 73 false, .gone, mapI DetSplit.enc intT m2, rowI 3 intT l3]⟩ (by kernel_rfl) ?_
 refine WL.val hn (by rfl) (val_lenM (enc := DetSplit.enc) (T := intT) (D := m2) rfl Try.underlying320 (by rfl) (by rfl) (mapAs _ _ _)) (by rfl) ?_
 refine WL.run ht hn 1 ⟨[sl 1 (.ptr 0 0), sl 3 (.own 3), sl 4 (I (m2.length : Int))], [.box (ApiDet.cl d) 73 false, .gone, .gone, rowI 3 intT l3]⟩ (by kernel_rfl) ?_
 refine WL.nil ?_
 refine En.move 3 1 (by rfl) (by rfl) ?_
 exact En.at (I := fun zz => Inv zz.1 zz.2 ∧ mu zz.1 zz.2 < mu x4 l1) (T := fun zz => ⟨[sl 1 (.ptr 0 0), sl 3 (.own 1), sl 4 (I zz.1)], [.box (ApiDet.cl d) 73 false, rowI 3 intT zz.2]⟩) ((m2.length : Int), l3) h (by kernel_rfl)
theorem en159 : ∀ args w, (callFunc 159 args).run Try.prog w = .ok (.enter 159 args) w := enters_of Try.func159 (by kernel_rfl) rfl
end Go.Proofs.Ytapnmjeadbhffaa


namespace Go.Proofs.Ytapnmjeadbhffaa
open Go.RowKit Go.MapKept
set_option linter.unusedSimpArgs false
set_option linter.unusedVariables false
set_option maxRecDepth 100000
set_option linter.unusedSectionVars false
structure ClsOk (d : ApiDet) : Prop where
 wf : Wf d
 size : d.fNext.length ≤ 65536
 wide : d.fLetters ≤ 1000
 small : ∀ x ∈ d.fMark, 0 ≤ x ∧ x < 65536
theorem ClsOk.pre {d : ApiDet} (h : ClsOk d) : ClsPre d :=
 ⟨h.size, h.wf.next, fun r hr => by have := h.wf.rows r hr; have := h.wide; have := h.wf.letters; omega, h.wf.mark, h.small⟩
structure IsClass (d : ApiDet) (cls : List Int) : Prop where
 len : cls.length = d.fNext.length
 range : ∀ x ∈ cls, 0 ≤ x ∧ x < (d.fNext.length : Int)
 same : ∀ p q, p < d.fNext.length → q < d.fNext.length → (cls.getD p 0 = cls.getD q 0 ↔ rs d.fLetters.toNat (langD d p) = rs d.fLetters.toNat (langD d q))
theorem classes_plain (d : ApiDet) (h : ClsOk d) : classes_vc d (IsClass d) := by
 have hd := h.pre
 have hsz := h.size
 have hL : ∀ r ∈ d.fNext, r.length = d.fLetters.toNat := h.wf.rows
 intro _ _
 refine ⟨by rw [h.wf.mark]; omega, fun x4 l1 => ClsInv d d.fLetters.toNat x4 l1, fun x4 _ => ((d.fNext.length : Int) + 1 - x4).toNat, ⟨h.wf.mark, h.small, fun p q _ _ e => ?_, fun p q _ _ e => e, .inl rfl⟩, ?_⟩
 ·exact rs_at (w := []) e fun b hb => by simp at hb
 intro x4 l1 hI
 refine ⟨⟨by omega, Int.le_refl _, by rw [hI.len]; omega⟩, fun x m next => ∃ q : Nat, x = q ∧ q ≤ d.fNext.length ∧ Half d.fNext l1 q m next, fun x _ _ => d.fNext.length - x.toNat, ⟨0, rfl, Nat.zero_le _, Half.start (by simp [hI.len])⟩, ?_⟩
 rintro x m2 l3 ⟨q, rfl, hq, hH⟩
 refine ⟨fun hb => ?_, fun hb => ?_⟩
 ·have hlt : q < d.fNext.length := by
   have := of_decide_eq_true hb
   omega
  have he : d.fNext[q]? = some d.fNext[q] := List.getElem?_eq_getElem hlt
  generalize d.fNext[q] = e at he
  have hem := List.mem_of_getElem? he
  have hew := hd.wide e hem
  refine ⟨e, by simp [idx, he], fun x l => ∃ a : Nat, x = a ∧ a ≤ e.length ∧ l = ((rowCls l1 e).take a).flatMap two8, fun x _ => e.length - x.toNat, ⟨0, rfl, Nat.zero_le _, by simp⟩, ?_⟩
  rintro x l4 ⟨a, rfl, ha, rfl⟩
  refine ⟨fun hb2 => ?_, fun hb2 => ?_⟩
  ·have hlt2 : a < e.length := by
    have := of_decide_eq_true hb2
    omega
   have hx := hd.next e hem _ (List.getElem_mem hlt2)
   have hg : idx l1 e[a] = some (l1.getD e[a].toNat 0) := by
    unfold idx
    rw [if_pos hx.1]
    exact getD_some (by rw [hI.len]; omega)
   have hlen : (((rowCls l1 e).take a).flatMap two8).length = 2 * a := by
    rw [List.length_flatMap]
    have : (List.map (fun x => (two8 x).length) (List.take a (rowCls l1 e))) = List.replicate a 2 := by
     rw [List.eq_replicate_iff]
     refine ⟨by simp [rowCls]; omega, fun z hz => ?_⟩
     obtain ⟨y, _, rfl⟩ := List.mem_map.1 hz
     rfl
    rw [this]
    simp
    omega
   refine ⟨e[a], by simp [idx, hlt2], _, hg, _, hg, ?_, ?_, ?_⟩
   ·unfold capOk
    rw [hlen]
    simp only [List.length_cons, List.length_nil]
    omega
   ·refine ⟨a + 1, ?_, hlt2, ?_⟩
    ·rw [wr_in (by omega) (by omega)]
     omega
    ·rw [two8_eq, List.take_add_one, List.flatMap_append]
     congr 1
     have : (rowCls l1 e)[a]? = some (l1.getD e[a].toNat 0) := by
      unfold rowCls
      rw [List.getElem?_map, List.getElem?_eq_getElem hlt2]
      rfl
     rw [this]
     simp
   ·rw [wr_in (by omega) (by omega)]
    simp only
    omega
  ·have hae : a = e.length := by
    have := of_decide_eq_false hb2
    omega
   subst hae
   have hall : (rowCls l1 e).take e.length = rowCls l1 e := List.take_of_length_le (by simp [rowCls])
   rw [hall]
   have hq1 : idx l1 (q : Int) = some (l1.getD q 0) := by
    unfold idx
    rw [if_pos (by omega), Int.toNat_natCast]
    exact getD_some (by rw [hI.len]; exact hlt)
   have hkey : (DetSplit.mk (l1.getD q 0) (bytesOf ((rowCls l1 e).flatMap two8))) = keyOf l1 q e := rfl
   refine ⟨l1.getD q 0, hq1, fun m => Half d.fNext l1 (q + 1) m (l3.set q ((mget (keyOf l1 q e) m).getD 0)), ?_, ?_⟩
   ·rw [hkey]
    cases hm : mget (keyOf l1 q e) m2 with
    | none =>
     refine ⟨fun _ => ?_, fun h => (by cases h)⟩
     show Half _ _ _ _ (l3.set q ((mget (keyOf l1 q e) (mput (keyOf l1 q e) (m2.length : Int) m2)).getD 0))
     rw [mget_put, if_pos rfl]
     exact hH.new he hm
    | some y =>
     refine ⟨fun h => (by cases h), fun _ => ?_⟩
     show Half _ _ _ _ (l3.set q ((mget (keyOf l1 q e) m2).getD 0))
     rw [hm]
     exact hH.known he hm
   ·intro m3 hm3
    refine ⟨l3.getD q 0, ?_, ⟨q + 1, ?_, hlt, ?_⟩, ?_⟩
    ·unfold idx
     rw [if_pos (by omega), Int.toNat_natCast]
     exact getD_some (by rw [hH.len]; exact hlt)
    ·rw [wr_in (by omega) (by omega)]
     omega
    ·rw [Int.toNat_natCast, hkey]
     exact hm3
    ·rw [wr_in (by omega) (by omega)]
     simp only
     omega
 ·have hqe : q = d.fNext.length := by
   have := of_decide_eq_false hb
   omega
  subst hqe
  have hR := hH.round
  have hle := hH.size
  refine ⟨fun he => ?_, fun he => ⟨hI.next hd hL hR hle, ?_⟩⟩
  ·have he : (m2.length : Int) = x4 := by simpa using he
   exact ⟨hR.len, fun x hx => by have := hR.range x hx; omega, hI.ends hd hL hR hle he⟩
  ·have he : (m2.length : Int) ≠ x4 := by simpa using he
   have := hI.le hd hL hR
   simp only
   omega
theorem classes_ct (d : ApiDet) (h : ClsOk d) : Ct 159 [.sv (.agg [I d.fLetters, I d.fStart, LS (lsT intT) d.fNext, LS intT d.fMark])] [] (IsClass d) (fun r => .sv (.one (LS intT r))) := classes_walk d _ (classes_plain d h)
end Go.Proofs.Ytapnmjeadbhffaa


namespace Go.Proofs.Ytapnmjeadbhffaa
open Go.RowKit Go.MapKept
set_option linter.unusedSimpArgs false
set_option linter.unusedVariables false
set_option maxRecDepth 100000
def ExplPre {K : Type} (letters : Int) (start : K) (domgo : (K × Int) → Prop) (go : (K × Int) → K) (dommark : K → Prop) (limit : Int) : Prop :=
 (0 ≤ letters ∧ letters ≤ 1000) ∧ (1 ≤ limit ∧ limit ≤ 2097152) ∧ ∃ P : K → Prop, P start ∧ (∀ k (a : Nat), P k → (a : Int) < letters → domgo (k, (a : Int)) ∧ P (go (k, (a : Int)))) ∧ ∀ k, P k → dommark k
theorem exploreInt_ct (letters : Int) (start : Int) (domgo : ((Int × Int) → Prop)) (go : ((Int × Int) → Int)) (dommark : (Int → Prop)) (mark : (Int → Int)) (limit : Int) (hp : ExplPre letters start domgo go dommark limit) : Ct 74 [.sv (.one (I letters)), .sv (.one (I start)), .sv (.one (.rd (fvR (fun (x : (Int × Int)) => [.sv (.one (I x.1)), .sv (.one (I x.2))]) (fun (r : Int) => .sv (.one (I r))) domgo go))), .sv (.one (.rd (fvR (fun (x : Int) => [.sv (.one (I x))]) (fun (r : Int) => .sv (.one (I r))) dommark mark))), .sv (.one (I limit))] [] (fun (_ : Unit) => True) (fun _ => .tup [.agg [I (explR (fun k (a : Nat) => go (k, (a : Int))) mark letters.toNat start limit).1.fLetters, I (explR (fun k (a : Nat) => go (k, (a : Int))) mark letters.toNat start limit).1.fStart, LS (lsT intT) (explR (fun k (a : Nat) => go (k, (a : Int))) mark letters.toNat start limit).1.fNext, LS intT (explR (fun k (a : Nat) => go (k, (a : Int))) mark letters.toNat start limit).1.fMark], .one (B (explR (fun k (a : Nat) => go (k, (a : Int))) mark letters.toNat start limit).2)]) := by
 refine (exploreInt_walk letters start domgo go dommark mark limit (fun res_ => res_ = (explR (fun k (a : Nat) => go (k, (a : Int))) mark letters.toNat start limit)) ?_).fun
 obtain ⟨h1, h2, P, h3, h4, h5⟩ := hp
 exact explore_plain letters start domgo go dommark mark limit 8 (fun r => r = explR (fun k (a : Nat) => go (k, (a : Int))) mark letters.toNat start limit) P h3 h4 h5 h1 h2 (by decide) rfl
theorem exploreDetCouple_ct (letters : Int) (start : DetCouple) (domgo : ((DetCouple × Int) → Prop)) (go : ((DetCouple × Int) → DetCouple)) (dommark : (DetCouple → Prop)) (mark : (DetCouple → Int)) (limit : Int) (hp : ExplPre letters start domgo go dommark limit) : Ct 79 [.sv (.one (I letters)), .sv (.agg [I start.fE0, I start.fE1]), .sv (.one (.rd (fvR (fun (x : (DetCouple × Int)) => [.sv (.agg [I x.1.fE0, I x.1.fE1]), .sv (.one (I x.2))]) (fun (r : DetCouple) => .sv (.agg [I r.fE0, I r.fE1])) domgo go))), .sv (.one (.rd (fvR (fun (x : DetCouple) => [.sv (.agg [I x.fE0, I x.fE1])]) (fun (r : Int) => .sv (.one (I r))) dommark mark))), .sv (.one (I limit))] [] (fun (_ : Unit) => True) (fun _ => .tup [.agg [I (explR (fun k (a : Nat) => go (k, (a : Int))) mark letters.toNat start limit).1.fLetters, I (explR (fun k (a : Nat) => go (k, (a : Int))) mark letters.toNat start limit).1.fStart, LS (lsT intT) (explR (fun k (a : Nat) => go (k, (a : Int))) mark letters.toNat start limit).1.fNext, LS intT (explR (fun k (a : Nat) => go (k, (a : Int))) mark letters.toNat start limit).1.fMark], .one (B (explR (fun k (a : Nat) => go (k, (a : Int))) mark letters.toNat start limit).2)]) := by
 refine (exploreDetCouple_walk letters start domgo go dommark mark limit (fun res_ => res_ = (explR (fun k (a : Nat) => go (k, (a : Int))) mark letters.toNat start limit)) ?_).fun
 obtain ⟨h1, h2, P, h3, h4, h5⟩ := hp
 exact explore_plain letters start domgo go dommark mark limit 16 (fun r => r = explR (fun k (a : Nat) => go (k, (a : Int))) mark letters.toNat start limit) P h3 h4 h5 h1 h2 (by decide) rfl
def smGo_vc (k : Int) (a : Int) (cls : (List Int)) (d : ApiDet) (back : (List Int)) (Q : Int → Prop) : Prop :=
 ∃ e, idx back k = some e ∧
 ∃ e_2, idx d.fNext e = some e_2 ∧
 ∃ e_3, idx e_2 a = some e_3 ∧
 ∃ e_4, idx cls e_3 = some e_4 ∧
 Q e_4
theorem smGo_walk (k : Int) (a : Int) (cls : (List Int)) (d : ApiDet) (back : (List Int)) (Q : Int → Prop) (h : smGo_vc k a cls d back Q) : Ct 160 [.sv (.one (I k)), .sv (.one (I a)), .sv (.one (.ptr 0 0)), .sv (.one (.ptr 1 0)), .sv (.one (.ptr 2 0))] [.box [LS intT cls] 23 true, .box [I d.fLetters, I d.fStart, LS (lsT intT) d.fNext, LS intT d.fMark] 73 true, .box [LS intT back] 23 true] Q (fun (r : Int) => .sv (.one (I r))) := by
 have ht := tab_ok
 refine Ct.body Try.func160 rfl rfl rfl rfl (fun c hn => ?_)
 unfold smGo_vc at h
 refine En.seq ?_
 refine En.region ?_
 refine WL.run ht hn 1 ⟨[sl 0 (I k), sl 1 (I a), sl 2 (.ptr 0 0), sl 3 (.ptr 1 0), sl 4 (.ptr 2 0)], [.box [LS intT cls] 23 true, .box (ApiDet.cl d) 73 true, .box [LS intT back] 23 true]⟩ (by kernel_rfl) ?_
 refine WL.nil ?_
 refine En.seq ?_
 refine En.regionS (by kernel_rfl) (by kernel_rfl) ?_
 refine SL.run ht hn 5 ⟨[sl 0 (I k), sl 1 (I a), sl 2 (.ptr 0 0), sl 3 (.ptr 1 0), sl 4 (.ptr 2 0), sl 8 (LS intT cls), sl 9 (.ptr 1 2), sl 10 (LS (lsT intT) d.fNext), sl 11 (LS intT back), sl 12 (I k)], [.box [LS intT cls] 23 true, .box (ApiDet.cl d) 73 true, .box [LS intT back] 23 true]⟩ (by kernel_rfl) ?_
 obtain ⟨e, he, h⟩ := h
 refine SL.val hn (by rfl) (val_index (T := intT) (l := back) (i := k) ht rfl (by rfl) (by rfl) (by rfl) (by rfl) (by rfl) (by rfl) he) (by rfl) ?_
 refine SL.val hn (by rfl) (val_load (s := .one (I e)) ht rfl (by rfl) (by rfl) (by rfl) (by rfl) (by rfl)) (by rfl) ?_
 obtain ⟨e_2, he_2, h⟩ := h
 refine SL.val hn (by rfl) (val_index (T := (lsT intT)) (l := d.fNext) (i := e) ht rfl (by rfl) (by rfl) (by rfl) (by rfl) (by rfl) (by rfl) he_2) (by rfl) ?_
 refine SL.val hn (by rfl) (val_load (s := .one (LS intT e_2)) ht rfl (by rfl) (by rfl) (by rfl) (by rfl) (by rfl)) (by rfl) ?_
 refine SL.run ht hn 1 ⟨[sl 0 (I k), sl 1 (I a), sl 2 (.ptr 0 0), sl 3 (.ptr 1 0), sl 4 (.ptr 2 0), sl 8 (LS intT cls), sl 9 (.ptr 1 2), sl 10 (LS (lsT intT) d.fNext), sl 11 (LS intT back), sl 12 (I k), sl 13 (.pe (svR (.one (I e))) 1), sl 14 (I e), sl 15 (.pe (svR (.one (LS intT e_2))) 1), sl 16 (LS intT e_2), sl 17 (I a)], [.box [LS intT cls] 23 true, .box (ApiDet.cl d) 73 true, .box [LS intT back] 23 true]⟩ (by kernel_rfl) ?_
 obtain ⟨e_3, he_3, h⟩ := h
 refine SL.val hn (by rfl) (val_index (T := intT) (l := e_2) (i := a) ht rfl (by rfl) (by rfl) (by rfl) (by rfl) (by rfl) (by rfl) he_3) (by rfl) ?_
 refine SL.val hn (by rfl) (val_load (s := .one (I e_3)) ht rfl (by rfl) (by rfl) (by rfl) (by rfl) (by rfl)) (by rfl) ?_
 obtain ⟨e_4, he_4, h⟩ := h
 refine SL.val hn (by rfl) (val_index (T := intT) (l := cls) (i := e_3) ht rfl (by rfl) (by rfl) (by rfl) (by rfl) (by rfl) (by rfl) he_4) (by rfl) ?_
 refine SL.val hn (by rfl) (val_load (s := .one (I e_4)) ht rfl (by rfl) (by rfl) (by rfl) (by rfl) (by rfl)) (by rfl) ?_
 refine SL.run ht hn 1 ⟨[sl 0 (I k), sl 1 (I a), sl 2 (.ptr 0 0), sl 3 (.ptr 1 0), sl 4 (.ptr 2 0), sl 7 (I e_4), sl 8 (LS intT cls), sl 9 (.ptr 1 2), sl 10 (LS (lsT intT) d.fNext), sl 11 (LS intT back), sl 12 (I k), sl 13 (.pe (svR (.one (I e))) 1), sl 14 (I e), sl 15 (.pe (svR (.one (LS intT e_2))) 1), sl 16 (LS intT e_2), sl 17 (I a), sl 18 (.pe (svR (.one (I e_3))) 1), sl 19 (I e_3), sl 20 (.pe (svR (.one (I e_4))) 1), sl 21 (I e_4)], [.box [LS intT cls] 23 true, .box (ApiDet.cl d) 73 true, .box [LS intT back] 23 true]⟩ (by kernel_rfl) ?_
 refine SL.nil ⟨by kernel_rfl, ?_⟩
 refine En.ret ?_
 exact En.back ht e_4 h (by kernel_rfl) rfl
theorem en160 : ∀ args w, (callFunc 160 args).run Try.prog w = .ok (.enter 160 args) w := enters_of Try.func160 (by kernel_rfl) rfl
def smMark_vc (k : Int) (d : ApiDet) (back : (List Int)) (Q : Int → Prop) : Prop :=
 ∃ e, idx back k = some e ∧
 ∃ e_2, idx d.fMark e = some e_2 ∧
 Q e_2
theorem smMark_walk (k : Int) (d : ApiDet) (back : (List Int)) (Q : Int → Prop) (h : smMark_vc k d back Q) : Ct 161 [.sv (.one (I k)), .sv (.one (.ptr 0 0)), .sv (.one (.ptr 1 0))] [.box [I d.fLetters, I d.fStart, LS (lsT intT) d.fNext, LS intT d.fMark] 73 true, .box [LS intT back] 23 true] Q (fun (r : Int) => .sv (.one (I r))) := by
 have ht := tab_ok
 refine Ct.body Try.func161 rfl rfl rfl rfl (fun c hn => ?_)
 unfold smMark_vc at h
 refine En.seq ?_
 refine En.region ?_
 refine WL.run ht hn 1 ⟨[sl 0 (I k), sl 1 (.ptr 0 0), sl 2 (.ptr 1 0)], [.box (ApiDet.cl d) 73 true, .box [LS intT back] 23 true]⟩ (by kernel_rfl) ?_
 refine WL.nil ?_
 refine En.seq ?_
 refine En.regionS (by kernel_rfl) (by kernel_rfl) ?_
 refine SL.run ht hn 4 ⟨[sl 0 (I k), sl 1 (.ptr 0 0), sl 2 (.ptr 1 0), sl 5 (.ptr 0 3), sl 6 (LS intT d.fMark), sl 7 (LS intT back), sl 8 (I k)], [.box (ApiDet.cl d) 73 true, .box [LS intT back] 23 true]⟩ (by kernel_rfl) ?_
 obtain ⟨e, he, h⟩ := h
 refine SL.val hn (by rfl) (val_index (T := intT) (l := back) (i := k) ht rfl (by rfl) (by rfl) (by rfl) (by rfl) (by rfl) (by rfl) he) (by rfl) ?_
 refine SL.val hn (by rfl) (val_load (s := .one (I e)) ht rfl (by rfl) (by rfl) (by rfl) (by rfl) (by rfl)) (by rfl) ?_
 obtain ⟨e_2, he_2, h⟩ := h
 refine SL.val hn (by rfl) (val_index (T := intT) (l := d.fMark) (i := e) ht rfl (by rfl) (by rfl) (by rfl) (by rfl) (by rfl) (by rfl) he_2) (by rfl) ?_
 refine SL.val hn (by rfl) (val_load (s := .one (I e_2)) ht rfl (by rfl) (by rfl) (by rfl) (by rfl) (by rfl)) (by rfl) ?_
 refine SL.run ht hn 1 ⟨[sl 0 (I k), sl 1 (.ptr 0 0), sl 2 (.ptr 1 0), sl 4 (I e_2), sl 5 (.ptr 0 3), sl 6 (LS intT d.fMark), sl 7 (LS intT back), sl 8 (I k), sl 9 (.pe (svR (.one (I e))) 1), sl 10 (I e), sl 11 (.pe (svR (.one (I e_2))) 1), sl 12 (I e_2)], [.box (ApiDet.cl d) 73 true, .box [LS intT back] 23 true]⟩ (by kernel_rfl) ?_
 refine SL.nil ⟨by kernel_rfl, ?_⟩
 refine En.ret ?_
 exact En.back ht e_2 h (by kernel_rfl) rfl
theorem en161 : ∀ args w, (callFunc 161 args).run Try.prog w = .ok (.enter 161 args) w := enters_of Try.func161 (by kernel_rfl) rfl
def smGo (cls : List Int) (d : ApiDet) (back : List Int) (c a : Int) : Int := cls.getD ((d.fNext.getD (back.getD c.toNat 0).toNat []).getD a.toNat 0).toNat 0
def smDom (cls : List Int) (d : ApiDet) (back : List Int) (c a : Int) : Prop := (0 ≤ c ∧ c < (back.length : Int)) ∧ (0 ≤ back.getD c.toNat 0 ∧ back.getD c.toNat 0 < (d.fNext.length : Int)) ∧ (0 ≤ a ∧ a < ((d.fNext.getD (back.getD c.toNat 0).toNat []).length : Int)) ∧ 0 ≤ (d.fNext.getD (back.getD c.toNat 0).toNat []).getD a.toNat 0 ∧ (d.fNext.getD (back.getD c.toNat 0).toNat []).getD a.toNat 0 < (cls.length : Int)
def smMark (d : ApiDet) (back : List Int) (c : Int) : Int := d.fMark.getD (back.getD c.toNat 0).toNat 0
def smMarkDom (d : ApiDet) (back : List Int) (c : Int) : Prop := (0 ≤ c ∧ c < (back.length : Int)) ∧ 0 ≤ back.getD c.toNat 0 ∧ back.getD c.toNat 0 < (d.fMark.length : Int)
theorem idx_getD {α : Type} {l : List α} {i : Int} (z : α) (h0 : 0 ≤ i) (h1 : i < (l.length : Int)) : idx l i = some (l.getD i.toNat z) := by
 unfold idx
 rw [if_pos h0]
 exact getD_some (by omega)
theorem smGo_ct (k : Int) (a : Int) (cls : (List Int)) (d : ApiDet) (back : (List Int)) (hd : smDom cls d back k a) : Ct 160 [.sv (.one (I k)), .sv (.one (I a)), .sv (.one (.ptr 0 0)), .sv (.one (.ptr 1 0)), .sv (.one (.ptr 2 0))] [.box [LS intT cls] 23 true, .box [I d.fLetters, I d.fStart, LS (lsT intT) d.fNext, LS intT d.fMark] 73 true, .box [LS intT back] 23 true] (fun (_ : Unit) => True) (fun _ => .sv (.one (I (smGo cls d back k a)))) := by
 refine (smGo_walk k a cls d back (fun res_ => res_ = (smGo cls d back k a)) ?_).fun
 obtain ⟨⟨h1, h2⟩, ⟨h3, h4⟩, ⟨h5, h6⟩, h7, h8⟩ := hd
 exact ⟨_, idx_getD 0 h1 h2, _, idx_getD [] h3 h4, _, idx_getD 0 h5 h6, _, idx_getD 0 h7 h8, rfl⟩
theorem smMark_ct (k : Int) (d : ApiDet) (back : (List Int)) (hd : smMarkDom d back k) : Ct 161 [.sv (.one (I k)), .sv (.one (.ptr 0 0)), .sv (.one (.ptr 1 0))] [.box [I d.fLetters, I d.fStart, LS (lsT intT) d.fNext, LS intT d.fMark] 73 true, .box [LS intT back] 23 true] (fun (_ : Unit) => True) (fun _ => .sv (.one (I (smMark d back k)))) := by
 refine (smMark_walk k d back (fun res_ => res_ = (smMark d back k)) ?_).fun
 obtain ⟨⟨h1, h2⟩, h3, h4⟩ := hd
 exact ⟨_, idx_getD 0 h1 h2, _, idx_getD 0 h3 h4, rfl⟩
def smallest_vc (d : ApiDet) (Q : ApiDet → Prop) : Prop :=
 d.fNext.length ≤ 9223372036854775807 →
 d.fMark.length ≤ 9223372036854775807 →
 ((ClsOk d) ∧
 ∀ r : (List Int), (IsClass d) r →
 (makeOk (r.length : Int) (r.length : Int) 8 ∧
 ∃ (Inv : Int → (List Int) → Prop) (mu : Int → (List Int) → Nat), Inv 0 (List.replicate ((r.length : Int)).toNat (0 : Int)) ∧
 ∀ (x16 : Int) (l3 : (List Int)) , Inv x16 l3 → (IfP (decide (x16 < (r.length : Int))) (∃ e, idx r x16 = some e ∧
 ∃ e_2, idx l3 e = some e_2 ∧
 (Inv (wr (x16 + 1)) (l3.set (e).toNat x16) ∧ mu (wr (x16 + 1)) (l3.set (e).toNat x16) < mu x16 l3)) (∃ e_3, idx r d.fStart = some e_3 ∧
 (ExplPre d.fLetters e_3 (fun (x : Int × Int) => smDom r d l3 x.1 x.2) (fun (x : Int × Int) => smGo r d l3 x.1 x.2) (smMarkDom d l3) (wr ((r.length : Int) + 1))) ∧
 Q (explR (fun k (a : Nat) => (fun (x : Int × Int) => smGo r d l3 x.1 x.2) (k, (a : Int))) (smMark d l3) (d.fLetters).toNat e_3 (wr ((r.length : Int) + 1))).1))))
theorem smallest_walk (d : ApiDet) (Q : ApiDet → Prop) (h : smallest_vc d Q) : Ct 77 [.sv (.agg [I d.fLetters, I d.fStart, LS (lsT intT) d.fNext, LS intT d.fMark])] [] Q (fun (r : ApiDet) => .sv (.agg [I r.fLetters, I r.fStart, LS (lsT intT) r.fNext, LS intT r.fMark])) := by
 have ht := tab_ok
 refine Ct.body Try.func77 rfl rfl rfl rfl (fun c hn => ?_)
 unfold smallest_vc at h
 refine En.lenA 0 2 (by rfl) (by rfl) (fun hl => ?_)
 replace h := h hl
 clear hl
 refine En.lenA 0 3 (by rfl) (by rfl) (fun hl => ?_)
 replace h := h hl
 clear hl
 refine En.seq ?_
 refine En.region ?_
 refine WL.run ht hn 2 ⟨[sl 1 (.ptr 0 0), sl 2 (.ptr 1 0)], [.box (ApiDet.cl d) 73 false, .box [I 0, I 0, .v (.slice none 0 0), .v (.slice none 0 0)] 73 false]⟩ (by kernel_rfl) ?_
 refine WL.nil ?_
 refine En.seq ?_
 refine En.region ?_
 refine WL.run ht hn 1 ⟨[sl 1 (.ptr 0 0), sl 2 (.ptr 1 0), (9, .sv (.agg (ApiDet.cl d)))], [.box (ApiDet.cl d) 73 false, .box [I 0, I 0, .v (.slice none 0 0), .v (.slice none 0 0)] 73 false]⟩ (by kernel_rfl) ?_
 have hp := h.1
 replace h := h.2
 refine WL.mtQ (Q := IsClass d) (x := fun (r : (List Int)) => .sv (.one (LS intT r))) (p := fun _ => none) hn (by rfl) (mtq_call (classes_ct d hp) en159 (caps := []) [] rfl (by rfl) (by kernel_rfl) (by kernel_rfl) (by rfl) (fun _ => rfl) (by rfl)) (fun r hr_2 => ⟨by rfl, _, by rfl, ?_⟩)
 replace h := h r hr_2
 refine WL.run ht hn 2 ⟨[sl 1 (.ptr 0 0), sl 2 (.ptr 1 0), sl 3 (.ptr 2 0)], [.box (ApiDet.cl d) 73 false, .box [I 0, I 0, .v (.slice none 0 0), .v (.slice none 0 0)] 73 false, .box [LS intT r] 23 false]⟩ (by kernel_rfl) ?_
 refine WL.nil ?_
 refine En.seq ?_
 refine En.region ?_
 refine WL.run ht hn 2 ⟨[sl 1 (.ptr 0 0), sl 2 (.ptr 1 0), sl 3 (.ptr 2 0), sl 12 (I (r.length : Int))], [.box (ApiDet.cl d) 73 false, .box [I 0, I 0, .v (.slice none 0 0), .v (.slice none 0 0)] 73 false, .box [LS intT r] 23 false]⟩ (by kernel_rfl) ?_
 have hp := h.1
 replace h := h.2
 refine WL.mt0 (K := []) (p := some (3, rowI 3 intT (List.replicate ((r.length : Int)).toNat (0 : Int)))) hn (by rfl) (mt_make (T := intT) (0 : Int) (zv := (.int .i64 0)) 3 (l := (r.length : Int)) (cp := (r.length : Int)) ht rfl (by rfl) (by rfl) (by rfl) (by rfl) (by decide) (by rfl) (by rfl) hp.1 hp.2.1 hp.2.2 (hp.le (by decide)) rfl (fun _ => ⟨rfl, trivial⟩)) (by rfl) (by rfl) (by rfl) ?_
 refine WL.run ht hn 2 ⟨[sl 1 (.ptr 0 0), sl 2 (.ptr 1 0), sl 3 (.ptr 2 0), sl 4 (.ptr 4 0)], [.box (ApiDet.cl d) 73 false, .box [I 0, I 0, .v (.slice none 0 0), .v (.slice none 0 0)] 73 false, .box [LS intT r] 23 false, rowI 3 intT (List.replicate ((r.length : Int)).toNat (0 : Int)), .box [.own 3] 23 false]⟩ (by kernel_rfl) ?_
 refine WL.nil ?_
 refine En.seq ?_
 refine En.seq ?_
 refine En.region ?_
 refine WL.run ht hn 3 ⟨[sl 1 (.ptr 0 0), sl 2 (.ptr 1 0), sl 3 (.ptr 2 0), sl 4 (.ptr 4 0), sl 14 (LS intT r), sl 15 (I (r.length : Int)), sl 16 (I 0)], [.box (ApiDet.cl d) 73 false, .box [I 0, I 0, .v (.slice none 0 0), .v (.slice none 0 0)] 73 false, .box [LS intT r] 23 false, rowI 3 intT (List.replicate ((r.length : Int)).toNat (0 : Int)), .box [.own 3] 23 false]⟩ (by kernel_rfl) ?_
 refine WL.nil ?_
 refine En.block ?_
 obtain ⟨Inv, mu, h0, hI⟩ := h
 refine En.loop (σ := Int × (List Int)) (fun zz => Inv zz.1 zz.2) (fun zz => mu zz.1 zz.2) (fun zz => ⟨[sl 1 (.ptr 0 0), sl 2 (.ptr 1 0), sl 3 (.ptr 2 0), sl 4 (.ptr 4 0), sl 14 (LS intT r), sl 15 (I (r.length : Int)), sl 16 (I zz.1)], [.box (ApiDet.cl d) 73 false, .box [I 0, I 0, .v (.slice none 0 0), .v (.slice none 0 0)] 73 false, .box [LS intT r] 23 false, rowI 3 intT zz.2, .box [.own 3] 23 false]⟩) (0, (List.replicate ((r.length : Int)).toNat (0 : Int))) h0 (sub_ok (by kernel_rfl)) ?_
 rintro ⟨x16, l3⟩ h
 replace h := hI _ _ h
 show En c ⟨[sl 1 (.ptr 0 0), sl 2 (.ptr 1 0), sl 3 (.ptr 2 0), sl 4 (.ptr 4 0), sl 14 (LS intT r), sl 15 (I (r.length : Int)), sl 16 (I x16)], [.box (ApiDet.cl d) 73 false, .box [I 0, I 0, .v (.slice none 0 0), .v (.slice none 0 0)] 73 false, .box [LS intT r] 23 false, rowI 3 intT l3, .box [.own 3] 23 false]⟩ _
 refine En.seq ?_
 refine En.region ?_
 refine WL.run ht hn 1 ⟨[sl 1 (.ptr 0 0), sl 2 (.ptr 1 0), sl 3 (.ptr 2 0), sl 4 (.ptr 4 0), sl 14 (LS intT r), sl 15 (I (r.length : Int)), sl 16 (I x16), sl 17 (B (decide (x16 < (r.length : Int))))], [.box (ApiDet.cl d) 73 false, .box [I 0, I 0, .v (.slice none 0 0), .v (.slice none 0 0)] 73 false, .box [LS intT r] 23 false, rowI 3 intT l3, .box [.own 3] 23 false]⟩ (by kernel_rfl) ?_
 refine WL.nil ?_
 refine En.seq ?_
 refine En.cond (b := (decide (x16 < (r.length : Int)))) (by kernel_rfl) (fun hb => ?_) (fun hb => ?_)
 replace h := h.1 hb
 refine En.skip ?_
 refine En.seq ?_
 refine En.block ?_
 refine En.seq ?_
 refine En.region ?_
 refine WL.run ht hn 1 ⟨[sl 1 (.ptr 0 0), sl 2 (.ptr 1 0), sl 3 (.ptr 2 0), sl 4 (.ptr 4 0), sl 14 (LS intT r), sl 15 (I (r.length : Int)), sl 16 (I x16), sl 18 (I x16)], [.box (ApiDet.cl d) 73 false, .box [I 0, I 0, .v (.slice none 0 0), .v (.slice none 0 0)] 73 false, .box [LS intT r] 23 false, rowI 3 intT l3, .box [.own 3] 23 false]⟩ (by kernel_rfl) ?_
 obtain ⟨e, he, h⟩ := h
 refine WL.val hn (by rfl) (val_index (T := intT) (l := r) (i := x16) ht rfl (by rfl) (by rfl) (by rfl) (by rfl) (by rfl) (by rfl) he) (by rfl) ?_
 refine WL.val hn (by rfl) (val_load (s := .one (I e)) ht rfl (by rfl) (by rfl) (by rfl) (by rfl) (by rfl)) (by rfl) ?_
 refine WL.run ht hn 2 ⟨[sl 1 (.ptr 0 0), sl 2 (.ptr 1 0), sl 3 (.ptr 2 0), sl 4 (.ptr 4 0), sl 5 (I x16), sl 6 (I e), sl 14 (LS intT r), sl 15 (I (r.length : Int)), sl 16 (I x16)], [.box (ApiDet.cl d) 73 false, .box [I 0, I 0, .v (.slice none 0 0), .v (.slice none 0 0)] 73 false, .box [LS intT r] 23 false, rowI 3 intT l3, .box [.own 3] 23 false]⟩ (by kernel_rfl) ?_
 refine WL.nil ?_
 refine En.region ?_
 refine WL.run ht hn 3 ⟨[sl 1 (.ptr 0 0), sl 2 (.ptr 1 0), sl 3 (.ptr 2 0), sl 4 (.ptr 4 0), sl 14 (LS intT r), sl 15 (I (r.length : Int)), sl 16 (I x16), sl 21 (.own 3), sl 22 (I e), sl 23 (I x16)], [.box (ApiDet.cl d) 73 false, .box [I 0, I 0, .v (.slice none 0 0), .v (.slice none 0 0)] 73 false, .box [LS intT r] 23 false, rowI 3 intT l3, .box [.own 3] 23 false]⟩ (by kernel_rfl) ?_
 obtain ⟨e_2, he_2, h⟩ := h
 refine WL.val hn (by rfl) (val_indexO (T := intT) (l := l3) (k := e) ht rfl (by rfl) (by rfl) (by rfl) (by rfl) (by decide) (by rfl) (by rfl) (by rfl) he_2) (by rfl) ?_
 refine WL.storeO (T := intT) (l := l3) (y := x16) ht hn (by rfl) rfl (by rfl) (by rfl) (fun _ h => by cases h) (by rfl) (by rfl) (idx_lt he_2) (by rfl) (by rfl) (by rfl) (by rfl) ?_
 refine WL.nil ?_
 refine En.region ?_
 refine WL.run ht hn 2 ⟨[sl 1 (.ptr 0 0), sl 2 (.ptr 1 0), sl 3 (.ptr 2 0), sl 4 (.ptr 4 0), sl 14 (LS intT r), sl 15 (I (r.length : Int)), sl 16 (I (wr (x16 + 1)))], [.box (ApiDet.cl d) 73 false, .box [I 0, I 0, .v (.slice none 0 0), .v (.slice none 0 0)] 73 false, .box [LS intT r] 23 false, rowI 3 intT (l3.set (e).toNat x16), .box [.own 3] 23 false]⟩ (by kernel_rfl) ?_
 refine WL.nil ?_
 exact En.at (I := fun zz => Inv zz.1 zz.2 ∧ mu zz.1 zz.2 < mu x16 l3) (T := fun zz => ⟨[sl 1 (.ptr 0 0), sl 2 (.ptr 1 0), sl 3 (.ptr 2 0), sl 4 (.ptr 4 0), sl 14 (LS intT r), sl 15 (I (r.length : Int)), sl 16 (I zz.1)], [.box (ApiDet.cl d) 73 false, .box [I 0, I 0, .v (.slice none 0 0), .v (.slice none 0 0)] 73 false, .box [LS intT r] 23 false, rowI 3 intT zz.2, .box [.own 3] 23 false]⟩) ((wr (x16 + 1)), (l3.set (e).toNat x16)) h (by kernel_rfl)
 replace h := h.2 hb
 refine En.exit rfl ?_
 refine En.seq ?_
 refine En.seal (T := intT) (l := l3) (e := 3) 3 rfl ?_
 refine En.freeze [2, 0, 4] (by rfl) ?_
 obtain ⟨e_3, he_3, h⟩ := h
 have hp_2 := h.1
 replace h := h.2
 refine En.regionA ⟨[sl 1 (.ptr 0 0), sl 2 (.ptr 1 0), sl 3 (.ptr 2 0), sl 4 (.ptr 4 0)], [.sv (.one (.ptr 0 0)), .sv (.one (I d.fLetters)), .sv (.one (LS intT r)), .sv (.one (.ptr 0 1)), .sv (.one (I d.fStart)), .sv (.one (.pe (svR (.one (I e_3))) 1)), .sv (.one (I e_3)), .sv (.one (.rd (fvR (fun (x_ : (Int × Int)) => [.sv (.one (I x_.1)), .sv (.one (I x_.2))]) (fun (r : Int) => .sv (.one (I r))) (fun (x : Int × Int) => smDom r d l3 x.1 x.2) (fun (x : Int × Int) => smGo r d l3 x.1 x.2)))), .sv (.one (.rd (fvR (fun (x_ : Int) => [.sv (.one (I x_))]) (fun (r : Int) => .sv (.one (I r))) (smMarkDom d l3) (smMark d l3)))), .sv (.one (LS intT r)), .sv (.one (I (r.length : Int))), .sv (.one (I (wr ((r.length : Int) + 1)))), .tup [.agg (ApiDet.cl (explR (fun k (a : Nat) => (fun (x : Int × Int) => smGo r d l3 x.1 x.2) (k, (a : Int))) (smMark d l3) (d.fLetters).toNat e_3 (wr ((r.length : Int) + 1))).1), .one (B (explR (fun k (a : Nat) => (fun (x : Int × Int) => smGo r d l3 x.1 x.2) (k, (a : Int))) (smMark d l3) (d.fLetters).toNat e_3 (wr ((r.length : Int) + 1))).2)], .tup [.agg (ApiDet.cl (explR (fun k (a : Nat) => (fun (x : Int × Int) => smGo r d l3 x.1 x.2) (k, (a : Int))) (smMark d l3) (d.fLetters).toNat e_3 (wr ((r.length : Int) + 1))).1), .one (B (explR (fun k (a : Nat) => (fun (x : Int × Int) => smGo r d l3 x.1 x.2) (k, (a : Int))) (smMark d l3) (d.fLetters).toNat e_3 (wr ((r.length : Int) + 1))).2)], .sv (.agg (ApiDet.cl (explR (fun k (a : Nat) => (fun (x : Int × Int) => smGo r d l3 x.1 x.2) (k, (a : Int))) (smMark d l3) (d.fLetters).toNat e_3 (wr ((r.length : Int) + 1))).1)), .sv (.one (B (explR (fun k (a : Nat) => (fun (x : Int × Int) => smGo r d l3 x.1 x.2) (k, (a : Int))) (smMark d l3) (d.fLetters).toNat e_3 (wr ((r.length : Int) + 1))).2)), .sv (.one (.ptr 5 0)), .tup [], .sv (.one (B (explR (fun k (a : Nat) => (fun (x : Int × Int) => smGo r d l3 x.1 x.2) (k, (a : Int))) (smMark d l3) (d.fLetters).toNat e_3 (wr ((r.length : Int) + 1))).2))], [⟨.box (ApiDet.cl d) 73 true, none, none, none⟩, ⟨.box [I 0, I 0, .v (.slice none 0 0), .v (.slice none 0 0)] 73 false, none, none, none⟩, ⟨.box [LS intT r] 23 true, none, none, none⟩, ⟨.gone, none, none, none⟩, ⟨.box [LS intT l3] 23 true, none, none, none⟩, ⟨.box [I 0, I 0, .v (.slice none 0 0), .v (.slice none 0 0)] 73 false, some 16, none, some (17, .box (ApiDet.cl (explR (fun k (a : Nat) => (fun (x : Int × Int) => smGo r d l3 x.1 x.2) (k, (a : Int))) (smMark d l3) (d.fLetters).toNat e_3 (wr ((r.length : Int) + 1))).1) 73 false)⟩]⟩ ⟨[sl 2 (.ptr 1 0), sl 7 (.ptr 5 0)], [.gone, .box [I 0, I 0, .v (.slice none 0 0), .v (.slice none 0 0)] 73 false, .gone, .gone, .gone, .box (ApiDet.cl (explR (fun k (a : Nat) => (fun (x : Int × Int) => smGo r d l3 x.1 x.2) (k, (a : Int))) (smMark d l3) (d.fLetters).toNat e_3 (wr ((r.length : Int) + 1))).1) 73 false]⟩ (by kernel_rfl) hn (by kernel_rfl) (by rfl) (by kernel_rfl) ?_ (by kernel_rfl) ?_
 exact ⟨.mt ⟨[sl 1 (.ptr 0 0)], []⟩ [] none (by kernel_rfl) (by rfl) (mt_ev ht (by kernel_rfl)) rfl rfl rfl rfl,
 .mt ⟨[sl 27 (.ptr 0 0)], [.box (ApiDet.cl d) 73 true]⟩ [] none (by kernel_rfl) (by rfl) (mt_ev ht (by kernel_rfl)) rfl rfl rfl rfl,
 .mt ⟨[sl 3 (.ptr 2 0)], [.gone, .gone, .box [LS intT r] 23 true]⟩ [] none (by kernel_rfl) (by rfl) (mt_ev ht (by kernel_rfl)) rfl rfl rfl rfl,
 .mt ⟨[sl 1 (.ptr 0 0)], []⟩ [] none (by kernel_rfl) (by rfl) (mt_ev ht (by kernel_rfl)) rfl rfl rfl rfl,
 .mt ⟨[sl 30 (.ptr 0 1)], [.box (ApiDet.cl d) 73 true]⟩ [] none (by kernel_rfl) (by rfl) (mt_ev ht (by kernel_rfl)) rfl rfl rfl rfl,
 .mt ⟨[sl 29 (LS intT r), sl 31 (I d.fStart)], []⟩ [] none (by kernel_rfl) (by rfl) (mt_val (val_index (T := intT) (l := r) (i := d.fStart) ht rfl (by rfl) (by rfl) (by rfl) (by rfl) (by rfl) (by rfl) he_3)) rfl rfl rfl rfl,
 .mt ⟨[sl 32 (.pe (svR (.one (I e_3))) 1)], []⟩ [] none (by kernel_rfl) (by rfl) (mt_val (val_load (s := .one (I e_3)) ht rfl (by rfl) (by rfl) (by rfl) (by rfl) (by rfl))) rfl rfl rfl rfl,
 .mt ⟨[sl 1 (.ptr 0 0), sl 3 (.ptr 2 0), sl 4 (.ptr 4 0)], [.box (ApiDet.cl d) 73 true, .gone, .box [LS intT r] 23 true, .gone, .box [LS intT l3] 23 true]⟩ [] none (by kernel_rfl) (by rfl) (mt_fv (x := .sv (.one (.fn 160 [2, 0, 4]))) ht (by kernel_rfl) (fv_of (M := [.box [LS intT r] 23 true, .box (ApiDet.cl d) 73 true, .box [LS intT l3] 23 true]) (caps := [2, 0, 4]) (fun x_ hx => smGo_ct x_.1 x_.2 r d l3 hx) en160 rfl (by kernel_rfl) (by rfl) (fun _ => rfl))) rfl rfl rfl rfl,
 .mt ⟨[sl 1 (.ptr 0 0), sl 4 (.ptr 4 0)], [.box (ApiDet.cl d) 73 true, .gone, .gone, .gone, .box [LS intT l3] 23 true]⟩ [] none (by kernel_rfl) (by rfl) (mt_fv (x := .sv (.one (.fn 161 [0, 4]))) ht (by kernel_rfl) (fv_of (M := [.box (ApiDet.cl d) 73 true, .box [LS intT l3] 23 true]) (caps := [0, 4]) (fun x_ hx => smMark_ct x_ d l3 hx) en161 rfl (by kernel_rfl) (by rfl) (fun _ => rfl))) rfl rfl rfl rfl,
 .mt ⟨[sl 3 (.ptr 2 0)], [.gone, .gone, .box [LS intT r] 23 true]⟩ [] none (by kernel_rfl) (by rfl) (mt_ev ht (by kernel_rfl)) rfl rfl rfl rfl,
 .mt ⟨[sl 36 (LS intT r)], []⟩ [] none (by kernel_rfl) (by rfl) (mt_ev ht (by kernel_rfl)) rfl rfl rfl rfl,
 .mt ⟨[sl 37 (I (r.length : Int))], []⟩ [] none (by kernel_rfl) (by rfl) (mt_ev ht (by kernel_rfl)) rfl rfl rfl rfl,
 .mt ⟨[sl 28 (I d.fLetters), sl 33 (I e_3), sl 34 (.rd (fvR (fun (x_ : (Int × Int)) => [.sv (.one (I x_.1)), .sv (.one (I x_.2))]) (fun (r : Int) => .sv (.one (I r))) (fun (x : Int × Int) => smDom r d l3 x.1 x.2) (fun (x : Int × Int) => smGo r d l3 x.1 x.2))), sl 35 (.rd (fvR (fun (x_ : Int) => [.sv (.one (I x_))]) (fun (r : Int) => .sv (.one (I r))) (smMarkDom d l3) (smMark d l3))), sl 38 (I (wr ((r.length : Int) + 1)))], []⟩ [] none (by kernel_rfl) (by rfl) (mt_call (exploreInt_ct d.fLetters e_3 (fun (x : Int × Int) => smDom r d l3 x.1 x.2) (fun (x : Int × Int) => smGo r d l3 x.1 x.2) (smMarkDom d l3) (smMark d l3) (wr ((r.length : Int) + 1)) hp_2) en74 (caps := []) [] rfl (by rfl) (by kernel_rfl) (by kernel_rfl) (by rfl) (by rfl) (by rfl)) rfl rfl rfl rfl,
 .mt ⟨[(39, .tup [.agg (ApiDet.cl (explR (fun k (a : Nat) => (fun (x : Int × Int) => smGo r d l3 x.1 x.2) (k, (a : Int))) (smMark d l3) (d.fLetters).toNat e_3 (wr ((r.length : Int) + 1))).1), .one (B (explR (fun k (a : Nat) => (fun (x : Int × Int) => smGo r d l3 x.1 x.2) (k, (a : Int))) (smMark d l3) (d.fLetters).toNat e_3 (wr ((r.length : Int) + 1))).2)])], []⟩ [] none (by kernel_rfl) (by rfl) (mt_ev ht (by kernel_rfl)) rfl rfl rfl rfl,
 .mt ⟨[(26, .tup [.agg (ApiDet.cl (explR (fun k (a : Nat) => (fun (x : Int × Int) => smGo r d l3 x.1 x.2) (k, (a : Int))) (smMark d l3) (d.fLetters).toNat e_3 (wr ((r.length : Int) + 1))).1), .one (B (explR (fun k (a : Nat) => (fun (x : Int × Int) => smGo r d l3 x.1 x.2) (k, (a : Int))) (smMark d l3) (d.fLetters).toNat e_3 (wr ((r.length : Int) + 1))).2)])], []⟩ [] none (by kernel_rfl) (by rfl) (mt_ev ht (by kernel_rfl)) rfl rfl rfl rfl,
 .mt ⟨[(26, .tup [.agg (ApiDet.cl (explR (fun k (a : Nat) => (fun (x : Int × Int) => smGo r d l3 x.1 x.2) (k, (a : Int))) (smMark d l3) (d.fLetters).toNat e_3 (wr ((r.length : Int) + 1))).1), .one (B (explR (fun k (a : Nat) => (fun (x : Int × Int) => smGo r d l3 x.1 x.2) (k, (a : Int))) (smMark d l3) (d.fLetters).toNat e_3 (wr ((r.length : Int) + 1))).2)])], []⟩ [] none (by kernel_rfl) (by rfl) (mt_ev ht (by kernel_rfl)) rfl rfl rfl rfl,
 .mt ⟨[], []⟩ [] (some 5) (by kernel_rfl) (by rfl) (mt_alloc2 5 73 ht rfl (by rfl) (by rfl)) rfl rfl rfl rfl,
 .mu ⟨[sl 7 (.ptr 5 0), (40, .sv (.agg (ApiDet.cl (explR (fun k (a : Nat) => (fun (x : Int × Int) => smGo r d l3 x.1 x.2) (k, (a : Int))) (smMark d l3) (d.fLetters).toNat e_3 (wr ((r.length : Int) + 1))).1)))], [.gone, .gone, .gone, .gone, .gone, .box [I 0, I 0, .v (.slice none 0 0), .v (.slice none 0 0)] 73 false]⟩ 5 _ _ rfl rfl (by kernel_rfl) (by rfl) (mu_store2 ht rfl (by rfl) (by rfl) (by rfl) (by rfl) (fun h => by cases h) (by rfl) (by rfl)) rfl rfl rfl rfl rfl rfl rfl,
 .mt ⟨[sl 41 (B (explR (fun k (a : Nat) => (fun (x : Int × Int) => smGo r d l3 x.1 x.2) (k, (a : Int))) (smMark d l3) (d.fLetters).toNat e_3 (wr ((r.length : Int) + 1))).2)], []⟩ [] none (by kernel_rfl) (by rfl) (mt_ev ht (by kernel_rfl)) rfl rfl rfl rfl,
 trivial⟩
 refine En.seq ?_
 refine En.region ?_
 refine WL.run ht hn 2 ⟨[sl 2 (.ptr 1 0)], [.gone, .box (ApiDet.cl (explR (fun k (a : Nat) => (fun (x : Int × Int) => smGo r d l3 x.1 x.2) (k, (a : Int))) (smMark d l3) (d.fLetters).toNat e_3 (wr ((r.length : Int) + 1))).1) 73 false, .gone, .gone, .gone, .gone]⟩ (by kernel_rfl) ?_
 refine WL.nil ?_
 refine En.ret ?_
 exact En.back ht (explR (fun k (a : Nat) => (fun (x : Int × Int) => smGo r d l3 x.1 x.2) (k, (a : Int))) (smMark d l3) (d.fLetters).toNat e_3 (wr ((r.length : Int) + 1))).1 h (by kernel_rfl) rfl
theorem en77 : ∀ args w, (callFunc 77 args).run Try.prog w = .ok (.enter 77 args) w := enters_of Try.func77 (by kernel_rfl) rfl
end Go.Proofs.Ytapnmjeadbhffaa

