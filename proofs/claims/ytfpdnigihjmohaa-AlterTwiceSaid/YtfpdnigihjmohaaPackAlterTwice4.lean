/- Lemmas towards the statement: mirrors of functions, and plain laws. No condition. -/
import Derived.Test.YtfpdnigihjmohaaPackAlterTwice3

/- The mirrors of det.Explore and det.Classes. No condition. -/
namespace Go.Proofs.Ytfpdnigihjmohaa
open Go.RowKit Go.MapKept
set_option linter.unusedSimpArgs false
set_option linter.unusedVariables false
set_option maxRecDepth 100000

def cloneInt_vc (l : (List Int)) (Q : (List Int) → Prop) : Prop :=
  l.length ≤ 9223372036854775807 →
  (∀ isnil : Bool, (isnil = true → l = []) →
  (IfP (isnil != false) (Q []) (capOk ([] : (List Int)).length (l : (List Int)).length 8 ∧
  Q (([] : (List Int)) ++ l))))
theorem cloneInt_walk (l : (List Int)) (Q : (List Int) → Prop) (h : cloneInt_vc l Q) : CtJ 47 [.sv (.one (LS intT l))] [] Q (fun (r : (List Int)) => rowI 3 intT r) := by
  have ht := tab_ok
  refine CtJ.body Try.func47 rfl rfl rfl rfl (fun c hn hmay => ?_)
  unfold cloneInt_vc at h
  refine En.lenL 0 (by rfl) (fun hl => ?_)
  replace h := h hl
  clear hl
  refine En.seq ?_
  refine En.region ?_
  refine WL.run ht hn 1 ⟨[(0, .sv (.one (LS intT l)))], []⟩ (by kernel_rfl) ?_
  refine WL.nil ?_
  refine En.seq ?_
  refine En.seq ?_
  refine En.region ?_
  refine WL.run ht hn 1 ⟨[(0, .sv (.one (LS intT l))), (3, .sv (.one (LS intT l)))], []⟩ (by kernel_rfl) ?_
  refine WL.eqNil (T := intT) (l := l) .eql false (by simp) ht hn (by rfl) rfl (by rfl) (by rfl) (by rfl) rfl (by rfl) (fun isnil hisnil => ?_)
  replace h := h isnil hisnil
  clear hisnil
  refine WL.nil ?_
  refine En.cond (b := (isnil != false)) (by kernel_rfl) (fun hb => ?_) (fun hb => ?_)
  · replace h := h.1 hb
    refine En.seq ?_
    refine En.region ?_
    refine WL.run ht hn 1 ⟨[(2, .sv (.one (.v (.slice none 0 0))))], []⟩ (by kernel_rfl) ?_
    refine WL.nil ?_
    refine En.ret ?_
    exact En.backN (by rfl) h
  · replace h := h.2 hb
    refine En.skip ?_
    refine En.seq ?_
    refine En.region ?_
    refine WL.mt0 (K := []) (p := some (0, rowI 3 intT ([] : (List Int)))) hn (by rfl) (mt_empty intT 0 ht rfl (by rfl) (by rfl) (by rfl)) (by rfl) (by rfl) (by rfl) ?_
    refine WL.run ht hn 1 ⟨[(5, .sv (.one (.own 0))), (6, .sv (.one (LS intT l)))], [rowI 3 intT ([] : (List Int))]⟩ (by kernel_rfl) ?_
    have hp := h.1
    replace h := h.2
    refine WL.mt (S2 := ⟨[(6, .sv (.one (LS intT l)))], [rowI 3 intT ([] : (List Int))]⟩) (K := [0]) (p := some (0, rowI 3 intT (([] : (List Int)) ++ l))) hn (by rfl) (mt_append (T := intT) (l := ([] : (List Int))) (es := l) ht rfl (by rfl) (by rfl) (by rfl) (by rfl) (by decide) (by rfl) (by rfl) (srcLS (T := intT) (es := l) (fun _ h => by cases h) (by decide) (by rfl)) (by exact hp) (by exact hp.le (by decide))) (by kernel_rfl) (by rfl) (by rfl) (by rfl) ?_
    refine WL.run ht hn 1 ⟨[(2, .sv (.one (.own 0)))], [rowI 3 intT (([] : (List Int)) ++ l)]⟩ (by kernel_rfl) ?_
    refine WL.nil ?_
    refine En.ret ?_
    exact En.backJ (itf := fun l => rowI 3 intT l) hmay (by rfl) (by rfl) rfl rfl h
theorem en47 : ∀ args w, (callFunc 47 args).run Try.prog w = .ok (.enter 47 args) w := enters_of Try.func47 (by kernel_rfl) rfl
theorem cloneInt_ct (l : List Int) (hp : l.length * 8 ≤ 140737488355328) : CtI 47 [.sv (.one (LS intT l))] [] (rowI 3 intT l) := by
  refine (cloneInt_walk l (fun r => r = l) ?_).fun
  unfold cloneInt_vc
  refine fun _ isnil h => ⟨fun hb => (h (by simpa using hb)).symm, fun _ => ⟨?_, by simp⟩⟩
  unfold capOk
  simpa using hp
def exploreInt_vc (letters : Int) (start : Int) (domgo : ((Int × Int) → Prop)) (go : ((Int × Int) → Int)) (dommark : (Int → Prop)) (mark : (Int → Int)) (limit : Int) (Q : (ApiDet × Bool) → Prop) : Prop :=
  ∃ (Inv : (List (Int × Int)) → (List Int) → (List (List Int)) → (List Int) → Prop) (mu : (List (Int × Int)) → (List Int) → (List (List Int)) → (List Int) → Nat), Inv (mput start 0 ([] : List (Int × Int))) ([start] : (List Int)) ([] : (List (List Int))) ([] : (List Int)) ∧
  ∀ (m2 : (List (Int × Int))) (l3 : (List Int)) (l6 : (List (List Int))) (l7 : (List Int)) , Inv m2 l3 l6 l7 → (IfP (decide ((l6.length : Int) < (l3.length : Int))) (∃ e, idx l3 (l6.length : Int) = some e ∧
  makeOk letters letters 8 ∧
  ∃ (Inv_2 : Int → (List (Int × Int)) → (List Int) → (List Int) → Prop) (mu_2 : Int → (List (Int × Int)) → (List Int) → (List Int) → Nat), Inv_2 0 m2 l3 (List.replicate (letters).toNat (0 : Int)) ∧
  ∀ (x43 : Int) (m2_2 : (List (Int × Int))) (l3_2 : (List Int)) (l8 : (List Int)) , Inv_2 x43 m2_2 l3_2 l8 → (IfP (decide (x43 < letters)) ((domgo (e, x43)) ∧
  ∃ J : Int → (List (Int × Int)) → (List Int) → Prop, (IfP (!(mget (go (e, x43)) m2_2).isSome) (IfP ((l3_2.length : Int) == limit) (Q ((ApiDet.mk 0 0 [] []), false)) (capOk l3_2.length (([(go (e, x43))] : (List Int)) : (List Int)).length 8 ∧
  J (l3_2.length : Int) (mput (go (e, x43)) (l3_2.length : Int) m2_2) (l3_2 ++ ([(go (e, x43))] : (List Int))))) (J ((mget (go (e, x43)) m2_2).getD (0 : Int)) m2_2 l3_2)) ∧
  (∀ (x19 : Int) (m2_3 : (List (Int × Int))) (l3_3 : (List Int)), J x19 m2_3 l3_3 → ∃ e_2, idx l8 x43 = some e_2 ∧
  (Inv_2 (wr (x43 + 1)) m2_3 l3_3 (l8.set (x43).toNat x19) ∧ mu_2 (wr (x43 + 1)) m2_3 l3_3 (l8.set (x43).toNat x19) < mu_2 x43 m2_2 l3_2 l8))) (capOk l6.length (([l8] : (List (List Int))) : (List (List Int))).length 24 ∧
  (dommark e) ∧
  capOk l7.length (([(mark e)] : (List Int)) : (List Int)).length 8 ∧
  (Inv m2_2 l3_2 (l6 ++ ([l8] : (List (List Int)))) (l7 ++ ([(mark e)] : (List Int))) ∧ mu m2_2 l3_2 (l6 ++ ([l8] : (List (List Int)))) (l7 ++ ([(mark e)] : (List Int))) < mu m2 l3 l6 l7)))) (Q ((ApiDet.mk letters 0 l6 l7), true)))
theorem exploreInt_walk (letters : Int) (start : Int) (domgo : ((Int × Int) → Prop)) (go : ((Int × Int) → Int)) (dommark : (Int → Prop)) (mark : (Int → Int)) (limit : Int) (Q : (ApiDet × Bool) → Prop) (h : exploreInt_vc letters start domgo go dommark mark limit Q) : Ct 72 [.sv (.one (I letters)), .sv (.one (I start)), .sv (.one (.rd (fvR (fun (x : (Int × Int)) => [.sv (.one (I x.1)), .sv (.one (I x.2))]) (fun (r : Int) => .sv (.one (I r))) domgo go))), .sv (.one (.rd (fvR (fun (x : Int) => [.sv (.one (I x))]) (fun (r : Int) => .sv (.one (I r))) dommark mark))), .sv (.one (I limit))] [] Q (fun (r : (ApiDet × Bool)) => .tup [.agg [I r.1.fLetters, I r.1.fStart, LS (lsT intT) r.1.fNext, LS intT r.1.fMark], .one (B r.2)]) := by
  have ht := tab_ok
  refine Ct.body Try.func72 rfl rfl rfl rfl (fun c hn => ?_)
  unfold exploreInt_vc at h
  refine En.seq ?_
  refine En.region ?_
  refine WL.run ht hn 2 ⟨[(0, .sv (.one (I letters))), (1, .sv (.one (I start))), (2, .sv (.one (.rd (fvR (fun (x : (Int × Int)) => [.sv (.one (I x.1)), .sv (.one (I x.2))]) (fun (r : Int) => .sv (.one (I r))) domgo go)))), (3, .sv (.one (.rd (fvR (fun (x : Int) => [.sv (.one (I x))]) (fun (r : Int) => .sv (.one (I r))) dommark mark)))), (4, .sv (.one (I limit))), (10, .sv (.one (.ptr 0 0)))], [.box [I 0, I 0, .v (.slice none 0 0), .v (.slice none 0 0)] 80 false]⟩ (by kernel_rfl) ?_
  refine WL.nil ?_
  refine En.seq ?_
  refine En.region ?_
  refine WL.run ht hn 4 ⟨[(0, .sv (.one (I letters))), (1, .sv (.one (I start))), (2, .sv (.one (.rd (fvR (fun (x : (Int × Int)) => [.sv (.one (I x.1)), .sv (.one (I x.2))]) (fun (r : Int) => .sv (.one (I r))) domgo go)))), (3, .sv (.one (.rd (fvR (fun (x : Int) => [.sv (.one (I x))]) (fun (r : Int) => .sv (.one (I r))) dommark mark)))), (4, .sv (.one (I limit))), (10, .sv (.one (.ptr 0 0))), (12, .sv (.one (.ptr 1 0)))], [.box [I 0, I 0, .v (.slice none 0 0), .v (.slice none 0 0)] 80 false, .box [I letters, I 0, .v (.slice none 0 0), .v (.slice none 0 0)] 80 false]⟩ (by kernel_rfl) ?_
  refine WL.nil ?_
  refine En.seq ?_
  refine En.region ?_
  refine WL.mt0 (K := []) (p := some (2, mapI encI3 intT ([] : List (Int × Int)))) hn (by rfl) (mt_makeMap encI3 intT 2 rfl) (by rfl) (by rfl) (by rfl) ?_
  refine WL.run ht hn 1 ⟨[(0, .sv (.one (I letters))), (1, .sv (.one (I start))), (2, .sv (.one (.rd (fvR (fun (x : (Int × Int)) => [.sv (.one (I x.1)), .sv (.one (I x.2))]) (fun (r : Int) => .sv (.one (I r))) domgo go)))), (3, .sv (.one (.rd (fvR (fun (x : Int) => [.sv (.one (I x))]) (fun (r : Int) => .sv (.one (I r))) dommark mark)))), (4, .sv (.one (I limit))), (10, .sv (.one (.ptr 0 0))), (12, .sv (.one (.ptr 1 0))), (23, .sv (.one (.own 2))), (24, .sv (.one (I start)))], [.box [I 0, I 0, .v (.slice none 0 0), .v (.slice none 0 0)] 80 false, .box [I letters, I 0, .v (.slice none 0 0), .v (.slice none 0 0)] 80 false, mapI encI3 intT ([] : List (Int × Int))]⟩ (by kernel_rfl) ?_
  refine WL.mapPut (T := intT) keyI3 (k := start) (y := 0) hn (by rfl) (.inr rfl) Try.underlying229 (by rfl) (by rfl) (by rfl) (by rfl) (by rfl) (by rfl) ?_
  refine WL.run ht hn 2 ⟨[(0, .sv (.one (I letters))), (1, .sv (.one (I start))), (2, .sv (.one (.rd (fvR (fun (x : (Int × Int)) => [.sv (.one (I x.1)), .sv (.one (I x.2))]) (fun (r : Int) => .sv (.one (I r))) domgo go)))), (3, .sv (.one (.rd (fvR (fun (x : Int) => [.sv (.one (I x))]) (fun (r : Int) => .sv (.one (I r))) dommark mark)))), (4, .sv (.one (I limit))), (10, .sv (.one (.ptr 0 0))), (12, .sv (.one (.ptr 1 0))), (13, .sv (.one (.own 2)))], [.box [I 0, I 0, .v (.slice none 0 0), .v (.slice none 0 0)] 80 false, .box [I letters, I 0, .v (.slice none 0 0), .v (.slice none 0 0)] 80 false, mapI encI3 intT (mput start 0 ([] : List (Int × Int)))]⟩ (by kernel_rfl) ?_
  refine WL.nil ?_
  refine En.seq ?_
  refine En.seq ?_
  refine En.region ?_
  refine WL.run ht hn 1 ⟨[(0, .sv (.one (I letters))), (2, .sv (.one (.rd (fvR (fun (x : (Int × Int)) => [.sv (.one (I x.1)), .sv (.one (I x.2))]) (fun (r : Int) => .sv (.one (I r))) domgo go)))), (3, .sv (.one (.rd (fvR (fun (x : Int) => [.sv (.one (I x))]) (fun (r : Int) => .sv (.one (I r))) dommark mark)))), (4, .sv (.one (I limit))), (10, .sv (.one (.ptr 0 0))), (12, .sv (.one (.ptr 1 0))), (13, .sv (.one (.own 2))), (26, .sv (.one (I start)))], [.box [I 0, I 0, .v (.slice none 0 0), .v (.slice none 0 0)] 80 false, .box [I letters, I 0, .v (.slice none 0 0), .v (.slice none 0 0)] 80 false, mapI encI3 intT (mput start 0 ([] : List (Int × Int)))]⟩ (by kernel_rfl) ?_
  refine WL.mt0 (K := []) (p := some (3, rowI 3 intT ([start] : (List Int)))) hn (by rfl) (mt_lit (T := intT) ([start] : (List Int)) (mt_bsl 3 (r := cellsOf intT ([start] : (List Int))) ht rfl (by rfl) (by rfl) (by rfl) (by kernel_rfl) (by rfl)) (fun _ h => by cases h) (fun _ => rfl) (fun _ => rfl) (by rfl) (Nat.le_of_ble_eq_true rfl)) (by rfl) (by rfl) (by rfl) ?_
  refine WL.run ht hn 1 ⟨[(0, .sv (.one (I letters))), (2, .sv (.one (.rd (fvR (fun (x : (Int × Int)) => [.sv (.one (I x.1)), .sv (.one (I x.2))]) (fun (r : Int) => .sv (.one (I r))) domgo go)))), (3, .sv (.one (.rd (fvR (fun (x : Int) => [.sv (.one (I x))]) (fun (r : Int) => .sv (.one (I r))) dommark mark)))), (4, .sv (.one (I limit))), (10, .sv (.one (.ptr 0 0))), (12, .sv (.one (.ptr 1 0))), (13, .sv (.one (.own 2))), (14, .sv (.one (.own 3)))], [.box [I 0, I 0, .v (.slice none 0 0), .v (.slice none 0 0)] 80 false, .box [I letters, I 0, .v (.slice none 0 0), .v (.slice none 0 0)] 80 false, mapI encI3 intT (mput start 0 ([] : List (Int × Int))), rowI 3 intT ([start] : (List Int))]⟩ (by kernel_rfl) ?_
  refine WL.nil ?_
  refine En.block ?_
  refine En.nilBoxO (T := (lsT intT)) 1 2 6 22 (by rfl) (by rfl) (by rfl) (by rfl) ?_
  refine En.nilBoxO (T := intT) 1 3 7 3 (by rfl) (by rfl) (by rfl) (by rfl) ?_
  obtain ⟨Inv, mu, h0_2, hI_2⟩ := h
  refine En.loop (σ := (List (Int × Int)) × (List Int) × (List (List Int)) × (List Int)) (fun zz => Inv zz.1 zz.2.1 zz.2.2.1 zz.2.2.2) (fun zz => mu zz.1 zz.2.1 zz.2.2.1 zz.2.2.2) (fun zz => ⟨[(0, .sv (.one (I letters))), (2, .sv (.one (.rd (fvR (fun (x : (Int × Int)) => [.sv (.one (I x.1)), .sv (.one (I x.2))]) (fun (r : Int) => .sv (.one (I r))) domgo go)))), (3, .sv (.one (.rd (fvR (fun (x : Int) => [.sv (.one (I x))]) (fun (r : Int) => .sv (.one (I r))) dommark mark)))), (4, .sv (.one (I limit))), (10, .sv (.one (.ptr 0 0))), (12, .sv (.one (.ptr 1 0))), (13, .sv (.one (.own 2))), (14, .sv (.one (.own 3)))], [.box [I 0, I 0, .v (.slice none 0 0), .v (.slice none 0 0)] 80 false, .box [I letters, I 0, .own 6, .own 7] 80 false, mapI encI3 intT zz.1, rowI 3 intT zz.2.1, .gone, .gone, rowI 22 (lsT intT) zz.2.2.1, rowI 3 intT zz.2.2.2]⟩) ((mput start 0 ([] : List (Int × Int))), ([start] : (List Int)), ([] : (List (List Int))), ([] : (List Int))) h0_2 (sub_ok (by kernel_rfl)) ?_
  rintro ⟨m2, l3, l6, l7⟩ h
  replace h := hI_2 _ _ _ _ h
  show En c ⟨[(0, .sv (.one (I letters))), (2, .sv (.one (.rd (fvR (fun (x : (Int × Int)) => [.sv (.one (I x.1)), .sv (.one (I x.2))]) (fun (r : Int) => .sv (.one (I r))) domgo go)))), (3, .sv (.one (.rd (fvR (fun (x : Int) => [.sv (.one (I x))]) (fun (r : Int) => .sv (.one (I r))) dommark mark)))), (4, .sv (.one (I limit))), (10, .sv (.one (.ptr 0 0))), (12, .sv (.one (.ptr 1 0))), (13, .sv (.one (.own 2))), (14, .sv (.one (.own 3)))], [.box [I 0, I 0, .v (.slice none 0 0), .v (.slice none 0 0)] 80 false, .box [I letters, I 0, .own 6, .own 7] 80 false, mapI encI3 intT m2, rowI 3 intT l3, .gone, .gone, rowI 22 (lsT intT) l6, rowI 3 intT l7]⟩ _
  refine En.seq ?_
  refine En.seq ?_
  refine En.region ?_
  refine WL.run ht hn 6 ⟨[(0, .sv (.one (I letters))), (2, .sv (.one (.rd (fvR (fun (x : (Int × Int)) => [.sv (.one (I x.1)), .sv (.one (I x.2))]) (fun (r : Int) => .sv (.one (I r))) domgo go)))), (3, .sv (.one (.rd (fvR (fun (x : Int) => [.sv (.one (I x))]) (fun (r : Int) => .sv (.one (I r))) dommark mark)))), (4, .sv (.one (I limit))), (10, .sv (.one (.ptr 0 0))), (12, .sv (.one (.ptr 1 0))), (13, .sv (.one (.own 2))), (14, .sv (.one (.own 3))), (33, .sv (.one (B (decide ((l6.length : Int) < (l3.length : Int))))))], [.box [I 0, I 0, .v (.slice none 0 0), .v (.slice none 0 0)] 80 false, .box [I letters, I 0, .own 6, .own 7] 80 false, mapI encI3 intT m2, rowI 3 intT l3, .gone, .gone, rowI 22 (lsT intT) l6, rowI 3 intT l7]⟩ (by kernel_rfl) ?_
  refine WL.nil ?_
  refine En.cond (b := (decide ((l6.length : Int) < (l3.length : Int)))) (by kernel_rfl) (fun hb => ?_) (fun hb => ?_)
  · replace h := h.1 hb
    refine En.skip ?_
    refine En.block ?_
    refine En.seq ?_
    refine En.region ?_
    refine WL.run ht hn 4 ⟨[(0, .sv (.one (I letters))), (2, .sv (.one (.rd (fvR (fun (x : (Int × Int)) => [.sv (.one (I x.1)), .sv (.one (I x.2))]) (fun (r : Int) => .sv (.one (I r))) domgo go)))), (3, .sv (.one (.rd (fvR (fun (x : Int) => [.sv (.one (I x))]) (fun (r : Int) => .sv (.one (I r))) dommark mark)))), (4, .sv (.one (I limit))), (10, .sv (.one (.ptr 0 0))), (12, .sv (.one (.ptr 1 0))), (13, .sv (.one (.own 2))), (14, .sv (.one (.own 3))), (34, .sv (.one (.own 3))), (37, .sv (.one (I (l6.length : Int))))], [.box [I 0, I 0, .v (.slice none 0 0), .v (.slice none 0 0)] 80 false, .box [I letters, I 0, .own 6, .own 7] 80 false, mapI encI3 intT m2, rowI 3 intT l3, .gone, .gone, rowI 22 (lsT intT) l6, rowI 3 intT l7]⟩ (by kernel_rfl) ?_
    obtain ⟨e, he, h⟩ := h
    refine WL.val hn (by rfl) (val_indexO (T := intT) (l := l3) (k := (l6.length : Int)) ht rfl (by rfl) (by rfl) (by rfl) (by rfl) (by decide) (by rfl) (by rfl) (by rfl) he) (by rfl) ?_
    refine WL.val hn (by rfl) (val_loadO (T := intT) (l := l3) (y := e) ht rfl (by rfl) (by rfl) (by rfl) (by rfl) (by rfl) (idx_some he).2.2 (by rfl)) (by rfl) ?_
    refine WL.run ht hn 1 ⟨[(0, .sv (.one (I letters))), (2, .sv (.one (.rd (fvR (fun (x : (Int × Int)) => [.sv (.one (I x.1)), .sv (.one (I x.2))]) (fun (r : Int) => .sv (.one (I r))) domgo go)))), (3, .sv (.one (.rd (fvR (fun (x : Int) => [.sv (.one (I x))]) (fun (r : Int) => .sv (.one (I r))) dommark mark)))), (4, .sv (.one (I limit))), (10, .sv (.one (.ptr 0 0))), (12, .sv (.one (.ptr 1 0))), (13, .sv (.one (.own 2))), (14, .sv (.one (.own 3))), (15, .sv (.one (I e)))], [.box [I 0, I 0, .v (.slice none 0 0), .v (.slice none 0 0)] 80 false, .box [I letters, I 0, .own 6, .own 7] 80 false, mapI encI3 intT m2, rowI 3 intT l3, .gone, .gone, rowI 22 (lsT intT) l6, rowI 3 intT l7]⟩ (by kernel_rfl) ?_
    refine WL.nil ?_
    refine En.seq ?_
    refine En.region ?_
    refine WL.run ht hn 1 ⟨[(0, .sv (.one (I letters))), (2, .sv (.one (.rd (fvR (fun (x : (Int × Int)) => [.sv (.one (I x.1)), .sv (.one (I x.2))]) (fun (r : Int) => .sv (.one (I r))) domgo go)))), (3, .sv (.one (.rd (fvR (fun (x : Int) => [.sv (.one (I x))]) (fun (r : Int) => .sv (.one (I r))) dommark mark)))), (4, .sv (.one (I limit))), (10, .sv (.one (.ptr 0 0))), (12, .sv (.one (.ptr 1 0))), (13, .sv (.one (.own 2))), (14, .sv (.one (.own 3))), (15, .sv (.one (I e))), (40, .sv (.one (I letters)))], [.box [I 0, I 0, .v (.slice none 0 0), .v (.slice none 0 0)] 80 false, .box [I letters, I 0, .own 6, .own 7] 80 false, mapI encI3 intT m2, rowI 3 intT l3, .gone, .gone, rowI 22 (lsT intT) l6, rowI 3 intT l7]⟩ (by kernel_rfl) ?_
    have hp := h.1
    replace h := h.2
    refine WL.mt0 (K := []) (p := some (8, rowI 3 intT (List.replicate (letters).toNat (0 : Int)))) hn (by rfl) (mt_make (T := intT) (0 : Int) (zv := (.int .i64 0)) 8 (l := letters) (cp := letters) ht rfl (by rfl) (by rfl) (by rfl) (by rfl) (by decide) (by rfl) (by rfl) hp.1 hp.2.1 hp.2.2 (hp.le (by decide)) rfl (fun _ => ⟨rfl, trivial⟩)) (by rfl) (by rfl) (by rfl) ?_
    refine WL.run ht hn 1 ⟨[(0, .sv (.one (I letters))), (2, .sv (.one (.rd (fvR (fun (x : (Int × Int)) => [.sv (.one (I x.1)), .sv (.one (I x.2))]) (fun (r : Int) => .sv (.one (I r))) domgo go)))), (3, .sv (.one (.rd (fvR (fun (x : Int) => [.sv (.one (I x))]) (fun (r : Int) => .sv (.one (I r))) dommark mark)))), (4, .sv (.one (I limit))), (10, .sv (.one (.ptr 0 0))), (12, .sv (.one (.ptr 1 0))), (13, .sv (.one (.own 2))), (14, .sv (.one (.own 3))), (15, .sv (.one (I e))), (16, .sv (.one (.own 8)))], [.box [I 0, I 0, .v (.slice none 0 0), .v (.slice none 0 0)] 80 false, .box [I letters, I 0, .own 6, .own 7] 80 false, mapI encI3 intT m2, rowI 3 intT l3, .gone, .gone, rowI 22 (lsT intT) l6, rowI 3 intT l7, rowI 3 intT (List.replicate (letters).toNat (0 : Int))]⟩ (by kernel_rfl) ?_
    refine WL.nil ?_
    refine En.seq ?_
    refine En.seq ?_
    refine En.region ?_
    refine WL.run ht hn 2 ⟨[(0, .sv (.one (I letters))), (2, .sv (.one (.rd (fvR (fun (x : (Int × Int)) => [.sv (.one (I x.1)), .sv (.one (I x.2))]) (fun (r : Int) => .sv (.one (I r))) domgo go)))), (3, .sv (.one (.rd (fvR (fun (x : Int) => [.sv (.one (I x))]) (fun (r : Int) => .sv (.one (I r))) dommark mark)))), (4, .sv (.one (I limit))), (10, .sv (.one (.ptr 0 0))), (12, .sv (.one (.ptr 1 0))), (13, .sv (.one (.own 2))), (14, .sv (.one (.own 3))), (15, .sv (.one (I e))), (16, .sv (.one (.own 8))), (42, .sv (.one (I letters))), (43, .sv (.one (I 0)))], [.box [I 0, I 0, .v (.slice none 0 0), .v (.slice none 0 0)] 80 false, .box [I letters, I 0, .own 6, .own 7] 80 false, mapI encI3 intT m2, rowI 3 intT l3, .gone, .gone, rowI 22 (lsT intT) l6, rowI 3 intT l7, rowI 3 intT (List.replicate (letters).toNat (0 : Int))]⟩ (by kernel_rfl) ?_
    refine WL.nil ?_
    refine En.block ?_
    obtain ⟨Inv_2, mu_2, h0, hI⟩ := h
    refine En.loop (σ := Int × (List (Int × Int)) × (List Int) × (List Int)) (fun zz => Inv_2 zz.1 zz.2.1 zz.2.2.1 zz.2.2.2) (fun zz => mu_2 zz.1 zz.2.1 zz.2.2.1 zz.2.2.2) (fun zz => ⟨[(0, .sv (.one (I letters))), (2, .sv (.one (.rd (fvR (fun (x : (Int × Int)) => [.sv (.one (I x.1)), .sv (.one (I x.2))]) (fun (r : Int) => .sv (.one (I r))) domgo go)))), (3, .sv (.one (.rd (fvR (fun (x : Int) => [.sv (.one (I x))]) (fun (r : Int) => .sv (.one (I r))) dommark mark)))), (4, .sv (.one (I limit))), (10, .sv (.one (.ptr 0 0))), (12, .sv (.one (.ptr 1 0))), (13, .sv (.one (.own 2))), (14, .sv (.one (.own 3))), (15, .sv (.one (I e))), (16, .sv (.one (.own 8))), (42, .sv (.one (I letters))), (43, .sv (.one (I zz.1)))], [.box [I 0, I 0, .v (.slice none 0 0), .v (.slice none 0 0)] 80 false, .box [I letters, I 0, .own 6, .own 7] 80 false, mapI encI3 intT zz.2.1, rowI 3 intT zz.2.2.1, .gone, .gone, rowI 22 (lsT intT) l6, rowI 3 intT l7, rowI 3 intT zz.2.2.2]⟩) (0, m2, l3, (List.replicate (letters).toNat (0 : Int))) h0 (sub_ok (by kernel_rfl)) ?_
    rintro ⟨x43, m2_2, l3_2, l8⟩ h
    replace h := hI _ _ _ _ h
    show En c ⟨[(0, .sv (.one (I letters))), (2, .sv (.one (.rd (fvR (fun (x : (Int × Int)) => [.sv (.one (I x.1)), .sv (.one (I x.2))]) (fun (r : Int) => .sv (.one (I r))) domgo go)))), (3, .sv (.one (.rd (fvR (fun (x : Int) => [.sv (.one (I x))]) (fun (r : Int) => .sv (.one (I r))) dommark mark)))), (4, .sv (.one (I limit))), (10, .sv (.one (.ptr 0 0))), (12, .sv (.one (.ptr 1 0))), (13, .sv (.one (.own 2))), (14, .sv (.one (.own 3))), (15, .sv (.one (I e))), (16, .sv (.one (.own 8))), (42, .sv (.one (I letters))), (43, .sv (.one (I x43)))], [.box [I 0, I 0, .v (.slice none 0 0), .v (.slice none 0 0)] 80 false, .box [I letters, I 0, .own 6, .own 7] 80 false, mapI encI3 intT m2_2, rowI 3 intT l3_2, .gone, .gone, rowI 22 (lsT intT) l6, rowI 3 intT l7, rowI 3 intT l8]⟩ _
    refine En.seq ?_
    refine En.region ?_
    refine WL.run ht hn 1 ⟨[(0, .sv (.one (I letters))), (2, .sv (.one (.rd (fvR (fun (x : (Int × Int)) => [.sv (.one (I x.1)), .sv (.one (I x.2))]) (fun (r : Int) => .sv (.one (I r))) domgo go)))), (3, .sv (.one (.rd (fvR (fun (x : Int) => [.sv (.one (I x))]) (fun (r : Int) => .sv (.one (I r))) dommark mark)))), (4, .sv (.one (I limit))), (10, .sv (.one (.ptr 0 0))), (12, .sv (.one (.ptr 1 0))), (13, .sv (.one (.own 2))), (14, .sv (.one (.own 3))), (15, .sv (.one (I e))), (16, .sv (.one (.own 8))), (42, .sv (.one (I letters))), (43, .sv (.one (I x43))), (44, .sv (.one (B (decide (x43 < letters)))))], [.box [I 0, I 0, .v (.slice none 0 0), .v (.slice none 0 0)] 80 false, .box [I letters, I 0, .own 6, .own 7] 80 false, mapI encI3 intT m2_2, rowI 3 intT l3_2, .gone, .gone, rowI 22 (lsT intT) l6, rowI 3 intT l7, rowI 3 intT l8]⟩ (by kernel_rfl) ?_
    refine WL.nil ?_
    refine En.seq ?_
    refine En.cond (b := (decide (x43 < letters))) (by kernel_rfl) (fun hb => ?_) (fun hb => ?_)
    · replace h := h.1 hb
      refine En.skip ?_
      refine En.seq ?_
      refine En.block ?_
      refine En.seq ?_
      refine En.region ?_
      refine WL.run ht hn 2 ⟨[(0, .sv (.one (I letters))), (2, .sv (.one (.rd (fvR (fun (x : (Int × Int)) => [.sv (.one (I x.1)), .sv (.one (I x.2))]) (fun (r : Int) => .sv (.one (I r))) domgo go)))), (3, .sv (.one (.rd (fvR (fun (x : Int) => [.sv (.one (I x))]) (fun (r : Int) => .sv (.one (I r))) dommark mark)))), (4, .sv (.one (I limit))), (10, .sv (.one (.ptr 0 0))), (12, .sv (.one (.ptr 1 0))), (13, .sv (.one (.own 2))), (14, .sv (.one (.own 3))), (15, .sv (.one (I e))), (16, .sv (.one (.own 8))), (17, .sv (.one (I x43))), (42, .sv (.one (I letters))), (43, .sv (.one (I x43)))], [.box [I 0, I 0, .v (.slice none 0 0), .v (.slice none 0 0)] 80 false, .box [I letters, I 0, .own 6, .own 7] 80 false, mapI encI3 intT m2_2, rowI 3 intT l3_2, .gone, .gone, rowI 22 (lsT intT) l6, rowI 3 intT l7, rowI 3 intT l8]⟩ (by kernel_rfl) ?_
      refine WL.nil ?_
      refine En.seq ?_
      refine En.region ?_
      refine WL.run ht hn 3 ⟨[(0, .sv (.one (I letters))), (2, .sv (.one (.rd (fvR (fun (x : (Int × Int)) => [.sv (.one (I x.1)), .sv (.one (I x.2))]) (fun (r : Int) => .sv (.one (I r))) domgo go)))), (3, .sv (.one (.rd (fvR (fun (x : Int) => [.sv (.one (I x))]) (fun (r : Int) => .sv (.one (I r))) dommark mark)))), (4, .sv (.one (I limit))), (10, .sv (.one (.ptr 0 0))), (12, .sv (.one (.ptr 1 0))), (13, .sv (.one (.own 2))), (14, .sv (.one (.own 3))), (15, .sv (.one (I e))), (16, .sv (.one (.own 8))), (17, .sv (.one (I x43))), (42, .sv (.one (I letters))), (43, .sv (.one (I x43))), (46, .sv (.one (.rd (fvR (fun (x : (Int × Int)) => [.sv (.one (I x.1)), .sv (.one (I x.2))]) (fun (r : Int) => .sv (.one (I r))) domgo go)))), (47, .sv (.one (I e))), (48, .sv (.one (I x43)))], [.box [I 0, I 0, .v (.slice none 0 0), .v (.slice none 0 0)] 80 false, .box [I letters, I 0, .own 6, .own 7] 80 false, mapI encI3 intT m2_2, rowI 3 intT l3_2, .gone, .gone, rowI 22 (lsT intT) l6, rowI 3 intT l7, rowI 3 intT l8]⟩ (by kernel_rfl) ?_
      have hp := h.1
      replace h := h.2
      refine WL.mt0 (K := []) (p := none) hn (by rfl) (mt_callv (e, x43) hp rfl (by rfl) (by rfl) (by rfl) (by rfl)) (by rfl) (by rfl) (by rfl) ?_
      refine WL.run ht hn 1 ⟨[(0, .sv (.one (I letters))), (2, .sv (.one (.rd (fvR (fun (x : (Int × Int)) => [.sv (.one (I x.1)), .sv (.one (I x.2))]) (fun (r : Int) => .sv (.one (I r))) domgo go)))), (3, .sv (.one (.rd (fvR (fun (x : Int) => [.sv (.one (I x))]) (fun (r : Int) => .sv (.one (I r))) dommark mark)))), (4, .sv (.one (I limit))), (10, .sv (.one (.ptr 0 0))), (12, .sv (.one (.ptr 1 0))), (13, .sv (.one (.own 2))), (14, .sv (.one (.own 3))), (15, .sv (.one (I e))), (16, .sv (.one (.own 8))), (17, .sv (.one (I x43))), (18, .sv (.one (I (go (e, x43))))), (42, .sv (.one (I letters))), (43, .sv (.one (I x43)))], [.box [I 0, I 0, .v (.slice none 0 0), .v (.slice none 0 0)] 80 false, .box [I letters, I 0, .own 6, .own 7] 80 false, mapI encI3 intT m2_2, rowI 3 intT l3_2, .gone, .gone, rowI 22 (lsT intT) l6, rowI 3 intT l7, rowI 3 intT l8]⟩ (by kernel_rfl) ?_
      refine WL.nil ?_
      refine En.seq ?_
      refine En.region ?_
      refine WL.run ht hn 2 ⟨[(0, .sv (.one (I letters))), (2, .sv (.one (.rd (fvR (fun (x : (Int × Int)) => [.sv (.one (I x.1)), .sv (.one (I x.2))]) (fun (r : Int) => .sv (.one (I r))) domgo go)))), (3, .sv (.one (.rd (fvR (fun (x : Int) => [.sv (.one (I x))]) (fun (r : Int) => .sv (.one (I r))) dommark mark)))), (4, .sv (.one (I limit))), (10, .sv (.one (.ptr 0 0))), (12, .sv (.one (.ptr 1 0))), (13, .sv (.one (.own 2))), (14, .sv (.one (.own 3))), (15, .sv (.one (I e))), (16, .sv (.one (.own 8))), (17, .sv (.one (I x43))), (18, .sv (.one (I (go (e, x43))))), (42, .sv (.one (I letters))), (43, .sv (.one (I x43))), (51, .sv (.one (.own 2))), (52, .sv (.one (I (go (e, x43)))))], [.box [I 0, I 0, .v (.slice none 0 0), .v (.slice none 0 0)] 80 false, .box [I letters, I 0, .own 6, .own 7] 80 false, mapI encI3 intT m2_2, rowI 3 intT l3_2, .gone, .gone, rowI 22 (lsT intT) l6, rowI 3 intT l7, rowI 3 intT l8]⟩ (by kernel_rfl) ?_
      refine WL.val hn (by rfl) (val_lookup (T := intT) (D := m2_2) keyI3 (k := (go (e, x43))) (ok := true) (0 : Int) (zv := (.int .i64 0)) rfl Try.underlying229 (fun _ => by kernel_rfl) (fun _ => ⟨rfl, trivial⟩) (mapAs encI3 intT m2_2) (by rfl) (by rfl) (by rfl) (fun _ => rfl)) (by rfl) ?_
      refine WL.run ht hn 5 ⟨[(0, .sv (.one (I letters))), (2, .sv (.one (.rd (fvR (fun (x : (Int × Int)) => [.sv (.one (I x.1)), .sv (.one (I x.2))]) (fun (r : Int) => .sv (.one (I r))) domgo go)))), (3, .sv (.one (.rd (fvR (fun (x : Int) => [.sv (.one (I x))]) (fun (r : Int) => .sv (.one (I r))) dommark mark)))), (4, .sv (.one (I limit))), (10, .sv (.one (.ptr 0 0))), (12, .sv (.one (.ptr 1 0))), (13, .sv (.one (.own 2))), (14, .sv (.one (.own 3))), (15, .sv (.one (I e))), (16, .sv (.one (.own 8))), (17, .sv (.one (I x43))), (18, .sv (.one (I (go (e, x43))))), (19, .sv (.one (I ((mget (go (e, x43)) m2_2).getD (0 : Int))))), (20, .sv (.one (B (mget (go (e, x43)) m2_2).isSome))), (42, .sv (.one (I letters))), (43, .sv (.one (I x43)))], [.box [I 0, I 0, .v (.slice none 0 0), .v (.slice none 0 0)] 80 false, .box [I letters, I 0, .own 6, .own 7] 80 false, mapI encI3 intT m2_2, rowI 3 intT l3_2, .gone, .gone, rowI 22 (lsT intT) l6, rowI 3 intT l7, rowI 3 intT l8]⟩ (by kernel_rfl) ?_
      refine WL.nil ?_
      obtain ⟨J, h, hJ⟩ := h
      refine En.seqJ (σ := Int × (List (Int × Int)) × (List Int)) (fun zz => J zz.1 zz.2.1 zz.2.2) (fun zz => ⟨[(0, .sv (.one (I letters))), (2, .sv (.one (.rd (fvR (fun (x : (Int × Int)) => [.sv (.one (I x.1)), .sv (.one (I x.2))]) (fun (r : Int) => .sv (.one (I r))) domgo go)))), (3, .sv (.one (.rd (fvR (fun (x : Int) => [.sv (.one (I x))]) (fun (r : Int) => .sv (.one (I r))) dommark mark)))), (4, .sv (.one (I limit))), (10, .sv (.one (.ptr 0 0))), (12, .sv (.one (.ptr 1 0))), (13, .sv (.one (.own 2))), (14, .sv (.one (.own 3))), (15, .sv (.one (I e))), (16, .sv (.one (.own 8))), (17, .sv (.one (I x43))), (19, .sv (.one (I zz.1))), (42, .sv (.one (I letters))), (43, .sv (.one (I x43)))], [.box [I 0, I 0, .v (.slice none 0 0), .v (.slice none 0 0)] 80 false, .box [I letters, I 0, .own 6, .own 7] 80 false, mapI encI3 intT zz.2.1, rowI 3 intT zz.2.2, .gone, .gone, rowI 22 (lsT intT) l6, rowI 3 intT l7, rowI 3 intT l8]⟩) ?_ ?_
      · refine En.seq ?_
        refine En.region ?_
        refine WL.run ht hn 2 ⟨[(0, .sv (.one (I letters))), (2, .sv (.one (.rd (fvR (fun (x : (Int × Int)) => [.sv (.one (I x.1)), .sv (.one (I x.2))]) (fun (r : Int) => .sv (.one (I r))) domgo go)))), (3, .sv (.one (.rd (fvR (fun (x : Int) => [.sv (.one (I x))]) (fun (r : Int) => .sv (.one (I r))) dommark mark)))), (4, .sv (.one (I limit))), (10, .sv (.one (.ptr 0 0))), (12, .sv (.one (.ptr 1 0))), (13, .sv (.one (.own 2))), (14, .sv (.one (.own 3))), (15, .sv (.one (I e))), (16, .sv (.one (.own 8))), (17, .sv (.one (I x43))), (18, .sv (.one (I (go (e, x43))))), (19, .sv (.one (I ((mget (go (e, x43)) m2_2).getD (0 : Int))))), (42, .sv (.one (I letters))), (43, .sv (.one (I x43))), (57, .sv (.one (B (!(mget (go (e, x43)) m2_2).isSome))))], [.box [I 0, I 0, .v (.slice none 0 0), .v (.slice none 0 0)] 80 false, .box [I letters, I 0, .own 6, .own 7] 80 false, mapI encI3 intT m2_2, rowI 3 intT l3_2, .gone, .gone, rowI 22 (lsT intT) l6, rowI 3 intT l7, rowI 3 intT l8]⟩ (by kernel_rfl) ?_
        refine WL.nil ?_
        refine En.cond (b := (!(mget (go (e, x43)) m2_2).isSome)) (by kernel_rfl) (fun hb => ?_) (fun hb => ?_)
        · replace h := h.1 hb
          refine En.seq ?_
          refine En.region ?_
          refine WL.run ht hn 3 ⟨[(0, .sv (.one (I letters))), (2, .sv (.one (.rd (fvR (fun (x : (Int × Int)) => [.sv (.one (I x.1)), .sv (.one (I x.2))]) (fun (r : Int) => .sv (.one (I r))) domgo go)))), (3, .sv (.one (.rd (fvR (fun (x : Int) => [.sv (.one (I x))]) (fun (r : Int) => .sv (.one (I r))) dommark mark)))), (4, .sv (.one (I limit))), (10, .sv (.one (.ptr 0 0))), (12, .sv (.one (.ptr 1 0))), (13, .sv (.one (.own 2))), (14, .sv (.one (.own 3))), (15, .sv (.one (I e))), (16, .sv (.one (.own 8))), (17, .sv (.one (I x43))), (18, .sv (.one (I (go (e, x43))))), (19, .sv (.one (I (l3_2.length : Int)))), (42, .sv (.one (I letters))), (43, .sv (.one (I x43)))], [.box [I 0, I 0, .v (.slice none 0 0), .v (.slice none 0 0)] 80 false, .box [I letters, I 0, .own 6, .own 7] 80 false, mapI encI3 intT m2_2, rowI 3 intT l3_2, .gone, .gone, rowI 22 (lsT intT) l6, rowI 3 intT l7, rowI 3 intT l8]⟩ (by kernel_rfl) ?_
          refine WL.nil ?_
          refine En.seq ?_
          refine En.seq ?_
          refine En.region ?_
          refine WL.run ht hn 3 ⟨[(0, .sv (.one (I letters))), (2, .sv (.one (.rd (fvR (fun (x : (Int × Int)) => [.sv (.one (I x.1)), .sv (.one (I x.2))]) (fun (r : Int) => .sv (.one (I r))) domgo go)))), (3, .sv (.one (.rd (fvR (fun (x : Int) => [.sv (.one (I x))]) (fun (r : Int) => .sv (.one (I r))) dommark mark)))), (4, .sv (.one (I limit))), (10, .sv (.one (.ptr 0 0))), (12, .sv (.one (.ptr 1 0))), (13, .sv (.one (.own 2))), (14, .sv (.one (.own 3))), (15, .sv (.one (I e))), (16, .sv (.one (.own 8))), (17, .sv (.one (I x43))), (18, .sv (.one (I (go (e, x43))))), (19, .sv (.one (I (l3_2.length : Int)))), (42, .sv (.one (I letters))), (43, .sv (.one (I x43))), (62, .sv (.one (B ((l3_2.length : Int) == limit))))], [.box [I 0, I 0, .v (.slice none 0 0), .v (.slice none 0 0)] 80 false, .box [I letters, I 0, .own 6, .own 7] 80 false, mapI encI3 intT m2_2, rowI 3 intT l3_2, .gone, .gone, rowI 22 (lsT intT) l6, rowI 3 intT l7, rowI 3 intT l8]⟩ (by kernel_rfl) ?_
          refine WL.nil ?_
          refine En.cond (b := ((l3_2.length : Int) == limit)) (by kernel_rfl) (fun hb => ?_) (fun hb => ?_)
          · replace h := h.1 hb
            refine En.seq ?_
            refine En.region ?_
            refine WL.run ht hn 3 ⟨[(10, .sv (.one (.ptr 0 0))), (11, .sv (.one (B false)))], [.box [I 0, I 0, .v (.slice none 0 0), .v (.slice none 0 0)] 80 false, .gone, .gone, .gone, .gone, .gone, .gone, .gone, .gone]⟩ (by kernel_rfl) ?_
            refine WL.nil ?_
            refine En.ret ?_
            refine En.nilBox (T := (lsT intT)) 0 2 (by rfl) (by rfl) ?_
            refine En.nilBox (T := intT) 0 3 (by rfl) (by rfl) ?_
            exact En.back ht ((ApiDet.mk 0 0 [] []), false) h (by kernel_rfl) rfl
          · replace h := h.2 hb
            refine En.skip ?_
            refine En.seq ?_
            refine En.region ?_
            refine WL.run ht hn 3 ⟨[(0, .sv (.one (I letters))), (2, .sv (.one (.rd (fvR (fun (x : (Int × Int)) => [.sv (.one (I x.1)), .sv (.one (I x.2))]) (fun (r : Int) => .sv (.one (I r))) domgo go)))), (3, .sv (.one (.rd (fvR (fun (x : Int) => [.sv (.one (I x))]) (fun (r : Int) => .sv (.one (I r))) dommark mark)))), (4, .sv (.one (I limit))), (10, .sv (.one (.ptr 0 0))), (12, .sv (.one (.ptr 1 0))), (13, .sv (.one (.own 2))), (14, .sv (.one (.own 3))), (15, .sv (.one (I e))), (16, .sv (.one (.own 8))), (17, .sv (.one (I x43))), (18, .sv (.one (I (go (e, x43))))), (19, .sv (.one (I (l3_2.length : Int)))), (42, .sv (.one (I letters))), (43, .sv (.one (I x43))), (64, .sv (.one (.own 2))), (65, .sv (.one (I (go (e, x43))))), (66, .sv (.one (I (l3_2.length : Int))))], [.box [I 0, I 0, .v (.slice none 0 0), .v (.slice none 0 0)] 80 false, .box [I letters, I 0, .own 6, .own 7] 80 false, mapI encI3 intT m2_2, rowI 3 intT l3_2, .gone, .gone, rowI 22 (lsT intT) l6, rowI 3 intT l7, rowI 3 intT l8]⟩ (by kernel_rfl) ?_
            refine WL.mapPut (T := intT) keyI3 (k := (go (e, x43))) (y := (l3_2.length : Int)) hn (by rfl) (.inl rfl) Try.underlying229 (by rfl) (by rfl) (by rfl) (by rfl) (by rfl) (by rfl) ?_
            refine WL.nil ?_
            refine En.region ?_
            refine WL.run ht hn 2 ⟨[(0, .sv (.one (I letters))), (2, .sv (.one (.rd (fvR (fun (x : (Int × Int)) => [.sv (.one (I x.1)), .sv (.one (I x.2))]) (fun (r : Int) => .sv (.one (I r))) domgo go)))), (3, .sv (.one (.rd (fvR (fun (x : Int) => [.sv (.one (I x))]) (fun (r : Int) => .sv (.one (I r))) dommark mark)))), (4, .sv (.one (I limit))), (10, .sv (.one (.ptr 0 0))), (12, .sv (.one (.ptr 1 0))), (13, .sv (.one (.own 2))), (15, .sv (.one (I e))), (16, .sv (.one (.own 8))), (17, .sv (.one (I x43))), (19, .sv (.one (I (l3_2.length : Int)))), (42, .sv (.one (I letters))), (43, .sv (.one (I x43))), (67, .sv (.one (.own 3))), (68, .sv (.one (I (go (e, x43)))))], [.box [I 0, I 0, .v (.slice none 0 0), .v (.slice none 0 0)] 80 false, .box [I letters, I 0, .own 6, .own 7] 80 false, mapI encI3 intT (mput (go (e, x43)) (l3_2.length : Int) m2_2), rowI 3 intT l3_2, .gone, .gone, rowI 22 (lsT intT) l6, rowI 3 intT l7, rowI 3 intT l8]⟩ (by kernel_rfl) ?_
            refine WL.mt0 (K := []) (p := some (9, rowI 3 intT ([(go (e, x43))] : (List Int)))) hn (by rfl) (mt_lit (T := intT) ([(go (e, x43))] : (List Int)) (mt_bsl 9 (r := cellsOf intT ([(go (e, x43))] : (List Int))) ht rfl (by rfl) (by rfl) (by rfl) (by kernel_rfl) (by rfl)) (fun _ h => by cases h) (fun _ => rfl) (fun _ => rfl) (by rfl) (Nat.le_of_ble_eq_true rfl)) (by rfl) (by rfl) (by rfl) ?_
            refine WL.seal 9 (by rfl) ?_
            have hp := h.1
            replace h := h.2
            refine WL.mt (S2 := ⟨[(0, .sv (.one (I letters))), (2, .sv (.one (.rd (fvR (fun (x : (Int × Int)) => [.sv (.one (I x.1)), .sv (.one (I x.2))]) (fun (r : Int) => .sv (.one (I r))) domgo go)))), (3, .sv (.one (.rd (fvR (fun (x : Int) => [.sv (.one (I x))]) (fun (r : Int) => .sv (.one (I r))) dommark mark)))), (4, .sv (.one (I limit))), (10, .sv (.one (.ptr 0 0))), (12, .sv (.one (.ptr 1 0))), (13, .sv (.one (.own 2))), (15, .sv (.one (I e))), (16, .sv (.one (.own 8))), (17, .sv (.one (I x43))), (19, .sv (.one (I (l3_2.length : Int)))), (42, .sv (.one (I letters))), (43, .sv (.one (I x43))), (68, .sv (.one (I (go (e, x43))))), (69, .sv (.one (LS intT ([(go (e, x43))] : (List Int)))))], [.box [I 0, I 0, .v (.slice none 0 0), .v (.slice none 0 0)] 80 false, .box [I letters, I 0, .own 6, .own 7] 80 false, mapI encI3 intT (mput (go (e, x43)) (l3_2.length : Int) m2_2), rowI 3 intT l3_2, .gone, .gone, rowI 22 (lsT intT) l6, rowI 3 intT l7, rowI 3 intT l8, .gone]⟩) (K := [3]) (p := some (3, rowI 3 intT (l3_2 ++ ([(go (e, x43))] : (List Int))))) hn (by rfl) (mt_append (T := intT) (l := l3_2) (es := ([(go (e, x43))] : (List Int))) ht rfl (by rfl) (by rfl) (by rfl) (by rfl) (by decide) (by rfl) (by rfl) (srcLS (T := intT) (es := ([(go (e, x43))] : (List Int))) (fun _ h => by cases h) (by decide) (by rfl)) (by exact hp) (by exact hp.le (by decide))) (by kernel_rfl) (by rfl) (by rfl) (by rfl) ?_
            refine WL.run ht hn 1 ⟨[(0, .sv (.one (I letters))), (2, .sv (.one (.rd (fvR (fun (x : (Int × Int)) => [.sv (.one (I x.1)), .sv (.one (I x.2))]) (fun (r : Int) => .sv (.one (I r))) domgo go)))), (3, .sv (.one (.rd (fvR (fun (x : Int) => [.sv (.one (I x))]) (fun (r : Int) => .sv (.one (I r))) dommark mark)))), (4, .sv (.one (I limit))), (10, .sv (.one (.ptr 0 0))), (12, .sv (.one (.ptr 1 0))), (13, .sv (.one (.own 2))), (14, .sv (.one (.own 3))), (15, .sv (.one (I e))), (16, .sv (.one (.own 8))), (17, .sv (.one (I x43))), (19, .sv (.one (I (l3_2.length : Int)))), (42, .sv (.one (I letters))), (43, .sv (.one (I x43)))], [.box [I 0, I 0, .v (.slice none 0 0), .v (.slice none 0 0)] 80 false, .box [I letters, I 0, .own 6, .own 7] 80 false, mapI encI3 intT (mput (go (e, x43)) (l3_2.length : Int) m2_2), rowI 3 intT (l3_2 ++ ([(go (e, x43))] : (List Int))), .gone, .gone, rowI 22 (lsT intT) l6, rowI 3 intT l7, rowI 3 intT l8, .gone]⟩ (by kernel_rfl) ?_
            refine WL.nil ?_
            exact En.at (I := fun zz => J zz.1 zz.2.1 zz.2.2) (T := fun zz => ⟨[(0, .sv (.one (I letters))), (2, .sv (.one (.rd (fvR (fun (x : (Int × Int)) => [.sv (.one (I x.1)), .sv (.one (I x.2))]) (fun (r : Int) => .sv (.one (I r))) domgo go)))), (3, .sv (.one (.rd (fvR (fun (x : Int) => [.sv (.one (I x))]) (fun (r : Int) => .sv (.one (I r))) dommark mark)))), (4, .sv (.one (I limit))), (10, .sv (.one (.ptr 0 0))), (12, .sv (.one (.ptr 1 0))), (13, .sv (.one (.own 2))), (14, .sv (.one (.own 3))), (15, .sv (.one (I e))), (16, .sv (.one (.own 8))), (17, .sv (.one (I x43))), (19, .sv (.one (I zz.1))), (42, .sv (.one (I letters))), (43, .sv (.one (I x43)))], [.box [I 0, I 0, .v (.slice none 0 0), .v (.slice none 0 0)] 80 false, .box [I letters, I 0, .own 6, .own 7] 80 false, mapI encI3 intT zz.2.1, rowI 3 intT zz.2.2, .gone, .gone, rowI 22 (lsT intT) l6, rowI 3 intT l7, rowI 3 intT l8]⟩) ((l3_2.length : Int), (mput (go (e, x43)) (l3_2.length : Int) m2_2), (l3_2 ++ ([(go (e, x43))] : (List Int)))) h (by kernel_rfl)
        · replace h := h.2 hb
          refine En.skip ?_
          exact En.at (I := fun zz => J zz.1 zz.2.1 zz.2.2) (T := fun zz => ⟨[(0, .sv (.one (I letters))), (2, .sv (.one (.rd (fvR (fun (x : (Int × Int)) => [.sv (.one (I x.1)), .sv (.one (I x.2))]) (fun (r : Int) => .sv (.one (I r))) domgo go)))), (3, .sv (.one (.rd (fvR (fun (x : Int) => [.sv (.one (I x))]) (fun (r : Int) => .sv (.one (I r))) dommark mark)))), (4, .sv (.one (I limit))), (10, .sv (.one (.ptr 0 0))), (12, .sv (.one (.ptr 1 0))), (13, .sv (.one (.own 2))), (14, .sv (.one (.own 3))), (15, .sv (.one (I e))), (16, .sv (.one (.own 8))), (17, .sv (.one (I x43))), (19, .sv (.one (I zz.1))), (42, .sv (.one (I letters))), (43, .sv (.one (I x43)))], [.box [I 0, I 0, .v (.slice none 0 0), .v (.slice none 0 0)] 80 false, .box [I letters, I 0, .own 6, .own 7] 80 false, mapI encI3 intT zz.2.1, rowI 3 intT zz.2.2, .gone, .gone, rowI 22 (lsT intT) l6, rowI 3 intT l7, rowI 3 intT l8]⟩) (((mget (go (e, x43)) m2_2).getD (0 : Int)), m2_2, l3_2) h (by kernel_rfl)
      · rintro ⟨x19, m2_3, l3_3⟩ h
        replace h := hJ _ _ _ h
        show En c ⟨[(0, .sv (.one (I letters))), (2, .sv (.one (.rd (fvR (fun (x : (Int × Int)) => [.sv (.one (I x.1)), .sv (.one (I x.2))]) (fun (r : Int) => .sv (.one (I r))) domgo go)))), (3, .sv (.one (.rd (fvR (fun (x : Int) => [.sv (.one (I x))]) (fun (r : Int) => .sv (.one (I r))) dommark mark)))), (4, .sv (.one (I limit))), (10, .sv (.one (.ptr 0 0))), (12, .sv (.one (.ptr 1 0))), (13, .sv (.one (.own 2))), (14, .sv (.one (.own 3))), (15, .sv (.one (I e))), (16, .sv (.one (.own 8))), (17, .sv (.one (I x43))), (19, .sv (.one (I x19))), (42, .sv (.one (I letters))), (43, .sv (.one (I x43)))], [.box [I 0, I 0, .v (.slice none 0 0), .v (.slice none 0 0)] 80 false, .box [I letters, I 0, .own 6, .own 7] 80 false, mapI encI3 intT m2_3, rowI 3 intT l3_3, .gone, .gone, rowI 22 (lsT intT) l6, rowI 3 intT l7, rowI 3 intT l8]⟩ _
        refine En.region ?_
        refine WL.run ht hn 3 ⟨[(0, .sv (.one (I letters))), (2, .sv (.one (.rd (fvR (fun (x : (Int × Int)) => [.sv (.one (I x.1)), .sv (.one (I x.2))]) (fun (r : Int) => .sv (.one (I r))) domgo go)))), (3, .sv (.one (.rd (fvR (fun (x : Int) => [.sv (.one (I x))]) (fun (r : Int) => .sv (.one (I r))) dommark mark)))), (4, .sv (.one (I limit))), (10, .sv (.one (.ptr 0 0))), (12, .sv (.one (.ptr 1 0))), (13, .sv (.one (.own 2))), (14, .sv (.one (.own 3))), (15, .sv (.one (I e))), (16, .sv (.one (.own 8))), (42, .sv (.one (I letters))), (43, .sv (.one (I x43))), (71, .sv (.one (.own 8))), (72, .sv (.one (I x43))), (73, .sv (.one (I x19)))], [.box [I 0, I 0, .v (.slice none 0 0), .v (.slice none 0 0)] 80 false, .box [I letters, I 0, .own 6, .own 7] 80 false, mapI encI3 intT m2_3, rowI 3 intT l3_3, .gone, .gone, rowI 22 (lsT intT) l6, rowI 3 intT l7, rowI 3 intT l8]⟩ (by kernel_rfl) ?_
        obtain ⟨e_2, he_2, h⟩ := h
        refine WL.val hn (by rfl) (val_indexO (T := intT) (l := l8) (k := x43) ht rfl (by rfl) (by rfl) (by rfl) (by rfl) (by decide) (by rfl) (by rfl) (by rfl) he_2) (by rfl) ?_
        refine WL.storeO (T := intT) (l := l8) (y := x19) ht hn (by rfl) rfl (by rfl) (by rfl) (fun _ h => by cases h) (by rfl) (by rfl) (idx_lt he_2) (by rfl) (by rfl) (by rfl) (by rfl) ?_
        refine WL.nil ?_
        refine En.region ?_
        refine WL.run ht hn 2 ⟨[(0, .sv (.one (I letters))), (2, .sv (.one (.rd (fvR (fun (x : (Int × Int)) => [.sv (.one (I x.1)), .sv (.one (I x.2))]) (fun (r : Int) => .sv (.one (I r))) domgo go)))), (3, .sv (.one (.rd (fvR (fun (x : Int) => [.sv (.one (I x))]) (fun (r : Int) => .sv (.one (I r))) dommark mark)))), (4, .sv (.one (I limit))), (10, .sv (.one (.ptr 0 0))), (12, .sv (.one (.ptr 1 0))), (13, .sv (.one (.own 2))), (14, .sv (.one (.own 3))), (15, .sv (.one (I e))), (16, .sv (.one (.own 8))), (42, .sv (.one (I letters))), (43, .sv (.one (I (wr (x43 + 1)))))], [.box [I 0, I 0, .v (.slice none 0 0), .v (.slice none 0 0)] 80 false, .box [I letters, I 0, .own 6, .own 7] 80 false, mapI encI3 intT m2_3, rowI 3 intT l3_3, .gone, .gone, rowI 22 (lsT intT) l6, rowI 3 intT l7, rowI 3 intT (l8.set (x43).toNat x19)]⟩ (by kernel_rfl) ?_
        refine WL.nil ?_
        exact En.at (I := fun zz => Inv_2 zz.1 zz.2.1 zz.2.2.1 zz.2.2.2 ∧ mu_2 zz.1 zz.2.1 zz.2.2.1 zz.2.2.2 < mu_2 x43 m2_2 l3_2 l8) (T := fun zz => ⟨[(0, .sv (.one (I letters))), (2, .sv (.one (.rd (fvR (fun (x : (Int × Int)) => [.sv (.one (I x.1)), .sv (.one (I x.2))]) (fun (r : Int) => .sv (.one (I r))) domgo go)))), (3, .sv (.one (.rd (fvR (fun (x : Int) => [.sv (.one (I x))]) (fun (r : Int) => .sv (.one (I r))) dommark mark)))), (4, .sv (.one (I limit))), (10, .sv (.one (.ptr 0 0))), (12, .sv (.one (.ptr 1 0))), (13, .sv (.one (.own 2))), (14, .sv (.one (.own 3))), (15, .sv (.one (I e))), (16, .sv (.one (.own 8))), (42, .sv (.one (I letters))), (43, .sv (.one (I zz.1)))], [.box [I 0, I 0, .v (.slice none 0 0), .v (.slice none 0 0)] 80 false, .box [I letters, I 0, .own 6, .own 7] 80 false, mapI encI3 intT zz.2.1, rowI 3 intT zz.2.2.1, .gone, .gone, rowI 22 (lsT intT) l6, rowI 3 intT l7, rowI 3 intT zz.2.2.2]⟩) ((wr (x43 + 1)), m2_3, l3_3, (l8.set (x43).toNat x19)) h (by kernel_rfl)
    · replace h := h.2 hb
      refine En.exit rfl ?_
      refine En.seq ?_
      refine En.region ?_
      refine WL.run ht hn 3 ⟨[(0, .sv (.one (I letters))), (2, .sv (.one (.rd (fvR (fun (x : (Int × Int)) => [.sv (.one (I x.1)), .sv (.one (I x.2))]) (fun (r : Int) => .sv (.one (I r))) domgo go)))), (3, .sv (.one (.rd (fvR (fun (x : Int) => [.sv (.one (I x))]) (fun (r : Int) => .sv (.one (I r))) dommark mark)))), (4, .sv (.one (I limit))), (10, .sv (.one (.ptr 0 0))), (12, .sv (.one (.ptr 1 0))), (13, .sv (.one (.own 2))), (14, .sv (.one (.own 3))), (15, .sv (.one (I e))), (77, .sv (.one (.own 6))), (78, .sv (.one (.own 8)))], [.box [I 0, I 0, .v (.slice none 0 0), .v (.slice none 0 0)] 80 false, .box [I letters, I 0, .own 6, .own 7] 80 false, mapI encI3 intT m2_2, rowI 3 intT l3_2, .gone, .gone, rowI 22 (lsT intT) l6, rowI 3 intT l7, rowI 3 intT l8]⟩ (by kernel_rfl) ?_
      refine WL.seal 8 (by rfl) ?_
      refine WL.mt0 (K := []) (p := some (9, rowI 22 (lsT intT) ([l8] : (List (List Int))))) hn (by rfl) (mt_lit (T := (lsT intT)) ([l8] : (List (List Int))) (mt_bsl 9 (r := cellsOf (lsT intT) ([l8] : (List (List Int)))) ht rfl (by rfl) (by rfl) (by rfl) (by kernel_rfl) (by rfl)) (fun _ h => by cases h) (fun _ => rfl) (fun _ => rfl) (by rfl) (Nat.le_of_ble_eq_true rfl)) (by rfl) (by rfl) (by rfl) ?_
      refine WL.seal 9 (by rfl) ?_
      refine WL.junk 1 2 (by rfl) ?_
      have hp := h.1
      replace h := h.2
      refine WL.mt (S2 := ⟨[(0, .sv (.one (I letters))), (2, .sv (.one (.rd (fvR (fun (x : (Int × Int)) => [.sv (.one (I x.1)), .sv (.one (I x.2))]) (fun (r : Int) => .sv (.one (I r))) domgo go)))), (3, .sv (.one (.rd (fvR (fun (x : Int) => [.sv (.one (I x))]) (fun (r : Int) => .sv (.one (I r))) dommark mark)))), (4, .sv (.one (I limit))), (10, .sv (.one (.ptr 0 0))), (12, .sv (.one (.ptr 1 0))), (13, .sv (.one (.own 2))), (14, .sv (.one (.own 3))), (15, .sv (.one (I e))), (78, .sv (.one (LS intT l8))), (79, .sv (.one (LS (lsT intT) ([l8] : (List (List Int))))))], [.box [I 0, I 0, .v (.slice none 0 0), .v (.slice none 0 0)] 80 false, .box [I letters, I 0, .junk, .own 7] 80 false, mapI encI3 intT m2_2, rowI 3 intT l3_2, .gone, .gone, rowI 22 (lsT intT) l6, rowI 3 intT l7, .gone, .gone]⟩) (K := [6]) (p := some (6, rowI 22 (lsT intT) (l6 ++ ([l8] : (List (List Int)))))) hn (by rfl) (mt_append (T := (lsT intT)) (l := l6) (es := ([l8] : (List (List Int)))) ht rfl (by rfl) (by rfl) (by rfl) (by rfl) (by decide) (by rfl) (by rfl) (srcLS (T := (lsT intT)) (es := ([l8] : (List (List Int)))) (fun _ h => by cases h) (by decide) (by rfl)) (by exact hp) (by exact hp.le (by decide))) (by kernel_rfl) (by rfl) (by rfl) (by rfl) ?_
      refine WL.run ht hn 2 ⟨[(0, .sv (.one (I letters))), (2, .sv (.one (.rd (fvR (fun (x : (Int × Int)) => [.sv (.one (I x.1)), .sv (.one (I x.2))]) (fun (r : Int) => .sv (.one (I r))) domgo go)))), (3, .sv (.one (.rd (fvR (fun (x : Int) => [.sv (.one (I x))]) (fun (r : Int) => .sv (.one (I r))) dommark mark)))), (4, .sv (.one (I limit))), (10, .sv (.one (.ptr 0 0))), (12, .sv (.one (.ptr 1 0))), (13, .sv (.one (.own 2))), (14, .sv (.one (.own 3))), (15, .sv (.one (I e)))], [.box [I 0, I 0, .v (.slice none 0 0), .v (.slice none 0 0)] 80 false, .box [I letters, I 0, .own 6, .own 7] 80 false, mapI encI3 intT m2_2, rowI 3 intT l3_2, .gone, .gone, rowI 22 (lsT intT) (l6 ++ ([l8] : (List (List Int)))), rowI 3 intT l7, .gone, .gone]⟩ (by kernel_rfl) ?_
      refine WL.nil ?_
      have hp_2 := h.1
      replace h := h.2
      have hp_3 := h.1
      replace h := h.2
      refine En.regionA ⟨[(0, .sv (.one (I letters))), (2, .sv (.one (.rd (fvR (fun (x : (Int × Int)) => [.sv (.one (I x.1)), .sv (.one (I x.2))]) (fun (r : Int) => .sv (.one (I r))) domgo go)))), (3, .sv (.one (.rd (fvR (fun (x : Int) => [.sv (.one (I x))]) (fun (r : Int) => .sv (.one (I r))) dommark mark)))), (4, .sv (.one (I limit))), (10, .sv (.one (.ptr 0 0))), (12, .sv (.one (.ptr 1 0))), (13, .sv (.one (.own 2))), (14, .sv (.one (.own 3))), (15, .sv (.one (I e)))], [.sv (.one (.ptr 1 3)), .sv (.one (.own 7)), .sv (.one (.rd (fvR (fun (x : Int) => [.sv (.one (I x))]) (fun (r : Int) => .sv (.one (I r))) dommark mark))), .sv (.one (I e)), .sv (.one (I (mark e))), .sv (.one (LS intT ([(mark e)] : (List Int)))), .sv (.one (.own 10)), .sv (.one (.ptr 1 3)), .tup []], [⟨.box [I 0, I 0, .v (.slice none 0 0), .v (.slice none 0 0)] 80 false, none, none, none⟩, ⟨.box [I letters, I 0, .own 6, .own 7] 80 false, none, none, some (8, .box [I letters, I 0, .own 6, .own 10] 80 false)⟩, ⟨mapI encI3 intT m2_2, none, none, none⟩, ⟨rowI 3 intT l3_2, none, none, none⟩, ⟨.gone, none, none, none⟩, ⟨.gone, none, none, none⟩, ⟨rowI 22 (lsT intT) (l6 ++ ([l8] : (List (List Int)))), none, none, none⟩, ⟨rowI 3 intT l7, none, some 6, none⟩, ⟨.gone, none, none, none⟩, ⟨.gone, none, none, none⟩, ⟨rowI 3 intT (l7 ++ ([(mark e)] : (List Int))), some 6, none, none⟩]⟩ ⟨[(0, .sv (.one (I letters))), (2, .sv (.one (.rd (fvR (fun (x : (Int × Int)) => [.sv (.one (I x.1)), .sv (.one (I x.2))]) (fun (r : Int) => .sv (.one (I r))) domgo go)))), (3, .sv (.one (.rd (fvR (fun (x : Int) => [.sv (.one (I x))]) (fun (r : Int) => .sv (.one (I r))) dommark mark)))), (4, .sv (.one (I limit))), (10, .sv (.one (.ptr 0 0))), (12, .sv (.one (.ptr 1 0))), (13, .sv (.one (.own 2))), (14, .sv (.one (.own 3)))], [.box [I 0, I 0, .v (.slice none 0 0), .v (.slice none 0 0)] 80 false, .box [I letters, I 0, .own 6, .own 10] 80 false, mapI encI3 intT m2_2, rowI 3 intT l3_2, .gone, .gone, rowI 22 (lsT intT) (l6 ++ ([l8] : (List (List Int)))), .gone, .gone, .gone, rowI 3 intT (l7 ++ ([(mark e)] : (List Int)))]⟩ (by kernel_rfl) hn (by kernel_rfl) (by rfl) (by kernel_rfl) ?_ (by kernel_rfl) ?_
      · exact ⟨.mt ⟨[(12, .sv (.one (.ptr 1 0)))], []⟩ [] none (by kernel_rfl) (by rfl) (mt_ev ht (by kernel_rfl)) rfl rfl rfl rfl,
    .mt ⟨[(82, .sv (.one (.ptr 1 3)))], [.gone, .box [I letters, I 0, .own 6, .own 7] 80 false]⟩ [] none (by kernel_rfl) (by rfl) (mt_ev ht (by kernel_rfl)) rfl rfl rfl rfl,
    .mt ⟨[(3, .sv (.one (.rd (fvR (fun (x : Int) => [.sv (.one (I x))]) (fun (r : Int) => .sv (.one (I r))) dommark mark))))], []⟩ [] none (by kernel_rfl) (by rfl) (mt_ev ht (by kernel_rfl)) rfl rfl rfl rfl,
    .mt ⟨[(15, .sv (.one (I e)))], []⟩ [] none (by kernel_rfl) (by rfl) (mt_ev ht (by kernel_rfl)) rfl rfl rfl rfl,
    .mt ⟨[(84, .sv (.one (.rd (fvR (fun (x : Int) => [.sv (.one (I x))]) (fun (r : Int) => .sv (.one (I r))) dommark mark)))), (85, .sv (.one (I e)))], []⟩ [] none (by kernel_rfl) (by rfl) (mt_callv (ins := (fun (x : Int) => [.sv (.one (I x))])) (out := (fun (r : Int) => .sv (.one (I r)))) (dom := dommark) (φ := mark) e hp_2 rfl (by rfl) (by rfl) (by rfl) (by rfl)) rfl rfl rfl rfl,
    .mt ⟨[(86, .sv (.one (I (mark e))))], []⟩ [] none (by kernel_rfl) (by rfl) (mt_seal (q := 10) (e := 3) (mt_lit (T := intT) ([(mark e)] : (List Int)) (mt_bsl 10 (r := cellsOf intT ([(mark e)] : (List Int))) ht rfl (by rfl) (by rfl) (by rfl) (by kernel_rfl) (by rfl)) (fun _ h => by cases h) (fun _ => rfl) (fun _ => rfl) (by rfl) (Nat.le_of_ble_eq_true rfl))) rfl rfl rfl rfl,
    .mt ⟨[(83, .sv (.one (.own 7))), (87, .sv (.one (LS intT ([(mark e)] : (List Int)))))], [.gone, .gone, .gone, .gone, .gone, .gone, .gone, rowI 3 intT l7]⟩ [7] (some 10) (by kernel_rfl) (by rfl) (mt_append (T := intT) (l := l7) (es := ([(mark e)] : (List Int))) (p := 10) ht rfl (by rfl) (by rfl) (by rfl) (by rfl) (by decide) (by rfl) (by rfl) (srcLS (T := intT) (es := ([(mark e)] : (List Int))) (fun _ h => by cases h) (by decide) (by rfl)) (by exact hp_3) (by exact hp_3.le (by decide))) rfl rfl rfl rfl,
    .mt ⟨[(12, .sv (.one (.ptr 1 0)))], []⟩ [] none (by kernel_rfl) (by rfl) (mt_ev ht (by kernel_rfl)) rfl rfl rfl rfl,
    .mu ⟨[(88, .sv (.one (.own 10))), (89, .sv (.one (.ptr 1 3)))], [.gone, .box [I letters, I 0, .own 6, .own 7] 80 false]⟩ 1 _ _ rfl rfl (by kernel_rfl) (by rfl) (mu_store2 ht rfl (by rfl) (by rfl) (by rfl) (by rfl) (fun h => by cases h) (by rfl) (by rfl)) rfl rfl rfl rfl rfl rfl rfl,
    trivial⟩
      · refine En.move 10 7 (by rfl) (by rfl) ?_
        exact En.at (I := fun zz => Inv zz.1 zz.2.1 zz.2.2.1 zz.2.2.2 ∧ mu zz.1 zz.2.1 zz.2.2.1 zz.2.2.2 < mu m2 l3 l6 l7) (T := fun zz => ⟨[(0, .sv (.one (I letters))), (2, .sv (.one (.rd (fvR (fun (x : (Int × Int)) => [.sv (.one (I x.1)), .sv (.one (I x.2))]) (fun (r : Int) => .sv (.one (I r))) domgo go)))), (3, .sv (.one (.rd (fvR (fun (x : Int) => [.sv (.one (I x))]) (fun (r : Int) => .sv (.one (I r))) dommark mark)))), (4, .sv (.one (I limit))), (10, .sv (.one (.ptr 0 0))), (12, .sv (.one (.ptr 1 0))), (13, .sv (.one (.own 2))), (14, .sv (.one (.own 3)))], [.box [I 0, I 0, .v (.slice none 0 0), .v (.slice none 0 0)] 80 false, .box [I letters, I 0, .own 6, .own 7] 80 false, mapI encI3 intT zz.1, rowI 3 intT zz.2.1, .gone, .gone, rowI 22 (lsT intT) zz.2.2.1, rowI 3 intT zz.2.2.2]⟩) (m2_2, l3_2, (l6 ++ ([l8] : (List (List Int)))), (l7 ++ ([(mark e)] : (List Int)))) h (by kernel_rfl)
  · replace h := h.2 hb
    refine En.exit rfl ?_
    refine En.seq ?_
    refine En.region ?_
    refine WL.run ht hn 3 ⟨[(10, .sv (.one (.ptr 0 0))), (11, .sv (.one (B true)))], [.box [I letters, I 0, .own 6, .own 7] 80 false, .gone, .gone, .gone, .gone, .gone, rowI 22 (lsT intT) l6, rowI 3 intT l7]⟩ (by kernel_rfl) ?_
    refine WL.nil ?_
    refine En.ret ?_
    refine En.seal 6 (by rfl) ?_
    refine En.seal 7 (by rfl) ?_
    exact En.back ht ((ApiDet.mk letters 0 l6 l7), true) h (by kernel_rfl) rfl
theorem en72 : ∀ args w, (callFunc 72 args).run Try.prog w = .ok (.enter 72 args) w := enters_of Try.func72 (by kernel_rfl) rfl
def exploreOwn_vc (letters : Int) (start : Int) (domgo : ((Int × Int) → Prop)) (go : ((Int × Int) → Int)) (dommark : (Int → Prop)) (mark : (Int → Int)) (limit : Int) (Q : (ApiDet × Bool) → Prop) : Prop :=
  ∃ (Inv : (List (Int × Int)) → (List Int) → (List (List Int)) → (List Int) → Prop) (mu : (List (Int × Int)) → (List Int) → (List (List Int)) → (List Int) → Nat), Inv (mput start 0 ([] : List (Int × Int))) ([start] : (List Int)) ([] : (List (List Int))) ([] : (List Int)) ∧
  ∀ (m2 : (List (Int × Int))) (l3 : (List Int)) (l6 : (List (List Int))) (l7 : (List Int)) , Inv m2 l3 l6 l7 → (IfP (decide ((l6.length : Int) < (l3.length : Int))) (∃ e, idx l3 (l6.length : Int) = some e ∧
  makeOk letters letters 8 ∧
  ∃ (Inv_2 : Int → (List (Int × Int)) → (List Int) → (List Int) → Prop) (mu_2 : Int → (List (Int × Int)) → (List Int) → (List Int) → Nat), Inv_2 0 m2 l3 (List.replicate (letters).toNat (0 : Int)) ∧
  ∀ (x43 : Int) (m2_2 : (List (Int × Int))) (l3_2 : (List Int)) (l8 : (List Int)) , Inv_2 x43 m2_2 l3_2 l8 → (IfP (decide (x43 < letters)) ((domgo (e, x43)) ∧
  ∃ J : Int → (List (Int × Int)) → (List Int) → Prop, (IfP (!(mget (go (e, x43)) m2_2).isSome) (IfP ((l3_2.length : Int) == limit) (Q ((ApiDet.mk 0 0 [] ([] : (List Int))), false)) (capOk l3_2.length (([(go (e, x43))] : (List Int)) : (List Int)).length 8 ∧
  J (l3_2.length : Int) (mput (go (e, x43)) (l3_2.length : Int) m2_2) (l3_2 ++ ([(go (e, x43))] : (List Int))))) (J ((mget (go (e, x43)) m2_2).getD (0 : Int)) m2_2 l3_2)) ∧
  (∀ (x19 : Int) (m2_3 : (List (Int × Int))) (l3_3 : (List Int)), J x19 m2_3 l3_3 → ∃ e_2, idx l8 x43 = some e_2 ∧
  (Inv_2 (wr (x43 + 1)) m2_3 l3_3 (l8.set (x43).toNat x19) ∧ mu_2 (wr (x43 + 1)) m2_3 l3_3 (l8.set (x43).toNat x19) < mu_2 x43 m2_2 l3_2 l8))) (capOk l6.length (([l8] : (List (List Int))) : (List (List Int))).length 24 ∧
  (dommark e) ∧
  capOk l7.length (([(mark e)] : (List Int)) : (List Int)).length 8 ∧
  (Inv m2_2 l3_2 (l6 ++ ([l8] : (List (List Int)))) (l7 ++ ([(mark e)] : (List Int))) ∧ mu m2_2 l3_2 (l6 ++ ([l8] : (List (List Int)))) (l7 ++ ([(mark e)] : (List Int))) < mu m2 l3 l6 l7)))) (Q ((ApiDet.mk letters 0 l6 l7), true)))
theorem exploreOwn_walk (letters : Int) (start : Int) (domgo : ((Int × Int) → Prop)) (go : ((Int × Int) → Int)) (dommark : (Int → Prop)) (mark : (Int → Int)) (limit : Int) (Q : (ApiDet × Bool) → Prop) (h : exploreOwn_vc letters start domgo go dommark mark limit Q) : CtS 72 [.sv (.one (I letters)), .sv (.one (I start)), .sv (.one (.rd (fvR (fun (x : (Int × Int)) => [.sv (.one (I x.1)), .sv (.one (I x.2))]) (fun (r : Int) => .sv (.one (I r))) domgo go))), .sv (.one (.rd (fvR (fun (x : Int) => [.sv (.one (I x))]) (fun (r : Int) => .sv (.one (I r))) dommark mark))), .sv (.one (I limit))] [] Q (fun (r : (ApiDet × Bool)) => .tup [.agg [I r.1.fLetters, I r.1.fStart, LS (lsT intT) r.1.fNext, .own 0], .one (B r.2)]) (fun (r : (ApiDet × Bool)) => rowI 3 intT r.1.fMark) := by
  have ht := tab_ok
  refine CtS.body Try.func72 rfl rfl rfl rfl (fun c hn hmay => ?_)
  unfold exploreOwn_vc at h
  refine En.seq ?_
  refine En.region ?_
  refine WL.run ht hn 2 ⟨[(0, .sv (.one (I letters))), (1, .sv (.one (I start))), (2, .sv (.one (.rd (fvR (fun (x : (Int × Int)) => [.sv (.one (I x.1)), .sv (.one (I x.2))]) (fun (r : Int) => .sv (.one (I r))) domgo go)))), (3, .sv (.one (.rd (fvR (fun (x : Int) => [.sv (.one (I x))]) (fun (r : Int) => .sv (.one (I r))) dommark mark)))), (4, .sv (.one (I limit))), (10, .sv (.one (.ptr 0 0)))], [.box [I 0, I 0, .v (.slice none 0 0), .v (.slice none 0 0)] 80 false]⟩ (by kernel_rfl) ?_
  refine WL.nil ?_
  refine En.seq ?_
  refine En.region ?_
  refine WL.run ht hn 4 ⟨[(0, .sv (.one (I letters))), (1, .sv (.one (I start))), (2, .sv (.one (.rd (fvR (fun (x : (Int × Int)) => [.sv (.one (I x.1)), .sv (.one (I x.2))]) (fun (r : Int) => .sv (.one (I r))) domgo go)))), (3, .sv (.one (.rd (fvR (fun (x : Int) => [.sv (.one (I x))]) (fun (r : Int) => .sv (.one (I r))) dommark mark)))), (4, .sv (.one (I limit))), (10, .sv (.one (.ptr 0 0))), (12, .sv (.one (.ptr 1 0)))], [.box [I 0, I 0, .v (.slice none 0 0), .v (.slice none 0 0)] 80 false, .box [I letters, I 0, .v (.slice none 0 0), .v (.slice none 0 0)] 80 false]⟩ (by kernel_rfl) ?_
  refine WL.nil ?_
  refine En.seq ?_
  refine En.region ?_
  refine WL.mt0 (K := []) (p := some (2, mapI encI3 intT ([] : List (Int × Int)))) hn (by rfl) (mt_makeMap encI3 intT 2 rfl) (by rfl) (by rfl) (by rfl) ?_
  refine WL.run ht hn 1 ⟨[(0, .sv (.one (I letters))), (1, .sv (.one (I start))), (2, .sv (.one (.rd (fvR (fun (x : (Int × Int)) => [.sv (.one (I x.1)), .sv (.one (I x.2))]) (fun (r : Int) => .sv (.one (I r))) domgo go)))), (3, .sv (.one (.rd (fvR (fun (x : Int) => [.sv (.one (I x))]) (fun (r : Int) => .sv (.one (I r))) dommark mark)))), (4, .sv (.one (I limit))), (10, .sv (.one (.ptr 0 0))), (12, .sv (.one (.ptr 1 0))), (23, .sv (.one (.own 2))), (24, .sv (.one (I start)))], [.box [I 0, I 0, .v (.slice none 0 0), .v (.slice none 0 0)] 80 false, .box [I letters, I 0, .v (.slice none 0 0), .v (.slice none 0 0)] 80 false, mapI encI3 intT ([] : List (Int × Int))]⟩ (by kernel_rfl) ?_
  refine WL.mapPut (T := intT) keyI3 (k := start) (y := 0) hn (by rfl) (.inr rfl) Try.underlying229 (by rfl) (by rfl) (by rfl) (by rfl) (by rfl) (by rfl) ?_
  refine WL.run ht hn 2 ⟨[(0, .sv (.one (I letters))), (1, .sv (.one (I start))), (2, .sv (.one (.rd (fvR (fun (x : (Int × Int)) => [.sv (.one (I x.1)), .sv (.one (I x.2))]) (fun (r : Int) => .sv (.one (I r))) domgo go)))), (3, .sv (.one (.rd (fvR (fun (x : Int) => [.sv (.one (I x))]) (fun (r : Int) => .sv (.one (I r))) dommark mark)))), (4, .sv (.one (I limit))), (10, .sv (.one (.ptr 0 0))), (12, .sv (.one (.ptr 1 0))), (13, .sv (.one (.own 2)))], [.box [I 0, I 0, .v (.slice none 0 0), .v (.slice none 0 0)] 80 false, .box [I letters, I 0, .v (.slice none 0 0), .v (.slice none 0 0)] 80 false, mapI encI3 intT (mput start 0 ([] : List (Int × Int)))]⟩ (by kernel_rfl) ?_
  refine WL.nil ?_
  refine En.seq ?_
  refine En.seq ?_
  refine En.region ?_
  refine WL.run ht hn 1 ⟨[(0, .sv (.one (I letters))), (2, .sv (.one (.rd (fvR (fun (x : (Int × Int)) => [.sv (.one (I x.1)), .sv (.one (I x.2))]) (fun (r : Int) => .sv (.one (I r))) domgo go)))), (3, .sv (.one (.rd (fvR (fun (x : Int) => [.sv (.one (I x))]) (fun (r : Int) => .sv (.one (I r))) dommark mark)))), (4, .sv (.one (I limit))), (10, .sv (.one (.ptr 0 0))), (12, .sv (.one (.ptr 1 0))), (13, .sv (.one (.own 2))), (26, .sv (.one (I start)))], [.box [I 0, I 0, .v (.slice none 0 0), .v (.slice none 0 0)] 80 false, .box [I letters, I 0, .v (.slice none 0 0), .v (.slice none 0 0)] 80 false, mapI encI3 intT (mput start 0 ([] : List (Int × Int)))]⟩ (by kernel_rfl) ?_
  refine WL.mt0 (K := []) (p := some (3, rowI 3 intT ([start] : (List Int)))) hn (by rfl) (mt_lit (T := intT) ([start] : (List Int)) (mt_bsl 3 (r := cellsOf intT ([start] : (List Int))) ht rfl (by rfl) (by rfl) (by rfl) (by kernel_rfl) (by rfl)) (fun _ h => by cases h) (fun _ => rfl) (fun _ => rfl) (by rfl) (Nat.le_of_ble_eq_true rfl)) (by rfl) (by rfl) (by rfl) ?_
  refine WL.run ht hn 1 ⟨[(0, .sv (.one (I letters))), (2, .sv (.one (.rd (fvR (fun (x : (Int × Int)) => [.sv (.one (I x.1)), .sv (.one (I x.2))]) (fun (r : Int) => .sv (.one (I r))) domgo go)))), (3, .sv (.one (.rd (fvR (fun (x : Int) => [.sv (.one (I x))]) (fun (r : Int) => .sv (.one (I r))) dommark mark)))), (4, .sv (.one (I limit))), (10, .sv (.one (.ptr 0 0))), (12, .sv (.one (.ptr 1 0))), (13, .sv (.one (.own 2))), (14, .sv (.one (.own 3)))], [.box [I 0, I 0, .v (.slice none 0 0), .v (.slice none 0 0)] 80 false, .box [I letters, I 0, .v (.slice none 0 0), .v (.slice none 0 0)] 80 false, mapI encI3 intT (mput start 0 ([] : List (Int × Int))), rowI 3 intT ([start] : (List Int))]⟩ (by kernel_rfl) ?_
  refine WL.nil ?_
  refine En.block ?_
  refine En.nilBoxO (T := (lsT intT)) 1 2 6 22 (by rfl) (by rfl) (by rfl) (by rfl) ?_
  refine En.nilBoxO (T := intT) 1 3 7 3 (by rfl) (by rfl) (by rfl) (by rfl) ?_
  obtain ⟨Inv, mu, h0_2, hI_2⟩ := h
  refine En.loop (σ := (List (Int × Int)) × (List Int) × (List (List Int)) × (List Int)) (fun zz => Inv zz.1 zz.2.1 zz.2.2.1 zz.2.2.2) (fun zz => mu zz.1 zz.2.1 zz.2.2.1 zz.2.2.2) (fun zz => ⟨[(0, .sv (.one (I letters))), (2, .sv (.one (.rd (fvR (fun (x : (Int × Int)) => [.sv (.one (I x.1)), .sv (.one (I x.2))]) (fun (r : Int) => .sv (.one (I r))) domgo go)))), (3, .sv (.one (.rd (fvR (fun (x : Int) => [.sv (.one (I x))]) (fun (r : Int) => .sv (.one (I r))) dommark mark)))), (4, .sv (.one (I limit))), (10, .sv (.one (.ptr 0 0))), (12, .sv (.one (.ptr 1 0))), (13, .sv (.one (.own 2))), (14, .sv (.one (.own 3)))], [.box [I 0, I 0, .v (.slice none 0 0), .v (.slice none 0 0)] 80 false, .box [I letters, I 0, .own 6, .own 7] 80 false, mapI encI3 intT zz.1, rowI 3 intT zz.2.1, .gone, .gone, rowI 22 (lsT intT) zz.2.2.1, rowI 3 intT zz.2.2.2]⟩) ((mput start 0 ([] : List (Int × Int))), ([start] : (List Int)), ([] : (List (List Int))), ([] : (List Int))) h0_2 (sub_ok (by kernel_rfl)) ?_
  rintro ⟨m2, l3, l6, l7⟩ h
  replace h := hI_2 _ _ _ _ h
  show En c ⟨[(0, .sv (.one (I letters))), (2, .sv (.one (.rd (fvR (fun (x : (Int × Int)) => [.sv (.one (I x.1)), .sv (.one (I x.2))]) (fun (r : Int) => .sv (.one (I r))) domgo go)))), (3, .sv (.one (.rd (fvR (fun (x : Int) => [.sv (.one (I x))]) (fun (r : Int) => .sv (.one (I r))) dommark mark)))), (4, .sv (.one (I limit))), (10, .sv (.one (.ptr 0 0))), (12, .sv (.one (.ptr 1 0))), (13, .sv (.one (.own 2))), (14, .sv (.one (.own 3)))], [.box [I 0, I 0, .v (.slice none 0 0), .v (.slice none 0 0)] 80 false, .box [I letters, I 0, .own 6, .own 7] 80 false, mapI encI3 intT m2, rowI 3 intT l3, .gone, .gone, rowI 22 (lsT intT) l6, rowI 3 intT l7]⟩ _
  refine En.seq ?_
  refine En.seq ?_
  refine En.region ?_
  refine WL.run ht hn 6 ⟨[(0, .sv (.one (I letters))), (2, .sv (.one (.rd (fvR (fun (x : (Int × Int)) => [.sv (.one (I x.1)), .sv (.one (I x.2))]) (fun (r : Int) => .sv (.one (I r))) domgo go)))), (3, .sv (.one (.rd (fvR (fun (x : Int) => [.sv (.one (I x))]) (fun (r : Int) => .sv (.one (I r))) dommark mark)))), (4, .sv (.one (I limit))), (10, .sv (.one (.ptr 0 0))), (12, .sv (.one (.ptr 1 0))), (13, .sv (.one (.own 2))), (14, .sv (.one (.own 3))), (33, .sv (.one (B (decide ((l6.length : Int) < (l3.length : Int))))))], [.box [I 0, I 0, .v (.slice none 0 0), .v (.slice none 0 0)] 80 false, .box [I letters, I 0, .own 6, .own 7] 80 false, mapI encI3 intT m2, rowI 3 intT l3, .gone, .gone, rowI 22 (lsT intT) l6, rowI 3 intT l7]⟩ (by kernel_rfl) ?_
  refine WL.nil ?_
  refine En.cond (b := (decide ((l6.length : Int) < (l3.length : Int)))) (by kernel_rfl) (fun hb => ?_) (fun hb => ?_)
  · replace h := h.1 hb
    refine En.skip ?_
    refine En.block ?_
    refine En.seq ?_
    refine En.region ?_
    refine WL.run ht hn 4 ⟨[(0, .sv (.one (I letters))), (2, .sv (.one (.rd (fvR (fun (x : (Int × Int)) => [.sv (.one (I x.1)), .sv (.one (I x.2))]) (fun (r : Int) => .sv (.one (I r))) domgo go)))), (3, .sv (.one (.rd (fvR (fun (x : Int) => [.sv (.one (I x))]) (fun (r : Int) => .sv (.one (I r))) dommark mark)))), (4, .sv (.one (I limit))), (10, .sv (.one (.ptr 0 0))), (12, .sv (.one (.ptr 1 0))), (13, .sv (.one (.own 2))), (14, .sv (.one (.own 3))), (34, .sv (.one (.own 3))), (37, .sv (.one (I (l6.length : Int))))], [.box [I 0, I 0, .v (.slice none 0 0), .v (.slice none 0 0)] 80 false, .box [I letters, I 0, .own 6, .own 7] 80 false, mapI encI3 intT m2, rowI 3 intT l3, .gone, .gone, rowI 22 (lsT intT) l6, rowI 3 intT l7]⟩ (by kernel_rfl) ?_
    obtain ⟨e, he, h⟩ := h
    refine WL.val hn (by rfl) (val_indexO (T := intT) (l := l3) (k := (l6.length : Int)) ht rfl (by rfl) (by rfl) (by rfl) (by rfl) (by decide) (by rfl) (by rfl) (by rfl) he) (by rfl) ?_
    refine WL.val hn (by rfl) (val_loadO (T := intT) (l := l3) (y := e) ht rfl (by rfl) (by rfl) (by rfl) (by rfl) (by rfl) (idx_some he).2.2 (by rfl)) (by rfl) ?_
    refine WL.run ht hn 1 ⟨[(0, .sv (.one (I letters))), (2, .sv (.one (.rd (fvR (fun (x : (Int × Int)) => [.sv (.one (I x.1)), .sv (.one (I x.2))]) (fun (r : Int) => .sv (.one (I r))) domgo go)))), (3, .sv (.one (.rd (fvR (fun (x : Int) => [.sv (.one (I x))]) (fun (r : Int) => .sv (.one (I r))) dommark mark)))), (4, .sv (.one (I limit))), (10, .sv (.one (.ptr 0 0))), (12, .sv (.one (.ptr 1 0))), (13, .sv (.one (.own 2))), (14, .sv (.one (.own 3))), (15, .sv (.one (I e)))], [.box [I 0, I 0, .v (.slice none 0 0), .v (.slice none 0 0)] 80 false, .box [I letters, I 0, .own 6, .own 7] 80 false, mapI encI3 intT m2, rowI 3 intT l3, .gone, .gone, rowI 22 (lsT intT) l6, rowI 3 intT l7]⟩ (by kernel_rfl) ?_
    refine WL.nil ?_
    refine En.seq ?_
    refine En.region ?_
    refine WL.run ht hn 1 ⟨[(0, .sv (.one (I letters))), (2, .sv (.one (.rd (fvR (fun (x : (Int × Int)) => [.sv (.one (I x.1)), .sv (.one (I x.2))]) (fun (r : Int) => .sv (.one (I r))) domgo go)))), (3, .sv (.one (.rd (fvR (fun (x : Int) => [.sv (.one (I x))]) (fun (r : Int) => .sv (.one (I r))) dommark mark)))), (4, .sv (.one (I limit))), (10, .sv (.one (.ptr 0 0))), (12, .sv (.one (.ptr 1 0))), (13, .sv (.one (.own 2))), (14, .sv (.one (.own 3))), (15, .sv (.one (I e))), (40, .sv (.one (I letters)))], [.box [I 0, I 0, .v (.slice none 0 0), .v (.slice none 0 0)] 80 false, .box [I letters, I 0, .own 6, .own 7] 80 false, mapI encI3 intT m2, rowI 3 intT l3, .gone, .gone, rowI 22 (lsT intT) l6, rowI 3 intT l7]⟩ (by kernel_rfl) ?_
    have hp := h.1
    replace h := h.2
    refine WL.mt0 (K := []) (p := some (8, rowI 3 intT (List.replicate (letters).toNat (0 : Int)))) hn (by rfl) (mt_make (T := intT) (0 : Int) (zv := (.int .i64 0)) 8 (l := letters) (cp := letters) ht rfl (by rfl) (by rfl) (by rfl) (by rfl) (by decide) (by rfl) (by rfl) hp.1 hp.2.1 hp.2.2 (hp.le (by decide)) rfl (fun _ => ⟨rfl, trivial⟩)) (by rfl) (by rfl) (by rfl) ?_
    refine WL.run ht hn 1 ⟨[(0, .sv (.one (I letters))), (2, .sv (.one (.rd (fvR (fun (x : (Int × Int)) => [.sv (.one (I x.1)), .sv (.one (I x.2))]) (fun (r : Int) => .sv (.one (I r))) domgo go)))), (3, .sv (.one (.rd (fvR (fun (x : Int) => [.sv (.one (I x))]) (fun (r : Int) => .sv (.one (I r))) dommark mark)))), (4, .sv (.one (I limit))), (10, .sv (.one (.ptr 0 0))), (12, .sv (.one (.ptr 1 0))), (13, .sv (.one (.own 2))), (14, .sv (.one (.own 3))), (15, .sv (.one (I e))), (16, .sv (.one (.own 8)))], [.box [I 0, I 0, .v (.slice none 0 0), .v (.slice none 0 0)] 80 false, .box [I letters, I 0, .own 6, .own 7] 80 false, mapI encI3 intT m2, rowI 3 intT l3, .gone, .gone, rowI 22 (lsT intT) l6, rowI 3 intT l7, rowI 3 intT (List.replicate (letters).toNat (0 : Int))]⟩ (by kernel_rfl) ?_
    refine WL.nil ?_
    refine En.seq ?_
    refine En.seq ?_
    refine En.region ?_
    refine WL.run ht hn 2 ⟨[(0, .sv (.one (I letters))), (2, .sv (.one (.rd (fvR (fun (x : (Int × Int)) => [.sv (.one (I x.1)), .sv (.one (I x.2))]) (fun (r : Int) => .sv (.one (I r))) domgo go)))), (3, .sv (.one (.rd (fvR (fun (x : Int) => [.sv (.one (I x))]) (fun (r : Int) => .sv (.one (I r))) dommark mark)))), (4, .sv (.one (I limit))), (10, .sv (.one (.ptr 0 0))), (12, .sv (.one (.ptr 1 0))), (13, .sv (.one (.own 2))), (14, .sv (.one (.own 3))), (15, .sv (.one (I e))), (16, .sv (.one (.own 8))), (42, .sv (.one (I letters))), (43, .sv (.one (I 0)))], [.box [I 0, I 0, .v (.slice none 0 0), .v (.slice none 0 0)] 80 false, .box [I letters, I 0, .own 6, .own 7] 80 false, mapI encI3 intT m2, rowI 3 intT l3, .gone, .gone, rowI 22 (lsT intT) l6, rowI 3 intT l7, rowI 3 intT (List.replicate (letters).toNat (0 : Int))]⟩ (by kernel_rfl) ?_
    refine WL.nil ?_
    refine En.block ?_
    obtain ⟨Inv_2, mu_2, h0, hI⟩ := h
    refine En.loop (σ := Int × (List (Int × Int)) × (List Int) × (List Int)) (fun zz => Inv_2 zz.1 zz.2.1 zz.2.2.1 zz.2.2.2) (fun zz => mu_2 zz.1 zz.2.1 zz.2.2.1 zz.2.2.2) (fun zz => ⟨[(0, .sv (.one (I letters))), (2, .sv (.one (.rd (fvR (fun (x : (Int × Int)) => [.sv (.one (I x.1)), .sv (.one (I x.2))]) (fun (r : Int) => .sv (.one (I r))) domgo go)))), (3, .sv (.one (.rd (fvR (fun (x : Int) => [.sv (.one (I x))]) (fun (r : Int) => .sv (.one (I r))) dommark mark)))), (4, .sv (.one (I limit))), (10, .sv (.one (.ptr 0 0))), (12, .sv (.one (.ptr 1 0))), (13, .sv (.one (.own 2))), (14, .sv (.one (.own 3))), (15, .sv (.one (I e))), (16, .sv (.one (.own 8))), (42, .sv (.one (I letters))), (43, .sv (.one (I zz.1)))], [.box [I 0, I 0, .v (.slice none 0 0), .v (.slice none 0 0)] 80 false, .box [I letters, I 0, .own 6, .own 7] 80 false, mapI encI3 intT zz.2.1, rowI 3 intT zz.2.2.1, .gone, .gone, rowI 22 (lsT intT) l6, rowI 3 intT l7, rowI 3 intT zz.2.2.2]⟩) (0, m2, l3, (List.replicate (letters).toNat (0 : Int))) h0 (sub_ok (by kernel_rfl)) ?_
    rintro ⟨x43, m2_2, l3_2, l8⟩ h
    replace h := hI _ _ _ _ h
    show En c ⟨[(0, .sv (.one (I letters))), (2, .sv (.one (.rd (fvR (fun (x : (Int × Int)) => [.sv (.one (I x.1)), .sv (.one (I x.2))]) (fun (r : Int) => .sv (.one (I r))) domgo go)))), (3, .sv (.one (.rd (fvR (fun (x : Int) => [.sv (.one (I x))]) (fun (r : Int) => .sv (.one (I r))) dommark mark)))), (4, .sv (.one (I limit))), (10, .sv (.one (.ptr 0 0))), (12, .sv (.one (.ptr 1 0))), (13, .sv (.one (.own 2))), (14, .sv (.one (.own 3))), (15, .sv (.one (I e))), (16, .sv (.one (.own 8))), (42, .sv (.one (I letters))), (43, .sv (.one (I x43)))], [.box [I 0, I 0, .v (.slice none 0 0), .v (.slice none 0 0)] 80 false, .box [I letters, I 0, .own 6, .own 7] 80 false, mapI encI3 intT m2_2, rowI 3 intT l3_2, .gone, .gone, rowI 22 (lsT intT) l6, rowI 3 intT l7, rowI 3 intT l8]⟩ _
    refine En.seq ?_
    refine En.region ?_
    refine WL.run ht hn 1 ⟨[(0, .sv (.one (I letters))), (2, .sv (.one (.rd (fvR (fun (x : (Int × Int)) => [.sv (.one (I x.1)), .sv (.one (I x.2))]) (fun (r : Int) => .sv (.one (I r))) domgo go)))), (3, .sv (.one (.rd (fvR (fun (x : Int) => [.sv (.one (I x))]) (fun (r : Int) => .sv (.one (I r))) dommark mark)))), (4, .sv (.one (I limit))), (10, .sv (.one (.ptr 0 0))), (12, .sv (.one (.ptr 1 0))), (13, .sv (.one (.own 2))), (14, .sv (.one (.own 3))), (15, .sv (.one (I e))), (16, .sv (.one (.own 8))), (42, .sv (.one (I letters))), (43, .sv (.one (I x43))), (44, .sv (.one (B (decide (x43 < letters)))))], [.box [I 0, I 0, .v (.slice none 0 0), .v (.slice none 0 0)] 80 false, .box [I letters, I 0, .own 6, .own 7] 80 false, mapI encI3 intT m2_2, rowI 3 intT l3_2, .gone, .gone, rowI 22 (lsT intT) l6, rowI 3 intT l7, rowI 3 intT l8]⟩ (by kernel_rfl) ?_
    refine WL.nil ?_
    refine En.seq ?_
    refine En.cond (b := (decide (x43 < letters))) (by kernel_rfl) (fun hb => ?_) (fun hb => ?_)
    · replace h := h.1 hb
      refine En.skip ?_
      refine En.seq ?_
      refine En.block ?_
      refine En.seq ?_
      refine En.region ?_
      refine WL.run ht hn 2 ⟨[(0, .sv (.one (I letters))), (2, .sv (.one (.rd (fvR (fun (x : (Int × Int)) => [.sv (.one (I x.1)), .sv (.one (I x.2))]) (fun (r : Int) => .sv (.one (I r))) domgo go)))), (3, .sv (.one (.rd (fvR (fun (x : Int) => [.sv (.one (I x))]) (fun (r : Int) => .sv (.one (I r))) dommark mark)))), (4, .sv (.one (I limit))), (10, .sv (.one (.ptr 0 0))), (12, .sv (.one (.ptr 1 0))), (13, .sv (.one (.own 2))), (14, .sv (.one (.own 3))), (15, .sv (.one (I e))), (16, .sv (.one (.own 8))), (17, .sv (.one (I x43))), (42, .sv (.one (I letters))), (43, .sv (.one (I x43)))], [.box [I 0, I 0, .v (.slice none 0 0), .v (.slice none 0 0)] 80 false, .box [I letters, I 0, .own 6, .own 7] 80 false, mapI encI3 intT m2_2, rowI 3 intT l3_2, .gone, .gone, rowI 22 (lsT intT) l6, rowI 3 intT l7, rowI 3 intT l8]⟩ (by kernel_rfl) ?_
      refine WL.nil ?_
      refine En.seq ?_
      refine En.region ?_
      refine WL.run ht hn 3 ⟨[(0, .sv (.one (I letters))), (2, .sv (.one (.rd (fvR (fun (x : (Int × Int)) => [.sv (.one (I x.1)), .sv (.one (I x.2))]) (fun (r : Int) => .sv (.one (I r))) domgo go)))), (3, .sv (.one (.rd (fvR (fun (x : Int) => [.sv (.one (I x))]) (fun (r : Int) => .sv (.one (I r))) dommark mark)))), (4, .sv (.one (I limit))), (10, .sv (.one (.ptr 0 0))), (12, .sv (.one (.ptr 1 0))), (13, .sv (.one (.own 2))), (14, .sv (.one (.own 3))), (15, .sv (.one (I e))), (16, .sv (.one (.own 8))), (17, .sv (.one (I x43))), (42, .sv (.one (I letters))), (43, .sv (.one (I x43))), (46, .sv (.one (.rd (fvR (fun (x : (Int × Int)) => [.sv (.one (I x.1)), .sv (.one (I x.2))]) (fun (r : Int) => .sv (.one (I r))) domgo go)))), (47, .sv (.one (I e))), (48, .sv (.one (I x43)))], [.box [I 0, I 0, .v (.slice none 0 0), .v (.slice none 0 0)] 80 false, .box [I letters, I 0, .own 6, .own 7] 80 false, mapI encI3 intT m2_2, rowI 3 intT l3_2, .gone, .gone, rowI 22 (lsT intT) l6, rowI 3 intT l7, rowI 3 intT l8]⟩ (by kernel_rfl) ?_
      have hp := h.1
      replace h := h.2
      refine WL.mt0 (K := []) (p := none) hn (by rfl) (mt_callv (e, x43) hp rfl (by rfl) (by rfl) (by rfl) (by rfl)) (by rfl) (by rfl) (by rfl) ?_
      refine WL.run ht hn 1 ⟨[(0, .sv (.one (I letters))), (2, .sv (.one (.rd (fvR (fun (x : (Int × Int)) => [.sv (.one (I x.1)), .sv (.one (I x.2))]) (fun (r : Int) => .sv (.one (I r))) domgo go)))), (3, .sv (.one (.rd (fvR (fun (x : Int) => [.sv (.one (I x))]) (fun (r : Int) => .sv (.one (I r))) dommark mark)))), (4, .sv (.one (I limit))), (10, .sv (.one (.ptr 0 0))), (12, .sv (.one (.ptr 1 0))), (13, .sv (.one (.own 2))), (14, .sv (.one (.own 3))), (15, .sv (.one (I e))), (16, .sv (.one (.own 8))), (17, .sv (.one (I x43))), (18, .sv (.one (I (go (e, x43))))), (42, .sv (.one (I letters))), (43, .sv (.one (I x43)))], [.box [I 0, I 0, .v (.slice none 0 0), .v (.slice none 0 0)] 80 false, .box [I letters, I 0, .own 6, .own 7] 80 false, mapI encI3 intT m2_2, rowI 3 intT l3_2, .gone, .gone, rowI 22 (lsT intT) l6, rowI 3 intT l7, rowI 3 intT l8]⟩ (by kernel_rfl) ?_
      refine WL.nil ?_
      refine En.seq ?_
      refine En.region ?_
      refine WL.run ht hn 2 ⟨[(0, .sv (.one (I letters))), (2, .sv (.one (.rd (fvR (fun (x : (Int × Int)) => [.sv (.one (I x.1)), .sv (.one (I x.2))]) (fun (r : Int) => .sv (.one (I r))) domgo go)))), (3, .sv (.one (.rd (fvR (fun (x : Int) => [.sv (.one (I x))]) (fun (r : Int) => .sv (.one (I r))) dommark mark)))), (4, .sv (.one (I limit))), (10, .sv (.one (.ptr 0 0))), (12, .sv (.one (.ptr 1 0))), (13, .sv (.one (.own 2))), (14, .sv (.one (.own 3))), (15, .sv (.one (I e))), (16, .sv (.one (.own 8))), (17, .sv (.one (I x43))), (18, .sv (.one (I (go (e, x43))))), (42, .sv (.one (I letters))), (43, .sv (.one (I x43))), (51, .sv (.one (.own 2))), (52, .sv (.one (I (go (e, x43)))))], [.box [I 0, I 0, .v (.slice none 0 0), .v (.slice none 0 0)] 80 false, .box [I letters, I 0, .own 6, .own 7] 80 false, mapI encI3 intT m2_2, rowI 3 intT l3_2, .gone, .gone, rowI 22 (lsT intT) l6, rowI 3 intT l7, rowI 3 intT l8]⟩ (by kernel_rfl) ?_
      refine WL.val hn (by rfl) (val_lookup (T := intT) (D := m2_2) keyI3 (k := (go (e, x43))) (ok := true) (0 : Int) (zv := (.int .i64 0)) rfl Try.underlying229 (fun _ => by kernel_rfl) (fun _ => ⟨rfl, trivial⟩) (mapAs encI3 intT m2_2) (by rfl) (by rfl) (by rfl) (fun _ => rfl)) (by rfl) ?_
      refine WL.run ht hn 5 ⟨[(0, .sv (.one (I letters))), (2, .sv (.one (.rd (fvR (fun (x : (Int × Int)) => [.sv (.one (I x.1)), .sv (.one (I x.2))]) (fun (r : Int) => .sv (.one (I r))) domgo go)))), (3, .sv (.one (.rd (fvR (fun (x : Int) => [.sv (.one (I x))]) (fun (r : Int) => .sv (.one (I r))) dommark mark)))), (4, .sv (.one (I limit))), (10, .sv (.one (.ptr 0 0))), (12, .sv (.one (.ptr 1 0))), (13, .sv (.one (.own 2))), (14, .sv (.one (.own 3))), (15, .sv (.one (I e))), (16, .sv (.one (.own 8))), (17, .sv (.one (I x43))), (18, .sv (.one (I (go (e, x43))))), (19, .sv (.one (I ((mget (go (e, x43)) m2_2).getD (0 : Int))))), (20, .sv (.one (B (mget (go (e, x43)) m2_2).isSome))), (42, .sv (.one (I letters))), (43, .sv (.one (I x43)))], [.box [I 0, I 0, .v (.slice none 0 0), .v (.slice none 0 0)] 80 false, .box [I letters, I 0, .own 6, .own 7] 80 false, mapI encI3 intT m2_2, rowI 3 intT l3_2, .gone, .gone, rowI 22 (lsT intT) l6, rowI 3 intT l7, rowI 3 intT l8]⟩ (by kernel_rfl) ?_
      refine WL.nil ?_
      obtain ⟨J, h, hJ⟩ := h
      refine En.seqJ (σ := Int × (List (Int × Int)) × (List Int)) (fun zz => J zz.1 zz.2.1 zz.2.2) (fun zz => ⟨[(0, .sv (.one (I letters))), (2, .sv (.one (.rd (fvR (fun (x : (Int × Int)) => [.sv (.one (I x.1)), .sv (.one (I x.2))]) (fun (r : Int) => .sv (.one (I r))) domgo go)))), (3, .sv (.one (.rd (fvR (fun (x : Int) => [.sv (.one (I x))]) (fun (r : Int) => .sv (.one (I r))) dommark mark)))), (4, .sv (.one (I limit))), (10, .sv (.one (.ptr 0 0))), (12, .sv (.one (.ptr 1 0))), (13, .sv (.one (.own 2))), (14, .sv (.one (.own 3))), (15, .sv (.one (I e))), (16, .sv (.one (.own 8))), (17, .sv (.one (I x43))), (19, .sv (.one (I zz.1))), (42, .sv (.one (I letters))), (43, .sv (.one (I x43)))], [.box [I 0, I 0, .v (.slice none 0 0), .v (.slice none 0 0)] 80 false, .box [I letters, I 0, .own 6, .own 7] 80 false, mapI encI3 intT zz.2.1, rowI 3 intT zz.2.2, .gone, .gone, rowI 22 (lsT intT) l6, rowI 3 intT l7, rowI 3 intT l8]⟩) ?_ ?_
      · refine En.seq ?_
        refine En.region ?_
        refine WL.run ht hn 2 ⟨[(0, .sv (.one (I letters))), (2, .sv (.one (.rd (fvR (fun (x : (Int × Int)) => [.sv (.one (I x.1)), .sv (.one (I x.2))]) (fun (r : Int) => .sv (.one (I r))) domgo go)))), (3, .sv (.one (.rd (fvR (fun (x : Int) => [.sv (.one (I x))]) (fun (r : Int) => .sv (.one (I r))) dommark mark)))), (4, .sv (.one (I limit))), (10, .sv (.one (.ptr 0 0))), (12, .sv (.one (.ptr 1 0))), (13, .sv (.one (.own 2))), (14, .sv (.one (.own 3))), (15, .sv (.one (I e))), (16, .sv (.one (.own 8))), (17, .sv (.one (I x43))), (18, .sv (.one (I (go (e, x43))))), (19, .sv (.one (I ((mget (go (e, x43)) m2_2).getD (0 : Int))))), (42, .sv (.one (I letters))), (43, .sv (.one (I x43))), (57, .sv (.one (B (!(mget (go (e, x43)) m2_2).isSome))))], [.box [I 0, I 0, .v (.slice none 0 0), .v (.slice none 0 0)] 80 false, .box [I letters, I 0, .own 6, .own 7] 80 false, mapI encI3 intT m2_2, rowI 3 intT l3_2, .gone, .gone, rowI 22 (lsT intT) l6, rowI 3 intT l7, rowI 3 intT l8]⟩ (by kernel_rfl) ?_
        refine WL.nil ?_
        refine En.cond (b := (!(mget (go (e, x43)) m2_2).isSome)) (by kernel_rfl) (fun hb => ?_) (fun hb => ?_)
        · replace h := h.1 hb
          refine En.seq ?_
          refine En.region ?_
          refine WL.run ht hn 3 ⟨[(0, .sv (.one (I letters))), (2, .sv (.one (.rd (fvR (fun (x : (Int × Int)) => [.sv (.one (I x.1)), .sv (.one (I x.2))]) (fun (r : Int) => .sv (.one (I r))) domgo go)))), (3, .sv (.one (.rd (fvR (fun (x : Int) => [.sv (.one (I x))]) (fun (r : Int) => .sv (.one (I r))) dommark mark)))), (4, .sv (.one (I limit))), (10, .sv (.one (.ptr 0 0))), (12, .sv (.one (.ptr 1 0))), (13, .sv (.one (.own 2))), (14, .sv (.one (.own 3))), (15, .sv (.one (I e))), (16, .sv (.one (.own 8))), (17, .sv (.one (I x43))), (18, .sv (.one (I (go (e, x43))))), (19, .sv (.one (I (l3_2.length : Int)))), (42, .sv (.one (I letters))), (43, .sv (.one (I x43)))], [.box [I 0, I 0, .v (.slice none 0 0), .v (.slice none 0 0)] 80 false, .box [I letters, I 0, .own 6, .own 7] 80 false, mapI encI3 intT m2_2, rowI 3 intT l3_2, .gone, .gone, rowI 22 (lsT intT) l6, rowI 3 intT l7, rowI 3 intT l8]⟩ (by kernel_rfl) ?_
          refine WL.nil ?_
          refine En.seq ?_
          refine En.seq ?_
          refine En.region ?_
          refine WL.run ht hn 3 ⟨[(0, .sv (.one (I letters))), (2, .sv (.one (.rd (fvR (fun (x : (Int × Int)) => [.sv (.one (I x.1)), .sv (.one (I x.2))]) (fun (r : Int) => .sv (.one (I r))) domgo go)))), (3, .sv (.one (.rd (fvR (fun (x : Int) => [.sv (.one (I x))]) (fun (r : Int) => .sv (.one (I r))) dommark mark)))), (4, .sv (.one (I limit))), (10, .sv (.one (.ptr 0 0))), (12, .sv (.one (.ptr 1 0))), (13, .sv (.one (.own 2))), (14, .sv (.one (.own 3))), (15, .sv (.one (I e))), (16, .sv (.one (.own 8))), (17, .sv (.one (I x43))), (18, .sv (.one (I (go (e, x43))))), (19, .sv (.one (I (l3_2.length : Int)))), (42, .sv (.one (I letters))), (43, .sv (.one (I x43))), (62, .sv (.one (B ((l3_2.length : Int) == limit))))], [.box [I 0, I 0, .v (.slice none 0 0), .v (.slice none 0 0)] 80 false, .box [I letters, I 0, .own 6, .own 7] 80 false, mapI encI3 intT m2_2, rowI 3 intT l3_2, .gone, .gone, rowI 22 (lsT intT) l6, rowI 3 intT l7, rowI 3 intT l8]⟩ (by kernel_rfl) ?_
          refine WL.nil ?_
          refine En.cond (b := ((l3_2.length : Int) == limit)) (by kernel_rfl) (fun hb => ?_) (fun hb => ?_)
          · replace h := h.1 hb
            refine En.seq ?_
            refine En.region ?_
            refine WL.run ht hn 3 ⟨[(10, .sv (.one (.ptr 0 0))), (11, .sv (.one (B false)))], [.box [I 0, I 0, .v (.slice none 0 0), .v (.slice none 0 0)] 80 false, .gone, .gone, .gone, .gone, .gone, .gone, .gone, .gone]⟩ (by kernel_rfl) ?_
            refine WL.nil ?_
            refine En.ret ?_
            refine En.nilBoxO (T := intT) 0 3 9 3 (by rfl) (by rfl) (by rfl) (by rfl) ?_
            refine En.nilBox (T := (lsT intT)) 0 2 (by rfl) (by rfl) ?_
            exact En.backS ht 9 ((ApiDet.mk 0 0 [] ([] : (List Int))), false) hmay h (by kernel_rfl) (by rfl) rfl rfl
          · replace h := h.2 hb
            refine En.skip ?_
            refine En.seq ?_
            refine En.region ?_
            refine WL.run ht hn 3 ⟨[(0, .sv (.one (I letters))), (2, .sv (.one (.rd (fvR (fun (x : (Int × Int)) => [.sv (.one (I x.1)), .sv (.one (I x.2))]) (fun (r : Int) => .sv (.one (I r))) domgo go)))), (3, .sv (.one (.rd (fvR (fun (x : Int) => [.sv (.one (I x))]) (fun (r : Int) => .sv (.one (I r))) dommark mark)))), (4, .sv (.one (I limit))), (10, .sv (.one (.ptr 0 0))), (12, .sv (.one (.ptr 1 0))), (13, .sv (.one (.own 2))), (14, .sv (.one (.own 3))), (15, .sv (.one (I e))), (16, .sv (.one (.own 8))), (17, .sv (.one (I x43))), (18, .sv (.one (I (go (e, x43))))), (19, .sv (.one (I (l3_2.length : Int)))), (42, .sv (.one (I letters))), (43, .sv (.one (I x43))), (64, .sv (.one (.own 2))), (65, .sv (.one (I (go (e, x43))))), (66, .sv (.one (I (l3_2.length : Int))))], [.box [I 0, I 0, .v (.slice none 0 0), .v (.slice none 0 0)] 80 false, .box [I letters, I 0, .own 6, .own 7] 80 false, mapI encI3 intT m2_2, rowI 3 intT l3_2, .gone, .gone, rowI 22 (lsT intT) l6, rowI 3 intT l7, rowI 3 intT l8]⟩ (by kernel_rfl) ?_
            refine WL.mapPut (T := intT) keyI3 (k := (go (e, x43))) (y := (l3_2.length : Int)) hn (by rfl) (.inl rfl) Try.underlying229 (by rfl) (by rfl) (by rfl) (by rfl) (by rfl) (by rfl) ?_
            refine WL.nil ?_
            refine En.region ?_
            refine WL.run ht hn 2 ⟨[(0, .sv (.one (I letters))), (2, .sv (.one (.rd (fvR (fun (x : (Int × Int)) => [.sv (.one (I x.1)), .sv (.one (I x.2))]) (fun (r : Int) => .sv (.one (I r))) domgo go)))), (3, .sv (.one (.rd (fvR (fun (x : Int) => [.sv (.one (I x))]) (fun (r : Int) => .sv (.one (I r))) dommark mark)))), (4, .sv (.one (I limit))), (10, .sv (.one (.ptr 0 0))), (12, .sv (.one (.ptr 1 0))), (13, .sv (.one (.own 2))), (15, .sv (.one (I e))), (16, .sv (.one (.own 8))), (17, .sv (.one (I x43))), (19, .sv (.one (I (l3_2.length : Int)))), (42, .sv (.one (I letters))), (43, .sv (.one (I x43))), (67, .sv (.one (.own 3))), (68, .sv (.one (I (go (e, x43)))))], [.box [I 0, I 0, .v (.slice none 0 0), .v (.slice none 0 0)] 80 false, .box [I letters, I 0, .own 6, .own 7] 80 false, mapI encI3 intT (mput (go (e, x43)) (l3_2.length : Int) m2_2), rowI 3 intT l3_2, .gone, .gone, rowI 22 (lsT intT) l6, rowI 3 intT l7, rowI 3 intT l8]⟩ (by kernel_rfl) ?_
            refine WL.mt0 (K := []) (p := some (9, rowI 3 intT ([(go (e, x43))] : (List Int)))) hn (by rfl) (mt_lit (T := intT) ([(go (e, x43))] : (List Int)) (mt_bsl 9 (r := cellsOf intT ([(go (e, x43))] : (List Int))) ht rfl (by rfl) (by rfl) (by rfl) (by kernel_rfl) (by rfl)) (fun _ h => by cases h) (fun _ => rfl) (fun _ => rfl) (by rfl) (Nat.le_of_ble_eq_true rfl)) (by rfl) (by rfl) (by rfl) ?_
            refine WL.seal 9 (by rfl) ?_
            have hp := h.1
            replace h := h.2
            refine WL.mt (S2 := ⟨[(0, .sv (.one (I letters))), (2, .sv (.one (.rd (fvR (fun (x : (Int × Int)) => [.sv (.one (I x.1)), .sv (.one (I x.2))]) (fun (r : Int) => .sv (.one (I r))) domgo go)))), (3, .sv (.one (.rd (fvR (fun (x : Int) => [.sv (.one (I x))]) (fun (r : Int) => .sv (.one (I r))) dommark mark)))), (4, .sv (.one (I limit))), (10, .sv (.one (.ptr 0 0))), (12, .sv (.one (.ptr 1 0))), (13, .sv (.one (.own 2))), (15, .sv (.one (I e))), (16, .sv (.one (.own 8))), (17, .sv (.one (I x43))), (19, .sv (.one (I (l3_2.length : Int)))), (42, .sv (.one (I letters))), (43, .sv (.one (I x43))), (68, .sv (.one (I (go (e, x43))))), (69, .sv (.one (LS intT ([(go (e, x43))] : (List Int)))))], [.box [I 0, I 0, .v (.slice none 0 0), .v (.slice none 0 0)] 80 false, .box [I letters, I 0, .own 6, .own 7] 80 false, mapI encI3 intT (mput (go (e, x43)) (l3_2.length : Int) m2_2), rowI 3 intT l3_2, .gone, .gone, rowI 22 (lsT intT) l6, rowI 3 intT l7, rowI 3 intT l8, .gone]⟩) (K := [3]) (p := some (3, rowI 3 intT (l3_2 ++ ([(go (e, x43))] : (List Int))))) hn (by rfl) (mt_append (T := intT) (l := l3_2) (es := ([(go (e, x43))] : (List Int))) ht rfl (by rfl) (by rfl) (by rfl) (by rfl) (by decide) (by rfl) (by rfl) (srcLS (T := intT) (es := ([(go (e, x43))] : (List Int))) (fun _ h => by cases h) (by decide) (by rfl)) (by exact hp) (by exact hp.le (by decide))) (by kernel_rfl) (by rfl) (by rfl) (by rfl) ?_
            refine WL.run ht hn 1 ⟨[(0, .sv (.one (I letters))), (2, .sv (.one (.rd (fvR (fun (x : (Int × Int)) => [.sv (.one (I x.1)), .sv (.one (I x.2))]) (fun (r : Int) => .sv (.one (I r))) domgo go)))), (3, .sv (.one (.rd (fvR (fun (x : Int) => [.sv (.one (I x))]) (fun (r : Int) => .sv (.one (I r))) dommark mark)))), (4, .sv (.one (I limit))), (10, .sv (.one (.ptr 0 0))), (12, .sv (.one (.ptr 1 0))), (13, .sv (.one (.own 2))), (14, .sv (.one (.own 3))), (15, .sv (.one (I e))), (16, .sv (.one (.own 8))), (17, .sv (.one (I x43))), (19, .sv (.one (I (l3_2.length : Int)))), (42, .sv (.one (I letters))), (43, .sv (.one (I x43)))], [.box [I 0, I 0, .v (.slice none 0 0), .v (.slice none 0 0)] 80 false, .box [I letters, I 0, .own 6, .own 7] 80 false, mapI encI3 intT (mput (go (e, x43)) (l3_2.length : Int) m2_2), rowI 3 intT (l3_2 ++ ([(go (e, x43))] : (List Int))), .gone, .gone, rowI 22 (lsT intT) l6, rowI 3 intT l7, rowI 3 intT l8, .gone]⟩ (by kernel_rfl) ?_
            refine WL.nil ?_
            exact En.at (I := fun zz => J zz.1 zz.2.1 zz.2.2) (T := fun zz => ⟨[(0, .sv (.one (I letters))), (2, .sv (.one (.rd (fvR (fun (x : (Int × Int)) => [.sv (.one (I x.1)), .sv (.one (I x.2))]) (fun (r : Int) => .sv (.one (I r))) domgo go)))), (3, .sv (.one (.rd (fvR (fun (x : Int) => [.sv (.one (I x))]) (fun (r : Int) => .sv (.one (I r))) dommark mark)))), (4, .sv (.one (I limit))), (10, .sv (.one (.ptr 0 0))), (12, .sv (.one (.ptr 1 0))), (13, .sv (.one (.own 2))), (14, .sv (.one (.own 3))), (15, .sv (.one (I e))), (16, .sv (.one (.own 8))), (17, .sv (.one (I x43))), (19, .sv (.one (I zz.1))), (42, .sv (.one (I letters))), (43, .sv (.one (I x43)))], [.box [I 0, I 0, .v (.slice none 0 0), .v (.slice none 0 0)] 80 false, .box [I letters, I 0, .own 6, .own 7] 80 false, mapI encI3 intT zz.2.1, rowI 3 intT zz.2.2, .gone, .gone, rowI 22 (lsT intT) l6, rowI 3 intT l7, rowI 3 intT l8]⟩) ((l3_2.length : Int), (mput (go (e, x43)) (l3_2.length : Int) m2_2), (l3_2 ++ ([(go (e, x43))] : (List Int)))) h (by kernel_rfl)
        · replace h := h.2 hb
          refine En.skip ?_
          exact En.at (I := fun zz => J zz.1 zz.2.1 zz.2.2) (T := fun zz => ⟨[(0, .sv (.one (I letters))), (2, .sv (.one (.rd (fvR (fun (x : (Int × Int)) => [.sv (.one (I x.1)), .sv (.one (I x.2))]) (fun (r : Int) => .sv (.one (I r))) domgo go)))), (3, .sv (.one (.rd (fvR (fun (x : Int) => [.sv (.one (I x))]) (fun (r : Int) => .sv (.one (I r))) dommark mark)))), (4, .sv (.one (I limit))), (10, .sv (.one (.ptr 0 0))), (12, .sv (.one (.ptr 1 0))), (13, .sv (.one (.own 2))), (14, .sv (.one (.own 3))), (15, .sv (.one (I e))), (16, .sv (.one (.own 8))), (17, .sv (.one (I x43))), (19, .sv (.one (I zz.1))), (42, .sv (.one (I letters))), (43, .sv (.one (I x43)))], [.box [I 0, I 0, .v (.slice none 0 0), .v (.slice none 0 0)] 80 false, .box [I letters, I 0, .own 6, .own 7] 80 false, mapI encI3 intT zz.2.1, rowI 3 intT zz.2.2, .gone, .gone, rowI 22 (lsT intT) l6, rowI 3 intT l7, rowI 3 intT l8]⟩) (((mget (go (e, x43)) m2_2).getD (0 : Int)), m2_2, l3_2) h (by kernel_rfl)
      · rintro ⟨x19, m2_3, l3_3⟩ h
        replace h := hJ _ _ _ h
        show En c ⟨[(0, .sv (.one (I letters))), (2, .sv (.one (.rd (fvR (fun (x : (Int × Int)) => [.sv (.one (I x.1)), .sv (.one (I x.2))]) (fun (r : Int) => .sv (.one (I r))) domgo go)))), (3, .sv (.one (.rd (fvR (fun (x : Int) => [.sv (.one (I x))]) (fun (r : Int) => .sv (.one (I r))) dommark mark)))), (4, .sv (.one (I limit))), (10, .sv (.one (.ptr 0 0))), (12, .sv (.one (.ptr 1 0))), (13, .sv (.one (.own 2))), (14, .sv (.one (.own 3))), (15, .sv (.one (I e))), (16, .sv (.one (.own 8))), (17, .sv (.one (I x43))), (19, .sv (.one (I x19))), (42, .sv (.one (I letters))), (43, .sv (.one (I x43)))], [.box [I 0, I 0, .v (.slice none 0 0), .v (.slice none 0 0)] 80 false, .box [I letters, I 0, .own 6, .own 7] 80 false, mapI encI3 intT m2_3, rowI 3 intT l3_3, .gone, .gone, rowI 22 (lsT intT) l6, rowI 3 intT l7, rowI 3 intT l8]⟩ _
        refine En.region ?_
        refine WL.run ht hn 3 ⟨[(0, .sv (.one (I letters))), (2, .sv (.one (.rd (fvR (fun (x : (Int × Int)) => [.sv (.one (I x.1)), .sv (.one (I x.2))]) (fun (r : Int) => .sv (.one (I r))) domgo go)))), (3, .sv (.one (.rd (fvR (fun (x : Int) => [.sv (.one (I x))]) (fun (r : Int) => .sv (.one (I r))) dommark mark)))), (4, .sv (.one (I limit))), (10, .sv (.one (.ptr 0 0))), (12, .sv (.one (.ptr 1 0))), (13, .sv (.one (.own 2))), (14, .sv (.one (.own 3))), (15, .sv (.one (I e))), (16, .sv (.one (.own 8))), (42, .sv (.one (I letters))), (43, .sv (.one (I x43))), (71, .sv (.one (.own 8))), (72, .sv (.one (I x43))), (73, .sv (.one (I x19)))], [.box [I 0, I 0, .v (.slice none 0 0), .v (.slice none 0 0)] 80 false, .box [I letters, I 0, .own 6, .own 7] 80 false, mapI encI3 intT m2_3, rowI 3 intT l3_3, .gone, .gone, rowI 22 (lsT intT) l6, rowI 3 intT l7, rowI 3 intT l8]⟩ (by kernel_rfl) ?_
        obtain ⟨e_2, he_2, h⟩ := h
        refine WL.val hn (by rfl) (val_indexO (T := intT) (l := l8) (k := x43) ht rfl (by rfl) (by rfl) (by rfl) (by rfl) (by decide) (by rfl) (by rfl) (by rfl) he_2) (by rfl) ?_
        refine WL.storeO (T := intT) (l := l8) (y := x19) ht hn (by rfl) rfl (by rfl) (by rfl) (fun _ h => by cases h) (by rfl) (by rfl) (idx_lt he_2) (by rfl) (by rfl) (by rfl) (by rfl) ?_
        refine WL.nil ?_
        refine En.region ?_
        refine WL.run ht hn 2 ⟨[(0, .sv (.one (I letters))), (2, .sv (.one (.rd (fvR (fun (x : (Int × Int)) => [.sv (.one (I x.1)), .sv (.one (I x.2))]) (fun (r : Int) => .sv (.one (I r))) domgo go)))), (3, .sv (.one (.rd (fvR (fun (x : Int) => [.sv (.one (I x))]) (fun (r : Int) => .sv (.one (I r))) dommark mark)))), (4, .sv (.one (I limit))), (10, .sv (.one (.ptr 0 0))), (12, .sv (.one (.ptr 1 0))), (13, .sv (.one (.own 2))), (14, .sv (.one (.own 3))), (15, .sv (.one (I e))), (16, .sv (.one (.own 8))), (42, .sv (.one (I letters))), (43, .sv (.one (I (wr (x43 + 1)))))], [.box [I 0, I 0, .v (.slice none 0 0), .v (.slice none 0 0)] 80 false, .box [I letters, I 0, .own 6, .own 7] 80 false, mapI encI3 intT m2_3, rowI 3 intT l3_3, .gone, .gone, rowI 22 (lsT intT) l6, rowI 3 intT l7, rowI 3 intT (l8.set (x43).toNat x19)]⟩ (by kernel_rfl) ?_
        refine WL.nil ?_
        exact En.at (I := fun zz => Inv_2 zz.1 zz.2.1 zz.2.2.1 zz.2.2.2 ∧ mu_2 zz.1 zz.2.1 zz.2.2.1 zz.2.2.2 < mu_2 x43 m2_2 l3_2 l8) (T := fun zz => ⟨[(0, .sv (.one (I letters))), (2, .sv (.one (.rd (fvR (fun (x : (Int × Int)) => [.sv (.one (I x.1)), .sv (.one (I x.2))]) (fun (r : Int) => .sv (.one (I r))) domgo go)))), (3, .sv (.one (.rd (fvR (fun (x : Int) => [.sv (.one (I x))]) (fun (r : Int) => .sv (.one (I r))) dommark mark)))), (4, .sv (.one (I limit))), (10, .sv (.one (.ptr 0 0))), (12, .sv (.one (.ptr 1 0))), (13, .sv (.one (.own 2))), (14, .sv (.one (.own 3))), (15, .sv (.one (I e))), (16, .sv (.one (.own 8))), (42, .sv (.one (I letters))), (43, .sv (.one (I zz.1)))], [.box [I 0, I 0, .v (.slice none 0 0), .v (.slice none 0 0)] 80 false, .box [I letters, I 0, .own 6, .own 7] 80 false, mapI encI3 intT zz.2.1, rowI 3 intT zz.2.2.1, .gone, .gone, rowI 22 (lsT intT) l6, rowI 3 intT l7, rowI 3 intT zz.2.2.2]⟩) ((wr (x43 + 1)), m2_3, l3_3, (l8.set (x43).toNat x19)) h (by kernel_rfl)
    · replace h := h.2 hb
      refine En.exit rfl ?_
      refine En.seq ?_
      refine En.region ?_
      refine WL.run ht hn 3 ⟨[(0, .sv (.one (I letters))), (2, .sv (.one (.rd (fvR (fun (x : (Int × Int)) => [.sv (.one (I x.1)), .sv (.one (I x.2))]) (fun (r : Int) => .sv (.one (I r))) domgo go)))), (3, .sv (.one (.rd (fvR (fun (x : Int) => [.sv (.one (I x))]) (fun (r : Int) => .sv (.one (I r))) dommark mark)))), (4, .sv (.one (I limit))), (10, .sv (.one (.ptr 0 0))), (12, .sv (.one (.ptr 1 0))), (13, .sv (.one (.own 2))), (14, .sv (.one (.own 3))), (15, .sv (.one (I e))), (77, .sv (.one (.own 6))), (78, .sv (.one (.own 8)))], [.box [I 0, I 0, .v (.slice none 0 0), .v (.slice none 0 0)] 80 false, .box [I letters, I 0, .own 6, .own 7] 80 false, mapI encI3 intT m2_2, rowI 3 intT l3_2, .gone, .gone, rowI 22 (lsT intT) l6, rowI 3 intT l7, rowI 3 intT l8]⟩ (by kernel_rfl) ?_
      refine WL.seal 8 (by rfl) ?_
      refine WL.mt0 (K := []) (p := some (9, rowI 22 (lsT intT) ([l8] : (List (List Int))))) hn (by rfl) (mt_lit (T := (lsT intT)) ([l8] : (List (List Int))) (mt_bsl 9 (r := cellsOf (lsT intT) ([l8] : (List (List Int)))) ht rfl (by rfl) (by rfl) (by rfl) (by kernel_rfl) (by rfl)) (fun _ h => by cases h) (fun _ => rfl) (fun _ => rfl) (by rfl) (Nat.le_of_ble_eq_true rfl)) (by rfl) (by rfl) (by rfl) ?_
      refine WL.seal 9 (by rfl) ?_
      refine WL.junk 1 2 (by rfl) ?_
      have hp := h.1
      replace h := h.2
      refine WL.mt (S2 := ⟨[(0, .sv (.one (I letters))), (2, .sv (.one (.rd (fvR (fun (x : (Int × Int)) => [.sv (.one (I x.1)), .sv (.one (I x.2))]) (fun (r : Int) => .sv (.one (I r))) domgo go)))), (3, .sv (.one (.rd (fvR (fun (x : Int) => [.sv (.one (I x))]) (fun (r : Int) => .sv (.one (I r))) dommark mark)))), (4, .sv (.one (I limit))), (10, .sv (.one (.ptr 0 0))), (12, .sv (.one (.ptr 1 0))), (13, .sv (.one (.own 2))), (14, .sv (.one (.own 3))), (15, .sv (.one (I e))), (78, .sv (.one (LS intT l8))), (79, .sv (.one (LS (lsT intT) ([l8] : (List (List Int))))))], [.box [I 0, I 0, .v (.slice none 0 0), .v (.slice none 0 0)] 80 false, .box [I letters, I 0, .junk, .own 7] 80 false, mapI encI3 intT m2_2, rowI 3 intT l3_2, .gone, .gone, rowI 22 (lsT intT) l6, rowI 3 intT l7, .gone, .gone]⟩) (K := [6]) (p := some (6, rowI 22 (lsT intT) (l6 ++ ([l8] : (List (List Int)))))) hn (by rfl) (mt_append (T := (lsT intT)) (l := l6) (es := ([l8] : (List (List Int)))) ht rfl (by rfl) (by rfl) (by rfl) (by rfl) (by decide) (by rfl) (by rfl) (srcLS (T := (lsT intT)) (es := ([l8] : (List (List Int)))) (fun _ h => by cases h) (by decide) (by rfl)) (by exact hp) (by exact hp.le (by decide))) (by kernel_rfl) (by rfl) (by rfl) (by rfl) ?_
      refine WL.run ht hn 2 ⟨[(0, .sv (.one (I letters))), (2, .sv (.one (.rd (fvR (fun (x : (Int × Int)) => [.sv (.one (I x.1)), .sv (.one (I x.2))]) (fun (r : Int) => .sv (.one (I r))) domgo go)))), (3, .sv (.one (.rd (fvR (fun (x : Int) => [.sv (.one (I x))]) (fun (r : Int) => .sv (.one (I r))) dommark mark)))), (4, .sv (.one (I limit))), (10, .sv (.one (.ptr 0 0))), (12, .sv (.one (.ptr 1 0))), (13, .sv (.one (.own 2))), (14, .sv (.one (.own 3))), (15, .sv (.one (I e)))], [.box [I 0, I 0, .v (.slice none 0 0), .v (.slice none 0 0)] 80 false, .box [I letters, I 0, .own 6, .own 7] 80 false, mapI encI3 intT m2_2, rowI 3 intT l3_2, .gone, .gone, rowI 22 (lsT intT) (l6 ++ ([l8] : (List (List Int)))), rowI 3 intT l7, .gone, .gone]⟩ (by kernel_rfl) ?_
      refine WL.nil ?_
      have hp_2 := h.1
      replace h := h.2
      have hp_3 := h.1
      replace h := h.2
      refine En.regionA ⟨[(0, .sv (.one (I letters))), (2, .sv (.one (.rd (fvR (fun (x : (Int × Int)) => [.sv (.one (I x.1)), .sv (.one (I x.2))]) (fun (r : Int) => .sv (.one (I r))) domgo go)))), (3, .sv (.one (.rd (fvR (fun (x : Int) => [.sv (.one (I x))]) (fun (r : Int) => .sv (.one (I r))) dommark mark)))), (4, .sv (.one (I limit))), (10, .sv (.one (.ptr 0 0))), (12, .sv (.one (.ptr 1 0))), (13, .sv (.one (.own 2))), (14, .sv (.one (.own 3))), (15, .sv (.one (I e)))], [.sv (.one (.ptr 1 3)), .sv (.one (.own 7)), .sv (.one (.rd (fvR (fun (x : Int) => [.sv (.one (I x))]) (fun (r : Int) => .sv (.one (I r))) dommark mark))), .sv (.one (I e)), .sv (.one (I (mark e))), .sv (.one (LS intT ([(mark e)] : (List Int)))), .sv (.one (.own 10)), .sv (.one (.ptr 1 3)), .tup []], [⟨.box [I 0, I 0, .v (.slice none 0 0), .v (.slice none 0 0)] 80 false, none, none, none⟩, ⟨.box [I letters, I 0, .own 6, .own 7] 80 false, none, none, some (8, .box [I letters, I 0, .own 6, .own 10] 80 false)⟩, ⟨mapI encI3 intT m2_2, none, none, none⟩, ⟨rowI 3 intT l3_2, none, none, none⟩, ⟨.gone, none, none, none⟩, ⟨.gone, none, none, none⟩, ⟨rowI 22 (lsT intT) (l6 ++ ([l8] : (List (List Int)))), none, none, none⟩, ⟨rowI 3 intT l7, none, some 6, none⟩, ⟨.gone, none, none, none⟩, ⟨.gone, none, none, none⟩, ⟨rowI 3 intT (l7 ++ ([(mark e)] : (List Int))), some 6, none, none⟩]⟩ ⟨[(0, .sv (.one (I letters))), (2, .sv (.one (.rd (fvR (fun (x : (Int × Int)) => [.sv (.one (I x.1)), .sv (.one (I x.2))]) (fun (r : Int) => .sv (.one (I r))) domgo go)))), (3, .sv (.one (.rd (fvR (fun (x : Int) => [.sv (.one (I x))]) (fun (r : Int) => .sv (.one (I r))) dommark mark)))), (4, .sv (.one (I limit))), (10, .sv (.one (.ptr 0 0))), (12, .sv (.one (.ptr 1 0))), (13, .sv (.one (.own 2))), (14, .sv (.one (.own 3)))], [.box [I 0, I 0, .v (.slice none 0 0), .v (.slice none 0 0)] 80 false, .box [I letters, I 0, .own 6, .own 10] 80 false, mapI encI3 intT m2_2, rowI 3 intT l3_2, .gone, .gone, rowI 22 (lsT intT) (l6 ++ ([l8] : (List (List Int)))), .gone, .gone, .gone, rowI 3 intT (l7 ++ ([(mark e)] : (List Int)))]⟩ (by kernel_rfl) hn (by kernel_rfl) (by rfl) (by kernel_rfl) ?_ (by kernel_rfl) ?_
      · exact ⟨.mt ⟨[(12, .sv (.one (.ptr 1 0)))], []⟩ [] none (by kernel_rfl) (by rfl) (mt_ev ht (by kernel_rfl)) rfl rfl rfl rfl,
    .mt ⟨[(82, .sv (.one (.ptr 1 3)))], [.gone, .box [I letters, I 0, .own 6, .own 7] 80 false]⟩ [] none (by kernel_rfl) (by rfl) (mt_ev ht (by kernel_rfl)) rfl rfl rfl rfl,
    .mt ⟨[(3, .sv (.one (.rd (fvR (fun (x : Int) => [.sv (.one (I x))]) (fun (r : Int) => .sv (.one (I r))) dommark mark))))], []⟩ [] none (by kernel_rfl) (by rfl) (mt_ev ht (by kernel_rfl)) rfl rfl rfl rfl,
    .mt ⟨[(15, .sv (.one (I e)))], []⟩ [] none (by kernel_rfl) (by rfl) (mt_ev ht (by kernel_rfl)) rfl rfl rfl rfl,
    .mt ⟨[(84, .sv (.one (.rd (fvR (fun (x : Int) => [.sv (.one (I x))]) (fun (r : Int) => .sv (.one (I r))) dommark mark)))), (85, .sv (.one (I e)))], []⟩ [] none (by kernel_rfl) (by rfl) (mt_callv (ins := (fun (x : Int) => [.sv (.one (I x))])) (out := (fun (r : Int) => .sv (.one (I r)))) (dom := dommark) (φ := mark) e hp_2 rfl (by rfl) (by rfl) (by rfl) (by rfl)) rfl rfl rfl rfl,
    .mt ⟨[(86, .sv (.one (I (mark e))))], []⟩ [] none (by kernel_rfl) (by rfl) (mt_seal (q := 10) (e := 3) (mt_lit (T := intT) ([(mark e)] : (List Int)) (mt_bsl 10 (r := cellsOf intT ([(mark e)] : (List Int))) ht rfl (by rfl) (by rfl) (by rfl) (by kernel_rfl) (by rfl)) (fun _ h => by cases h) (fun _ => rfl) (fun _ => rfl) (by rfl) (Nat.le_of_ble_eq_true rfl))) rfl rfl rfl rfl,
    .mt ⟨[(83, .sv (.one (.own 7))), (87, .sv (.one (LS intT ([(mark e)] : (List Int)))))], [.gone, .gone, .gone, .gone, .gone, .gone, .gone, rowI 3 intT l7]⟩ [7] (some 10) (by kernel_rfl) (by rfl) (mt_append (T := intT) (l := l7) (es := ([(mark e)] : (List Int))) (p := 10) ht rfl (by rfl) (by rfl) (by rfl) (by rfl) (by decide) (by rfl) (by rfl) (srcLS (T := intT) (es := ([(mark e)] : (List Int))) (fun _ h => by cases h) (by decide) (by rfl)) (by exact hp_3) (by exact hp_3.le (by decide))) rfl rfl rfl rfl,
    .mt ⟨[(12, .sv (.one (.ptr 1 0)))], []⟩ [] none (by kernel_rfl) (by rfl) (mt_ev ht (by kernel_rfl)) rfl rfl rfl rfl,
    .mu ⟨[(88, .sv (.one (.own 10))), (89, .sv (.one (.ptr 1 3)))], [.gone, .box [I letters, I 0, .own 6, .own 7] 80 false]⟩ 1 _ _ rfl rfl (by kernel_rfl) (by rfl) (mu_store2 ht rfl (by rfl) (by rfl) (by rfl) (by rfl) (fun h => by cases h) (by rfl) (by rfl)) rfl rfl rfl rfl rfl rfl rfl,
    trivial⟩
      · refine En.move 10 7 (by rfl) (by rfl) ?_
        exact En.at (I := fun zz => Inv zz.1 zz.2.1 zz.2.2.1 zz.2.2.2 ∧ mu zz.1 zz.2.1 zz.2.2.1 zz.2.2.2 < mu m2 l3 l6 l7) (T := fun zz => ⟨[(0, .sv (.one (I letters))), (2, .sv (.one (.rd (fvR (fun (x : (Int × Int)) => [.sv (.one (I x.1)), .sv (.one (I x.2))]) (fun (r : Int) => .sv (.one (I r))) domgo go)))), (3, .sv (.one (.rd (fvR (fun (x : Int) => [.sv (.one (I x))]) (fun (r : Int) => .sv (.one (I r))) dommark mark)))), (4, .sv (.one (I limit))), (10, .sv (.one (.ptr 0 0))), (12, .sv (.one (.ptr 1 0))), (13, .sv (.one (.own 2))), (14, .sv (.one (.own 3)))], [.box [I 0, I 0, .v (.slice none 0 0), .v (.slice none 0 0)] 80 false, .box [I letters, I 0, .own 6, .own 7] 80 false, mapI encI3 intT zz.1, rowI 3 intT zz.2.1, .gone, .gone, rowI 22 (lsT intT) zz.2.2.1, rowI 3 intT zz.2.2.2]⟩) (m2_2, l3_2, (l6 ++ ([l8] : (List (List Int)))), (l7 ++ ([(mark e)] : (List Int)))) h (by kernel_rfl)
  · replace h := h.2 hb
    refine En.exit rfl ?_
    refine En.seq ?_
    refine En.region ?_
    refine WL.run ht hn 3 ⟨[(10, .sv (.one (.ptr 0 0))), (11, .sv (.one (B true)))], [.box [I letters, I 0, .own 6, .own 7] 80 false, .gone, .gone, .gone, .gone, .gone, rowI 22 (lsT intT) l6, rowI 3 intT l7]⟩ (by kernel_rfl) ?_
    refine WL.nil ?_
    refine En.ret ?_
    refine En.seal 6 (by rfl) ?_
    exact En.backS ht 7 ((ApiDet.mk letters 0 l6 l7), true) hmay h (by kernel_rfl) (by rfl) rfl rfl
def classes_vc (d : ApiDet) (Q : (List Int) → Prop) : Prop :=
  d.fNext.length ≤ 9223372036854775807 →
  d.fMark.length ≤ 9223372036854775807 →
  ((d.fMark.length * 8 ≤ 140737488355328) ∧
  ∃ (Inv : Int → (List Int) → Prop) (mu : Int → (List Int) → Nat), Inv 0 (d.fMark) ∧
  ∀ (x4 : Int) (l1 : (List Int)) , Inv x4 l1 → (makeOk (l1.length : Int) (l1.length : Int) 8 ∧
  ∃ (Inv_2 : Int → (List (DetSplit × Int)) → (List Int) → Prop) (mu_2 : Int → (List (DetSplit × Int)) → (List Int) → Nat), Inv_2 0 ([] : List (DetSplit × Int)) (List.replicate ((l1.length : Int)).toNat (0 : Int)) ∧
  ∀ (x25 : Int) (m2 : (List (DetSplit × Int))) (l3 : (List Int)) , Inv_2 x25 m2 l3 → (IfP (decide (x25 < (d.fNext.length : Int))) (∃ e, idx d.fNext x25 = some e ∧
  ∃ (Inv_3 : Int → (List Int) → Prop) (mu_3 : Int → (List Int) → Nat), Inv_3 0 ([] : (List Int)) ∧
  ∀ (x32 : Int) (l4 : (List Int)) , Inv_3 x32 l4 → (IfP (decide (x32 < (e.length : Int))) (∃ e_2, idx e x32 = some e_2 ∧
  ∃ e_3, idx l1 e_2 = some e_3 ∧
  ∃ e_4, idx l1 e_2 = some e_4 ∧
  capOk l4.length (([(IntKind.wrap .u8 e_3), (IntKind.wrap .u8 (Int.fdiv e_4 (2 ^ (min 8 64))))] : (List Int)) : (List Int)).length 1 ∧
  (Inv_3 (wr (x32 + 1)) (l4 ++ ([(IntKind.wrap .u8 e_3), (IntKind.wrap .u8 (Int.fdiv e_4 (2 ^ (min 8 64))))] : (List Int))) ∧ mu_3 (wr (x32 + 1)) (l4 ++ ([(IntKind.wrap .u8 e_3), (IntKind.wrap .u8 (Int.fdiv e_4 (2 ^ (min 8 64))))] : (List Int))) < mu_3 x32 l4)) (∃ e_5, idx l1 x25 = some e_5 ∧
  ∃ J : (List (DetSplit × Int)) → Prop, (IfP (!(mget (DetSplit.mk e_5 (bytesOf l4)) m2).isSome) (J (mput (DetSplit.mk e_5 (bytesOf l4)) (m2.length : Int) m2)) (J m2)) ∧
  (∀ (m2_2 : (List (DetSplit × Int))), J m2_2 → ∃ e_6, idx l3 x25 = some e_6 ∧
  (Inv_2 (wr (x25 + 1)) m2_2 (l3.set (x25).toNat ((mget (DetSplit.mk e_5 (bytesOf l4)) m2_2).getD (0 : Int))) ∧ mu_2 (wr (x25 + 1)) m2_2 (l3.set (x25).toNat ((mget (DetSplit.mk e_5 (bytesOf l4)) m2_2).getD (0 : Int))) < mu_2 x25 m2 l3))))) (IfP ((m2.length : Int) == x4) (Q l3) ((Inv (m2.length : Int) l3 ∧ mu (m2.length : Int) l3 < mu x4 l1))))))
theorem classes_walk (d : ApiDet) (Q : (List Int) → Prop) (h : classes_vc d Q) : Ct 131 [.sv (.agg [I d.fLetters, I d.fStart, LS (lsT intT) d.fNext, LS intT d.fMark])] [] Q (fun (r : (List Int)) => .sv (.one (LS intT r))) := by
  have ht := tab_ok
  refine Ct.body Try.func131 rfl rfl rfl rfl (fun c hn => ?_)
  unfold classes_vc at h
  refine En.lenA 0 2 (by rfl) (by rfl) (fun hl => ?_)
  replace h := h hl
  clear hl
  refine En.lenA 0 3 (by rfl) (by rfl) (fun hl => ?_)
  replace h := h hl
  clear hl
  refine En.seq ?_
  refine En.region ?_
  refine WL.run ht hn 2 ⟨[(1, .sv (.one (.ptr 0 0)))], [.box [I d.fLetters, I d.fStart, LS (lsT intT) d.fNext, LS intT d.fMark] 80 false]⟩ (by kernel_rfl) ?_
  refine WL.nil ?_
  refine En.seq ?_
  refine En.region ?_
  refine WL.run ht hn 2 ⟨[(1, .sv (.one (.ptr 0 0))), (16, .sv (.one (LS intT d.fMark)))], [.box [I d.fLetters, I d.fStart, LS (lsT intT) d.fNext, LS intT d.fMark] 80 false]⟩ (by kernel_rfl) ?_
  have hp := h.1
  replace h := h.2
  refine WL.mt0 (K := []) (p := some (1, rowI 3 intT (d.fMark))) hn (by rfl) (mt_callI 1 (cloneInt_ct d.fMark hp) en47 (caps := []) [] rfl rfl (by rfl) (by kernel_rfl) (by kernel_rfl) (by rfl) (by rfl)) (by rfl) (by rfl) (by rfl) ?_
  refine WL.run ht hn 1 ⟨[(1, .sv (.one (.ptr 0 0))), (3, .sv (.one (.own 1)))], [.box [I d.fLetters, I d.fStart, LS (lsT intT) d.fNext, LS intT d.fMark] 80 false, rowI 3 intT (d.fMark)]⟩ (by kernel_rfl) ?_
  refine WL.nil ?_
  refine En.seq ?_
  refine En.region ?_
  refine WL.run ht hn 1 ⟨[(1, .sv (.one (.ptr 0 0))), (3, .sv (.one (.own 1))), (4, .sv (.one (I 0)))], [.box [I d.fLetters, I d.fStart, LS (lsT intT) d.fNext, LS intT d.fMark] 80 false, rowI 3 intT (d.fMark)]⟩ (by kernel_rfl) ?_
  refine WL.nil ?_
  refine En.block ?_
  obtain ⟨Inv, mu, h0_3, hI_3⟩ := h
  refine En.loop (σ := Int × (List Int)) (fun zz => Inv zz.1 zz.2) (fun zz => mu zz.1 zz.2) (fun zz => ⟨[(1, .sv (.one (.ptr 0 0))), (3, .sv (.one (.own 1))), (4, .sv (.one (I zz.1)))], [.box [I d.fLetters, I d.fStart, LS (lsT intT) d.fNext, LS intT d.fMark] 80 false, rowI 3 intT zz.2]⟩) (0, (d.fMark)) h0_3 (sub_ok (by kernel_rfl)) ?_
  rintro ⟨x4, l1⟩ h
  replace h := hI_3 _ _ h
  show En c ⟨[(1, .sv (.one (.ptr 0 0))), (3, .sv (.one (.own 1))), (4, .sv (.one (I x4)))], [.box [I d.fLetters, I d.fStart, LS (lsT intT) d.fNext, LS intT d.fMark] 80 false, rowI 3 intT l1]⟩ _
  refine En.block ?_
  refine En.seq ?_
  refine En.region ?_
  refine WL.mt0 (K := []) (p := some (2, mapI DetSplit.enc intT ([] : List (DetSplit × Int)))) hn (by rfl) (mt_makeMap DetSplit.enc intT 2 rfl) (by rfl) (by rfl) (by rfl) ?_
  refine WL.run ht hn 1 ⟨[(1, .sv (.one (.ptr 0 0))), (3, .sv (.one (.own 1))), (4, .sv (.one (I x4))), (5, .sv (.one (.own 2)))], [.box [I d.fLetters, I d.fStart, LS (lsT intT) d.fNext, LS intT d.fMark] 80 false, rowI 3 intT l1, mapI DetSplit.enc intT ([] : List (DetSplit × Int))]⟩ (by kernel_rfl) ?_
  refine WL.nil ?_
  refine En.seq ?_
  refine En.region ?_
  refine WL.run ht hn 2 ⟨[(1, .sv (.one (.ptr 0 0))), (3, .sv (.one (.own 1))), (4, .sv (.one (I x4))), (5, .sv (.one (.own 2))), (20, .sv (.one (I (l1.length : Int))))], [.box [I d.fLetters, I d.fStart, LS (lsT intT) d.fNext, LS intT d.fMark] 80 false, rowI 3 intT l1, mapI DetSplit.enc intT ([] : List (DetSplit × Int))]⟩ (by kernel_rfl) ?_
  have hp := h.1
  replace h := h.2
  refine WL.mt0 (K := []) (p := some (3, rowI 3 intT (List.replicate ((l1.length : Int)).toNat (0 : Int)))) hn (by rfl) (mt_make (T := intT) (0 : Int) (zv := (.int .i64 0)) 3 (l := (l1.length : Int)) (cp := (l1.length : Int)) ht rfl (by rfl) (by rfl) (by rfl) (by rfl) (by decide) (by rfl) (by rfl) hp.1 hp.2.1 hp.2.2 (hp.le (by decide)) rfl (fun _ => ⟨rfl, trivial⟩)) (by rfl) (by rfl) (by rfl) ?_
  refine WL.run ht hn 1 ⟨[(1, .sv (.one (.ptr 0 0))), (3, .sv (.one (.own 1))), (4, .sv (.one (I x4))), (5, .sv (.one (.own 2))), (6, .sv (.one (.own 3)))], [.box [I d.fLetters, I d.fStart, LS (lsT intT) d.fNext, LS intT d.fMark] 80 false, rowI 3 intT l1, mapI DetSplit.enc intT ([] : List (DetSplit × Int)), rowI 3 intT (List.replicate ((l1.length : Int)).toNat (0 : Int))]⟩ (by kernel_rfl) ?_
  refine WL.nil ?_
  refine En.seq ?_
  refine En.seq ?_
  refine En.region ?_
  refine WL.run ht hn 4 ⟨[(1, .sv (.one (.ptr 0 0))), (3, .sv (.one (.own 1))), (4, .sv (.one (I x4))), (5, .sv (.one (.own 2))), (6, .sv (.one (.own 3))), (23, .sv (.one (LS (lsT intT) d.fNext))), (24, .sv (.one (I (d.fNext.length : Int)))), (25, .sv (.one (I 0)))], [.box [I d.fLetters, I d.fStart, LS (lsT intT) d.fNext, LS intT d.fMark] 80 false, rowI 3 intT l1, mapI DetSplit.enc intT ([] : List (DetSplit × Int)), rowI 3 intT (List.replicate ((l1.length : Int)).toNat (0 : Int))]⟩ (by kernel_rfl) ?_
  refine WL.nil ?_
  refine En.block ?_
  obtain ⟨Inv_2, mu_2, h0_2, hI_2⟩ := h
  refine En.loop (σ := Int × (List (DetSplit × Int)) × (List Int)) (fun zz => Inv_2 zz.1 zz.2.1 zz.2.2) (fun zz => mu_2 zz.1 zz.2.1 zz.2.2) (fun zz => ⟨[(1, .sv (.one (.ptr 0 0))), (3, .sv (.one (.own 1))), (4, .sv (.one (I x4))), (5, .sv (.one (.own 2))), (6, .sv (.one (.own 3))), (23, .sv (.one (LS (lsT intT) d.fNext))), (24, .sv (.one (I (d.fNext.length : Int)))), (25, .sv (.one (I zz.1)))], [.box [I d.fLetters, I d.fStart, LS (lsT intT) d.fNext, LS intT d.fMark] 80 false, rowI 3 intT l1, mapI DetSplit.enc intT zz.2.1, rowI 3 intT zz.2.2]⟩) (0, ([] : List (DetSplit × Int)), (List.replicate ((l1.length : Int)).toNat (0 : Int))) h0_2 (sub_ok (by kernel_rfl)) ?_
  rintro ⟨x25, m2, l3⟩ h
  replace h := hI_2 _ _ _ h
  show En c ⟨[(1, .sv (.one (.ptr 0 0))), (3, .sv (.one (.own 1))), (4, .sv (.one (I x4))), (5, .sv (.one (.own 2))), (6, .sv (.one (.own 3))), (23, .sv (.one (LS (lsT intT) d.fNext))), (24, .sv (.one (I (d.fNext.length : Int)))), (25, .sv (.one (I x25)))], [.box [I d.fLetters, I d.fStart, LS (lsT intT) d.fNext, LS intT d.fMark] 80 false, rowI 3 intT l1, mapI DetSplit.enc intT m2, rowI 3 intT l3]⟩ _
  refine En.seq ?_
  refine En.region ?_
  refine WL.run ht hn 1 ⟨[(1, .sv (.one (.ptr 0 0))), (3, .sv (.one (.own 1))), (4, .sv (.one (I x4))), (5, .sv (.one (.own 2))), (6, .sv (.one (.own 3))), (23, .sv (.one (LS (lsT intT) d.fNext))), (24, .sv (.one (I (d.fNext.length : Int)))), (25, .sv (.one (I x25))), (26, .sv (.one (B (decide (x25 < (d.fNext.length : Int))))))], [.box [I d.fLetters, I d.fStart, LS (lsT intT) d.fNext, LS intT d.fMark] 80 false, rowI 3 intT l1, mapI DetSplit.enc intT m2, rowI 3 intT l3]⟩ (by kernel_rfl) ?_
  refine WL.nil ?_
  refine En.seq ?_
  refine En.cond (b := (decide (x25 < (d.fNext.length : Int)))) (by kernel_rfl) (fun hb => ?_) (fun hb => ?_)
  · replace h := h.1 hb
    refine En.skip ?_
    refine En.seq ?_
    refine En.block ?_
    refine En.seq ?_
    refine En.region ?_
    refine WL.run ht hn 1 ⟨[(1, .sv (.one (.ptr 0 0))), (3, .sv (.one (.own 1))), (4, .sv (.one (I x4))), (5, .sv (.one (.own 2))), (6, .sv (.one (.own 3))), (23, .sv (.one (LS (lsT intT) d.fNext))), (24, .sv (.one (I (d.fNext.length : Int)))), (25, .sv (.one (I x25))), (27, .sv (.one (I x25)))], [.box [I d.fLetters, I d.fStart, LS (lsT intT) d.fNext, LS intT d.fMark] 80 false, rowI 3 intT l1, mapI DetSplit.enc intT m2, rowI 3 intT l3]⟩ (by kernel_rfl) ?_
    obtain ⟨e, he, h⟩ := h
    refine WL.val hn (by rfl) (val_index (T := (lsT intT)) (l := d.fNext) (i := x25) ht rfl (by rfl) (by rfl) (by rfl) (by rfl) (by rfl) (by rfl) he) (by rfl) ?_
    refine WL.val hn (by rfl) (val_load (s := .one (LS intT e)) ht rfl (by rfl) (by rfl) (by rfl) (by rfl) (by rfl)) (by rfl) ?_
    refine WL.run ht hn 2 ⟨[(1, .sv (.one (.ptr 0 0))), (3, .sv (.one (.own 1))), (4, .sv (.one (I x4))), (5, .sv (.one (.own 2))), (6, .sv (.one (.own 3))), (7, .sv (.one (I x25))), (8, .sv (.one (LS intT e))), (23, .sv (.one (LS (lsT intT) d.fNext))), (24, .sv (.one (I (d.fNext.length : Int)))), (25, .sv (.one (I x25)))], [.box [I d.fLetters, I d.fStart, LS (lsT intT) d.fNext, LS intT d.fMark] 80 false, rowI 3 intT l1, mapI DetSplit.enc intT m2, rowI 3 intT l3]⟩ (by kernel_rfl) ?_
    refine WL.nil ?_
    refine En.seq ?_
    refine En.region ?_
    refine WL.run ht hn 1 ⟨[(1, .sv (.one (.ptr 0 0))), (3, .sv (.one (.own 1))), (4, .sv (.one (I x4))), (5, .sv (.one (.own 2))), (6, .sv (.one (.own 3))), (7, .sv (.one (I x25))), (8, .sv (.one (LS intT e))), (9, .sv (.one (.v (.slice none 0 0)))), (23, .sv (.one (LS (lsT intT) d.fNext))), (24, .sv (.one (I (d.fNext.length : Int)))), (25, .sv (.one (I x25)))], [.box [I d.fLetters, I d.fStart, LS (lsT intT) d.fNext, LS intT d.fMark] 80 false, rowI 3 intT l1, mapI DetSplit.enc intT m2, rowI 3 intT l3]⟩ (by kernel_rfl) ?_
    refine WL.nil ?_
    refine En.seq ?_
    refine En.seq ?_
    refine En.region ?_
    refine WL.run ht hn 3 ⟨[(1, .sv (.one (.ptr 0 0))), (3, .sv (.one (.own 1))), (4, .sv (.one (I x4))), (5, .sv (.one (.own 2))), (6, .sv (.one (.own 3))), (7, .sv (.one (I x25))), (9, .sv (.one (.v (.slice none 0 0)))), (23, .sv (.one (LS (lsT intT) d.fNext))), (24, .sv (.one (I (d.fNext.length : Int)))), (25, .sv (.one (I x25))), (30, .sv (.one (LS intT e))), (31, .sv (.one (I (e.length : Int)))), (32, .sv (.one (I 0)))], [.box [I d.fLetters, I d.fStart, LS (lsT intT) d.fNext, LS intT d.fMark] 80 false, rowI 3 intT l1, mapI DetSplit.enc intT m2, rowI 3 intT l3]⟩ (by kernel_rfl) ?_
    refine WL.nil ?_
    refine En.block ?_
    refine En.rowNil 9 4 5 (intKT .u8) (by rfl) (by rfl) ?_
    obtain ⟨Inv_3, mu_3, h0, hI⟩ := h
    refine En.loop (σ := Int × (List Int)) (fun zz => Inv_3 zz.1 zz.2) (fun zz => mu_3 zz.1 zz.2) (fun zz => ⟨[(1, .sv (.one (.ptr 0 0))), (3, .sv (.one (.own 1))), (4, .sv (.one (I x4))), (5, .sv (.one (.own 2))), (6, .sv (.one (.own 3))), (7, .sv (.one (I x25))), (9, .sv (.one (.own 4))), (23, .sv (.one (LS (lsT intT) d.fNext))), (24, .sv (.one (I (d.fNext.length : Int)))), (25, .sv (.one (I x25))), (30, .sv (.one (LS intT e))), (31, .sv (.one (I (e.length : Int)))), (32, .sv (.one (I zz.1)))], [.box [I d.fLetters, I d.fStart, LS (lsT intT) d.fNext, LS intT d.fMark] 80 false, rowI 3 intT l1, mapI DetSplit.enc intT m2, rowI 3 intT l3, rowI 5 (intKT .u8) zz.2]⟩) (0, ([] : (List Int))) h0 (sub_ok (by kernel_rfl)) ?_
    rintro ⟨x32, l4⟩ h
    replace h := hI _ _ h
    show En c ⟨[(1, .sv (.one (.ptr 0 0))), (3, .sv (.one (.own 1))), (4, .sv (.one (I x4))), (5, .sv (.one (.own 2))), (6, .sv (.one (.own 3))), (7, .sv (.one (I x25))), (9, .sv (.one (.own 4))), (23, .sv (.one (LS (lsT intT) d.fNext))), (24, .sv (.one (I (d.fNext.length : Int)))), (25, .sv (.one (I x25))), (30, .sv (.one (LS intT e))), (31, .sv (.one (I (e.length : Int)))), (32, .sv (.one (I x32)))], [.box [I d.fLetters, I d.fStart, LS (lsT intT) d.fNext, LS intT d.fMark] 80 false, rowI 3 intT l1, mapI DetSplit.enc intT m2, rowI 3 intT l3, rowI 5 (intKT .u8) l4]⟩ _
    refine En.seq ?_
    refine En.region ?_
    refine WL.run ht hn 1 ⟨[(1, .sv (.one (.ptr 0 0))), (3, .sv (.one (.own 1))), (4, .sv (.one (I x4))), (5, .sv (.one (.own 2))), (6, .sv (.one (.own 3))), (7, .sv (.one (I x25))), (9, .sv (.one (.own 4))), (23, .sv (.one (LS (lsT intT) d.fNext))), (24, .sv (.one (I (d.fNext.length : Int)))), (25, .sv (.one (I x25))), (30, .sv (.one (LS intT e))), (31, .sv (.one (I (e.length : Int)))), (32, .sv (.one (I x32))), (33, .sv (.one (B (decide (x32 < (e.length : Int))))))], [.box [I d.fLetters, I d.fStart, LS (lsT intT) d.fNext, LS intT d.fMark] 80 false, rowI 3 intT l1, mapI DetSplit.enc intT m2, rowI 3 intT l3, rowI 5 (intKT .u8) l4]⟩ (by kernel_rfl) ?_
    refine WL.nil ?_
    refine En.seq ?_
    refine En.cond (b := (decide (x32 < (e.length : Int)))) (by kernel_rfl) (fun hb => ?_) (fun hb => ?_)
    · replace h := h.1 hb
      refine En.skip ?_
      refine En.seq ?_
      refine En.block ?_
      refine En.seq ?_
      refine En.region ?_
      obtain ⟨e_2, he_2, h⟩ := h
      refine WL.val hn (by rfl) (val_index (T := intT) (l := e) (i := x32) ht rfl (by rfl) (by rfl) (by rfl) (by rfl) (by rfl) (by rfl) he_2) (by rfl) ?_
      refine WL.val hn (by rfl) (val_load (s := .one (I e_2)) ht rfl (by rfl) (by rfl) (by rfl) (by rfl) (by rfl)) (by rfl) ?_
      refine WL.run ht hn 1 ⟨[(1, .sv (.one (.ptr 0 0))), (3, .sv (.one (.own 1))), (4, .sv (.one (I x4))), (5, .sv (.one (.own 2))), (6, .sv (.one (.own 3))), (7, .sv (.one (I x25))), (9, .sv (.one (.own 4))), (11, .sv (.one (I e_2))), (23, .sv (.one (LS (lsT intT) d.fNext))), (24, .sv (.one (I (d.fNext.length : Int)))), (25, .sv (.one (I x25))), (30, .sv (.one (LS intT e))), (31, .sv (.one (I (e.length : Int)))), (32, .sv (.one (I x32)))], [.box [I d.fLetters, I d.fStart, LS (lsT intT) d.fNext, LS intT d.fMark] 80 false, rowI 3 intT l1, mapI DetSplit.enc intT m2, rowI 3 intT l3, rowI 5 (intKT .u8) l4]⟩ (by kernel_rfl) ?_
      refine WL.nil ?_
      obtain ⟨e_3, he_3, h⟩ := h
      obtain ⟨e_4, he_4, h⟩ := h
      have hp_2 := h.1
      replace h := h.2
      refine En.regionA ⟨[(1, .sv (.one (.ptr 0 0))), (3, .sv (.one (.own 1))), (4, .sv (.one (I x4))), (5, .sv (.one (.own 2))), (6, .sv (.one (.own 3))), (7, .sv (.one (I x25))), (9, .sv (.one (.own 4))), (11, .sv (.one (I e_2))), (23, .sv (.one (LS (lsT intT) d.fNext))), (24, .sv (.one (I (d.fNext.length : Int)))), (25, .sv (.one (I x25))), (30, .sv (.one (LS intT e))), (31, .sv (.one (I (e.length : Int)))), (32, .sv (.one (I x32)))], [.sv (.one (.own 4)), .sv (.one (.own 1)), .sv (.one (I e_2)), .sv (.one (.oe 1 ((e_2).toNat) 1)), .sv (.one (I e_3)), .sv (.one (.v (.int .u8 (IntKind.wrap .u8 e_3)))), .sv (.one (.own 1)), .sv (.one (I e_2)), .sv (.one (.oe 1 ((e_2).toNat) 1)), .sv (.one (I e_4)), .sv (.one (I (Int.fdiv e_4 (2 ^ (min 8 64))))), .sv (.one (.v (.int .u8 (IntKind.wrap .u8 (Int.fdiv e_4 (2 ^ (min 8 64))))))), .sv (.one (LS (intKT .u8) ([(IntKind.wrap .u8 e_3), (IntKind.wrap .u8 (Int.fdiv e_4 (2 ^ (min 8 64))))] : (List Int)))), .sv (.one (.own 5)), .sv (.one (.own 5))], [⟨.box [I d.fLetters, I d.fStart, LS (lsT intT) d.fNext, LS intT d.fMark] 80 false, none, none, none⟩, ⟨rowI 3 intT l1, none, none, none⟩, ⟨mapI DetSplit.enc intT m2, none, none, none⟩, ⟨rowI 3 intT l3, none, none, none⟩, ⟨rowI 5 (intKT .u8) l4, none, some 13, none⟩, ⟨rowI 5 (intKT .u8) (l4 ++ ([(IntKind.wrap .u8 e_3), (IntKind.wrap .u8 (Int.fdiv e_4 (2 ^ (min 8 64))))] : (List Int))), some 13, none, none⟩]⟩ ⟨[(1, .sv (.one (.ptr 0 0))), (3, .sv (.one (.own 1))), (4, .sv (.one (I x4))), (5, .sv (.one (.own 2))), (6, .sv (.one (.own 3))), (7, .sv (.one (I x25))), (9, .sv (.one (.own 5))), (23, .sv (.one (LS (lsT intT) d.fNext))), (24, .sv (.one (I (d.fNext.length : Int)))), (25, .sv (.one (I x25))), (30, .sv (.one (LS intT e))), (31, .sv (.one (I (e.length : Int)))), (32, .sv (.one (I x32)))], [.box [I d.fLetters, I d.fStart, LS (lsT intT) d.fNext, LS intT d.fMark] 80 false, rowI 3 intT l1, mapI DetSplit.enc intT m2, rowI 3 intT l3, .gone, rowI 5 (intKT .u8) (l4 ++ ([(IntKind.wrap .u8 e_3), (IntKind.wrap .u8 (Int.fdiv e_4 (2 ^ (min 8 64))))] : (List Int)))]⟩ (by kernel_rfl) hn (by kernel_rfl) (by rfl) (by kernel_rfl) ?_ (by kernel_rfl) ?_
      · exact ⟨.mt ⟨[(9, .sv (.one (.own 4)))], []⟩ [] none (by kernel_rfl) (by rfl) (mt_ev ht (by kernel_rfl)) rfl rfl rfl rfl,
    .mt ⟨[(3, .sv (.one (.own 1)))], []⟩ [] none (by kernel_rfl) (by rfl) (mt_ev ht (by kernel_rfl)) rfl rfl rfl rfl,
    .mt ⟨[(11, .sv (.one (I e_2)))], []⟩ [] none (by kernel_rfl) (by rfl) (mt_ev ht (by kernel_rfl)) rfl rfl rfl rfl,
    .mt ⟨[(37, .sv (.one (.own 1))), (38, .sv (.one (I e_2)))], [.gone, rowI 3 intT l1]⟩ [] none (by kernel_rfl) (by rfl) (mt_val (val_indexO (T := intT) (l := l1) (k := e_2) ht rfl (by rfl) (by rfl) (by rfl) (by rfl) (by decide) (by rfl) (by rfl) (by rfl) he_3)) rfl rfl rfl rfl,
    .mt ⟨[(39, .sv (.one (.oe 1 ((e_2).toNat) 1)))], [.gone, rowI 3 intT l1]⟩ [] none (by kernel_rfl) (by rfl) (mt_val (val_loadO (T := intT) (l := l1) (y := e_3) ht rfl (by rfl) (by rfl) (by rfl) (by rfl) (by rfl) (idx_some he_3).2.2 (by rfl))) rfl rfl rfl rfl,
    .mt ⟨[(40, .sv (.one (I e_3)))], []⟩ [] none (by kernel_rfl) (by rfl) (mt_ev ht (by kernel_rfl)) rfl rfl rfl rfl,
    .mt ⟨[(3, .sv (.one (.own 1)))], []⟩ [] none (by kernel_rfl) (by rfl) (mt_ev ht (by kernel_rfl)) rfl rfl rfl rfl,
    .mt ⟨[(11, .sv (.one (I e_2)))], []⟩ [] none (by kernel_rfl) (by rfl) (mt_ev ht (by kernel_rfl)) rfl rfl rfl rfl,
    .mt ⟨[(42, .sv (.one (.own 1))), (43, .sv (.one (I e_2)))], [.gone, rowI 3 intT l1]⟩ [] none (by kernel_rfl) (by rfl) (mt_val (val_indexO (T := intT) (l := l1) (k := e_2) ht rfl (by rfl) (by rfl) (by rfl) (by rfl) (by decide) (by rfl) (by rfl) (by rfl) he_4)) rfl rfl rfl rfl,
    .mt ⟨[(44, .sv (.one (.oe 1 ((e_2).toNat) 1)))], [.gone, rowI 3 intT l1]⟩ [] none (by kernel_rfl) (by rfl) (mt_val (val_loadO (T := intT) (l := l1) (y := e_4) ht rfl (by rfl) (by rfl) (by rfl) (by rfl) (by rfl) (idx_some he_4).2.2 (by rfl))) rfl rfl rfl rfl,
    .mt ⟨[(45, .sv (.one (I e_4)))], []⟩ [] none (by kernel_rfl) (by rfl) (mt_ev ht (by kernel_rfl)) rfl rfl rfl rfl,
    .mt ⟨[(46, .sv (.one (I (Int.fdiv e_4 (2 ^ (min 8 64))))))], []⟩ [] none (by kernel_rfl) (by rfl) (mt_ev ht (by kernel_rfl)) rfl rfl rfl rfl,
    .mt ⟨[(41, .sv (.one (.v (.int .u8 (IntKind.wrap .u8 e_3))))), (47, .sv (.one (.v (.int .u8 (IntKind.wrap .u8 (Int.fdiv e_4 (2 ^ (min 8 64))))))))], []⟩ [] none (by kernel_rfl) (by rfl) (mt_seal (q := 5) (e := 5) (mt_lit (T := (intKT .u8)) ([(IntKind.wrap .u8 e_3), (IntKind.wrap .u8 (Int.fdiv e_4 (2 ^ (min 8 64))))] : (List Int)) (mt_bsl 5 (r := cellsOf (intKT .u8) ([(IntKind.wrap .u8 e_3), (IntKind.wrap .u8 (Int.fdiv e_4 (2 ^ (min 8 64))))] : (List Int))) ht rfl (by rfl) (by rfl) (by rfl) (by kernel_rfl) (by rfl)) (fun _ h => by cases h) (fun _ => rfl) (fun _ => rfl) (by rfl) (Nat.le_of_ble_eq_true rfl))) rfl rfl rfl rfl,
    .mt ⟨[(36, .sv (.one (.own 4))), (48, .sv (.one (LS (intKT .u8) ([(IntKind.wrap .u8 e_3), (IntKind.wrap .u8 (Int.fdiv e_4 (2 ^ (min 8 64))))] : (List Int)))))], [.gone, .gone, .gone, .gone, rowI 5 (intKT .u8) l4]⟩ [4] (some 5) (by kernel_rfl) (by rfl) (mt_append (T := (intKT .u8)) (l := l4) (es := ([(IntKind.wrap .u8 e_3), (IntKind.wrap .u8 (Int.fdiv e_4 (2 ^ (min 8 64))))] : (List Int))) (p := 5) ht rfl (by rfl) (by rfl) (by rfl) (by rfl) (by decide) (by rfl) (by rfl) (srcLS (T := (intKT .u8)) (es := ([(IntKind.wrap .u8 e_3), (IntKind.wrap .u8 (Int.fdiv e_4 (2 ^ (min 8 64))))] : (List Int))) (fun _ h => by cases h) (by decide) (by rfl)) (by exact hp_2) (by exact hp_2.le (by decide))) rfl rfl rfl rfl,
    .mt ⟨[(49, .sv (.one (.own 5)))], []⟩ [] none (by kernel_rfl) (by rfl) (mt_ev ht (by kernel_rfl)) rfl rfl rfl rfl,
    trivial⟩
      · refine En.region ?_
        refine WL.run ht hn 2 ⟨[(1, .sv (.one (.ptr 0 0))), (3, .sv (.one (.own 1))), (4, .sv (.one (I x4))), (5, .sv (.one (.own 2))), (6, .sv (.one (.own 3))), (7, .sv (.one (I x25))), (9, .sv (.one (.own 5))), (23, .sv (.one (LS (lsT intT) d.fNext))), (24, .sv (.one (I (d.fNext.length : Int)))), (25, .sv (.one (I x25))), (30, .sv (.one (LS intT e))), (31, .sv (.one (I (e.length : Int)))), (32, .sv (.one (I (wr (x32 + 1)))))], [.box [I d.fLetters, I d.fStart, LS (lsT intT) d.fNext, LS intT d.fMark] 80 false, rowI 3 intT l1, mapI DetSplit.enc intT m2, rowI 3 intT l3, .gone, rowI 5 (intKT .u8) (l4 ++ ([(IntKind.wrap .u8 e_3), (IntKind.wrap .u8 (Int.fdiv e_4 (2 ^ (min 8 64))))] : (List Int)))]⟩ (by kernel_rfl) ?_
        refine WL.nil ?_
        refine En.move 5 4 (by rfl) (by rfl) ?_
        exact En.at (I := fun zz => Inv_3 zz.1 zz.2 ∧ mu_3 zz.1 zz.2 < mu_3 x32 l4) (T := fun zz => ⟨[(1, .sv (.one (.ptr 0 0))), (3, .sv (.one (.own 1))), (4, .sv (.one (I x4))), (5, .sv (.one (.own 2))), (6, .sv (.one (.own 3))), (7, .sv (.one (I x25))), (9, .sv (.one (.own 4))), (23, .sv (.one (LS (lsT intT) d.fNext))), (24, .sv (.one (I (d.fNext.length : Int)))), (25, .sv (.one (I x25))), (30, .sv (.one (LS intT e))), (31, .sv (.one (I (e.length : Int)))), (32, .sv (.one (I zz.1)))], [.box [I d.fLetters, I d.fStart, LS (lsT intT) d.fNext, LS intT d.fMark] 80 false, rowI 3 intT l1, mapI DetSplit.enc intT m2, rowI 3 intT l3, rowI 5 (intKT .u8) zz.2]⟩) ((wr (x32 + 1)), (l4 ++ ([(IntKind.wrap .u8 e_3), (IntKind.wrap .u8 (Int.fdiv e_4 (2 ^ (min 8 64))))] : (List Int)))) h (by kernel_rfl)
    · replace h := h.2 hb
      refine En.exit rfl ?_
      refine En.seq ?_
      obtain ⟨e_5, he_5, h⟩ := h
      refine En.regionA ⟨[(1, .sv (.one (.ptr 0 0))), (3, .sv (.one (.own 1))), (4, .sv (.one (I x4))), (5, .sv (.one (.own 2))), (6, .sv (.one (.own 3))), (7, .sv (.one (I x25))), (9, .sv (.one (.own 4))), (23, .sv (.one (LS (lsT intT) d.fNext))), (24, .sv (.one (I (d.fNext.length : Int)))), (25, .sv (.one (I x25)))], [.sv (.one (.own 1)), .sv (.one (I x25)), .sv (.one (.oe 1 ((x25).toNat) 1)), .sv (.one (I e_5)), .sv (.one (.own 4)), .sv (.one (.v (.string (bytesOf l4)))), .sv (.agg [I e_5, .v (.string (bytesOf l4))]), .sv (.one (.ptr 5 0)), .tup []], [⟨.box [I d.fLetters, I d.fStart, LS (lsT intT) d.fNext, LS intT d.fMark] 80 false, none, none, none⟩, ⟨rowI 3 intT l1, none, none, none⟩, ⟨mapI DetSplit.enc intT m2, none, none, none⟩, ⟨rowI 3 intT l3, none, none, none⟩, ⟨rowI 5 (intKT .u8) l4, none, none, none⟩, ⟨.box [I 0, .v (.string ByteArray.empty)] 260 false, some 7, none, some (8, .box [I e_5, .v (.string (bytesOf l4))] 260 false)⟩]⟩ ⟨[(1, .sv (.one (.ptr 0 0))), (3, .sv (.one (.own 1))), (4, .sv (.one (I x4))), (5, .sv (.one (.own 2))), (6, .sv (.one (.own 3))), (7, .sv (.one (I x25))), (12, .sv (.one (.ptr 5 0))), (23, .sv (.one (LS (lsT intT) d.fNext))), (24, .sv (.one (I (d.fNext.length : Int)))), (25, .sv (.one (I x25)))], [.box [I d.fLetters, I d.fStart, LS (lsT intT) d.fNext, LS intT d.fMark] 80 false, rowI 3 intT l1, mapI DetSplit.enc intT m2, rowI 3 intT l3, .gone, .box [I e_5, .v (.string (bytesOf l4))] 260 false]⟩ (by kernel_rfl) hn (by kernel_rfl) (by rfl) (by kernel_rfl) ?_ (by kernel_rfl) ?_
      · exact ⟨.mt ⟨[(3, .sv (.one (.own 1)))], []⟩ [] none (by kernel_rfl) (by rfl) (mt_ev ht (by kernel_rfl)) rfl rfl rfl rfl,
    .mt ⟨[(7, .sv (.one (I x25)))], []⟩ [] none (by kernel_rfl) (by rfl) (mt_ev ht (by kernel_rfl)) rfl rfl rfl rfl,
    .mt ⟨[(51, .sv (.one (.own 1))), (52, .sv (.one (I x25)))], [.gone, rowI 3 intT l1]⟩ [] none (by kernel_rfl) (by rfl) (mt_val (val_indexO (T := intT) (l := l1) (k := x25) ht rfl (by rfl) (by rfl) (by rfl) (by rfl) (by decide) (by rfl) (by rfl) (by rfl) he_5)) rfl rfl rfl rfl,
    .mt ⟨[(53, .sv (.one (.oe 1 ((x25).toNat) 1)))], [.gone, rowI 3 intT l1]⟩ [] none (by kernel_rfl) (by rfl) (mt_val (val_loadO (T := intT) (l := l1) (y := e_5) ht rfl (by rfl) (by rfl) (by rfl) (by rfl) (by rfl) (idx_some he_5).2.2 (by rfl))) rfl rfl rfl rfl,
    .mt ⟨[(9, .sv (.one (.own 4)))], []⟩ [] none (by kernel_rfl) (by rfl) (mt_ev ht (by kernel_rfl)) rfl rfl rfl rfl,
    .mt ⟨[(55, .sv (.one (.own 4)))], [.gone, .gone, .gone, .gone, rowI 5 (intKT .u8) l4]⟩ [] none (by kernel_rfl) (by rfl) (mt_val (val_str rfl Try.underlying225 Try.underlying5 Try.underlying9 (srcOwn (T := intKT .u8) (es := l4) (fun _ h => by cases h) (by rfl) (by rfl)))) rfl rfl rfl rfl,
    .mt ⟨[(54, .sv (.one (I e_5))), (56, .sv (.one (.v (.string (bytesOf l4)))))], []⟩ [] none (by kernel_rfl) (by rfl) (mt_ev ht (by kernel_rfl)) rfl rfl rfl rfl,
    .mt ⟨[], []⟩ [] (some 5) (by kernel_rfl) (by rfl) (mt_alloc2 5 260 ht rfl (by rfl) (by rfl)) rfl rfl rfl rfl,
    .mu ⟨[(12, .sv (.one (.ptr 5 0))), (57, .sv (.agg [I e_5, .v (.string (bytesOf l4))]))], [.gone, .gone, .gone, .gone, .gone, .box [I 0, .v (.string ByteArray.empty)] 260 false]⟩ 5 _ _ rfl rfl (by kernel_rfl) (by rfl) (mu_store2 ht rfl (by rfl) (by rfl) (by rfl) (by rfl) (fun h => by cases h) (by rfl) (by rfl)) rfl rfl rfl rfl rfl rfl rfl,
    trivial⟩
      · obtain ⟨J, h, hJ⟩ := h
        refine En.seqJ (σ := (List (DetSplit × Int))) (fun zz => J zz) (fun zz => ⟨[(1, .sv (.one (.ptr 0 0))), (3, .sv (.one (.own 1))), (4, .sv (.one (I x4))), (5, .sv (.one (.own 2))), (6, .sv (.one (.own 3))), (7, .sv (.one (I x25))), (12, .sv (.one (.ptr 5 0))), (23, .sv (.one (LS (lsT intT) d.fNext))), (24, .sv (.one (I (d.fNext.length : Int)))), (25, .sv (.one (I x25)))], [.box [I d.fLetters, I d.fStart, LS (lsT intT) d.fNext, LS intT d.fMark] 80 false, rowI 3 intT l1, mapI DetSplit.enc intT zz, rowI 3 intT l3, .gone, .box [I e_5, .v (.string (bytesOf l4))] 260 false]⟩) ?_ ?_
        · refine En.seq ?_
          refine En.region ?_
          refine WL.run ht hn 2 ⟨[(1, .sv (.one (.ptr 0 0))), (3, .sv (.one (.own 1))), (4, .sv (.one (I x4))), (5, .sv (.one (.own 2))), (6, .sv (.one (.own 3))), (7, .sv (.one (I x25))), (12, .sv (.one (.ptr 5 0))), (23, .sv (.one (LS (lsT intT) d.fNext))), (24, .sv (.one (I (d.fNext.length : Int)))), (25, .sv (.one (I x25))), (59, .sv (.one (.own 2))), (60, .sv (.agg [I e_5, .v (.string (bytesOf l4))]))], [.box [I d.fLetters, I d.fStart, LS (lsT intT) d.fNext, LS intT d.fMark] 80 false, rowI 3 intT l1, mapI DetSplit.enc intT m2, rowI 3 intT l3, .gone, .box [I e_5, .v (.string (bytesOf l4))] 260 false]⟩ (by kernel_rfl) ?_
          refine WL.val hn (by rfl) (val_lookup (T := intT) (D := m2) DetSplit.keyLaw (k := (DetSplit.mk e_5 (bytesOf l4))) (ok := true) (0 : Int) (zv := (.int .i64 0)) rfl Try.underlying258 (fun _ => by kernel_rfl) (fun _ => ⟨rfl, trivial⟩) (mapAs DetSplit.enc intT m2) (by rfl) (by rfl) (by rfl) (fun _ => rfl)) (by rfl) ?_
          refine WL.run ht hn 5 ⟨[(1, .sv (.one (.ptr 0 0))), (3, .sv (.one (.own 1))), (4, .sv (.one (I x4))), (5, .sv (.one (.own 2))), (6, .sv (.one (.own 3))), (7, .sv (.one (I x25))), (12, .sv (.one (.ptr 5 0))), (14, .sv (.one (B (mget (DetSplit.mk e_5 (bytesOf l4)) m2).isSome))), (23, .sv (.one (LS (lsT intT) d.fNext))), (24, .sv (.one (I (d.fNext.length : Int)))), (25, .sv (.one (I x25)))], [.box [I d.fLetters, I d.fStart, LS (lsT intT) d.fNext, LS intT d.fMark] 80 false, rowI 3 intT l1, mapI DetSplit.enc intT m2, rowI 3 intT l3, .gone, .box [I e_5, .v (.string (bytesOf l4))] 260 false]⟩ (by kernel_rfl) ?_
          refine WL.nil ?_
          refine En.seq ?_
          refine En.region ?_
          refine WL.run ht hn 2 ⟨[(1, .sv (.one (.ptr 0 0))), (3, .sv (.one (.own 1))), (4, .sv (.one (I x4))), (5, .sv (.one (.own 2))), (6, .sv (.one (.own 3))), (7, .sv (.one (I x25))), (12, .sv (.one (.ptr 5 0))), (23, .sv (.one (LS (lsT intT) d.fNext))), (24, .sv (.one (I (d.fNext.length : Int)))), (25, .sv (.one (I x25))), (65, .sv (.one (B (!(mget (DetSplit.mk e_5 (bytesOf l4)) m2).isSome))))], [.box [I d.fLetters, I d.fStart, LS (lsT intT) d.fNext, LS intT d.fMark] 80 false, rowI 3 intT l1, mapI DetSplit.enc intT m2, rowI 3 intT l3, .gone, .box [I e_5, .v (.string (bytesOf l4))] 260 false]⟩ (by kernel_rfl) ?_
          refine WL.nil ?_
          refine En.cond (b := (!(mget (DetSplit.mk e_5 (bytesOf l4)) m2).isSome)) (by kernel_rfl) (fun hb => ?_) (fun hb => ?_)
          · replace h := h.1 hb
            refine En.region ?_
            refine WL.run ht hn 3 ⟨[(1, .sv (.one (.ptr 0 0))), (3, .sv (.one (.own 1))), (4, .sv (.one (I x4))), (5, .sv (.one (.own 2))), (6, .sv (.one (.own 3))), (7, .sv (.one (I x25))), (12, .sv (.one (.ptr 5 0))), (23, .sv (.one (LS (lsT intT) d.fNext))), (24, .sv (.one (I (d.fNext.length : Int)))), (25, .sv (.one (I x25))), (66, .sv (.one (.own 2))), (67, .sv (.agg [I e_5, .v (.string (bytesOf l4))])), (68, .sv (.one (.own 2)))], [.box [I d.fLetters, I d.fStart, LS (lsT intT) d.fNext, LS intT d.fMark] 80 false, rowI 3 intT l1, mapI DetSplit.enc intT m2, rowI 3 intT l3, .gone, .box [I e_5, .v (.string (bytesOf l4))] 260 false]⟩ (by kernel_rfl) ?_
            refine WL.val hn (by rfl) (val_lenM (enc := DetSplit.enc) (T := intT) (D := m2) rfl Try.underlying258 (by rfl) (by rfl) (mapAs _ _ _)) (by rfl) ?_
            refine WL.mapPut (T := intT) DetSplit.keyLaw (k := (DetSplit.mk e_5 (bytesOf l4))) (y := (m2.length : Int)) hn (by rfl) (.inl rfl) Try.underlying258 (by rfl) (by rfl) (by rfl) (by rfl) (by rfl) (by rfl) ?_
            refine WL.nil ?_
            exact En.at (I := fun zz => J zz) (T := fun zz => ⟨[(1, .sv (.one (.ptr 0 0))), (3, .sv (.one (.own 1))), (4, .sv (.one (I x4))), (5, .sv (.one (.own 2))), (6, .sv (.one (.own 3))), (7, .sv (.one (I x25))), (12, .sv (.one (.ptr 5 0))), (23, .sv (.one (LS (lsT intT) d.fNext))), (24, .sv (.one (I (d.fNext.length : Int)))), (25, .sv (.one (I x25)))], [.box [I d.fLetters, I d.fStart, LS (lsT intT) d.fNext, LS intT d.fMark] 80 false, rowI 3 intT l1, mapI DetSplit.enc intT zz, rowI 3 intT l3, .gone, .box [I e_5, .v (.string (bytesOf l4))] 260 false]⟩) (mput (DetSplit.mk e_5 (bytesOf l4)) (m2.length : Int) m2) h (by kernel_rfl)
          · replace h := h.2 hb
            refine En.skip ?_
            exact En.at (I := fun zz => J zz) (T := fun zz => ⟨[(1, .sv (.one (.ptr 0 0))), (3, .sv (.one (.own 1))), (4, .sv (.one (I x4))), (5, .sv (.one (.own 2))), (6, .sv (.one (.own 3))), (7, .sv (.one (I x25))), (12, .sv (.one (.ptr 5 0))), (23, .sv (.one (LS (lsT intT) d.fNext))), (24, .sv (.one (I (d.fNext.length : Int)))), (25, .sv (.one (I x25)))], [.box [I d.fLetters, I d.fStart, LS (lsT intT) d.fNext, LS intT d.fMark] 80 false, rowI 3 intT l1, mapI DetSplit.enc intT zz, rowI 3 intT l3, .gone, .box [I e_5, .v (.string (bytesOf l4))] 260 false]⟩) m2 h (by kernel_rfl)
        · intro m2_2 h
          replace h := hJ _ h
          show En c ⟨[(1, .sv (.one (.ptr 0 0))), (3, .sv (.one (.own 1))), (4, .sv (.one (I x4))), (5, .sv (.one (.own 2))), (6, .sv (.one (.own 3))), (7, .sv (.one (I x25))), (12, .sv (.one (.ptr 5 0))), (23, .sv (.one (LS (lsT intT) d.fNext))), (24, .sv (.one (I (d.fNext.length : Int)))), (25, .sv (.one (I x25)))], [.box [I d.fLetters, I d.fStart, LS (lsT intT) d.fNext, LS intT d.fMark] 80 false, rowI 3 intT l1, mapI DetSplit.enc intT m2_2, rowI 3 intT l3, .gone, .box [I e_5, .v (.string (bytesOf l4))] 260 false]⟩ _
          refine En.region ?_
          refine WL.run ht hn 4 ⟨[(1, .sv (.one (.ptr 0 0))), (3, .sv (.one (.own 1))), (4, .sv (.one (I x4))), (5, .sv (.one (.own 2))), (6, .sv (.one (.own 3))), (23, .sv (.one (LS (lsT intT) d.fNext))), (24, .sv (.one (I (d.fNext.length : Int)))), (25, .sv (.one (I x25))), (70, .sv (.one (.own 3))), (71, .sv (.one (I x25))), (72, .sv (.one (.own 2))), (73, .sv (.agg [I e_5, .v (.string (bytesOf l4))]))], [.box [I d.fLetters, I d.fStart, LS (lsT intT) d.fNext, LS intT d.fMark] 80 false, rowI 3 intT l1, mapI DetSplit.enc intT m2_2, rowI 3 intT l3, .gone, .gone]⟩ (by kernel_rfl) ?_
          refine WL.val hn (by rfl) (val_lookup (T := intT) (D := m2_2) DetSplit.keyLaw (k := (DetSplit.mk e_5 (bytesOf l4))) (ok := false) (0 : Int) (zv := (.int .i64 0)) rfl Try.underlying258 (fun _ => by kernel_rfl) (fun _ => ⟨rfl, trivial⟩) (mapAs DetSplit.enc intT m2_2) (by rfl) (by rfl) (by rfl) (fun _ => rfl)) (by rfl) ?_
          obtain ⟨e_6, he_6, h⟩ := h
          refine WL.val hn (by rfl) (val_indexO (T := intT) (l := l3) (k := x25) ht rfl (by rfl) (by rfl) (by rfl) (by rfl) (by decide) (by rfl) (by rfl) (by rfl) he_6) (by rfl) ?_
          refine WL.storeO (T := intT) (l := l3) (y := ((mget (DetSplit.mk e_5 (bytesOf l4)) m2_2).getD (0 : Int))) ht hn (by rfl) rfl (by rfl) (by rfl) (fun _ h => by cases h) (by rfl) (by rfl) (idx_lt he_6) (by rfl) (by rfl) (by rfl) (by rfl) ?_
          refine WL.nil ?_
          refine En.region ?_
          refine WL.run ht hn 2 ⟨[(1, .sv (.one (.ptr 0 0))), (3, .sv (.one (.own 1))), (4, .sv (.one (I x4))), (5, .sv (.one (.own 2))), (6, .sv (.one (.own 3))), (23, .sv (.one (LS (lsT intT) d.fNext))), (24, .sv (.one (I (d.fNext.length : Int)))), (25, .sv (.one (I (wr (x25 + 1)))))], [.box [I d.fLetters, I d.fStart, LS (lsT intT) d.fNext, LS intT d.fMark] 80 false, rowI 3 intT l1, mapI DetSplit.enc intT m2_2, rowI 3 intT (l3.set (x25).toNat ((mget (DetSplit.mk e_5 (bytesOf l4)) m2_2).getD (0 : Int))), .gone, .gone]⟩ (by kernel_rfl) ?_
          refine WL.nil ?_
          exact En.at (I := fun zz => Inv_2 zz.1 zz.2.1 zz.2.2 ∧ mu_2 zz.1 zz.2.1 zz.2.2 < mu_2 x25 m2 l3) (T := fun zz => ⟨[(1, .sv (.one (.ptr 0 0))), (3, .sv (.one (.own 1))), (4, .sv (.one (I x4))), (5, .sv (.one (.own 2))), (6, .sv (.one (.own 3))), (23, .sv (.one (LS (lsT intT) d.fNext))), (24, .sv (.one (I (d.fNext.length : Int)))), (25, .sv (.one (I zz.1)))], [.box [I d.fLetters, I d.fStart, LS (lsT intT) d.fNext, LS intT d.fMark] 80 false, rowI 3 intT l1, mapI DetSplit.enc intT zz.2.1, rowI 3 intT zz.2.2]⟩) ((wr (x25 + 1)), m2_2, (l3.set (x25).toNat ((mget (DetSplit.mk e_5 (bytesOf l4)) m2_2).getD (0 : Int)))) h (by kernel_rfl)
  · replace h := h.2 hb
    refine En.exit rfl ?_
    refine En.seq ?_
    refine En.region ?_
    refine WL.run ht hn 2 ⟨[(1, .sv (.one (.ptr 0 0))), (3, .sv (.one (.own 3))), (4, .sv (.one (I x4))), (5, .sv (.one (.own 2)))], [.box [I d.fLetters, I d.fStart, LS (lsT intT) d.fNext, LS intT d.fMark] 80 false, .gone, mapI DetSplit.enc intT m2, rowI 3 intT l3]⟩ (by kernel_rfl) ?_
    refine WL.nil ?_
    refine En.seq ?_
    refine En.seq ?_
    refine En.region ?_
    refine WL.run ht hn 1 ⟨[(1, .sv (.one (.ptr 0 0))), (3, .sv (.one (.own 3))), (4, .sv (.one (I x4))), (5, .sv (.one (.own 2))), (78, .sv (.one (.own 2)))], [.box [I d.fLetters, I d.fStart, LS (lsT intT) d.fNext, LS intT d.fMark] 80 false, .gone, mapI DetSplit.enc intT m2, rowI 3 intT l3]⟩ (by kernel_rfl) ?_
    refine WL.val hn (by rfl) (val_lenM (enc := DetSplit.enc) (T := intT) (D := m2) rfl Try.underlying258 (by rfl) (by rfl) (mapAs _ _ _)) (by rfl) ?_
    refine WL.run ht hn 2 ⟨[(1, .sv (.one (.ptr 0 0))), (3, .sv (.one (.own 3))), (5, .sv (.one (.own 2))), (81, .sv (.one (B ((m2.length : Int) == x4))))], [.box [I d.fLetters, I d.fStart, LS (lsT intT) d.fNext, LS intT d.fMark] 80 false, .gone, mapI DetSplit.enc intT m2, rowI 3 intT l3]⟩ (by kernel_rfl) ?_
    refine WL.nil ?_
    refine En.cond (b := ((m2.length : Int) == x4)) (by kernel_rfl) (fun hb => ?_) (fun hb => ?_)
    · replace h := h.1 hb
      refine En.seq ?_
      refine En.region ?_
      refine WL.run ht hn 2 ⟨[(2, .sv (.one (.own 3)))], [.gone, .gone, .gone, rowI 3 intT l3]⟩ (by kernel_rfl) ?_
      refine WL.nil ?_
      refine En.ret ?_
      refine En.seal 3 (by rfl) ?_
      exact En.back ht l3 h (by kernel_rfl) rfl
    · replace h := h.2 hb
      refine En.skip ?_
      refine En.region ?_
      refine WL.run ht hn 1 ⟨[(1, .sv (.one (.ptr 0 0))), (3, .sv (.one (.own 3))), (83, .sv (.one (.own 2)))], [.box [I d.fLetters, I d.fStart, LS (lsT intT) d.fNext, LS intT d.fMark] 80 false, .gone, mapI DetSplit.enc intT m2, rowI 3 intT l3]⟩ (by kernel_rfl) ?_
      refine WL.val hn (by rfl) (val_lenM (enc := DetSplit.enc) (T := intT) (D := m2) rfl Try.underlying258 (by rfl) (by rfl) (mapAs _ _ _)) (by rfl) ?_
      refine WL.run ht hn 1 ⟨[(1, .sv (.one (.ptr 0 0))), (3, .sv (.one (.own 3))), (4, .sv (.one (I (m2.length : Int))))], [.box [I d.fLetters, I d.fStart, LS (lsT intT) d.fNext, LS intT d.fMark] 80 false, .gone, .gone, rowI 3 intT l3]⟩ (by kernel_rfl) ?_
      refine WL.nil ?_
      refine En.move 3 1 (by rfl) (by rfl) ?_
      exact En.at (I := fun zz => Inv zz.1 zz.2 ∧ mu zz.1 zz.2 < mu x4 l1) (T := fun zz => ⟨[(1, .sv (.one (.ptr 0 0))), (3, .sv (.one (.own 1))), (4, .sv (.one (I zz.1)))], [.box [I d.fLetters, I d.fStart, LS (lsT intT) d.fNext, LS intT d.fMark] 80 false, rowI 3 intT zz.2]⟩) ((m2.length : Int), l3) h (by kernel_rfl)
theorem en131 : ∀ args w, (callFunc 131 args).run Try.prog w = .ok (.enter 131 args) w := enters_of Try.func131 (by kernel_rfl) rfl
end Go.Proofs.Ytfpdnigihjmohaa

/- The plain law of exploring: automata of keys, numbered as they are found; the one automaton of a language. No condition. -/
namespace Go.Proofs.Ytfpdnigihjmohaa
open Go.RowKit Go.MapKept
set_option linter.unusedSimpArgs false
set_option linter.unusedVariables false
set_option maxRecDepth 100000
set_option linter.unusedSectionVars false

theorem nodup_le {α : Type} : ∀ {l m : List α}, l.Nodup → (∀ x ∈ l, x ∈ m) → l.length ≤ m.length
  | [], _, _, _ => Nat.zero_le _
  | x :: l, m, hn, h => by
    rw [List.nodup_cons] at hn
    obtain ⟨s, t, rfl⟩ := List.append_of_mem (h x List.mem_cons_self)
    have := nodup_le (l := l) (m := s ++ t) hn.2 fun y hy => by
      have h1 := h y (List.mem_cons_of_mem _ hy)
      rw [List.mem_append, List.mem_cons] at h1
      rw [List.mem_append]
      rcases h1 with h1 | rfl | h1
      · exact .inl h1
      · exact absurd hy hn.1
      · exact .inr h1
    simp only [List.length_append, List.length_cons] at this ⊢
    omega
theorem idxOf_left {α : Type} [DecidableEq α] {x : α} : ∀ {l r : List α}, x ∈ l → (l ++ r).idxOf x = l.idxOf x
  | [], _, h => by simp at h
  | y :: l, r, h => by
    rw [List.cons_append, List.idxOf_cons, List.idxOf_cons]
    by_cases e : y = x
    · simp [e]
    · have hm : x ∈ l := by
        rcases List.mem_cons.1 h with h | h
        · exact absurd h.symm e
        · exact h
      simp [e, idxOf_left (r := r) hm]
theorem idxOf_map {α β : Type} [DecidableEq α] [DecidableEq β] {φ : α → β} {x : α} : ∀ {l : List α}, (∀ y ∈ l, φ y = φ x → y = x) → (l.map φ).idxOf (φ x) = l.idxOf x
  | [], _ => rfl
  | y :: l, h => by
    rw [List.map_cons, List.idxOf_cons, List.idxOf_cons]
    have ih := idxOf_map (l := l) fun z hz => h z (List.mem_cons_of_mem _ hz)
    by_cases e : y = x
    · simp [e]
    · have : φ y ≠ φ x := fun e2 => e (h y List.mem_cons_self e2)
      rw [show (φ y == φ x) = false by simpa using this, show (y == x) = false by simpa using e]
      simp [ih]
section
variable {K : Type} [DecidableEq K]
/-- keys that are known, and those behind key k by the letters below n -/
def growTo (go : K → Nat → K) (k : K) : Nat → List K → List K
  | 0, l => l
  | n + 1, l => if go k n ∈ growTo go k n l then growTo go k n l else growTo go k n l ++ [go k n]
/-- keys that are known when the first i were gone through -/
def expl (go : K → Nat → K) (L : Nat) (k0 : K) : Nat → List K
  | 0 => [k0]
  | i + 1 => match (expl go L k0 i)[i]? with
    | some k => growTo go k L (expl go L k0 i)
    | none => expl go L k0 i
variable {go : K → Nat → K} {mark : K → Int} {L : Nat} {k0 : K} {P : K → Prop}
theorem growTo_app (k : K) : ∀ (n : Nat) (l : List K), ∃ r, growTo go k n l = l ++ r
  | 0, l => ⟨[], by simp [growTo]⟩
  | n + 1, l => by
    obtain ⟨r, hr⟩ := growTo_app k n l
    rw [growTo]
    split
    · exact ⟨r, hr⟩
    · exact ⟨r ++ [go k n], by rw [hr, List.append_assoc]⟩
theorem growTo_nodup {k : K} : ∀ {n : Nat} {l : List K}, l.Nodup → (growTo go k n l).Nodup
  | 0, _, h => h
  | n + 1, l, h => by
    have ih := growTo_nodup (k := k) (n := n) h
    rw [growTo]
    split
    · exact ih
    · rename_i hm
      rw [List.nodup_append]
      exact ⟨ih, by simp, fun x hx y hy => by simp at hy; subst hy; exact fun e => hm (e ▸ hx)⟩
theorem growTo_mem {k x : K} : ∀ {n : Nat} {l : List K}, x ∈ growTo go k n l ↔ x ∈ l ∨ ∃ a, a < n ∧ go k a = x
  | 0, l => by simp [growTo]
  | n + 1, l => by
    have ih := growTo_mem (k := k) (x := x) (n := n) (l := l)
    have key : x ∈ growTo go k (n + 1) l ↔ x ∈ growTo go k n l ∨ go k n = x := by
      rw [growTo]
      split
      · rename_i hm
        constructor
        · exact .inl
        · rintro (h | rfl)
          · exact h
          · exact hm
      · rw [List.mem_append, List.mem_singleton]
        constructor
        · rintro (h | rfl)
          · exact .inl h
          · exact .inr rfl
        · rintro (h | rfl)
          · exact .inl h
          · exact .inr rfl
    rw [key, ih]
    constructor
    · rintro ((h | ⟨a, h1, h2⟩) | h)
      · exact .inl h
      · exact .inr ⟨a, by omega, h2⟩
      · exact .inr ⟨n, by omega, h⟩
    · rintro (h | ⟨a, h1, h2⟩)
      · exact .inl (.inl h)
      · by_cases e : a = n
        · subst e; exact .inr h2
        · exact .inl (.inr ⟨a, by omega, h2⟩)
theorem expl_step (i : Nat) : ∃ r, expl go L k0 (i + 1) = expl go L k0 i ++ r := by
  rw [expl]
  split
  · exact growTo_app _ _ _
  · exact ⟨[], by simp⟩
theorem expl_app {i : Nat} : ∀ {j : Nat}, i ≤ j → ∃ r, expl go L k0 j = expl go L k0 i ++ r
  | 0, h => by
    obtain rfl : i = 0 := by omega
    exact ⟨[], by simp⟩
  | j + 1, h => by
    by_cases e : i = j + 1
    · subst e; exact ⟨[], by simp⟩
    · obtain ⟨r, hr⟩ := expl_app (i := i) (j := j) (by omega)
      obtain ⟨r2, hr2⟩ := expl_step (go := go) (L := L) (k0 := k0) j
      exact ⟨r ++ r2, by rw [hr2, hr, List.append_assoc]⟩
theorem expl_nodup : ∀ {i : Nat}, (expl go L k0 i).Nodup
  | 0 => by simp [expl]
  | i + 1 => by
    rw [expl]
    split
    · exact growTo_nodup expl_nodup
    · exact expl_nodup
theorem expl_stop {i : Nat} (h : (expl go L k0 i).length ≤ i) : ∀ {j : Nat}, i ≤ j → expl go L k0 j = expl go L k0 i
  | 0, hj => by
    obtain rfl : i = 0 := by omega
    rfl
  | j + 1, hj => by
    by_cases e : i = j + 1
    · subst e; rfl
    · have ih := expl_stop h (j := j) (by omega)
      rw [expl, ih, List.getElem?_eq_none (by omega)]
theorem expl_one {n m : Nat} (hn : (expl go L k0 n).length = n) (hm : (expl go L k0 m).length = m) : expl go L k0 n = expl go L k0 m := by
  rcases Nat.le_total n m with h | h
  · exact (expl_stop (by omega) h).symm
  · exact expl_stop (by omega) h
theorem expl_mono {i j : Nat} (h : i ≤ j) : (expl go L k0 i).length ≤ (expl go L k0 j).length := by
  obtain ⟨r, hr⟩ := expl_app (go := go) (L := L) (k0 := k0) h
  rw [hr, List.length_append]
  omega
theorem expl_in (h0 : P k0) (hP : ∀ k a, P k → a < L → P (go k a)) : ∀ {i : Nat} {k : K}, k ∈ expl go L k0 i → P k
  | 0, k, h => by
    simp [expl] at h
    exact h ▸ h0
  | i + 1, k, h => by
    rw [expl] at h
    split at h
    · rename_i q hq
      rcases growTo_mem.1 h with h | ⟨a, ha, rfl⟩
      · exact expl_in h0 hP h
      · exact hP _ _ (expl_in h0 hP (List.mem_of_getElem? hq)) ha
    · exact expl_in h0 hP h
theorem expl_first (i : Nat) : (expl go L k0 i)[0]? = some k0 := by
  obtain ⟨r, hr⟩ := expl_app (go := go) (L := L) (k0 := k0) (Nat.zero_le i)
  rw [hr]
  simp [expl]
/-- the key number j is known when the first j were gone through -/
theorem expl_get {n j : Nat} {k : K} (hj : j < n) (hk : (expl go L k0 n)[j]? = some k) : (expl go L k0 j)[j]? = some k := by
  obtain ⟨r, hr⟩ := expl_app (go := go) (L := L) (k0 := k0) (Nat.le_of_lt hj)
  by_cases h : j < (expl go L k0 j).length
  · rw [hr, List.getElem?_append_left h] at hk
    exact hk
  · have e := expl_stop (go := go) (L := L) (k0 := k0) (i := j) (by omega) (j := n) (by omega)
    rw [e, List.getElem?_eq_none (by omega)] at hk
    cases hk
theorem expl_closed {n : Nat} (hn : (expl go L k0 n).length = n) {k : K} (hk : k ∈ expl go L k0 n) {a : Nat} (ha : a < L) : go k a ∈ expl go L k0 n := by
  obtain ⟨j, hj⟩ := List.getElem?_of_mem hk
  have hlt : j < n := by
    have := (List.getElem?_eq_some_iff.1 hj).1
    omega
  have h1 := expl_get hlt hj
  obtain ⟨r, hr⟩ := expl_app (go := go) (L := L) (k0 := k0) (show j + 1 ≤ n from hlt)
  rw [hr]
  refine List.mem_append_left _ ?_
  rw [expl, h1]
  exact growTo_mem.2 (.inr ⟨a, ha, rfl⟩)
/-- where all keys lie in a list, they are found -/
theorem expl_ends {m : List K} (h0 : k0 ∈ m) (hP : ∀ k a, k ∈ m → a < L → go k a ∈ m) : ∃ n, (expl go L k0 n).length = n ∧ n ≤ m.length := by
  have hall : ∀ i, (expl go L k0 i).length ≤ m.length := fun i => nodup_le expl_nodup fun x hx => expl_in (P := fun k => k ∈ m) h0 hP hx
  by_cases h : ∃ n, n ≤ m.length ∧ (expl go L k0 n).length ≤ n
  · obtain ⟨n, h1, h2⟩ := h
    have h3 : (expl go L k0 (expl go L k0 n).length).length ≤ (expl go L k0 n).length := expl_mono h2
    have h4 := expl_stop h3 h2
    exact ⟨(expl go L k0 n).length, by rw [← h4], hall n⟩
  · exfalso
    have := hall m.length
    exact h ⟨m.length, Nat.le_refl _, this⟩
def rowOf (go : K → Nat → K) (L : Nat) (l : List K) (k : K) : List Int := (List.range L).map fun a => (l.idxOf (go k a) : Int)
/-- the automaton of keys -/
def detOf (go : K → Nat → K) (mark : K → Int) (L : Nat) (l : List K) : ApiDet := ⟨L, 0, l.map (rowOf go L l), l.map mark⟩
open Classical in
noncomputable def explL (go : K → Nat → K) (L : Nat) (k0 : K) : List K := if h : ∃ n, (expl go L k0 n).length = n then expl go L k0 h.choose else [k0]
theorem explL_eq {n : Nat} (h : (expl go L k0 n).length = n) : explL go L k0 = expl go L k0 n := by
  unfold explL
  have hx : ∃ n, (expl go L k0 n).length = n := ⟨n, h⟩
  rw [dif_pos hx]
  exact expl_one hx.choose_spec h
noncomputable def explD (go : K → Nat → K) (mark : K → Int) (L : Nat) (k0 : K) : ApiDet := detOf go mark L (explL go L k0)
open Classical in
/-- what exploring hands back -/
noncomputable def explR (go : K → Nat → K) (mark : K → Int) (L : Nat) (k0 : K) (limit : Int) : ApiDet × Bool :=
  if ∃ n : Nat, (expl go L k0 n).length = n ∧ (n : Int) ≤ limit then (explD go mark L k0, true) else (⟨0, 0, [], []⟩, false)
theorem explR_ends {limit : Int} {m : List K} (h0 : k0 ∈ m) (hP : ∀ k a, k ∈ m → a < L → go k a ∈ m) (hl : (m.length : Int) ≤ limit) : explR go mark L k0 limit = (explD go mark L k0, true) := by
  obtain ⟨n, h1, h2⟩ := expl_ends (L := L) h0 hP
  unfold explR
  rw [if_pos ⟨n, h1, by omega⟩]
section
variable {K' : Type} [DecidableEq K'] {go' : K' → Nat → K'} {mark' : K' → Int} {φ : K → K'}
theorem growTo_map (inj : ∀ x y, P x → P y → φ x = φ y → x = y) (hg : ∀ k a, P k → a < L → φ (go k a) = go' (φ k) a) (hP : ∀ k a, P k → a < L → P (go k a)) {k : K} (hk : P k) : ∀ {n : Nat} {l : List K}, n ≤ L → (∀ x ∈ l, P x) → growTo go' (φ k) n (l.map φ) = (growTo go k n l).map φ
  | 0, l, _, _ => rfl
  | n + 1, l, hn, hl => by
    have ih := growTo_map inj hg hP hk (n := n) (l := l) (by omega) hl
    have hin : ∀ x ∈ growTo go k n l, P x := fun x hx => by
      rcases growTo_mem.1 hx with h | ⟨a, ha, rfl⟩
      · exact hl x h
      · exact hP k a hk (by omega)
    have hmem : go' (φ k) n ∈ (growTo go k n l).map φ ↔ go k n ∈ growTo go k n l := by
      rw [← hg k n hk (by omega), List.mem_map]
      constructor
      · rintro ⟨x, hx, e⟩
        exact inj _ _ (hin x hx) (hP k n hk (by omega)) e ▸ hx
      · exact fun h => ⟨_, h, rfl⟩
    rw [growTo, growTo, ih]
    by_cases h : go k n ∈ growTo go k n l
    · rw [if_pos h, if_pos (hmem.2 h)]
    · rw [if_neg h, if_neg (fun e => h (hmem.1 e)), List.map_append, List.map_cons, List.map_nil, hg k n hk (by omega)]
theorem expl_map (h0 : P k0) (inj : ∀ x y, P x → P y → φ x = φ y → x = y) (hg : ∀ k a, P k → a < L → φ (go k a) = go' (φ k) a) (hP : ∀ k a, P k → a < L → P (go k a)) : ∀ {i : Nat}, expl go' L (φ k0) i = (expl go L k0 i).map φ
  | 0 => rfl
  | i + 1 => by
    rw [expl, expl, expl_map h0 inj hg hP, List.getElem?_map]
    cases hk : (expl go L k0 i)[i]? with
    | none => rfl
    | some k =>
      show growTo go' (φ k) L _ = _
      exact growTo_map inj hg hP (expl_in h0 hP (List.mem_of_getElem? hk)) (Nat.le_refl _) fun x hx => expl_in h0 hP hx
theorem explL_map (h0 : P k0) (inj : ∀ x y, P x → P y → φ x = φ y → x = y) (hg : ∀ k a, P k → a < L → φ (go k a) = go' (φ k) a) (hP : ∀ k a, P k → a < L → P (go k a)) : explL go' L (φ k0) = (explL go L k0).map φ := by
  by_cases h : ∃ n, (expl go L k0 n).length = n
  · obtain ⟨n, hn⟩ := h
    rw [explL_eq hn, explL_eq (n := n) (by rw [expl_map h0 inj hg hP, List.length_map]; exact hn), expl_map h0 inj hg hP]
  · have h' : ¬ ∃ n, (expl go' L (φ k0) n).length = n := fun ⟨n, hn⟩ => h ⟨n, by rw [expl_map h0 inj hg hP, List.length_map] at hn; exact hn⟩
    unfold explL
    rw [dif_neg h, dif_neg h']
    rfl
theorem explL_in (h0 : P k0) (hP : ∀ k a, P k → a < L → P (go k a)) {k : K} (hk : k ∈ explL go L k0) : P k := by
  unfold explL at hk
  split at hk
  · exact expl_in h0 hP hk
  · simp at hk
    exact hk ▸ h0
/-- automata of keys that go alike are alike -/
theorem explD_map (h0 : P k0) (inj : ∀ x y, P x → P y → φ x = φ y → x = y) (hg : ∀ k a, P k → a < L → φ (go k a) = go' (φ k) a) (hP : ∀ k a, P k → a < L → P (go k a)) (hm : ∀ k, P k → mark' (φ k) = mark k) : explD go' mark' L (φ k0) = explD go mark L k0 := by
  unfold explD detOf
  rw [explL_map h0 inj hg hP, List.map_map, List.map_map]
  have hin : ∀ k ∈ explL go L k0, P k := fun k hk => explL_in h0 hP hk
  refine congr (congrArg _ (List.map_congr_left fun k hk => ?_)) (List.map_congr_left fun k hk => hm k (hin k hk))
  show rowOf go' L _ (φ k) = rowOf go L _ k
  unfold rowOf
  refine List.map_congr_left fun a ha => ?_
  have ha : a < L := List.mem_range.1 ha
  have hk := hin k hk
  rw [← hg k a hk ha, idxOf_map fun y hy e => inj _ _ (hin y hy) (hP k a hk ha) e]
end
end
/-- what is said of words -/
abbrev Lang := List Nat → Int
noncomputable instance langDec : DecidableEq Lang := fun _ _ => Classical.propDecidable _
/-- of words of L letters alone -/
def rs (L : Nat) (r : Lang) : Lang := fun w => if ∀ a ∈ w, a < L then r w else 0
theorem rs_congr {L : Nat} {r s : Lang} (h : ∀ w, (∀ a ∈ w, a < L) → r w = s w) : rs L r = rs L s := by
  funext w
  unfold rs
  split
  · rename_i hw
    exact h w hw
  · rfl
def der (r : Lang) (a : Nat) : Lang := fun w => r (a :: w)
theorem rs_cons {L : Nat} {r : Lang} {a : Nat} (ha : a < L) {w : List Nat} : rs L r (a :: w) = rs L (der r a) w := by
  unfold rs
  by_cases h : ∀ b ∈ w, b < L
  · rw [if_pos h, if_pos (show ∀ b ∈ a :: w, b < L from fun b hb => (List.mem_cons.1 hb).elim (fun e => e ▸ ha) (h b))]
    rfl
  · rw [if_neg h, if_neg (fun e => h fun b hb => e b (List.mem_cons_of_mem _ hb))]
theorem der_rs {L : Nat} {r : Lang} {a : Nat} (ha : a < L) : der (rs L r) a = rs L (der r a) := funext fun _ => rs_cons ha
theorem rs_rs {L : Nat} {r : Lang} : rs L (rs L r) = rs L r := rs_congr fun w hw => by unfold rs; rw [if_pos hw]
theorem rs_at {L : Nat} {r s : Lang} (h : rs L r = rs L s) {w : List Nat} (hw : ∀ a ∈ w, a < L) : r w = s w := by
  have := congrFun h w
  unfold rs at this
  rw [if_pos hw, if_pos hw] at this
  exact this
/-- the automaton of what is said of words -/
noncomputable def canon (L : Nat) (r : Lang) : ApiDet := explD der (fun r => r []) L (rs L r)
theorem canon_congr {L : Nat} {r s : Lang} (h : ∀ w, (∀ a ∈ w, a < L) → r w = s w) : canon L r = canon L s := by
  unfold canon
  rw [rs_congr h]
section
variable {K : Type} [DecidableEq K] {go : K → Nat → K} {mark : K → Int} {L : Nat} {k0 : K} {P : K → Prop}
/-- what a key says of words -/
def langK (go : K → Nat → K) (mark : K → Int) (k : K) : Lang := fun w => mark (w.foldl go k)
theorem der_lang {k : K} {a : Nat} (ha : a < L) : rs L (langK go mark (go k a)) = der (rs L (langK go mark k)) a := by
  rw [der_rs ha]
  rfl
theorem canon_of (h0 : P k0) (hP : ∀ k a, P k → a < L → P (go k a)) (inj : ∀ x y, P x → P y → rs L (langK go mark x) = rs L (langK go mark y) → x = y) : explD go mark L k0 = canon L (langK go mark k0) := by
  unfold canon
  refine (explD_map (φ := fun k => rs L (langK go mark k)) h0 inj (fun k a _ ha => der_lang ha) hP fun k _ => ?_).symm
  show rs L (langK go mark k) [] = _
  unfold rs
  rw [if_pos (fun b hb => by simp at hb)]
  rfl
end
def stepD (d : ApiDet) (q : Nat) (a : Nat) : Nat := ((d.fNext.getD q []).getD a 0).toNat
/-- what an automaton says of words, from a state on -/
def langD (d : ApiDet) (q : Nat) : Lang := fun w => d.fMark.getD (w.foldl (stepD d) q) 0
section
variable {K : Type} [DecidableEq K] {go : K → Nat → K} {mark : K → Int} {L : Nat} {k0 : K} {P : K → Prop}
theorem getD_of {α : Type} {l : List α} {i : Nat} {d x : α} (h : l[i]? = some x) : l.getD i d = x := by simp [h]
theorem idxOf_get {l : List K} {k : K} (h : k ∈ l) : l[l.idxOf k]? = some k := by
  rw [List.getElem?_eq_getElem (List.idxOf_lt_length_of_mem h)]
  simp
theorem detOf_step {l : List K} {k : K} (hk : k ∈ l) {a : Nat} (ha : a < L) : stepD (detOf go mark L l) (l.idxOf k) a = l.idxOf (go k a) := by
  unfold stepD detOf
  have h1 : (l.map (rowOf go L l)).getD (l.idxOf k) [] = rowOf go L l k := getD_of (by rw [List.getElem?_map, idxOf_get hk]; rfl)
  have h2 : (rowOf go L l k).getD a 0 = (l.idxOf (go k a) : Int) := getD_of (by unfold rowOf; rw [List.getElem?_map, List.getElem?_range ha]; rfl)
  show (((l.map (rowOf go L l)).getD (l.idxOf k) []).getD a 0).toNat = _
  rw [h1, h2]
  simp
theorem detOf_run {l : List K} (hcl : ∀ k ∈ l, ∀ a, a < L → go k a ∈ l) : ∀ {w : List Nat} {k : K}, k ∈ l → (∀ a ∈ w, a < L) → w.foldl (stepD (detOf go mark L l)) (l.idxOf k) = l.idxOf (w.foldl go k)
  | [], k, hk, _ => rfl
  | a :: w, k, hk, hw => by
    have ha := hw a List.mem_cons_self
    rw [List.foldl_cons, List.foldl_cons, detOf_step hk ha, detOf_run hcl (hcl k hk a ha) fun b hb => hw b (List.mem_cons_of_mem _ hb)]
theorem foldl_in {l : List K} (hcl : ∀ k ∈ l, ∀ a, a < L → go k a ∈ l) : ∀ {w : List Nat} {k : K}, k ∈ l → (∀ a ∈ w, a < L) → w.foldl go k ∈ l
  | [], k, hk, _ => hk
  | a :: w, k, hk, hw => foldl_in (w := w) (k := go k a) hcl (hcl k hk a (hw a List.mem_cons_self)) fun b hb => hw b (List.mem_cons_of_mem _ hb)
theorem detOf_lang {l : List K} (hcl : ∀ k ∈ l, ∀ a, a < L → go k a ∈ l) {k : K} (hk : k ∈ l) {w : List Nat} (hw : ∀ a ∈ w, a < L) : langD (detOf go mark L l) (l.idxOf k) w = langK go mark k w := by
  unfold langD langK
  rw [detOf_run hcl hk hw]
  refine getD_of ?_
  show (l.map mark)[_]? = _
  rw [List.getElem?_map, idxOf_get (foldl_in hcl hk hw)]
  rfl
/-- all that is to be known of an explored automaton -/
theorem explD_facts {m : List K} (h0 : k0 ∈ m) (hP : ∀ k a, k ∈ m → a < L → go k a ∈ m) : ∃ l : List K, explL go L k0 = l ∧ l.Nodup ∧ (∀ k ∈ l, k ∈ m) ∧ l.length ≤ m.length ∧ l[0]? = some k0 ∧ ∀ k ∈ l, ∀ a, a < L → go k a ∈ l := by
  obtain ⟨n, h1, h2⟩ := expl_ends (L := L) h0 hP
  exact ⟨_, explL_eq h1, expl_nodup, fun k hk => expl_in (P := fun k => k ∈ m) h0 hP hk, by omega, expl_first n, fun k hk a ha => expl_closed h1 hk ha⟩
theorem idxOf_first {l : List K} (h : l[0]? = some k0) : l.idxOf k0 = 0 := by
  cases l with
  | nil => simp at h
  | cons x l => simp at h; simp [h]
theorem explD_lang {m : List K} (h0 : k0 ∈ m) (hP : ∀ k a, k ∈ m → a < L → go k a ∈ m) {w : List Nat} (hw : ∀ a ∈ w, a < L) : langD (explD go mark L k0) 0 w = langK go mark k0 w := by
  obtain ⟨l, e, _, _, _, h1, h2⟩ := explD_facts (L := L) h0 hP
  unfold explD
  rw [e]
  have := detOf_lang (mark := mark) h2 (List.mem_of_getElem? h1) hw
  rw [idxOf_first h1] at this
  exact this
end
/-- an automaton that may be, but for its marks -/
structure Wf (d : ApiDet) : Prop where
  letters : 0 ≤ d.fLetters
  rows : ∀ r ∈ d.fNext, r.length = d.fLetters.toNat
  next : ∀ r ∈ d.fNext, ∀ x ∈ r, 0 ≤ x ∧ x < (d.fNext.length : Int)
  start : 0 ≤ d.fStart ∧ d.fStart < (d.fNext.length : Int)
  mark : d.fMark.length = d.fNext.length
section
variable {K : Type} [DecidableEq K] {go : K → Nat → K} {mark : K → Int} {L : Nat} {k0 : K} {P : K → Prop}
theorem explD_wf {m : List K} (h0 : k0 ∈ m) (hP : ∀ k a, k ∈ m → a < L → go k a ∈ m) : Wf (explD go mark L k0) := by
  obtain ⟨l, e, _, _, _, h1, h2⟩ := explD_facts (L := L) h0 hP
  unfold explD
  rw [e]
  refine ⟨by simp [detOf], ?_, ?_, ?_, by simp [detOf]⟩
  · intro r hr
    obtain ⟨k, _, rfl⟩ := List.mem_map.1 hr
    simp [rowOf, detOf]
  · intro r hr x hx
    obtain ⟨k, hk, rfl⟩ := List.mem_map.1 hr
    obtain ⟨a, ha, rfl⟩ := List.mem_map.1 hx
    have := List.idxOf_lt_length_of_mem (h2 k hk a (List.mem_range.1 ha))
    simp only [detOf, List.length_map]
    omega
  · have : 0 < l.length := (List.getElem?_eq_some_iff.1 h1).1
    simp only [detOf, List.length_map]
    omega
theorem explD_count {m : List K} (h0 : k0 ∈ m) (hP : ∀ k a, k ∈ m → a < L → go k a ∈ m) : (explD go mark L k0).fNext.length ≤ m.length := by
  obtain ⟨l, e, _, _, h3, _⟩ := explD_facts (L := L) h0 hP
  unfold explD
  rw [e]
  simpa [detOf] using h3
theorem explD_marks {Q : Int → Prop} {m : List K} (h0 : k0 ∈ m) (hP : ∀ k a, k ∈ m → a < L → go k a ∈ m) (hQ : ∀ k ∈ m, Q (mark k)) : ∀ x ∈ (explD go mark L k0).fMark, Q x := fun x hx => by
  obtain ⟨l, e, _, h4, _⟩ := explD_facts (L := L) h0 hP
  unfold explD at hx
  rw [e] at hx
  obtain ⟨k, hk, rfl⟩ := List.mem_map.1 hx
  exact hQ k (h4 k hk)
end
/-- the automaton of what is so of all words -/
theorem canon_const {L : Nat} {c : Int} : canon L (fun _ => c) = ⟨L, 0, [List.replicate L 0], [c]⟩ := by
  have h := canon_of (K := Unit) (go := fun _ _ => ()) (mark := fun _ => c) (L := L) (k0 := ()) (P := fun _ => True) trivial (fun _ _ _ _ => trivial) (fun _ _ _ _ _ => rfl)
  refine (show canon L (fun _ => c) = explD (K := Unit) (fun _ _ => ()) (fun _ => c) L () from h.symm).trans ?_
  have hg : ∀ n : Nat, growTo (K := Unit) (fun _ _ => ()) () n [()] = [()] := fun n => by
    induction n with
    | zero => rfl
    | succ n ih => rw [growTo, ih]; simp
  have h1 : (expl (K := Unit) (fun _ _ => ()) L () 1) = [()] := by
    rw [expl]
    exact hg L
  unfold explD
  rw [explL_eq (n := 1) (by rw [h1]; rfl), h1]
  unfold detOf rowOf
  simp only [List.map_cons, List.map_nil]
  congr 2
  congr 1
  rw [List.eq_replicate_iff]
  refine ⟨by simp, fun x hx => ?_⟩
  obtain ⟨a, _, rfl⟩ := List.mem_map.1 hx
  rfl
/-- marks turned -/
theorem canon_turn {L : Nat} {r : Lang} (f : Int → Int) (inj : ∀ x y, (∃ w, r w = x) → (∃ w, r w = y) → f x = f y → x = y) : canon L (fun w => f (r w)) = { canon L r with fMark := (canon L r).fMark.map f } := by
  have h := explD_map (K := Lang) (K' := Lang) (go := der) (go' := der) (mark := fun s => f (s [])) (mark' := fun s => s []) (L := L) (k0 := rs L r) (φ := fun s => rs L (fun w => f (s w)))
    (P := fun s => ∃ u : List Nat, s = rs L (fun w => r (u ++ w))) ⟨[], rfl⟩
    (by
      rintro x y ⟨u, rfl⟩ ⟨v, rfl⟩ e
      refine rs_congr fun w hw => ?_
      have := rs_at e hw
      simp only [rs, if_pos hw] at this
      exact inj _ _ ⟨_, rfl⟩ ⟨_, rfl⟩ this)
    (fun k a _ ha => by rw [der_rs ha]; rfl)
    (by
      rintro k a ⟨u, rfl⟩ ha
      refine ⟨u ++ [a], ?_⟩
      rw [der_rs ha]
      refine rs_congr fun w _ => ?_
      show r (u ++ a :: w) = _
      rw [List.append_assoc]
      rfl)
    (fun k _ => by simp [rs])
  have e : rs L (fun w => f (rs L r w)) = rs L (fun w => f (r w)) := rs_congr fun w hw => by simp only [rs, if_pos hw]
  unfold canon
  rw [← e]
  refine h.trans ?_
  unfold explD detOf
  simp [Function.comp_def]
end Go.Proofs.Ytfpdnigihjmohaa

/- The plain law of det.Explore's mirror: what it hands back. No condition. -/
namespace Go.Proofs.Ytfpdnigihjmohaa
open Go.RowKit Go.MapKept
set_option linter.unusedSimpArgs false
set_option linter.unusedVariables false
set_option maxRecDepth 100000
set_option linter.unusedSectionVars false

section
variable {K : Type} [DecidableEq K] {go : K → Nat → K} {mark : K → Int} {L : Nat} {k0 : K} {P : K → Prop}
theorem growTo_mono {k : K} {l : List K} {a : Nat} : ∀ {b : Nat}, a ≤ b → ∃ r, growTo go k b l = growTo go k a l ++ r
  | 0, h => by
    obtain rfl : a = 0 := by omega
    exact ⟨[], by simp⟩
  | b + 1, h => by
    by_cases e : a = b + 1
    · subst e; exact ⟨[], by simp⟩
    · obtain ⟨r, hr⟩ := growTo_mono (k := k) (l := l) (a := a) (b := b) (by omega)
      rw [growTo]
      split
      · exact ⟨r, hr⟩
      · exact ⟨r ++ [go k b], by rw [hr, List.append_assoc]⟩
theorem expl_fails {i a : Nat} {e : K} {limit : Int} (he : (expl go L k0 i)[i]? = some e) (ha : a < L) (hn : go e a ∉ growTo go e a (expl go L k0 i)) (hl : ((growTo go e a (expl go L k0 i)).length : Int) = limit) : ¬ ∃ n : Nat, (expl go L k0 n).length = n ∧ (n : Int) ≤ limit := by
  rintro ⟨n, h1, h2⟩
  have hi := (List.getElem?_eq_some_iff.1 he).1
  have h3 : expl go L k0 (i + 1) = growTo go e L (expl go L k0 i) := by rw [expl, he]
  have h4 : growTo go e (a + 1) (expl go L k0 i) = growTo go e a (expl go L k0 i) ++ [go e a] := by rw [growTo, if_neg hn]
  obtain ⟨r, hr⟩ := growTo_mono (go := go) (k := e) (l := expl go L k0 i) (show a + 1 ≤ L from ha)
  have h5 : (expl go L k0 (i + 1)).length = (growTo go e a (expl go L k0 i)).length + 1 + r.length := by
    rw [h3, hr, h4]
    simp
    omega
  rcases Nat.lt_or_ge n (i + 1) with h | h
  · have := expl_stop (go := go) (L := L) (k0 := k0) (i := n) (by omega) (j := i) (by omega)
    rw [this] at hi
    omega
  · have := expl_mono (go := go) (L := L) (k0 := k0) h
    omega
/-- a map that numbers keys as a list does -/
def MapOf (m : List (K × Int)) (l : List K) : Prop := ∀ k, mget k m = if k ∈ l then some (l.idxOf k : Int) else none
theorem MapOf.one : MapOf (mput k0 0 ([] : List (K × Int))) [k0] := fun k => by
  rw [mget_put]
  by_cases h : k = k0
  · subst h; simp
  · simp [h, mget]
theorem idxOf_last {l : List K} {k : K} (h : k ∉ l) : (l ++ [k]).idxOf k = l.length := by
  induction l with
  | nil => simp
  | cons x l ih =>
    have h1 : x ≠ k := fun e => h (e ▸ List.mem_cons_self)
    have h2 : k ∉ l := fun e => h (List.mem_cons_of_mem _ e)
    rw [List.cons_append, List.idxOf_cons, ih h2, show (x == k) = false by simpa using h1]
    simp
theorem MapOf.push {m : List (K × Int)} {l : List K} (h : MapOf m l) {k : K} (hk : k ∉ l) : MapOf (mput k (l.length : Int) m) (l ++ [k]) := fun q => by
  rw [mget_put]
  by_cases e : q = k
  · subst e
    simp [idxOf_last hk]
  · rw [if_neg e, h q]
    by_cases hq : q ∈ l
    · rw [if_pos hq, if_pos (List.mem_append_left _ hq), idxOf_left hq]
    · rw [if_neg hq, if_neg (by simp [hq, e])]
theorem rowOf_left {l r : List K} {k : K} (h : ∀ a, a < L → go k a ∈ l) : rowOf go L (l ++ r) k = rowOf go L l k := by
  unfold rowOf
  refine List.map_congr_left fun a ha => ?_
  rw [idxOf_left (h a (List.mem_range.1 ha))]
theorem set_row {α : Type} (f : Nat → α) (z : α) {a L : Nat} (h : a < L) : (((List.range a).map f) ++ List.replicate (L - a) z).set a (f a) = (List.range (a + 1)).map f ++ List.replicate (L - (a + 1)) z := by
  refine List.ext_getElem? fun i => ?_
  rw [List.getElem?_set]
  by_cases e : a = i
  · subst e
    rw [if_pos rfl, if_pos (by simp; omega), List.getElem?_append_left (by simp), List.getElem?_map, List.getElem?_range (by omega)]
    rfl
  · rw [if_neg e]
    by_cases h1 : i < a
    · rw [List.getElem?_append_left (by simpa using h1), List.getElem?_append_left (by simp; omega), List.getElem?_map, List.getElem?_map, List.getElem?_range h1, List.getElem?_range (by omega)]
    · rw [List.getElem?_append_right (by simp; omega), List.getElem?_append_right (by simp; omega), List.getElem?_replicate, List.getElem?_replicate]
      simp only [List.length_map, List.length_range]
      by_cases h2 : i < L
      · rw [if_pos (by omega), if_pos (by omega)]
      · rw [if_neg (by omega), if_neg (by omega)]
end
theorem explore_plain {K : Type} [DecidableEq K] (letters : Int) (start : K) (domgo : (K × Int) → Prop) (go : (K × Int) → K) (dommark : K → Prop) (mark : K → Int) (limit : Int) (b : Nat) (Q : (ApiDet × Bool) → Prop)
    (P : K → Prop) (h0 : P start) (hP : ∀ k (a : Nat), P k → (a : Int) < letters → domgo (k, (a : Int)) ∧ P (go (k, (a : Int)))) (hm : ∀ k, P k → dommark k) (hl : 0 ≤ letters ∧ letters ≤ 1000) (hlim : 1 ≤ limit ∧ limit ≤ 2097152) (hb : b ≤ 64)
    (hQ : Q (explR (fun k (a : Nat) => go (k, (a : Int))) mark letters.toNat start limit)) :
  ∃ (Inv : (List (K × Int)) → (List K) → (List (List Int)) → (List Int) → Prop) (mu : (List (K × Int)) → (List K) → (List (List Int)) → (List Int) → Nat), Inv (mput start 0 ([] : List (K × Int))) ([start] : (List K)) ([] : (List (List Int))) ([] : (List Int)) ∧
  ∀ (m2 : (List (K × Int))) (l3 : (List K)) (l6 : (List (List Int))) (l7 : (List Int)) , Inv m2 l3 l6 l7 → (IfP (decide ((l6.length : Int) < (l3.length : Int))) (∃ e, idx l3 (l6.length : Int) = some e ∧
  makeOk letters letters 8 ∧
  ∃ (Inv_2 : Int → (List (K × Int)) → (List K) → (List Int) → Prop) (mu_2 : Int → (List (K × Int)) → (List K) → (List Int) → Nat), Inv_2 0 m2 l3 (List.replicate (letters).toNat (0 : Int)) ∧
  ∀ (x43 : Int) (m2_2 : (List (K × Int))) (l3_2 : (List K)) (l8 : (List Int)) , Inv_2 x43 m2_2 l3_2 l8 → (IfP (decide (x43 < letters)) ((domgo (e, x43)) ∧
  ∃ J : Int → (List (K × Int)) → (List K) → Prop, (IfP (!(mget (go (e, x43)) m2_2).isSome) (IfP ((l3_2.length : Int) == limit) (Q ((ApiDet.mk 0 0 [] []), false)) (capOk l3_2.length (([(go (e, x43))] : (List K)) : (List K)).length b ∧
  J (l3_2.length : Int) (mput (go (e, x43)) (l3_2.length : Int) m2_2) (l3_2 ++ ([(go (e, x43))] : (List K))))) (J ((mget (go (e, x43)) m2_2).getD (0 : Int)) m2_2 l3_2)) ∧
  (∀ (x19 : Int) (m2_3 : (List (K × Int))) (l3_3 : (List K)), J x19 m2_3 l3_3 → ∃ e_2, idx l8 x43 = some e_2 ∧
  (Inv_2 (wr (x43 + 1)) m2_3 l3_3 (l8.set (x43).toNat x19) ∧ mu_2 (wr (x43 + 1)) m2_3 l3_3 (l8.set (x43).toNat x19) < mu_2 x43 m2_2 l3_2 l8))) (capOk l6.length (([l8] : (List (List Int))) : (List (List Int))).length 24 ∧
  (dommark e) ∧
  capOk l7.length (([(mark e)] : (List Int)) : (List Int)).length 8 ∧
  (Inv m2_2 l3_2 (l6 ++ ([l8] : (List (List Int)))) (l7 ++ ([(mark e)] : (List Int))) ∧ mu m2_2 l3_2 (l6 ++ ([l8] : (List (List Int)))) (l7 ++ ([(mark e)] : (List Int))) < mu m2 l3 l6 l7)))) (Q ((ApiDet.mk letters 0 l6 l7), true))) := by
  obtain ⟨L, rfl⟩ : ∃ L : Nat, letters = L := ⟨letters.toNat, by omega⟩
  rw [Int.toNat_natCast] at hQ ⊢
  generalize hg : (fun (k : K) (a : Nat) => go (k, (a : Int))) = g at hQ
  have hgo : ∀ k (a : Nat), go (k, (a : Int)) = g k a := fun k a => by rw [← hg]
  have hPg : ∀ k a, P k → a < L → P (g k a) := fun k a hk ha => by rw [← hgo]; exact (hP k a hk (by omega)).2
  have hin : ∀ i k, k ∈ expl g L start i → P k := fun i k hk => expl_in h0 hPg hk
  refine ⟨fun m2 l3 l6 l7 => ∃ i : Nat, l6.length = i ∧ l7.length = i ∧ l3 = expl g L start i ∧ i ≤ l3.length ∧ (l3.length : Int) ≤ limit ∧ MapOf m2 l3 ∧ l6 = (l3.take i).map (rowOf g L l3) ∧ l7 = (l3.take i).map mark ∧ ∀ k ∈ l3.take i, ∀ a, a < L → g k a ∈ l3,
    fun m2 l3 l6 l7 => (limit + 1).toNat - l6.length, ⟨0, rfl, rfl, rfl, by simp, by simp; omega, MapOf.one, rfl, rfl, fun k hk => by simp at hk⟩, ?_⟩
  rintro m2 l3 l6 l7 ⟨i, hi1, hi1', hl3, hi2, hi3, hmap, hl6, hl7, hcl⟩
  refine ⟨fun hlt => ?_, fun hge => ?_⟩
  · have hlt : i < l3.length := by
      have := of_decide_eq_true hlt
      omega
    have he : l3[i]? = some l3[i] := List.getElem?_eq_getElem hlt
    generalize l3[i] = e at he
    have hPe : P e := hin i e (hl3 ▸ List.mem_of_getElem? he)
    refine ⟨e, by simp [idx, hi1, he], ⟨by omega, by omega, by omega⟩, fun x m l row => ∃ a : Nat, x = a ∧ a ≤ L ∧ l = growTo g e a l3 ∧ MapOf m l ∧ (l.length : Int) ≤ limit ∧ row = (List.range a).map (fun c => (l.idxOf (g e c) : Int)) ++ List.replicate (L - a) 0, fun x _ _ _ => L - x.toNat,
      ⟨0, rfl, Nat.zero_le _, rfl, hmap, hi3, by simp⟩, ?_⟩
    rintro x m l row ⟨a, rfl, ha, hlg, hm2, hl2, hrow⟩
    refine ⟨fun hlt2 => ?_, fun hge2 => ?_⟩
    · have ha : a < L := by
        have := of_decide_eq_true hlt2
        omega
      refine ⟨(hP e a hPe (by omega)).1, fun x19 m3 l4 => l4 = growTo g e (a + 1) l3 ∧ MapOf m3 l4 ∧ (l4.length : Int) ≤ limit ∧ x19 = (l4.idxOf (g e a) : Int) ∧ ∃ r, l4 = l ++ r, ?_, ?_⟩
      · rw [hgo]
        by_cases hmem : g e a ∈ l
        · have h1 : mget (g e a) m = some (l.idxOf (g e a) : Int) := by rw [hm2, if_pos hmem]
          rw [h1]
          refine ⟨fun h => (by cases h), fun _ => ⟨?_, hm2, hl2, rfl, [], by simp⟩⟩
          rw [growTo, ← hlg, if_pos hmem]
        · have h1 : mget (g e a) m = none := by rw [hm2, if_neg hmem]
          rw [h1]
          refine ⟨fun _ => ⟨fun hfull => ?_, fun hroom => ⟨?_, ?_, hm2.push hmem, ?_, ?_, [g e a], rfl⟩⟩, fun h => (by cases h)⟩
          · have hfull : (l.length : Int) = limit := by simpa using hfull
            have hf := expl_fails (go := g) (L := L) (k0 := start) (i := i) (a := a) (e := e) (limit := limit) (by rw [← hl3]; exact he) ha (by rw [← hl3, ← hlg]; exact hmem) (by rw [← hl3, ← hlg]; exact hfull)
            have : explR g mark L start limit = (⟨0, 0, [], []⟩, false) := by
              unfold explR
              rw [if_neg hf]
            rw [this] at hQ
            exact hQ
          · unfold capOk
            simp only [List.length_cons, List.length_nil]
            have h64 : (l.length + (0 + 1)) * b ≤ (l.length + 1) * 64 := Nat.mul_le_mul_left _ hb
            omega
          · rw [growTo, ← hlg, if_neg hmem]
          · have hne : (l.length : Int) ≠ limit := by simpa using hroom
            rw [List.length_append]
            simp only [List.length_cons, List.length_nil]
            omega
          · rw [idxOf_last hmem]
      · rintro x19 m3 l4 ⟨hl4, hm4, hl5, rfl, r, hr⟩
        have hlen : row.length = L := by
          rw [hrow]
          simp
          omega
        refine ⟨row[a]'(by omega), by simp [idx, hlen, ha], ⟨a + 1, ?_, by omega, hl4, hm4, hl5, ?_⟩, ?_⟩
        · rw [wr_in (by omega) (by omega)]
          omega
        · rw [Int.toNat_natCast]
          have hst : ∀ c, c < a → l4.idxOf (g e c) = l.idxOf (g e c) := fun c hc => by
            rw [hr, idxOf_left]
            rw [hlg]
            exact growTo_mem.2 (.inr ⟨c, hc, rfl⟩)
          have : row = (List.range a).map (fun c => (l4.idxOf (g e c) : Int)) ++ List.replicate (L - a) 0 := by
            rw [hrow]
            congr 1
            refine List.map_congr_left fun c hc => ?_
            rw [hst c (List.mem_range.1 hc)]
          rw [this]
          exact set_row (fun c => (l4.idxOf (g e c) : Int)) 0 ha
        · rw [wr_in (by omega) (by omega)]
          simp only
          omega
    · obtain rfl : a = L := by
        have := of_decide_eq_false hge2
        omega
      have hnext : l = expl g a start (i + 1) := by rw [expl, ← hl3, he, hlg]
      obtain ⟨r, hr⟩ := growTo_app (go := g) e a l3
      rw [← hlg] at hr
      have htake : l.take (i + 1) = l3.take i ++ [e] := by
        rw [hr, List.take_append_of_le_length (by omega), List.take_add_one, he]
        rfl
      have hrow' : row = rowOf g a l e := by
        rw [hrow]
        simp [rowOf]
      have hcl' : ∀ k ∈ l.take (i + 1), ∀ c, c < a → g k c ∈ l := fun k hk c hc => by
        rw [htake, List.mem_append, List.mem_singleton] at hk
        rcases hk with hk | rfl
        · rw [hr]
          exact List.mem_append_left _ (hcl k hk c hc)
        · rw [hlg]
          exact growTo_mem.2 (.inr ⟨c, hc, rfl⟩)
      have hge : i + 1 ≤ l.length := by
        rw [hr, List.length_append]
        omega
      refine ⟨?_, hm e hPe, ?_, ⟨i + 1, by simp [hi1], by simp [hi1'], hnext, hge, hl2, hm2, ?_, ?_, hcl'⟩, ?_⟩
      · unfold capOk
        simp only [List.length_cons, List.length_nil]
        omega
      · unfold capOk
        simp only [List.length_cons, List.length_nil]
        omega
      · rw [htake, List.map_append, hl6, hrow', List.map_cons, List.map_nil]
        congr 1
        refine List.map_congr_left fun k hk => ?_
        rw [hr]
        exact (rowOf_left (hcl k hk)).symm
      · rw [htake, List.map_append, hl7]
        rfl
      · simp only [List.length_append, List.length_cons, List.length_nil]
        omega
  · have hge : l3.length = i := by
      have := of_decide_eq_false hge
      omega
    have hdone : (expl g L start i).length = i := by rw [← hl3]; exact hge
    have : explR g mark L start limit = (⟨L, 0, l6, l7⟩, true) := by
      unfold explR
      rw [if_pos ⟨i, hdone, by omega⟩]
      unfold explD
      rw [explL_eq hdone, ← hl3]
      have ht : l3.take i = l3 := by rw [← hge]; exact List.take_length
      rw [ht] at hl6 hl7
      rw [hl6, hl7]
      rfl
    rw [this] at hQ
    exact hQ
end Go.Proofs.Ytfpdnigihjmohaa

/- The plain law of det.Classes' mirror: classes tell apart what words tell apart. No condition. -/
namespace Go.Proofs.Ytfpdnigihjmohaa
open Go.RowKit Go.MapKept
set_option linter.unusedSimpArgs false
set_option linter.unusedVariables false
set_option maxRecDepth 100000
set_option linter.unusedSectionVars false

/-- a function of the first m numbers onto themselves is one to one -/
theorem onto_inj {m : Nat} {f : Nat → Nat} (hon : ∀ j, j < m → ∃ i, i < m ∧ f i = j) {i j : Nat} (hi : i < m) (hj : j < m) (h : f i = f j) : i = j := by
  refine Decidable.byContradiction fun hne => ?_
  have := nodup_le (l := List.range m) (m := ((List.range m).erase i).map f) List.nodup_range fun x hx => by
    obtain ⟨q, hq, rfl⟩ := hon x (List.mem_range.1 hx)
    rw [List.mem_map]
    by_cases e : q = i
    · subst e
      exact ⟨j, (List.mem_erase_of_ne (fun e => hne e.symm)).2 (List.mem_range.2 hj), h.symm⟩
    · exact ⟨q, (List.mem_erase_of_ne e).2 (List.mem_range.2 hq), rfl⟩
  rw [List.length_range, List.length_map, List.length_erase_of_mem (List.mem_range.2 hi), List.length_range] at this
  omega
theorem onto_le {k m : Nat} {f : Nat → Nat} (hon : ∀ j, j < k → ∃ i, i < m ∧ f i = j) : k ≤ m := by
  have := nodup_le (l := List.range k) (m := (List.range m).map f) List.nodup_range fun x hx => by
    obtain ⟨q, hq, rfl⟩ := hon x (List.mem_range.1 hx)
    exact List.mem_map.2 ⟨q, List.mem_range.2 hq, rfl⟩
  simpa using this
/-- two bytes of a number -/
def two8 (c : Int) : List Int := [c % 256, c / 256 % 256]
theorem two8_inj {c d : Int} (hc : 0 ≤ c ∧ c < 65536) (hd : 0 ≤ d ∧ d < 65536) (h : two8 c = two8 d) : c = d := by
  unfold two8 at h
  simp only [List.cons.injEq] at h
  omega
theorem two8_in {c : Int} : ∀ x ∈ two8 c, 0 ≤ x ∧ x < 256 := by
  intro x hx
  unfold two8 at hx
  simp only [List.mem_cons, List.not_mem_nil, or_false] at hx
  omega
theorem two8_eq (c : Int) : [IntKind.wrap .u8 c, IntKind.wrap .u8 (Int.fdiv c (2 ^ (min 8 64)))] = two8 c := by
  have h : ((2 : Int) ^ (min 8 64)) = 256 := by decide
  rw [h, IntKind.wrap_u8, IntKind.wrap_u8, Int.fdiv_eq_ediv_of_nonneg _ (by omega)]
  rfl
theorem twos_inj : ∀ {l m : List Int}, (∀ x ∈ l, 0 ≤ x ∧ x < 65536) → (∀ x ∈ m, 0 ≤ x ∧ x < 65536) → l.flatMap two8 = m.flatMap two8 → l = m
  | [], [], _, _, _ => rfl
  | [], _ :: _, _, _, h => by simp [two8] at h
  | _ :: _, [], _, _, h => by simp [two8] at h
  | x :: l, y :: m, hl, hm, h => by
    rw [List.flatMap_cons, List.flatMap_cons] at h
    have h1 := List.append_inj h (by simp [two8])
    rw [two8_inj (hl x List.mem_cons_self) (hm y List.mem_cons_self) h1.1, twos_inj (fun z hz => hl z (List.mem_cons_of_mem _ hz)) (fun z hz => hm z (List.mem_cons_of_mem _ hz)) h1.2]
theorem twos_in {l : List Int} : ∀ x ∈ l.flatMap two8, 0 ≤ x ∧ x < 256 := fun x hx => by
  obtain ⟨c, _, h⟩ := List.mem_flatMap.1 hx
  exact two8_in x h
/-- the classes of a row -/
def rowCls (cls : List Int) (r : List Int) : List Int := r.map fun t => cls.getD t.toNat 0
def keyOf (cls : List Int) (q : Nat) (r : List Int) : DetSplit := ⟨cls.getD q 0, bytesOf ((rowCls cls r).flatMap two8)⟩
/-- what one round makes: classes next, m of them, as keys are alike -/
structure RoundOf (N : List (List Int)) (cls next : List Int) (m : Nat) : Prop where
  len : next.length = N.length
  range : ∀ x ∈ next, 0 ≤ x ∧ x < (m : Int)
  onto : ∀ j : Nat, j < m → (j : Int) ∈ next
  same : ∀ (p q : Nat) (r s : List Int) (x y : Int), N[p]? = some r → N[q]? = some s → next[p]? = some x → next[q]? = some y → (x = y ↔ keyOf cls p r = keyOf cls q s)
/-- an automaton whose classes may be asked for -/
structure ClsPre (d : ApiDet) : Prop where
  size : d.fNext.length ≤ 65536
  next : ∀ r ∈ d.fNext, ∀ x ∈ r, 0 ≤ x ∧ x < (d.fNext.length : Int)
  wide : ∀ r ∈ d.fNext, r.length ≤ 1000
  marks : d.fMark.length = d.fNext.length
  small : ∀ x ∈ d.fMark, 0 ≤ x ∧ x < 65536
/-- numbers by keys, in the middle of a round: map m2, and next up to q -/
structure Half (N : List (List Int)) (cls : List Int) (q : Nat) (m2 : List (DetSplit × Int)) (next : List Int) : Prop where
  len : next.length = N.length
  get : ∀ (p : Nat) (r : List Int), p < q → N[p]? = some r → ∃ x : Int, next[p]? = some x ∧ mget (keyOf cls p r) m2 = some x
  range : ∀ (k : DetSplit) (x : Int), mget k m2 = some x → 0 ≤ x ∧ x < (m2.length : Int)
  inj : ∀ (k l : DetSplit) (x : Int), mget k m2 = some x → mget l m2 = some x → k = l
  onto : ∀ j : Nat, j < m2.length → ∃ p : Nat, p < q ∧ next[p]? = some (j : Int)
  size : m2.length ≤ q
theorem mput_length {κ : Type} [DecidableEq κ] {a : κ} {v : Int} : ∀ {D : List (κ × Int)}, mget a D = none → (mput a v D).length = D.length + 1
  | [], _ => rfl
  | x :: D, h => by
    rw [mget] at h
    split at h
    · cases h
    · rename_i e
      rw [mput, if_neg e, List.length_cons, mput_length h, List.length_cons]
theorem Half.start {N : List (List Int)} {cls next : List Int} (h : next.length = N.length) : Half N cls 0 [] next :=
  ⟨h, fun p r hp => absurd hp (Nat.not_lt_zero _), fun k x e => by simp [mget] at e, fun k l x e => by simp [mget] at e, fun j hj => by simp at hj, Nat.le_refl _⟩
theorem Half.known {N : List (List Int)} {cls next : List Int} {q : Nat} {m2 : List (DetSplit × Int)} (h : Half N cls q m2 next) {r : List Int} (hr : N[q]? = some r) {x : Int} (hx : mget (keyOf cls q r) m2 = some x) : Half N cls (q + 1) m2 (next.set q x) := by
  have hq : q < next.length := by rw [h.len]; exact (List.getElem?_eq_some_iff.1 hr).1
  refine ⟨by simp [h.len], fun p s hp hs => ?_, h.range, h.inj, fun j hj => ?_, Nat.le_succ_of_le h.size⟩
  · by_cases e : p = q
    · subst e
      rw [hr] at hs
      cases hs
      exact ⟨x, by rw [List.getElem?_set_self hq], hx⟩
    · obtain ⟨y, h1, h2⟩ := h.get p s (by omega) hs
      exact ⟨y, by rw [List.getElem?_set_ne (Ne.symm e)]; exact h1, h2⟩
  · obtain ⟨p, h1, h2⟩ := h.onto j hj
    exact ⟨p, by omega, by rw [List.getElem?_set_ne (by omega)]; exact h2⟩
theorem Half.new {N : List (List Int)} {cls next : List Int} {q : Nat} {m2 : List (DetSplit × Int)} (h : Half N cls q m2 next) {r : List Int} (hr : N[q]? = some r) (hx : mget (keyOf cls q r) m2 = none) : Half N cls (q + 1) (mput (keyOf cls q r) (m2.length : Int) m2) (next.set q (m2.length : Int)) := by
  have hq : q < next.length := by rw [h.len]; exact (List.getElem?_eq_some_iff.1 hr).1
  have hl := mput_length (v := (m2.length : Int)) hx
  refine ⟨by simp [h.len], fun p s hp hs => ?_, fun k x e => ?_, fun k l x e1 e2 => ?_, fun j hj => ?_, by rw [hl]; have := h.size; omega⟩
  · by_cases e : p = q
    · subst e
      rw [hr] at hs
      cases hs
      exact ⟨_, by rw [List.getElem?_set_self hq], by rw [mget_put, if_pos rfl]⟩
    · obtain ⟨y, h1, h2⟩ := h.get p s (by omega) hs
      refine ⟨y, by rw [List.getElem?_set_ne (Ne.symm e)]; exact h1, ?_⟩
      rw [mget_put, if_neg (fun e2 => by rw [e2, hx] at h2; cases h2)]
      exact h2
  · rw [mget_put] at e
    rw [hl]
    split at e
    · cases e; omega
    · have := h.range k x e
      omega
  · rw [mget_put] at e1 e2
    split at e1 <;> split at e2
    · rename_i a b; rw [a, b]
    · cases e1
      have := h.range l _ e2
      omega
    · cases e2
      have := h.range k _ e1
      omega
    · exact h.inj k l x e1 e2
  · rw [hl] at hj
    by_cases e : j = m2.length
    · subst e
      exact ⟨q, by omega, by rw [List.getElem?_set_self hq]⟩
    · obtain ⟨p, h1, h2⟩ := h.onto j (by omega)
      exact ⟨p, by omega, by rw [List.getElem?_set_ne (by omega)]; exact h2⟩
theorem Half.round {N : List (List Int)} {cls next : List Int} {m2 : List (DetSplit × Int)} (h : Half N cls N.length m2 next) : RoundOf N cls next m2.length := by
  have hget : ∀ (p : Nat) (r : List Int) (x : Int), N[p]? = some r → next[p]? = some x → mget (keyOf cls p r) m2 = some x := fun p r x h1 h2 => by
    obtain ⟨y, h3, h4⟩ := h.get p r (List.getElem?_eq_some_iff.1 h1).1 h1
    rw [h2] at h3
    cases h3
    exact h4
  refine ⟨h.len, fun x hx => ?_, fun j hj => ?_, fun p q r s x y h1 h2 h3 h4 => ?_⟩
  · obtain ⟨p, hp⟩ := List.getElem?_of_mem hx
    have hlt := (List.getElem?_eq_some_iff.1 hp).1
    rw [h.len] at hlt
    exact h.range _ x (hget p _ x (List.getElem?_eq_getElem hlt) hp)
  · obtain ⟨p, _, h2⟩ := h.onto j hj
    exact List.mem_of_getElem? h2
  · have k1 := hget p r x h1 h3
    have k2 := hget q s y h2 h4
    constructor
    · rintro rfl
      exact h.inj _ _ x k1 k2
    · intro e
      rw [e, k2] at k1
      cases k1
      rfl
theorem succ_rs {d : ApiDet} {L p q a : Nat} (h : rs L (langD d p) = rs L (langD d q)) (ha : a < L) : rs L (langD d (stepD d p a)) = rs L (langD d (stepD d q a)) :=
  rs_congr fun w hw => rs_at (w := a :: w) h fun b hb => (List.mem_cons.1 hb).elim (fun e => e ▸ ha) (hw b)
/-- what holds of classes between rounds: no two states that words do not tell apart are told apart, and marks are -/
structure ClsInv (d : ApiDet) (L : Nat) (x4 : Int) (cls : List Int) : Prop where
  len : cls.length = d.fNext.length
  range : ∀ x ∈ cls, 0 ≤ x ∧ x < 65536
  sound : ∀ p q, p < d.fNext.length → q < d.fNext.length → rs L (langD d p) = rs L (langD d q) → cls.getD p 0 = cls.getD q 0
  marks : ∀ p q, p < d.fNext.length → q < d.fNext.length → cls.getD p 0 = cls.getD q 0 → d.fMark.getD p 0 = d.fMark.getD q 0
  count : x4 = 0 ∨ ∃ m : Nat, x4 = m ∧ m ≤ d.fNext.length ∧ (∀ x ∈ cls, 0 ≤ x ∧ x < (m : Int)) ∧ ∀ j : Nat, j < m → (j : Int) ∈ cls
theorem getD_mem {α : Type} {l : List α} {i : Nat} {z : α} (h : i < l.length) : l.getD i z ∈ l := by
  rw [List.getD_eq_getElem?_getD, List.getElem?_eq_getElem h]
  exact List.getElem_mem h
theorem getD_some {α : Type} {l : List α} {i : Nat} {z : α} (h : i < l.length) : l[i]? = some (l.getD i z) := by
  rw [List.getD_eq_getElem?_getD, List.getElem?_eq_getElem h]
  rfl
section
variable {d : ApiDet} (hd : ClsPre d) {L : Nat} (hL : ∀ r ∈ d.fNext, r.length = L)
include hd
theorem ClsPre.step {q a : Nat} (hq : q < d.fNext.length) : stepD d q a < d.fNext.length := by
  unfold stepD
  have hr := getD_mem (z := []) hq
  by_cases h : a < (d.fNext.getD q []).length
  · have := hd.next _ hr _ (getD_mem (z := 0) h)
    omega
  · rw [List.getD_eq_getElem?_getD (l := d.fNext.getD q []), List.getElem?_eq_none (by omega)]
    simp only [Option.getD_none]
    omega
theorem keyOf_iff {cls : List Int} (hr : ∀ x ∈ cls, 0 ≤ x ∧ x < 65536) (hlen : cls.length = d.fNext.length) {p q : Nat} (hp : p < d.fNext.length) (hq : q < d.fNext.length) (hrows : (d.fNext.getD p []).length = (d.fNext.getD q []).length) :
    keyOf cls p (d.fNext.getD p []) = keyOf cls q (d.fNext.getD q []) ↔ cls.getD p 0 = cls.getD q 0 ∧ ∀ a, a < (d.fNext.getD p []).length → cls.getD (stepD d p a) 0 = cls.getD (stepD d q a) 0 := by
  have hin : ∀ r ∈ d.fNext, ∀ x ∈ rowCls cls r, 0 ≤ x ∧ x < 65536 := fun r hr2 x hx => by
    obtain ⟨t, ht, rfl⟩ := List.mem_map.1 hx
    have := hd.next r hr2 t ht
    exact hr _ (getD_mem (by omega))
  unfold keyOf
  simp only [DetSplit.mk.injEq]
  refine and_congr Iff.rfl ⟨fun h a ha => ?_, fun h => ?_⟩
  · have h1 := twos_inj (hin _ (getD_mem hp)) (hin _ (getD_mem hq)) (bytesOf_inj twos_in twos_in h)
    have h2 := congrArg (fun l => l[a]?) h1
    simp only [rowCls, List.getElem?_map, getD_some (z := (0 : Int)) ha, getD_some (z := (0 : Int)) (show a < (d.fNext.getD q []).length by omega), Option.map_some, Option.some.injEq] at h2
    exact h2
  · have : rowCls cls (d.fNext.getD p []) = rowCls cls (d.fNext.getD q []) := by
      unfold rowCls
      refine List.ext_getElem? fun a => ?_
      rw [List.getElem?_map, List.getElem?_map]
      by_cases ha : a < (d.fNext.getD p []).length
      · rw [getD_some (z := (0 : Int)) ha, getD_some (z := (0 : Int)) (show a < (d.fNext.getD q []).length by omega), Option.map_some, Option.map_some]
        exact congrArg some (h a ha)
      · rw [List.getElem?_eq_none (by omega), List.getElem?_eq_none (by omega)]
    rw [this]
include hL
theorem ClsInv.next {cls next : List Int} {x4 : Int} {m : Nat} (h : ClsInv d L x4 cls) (hR : RoundOf d.fNext cls next m) (hm : m ≤ d.fNext.length) : ClsInv d L m next := by
  have hrow : ∀ p, p < d.fNext.length → (d.fNext.getD p []).length = L := fun p hp => hL _ (getD_mem hp)
  have key : ∀ p q, p < d.fNext.length → q < d.fNext.length → (next.getD p 0 = next.getD q 0 ↔ cls.getD p 0 = cls.getD q 0 ∧ ∀ a, a < L → cls.getD (stepD d p a) 0 = cls.getD (stepD d q a) 0) := fun p q hp hq => by
    rw [hR.same p q _ _ _ _ (getD_some (z := []) hp) (getD_some (z := []) hq) (getD_some (z := 0) (by rw [hR.len]; exact hp)) (getD_some (z := 0) (by rw [hR.len]; exact hq)), keyOf_iff hd h.range h.len hp hq (by rw [hrow p hp, hrow q hq]), hrow p hp]
  have h65 := hd.size
  refine ⟨hR.len, fun x hx => by have := hR.range x hx; omega, fun p q hp hq hw => ?_, fun p q hp hq e => h.marks p q hp hq ((key p q hp hq).1 e).1, .inr ⟨m, rfl, hm, hR.range, hR.onto⟩⟩
  exact (key p q hp hq).2 ⟨h.sound p q hp hq hw, fun a ha => h.sound _ _ (hd.step hp) (hd.step hq) (succ_rs hw ha)⟩
theorem ClsInv.factor {cls next : List Int} {x4 : Int} {m : Nat} (h : ClsInv d L x4 cls) (hR : RoundOf d.fNext cls next m) : ∃ f : Nat → Nat, ∀ i, i < d.fNext.length → f (next.getD i 0).toNat = (cls.getD i 0).toNat := by
  have hrow : ∀ p, p < d.fNext.length → (d.fNext.getD p []).length = L := fun p hp => hL _ (getD_mem hp)
  have key : ∀ p q, p < d.fNext.length → q < d.fNext.length → next.getD p 0 = next.getD q 0 → cls.getD p 0 = cls.getD q 0 := fun p q hp hq e =>
    ((keyOf_iff hd h.range h.len hp hq (by rw [hrow p hp, hrow q hq])).1 ((hR.same p q _ _ _ _ (getD_some (z := []) hp) (getD_some (z := []) hq) (getD_some (z := 0) (by rw [hR.len]; exact hp)) (getD_some (z := 0) (by rw [hR.len]; exact hq))).1 e)).1
  have hx : ∀ j : Nat, j < m → ∃ i : Nat, i < d.fNext.length ∧ next.getD i 0 = (j : Int) := fun j hj => by
    obtain ⟨i, hi⟩ := List.getElem?_of_mem (hR.onto j hj)
    have hlt := (List.getElem?_eq_some_iff.1 hi).1
    exact ⟨i, by rw [hR.len] at hlt; exact hlt, by simp [hi]⟩
  refine ⟨fun j => if hj : j < m then (cls.getD (hx j hj).choose 0).toNat else 0, fun i hi => ?_⟩
  have hr := hR.range _ (getD_mem (l := next) (z := 0) (by rw [hR.len]; exact hi))
  have hj : (next.getD i 0).toNat < m := by omega
  show (if hj : _ then _ else _) = _
  rw [dif_pos hj]
  obtain ⟨k1, k2⟩ := (hx _ hj).choose_spec
  rw [key _ i k1 hi (by rw [k2]; omega)]
theorem ClsInv.le {cls next : List Int} {x4 : Int} {m : Nat} (h : ClsInv d L x4 cls) (hR : RoundOf d.fNext cls next m) : x4 ≤ m := by
  rcases h.count with h0 | ⟨m', h1, h2, h3, h4⟩
  · omega
  · obtain ⟨f, hf⟩ := h.factor hd hL hR
    have := onto_le (k := m') (m := m) (f := f) fun j hj => by
      obtain ⟨i, hi⟩ := List.getElem?_of_mem (h4 j hj)
      have hlt := (List.getElem?_eq_some_iff.1 hi).1
      rw [h.len] at hlt
      have hr := hR.range _ (getD_mem (l := next) (z := 0) (by rw [hR.len]; exact hlt))
      refine ⟨(next.getD i 0).toNat, by omega, ?_⟩
      rw [hf i hlt]
      simp [hi]
    omega
/-- when the number of classes stays, the classes are right -/
theorem ClsInv.ends {cls next : List Int} {x4 : Int} {m : Nat} (h : ClsInv d L x4 cls) (hR : RoundOf d.fNext cls next m) (hm : m ≤ d.fNext.length) (he : (m : Int) = x4) : ∀ p q, p < d.fNext.length → q < d.fNext.length → (next.getD p 0 = next.getD q 0 ↔ rs L (langD d p) = rs L (langD d q)) := by
  have hrow : ∀ p, p < d.fNext.length → (d.fNext.getD p []).length = L := fun p hp => hL _ (getD_mem hp)
  have key : ∀ p q, p < d.fNext.length → q < d.fNext.length → (next.getD p 0 = next.getD q 0 ↔ cls.getD p 0 = cls.getD q 0 ∧ ∀ a, a < L → cls.getD (stepD d p a) 0 = cls.getD (stepD d q a) 0) := fun p q hp hq => by
    rw [hR.same p q _ _ _ _ (getD_some (z := []) hp) (getD_some (z := []) hq) (getD_some (z := 0) (by rw [hR.len]; exact hp)) (getD_some (z := 0) (by rw [hR.len]; exact hq)), keyOf_iff hd h.range h.len hp hq (by rw [hrow p hp, hrow q hq]), hrow p hp]
  intro p q hp hq
  -- no class was split
  have stay : ∀ p q, p < d.fNext.length → q < d.fNext.length → cls.getD p 0 = cls.getD q 0 → next.getD p 0 = next.getD q 0 := by
    intro p q hp hq e
    have hnp := hR.range _ (getD_mem (l := next) (z := 0) (by rw [hR.len]; exact hp))
    have hnq := hR.range _ (getD_mem (l := next) (z := 0) (by rw [hR.len]; exact hq))
    rcases h.count with h0 | ⟨m', h1, h2, h3, h4⟩
    · omega
    · have hmm : m' = m := by omega
      subst hmm
      obtain ⟨f, hf⟩ := h.factor hd hL hR
      have hon : ∀ j, j < m' → ∃ i, i < m' ∧ f i = j := fun j hj => by
        obtain ⟨i, hi⟩ := List.getElem?_of_mem (h4 j hj)
        have hlt := (List.getElem?_eq_some_iff.1 hi).1
        rw [h.len] at hlt
        have hr := hR.range _ (getD_mem (l := next) (z := 0) (by rw [hR.len]; exact hlt))
        refine ⟨(next.getD i 0).toNat, by omega, ?_⟩
        rw [hf i hlt]
        simp [hi]
      have := onto_inj hon (i := (next.getD p 0).toNat) (j := (next.getD q 0).toNat) (by omega) (by omega) (by rw [hf p hp, hf q hq, e])
      omega
  constructor
  · intro e
    have go : ∀ (w : List Nat) (p q : Nat), p < d.fNext.length → q < d.fNext.length → next.getD p 0 = next.getD q 0 → (∀ a ∈ w, a < L) → langD d p w = langD d q w := by
      intro w
      induction w with
      | nil => exact fun p q hp hq e _ => h.marks p q hp hq ((key p q hp hq).1 e).1
      | cons a w ih =>
        intro p q hp hq e hw
        exact ih (stepD d p a) (stepD d q a) (hd.step hp) (hd.step hq) (stay _ _ (hd.step hp) (hd.step hq) (((key p q hp hq).1 e).2 a (hw a List.mem_cons_self))) fun b hb => hw b (List.mem_cons_of_mem _ hb)
    exact rs_congr fun w hw => go w p q hp hq e hw
  · exact fun e => (key p q hp hq).2 ⟨h.sound p q hp hq e, fun a ha => h.sound _ _ (hd.step hp) (hd.step hq) (succ_rs e ha)⟩
end
end Go.Proofs.Ytfpdnigihjmohaa

/- Contracts of det.Explore and det.Classes. No condition. -/
namespace Go.Proofs.Ytfpdnigihjmohaa
open Go.RowKit Go.MapKept
set_option linter.unusedSimpArgs false
set_option linter.unusedVariables false
set_option maxRecDepth 100000
set_option linter.unusedSectionVars false

/-- an automaton whose classes may be asked for -/
structure ClsOk (d : ApiDet) : Prop where
  wf : Wf d
  size : d.fNext.length ≤ 65536
  wide : d.fLetters ≤ 1000
  small : ∀ x ∈ d.fMark, 0 ≤ x ∧ x < 65536
theorem ClsOk.pre {d : ApiDet} (h : ClsOk d) : ClsPre d :=
  ⟨h.size, h.wf.next, fun r hr => by have := h.wf.rows r hr; have := h.wide; have := h.wf.letters; omega, h.wf.mark, h.small⟩
/-- classes that tell apart what words tell apart -/
structure IsClass (d : ApiDet) (cls : List Int) : Prop where
  len : cls.length = d.fNext.length
  range : ∀ x ∈ cls, 0 ≤ x ∧ x < (d.fNext.length : Int)
  same : ∀ p q, p < d.fNext.length → q < d.fNext.length → (cls.getD p 0 = cls.getD q 0 ↔ rs d.fLetters.toNat (langD d p) = rs d.fLetters.toNat (langD d q))
theorem classes_plain (d : ApiDet) (h : ClsOk d) : classes_vc d (IsClass d) := by
  have hd := h.pre
  have hsz := h.size
  have hL : ∀ r ∈ d.fNext, r.length = d.fLetters.toNat := h.wf.rows
  intro _ _
  refine ⟨by rw [h.wf.mark]; omega, fun x4 l1 => ClsInv d d.fLetters.toNat x4 l1, fun x4 _ => ((d.fNext.length : Int) + 1 - x4).toNat, ⟨h.wf.mark, h.small, fun p q _ _ e => ?_, fun p q _ _ e => e, .inl rfl⟩, ?_⟩
  · exact rs_at (w := []) e fun b hb => by simp at hb
  intro x4 l1 hI
  refine ⟨⟨by omega, Int.le_refl _, by rw [hI.len]; omega⟩, fun x m next => ∃ q : Nat, x = q ∧ q ≤ d.fNext.length ∧ Half d.fNext l1 q m next, fun x _ _ => d.fNext.length - x.toNat, ⟨0, rfl, Nat.zero_le _, Half.start (by simp [hI.len])⟩, ?_⟩
  rintro x m2 l3 ⟨q, rfl, hq, hH⟩
  refine ⟨fun hb => ?_, fun hb => ?_⟩
  · have hlt : q < d.fNext.length := by
      have := of_decide_eq_true hb
      omega
    have he : d.fNext[q]? = some d.fNext[q] := List.getElem?_eq_getElem hlt
    generalize d.fNext[q] = e at he
    have hem := List.mem_of_getElem? he
    have hew := hd.wide e hem
    refine ⟨e, by simp [idx, he], fun x l => ∃ a : Nat, x = a ∧ a ≤ e.length ∧ l = ((rowCls l1 e).take a).flatMap two8, fun x _ => e.length - x.toNat, ⟨0, rfl, Nat.zero_le _, by simp⟩, ?_⟩
    rintro x l4 ⟨a, rfl, ha, rfl⟩
    refine ⟨fun hb2 => ?_, fun hb2 => ?_⟩
    · have hlt2 : a < e.length := by
        have := of_decide_eq_true hb2
        omega
      have hx := hd.next e hem _ (List.getElem_mem hlt2)
      have hg : idx l1 e[a] = some (l1.getD e[a].toNat 0) := by
        unfold idx
        rw [if_pos hx.1]
        exact getD_some (by rw [hI.len]; omega)
      have hlen : (((rowCls l1 e).take a).flatMap two8).length = 2 * a := by
        rw [List.length_flatMap]
        have : (List.map (fun x => (two8 x).length) (List.take a (rowCls l1 e))) = List.replicate a 2 := by
          rw [List.eq_replicate_iff]
          refine ⟨by simp [rowCls]; omega, fun z hz => ?_⟩
          obtain ⟨y, _, rfl⟩ := List.mem_map.1 hz
          rfl
        rw [this]
        simp
        omega
      refine ⟨e[a], by simp [idx, hlt2], _, hg, _, hg, ?_, ?_, ?_⟩
      · unfold capOk
        rw [hlen]
        simp only [List.length_cons, List.length_nil]
        omega
      · refine ⟨a + 1, ?_, hlt2, ?_⟩
        · rw [wr_in (by omega) (by omega)]
          omega
        · rw [two8_eq, List.take_add_one, List.flatMap_append]
          congr 1
          have : (rowCls l1 e)[a]? = some (l1.getD e[a].toNat 0) := by
            unfold rowCls
            rw [List.getElem?_map, List.getElem?_eq_getElem hlt2]
            rfl
          rw [this]
          simp
      · rw [wr_in (by omega) (by omega)]
        simp only
        omega
    · have hae : a = e.length := by
        have := of_decide_eq_false hb2
        omega
      subst hae
      have hall : (rowCls l1 e).take e.length = rowCls l1 e := List.take_of_length_le (by simp [rowCls])
      rw [hall]
      have hq1 : idx l1 (q : Int) = some (l1.getD q 0) := by
        unfold idx
        rw [if_pos (by omega), Int.toNat_natCast]
        exact getD_some (by rw [hI.len]; exact hlt)
      have hkey : (DetSplit.mk (l1.getD q 0) (bytesOf ((rowCls l1 e).flatMap two8))) = keyOf l1 q e := rfl
      refine ⟨l1.getD q 0, hq1, fun m => Half d.fNext l1 (q + 1) m (l3.set q ((mget (keyOf l1 q e) m).getD 0)), ?_, ?_⟩
      · rw [hkey]
        cases hm : mget (keyOf l1 q e) m2 with
        | none =>
          refine ⟨fun _ => ?_, fun h => (by cases h)⟩
          show Half _ _ _ _ (l3.set q ((mget (keyOf l1 q e) (mput (keyOf l1 q e) (m2.length : Int) m2)).getD 0))
          rw [mget_put, if_pos rfl]
          exact hH.new he hm
        | some y =>
          refine ⟨fun h => (by cases h), fun _ => ?_⟩
          show Half _ _ _ _ (l3.set q ((mget (keyOf l1 q e) m2).getD 0))
          rw [hm]
          exact hH.known he hm
      · intro m3 hm3
        refine ⟨l3.getD q 0, ?_, ⟨q + 1, ?_, hlt, ?_⟩, ?_⟩
        · unfold idx
          rw [if_pos (by omega), Int.toNat_natCast]
          exact getD_some (by rw [hH.len]; exact hlt)
        · rw [wr_in (by omega) (by omega)]
          omega
        · rw [Int.toNat_natCast, hkey]
          exact hm3
        · rw [wr_in (by omega) (by omega)]
          simp only
          omega
  · have hqe : q = d.fNext.length := by
      have := of_decide_eq_false hb
      omega
    subst hqe
    have hR := hH.round
    have hle := hH.size
    refine ⟨fun he => ?_, fun he => ⟨hI.next hd hL hR hle, ?_⟩⟩
    · have he : (m2.length : Int) = x4 := by simpa using he
      exact ⟨hR.len, fun x hx => by have := hR.range x hx; omega, hI.ends hd hL hR hle he⟩
    · have he : (m2.length : Int) ≠ x4 := by simpa using he
      have := hI.le hd hL hR
      simp only
      omega
theorem classes_ct (d : ApiDet) (h : ClsOk d) : Ct 131 [.sv (.agg [I d.fLetters, I d.fStart, LS (lsT intT) d.fNext, LS intT d.fMark])] [] (IsClass d) (fun r => .sv (.one (LS intT r))) := classes_walk d _ (classes_plain d h)
end Go.Proofs.Ytfpdnigihjmohaa

