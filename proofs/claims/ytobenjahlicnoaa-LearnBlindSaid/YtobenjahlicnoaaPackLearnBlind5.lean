/- Lemmas towards the statement: mirrors of functions, and plain laws. No condition. -/
import Derived.Test.YtobenjahlicnoaaPackLearnBlind4
namespace Go.Proofs.Ytobenjahlicnoaa
open Go.RowKit Go.MapKept
set_option linter.unusedSimpArgs false
set_option linter.unusedVariables false
set_option maxRecDepth 100000
def detKey_vc (l : List Int) (Q : ByteArray → Prop) : Prop :=
 l.length ≤ 9223372036854775807 →
 (∃ (Inv : Int → (List Int) → Prop) (mu : Int → (List Int) → Nat), Inv 0 ([] : List Int) ∧
 ∀ (x8 : Int) (l1 : List Int) , Inv x8 l1 → (IfP (decide (x8 < (l.length : Int))) (∃ e, idx l x8 = some e ∧
 capOk l1.length (([(IntKind.wrap .u8 e), (IntKind.wrap .u8 (Int.fdiv e (2 ^ (min 8 64))))] : List Int) : List Int).length 1 ∧
 (Inv (wr (x8 + 1)) (l1 ++ ([(IntKind.wrap .u8 e), (IntKind.wrap .u8 (Int.fdiv e (2 ^ (min 8 64))))] : List Int)) ∧ mu (wr (x8 + 1)) (l1 ++ ([(IntKind.wrap .u8 e), (IntKind.wrap .u8 (Int.fdiv e (2 ^ (min 8 64))))] : List Int)) < mu x8 l1)) (Q (bytesOf l1))))
noncomputable abbrev qp0 (y0) := (IntKind.wrap .u8 (Int.fdiv y0 (2 ^ (min 8 64))))
noncomputable abbrev qp1 (y0) := (IntKind.wrap .u8 y0)
noncomputable abbrev qp2 (l : List Int) := sl 7 (I (l.length : Int))
theorem detKey_walk (l : List Int) (Q : ByteArray → Prop) (h : detKey_vc l Q) : Ct 108 [.sv (.one (LS intT l))] [] Q (fun (r : ByteArray) => .sv (.one (.v (.string r)))) := by
 have ht := tab_ok
 refine Ct.body Try.func108 rfl rfl rfl rfl (fun c hn => ?_)
 unfold detKey_vc at h
 refine En.lenL 0 (by rfl) (fun hl => ?_)
 replace h := h hl
 clear hl
 refine En.sr ?_
 refine WL.rn ht hn 1 ⟨[sl 0 (LS intT l)], []⟩ ?_
 refine En.sr ?_
 refine WL.rn ht hn 1 ⟨[sl 0 (LS intT l), sl 3 (.v (.slice none 0 0))], []⟩ ?_
 refine En.seq ?_
 refine En.sr ?_
 refine WL.rn ht hn 3 ⟨[sl 3 (.v (.slice none 0 0)), sl 6 (LS intT l), qp2 l, sl 8 (I 0)], []⟩ ?_
 refine En.block ?_
 refine En.rowNil 3 1 5 (intKT .u8) (by rfl) (by rfl) ?_
 obtain ⟨Inv, mu, h0, hI⟩ := h
 refine En.loop (σ := Int × (List Int)) (fun zz => Inv zz.1 zz.2) (fun zz => mu zz.1 zz.2) (fun zz => ⟨[sl 3 (.own 1), sl 6 (LS intT l), qp2 l, sl 8 (I zz.1)], [.gone, rowI 5 (intKT .u8) zz.2]⟩) (0, ([] : List Int)) h0 (sub_ok (by kernel_rfl)) ?_
 rintro ⟨x8, l1⟩ h
 replace h := hI _ _ h
 show En c ⟨[sl 3 (.own 1), sl 6 (LS intT l), qp2 l, sl 8 (I x8)], [.gone, rowI 5 (intKT .u8) l1]⟩ _
 refine En.sr ?_
 refine WL.rn ht hn 1 ⟨[sl 3 (.own 1), sl 6 (LS intT l), qp2 l, sl 8 (I x8), sl 9 (B (decide (x8 < (l.length : Int))))], [.gone, rowI 5 (intKT .u8) l1]⟩ ?_
 refine En.seq ?_
 refine En.ch h (fun h => ?_) (fun h => ?_)
 refine En.skip ?_
 refine En.seq ?_
 refine En.block ?_
 refine En.sr ?_
 obtain ⟨e, he, h⟩ := h
 refine WL.v hn (val_ix (T := intT) (l := l) (i := x8) ht rfl he) ?_
 refine WL.v hn (val_ld (s := .one (I e)) ht rfl) ?_
 refine WL.rn ht hn 1 ⟨[sl 3 (.own 1), sl 5 (I e), sl 6 (LS intT l), qp2 l, sl 8 (I x8)], [.gone, rowI 5 (intKT .u8) l1]⟩ ?_
 refine En.region ?_
 refine WL.r ht hn 6 ⟨[sl 6 (LS intT l), qp2 l, sl 8 (I x8), sl 12 (.own 1), sl 14 (.v (.int .u8 (qp1 e))), sl 17 (.v (.int .u8 (qp0 e)))], [.gone, rowI 5 (intKT .u8) l1]⟩ ?_
 refine WL.mt0 (K := []) (p := some (2, rowI 5 (intKT .u8) ([qp1 e, qp0 e] : List Int))) hn (by rfl) (mt_lit (T := (intKT .u8)) ([qp1 e, qp0 e] : List Int) (mt_bsl 2 (r := cellsOf (intKT .u8) ([qp1 e, qp0 e] : List Int)) ht rfl (by rfl) (by rfl) (by rfl) (by kernel_rfl) (by rfl)) (fun _ h => by cases h) (fun _ => rfl) (fun _ => rfl) (by rfl) (Nat.le_of_ble_eq_true rfl)) (by rfl) (by rfl) (by rfl) ?_
 refine WL.seal (T := (intKT .u8)) (l := ([qp1 e, qp0 e] : List Int)) (e := 5) 2 rfl ?_
 refine WL.r ht hn 0 ⟨[sl 6 (LS intT l), qp2 l, sl 8 (I x8), sl 12 (.own 1), sl 14 (.v (.int .u8 (qp1 e))), sl 17 (.v (.int .u8 (qp0 e))), sl 18 (LS (intKT .u8) ([qp1 e, qp0 e] : List Int))], [.gone, rowI 5 (intKT .u8) l1, .gone]⟩ ?_
 obtain ⟨hp, h⟩ := h
 refine WL.mt (S2 := ⟨[sl 6 (LS intT l), qp2 l, sl 8 (I x8), sl 14 (.v (.int .u8 (qp1 e))), sl 17 (.v (.int .u8 (qp0 e))), sl 18 (LS (intKT .u8) ([qp1 e, qp0 e] : List Int))], [.gone, rowI 5 (intKT .u8) l1, .gone]⟩) (K := [1]) (p := some (1, rowI 5 (intKT .u8) (l1 ++ ([qp1 e, qp0 e] : List Int)))) hn (by rfl) (mt_append (T := (intKT .u8)) (l := l1) (es := ([qp1 e, qp0 e] : List Int)) ht rfl (by rfl) (by rfl) (by rfl) (by rfl) (by decide) (by rfl) (by rfl) (srcLS (T := (intKT .u8)) (es := ([qp1 e, qp0 e] : List Int)) (fun _ h => by cases h) (by decide) (by rfl)) (by exact hp) (by exact hp.le (by decide))) (by kernel_rfl) (by rfl) (by rfl) (by rfl) ?_
 refine WL.rn ht hn 1 ⟨[sl 3 (.own 1), sl 6 (LS intT l), qp2 l, sl 8 (I x8)], [.gone, rowI 5 (intKT .u8) (l1 ++ ([qp1 e, qp0 e] : List Int)), .gone]⟩ ?_
 refine En.region ?_
 refine WL.rn ht hn 2 ⟨[sl 3 (.own 1), sl 6 (LS intT l), qp2 l, sl 8 (I (wr (x8 + 1)))], [.gone, rowI 5 (intKT .u8) (l1 ++ ([qp1 e, qp0 e] : List Int)), .gone]⟩ ?_
 exact En.at (I := fun zz => Inv zz.1 zz.2 ∧ mu zz.1 zz.2 < mu x8 l1) (T := fun zz => ⟨[sl 3 (.own 1), sl 6 (LS intT l), qp2 l, sl 8 (I zz.1)], [.gone, rowI 5 (intKT .u8) zz.2]⟩) ((wr (x8 + 1)), (l1 ++ ([qp1 e, qp0 e] : List Int))) h (by kernel_rfl)
 refine En.exit rfl ?_
 refine En.sr ?_
 refine WL.r ht hn 1 ⟨[sl 21 (.own 1)], [.gone, rowI 5 (intKT .u8) l1]⟩ ?_
 refine WL.v hn (val_str rfl Try.underlying178 Try.underlying5 Try.underlying9 (srcOwn (T := intKT .u8) (es := l1) (fun _ h => by cases h) (by rfl) (by rfl))) ?_
 refine WL.rn ht hn 1 ⟨[sl 2 (.v (.string (bytesOf l1)))], [.gone, .gone]⟩ ?_
 exact En.rb ht (bytesOf l1) h
theorem en108 : ∀ args w, (callFunc 108 args).run Try.prog w = .ok (.enter 108 args) w := enters_of Try.func108 (by kernel_rfl) rfl
def keyB (e : Int) : List Int := [IntKind.wrap .u8 e, IntKind.wrap .u8 (Int.fdiv e (2 ^ (min 8 64)))]
def keyR (l : List Int) : ByteArray := bytesOf (l.flatMap keyB)
theorem key_len : ∀ l : List Int, (l.flatMap keyB).length = 2 * l.length
 | [] => rfl
 | e :: l => by
  rw [List.flatMap_cons, List.length_append, key_len l, List.length_cons]
  show 2 + _ = _
  omega
theorem detKey_ct (l : List Int) (hp : l.length ≤ 1000)  : Ct 108 [.sv (.one (LS intT l))] [] (fun (_ : Unit) => True) (fun _ => .sv (.one (.v (.string (keyR l))))) := by
 refine (detKey_walk l (fun res_ => res_ = (keyR l)) ?_).fun
 intro _
 refine ⟨fun i r => ∃ k : Nat, i = k ∧ k ≤ l.length ∧ r = (l.take k).flatMap keyB, fun i _ => l.length - i.toNat, ⟨0, rfl, Nat.zero_le _, by simp⟩, ?_⟩
 rintro i r ⟨k, rfl, hk, rfl⟩
 refine ⟨fun hb => ?_, fun hb => ?_⟩
 ·have hlt := dlt hb
  refine ⟨_, idx_at hlt, capOk_of ?_, ⟨k + 1, wsucc (by omega), hlt, ?_⟩, mu_up hlt (by omega)⟩
  ·rw [key_len, List.length_take]
   simp only [List.length_cons, List.length_nil]
   omega
  ·rw [List.take_add_one, List.flatMap_append, List.getElem?_eq_getElem hlt]
   simp [keyB]
 ·rw [List.take_of_length_le (dge hb)]
  rfl
def detSeeks_vc (first : DetCouple) (letters : Int) (domnxt : ((DetCouple × Int) → Prop)) (nxt : ((DetCouple × Int) → DetCouple)) (domok : (DetCouple → Prop)) (ok : (DetCouple → Bool)) (Q : ((List Int) × Bool) → Prop) : Prop :=
 ∃ (Inv : (List (DetCouple × (List Int))) → (List DetCouple) → Prop) (mu : (List (DetCouple × (List Int))) → (List DetCouple) → Nat), Inv (mput first ([] : List Int) ([] : List (DetCouple × (List Int)))) ([first] : List DetCouple) ∧
 ∀ (m1 : List (DetCouple × (List Int))) (l3 : List DetCouple) , Inv m1 l3 → (IfP (decide ((l3.length : Int) > 0)) (∃ e, idx l3 0 = some e ∧
 (domok e) ∧
 IfP (ok e) (∃ e_2, idx l3 0 = some e_2 ∧
 Q (((mget e_2 m1).getD []), true)) (∃ (Inv_2 : Int → (List (DetCouple × (List Int))) → (List DetCouple) → Prop) (mu_2 : Int → (List (DetCouple × (List Int))) → (List DetCouple) → Nat), Inv_2 0 m1 l3 ∧
 ∀ (x38 : Int) (m1_2 : List (DetCouple × (List Int))) (l3_2 : List DetCouple) , Inv_2 x38 m1_2 l3_2 → (IfP (decide (x38 < letters)) (∃ J : (List (DetCouple × (List Int))) → (List DetCouple) → Prop, (∃ e_3, idx l3_2 0 = some e_3 ∧
 (domnxt (e_3, x38)) ∧
 IfP (!(mget (nxt (e_3, x38)) m1_2).isSome) (∃ e_4, idx l3_2 0 = some e_4 ∧
 (((mget e_4 m1_2).getD []).length * 8 ≤ 140737488355328) ∧
 capOk (((mget e_4 m1_2).getD [])).length (([x38] : List Int) : List Int).length 8 ∧
 capOk l3_2.length (([(nxt (e_3, x38))] : List DetCouple) : List DetCouple).length 16 ∧
 J (mput (nxt (e_3, x38)) ((((mget e_4 m1_2).getD [])) ++ ([x38] : List Int)) m1_2) (l3_2 ++ ([(nxt (e_3, x38))] : List DetCouple))) (J m1_2 l3_2)) ∧
 (∀ (m1_3 : List (DetCouple × (List Int))) (l3_3 : List DetCouple), J m1_3 l3_3 → (Inv_2 (wr (x38 + 1)) m1_3 l3_3 ∧ mu_2 (wr (x38 + 1)) m1_3 l3_3 < mu_2 x38 m1_2 l3_2))) ((0 ≤ (1 : Int) ∧ (1 : Int) ≤ (l3_2.length : Int)) ∧
 (Inv m1_2 (l3_2.drop (1 : Int).toNat) ∧ mu m1_2 (l3_2.drop (1 : Int).toNat) < mu m1 l3))))) (Q ([], false)))
noncomputable abbrev qr0 (y0) (y1) := ([.gone, mapI DetCouple.enc (lsT intT) y0, .gone, rowI 224 DetCouple.ty y1] : List Item)
noncomputable abbrev qr1 := sl 10 (.own 1)
noncomputable abbrev qr2 := sl 11 (.own 3)
noncomputable abbrev qr3 (y0) (y1) := ([.gone, mapI DetCouple.enc (lsT intT) y0, .gone, rowI 224 DetCouple.ty y1] : List Item)
noncomputable abbrev qr4 := (List DetCouple)
noncomputable abbrev qr5 (first : DetCouple) := (mput first ([] : List Int) ([] : List (DetCouple × (List Int))))
noncomputable abbrev qr6 (y0) (y1) := ([.gone, mapI DetCouple.enc (lsT intT) y0, .gone, rowI 224 DetCouple.ty y1, .gone] : List Item)
theorem detSeeks_walk (first : DetCouple) (letters : Int) (domnxt : ((DetCouple × Int) → Prop)) (nxt : ((DetCouple × Int) → DetCouple)) (domok : (DetCouple → Prop)) (ok : (DetCouple → Bool)) (Q : ((List Int) × Bool) → Prop) (h : detSeeks_vc first letters domnxt nxt domok ok Q) : Ct 131 [.sv (.agg [I first.fE0, I first.fE1]), .sv (.one (I letters)), .sv (.one (.rd (fvR (fun (x : (DetCouple × Int)) => [.sv (.agg [I x.1.fE0, I x.1.fE1]), .sv (.one (I x.2))]) (fun (r : DetCouple) => .sv (.agg [I r.fE0, I r.fE1])) domnxt nxt))), .sv (.one (.rd (fvR (fun (x : DetCouple) => [.sv (.agg [I x.fE0, I x.fE1])]) (fun (r : Bool) => .sv (.one (B r))) domok ok)))] [] Q (fun (r : ((List Int) × Bool)) => .tup [.one (LS intT r.1), .one (B r.2)]) := by
  have ht := tab_ok
  refine Ct.body Try.func131 rfl rfl rfl rfl (fun c hn => ?_)
  unfold detSeeks_vc at h
  refine En.sr ?_
  refine WL.rn ht hn 3 ⟨[sl 1 (I letters), sl 2 (.rd (fvR (fun (x : (DetCouple × Int)) => [.sv (.agg (DetCouple.cl x.1)), .sv (.one (I x.2))]) (fun (r : DetCouple) => .sv (.agg (DetCouple.cl r))) domnxt nxt)), sl 3 (.rd (fvR (fun (x : DetCouple) => [.sv (.agg (DetCouple.cl x))]) (fun (r : Bool) => .sv (.one (B r))) domok ok)), sl 4 (.ptr 0 0)], [.box (DetCouple.cl first) 224 false]⟩ ?_
  refine En.sr ?_
  refine WL.mt0 (K := []) (p := some (1, mapI DetCouple.enc (lsT intT) ([] : List (DetCouple × (List Int))))) hn (by rfl) (mt_makeMap DetCouple.enc (lsT intT) 1 rfl) (by rfl) (by rfl) (by rfl) ?_
  refine WL.r ht hn 1 ⟨[sl 1 (I letters), sl 2 (.rd (fvR (fun (x : (DetCouple × Int)) => [.sv (.agg (DetCouple.cl x.1)), .sv (.one (I x.2))]) (fun (r : DetCouple) => .sv (.agg (DetCouple.cl r))) domnxt nxt)), sl 3 (.rd (fvR (fun (x : DetCouple) => [.sv (.agg (DetCouple.cl x))]) (fun (r : Bool) => .sv (.one (B r))) domok ok)), sl 4 (.ptr 0 0), sl 16 (.own 1), (17, .sv (.agg (DetCouple.cl first)))], [.box (DetCouple.cl first) 224 false, mapI DetCouple.enc (lsT intT) ([] : List (DetCouple × (List Int)))]⟩ ?_
  refine WL.mt0 (K := []) (p := some (2, rowI 3 intT ([] : List Int))) hn (by rfl) (mt_empty intT 2 ht rfl (by rfl) (by rfl) (by rfl)) (by rfl) (by rfl) (by rfl) ?_
  refine WL.seal (T := intT) (l := ([] : List Int)) (e := 3) 2 rfl ?_
  refine WL.r ht hn 0 ⟨[sl 1 (I letters), sl 2 (.rd (fvR (fun (x : (DetCouple × Int)) => [.sv (.agg (DetCouple.cl x.1)), .sv (.one (I x.2))]) (fun (r : DetCouple) => .sv (.agg (DetCouple.cl r))) domnxt nxt)), sl 3 (.rd (fvR (fun (x : DetCouple) => [.sv (.agg (DetCouple.cl x))]) (fun (r : Bool) => .sv (.one (B r))) domok ok)), sl 4 (.ptr 0 0), sl 16 (.own 1), (17, .sv (.agg (DetCouple.cl first))), sl 18 (LS intT ([] : List Int))], [.box (DetCouple.cl first) 224 false, mapI DetCouple.enc (lsT intT) ([] : List (DetCouple × (List Int))), .gone]⟩ ?_
  refine WL.mapPut (T := (lsT intT)) DetCouple.keyLaw (k := first) (y := ([] : List Int)) hn (by rfl) (.inr rfl) Try.underlying269 (by rfl) (by rfl) (by rfl) (by rfl) (by rfl) (by rfl) ?_
  refine WL.rn ht hn 2 ⟨[sl 1 (I letters), sl 2 (.rd (fvR (fun (x : (DetCouple × Int)) => [.sv (.agg (DetCouple.cl x.1)), .sv (.one (I x.2))]) (fun (r : DetCouple) => .sv (.agg (DetCouple.cl r))) domnxt nxt)), sl 3 (.rd (fvR (fun (x : DetCouple) => [.sv (.agg (DetCouple.cl x))]) (fun (r : Bool) => .sv (.one (B r))) domok ok)), sl 4 (.ptr 0 0), qr1], [.box (DetCouple.cl first) 224 false, mapI DetCouple.enc (lsT intT) (qr5 first), .gone]⟩ ?_
  refine En.seq ?_
  refine En.sr ?_
  refine WL.r ht hn 1 ⟨[sl 1 (I letters), sl 2 (.rd (fvR (fun (x : (DetCouple × Int)) => [.sv (.agg (DetCouple.cl x.1)), .sv (.one (I x.2))]) (fun (r : DetCouple) => .sv (.agg (DetCouple.cl r))) domnxt nxt)), sl 3 (.rd (fvR (fun (x : DetCouple) => [.sv (.agg (DetCouple.cl x))]) (fun (r : Bool) => .sv (.one (B r))) domok ok)), qr1, (20, .sv (.agg (DetCouple.cl first)))], [.gone, mapI DetCouple.enc (lsT intT) (qr5 first), .gone]⟩ ?_
  refine WL.mt0 (K := []) (p := some (3, rowI 224 DetCouple.ty ([first] : qr4))) hn (by rfl) (mt_lit (T := DetCouple.ty) ([first] : qr4) (mt_bsl 3 (r := cellsOf DetCouple.ty ([first] : qr4)) ht rfl (by rfl) (by rfl) (by rfl) (by kernel_rfl) (by rfl)) (fun _ h => by cases h) (fun _ => rfl) (fun _ => rfl) (by rfl) (Nat.le_of_ble_eq_true rfl)) (by rfl) (by rfl) (by rfl) ?_
  refine WL.rn ht hn 1 ⟨[sl 1 (I letters), sl 2 (.rd (fvR (fun (x : (DetCouple × Int)) => [.sv (.agg (DetCouple.cl x.1)), .sv (.one (I x.2))]) (fun (r : DetCouple) => .sv (.agg (DetCouple.cl r))) domnxt nxt)), sl 3 (.rd (fvR (fun (x : DetCouple) => [.sv (.agg (DetCouple.cl x))]) (fun (r : Bool) => .sv (.one (B r))) domok ok)), qr1, qr2], [.gone, mapI DetCouple.enc (lsT intT) (qr5 first), .gone, rowI 224 DetCouple.ty ([first] : qr4)]⟩ ?_
  refine En.block ?_
  obtain ⟨Inv, mu, h0_2, hI_2⟩ := h
  refine En.loop (σ := (List (DetCouple × (List Int))) × qr4) (fun zz => Inv zz.1 zz.2) (fun zz => mu zz.1 zz.2) (fun zz => ⟨[sl 1 (I letters), sl 2 (.rd (fvR (fun (x : (DetCouple × Int)) => [.sv (.agg (DetCouple.cl x.1)), .sv (.one (I x.2))]) (fun (r : DetCouple) => .sv (.agg (DetCouple.cl r))) domnxt nxt)), sl 3 (.rd (fvR (fun (x : DetCouple) => [.sv (.agg (DetCouple.cl x))]) (fun (r : Bool) => .sv (.one (B r))) domok ok)), qr1, qr2], [.gone, mapI DetCouple.enc (lsT intT) zz.1, .gone, rowI 224 DetCouple.ty zz.2]⟩) ((qr5 first), ([first] : qr4)) h0_2 (sub_ok (by kernel_rfl)) ?_
  rintro ⟨m1, l3⟩ h
  replace h := hI_2 _ _ h
  show En c ⟨[sl 1 (I letters), sl 2 (.rd (fvR (fun (x : (DetCouple × Int)) => [.sv (.agg (DetCouple.cl x.1)), .sv (.one (I x.2))]) (fun (r : DetCouple) => .sv (.agg (DetCouple.cl r))) domnxt nxt)), sl 3 (.rd (fvR (fun (x : DetCouple) => [.sv (.agg (DetCouple.cl x))]) (fun (r : Bool) => .sv (.one (B r))) domok ok)), qr1, qr2], (qr3 m1 l3)⟩ _
  refine En.seq ?_
  refine En.sr ?_
  refine WL.rn ht hn 3 ⟨[sl 1 (I letters), sl 2 (.rd (fvR (fun (x : (DetCouple × Int)) => [.sv (.agg (DetCouple.cl x.1)), .sv (.one (I x.2))]) (fun (r : DetCouple) => .sv (.agg (DetCouple.cl r))) domnxt nxt)), sl 3 (.rd (fvR (fun (x : DetCouple) => [.sv (.agg (DetCouple.cl x))]) (fun (r : Bool) => .sv (.one (B r))) domok ok)), qr1, qr2, sl 24 (B (decide ((l3.length : Int) > 0)))], (qr3 m1 l3)⟩ ?_
  refine En.cd (b := (decide ((l3.length : Int) > 0))) (fun hb => ?_) (fun hb => ?_)
  · replace h := h.1 hb
    refine En.skip ?_
    refine En.seq ?_
    refine En.block ?_
    refine En.seq ?_
    refine En.sr ?_
    refine WL.r ht hn 2 ⟨[sl 1 (I letters), sl 2 (.rd (fvR (fun (x : (DetCouple × Int)) => [.sv (.agg (DetCouple.cl x.1)), .sv (.one (I x.2))]) (fun (r : DetCouple) => .sv (.agg (DetCouple.cl r))) domnxt nxt)), sl 3 (.rd (fvR (fun (x : DetCouple) => [.sv (.agg (DetCouple.cl x))]) (fun (r : Bool) => .sv (.one (B r))) domok ok)), qr1, qr2, sl 27 (.rd (fvR (fun (x : DetCouple) => [.sv (.agg (DetCouple.cl x))]) (fun (r : Bool) => .sv (.one (B r))) domok ok)), sl 28 (.own 3)], (qr3 m1 l3)⟩ ?_
    obtain ⟨e, he, h⟩ := h
    refine WL.v hn (val_indexO (T := DetCouple.ty) (l := l3) (k := 0) ht rfl (by rfl) (by rfl) (by rfl) (by rfl) (by decide) (by rfl) (by rfl) (by rfl) he) ?_
    refine WL.v hn (val_loadO (T := DetCouple.ty) (l := l3) (y := e) ht rfl (by rfl) (by rfl) (by rfl) (by rfl) (by rfl) (idx_some he).2.2 (by rfl)) ?_
    obtain ⟨hp, h⟩ := h
    refine WL.m0 hn (mt_callv e hp rfl (by rfl) (by rfl) (by rfl) (by rfl)) ?_
    refine WL.nil ?_
    refine En.cd (b := (ok e)) (fun hb => ?_) (fun hb => ?_)
    · replace h := h.1 hb
      refine En.sr ?_
      refine WL.r ht hn 2 ⟨[sl 32 (.own 1), sl 33 (.own 3)], (qr3 m1 l3)⟩ ?_
      obtain ⟨e_2, he_2, h⟩ := h
      refine WL.v hn (val_indexO (T := DetCouple.ty) (l := l3) (k := 0) ht rfl (by rfl) (by rfl) (by rfl) (by rfl) (by decide) (by rfl) (by rfl) (by rfl) he_2) ?_
      refine WL.v hn (val_loadO (T := DetCouple.ty) (l := l3) (y := e_2) ht rfl (by rfl) (by rfl) (by rfl) (by rfl) (by rfl) (idx_some he_2).2.2 (by rfl)) ?_
      refine WL.v hn (val_lookup (T := (lsT intT)) (D := m1) DetCouple.keyLaw (k := e_2) (ok := false) [] (zv := (.slice none 0 0)) rfl Try.underlying269 (fun _ => by kernel_rfl) (fun _ => ls_nil) (mapAs DetCouple.enc (lsT intT) m1) (by rfl) (by rfl) (by rfl) (fun _ => rfl)) ?_
      refine WL.rn ht hn 2 ⟨[sl 8 (LS intT ((mget e_2 m1).getD [])), sl 9 (B true)], [.gone, .gone, .gone, .gone]⟩ ?_
      exact En.rb ht (((mget e_2 m1).getD []), true) h
    · replace h := h.2 hb
      refine En.skip ?_
      refine En.sr ?_
      refine WL.rn ht hn 2 ⟨[sl 1 (I letters), sl 2 (.rd (fvR (fun (x : (DetCouple × Int)) => [.sv (.agg (DetCouple.cl x.1)), .sv (.one (I x.2))]) (fun (r : DetCouple) => .sv (.agg (DetCouple.cl r))) domnxt nxt)), sl 3 (.rd (fvR (fun (x : DetCouple) => [.sv (.agg (DetCouple.cl x))]) (fun (r : Bool) => .sv (.one (B r))) domok ok)), qr1, qr2, sl 37 (I letters), sl 38 (I 0)], (qr3 m1 l3)⟩ ?_
      refine En.block ?_
      obtain ⟨Inv_2, mu_2, h0, hI⟩ := h
      refine En.loop (σ := Int × (List (DetCouple × (List Int))) × qr4) (fun zz => Inv_2 zz.1 zz.2.1 zz.2.2) (fun zz => mu_2 zz.1 zz.2.1 zz.2.2) (fun zz => ⟨[sl 1 (I letters), sl 2 (.rd (fvR (fun (x : (DetCouple × Int)) => [.sv (.agg (DetCouple.cl x.1)), .sv (.one (I x.2))]) (fun (r : DetCouple) => .sv (.agg (DetCouple.cl r))) domnxt nxt)), sl 3 (.rd (fvR (fun (x : DetCouple) => [.sv (.agg (DetCouple.cl x))]) (fun (r : Bool) => .sv (.one (B r))) domok ok)), qr1, qr2, sl 37 (I letters), sl 38 (I zz.1)], [.gone, mapI DetCouple.enc (lsT intT) zz.2.1, .gone, rowI 224 DetCouple.ty zz.2.2]⟩) (0, m1, l3) h0 (sub_ok (by kernel_rfl)) ?_
      rintro ⟨x38, m1_2, l3_2⟩ h
      replace h := hI _ _ _ h
      show En c ⟨[sl 1 (I letters), sl 2 (.rd (fvR (fun (x : (DetCouple × Int)) => [.sv (.agg (DetCouple.cl x.1)), .sv (.one (I x.2))]) (fun (r : DetCouple) => .sv (.agg (DetCouple.cl r))) domnxt nxt)), sl 3 (.rd (fvR (fun (x : DetCouple) => [.sv (.agg (DetCouple.cl x))]) (fun (r : Bool) => .sv (.one (B r))) domok ok)), qr1, qr2, sl 37 (I letters), sl 38 (I x38)], (qr0 m1_2 l3_2)⟩ _
      refine En.sr ?_
      refine WL.rn ht hn 1 ⟨[sl 1 (I letters), sl 2 (.rd (fvR (fun (x : (DetCouple × Int)) => [.sv (.agg (DetCouple.cl x.1)), .sv (.one (I x.2))]) (fun (r : DetCouple) => .sv (.agg (DetCouple.cl r))) domnxt nxt)), sl 3 (.rd (fvR (fun (x : DetCouple) => [.sv (.agg (DetCouple.cl x))]) (fun (r : Bool) => .sv (.one (B r))) domok ok)), qr1, qr2, sl 37 (I letters), sl 38 (I x38), sl 39 (B (decide (x38 < letters)))], (qr0 m1_2 l3_2)⟩ ?_
      refine En.seq ?_
      refine En.cd (b := (decide (x38 < letters))) (fun hb => ?_) (fun hb => ?_)
      · replace h := h.1 hb
        refine En.skip ?_
        obtain ⟨J, h, hJ⟩ := h
        refine En.seqJ (σ := (List (DetCouple × (List Int))) × qr4) (fun zz => J zz.1 zz.2) (fun zz => ⟨[sl 1 (I letters), sl 2 (.rd (fvR (fun (x : (DetCouple × Int)) => [.sv (.agg (DetCouple.cl x.1)), .sv (.one (I x.2))]) (fun (r : DetCouple) => .sv (.agg (DetCouple.cl r))) domnxt nxt)), sl 3 (.rd (fvR (fun (x : DetCouple) => [.sv (.agg (DetCouple.cl x))]) (fun (r : Bool) => .sv (.one (B r))) domok ok)), qr1, qr2, sl 37 (I letters), sl 38 (I x38)], (qr6 zz.1 zz.2)⟩) ?_ ?_
        · refine En.block ?_
          refine En.sr ?_
          refine WL.rn ht hn 2 ⟨[sl 1 (I letters), sl 2 (.rd (fvR (fun (x : (DetCouple × Int)) => [.sv (.agg (DetCouple.cl x.1)), .sv (.one (I x.2))]) (fun (r : DetCouple) => .sv (.agg (DetCouple.cl r))) domnxt nxt)), sl 3 (.rd (fvR (fun (x : DetCouple) => [.sv (.agg (DetCouple.cl x))]) (fun (r : Bool) => .sv (.one (B r))) domok ok)), qr1, qr2, sl 12 (I x38), sl 37 (I letters), sl 38 (I x38)], (qr0 m1_2 l3_2)⟩ ?_
          refine En.sr ?_
          refine WL.r ht hn 2 ⟨[sl 1 (I letters), sl 2 (.rd (fvR (fun (x : (DetCouple × Int)) => [.sv (.agg (DetCouple.cl x.1)), .sv (.one (I x.2))]) (fun (r : DetCouple) => .sv (.agg (DetCouple.cl r))) domnxt nxt)), sl 3 (.rd (fvR (fun (x : DetCouple) => [.sv (.agg (DetCouple.cl x))]) (fun (r : Bool) => .sv (.one (B r))) domok ok)), qr1, qr2, sl 12 (I x38), sl 37 (I letters), sl 38 (I x38), sl 41 (.rd (fvR (fun (x : (DetCouple × Int)) => [.sv (.agg (DetCouple.cl x.1)), .sv (.one (I x.2))]) (fun (r : DetCouple) => .sv (.agg (DetCouple.cl r))) domnxt nxt)), sl 42 (.own 3)], (qr0 m1_2 l3_2)⟩ ?_
          obtain ⟨e_3, he_3, h⟩ := h
          refine WL.v hn (val_indexO (T := DetCouple.ty) (l := l3_2) (k := 0) ht rfl (by rfl) (by rfl) (by rfl) (by rfl) (by decide) (by rfl) (by rfl) (by rfl) he_3) ?_
          refine WL.v hn (val_loadO (T := DetCouple.ty) (l := l3_2) (y := e_3) ht rfl (by rfl) (by rfl) (by rfl) (by rfl) (by rfl) (idx_some he_3).2.2 (by rfl)) ?_
          refine WL.r ht hn 1 ⟨[sl 1 (I letters), sl 2 (.rd (fvR (fun (x : (DetCouple × Int)) => [.sv (.agg (DetCouple.cl x.1)), .sv (.one (I x.2))]) (fun (r : DetCouple) => .sv (.agg (DetCouple.cl r))) domnxt nxt)), sl 3 (.rd (fvR (fun (x : DetCouple) => [.sv (.agg (DetCouple.cl x))]) (fun (r : Bool) => .sv (.one (B r))) domok ok)), qr1, qr2, sl 12 (I x38), sl 37 (I letters), sl 38 (I x38), sl 41 (.rd (fvR (fun (x : (DetCouple × Int)) => [.sv (.agg (DetCouple.cl x.1)), .sv (.one (I x.2))]) (fun (r : DetCouple) => .sv (.agg (DetCouple.cl r))) domnxt nxt)), (44, .sv (.agg (DetCouple.cl e_3))), sl 45 (I x38)], (qr0 m1_2 l3_2)⟩ ?_
          obtain ⟨hp, h⟩ := h
          refine WL.m0 hn (mt_callv (e_3, x38) hp rfl (by rfl) (by rfl) (by rfl) (by rfl)) ?_
          refine WL.rn ht hn 2 ⟨[sl 1 (I letters), sl 2 (.rd (fvR (fun (x : (DetCouple × Int)) => [.sv (.agg (DetCouple.cl x.1)), .sv (.one (I x.2))]) (fun (r : DetCouple) => .sv (.agg (DetCouple.cl r))) domnxt nxt)), sl 3 (.rd (fvR (fun (x : DetCouple) => [.sv (.agg (DetCouple.cl x))]) (fun (r : Bool) => .sv (.one (B r))) domok ok)), qr1, qr2, sl 12 (I x38), sl 13 (.ptr 4 0), sl 37 (I letters), sl 38 (I x38)], [.gone, mapI DetCouple.enc (lsT intT) m1_2, .gone, rowI 224 DetCouple.ty l3_2, .box (DetCouple.cl (nxt (e_3, x38))) 224 false]⟩ ?_
          refine En.sr ?_
          refine WL.r ht hn 2 ⟨[sl 1 (I letters), sl 2 (.rd (fvR (fun (x : (DetCouple × Int)) => [.sv (.agg (DetCouple.cl x.1)), .sv (.one (I x.2))]) (fun (r : DetCouple) => .sv (.agg (DetCouple.cl r))) domnxt nxt)), sl 3 (.rd (fvR (fun (x : DetCouple) => [.sv (.agg (DetCouple.cl x))]) (fun (r : Bool) => .sv (.one (B r))) domok ok)), qr1, qr2, sl 12 (I x38), sl 13 (.ptr 4 0), sl 37 (I letters), sl 38 (I x38), sl 48 (.own 1), (49, .sv (.agg (DetCouple.cl (nxt (e_3, x38)))))], [.gone, mapI DetCouple.enc (lsT intT) m1_2, .gone, rowI 224 DetCouple.ty l3_2, .box (DetCouple.cl (nxt (e_3, x38))) 224 false]⟩ ?_
          refine WL.v hn (val_lookup (T := (lsT intT)) (D := m1_2) DetCouple.keyLaw (k := (nxt (e_3, x38))) (ok := true) [] (zv := (.slice none 0 0)) rfl Try.underlying269 (fun _ => by kernel_rfl) (fun _ => ls_nil) (mapAs DetCouple.enc (lsT intT) m1_2) (by rfl) (by rfl) (by rfl) (fun _ => rfl)) ?_
          refine WL.rn ht hn 5 ⟨[sl 1 (I letters), sl 2 (.rd (fvR (fun (x : (DetCouple × Int)) => [.sv (.agg (DetCouple.cl x.1)), .sv (.one (I x.2))]) (fun (r : DetCouple) => .sv (.agg (DetCouple.cl r))) domnxt nxt)), sl 3 (.rd (fvR (fun (x : DetCouple) => [.sv (.agg (DetCouple.cl x))]) (fun (r : Bool) => .sv (.one (B r))) domok ok)), qr1, qr2, sl 12 (I x38), sl 13 (.ptr 4 0), sl 15 (B (mget (nxt (e_3, x38)) m1_2).isSome), sl 37 (I letters), sl 38 (I x38)], [.gone, mapI DetCouple.enc (lsT intT) m1_2, .gone, rowI 224 DetCouple.ty l3_2, .box (DetCouple.cl (nxt (e_3, x38))) 224 false]⟩ ?_
          refine En.sr ?_
          refine WL.rn ht hn 2 ⟨[sl 1 (I letters), sl 2 (.rd (fvR (fun (x : (DetCouple × Int)) => [.sv (.agg (DetCouple.cl x.1)), .sv (.one (I x.2))]) (fun (r : DetCouple) => .sv (.agg (DetCouple.cl r))) domnxt nxt)), sl 3 (.rd (fvR (fun (x : DetCouple) => [.sv (.agg (DetCouple.cl x))]) (fun (r : Bool) => .sv (.one (B r))) domok ok)), qr1, qr2, sl 12 (I x38), sl 13 (.ptr 4 0), sl 37 (I letters), sl 38 (I x38), sl 54 (B (!(mget (nxt (e_3, x38)) m1_2).isSome))], [.gone, mapI DetCouple.enc (lsT intT) m1_2, .gone, rowI 224 DetCouple.ty l3_2, .box (DetCouple.cl (nxt (e_3, x38))) 224 false]⟩ ?_
          refine En.cd (b := (!(mget (nxt (e_3, x38)) m1_2).isSome)) (fun hb => ?_) (fun hb => ?_)
          · replace h := h.1 hb
            refine En.seq ?_
            obtain ⟨e_4, he_4, h⟩ := h
            obtain ⟨hp_2, h⟩ := h
            obtain ⟨hp_3, h⟩ := h
            refine En.regionA ⟨[sl 1 (I letters), sl 2 (.rd (fvR (fun (x : (DetCouple × Int)) => [.sv (.agg (DetCouple.cl x.1)), .sv (.one (I x.2))]) (fun (r : DetCouple) => .sv (.agg (DetCouple.cl r))) domnxt nxt)), sl 3 (.rd (fvR (fun (x : DetCouple) => [.sv (.agg (DetCouple.cl x))]) (fun (r : Bool) => .sv (.one (B r))) domok ok)), qr1, qr2, sl 12 (I x38), sl 13 (.ptr 4 0), sl 37 (I letters), sl 38 (I x38)], [.sv (.one (.own 1)), .sv (.agg (DetCouple.cl (nxt (e_3, x38)))), .sv (.one (.own 1)), .sv (.one (.own 3)), .sv (.one (.oe 3 (0 : Int).toNat 2)), .sv (.agg (DetCouple.cl e_4)), .sv (.one (LS intT ((mget e_4 m1_2).getD []))), .sv (.one (.own 5)), .sv (.one (I x38)), .sv (.one (LS intT ([x38] : List Int))), .sv (.one (LS intT (((mget e_4 m1_2).getD []) ++ ([x38] : List Int)))), .tup []], [⟨.gone, none, none, none⟩, ⟨mapI DetCouple.enc (lsT intT) m1_2, none, none, some (11, mapI DetCouple.enc (lsT intT) (mput (nxt (e_3, x38)) (((mget e_4 m1_2).getD []) ++ ([x38] : List Int)) m1_2))⟩, ⟨.gone, none, none, none⟩, ⟨rowI 224 DetCouple.ty l3_2, none, none, none⟩, ⟨.box (DetCouple.cl (nxt (e_3, x38))) 224 false, none, none, none⟩, ⟨rowI 3 intT ((mget e_4 m1_2).getD []), some 7, some 10, none⟩]⟩ ⟨[sl 1 (I letters), sl 2 (.rd (fvR (fun (x : (DetCouple × Int)) => [.sv (.agg (DetCouple.cl x.1)), .sv (.one (I x.2))]) (fun (r : DetCouple) => .sv (.agg (DetCouple.cl r))) domnxt nxt)), sl 3 (.rd (fvR (fun (x : DetCouple) => [.sv (.agg (DetCouple.cl x))]) (fun (r : Bool) => .sv (.one (B r))) domok ok)), qr1, qr2, sl 13 (.ptr 4 0), sl 37 (I letters), sl 38 (I x38)], [.gone, mapI DetCouple.enc (lsT intT) (mput (nxt (e_3, x38)) (((mget e_4 m1_2).getD []) ++ ([x38] : List Int)) m1_2), .gone, rowI 224 DetCouple.ty l3_2, .box (DetCouple.cl (nxt (e_3, x38))) 224 false, .gone]⟩ (by kernel_rfl) hn (by kernel_rfl) (by rfl) (by kernel_rfl) ?_ (by kernel_rfl) ?_
            · exact ⟨.ev ⟨[qr1], []⟩ ht,
    .ev ⟨[sl 13 (.ptr 4 0)], [.gone, .gone, .gone, .gone, .box (DetCouple.cl (nxt (e_3, x38))) 224 false]⟩ ht,
    .ev ⟨[qr1], []⟩ ht,
    .ev ⟨[qr2], []⟩ ht,
    .vl ⟨[sl 58 (.own 3)], [.gone, .gone, .gone, rowI 224 DetCouple.ty l3_2]⟩ (mt_val (val_indexO (T := DetCouple.ty) (l := l3_2) (k := 0) ht rfl (by rfl) (by rfl) (by rfl) (by rfl) (by decide) (by rfl) (by rfl) (by rfl) he_4)),
    .vl ⟨[sl 59 (.oe 3 (0 : Int).toNat 2)], [.gone, .gone, .gone, rowI 224 DetCouple.ty l3_2]⟩ (mt_val (val_loadO (T := DetCouple.ty) (l := l3_2) (y := e_4) ht rfl (by rfl) (by rfl) (by rfl) (by rfl) (by rfl) (idx_some he_4).2.2 (by rfl))),
    .vl ⟨[sl 57 (.own 1), (60, .sv (.agg (DetCouple.cl e_4)))], [.gone, mapI DetCouple.enc (lsT intT) m1_2]⟩ (mt_val (val_lookup (T := (lsT intT)) (D := m1_2) DetCouple.keyLaw (k := e_4) (ok := false) [] (zv := (.slice none 0 0)) rfl Try.underlying269 (fun _ => by kernel_rfl) (fun _ => ls_nil) (mapAs DetCouple.enc (lsT intT) m1_2) (by rfl) (by rfl) (by rfl) (fun _ => rfl))),
    .mt ⟨[sl 61 (LS intT ((mget e_4 m1_2).getD []))], []⟩ [] (some 5) (by kernel_rfl) (by rfl) (mt_callI 5 (cloneInt_ct ((mget e_4 m1_2).getD []) hp_2) en37 (caps := []) [] rfl rfl (by rfl) (by kernel_rfl) (by kernel_rfl) (by rfl) (by rfl)) rfl rfl rfl rfl,
    .ev ⟨[sl 12 (I x38)], []⟩ ht,
    .mt ⟨[sl 63 (I x38)], []⟩ [] none (by kernel_rfl) (by rfl) (mt_seal (q := 6) (e := 3) (mt_lit (T := intT) ([x38] : List Int) (mt_bsl 6 (r := cellsOf intT ([x38] : List Int)) ht rfl (by rfl) (by rfl) (by rfl) (by kernel_rfl) (by rfl)) (fun _ h => by cases h) (fun _ => rfl) (fun _ => rfl) (by rfl) (Nat.le_of_ble_eq_true rfl))) rfl rfl rfl rfl,
    .mt ⟨[sl 62 (.own 5), sl 64 (LS intT ([x38] : List Int))], [.gone, .gone, .gone, .gone, .gone, rowI 3 intT ((mget e_4 m1_2).getD [])]⟩ [5] none (by kernel_rfl) (by rfl) (mt_seal (q := 6) (e := 3) (mt_append (T := intT) (l := ((mget e_4 m1_2).getD [])) (es := ([x38] : List Int)) (p := 6) ht rfl (by rfl) (by rfl) (by rfl) (by rfl) (by decide) (by rfl) (by rfl) (srcLS (T := intT) (es := ([x38] : List Int)) (fun _ h => by cases h) (by decide) (by rfl)) (by exact hp_3) (by exact hp_3.le (by decide)))) rfl rfl rfl rfl,
    .mu ⟨[sl 55 (.own 1), (56, .sv (.agg (DetCouple.cl (nxt (e_3, x38))))), sl 65 (LS intT (((mget e_4 m1_2).getD []) ++ ([x38] : List Int)))], [.gone, mapI DetCouple.enc (lsT intT) m1_2]⟩ 1 _ _ rfl rfl (by kernel_rfl) (by rfl) (mu_mapPut (T := (lsT intT)) DetCouple.keyLaw (k := (nxt (e_3, x38))) (y := (((mget e_4 m1_2).getD []) ++ ([x38] : List Int))) (.inl rfl) Try.underlying269 (by rfl) (by rfl) (by rfl) (by rfl) (by rfl)) rfl rfl rfl rfl rfl rfl rfl,
    trivial⟩
            · refine En.region ?_
              refine WL.r ht hn 2 ⟨[sl 1 (I letters), sl 2 (.rd (fvR (fun (x : (DetCouple × Int)) => [.sv (.agg (DetCouple.cl x.1)), .sv (.one (I x.2))]) (fun (r : DetCouple) => .sv (.agg (DetCouple.cl r))) domnxt nxt)), sl 3 (.rd (fvR (fun (x : DetCouple) => [.sv (.agg (DetCouple.cl x))]) (fun (r : Bool) => .sv (.one (B r))) domok ok)), qr1, sl 37 (I letters), sl 38 (I x38), sl 66 (.own 3), (67, .sv (.agg (DetCouple.cl (nxt (e_3, x38)))))], [.gone, mapI DetCouple.enc (lsT intT) (mput (nxt (e_3, x38)) (((mget e_4 m1_2).getD []) ++ ([x38] : List Int)) m1_2), .gone, rowI 224 DetCouple.ty l3_2, .gone, .gone]⟩ ?_
              refine WL.mt0 (K := []) (p := some (6, rowI 224 DetCouple.ty ([nxt (e_3, x38)] : qr4))) hn (by rfl) (mt_lit (T := DetCouple.ty) ([nxt (e_3, x38)] : qr4) (mt_bsl 6 (r := cellsOf DetCouple.ty ([nxt (e_3, x38)] : qr4)) ht rfl (by rfl) (by rfl) (by rfl) (by kernel_rfl) (by rfl)) (fun _ h => by cases h) (fun _ => rfl) (fun _ => rfl) (by rfl) (Nat.le_of_ble_eq_true rfl)) (by rfl) (by rfl) (by rfl) ?_
              refine WL.seal (T := DetCouple.ty) (l := ([nxt (e_3, x38)] : qr4)) (e := 224) 6 rfl ?_
              refine WL.r ht hn 0 ⟨[sl 1 (I letters), sl 2 (.rd (fvR (fun (x : (DetCouple × Int)) => [.sv (.agg (DetCouple.cl x.1)), .sv (.one (I x.2))]) (fun (r : DetCouple) => .sv (.agg (DetCouple.cl r))) domnxt nxt)), sl 3 (.rd (fvR (fun (x : DetCouple) => [.sv (.agg (DetCouple.cl x))]) (fun (r : Bool) => .sv (.one (B r))) domok ok)), qr1, sl 37 (I letters), sl 38 (I x38), sl 66 (.own 3), (67, .sv (.agg (DetCouple.cl (nxt (e_3, x38))))), sl 68 (LS DetCouple.ty ([nxt (e_3, x38)] : qr4))], [.gone, mapI DetCouple.enc (lsT intT) (mput (nxt (e_3, x38)) (((mget e_4 m1_2).getD []) ++ ([x38] : List Int)) m1_2), .gone, rowI 224 DetCouple.ty l3_2, .gone, .gone, .gone]⟩ ?_
              obtain ⟨hp, h⟩ := h
              refine WL.mt (S2 := ⟨[sl 1 (I letters), sl 2 (.rd (fvR (fun (x : (DetCouple × Int)) => [.sv (.agg (DetCouple.cl x.1)), .sv (.one (I x.2))]) (fun (r : DetCouple) => .sv (.agg (DetCouple.cl r))) domnxt nxt)), sl 3 (.rd (fvR (fun (x : DetCouple) => [.sv (.agg (DetCouple.cl x))]) (fun (r : Bool) => .sv (.one (B r))) domok ok)), qr1, sl 37 (I letters), sl 38 (I x38), (67, .sv (.agg (DetCouple.cl (nxt (e_3, x38))))), sl 68 (LS DetCouple.ty ([nxt (e_3, x38)] : qr4))], [.gone, mapI DetCouple.enc (lsT intT) (mput (nxt (e_3, x38)) (((mget e_4 m1_2).getD []) ++ ([x38] : List Int)) m1_2), .gone, rowI 224 DetCouple.ty l3_2, .gone, .gone, .gone]⟩) (K := [3]) (p := some (3, rowI 224 DetCouple.ty (l3_2 ++ ([nxt (e_3, x38)] : qr4)))) hn (by rfl) (mt_append (T := DetCouple.ty) (l := l3_2) (es := ([nxt (e_3, x38)] : qr4)) ht rfl (by rfl) (by rfl) (by rfl) (by rfl) (by decide) (by rfl) (by rfl) (srcLS (T := DetCouple.ty) (es := ([nxt (e_3, x38)] : qr4)) (fun _ h => by cases h) (by decide) (by rfl)) (by exact hp) (by exact hp.le (by decide))) (by kernel_rfl) (by rfl) (by rfl) (by rfl) ?_
              refine WL.rn ht hn 1 ⟨[sl 1 (I letters), sl 2 (.rd (fvR (fun (x : (DetCouple × Int)) => [.sv (.agg (DetCouple.cl x.1)), .sv (.one (I x.2))]) (fun (r : DetCouple) => .sv (.agg (DetCouple.cl r))) domnxt nxt)), sl 3 (.rd (fvR (fun (x : DetCouple) => [.sv (.agg (DetCouple.cl x))]) (fun (r : Bool) => .sv (.one (B r))) domok ok)), qr1, qr2, sl 37 (I letters), sl 38 (I x38)], [.gone, mapI DetCouple.enc (lsT intT) (mput (nxt (e_3, x38)) (((mget e_4 m1_2).getD []) ++ ([x38] : List Int)) m1_2), .gone, rowI 224 DetCouple.ty (l3_2 ++ ([nxt (e_3, x38)] : qr4)), .gone, .gone, .gone]⟩ ?_
              exact En.at (I := fun zz => J zz.1 zz.2) (T := fun zz => ⟨[sl 1 (I letters), sl 2 (.rd (fvR (fun (x : (DetCouple × Int)) => [.sv (.agg (DetCouple.cl x.1)), .sv (.one (I x.2))]) (fun (r : DetCouple) => .sv (.agg (DetCouple.cl r))) domnxt nxt)), sl 3 (.rd (fvR (fun (x : DetCouple) => [.sv (.agg (DetCouple.cl x))]) (fun (r : Bool) => .sv (.one (B r))) domok ok)), qr1, qr2, sl 37 (I letters), sl 38 (I x38)], (qr6 zz.1 zz.2)⟩) ((mput (nxt (e_3, x38)) (((mget e_4 m1_2).getD []) ++ ([x38] : List Int)) m1_2), (l3_2 ++ ([nxt (e_3, x38)] : qr4))) h (by kernel_rfl)
          · replace h := h.2 hb
            refine En.skip ?_
            exact En.at (I := fun zz => J zz.1 zz.2) (T := fun zz => ⟨[sl 1 (I letters), sl 2 (.rd (fvR (fun (x : (DetCouple × Int)) => [.sv (.agg (DetCouple.cl x.1)), .sv (.one (I x.2))]) (fun (r : DetCouple) => .sv (.agg (DetCouple.cl r))) domnxt nxt)), sl 3 (.rd (fvR (fun (x : DetCouple) => [.sv (.agg (DetCouple.cl x))]) (fun (r : Bool) => .sv (.one (B r))) domok ok)), qr1, qr2, sl 37 (I letters), sl 38 (I x38)], (qr6 zz.1 zz.2)⟩) (m1_2, l3_2) h (by kernel_rfl)
        · rintro ⟨m1_3, l3_3⟩ h
          replace h := hJ _ _ h
          show En c ⟨[sl 1 (I letters), sl 2 (.rd (fvR (fun (x : (DetCouple × Int)) => [.sv (.agg (DetCouple.cl x.1)), .sv (.one (I x.2))]) (fun (r : DetCouple) => .sv (.agg (DetCouple.cl r))) domnxt nxt)), sl 3 (.rd (fvR (fun (x : DetCouple) => [.sv (.agg (DetCouple.cl x))]) (fun (r : Bool) => .sv (.one (B r))) domok ok)), qr1, qr2, sl 37 (I letters), sl 38 (I x38)], [.gone, mapI DetCouple.enc (lsT intT) m1_3, .gone, rowI 224 DetCouple.ty l3_3, .gone]⟩ _
          refine En.region ?_
          refine WL.rn ht hn 2 ⟨[sl 1 (I letters), sl 2 (.rd (fvR (fun (x : (DetCouple × Int)) => [.sv (.agg (DetCouple.cl x.1)), .sv (.one (I x.2))]) (fun (r : DetCouple) => .sv (.agg (DetCouple.cl r))) domnxt nxt)), sl 3 (.rd (fvR (fun (x : DetCouple) => [.sv (.agg (DetCouple.cl x))]) (fun (r : Bool) => .sv (.one (B r))) domok ok)), qr1, qr2, sl 37 (I letters), sl 38 (I (wr (x38 + 1)))], [.gone, mapI DetCouple.enc (lsT intT) m1_3, .gone, rowI 224 DetCouple.ty l3_3, .gone]⟩ ?_
          exact En.at (I := fun zz => Inv_2 zz.1 zz.2.1 zz.2.2 ∧ mu_2 zz.1 zz.2.1 zz.2.2 < mu_2 x38 m1_2 l3_2) (T := fun zz => ⟨[sl 1 (I letters), sl 2 (.rd (fvR (fun (x : (DetCouple × Int)) => [.sv (.agg (DetCouple.cl x.1)), .sv (.one (I x.2))]) (fun (r : DetCouple) => .sv (.agg (DetCouple.cl r))) domnxt nxt)), sl 3 (.rd (fvR (fun (x : DetCouple) => [.sv (.agg (DetCouple.cl x))]) (fun (r : Bool) => .sv (.one (B r))) domok ok)), qr1, qr2, sl 37 (I letters), sl 38 (I zz.1)], [.gone, mapI DetCouple.enc (lsT intT) zz.2.1, .gone, rowI 224 DetCouple.ty zz.2.2]⟩) ((wr (x38 + 1)), m1_3, l3_3) h (by kernel_rfl)
      · replace h := h.2 hb
        refine En.exit rfl ?_
        refine En.region ?_
        refine WL.r ht hn 1 ⟨[sl 1 (I letters), sl 2 (.rd (fvR (fun (x : (DetCouple × Int)) => [.sv (.agg (DetCouple.cl x.1)), .sv (.one (I x.2))]) (fun (r : DetCouple) => .sv (.agg (DetCouple.cl r))) domnxt nxt)), sl 3 (.rd (fvR (fun (x : DetCouple) => [.sv (.agg (DetCouple.cl x))]) (fun (r : Bool) => .sv (.one (B r))) domok ok)), qr1, sl 25 (.own 3)], (qr0 m1_2 l3_2)⟩ ?_
        obtain ⟨hp_4, h⟩ := h
        refine WL.mt (S2 := ⟨[sl 1 (I letters), sl 2 (.rd (fvR (fun (x : (DetCouple × Int)) => [.sv (.agg (DetCouple.cl x.1)), .sv (.one (I x.2))]) (fun (r : DetCouple) => .sv (.agg (DetCouple.cl r))) domnxt nxt)), sl 3 (.rd (fvR (fun (x : DetCouple) => [.sv (.agg (DetCouple.cl x))]) (fun (r : Bool) => .sv (.one (B r))) domok ok)), qr1], (qr0 m1_2 l3_2)⟩) (K := [3]) (p := some (3, rowI 224 DetCouple.ty (l3_2.drop (1 : Int).toNat))) hn (by rfl) (mt_sliceF (T := DetCouple.ty) (l := l3_2) (p := 3) (lv := 1) ht rfl (by rfl) (by rfl) (by rfl) (by rfl) (by rfl) (by rfl) (by rfl) hp_4) (by kernel_rfl) (by rfl) (by rfl) (by rfl) ?_
        refine WL.rn ht hn 1 ⟨[sl 1 (I letters), sl 2 (.rd (fvR (fun (x : (DetCouple × Int)) => [.sv (.agg (DetCouple.cl x.1)), .sv (.one (I x.2))]) (fun (r : DetCouple) => .sv (.agg (DetCouple.cl r))) domnxt nxt)), sl 3 (.rd (fvR (fun (x : DetCouple) => [.sv (.agg (DetCouple.cl x))]) (fun (r : Bool) => .sv (.one (B r))) domok ok)), qr1, qr2], [.gone, mapI DetCouple.enc (lsT intT) m1_2, .gone, rowI 224 DetCouple.ty (l3_2.drop (1 : Int).toNat)]⟩ ?_
        exact En.at (I := fun zz => Inv zz.1 zz.2 ∧ mu zz.1 zz.2 < mu m1 l3) (T := fun zz => ⟨[sl 1 (I letters), sl 2 (.rd (fvR (fun (x : (DetCouple × Int)) => [.sv (.agg (DetCouple.cl x.1)), .sv (.one (I x.2))]) (fun (r : DetCouple) => .sv (.agg (DetCouple.cl r))) domnxt nxt)), sl 3 (.rd (fvR (fun (x : DetCouple) => [.sv (.agg (DetCouple.cl x))]) (fun (r : Bool) => .sv (.one (B r))) domok ok)), qr1, qr2], [.gone, mapI DetCouple.enc (lsT intT) zz.1, .gone, rowI 224 DetCouple.ty zz.2]⟩) (m1_2, (l3_2.drop (1 : Int).toNat)) h (by kernel_rfl)
  · replace h := h.2 hb
    refine En.exit rfl ?_
    refine En.sr ?_
    refine WL.rn ht hn 2 ⟨[sl 8 (.v (.slice none 0 0)), sl 9 (B false)], [.gone, .gone, .gone, .gone]⟩ ?_
    refine En.ret ?_
    refine En.nilLS 8 intT (by rfl) ?_
    exact En.back ht ([], false) h (by kernel_rfl) rfl
theorem en131 : ∀ args w, (callFunc 131 args).run Try.prog w = .ok (.enter 131 args) w := enters_of Try.func131 (by kernel_rfl) rfl
def afterD_vc (x : ApiDet) (q : Int) (w : List Int) (Q : Int → Prop) : Prop :=
 x.fNext.length ≤ 9223372036854775807 →
 x.fMark.length ≤ 9223372036854775807 →
 w.length ≤ 9223372036854775807 →
 (∃ (Inv : Int → Int → Prop) (mu : Int → Int → Nat), Inv q 0 ∧
 ∀ (x1 : Int) (x11 : Int) , Inv x1 x11 → (IfP (decide (x11 < (w.length : Int))) (∃ e, idx w x11 = some e ∧
 ∃ e_2, idx x.fNext x1 = some e_2 ∧
 ∃ e_3, idx e_2 e = some e_3 ∧
 (Inv e_3 (wr (x11 + 1)) ∧ mu e_3 (wr (x11 + 1)) < mu x1 x11)) (Q x1)))
noncomputable abbrev qs0 (x : ApiDet) := ([.box (ApiDet.cl x) 25 false] : List Item)
noncomputable abbrev qs1 (w : List Int) := sl 10 (I (w.length : Int))
theorem afterD_walk (x : ApiDet) (q : Int) (w : List Int) (Q : Int → Prop) (h : afterD_vc x q w Q) : Ct 60 [.sv (.agg [I x.fLetters, I x.fStart, LS (lsT intT) x.fNext, LS intT x.fMark]), .sv (.one (I q)), .sv (.one (LS intT w))] [] Q (fun (r : Int) => .sv (.one (I r))) := by
 have ht := tab_ok
 refine Ct.body Try.func60 rfl rfl rfl rfl (fun c hn => ?_)
 unfold afterD_vc at h
 refine En.lenA 0 2 (by rfl) (by rfl) (fun hl => ?_)
 replace h := h hl
 clear hl
 refine En.lenA 0 3 (by rfl) (by rfl) (fun hl => ?_)
 replace h := h hl
 clear hl
 refine En.lenL 2 (by rfl) (fun hl => ?_)
 replace h := h hl
 clear hl
 refine En.sr ?_
 refine WL.rn ht hn 2 ⟨[sl 1 (I q), sl 2 (LS intT w), sl 3 (.ptr 0 0)], (qs0 x)⟩ ?_
 refine En.seq ?_
 refine En.sr ?_
 refine WL.rn ht hn 3 ⟨[sl 1 (I q), sl 3 (.ptr 0 0), sl 9 (LS intT w), qs1 w, sl 11 (I 0)], (qs0 x)⟩ ?_
 refine En.block ?_
 obtain ⟨Inv, mu, h0, hI⟩ := h
 refine En.loop (σ := Int × Int) (fun zz => Inv zz.1 zz.2) (fun zz => mu zz.1 zz.2) (fun zz => ⟨[sl 1 (I zz.1), sl 3 (.ptr 0 0), sl 9 (LS intT w), qs1 w, sl 11 (I zz.2)], (qs0 x)⟩) (q, 0) h0 (sub_ok (by kernel_rfl)) ?_
 rintro ⟨x1, x11⟩ h
 replace h := hI _ _ h
 show En c ⟨[sl 1 (I x1), sl 3 (.ptr 0 0), sl 9 (LS intT w), qs1 w, sl 11 (I x11)], (qs0 x)⟩ _
 refine En.sr ?_
 refine WL.rn ht hn 1 ⟨[sl 1 (I x1), sl 3 (.ptr 0 0), sl 9 (LS intT w), qs1 w, sl 11 (I x11), sl 12 (B (decide (x11 < (w.length : Int))))], (qs0 x)⟩ ?_
 refine En.seq ?_
 refine En.ch h (fun h => ?_) (fun h => ?_)
 refine En.skip ?_
 refine En.seq ?_
 refine En.block ?_
 refine En.sr ?_
 obtain ⟨e, he, h⟩ := h
 refine WL.v hn (val_ix (T := intT) (l := w) (i := x11) ht rfl he) ?_
 refine WL.v hn (val_ld (s := .one (I e)) ht rfl) ?_
 refine WL.rn ht hn 1 ⟨[sl 1 (I x1), sl 3 (.ptr 0 0), sl 8 (I e), sl 9 (LS intT w), qs1 w, sl 11 (I x11)], (qs0 x)⟩ ?_
 refine En.region ?_
 refine WL.r ht hn 3 ⟨[sl 3 (.ptr 0 0), sl 8 (I e), sl 9 (LS intT w), qs1 w, sl 11 (I x11), sl 16 (LS (lsT intT) x.fNext), sl 17 (I x1)], (qs0 x)⟩ ?_
 obtain ⟨e_2, he_2, h⟩ := h
 refine WL.v hn (val_ix (T := (lsT intT)) (l := x.fNext) (i := x1) ht rfl he_2) ?_
 refine WL.v hn (val_ld (s := .one (LS intT e_2)) ht rfl) ?_
 refine WL.r ht hn 1 ⟨[sl 3 (.ptr 0 0), sl 9 (LS intT w), qs1 w, sl 11 (I x11), sl 19 (LS intT e_2), sl 20 (I e)], (qs0 x)⟩ ?_
 obtain ⟨e_3, he_3, h⟩ := h
 refine WL.v hn (val_ix (T := intT) (l := e_2) (i := e) ht rfl he_3) ?_
 refine WL.v hn (val_ld (s := .one (I e_3)) ht rfl) ?_
 refine WL.rn ht hn 1 ⟨[sl 1 (I e_3), sl 3 (.ptr 0 0), sl 9 (LS intT w), qs1 w, sl 11 (I x11)], (qs0 x)⟩ ?_
 refine En.region ?_
 refine WL.rn ht hn 2 ⟨[sl 1 (I e_3), sl 3 (.ptr 0 0), sl 9 (LS intT w), qs1 w, sl 11 (I (wr (x11 + 1)))], (qs0 x)⟩ ?_
 exact En.at (I := fun zz => Inv zz.1 zz.2 ∧ mu zz.1 zz.2 < mu x1 x11) (T := fun zz => ⟨[sl 1 (I zz.1), sl 3 (.ptr 0 0), sl 9 (LS intT w), qs1 w, sl 11 (I zz.2)], (qs0 x)⟩) (e_3, (wr (x11 + 1))) h (by kernel_rfl)
 refine En.exit rfl ?_
 refine En.sr ?_
 refine WL.rn ht hn 2 ⟨[sl 6 (I x1)], [.gone]⟩ ?_
 exact En.rb ht x1 h
theorem en60 : ∀ args w, (callFunc 60 args).run Try.prog w = .ok (.enter 60 args) w := enters_of Try.func60 (by kernel_rfl) rfl
end Go.Proofs.Ytobenjahlicnoaa
namespace Go.Proofs.Ytobenjahlicnoaa
set_option linter.unusedSimpArgs false
set_option linter.unusedVariables false
set_option maxRecDepth 100000
theorem keyB_two8 (e : Int) : keyB e = two8 e := by
 unfold keyB two8
 have h2 : Int.fdiv e (2 ^ (min 8 64)) = e / 256 := by
  rw [show ((2 : Int) ^ (min 8 64)) = 256 by decide]
  exact Int.fdiv_eq_ediv_of_nonneg _ (by decide)
 rw [h2]
 rfl
theorem keyR_inj {l m : List Int} (hl : ∀ x ∈ l, 0 ≤ x ∧ x < 65536) (hm : ∀ x ∈ m, 0 ≤ x ∧ x < 65536) (h : keyR l = keyR m) : l = m := by
 unfold keyR at h
 rw [show keyB = two8 from funext keyB_two8] at h
 exact twos_inj hl hm (bytesOf_inj twos_in twos_in h)
def stepI (m : ApiDet) (q a : Int) : Int := (m.fNext.getD q.toNat []).getD a.toNat 0
def aftI (m : ApiDet) (q : Int) (w : List Int) : Int := w.foldl (stepI m) q
def InQ (m : ApiDet) (q : Int) : Prop := 0 ≤ q ∧ q < (m.fNext.length : Int)
def InA (m : ApiDet) (a : Int) : Prop := 0 ≤ a ∧ a < m.fLetters
def wOk (m : ApiDet) (w : List Int) : Prop := ∀ a ∈ w, InA m a
theorem stepI_at {m : ApiDet} (h : DetOk m) {q a : Int} (hq : InQ m q) (ha : InA m a) : idx m.fNext q = some (m.fNext.getD q.toNat []) ∧ idx (m.fNext.getD q.toNat []) a = some (stepI m q a) ∧ InQ m (stepI m q a) := by
 obtain ⟨q0, q1⟩ := hq
 obtain ⟨a0, a1⟩ := ha
 have hm := getD_mem (l := m.fNext) (i := q.toNat) (z := []) (by omega)
 have hr := h.rows _ hm
 have hl : a < ((m.fNext.getD q.toNat []).length : Int) := by omega
 exact ⟨idx_of [] q0 q1, idx_of 0 a0 hl, h.in_ _ hm _ (getD_mem (by omega))⟩
theorem aftI_in {m : ApiDet} (h : DetOk m) : ∀ (w : List Int) (q : Int), wOk m w → InQ m q → InQ m (aftI m q w)
 | [], q, _, hq => hq
 | a :: w, q, hw, hq => aftI_in h w _ (fun b hb => hw b (List.mem_cons_of_mem _ hb)) (stepI_at h hq (hw a List.mem_cons_self)).2.2
theorem aftI_app {m : ApiDet} {q : Int} {u v : List Int} : aftI m q (u ++ v) = aftI m (aftI m q u) v := List.foldl_append
theorem afterI_ct (x : ApiDet) (q : Int) (w : List Int) (hp : DetOk x ∧ InQ x q ∧ wOk x w) : Ct 60 [.sv (.agg [I x.fLetters, I x.fStart, LS (lsT intT) x.fNext, LS intT x.fMark]), .sv (.one (I q)), .sv (.one (LS intT w))] [] (fun (_ : Unit) => True) (fun _ => .sv (.one (I (aftI x q w)))) := by
 obtain ⟨hx, hq, hw⟩ := hp
 refine (afterD_walk x q w (fun r => r = aftI x q w) ?_).fun
 unfold afterD_vc
 intro _ _ hl
 refine ⟨fun p i => ∃ k : Nat, i = k ∧ k ≤ w.length ∧ p = aftI x q (w.take k), fun _ i => w.length - i.toNat, ⟨0, rfl, Nat.zero_le _, rfl⟩, ?_⟩
 rintro p i ⟨k, rfl, hk, rfl⟩
 refine ⟨fun hb => ?_, fun hb => ?_⟩
 ·have hlt : k < w.length := by have := of_decide_eq_true hb; exact Int.ofNat_lt.1 this
  have hin := aftI_in hx (w.take k) q (fun a ha => hw a (List.mem_of_mem_take ha)) hq
  obtain ⟨k1, k2, _⟩ := stepI_at hx hin (hw _ (List.getElem_mem hlt))
  have hwr : wr ((k : Int) + 1) = ((k + 1 : Nat) : Int) := by rw [wr_in (by omega) (by omega)]; rfl
  refine ⟨_, idx_at hlt, _, k1, _, k2, ⟨k + 1, hwr, hlt, ?_⟩, ?_⟩
  ·rw [List.take_add_one, List.getElem?_eq_getElem hlt]
   unfold aftI
   rw [List.foldl_append]
   rfl
  ·rw [hwr]
   show w.length - (k + 1) < w.length - k
   omega
 ·have hge : w.length ≤ k := by have := of_decide_eq_false hb; exact Nat.le_of_not_lt fun h => this (Int.ofNat_lt.2 h)
  rw [List.take_of_length_le hge]
theorem wr_nat {k : Nat} (h : k < 9223372036854775807) : wr ((k : Int) + 1) = ((k + 1 : Nat) : Int) := by rw [wr_in (by omega) (by omega)]; rfl
section
variable {nxt : DetCouple × Int → DetCouple} {ok : DetCouple → Bool}
abbrev Ways := List (DetCouple × List Int)
def growS (nxt : DetCouple × Int → DetCouple) (c : DetCouple) : Nat → Ways → List DetCouple → Ways × List DetCouple
 | 0, mp, l => (mp, l)
 | b + 1, mp, l => let s := growS nxt c b mp l
  if (mget (nxt (c, (b : Int))) s.1).isSome = true then s else (mput (nxt (c, (b : Int))) ((mget c s.1).getD [] ++ [(b : Int)]) s.1, s.2 ++ [nxt (c, (b : Int))])
def seekS (nxt : DetCouple × Int → DetCouple) (ok : DetCouple → Bool) (L : Nat) : Nat → Ways → List DetCouple → List Int × Bool
 | 0, _, _ => ([], false)
 | _ + 1, _, [] => ([], false)
 | n + 1, mp, c :: l => if ok c = true then ((mget c mp).getD [], true) else seekS nxt ok L n (growS nxt c L mp (c :: l)).1 ((growS nxt c L mp (c :: l)).2.drop 1)
def seekR (first : DetCouple) (L : Int) (nxt : DetCouple × Int → DetCouple) (ok : DetCouple → Bool) : List Int × Bool := seekS nxt ok L.toNat 3000000 [(first, [])] [first]
structure SInv (nxt : DetCouple × Int → DetCouple) (ok : DetCouple → Bool) (L : Nat) (M : List DetCouple) (first : DetCouple) (mp : Ways) (l : List DetCouple) : Prop where
 nd : (mp.map (·.1)).Nodup
 inM : ∀ c ∈ mp.map (·.1), c ∈ M
 sub : ∀ c ∈ l, c ∈ mp.map (·.1)
 le : l.length ≤ mp.length
 way : ∀ c w, mget c mp = some w → w.length ≤ mp.length ∧ (∀ a ∈ w, 0 ≤ a ∧ a < (L : Int)) ∧ w.foldl (fun c a => nxt (c, a)) first = c
 first : first ∈ mp.map (·.1)
theorem mput_len {c : DetCouple} {w : List Int} {mp : Ways} (h : mget c mp = none) : (mput c w mp).length = mp.length + 1 := by
 have := congrArg List.length (mput_keys (a := c) (v := w) (D := mp))
 rw [if_neg (mget_none.1 h)] at this
 simpa using this
theorem SInv.cap {L : Nat} {M : List DetCouple} {first : DetCouple} {mp : Ways} {l : List DetCouple} (h : SInv nxt ok L M first mp l) : mp.length ≤ M.length := by
 have := nodup_le h.nd h.inM
 rwa [List.length_map] at this
theorem SInv.step {L : Nat} {M : List DetCouple} {first : DetCouple} {mp : Ways} {l : List DetCouple} (h : SInv nxt ok L M first mp l) {c : DetCouple} {b : Int} (hb : 0 ≤ b ∧ b < (L : Int)) (hc : c ∈ mp.map (·.1)) (ht : nxt (c, b) ∈ M) (hn : mget (nxt (c, b)) mp = none) :
  SInv nxt ok L M first (mput (nxt (c, b)) ((mget c mp).getD [] ++ [b]) mp) (l ++ [nxt (c, b)]) := by
 have hk : (mput (nxt (c, b)) ((mget c mp).getD [] ++ [b]) mp).map (·.1) = mp.map (·.1) ++ [nxt (c, b)] := by rw [mput_keys, if_neg (mget_none.1 hn)]
 have hlen := mput_len (w := (mget c mp).getD [] ++ [b]) hn
 obtain ⟨w0, hw0⟩ : ∃ w0, mget c mp = some w0 := by
  cases e : mget c mp with
  | none => exact absurd hc (mget_none.1 e)
  | some w => exact ⟨w, rfl⟩
 obtain ⟨k1, k2, k3⟩ := h.way c w0 hw0
 refine ⟨mput_nodup h.nd, fun d hd => ?_, fun d hd => ?_, ?_, fun d w hw => ?_, ?_⟩
 ·rw [hk] at hd
  rcases List.mem_append.1 hd with hd | hd
  ·exact h.inM d hd
  ·rw [List.mem_singleton] at hd
   subst hd
   exact ht
 ·rw [hk]
  rcases List.mem_append.1 hd with hd | hd
  ·exact List.mem_append_left _ (h.sub d hd)
  ·exact List.mem_append_right _ hd
 ·rw [hlen, List.length_append]
  have := h.le
  simp only [List.length_singleton]
  omega
 ·rw [hlen]
  rw [mget_put] at hw
  split at hw
  ·rename_i e
   cases hw
   rw [hw0]
   simp only [Option.getD_some]
   refine ⟨by rw [List.length_append, List.length_singleton]; omega, fun a ha => ?_, ?_⟩
   ·rcases List.mem_append.1 ha with ha | ha
    ·exact k2 a ha
    ·rw [List.mem_singleton] at ha
     subst ha
     exact hb
   ·rw [List.foldl_append, k3]
    exact e.symm
  ·obtain ⟨h1, h2, h3⟩ := h.way d w hw
   exact ⟨by omega, h2, h3⟩
 ·rw [hk]
  exact List.mem_append_left _ h.first
theorem growS_ok {L : Nat} {M : List DetCouple} {first c : DetCouple} {mp : Ways} {l : List DetCouple} (h : SInv nxt ok L M first mp (c :: l)) (hM : ∀ c ∈ M, ∀ b : Int, 0 ≤ b → b < (L : Int) → nxt (c, b) ∈ M) :
  ∀ b, b ≤ L → SInv nxt ok L M first (growS nxt c b mp (c :: l)).1 (growS nxt c b mp (c :: l)).2 ∧ (∃ r, (growS nxt c b mp (c :: l)).2 = c :: l ++ r) ∧ (growS nxt c b mp (c :: l)).2.length + mp.length = (c :: l).length + (growS nxt c b mp (c :: l)).1.length ∧ (∀ d ∈ mp.map (·.1), d ∈ (growS nxt c b mp (c :: l)).1.map (·.1)) ∧ (∀ a : Nat, a < b → nxt (c, (a : Int)) ∈ (growS nxt c b mp (c :: l)).1.map (·.1)) ∧ (∀ d ∈ (growS nxt c b mp (c :: l)).1.map (·.1), d ∈ mp.map (·.1) ∨ d ∈ (growS nxt c b mp (c :: l)).2.drop 1)
 | 0, _ => ⟨h, ⟨[], by simp [growS]⟩, by rw [growS], fun d hd => hd, fun a ha => by omega, fun d hd => .inl hd⟩
 | b + 1, hb => by
  obtain ⟨h1, ⟨r, h2⟩, h3, h4, h5, h6⟩ := growS_ok h hM b (by omega)
  unfold growS
  simp only
  generalize hs : growS nxt c b mp (c :: l) = s at *
  have hcV : c ∈ s.1.map (·.1) := h4 c (h.sub c List.mem_cons_self)
  by_cases hm : (mget (nxt (c, (b : Int))) s.1).isSome = true
  ·rw [if_pos hm]
   refine ⟨h1, ⟨r, h2⟩, h3, h4, fun a ha => ?_, h6⟩
   by_cases hab : a < b
   ·exact h5 a hab
   ·have : a = b := by omega
    subst this
    refine Classical.byContradiction fun hn => ?_
    rw [mget_none.2 hn] at hm
    cases hm
  ·rw [if_neg hm]
   have hn : mget (nxt (c, (b : Int))) s.1 = none := by
    cases e : mget (nxt (c, (b : Int))) s.1 with
    | none => rfl
    | some w => rw [e] at hm; exact absurd rfl hm
   have hk : (mput (nxt (c, (b : Int))) ((mget c s.1).getD [] ++ [(b : Int)]) s.1).map (·.1) = s.1.map (·.1) ++ [nxt (c, (b : Int))] := by rw [mput_keys, if_neg (mget_none.1 hn)]
   refine ⟨h1.step ⟨Int.natCast_nonneg _, by omega⟩ hcV (hM c (h1.inM c hcV) _ (Int.natCast_nonneg _) (by omega)) hn, ⟨r ++ [nxt (c, (b : Int))], by show s.2 ++ _ = _; rw [h2, List.append_assoc]⟩, ?_, fun d hd => ?_, fun a ha => ?_, fun d hd => ?_⟩
   ·show (s.2 ++ [nxt (c, (b : Int))]).length + mp.length = (c :: l).length + (mput (nxt (c, (b : Int))) ((mget c s.1).getD [] ++ [(b : Int)]) s.1).length
    rw [mput_len hn, List.length_append, List.length_singleton]
    omega
   ·show d ∈ (mput (nxt (c, (b : Int))) ((mget c s.1).getD [] ++ [(b : Int)]) s.1).map (·.1)
    rw [hk]
    exact List.mem_append_left _ (h4 d hd)
   ·show _ ∈ (mput (nxt (c, (b : Int))) ((mget c s.1).getD [] ++ [(b : Int)]) s.1).map (·.1)
    rw [hk]
    by_cases hab : a < b
    ·exact List.mem_append_left _ (h5 a hab)
    ·have : a = b := by omega
     subst this
     exact List.mem_append_right _ (List.mem_singleton.2 rfl)
   ·replace hd : d ∈ (mput (nxt (c, (b : Int))) ((mget c s.1).getD [] ++ [(b : Int)]) s.1).map (·.1) := hd
    rw [hk] at hd
    show d ∈ mp.map (·.1) ∨ d ∈ (s.2 ++ [nxt (c, (b : Int))]).drop 1
    have hlen : 1 ≤ s.2.length := by rw [h2, List.length_append, List.length_cons]; omega
    rw [List.drop_append_of_le_length hlen]
    rcases List.mem_append.1 hd with hd | hd
    ·exact (h6 d hd).imp id fun h => List.mem_append_left _ h
    ·exact .inr (List.mem_append_right _ hd)
theorem growS_drop {L : Nat} {M : List DetCouple} {first c : DetCouple} {mp : Ways} {l : List DetCouple} (h : SInv nxt ok L M first mp (c :: l)) (hM : ∀ c ∈ M, ∀ b : Int, 0 ≤ b → b < (L : Int) → nxt (c, b) ∈ M) : SInv nxt ok L M first (growS nxt c L mp (c :: l)).1 ((growS nxt c L mp (c :: l)).2.drop 1) := by
 obtain ⟨h1, _⟩ := growS_ok h hM L (Nat.le_refl _)
 exact ⟨h1.nd, h1.inM, fun d hd => h1.sub d (List.mem_of_mem_drop hd), by have := h1.le; rw [List.length_drop]; omega, h1.way, h1.first⟩
def SeekPre (first : DetCouple) (L : Int) (domnxt : DetCouple × Int → Prop) (nxt : DetCouple × Int → DetCouple) (domok : DetCouple → Prop) : Prop :=
 (0 ≤ L ∧ L ≤ 1000) ∧ ∃ M : List DetCouple, M.length ≤ 1000000 ∧ first ∈ M ∧ (∀ c ∈ M, domok c) ∧ ∀ c ∈ M, ∀ b : Int, 0 ≤ b → b < L → domnxt (c, b) ∧ nxt (c, b) ∈ M
theorem sinv_first {L : Nat} {M : List DetCouple} {first : DetCouple} (h : first ∈ M) : SInv nxt ok L M first [(first, [])] [first] := by
 refine ⟨by simp, fun c hc => ?_, fun c hc => ?_, Nat.le_refl _, fun c w hw => ?_, by simp⟩
 ·rw [List.map_cons, List.map_nil, List.mem_singleton] at hc
  subst hc
  exact h
 ·rw [List.mem_singleton] at hc
  subst hc
  simp
 ·simp only [mget] at hw
  split at hw
  ·rename_i e
   cases hw
   exact ⟨Nat.zero_le _, fun a ha => (by cases ha), e.symm⟩
  ·cases hw
theorem seeks_plain (first : DetCouple) (L : Int) (domnxt : DetCouple × Int → Prop) (domok : DetCouple → Prop) (hp : SeekPre first L domnxt nxt domok) : detSeeks_vc first L domnxt nxt domok ok (fun r => r = seekR first L nxt ok) := by
 obtain ⟨⟨l0, l1⟩, M, hM, h0, h1, h2⟩ := hp
 obtain ⟨K, rfl⟩ : ∃ K : Nat, L = K := ⟨L.toNat, by omega⟩
 have hcl : ∀ c ∈ M, ∀ b : Int, 0 ≤ b → b < (K : Int) → nxt (c, b) ∈ M := fun c hc b b0 b1 => (h2 c hc b b0 b1).2
 obtain ⟨R, hR⟩ : ∃ R, R = seekR first (K : Int) nxt ok := ⟨_, rfl⟩
 rw [← hR]
 unfold seekR at hR
 rw [Int.toNat_natCast] at hR
 unfold detSeeks_vc
 refine ⟨fun mp l => SInv nxt ok K M first mp l ∧ ∃ n, 2 * (M.length - mp.length) + l.length < n ∧ seekS nxt ok K n mp l = R, fun mp l => 2 * (M.length - mp.length) + l.length, ⟨sinv_first h0, 3000000, by show 2 * (M.length - 1) + 1 < 3000000; omega, hR.symm⟩, ?_⟩
 rintro mp l ⟨hI, n, hn, hS⟩
 have hcap := hI.cap
 refine ⟨fun hb => ?_, fun hb => ?_⟩
 ·obtain ⟨c, l', rfl⟩ : ∃ c l', l = c :: l' := by
   cases l with
   | nil => simp at hb
   | cons c l' => exact ⟨c, l', rfl⟩
  obtain ⟨n', rfl⟩ : ∃ n', n = n' + 1 := ⟨n - 1, by omega⟩
  have hcV := hI.sub c List.mem_cons_self
  have hcM := hI.inM c hcV
  have hix : ∀ r : List DetCouple, idx (c :: l' ++ r) 0 = some c := fun r => rfl
  rw [seekS] at hS
  refine ⟨c, rfl, h1 c hcM, fun hok => ⟨c, rfl, ?_⟩, fun hok => ?_⟩
  ·rw [if_pos hok] at hS
   exact hS
  rw [if_neg (by rw [hok]; decide)] at hS
  refine ⟨fun b mp2 l2 => ∃ k : Nat, b = k ∧ k ≤ K ∧ mp2 = (growS nxt c k mp (c :: l')).1 ∧ l2 = (growS nxt c k mp (c :: l')).2, fun b _ _ => K - b.toNat, ⟨0, rfl, Nat.zero_le _, rfl, rfl⟩, ?_⟩
  rintro _ _ _ ⟨b, rfl, hbK, rfl, rfl⟩
  obtain ⟨g1, ⟨r, g2⟩, g3, g4, g5, g6⟩ := growS_ok hI hcl b hbK
  have gcap := g1.cap
  have gle := g1.le
  refine ⟨fun hb => ?_, fun hb => ?_⟩
  ·have hlt : b < K := by have := of_decide_eq_true hb; omega
   have hw : wr ((b : Int) + 1) = ((b + 1 : Nat) : Int) := wr_nat (by omega)
   have hdn := (h2 c hcM (b : Int) (Int.natCast_nonneg _) (by omega)).1
   have hgrow : growS nxt c (b + 1) mp (c :: l') = if (mget (nxt (c, (b : Int))) (growS nxt c b mp (c :: l')).1).isSome = true then growS nxt c b mp (c :: l') else (mput (nxt (c, (b : Int))) ((mget c (growS nxt c b mp (c :: l')).1).getD [] ++ [(b : Int)]) (growS nxt c b mp (c :: l')).1, (growS nxt c b mp (c :: l')).2 ++ [nxt (c, (b : Int))]) := rfl
   refine ⟨fun mp2 l2 => mp2 = (growS nxt c (b + 1) mp (c :: l')).1 ∧ l2 = (growS nxt c (b + 1) mp (c :: l')).2, ⟨c, by rw [g2]; rfl, hdn, fun hm => ⟨c, by rw [g2]; rfl, ?_, ?_, ?_, ?_⟩, fun hm => ?_⟩, ?_⟩
   ·have : ((mget c (growS nxt c b mp (c :: l')).1).getD []).length ≤ M.length := by
     cases e : mget c (growS nxt c b mp (c :: l')).1 with
     | none => exact Nat.zero_le _
     | some w => exact Nat.le_trans (g1.way c w e).1 gcap
    omega
   ·have : ((mget c (growS nxt c b mp (c :: l')).1).getD []).length ≤ M.length := by
     cases e : mget c (growS nxt c b mp (c :: l')).1 with
     | none => exact Nat.zero_le _
     | some w => exact Nat.le_trans (g1.way c w e).1 gcap
    exact capOk_of (by simp only [List.length_singleton]; omega)
   ·exact capOk_of (by simp only [List.length_singleton]; omega)
   ·rw [Bool.not_eq_true'] at hm
    rw [hgrow, if_neg (by rw [hm]; decide)]
    exact ⟨rfl, rfl⟩
   ·rw [Bool.not_eq_false'] at hm
    rw [hgrow, if_pos hm]
    exact ⟨rfl, rfl⟩
   ·rintro _ _ ⟨rfl, rfl⟩
    refine ⟨⟨b + 1, hw, hlt, rfl, rfl⟩, ?_⟩
    rw [hw]
    show K - (b + 1) < K - b
    omega
  ·have hbK2 : b = K := by have := of_decide_eq_false hb; omega
   subst hbK2
   have hlen : 1 ≤ (growS nxt c b mp (c :: l')).2.length := by rw [g2, List.length_append, List.length_cons]; omega
   have hmu : 2 * (M.length - (growS nxt c b mp (c :: l')).1.length) + ((growS nxt c b mp (c :: l')).2.drop 1).length < 2 * (M.length - mp.length) + (c :: l').length := by
    have hl2 := congrArg List.length g2
    rw [List.length_append] at hl2
    rw [List.length_drop]
    simp only [List.length_cons] at g3 hl2 ⊢
    omega
   exact ⟨⟨by decide, by show (1 : Int) ≤ ((growS nxt c b mp (c :: l')).2.length : Int); omega⟩, ⟨growS_drop hI hcl, n', by show 2 * (M.length - (growS nxt c b mp (c :: l')).1.length) + ((growS nxt c b mp (c :: l')).2.drop 1).length < n'; omega, hS⟩, hmu⟩
 ·cases l with
  | cons c l' => simp at hb
  | nil =>
   obtain ⟨n', rfl⟩ : ∃ n', n = n' + 1 := ⟨n - 1, by omega⟩
   rw [seekS] at hS
   exact hS
end
end Go.Proofs.Ytobenjahlicnoaa
namespace Go.Proofs.Ytobenjahlicnoaa
open Go.RowKit Go.MapKept
set_option linter.unusedSimpArgs false
set_option linter.unusedVariables false
set_option maxRecDepth 100000
def accB (m : ApiDet) (w : List Int) : Bool := m.fMark.getD (aftI m m.fStart w).toNat 0 == 1
abbrev KMap := List (ByteArray × Int)
abbrev KLog := KMap × List ApiQuery
def qA (w : List Int) (b : Bool) : ApiQuery := ApiQuery.mk false w b (ApiDet.mk 0 0 [] []) false
def qG (g : ApiDet) (w : List Int) (r : Bool) : ApiQuery := ApiQuery.mk true w false g r
def LtrW (L : Int) (w : List Int) : Prop := ∀ a ∈ w, 0 ≤ a ∧ a < L
theorem LtrW.app {L : Int} {u v : List Int} (hu : LtrW L u) (hv : LtrW L v) : LtrW L (u ++ v) := fun a ha => (List.mem_append.1 ha).elim (hu a) (hv a)
def askS (f : List Int → Bool) (K : KMap) (w : List Int) : KMap := if f w = true then mput (keyR w) 1 (mput (keyR w) 2 K) else mput (keyR w) 2 K
def isKL (f : List Int → Bool) (s : KLog) (w : List Int) : KLog :=
 if ((mget (keyR w) s.1).getD 0 == 0) = true then (askS f s.1 w, s.2 ++ [qA w (f w)]) else s
def rowB (f : List Int → Bool) (Es : List (List Int)) (w : List Int) : List Int := Es.map fun e => if f (w ++ e) = true then 49 else 48
def rowKL (f : List Int → Bool) (Es : List (List Int)) (w : List Int) (s : KLog) : KLog := Es.foldl (fun s e => isKL f s (w ++ e)) s
def bitF (f : List Int → Bool) (w : List Int) : Int := if f w = true then 1 else 2
def KnOk (L : Int) (f : List Int → Bool) (K : KMap) : Prop := ∀ w, LtrW L w → mget (keyR w) K = none ∨ mget (keyR w) K = some (bitF f w)
theorem LtrW.in8 {L : Int} (hL : L ≤ 4) {w : List Int} (h : LtrW L w) : ∀ x ∈ w, 0 ≤ x ∧ x < 65536 := fun x hx => by have := h x hx; omega
theorem askS_get {f : List Int → Bool} {K : KMap} {w : List Int} : mget (keyR w) (askS f K w) = some (bitF f w) := by
 unfold askS bitF
 by_cases h : f w = true
 ·rw [if_pos h, if_pos h, mget_put, if_pos rfl]
 ·rw [if_neg h, if_neg h, mget_put, if_pos rfl]
theorem askS_other {f : List Int → Bool} {K : KMap} {w : List Int} {k : ByteArray} (h : k ≠ keyR w) : mget k (askS f K w) = mget k K := by
 unfold askS
 by_cases h2 : f w = true
 ·rw [if_pos h2, mget_put, if_neg h, mget_put, if_neg h]
 ·rw [if_neg h2, mget_put, if_neg h]
theorem bitF_one {f : List Int → Bool} {w : List Int} : (bitF f w == 1) = f w := by
 unfold bitF
 cases f w <;> decide
theorem isKL_ok {L : Int} (hL : L ≤ 4) {f : List Int → Bool} {s : KLog} {w : List Int} (h : KnOk L f s.1) (hw : LtrW L w) : KnOk L f (isKL f s w).1 ∧ mget (keyR w) (isKL f s w).1 = some (bitF f w) := by
 unfold isKL
 by_cases hc : ((mget (keyR w) s.1).getD 0 == 0) = true
 ·rw [if_pos hc]
  refine ⟨fun v hv => ?_, askS_get⟩
  by_cases e : keyR v = keyR w
  ·rw [keyR_inj (hv.in8 hL) (hw.in8 hL) e]
   exact .inr askS_get
  ·show mget (keyR v) (askS f s.1 w) = none ∨ mget (keyR v) (askS f s.1 w) = some _
   rw [askS_other e]
   exact h v hv
 ·rw [if_neg hc]
  refine ⟨h, ?_⟩
  rcases h w hw with e | e
  ·rw [e] at hc
   exact absurd rfl hc
  ·exact e
theorem isKL_log {f : List Int → Bool} {s : KLog} {w : List Int} : ∃ R, (isKL f s w).2 = s.2 ++ R ∧ R.length ≤ 1 := by
 unfold isKL
 split
 ·exact ⟨_, rfl, Nat.le_refl _⟩
 ·exact ⟨[], (List.append_nil _).symm, Nat.zero_le _⟩
theorem fold_isKL_log {f : List Int → Bool} {w : List Int} : ∀ (Es : List (List Int)) (s : KLog), ∃ R, (rowKL f Es w s).2 = s.2 ++ R ∧ R.length ≤ Es.length
 | [], s => ⟨[], (List.append_nil _).symm, Nat.le_refl _⟩
 | e :: Es, s => by
  obtain ⟨R, h1, h2⟩ := isKL_log (f := f) (s := s) (w := w ++ e)
  obtain ⟨R', h3, h4⟩ := fold_isKL_log Es (isKL f s (w ++ e))
  refine ⟨R ++ R', ?_, by rw [List.length_append, List.length_cons]; omega⟩
  show (rowKL f Es w (isKL f s (w ++ e))).2 = _
  rw [h3, h1, List.append_assoc]
theorem rowKL_ok {L : Int} (hL : L ≤ 4) {f : List Int → Bool} {w : List Int} (hw : LtrW L w) : ∀ (Es : List (List Int)) (s : KLog), (∀ e ∈ Es, LtrW L e) → KnOk L f s.1 → KnOk L f (rowKL f Es w s).1
 | [], _, _, h => h
 | e :: Es, s, hE, h => rowKL_ok hL hw Es _ (fun x hx => hE x (List.mem_cons_of_mem _ hx)) (isKL_ok hL h (hw.app (hE e List.mem_cons_self))).1
def Diff (p q : ApiQuery) : Prop := p.fGuessed = q.fGuessed ∧ ((p.fGuessed = false ∧ p.fWord = q.fWord ∧ p.fYes ≠ q.fYes) ∨ (p.fGuessed = true ∧ p.fGuess = q.fGuess ∧ (p.fRight ≠ q.fRight ∨ p.fWord ≠ q.fWord)))
def Split (a b : List ApiQuery) : Prop := ∃ P p q R T, a = P ++ p :: R ∧ b = P ++ q :: T ∧ Diff p q
theorem Split.app {a b a' b' : List ApiQuery} (h : Split a b) (ha : ∃ R, a' = a ++ R) (hb : ∃ R, b' = b ++ R) : Split a' b' := by
 obtain ⟨P, p, q, R, T, rfl, rfl, hd⟩ := h
 obtain ⟨R', rfl⟩ := ha
 obtain ⟨T', rfl⟩ := hb
 exact ⟨P, p, q, R ++ R', T ++ T', by simp, by simp, hd⟩
section
variable {L : Int} {f g : List Int → Bool}
theorem isKL_two (hL : L ≤ 4) {s : KLog} {w : List Int} (hf : KnOk L f s.1) (hg : KnOk L g s.1) (hw : LtrW L w) : (f w = g w ∧ isKL f s w = isKL g s w) ∨ Split (isKL f s w).2 (isKL g s w).2 := by
 by_cases e : f w = g w
 ·left
  refine ⟨e, ?_⟩
  unfold isKL askS
  rw [e]
 ·right
  have h0 : ((mget (keyR w) s.1).getD 0 == 0) = true := by
   rcases hf w hw with h1 | h1
   ·rw [h1]
    rfl
   ·rcases hg w hw with h2 | h2
    ·rw [h2]
     rfl
    ·rw [h1] at h2
     have := Option.some.inj h2
     exact absurd (by rw [← bitF_one (f := f) (w := w), this, bitF_one]) e
  unfold isKL
  rw [if_pos h0, if_pos h0]
  exact ⟨s.2, _, _, [], [], rfl, rfl, rfl, .inl ⟨rfl, rfl, e⟩⟩
theorem rowKL_two (hL : L ≤ 4) {w : List Int} (hw : LtrW L w) : ∀ (Es : List (List Int)) (s : KLog), (∀ e ∈ Es, LtrW L e) → KnOk L f s.1 → KnOk L g s.1 → (rowB f Es w = rowB g Es w ∧ rowKL f Es w s = rowKL g Es w s) ∨ Split (rowKL f Es w s).2 (rowKL g Es w s).2
 | [], _, _, _, _ => .inl ⟨rfl, rfl⟩
 | e :: Es, s, hE, hf, hg => by
  have hwe := hw.app (hE e List.mem_cons_self)
  have hE' := fun x hx => hE x (List.mem_cons_of_mem e hx)
  rcases isKL_two hL hf hg hwe with ⟨h1, h2⟩ | h
  ·have k1 := (isKL_ok hL hf hwe).1
   have k2 := (isKL_ok hL hg hwe).1
   have hu : ∀ f : List Int → Bool, rowKL f (e :: Es) w s = rowKL f Es w (isKL f s (w ++ e)) := fun _ => rfl
   rw [hu f, hu g, h2]
   rw [h2] at k1
   rcases rowKL_two hL hw Es _ hE' k1 k2 with ⟨h3, h4⟩ | h3
   ·refine .inl ⟨?_, h4⟩
    have hr : ∀ f : List Int → Bool, rowB f (e :: Es) w = (if f (w ++ e) = true then 49 else 48) :: rowB f Es w := fun _ => rfl
    rw [hr f, hr g, h3, h1]
   ·exact .inr h3
  ·refine .inr (h.app ?_ ?_)
   ·obtain ⟨R, hR, _⟩ := fold_isKL_log (f := f) (w := w) Es (isKL f s (w ++ e))
    exact ⟨R, hR⟩
   ·obtain ⟨R, hR, _⟩ := fold_isKL_log (f := g) (w := w) Es (isKL g s (w ++ e))
    exact ⟨R, hR⟩
end
def numS (f : List Int → Bool) (Es Ws : List (List Int)) (s : KLog) : Nat → KLog × KMap
 | 0 => (s, [])
 | k + 1 => (rowKL f Es (Ws.getD k []) (numS f Es Ws s k).1, mput (bytesOf (rowB f Es (Ws.getD k []))) (k : Int) (numS f Es Ws s k).2)
structure GSt where
 ws : List (List Int)
 kl : KLog
 nm : KMap
 nx : List Int
 next : List (List Int)
def letF (f : List Int → Bool) (Es : List (List Int)) (w : List Int) (a : Nat) (t : GSt) : GSt :=
 if (!(mget (bytesOf (rowB f Es w)) t.nm).isSome) = true then ⟨t.ws ++ [w], rowKL f Es w t.kl, mput (bytesOf (rowB f Es w)) (t.ws.length : Int) t.nm, t.nx.set a (t.ws.length : Int), t.next⟩
 else ⟨t.ws, rowKL f Es w t.kl, t.nm, t.nx.set a ((mget (bytesOf (rowB f Es w)) t.nm).getD 0), t.next⟩
def letS (f : List Int → Bool) (Es : List (List Int)) (i : Nat) (t : GSt) : Nat → GSt
 | 0 => t
 | a + 1 => letF f Es ((letS f Es i t a).ws.getD i [] ++ [(a : Int)]) a (letS f Es i t a)
def clr (L : Nat) (o : GSt) : GSt := ⟨o.ws, o.kl, o.nm, List.replicate L 0, o.next⟩
def nxtF (t : GSt) : GSt := ⟨t.ws, t.kl, t.nm, t.nx, t.next ++ [t.nx]⟩
def outF (f : List Int → Bool) (Es : List (List Int)) (L : Nat) (i : Nat) (o : GSt) : GSt := nxtF (letS f Es i (clr L o) L)
def outS (f : List Int → Bool) (Es : List (List Int)) (L : Nat) (o : GSt) : Nat → GSt
 | 0 => o
 | k + 1 => if k < (outS f Es L o k).ws.length then outF f Es L k (outS f Es L o k) else outS f Es L o k
def markS (f : List Int → Bool) (Ws : List (List Int)) (s : KLog) : Nat → KLog × List Int
 | 0 => (s, [])
 | k + 1 => (isKL f (markS f Ws s k).1 (Ws.getD k []), (markS f Ws s k).2 ++ [if f (Ws.getD k []) = true then 1 else 0])
def out0 (f : List Int → Bool) (Es Ws : List (List Int)) (s : KLog) : GSt := ⟨Ws, (numS f Es Ws s Ws.length).1, (numS f Es Ws s Ws.length).2, [], []⟩
def outK (f : List Int → Bool) (L : Nat) (Es Ws : List (List Int)) (s : KLog) (K : Nat) : GSt := outS f Es L (out0 f Es Ws s) K
def markT (f : List Int → Bool) (L : Nat) (o : GSt) : ApiDet × List (List Int) × KLog := (ApiDet.mk (L : Int) 0 o.next (markS f o.ws o.kl o.ws.length).2, o.ws, (markS f o.ws o.kl o.ws.length).1)
def guessK (f : List Int → Bool) (L : Nat) (Ws Es : List (List Int)) (s : KLog) (K : Nat) : ApiDet × List (List Int) × KLog := markT f L (outK f L Es Ws s K)
noncomputable def fuelN : Nat := Classical.choose (⟨40, Nat.le_refl 40⟩ : ∃ n : Nat, 40 ≤ n)
theorem fuelN_ge : 40 ≤ fuelN := Classical.choose_spec (⟨40, Nat.le_refl 40⟩ : ∃ n : Nat, 40 ≤ n)
noncomputable def guessS (f : List Int → Bool) (L : Nat) (Ws Es : List (List Int)) (s : KLog) : ApiDet × List (List Int) × KLog := guessK f L Ws Es s fuelN
def addS (Es : List (List Int)) (w : List Int) : Nat → List (List Int)
 | 0 => Es
 | k + 1 => if ((addS Es w k).any fun e => e == w.drop k) = true then addS Es w k else addS Es w k ++ [w.drop k]
def mainF (h : ApiDet → List Int × Bool) (go : List (List Int) → List (List Int) → KLog → List ApiQuery) (G : ApiDet × List (List Int) × KLog) (Es : List (List Int)) : List ApiQuery :=
 if (h G.1).2 = true then G.2.2.2 ++ [qG G.1 (h G.1).1 true]
 else go G.2.1 (addS Es (h G.1).1 (h G.1).1.length) (G.2.2.1, G.2.2.2 ++ [qG G.1 (h G.1).1 false])
noncomputable def mainS (f : List Int → Bool) (h : ApiDet → List Int × Bool) (L : Nat) : Nat → List (List Int) → List (List Int) → KLog → List ApiQuery
 | 0, _, _, s => s.2
 | n + 1, Ws, Es, s => mainF h (mainS f h L n) (guessS f L Ws Es s) Es
def RB (r : List Int) : Prop := ∀ x ∈ r, x = 48 ∨ x = 49
theorem rowB_rb {f : List Int → Bool} {Es : List (List Int)} {w : List Int} : RB (rowB f Es w) := fun x hx => by
 obtain ⟨e, _, rfl⟩ := List.mem_map.1 hx
 split
 ·exact .inr rfl
 ·exact .inl rfl
theorem RB.inj {r t : List Int} (hr : RB r) (ht : RB t) (h : bytesOf r = bytesOf t) : r = t :=
 bytesOf_inj (fun x hx => by have := hr x hx; omega) (fun x hx => by have := ht x hx; omega) h
theorem getD_app_left {α : Type} {l m : List α} {k : Nat} {z : α} (h : k < l.length) : (l ++ m).getD k z = l.getD k z := by
 rw [List.getD_eq_getElem?_getD, List.getD_eq_getElem?_getD, List.getElem?_append_left h]
theorem getD_app_at {α : Type} {l : List α} {x z : α} : (l ++ [x]).getD l.length z = x := by simp
def Dist (f : List Int → Bool) (Es Ws : List (List Int)) : Prop := ∀ i j, i < Ws.length → j < Ws.length → rowB f Es (Ws.getD i []) = rowB f Es (Ws.getD j []) → i = j
def NumOk (f : List Int → Bool) (Es Ws : List (List Int)) (N : KMap) (k : Nat) : Prop := ∀ r, RB r → ∀ n : Int, mget (bytesOf r) N = some n ↔ ∃ j : Nat, n = j ∧ j < k ∧ rowB f Es (Ws.getD j []) = r
theorem NumOk.push {f : List Int → Bool} {Es Ws Ws' : List (List Int)} {N : KMap} {k : Nat} (h : NumOk f Es Ws N k) (hn : ∀ j, j < k → Ws'.getD j [] = Ws.getD j []) (hd : ∀ j, j < k → rowB f Es (Ws.getD j []) ≠ rowB f Es (Ws'.getD k [])) : NumOk f Es Ws' (mput (bytesOf (rowB f Es (Ws'.getD k []))) (k : Int) N) (k + 1) := by
 intro r hr n
 rw [mget_put]
 by_cases e : bytesOf r = bytesOf (rowB f Es (Ws'.getD k []))
 ·have e' := hr.inj rowB_rb e
  rw [if_pos e]
  constructor
  ·intro hh
   exact ⟨k, (Option.some.inj hh).symm, Nat.lt_succ_self _, e'.symm⟩
  ·rintro ⟨j, rfl, hj, h2⟩
   rcases Nat.lt_succ_iff_lt_or_eq.1 hj with hj | rfl
   ·rw [hn j hj, e'] at h2
    exact absurd h2 (hd j hj)
   ·rfl
 ·rw [if_neg e, h r hr n]
  constructor
  ·rintro ⟨j, rfl, hj, h2⟩
   exact ⟨j, rfl, Nat.lt_succ_of_lt hj, by rw [hn j hj]; exact h2⟩
  ·rintro ⟨j, rfl, hj, h2⟩
   rcases Nat.lt_succ_iff_lt_or_eq.1 hj with hj | rfl
   ·exact ⟨j, rfl, hj, by rw [← hn j hj]; exact h2⟩
   ·exact absurd (by rw [h2]) e
theorem numS_ok {f : List Int → Bool} {Es Ws : List (List Int)} {s : KLog} (hd : Dist f Es Ws) : ∀ k, k ≤ Ws.length → NumOk f Es Ws (numS f Es Ws s k).2 k
 | 0, _ => fun r _ n => ⟨fun h => (by cases h), fun ⟨_, _, h, _⟩ => absurd h (Nat.not_lt_zero _)⟩
 | k + 1, hk => (numS_ok hd k (by omega)).push (fun _ _ => rfl) fun j hj h => by have := hd j k (by omega) (by omega) h; omega
structure WsOk (L : Int) (Ws : List (List Int)) : Prop where
 one : Ws.getD 0 [] = [] ∧ 0 < Ws.length
 wl : ∀ w ∈ Ws, LtrW L w
 len : ∀ j, (Ws.getD j []).length ≤ j
theorem WsOk.at {L : Int} {Ws : List (List Int)} (h : WsOk L Ws) (j : Nat) : LtrW L (Ws.getD j []) := by
 by_cases hj : j < Ws.length
 ·exact h.wl _ (getD_mem hj)
 ·rw [List.getD_eq_getElem?_getD, List.getElem?_eq_none (by omega)]
  exact fun a ha => by cases ha
theorem WsOk.push {L : Int} {Ws : List (List Int)} (h : WsOk L Ws) {i : Nat} (hi : i < Ws.length) {a : Nat} (ha : (a : Int) < L) : WsOk L (Ws ++ [Ws.getD i [] ++ [(a : Int)]]) := by
 refine ⟨⟨by rw [getD_app_left h.one.2]; exact h.one.1, by rw [List.length_append]; have := h.one.2; omega⟩, fun w hw => ?_, fun j => ?_⟩
 ·rcases List.mem_append.1 hw with hw | hw
  ·exact h.wl w hw
  ·rw [List.mem_singleton.1 hw]
   exact (h.at i).app fun x hx => by rw [List.mem_singleton.1 hx]; omega
 ·rcases Nat.lt_trichotomy j Ws.length with hj | rfl | hj
  ·rw [getD_app_left hj]
   exact h.len j
  ·rw [getD_app_at, List.length_append]
   have := h.len i
   simp only [List.length_singleton]
   omega
  ·rw [List.getD_eq_getElem?_getD, List.getElem?_eq_none (by simp only [List.length_append, List.length_singleton]; omega)]
   exact Nat.zero_le _
structure BlindF {σ τ : Type} (Vs : (List Int → Bool) → σ → Prop) (ls : σ → List ApiQuery) (Vt : (List Int → Bool) → τ → Prop) (lt : τ → List ApiQuery) (F : (List Int → Bool) → σ → τ) : Prop where
 keep : ∀ f s, Vs f s → Vt f (F f s)
 ext : ∀ f s, ∃ R, lt (F f s) = ls s ++ R
 two : ∀ f g s, Vs f s → Vs g s → F f s = F g s ∨ Split (lt (F f s)) (lt (F g s))
section
variable {σ τ υ : Type} {Vs : (List Int → Bool) → σ → Prop} {ls : σ → List ApiQuery} {Vt : (List Int → Bool) → τ → Prop} {lt : τ → List ApiQuery} {Vu : (List Int → Bool) → υ → Prop} {lu : υ → List ApiQuery}
theorem BlindF.comp {F : (List Int → Bool) → σ → τ} {G : (List Int → Bool) → τ → υ} (h : BlindF Vs ls Vt lt F) (k : BlindF Vt lt Vu lu G) : BlindF Vs ls Vu lu (fun f s => G f (F f s)) := by
 refine ⟨fun f s hs => k.keep f _ (h.keep f s hs), fun f s => ?_, fun f g s hf hg => ?_⟩
 ·obtain ⟨R, hR⟩ := h.ext f s
  obtain ⟨T, hT⟩ := k.ext f (F f s)
  exact ⟨R ++ T, by rw [hT, hR, List.append_assoc]⟩
 ·rcases h.two f g s hf hg with e | e
  ·have k1 := h.keep f s hf
   have k2 := h.keep g s hg
   rw [e] at k1
   show G f (F f s) = G g (F g s) ∨ Split (lu (G f (F f s))) (lu (G g (F g s)))
   rw [e]
   exact k.two f g _ k1 k2
  ·exact .inr (e.app (k.ext f _) (k.ext g _))
theorem BlindF.pure {p : σ → τ} (hk : ∀ f s, Vs f s → Vt f (p s)) (hl : ∀ s, lt (p s) = ls s) : BlindF Vs ls Vt lt (fun _ s => p s) :=
 ⟨hk, fun _ s => ⟨[], by rw [hl, List.append_nil]⟩, fun _ _ _ _ _ => .inl rfl⟩
end
section
variable {L : Nat} (hL : (L : Int) ≤ 4) {Es : List (List Int)} (hE : ∀ e ∈ Es, LtrW (L : Int) e)
include hL hE
def KV (L : Int) (f : List Int → Bool) (s : KLog) : Prop := KnOk L f s.1
def NV (L : Int) (f : List Int → Bool) (s : KLog × KMap) : Prop := KnOk L f s.1.1
def MV (L : Int) (f : List Int → Bool) (s : KLog × List Int) : Prop := KnOk L f s.1.1
def UV (L : Int) (f : List Int → Bool) (t : ApiDet × List (List Int) × KLog) : Prop := KnOk L f t.2.2.1 ∧ ∀ w ∈ t.2.1, LtrW L w
def GV (L : Int) (f : List Int → Bool) (t : GSt) : Prop := KnOk L f t.kl.1 ∧ ∀ w ∈ t.ws, LtrW L w
theorem blind_num {Ws : List (List Int)} (hW : ∀ w ∈ Ws, LtrW (L : Int) w) : ∀ k, k ≤ Ws.length → BlindF (KV L) (·.2) (NV L) (·.1.2) (fun f s => numS f Es Ws s k)
 | 0, _ => .pure (fun _ _ h => h) (fun _ => rfl)
 | k + 1, hk => by
  have hw : LtrW (L : Int) (Ws.getD k []) := hW _ (getD_mem (by omega))
  refine (blind_num hW k (by omega)).comp (Vu := NV L) (lu := (·.1.2)) (G := fun f t => (rowKL f Es (Ws.getD k []) t.1, mput (bytesOf (rowB f Es (Ws.getD k []))) (k : Int) t.2)) ⟨fun f t h => by exact rowKL_ok hL hw Es t.1 hE h, fun f t => ?_, fun f g t hf hg => ?_⟩
  ·obtain ⟨R, hR, _⟩ := fold_isKL_log (f := f) (w := Ws.getD k []) Es t.1
   exact ⟨R, hR⟩
  ·rcases rowKL_two hL hw Es t.1 hE hf hg with ⟨h1, h2⟩ | h
   ·exact .inl (by rw [h1, h2])
   ·exact .inr h
omit hL hE in
theorem gv_word {f : List Int → Bool} {t : GSt} (h : GV L f t) (i : Nat) {a : Nat} (ha : a < L) : LtrW (L : Int) (t.ws.getD i [] ++ [(a : Int)]) := by
 refine LtrW.app (fun x hx => ?_) fun x hx => by rw [List.mem_singleton.1 hx]; omega
 by_cases hj : i < t.ws.length
 ·exact h.2 _ (getD_mem hj) x hx
 ·rw [List.getD_eq_getElem?_getD, List.getElem?_eq_none (by omega)] at hx
  cases hx
omit hL hE in
theorem letF_kl {f : List Int → Bool} {w : List Int} {a : Nat} {t : GSt} : (letF f Es w a t).kl = rowKL f Es w t.kl := by unfold letF; split <;> rfl
omit hL hE in
theorem letF_ws {f : List Int → Bool} {w : List Int} {a : Nat} {t : GSt} : (letF f Es w a t).ws = t.ws ∨ (letF f Es w a t).ws = t.ws ++ [w] := by
 unfold letF
 split
 ·exact .inr rfl
 ·exact .inl rfl
theorem blind_let {i : Nat} : ∀ k, k ≤ L → BlindF (GV L) (·.kl.2) (GV L) (·.kl.2) (fun f t => letS f Es i t k)
 | 0, _ => .pure (fun _ _ h => h) (fun _ => rfl)
 | k + 1, hk => by
  refine (blind_let k (by omega)).comp (G := fun f t => letF f Es (t.ws.getD i [] ++ [(k : Int)]) k t) ⟨fun f t h => ?_, fun f t => ?_, fun f g t hf hg => ?_⟩
  ·have hw := gv_word h i (a := k) (by omega)
   refine ⟨by rw [letF_kl]; exact rowKL_ok hL hw Es _ hE h.1, fun v hv => ?_⟩
   rcases letF_ws (f := f) (Es := Es) (w := t.ws.getD i [] ++ [(k : Int)]) (a := k) (t := t) with e | e
   ·rw [e] at hv
    exact h.2 v hv
   ·rw [e] at hv
    rcases List.mem_append.1 hv with hv | hv
    ·exact h.2 v hv
    ·rw [List.mem_singleton.1 hv]
     exact hw
  ·obtain ⟨R, hR, _⟩ := fold_isKL_log (f := f) (w := t.ws.getD i [] ++ [(k : Int)]) Es t.kl
   exact ⟨R, by rw [letF_kl]; exact hR⟩
  ·rcases rowKL_two hL (gv_word hf i (a := k) (by omega)) Es t.kl hE hf.1 hg.1 with ⟨h1, h2⟩ | h
   ·left
    show letF f Es _ k t = letF g Es _ k t
    unfold letF
    rw [h1, h2]
   ·right
    rw [letF_kl, letF_kl]
    exact h
theorem blind_out : ∀ k, BlindF (GV L) (·.kl.2) (GV L) (·.kl.2) (fun f t => outS f Es L t k)
 | 0 => .pure (fun _ _ h => h) (fun _ => rfl)
 | k + 1 => by
  refine (blind_out k).comp (G := fun f t => if k < t.ws.length then outF f Es L k t else t) ?_
  have h1 : BlindF (GV L) (·.kl.2) (GV L) (·.kl.2) (fun (f : List Int → Bool) (t : GSt) => outF f Es L k t) :=
   ((BlindF.pure (p := clr L) (fun _ _ h => h) (fun _ => rfl)).comp (blind_let hL hE (i := k) L (Nat.le_refl _))).comp (BlindF.pure (p := nxtF) (fun _ _ h => h) (fun _ => rfl))
  refine ⟨fun f t h => ?_, fun f t => ?_, fun f g t hf hg => ?_⟩
  ·split
   ·exact h1.keep f t h
   ·exact h
  ·split
   ·exact h1.ext f t
   ·exact ⟨[], (List.append_nil _).symm⟩
  ·split
   ·exact h1.two f g t hf hg
   ·exact .inl rfl
omit hE in
theorem blind_mark {Ws : List (List Int)} (hW : ∀ w ∈ Ws, LtrW (L : Int) w) : ∀ k, k ≤ Ws.length → BlindF (KV L) (·.2) (MV L) (·.1.2) (fun f s => markS f Ws s k)
 | 0, _ => .pure (fun _ _ h => h) (fun _ => rfl)
 | k + 1, hk => by
  have hw : LtrW (L : Int) (Ws.getD k []) := hW _ (getD_mem (by omega))
  refine (blind_mark hW k (by omega)).comp (Vu := MV L) (lu := (·.1.2)) (G := fun f t => (isKL f t.1 (Ws.getD k []), t.2 ++ [if f (Ws.getD k []) = true then 1 else 0])) ⟨fun f t h => by exact (isKL_ok hL (s := t.1) h hw).1, fun f t => ?_, fun f g t hf hg => ?_⟩
  ·obtain ⟨R, hR, _⟩ := isKL_log (f := f) (w := Ws.getD k []) (s := t.1)
   exact ⟨R, hR⟩
  ·rcases isKL_two hL hf hg hw with ⟨h1, h2⟩ | h
   ·exact .inl (by rw [h1, h2])
   ·exact .inr h
theorem blind_outK {Ws : List (List Int)} (hW : ∀ w ∈ Ws, LtrW (L : Int) w) (K : Nat) : BlindF (KV L) (·.2) (GV L) (·.kl.2) (fun f s => outK f L Es Ws s K) :=
 ((blind_num hL hE hW Ws.length (Nat.le_refl _)).comp (BlindF.pure (Vt := GV L) (lt := (·.kl.2)) (p := fun (t : KLog × KMap) => (⟨Ws, t.1, t.2, [], []⟩ : GSt)) (fun f t h => ⟨h, hW⟩) (fun _ => rfl))).comp (blind_out hL hE K)
omit hE hL in
theorem markS_log {f : List Int → Bool} {Ws : List (List Int)} {s : KLog} : ∀ k, ∃ R, (markS f Ws s k).1.2 = s.2 ++ R
 | 0 => ⟨[], (List.append_nil _).symm⟩
 | k + 1 => by
  obtain ⟨R, hR⟩ := markS_log (f := f) (Ws := Ws) (s := s) k
  obtain ⟨T, hT, _⟩ := isKL_log (f := f) (w := Ws.getD k []) (s := (markS f Ws s k).1)
  exact ⟨R ++ T, by show (isKL f _ _).2 = _; rw [hT, hR, List.append_assoc]⟩
omit hE in
theorem blind_markT : BlindF (GV L) (·.kl.2) (UV L) (·.2.2.2) (fun f t => markT f L t) := by
 refine ⟨fun f t h => ?_, fun f t => markS_log t.ws.length, fun f g t hf hg => ?_⟩
 ·exact ⟨(blind_mark hL h.2 t.ws.length (Nat.le_refl _)).keep f t.kl h.1, h.2⟩
 ·rcases (blind_mark hL hf.2 t.ws.length (Nat.le_refl _)).two f g t.kl hf.1 hg.1 with e | e
  ·left
   have e : markS f t.ws t.kl t.ws.length = markS g t.ws t.kl t.ws.length := e
   show markT f L t = markT g L t
   unfold markT
   rw [e]
  ·exact .inr e
theorem blind_guessK {Ws : List (List Int)} (hW : ∀ w ∈ Ws, LtrW (L : Int) w) (K : Nat) : BlindF (KV L) (·.2) (UV L) (·.2.2.2) (fun f s => guessK f L Ws Es s K) :=
 (blind_outK hL hE hW K).comp (blind_markT hL)
theorem blind_guess {Ws : List (List Int)} (hW : ∀ w ∈ Ws, LtrW (L : Int) w) : BlindF (KV L) (·.2) (UV L) (·.2.2.2) (fun f s => guessS f L Ws Es s) := blind_guessK hL hE hW fuelN
end
theorem addS_ltr {L : Int} {Es : List (List Int)} {w : List Int} (hE : ∀ e ∈ Es, LtrW L e) (hw : LtrW L w) : ∀ k, ∀ e ∈ addS Es w k, LtrW L e
 | 0 => hE
 | k + 1 => fun e he => by
  rw [addS] at he
  split at he
  ·exact addS_ltr hE hw k e he
  ·rcases List.mem_append.1 he with he | he
   ·exact addS_ltr hE hw k e he
   ·rw [List.mem_singleton.1 he]
    exact fun a ha => hw a (List.mem_of_mem_drop ha)
theorem numS_log {f : List Int → Bool} {Es Ws : List (List Int)} {s : KLog} : ∀ k, ∃ R, (numS f Es Ws s k).1.2 = s.2 ++ R
 | 0 => ⟨[], (List.append_nil _).symm⟩
 | k + 1 => by
  obtain ⟨R, hR⟩ := numS_log (f := f) (Es := Es) (Ws := Ws) (s := s) k
  obtain ⟨T, hT, _⟩ := fold_isKL_log (f := f) (w := Ws.getD k []) Es (numS f Es Ws s k).1
  exact ⟨R ++ T, by show (rowKL f Es _ _).2 = _; rw [hT, hR, List.append_assoc]⟩
theorem letS_log {f : List Int → Bool} {Es : List (List Int)} {i : Nat} {t : GSt} : ∀ k, ∃ R, (letS f Es i t k).kl.2 = t.kl.2 ++ R
 | 0 => ⟨[], (List.append_nil _).symm⟩
 | k + 1 => by
  obtain ⟨R, hR⟩ := letS_log (f := f) (Es := Es) (i := i) (t := t) k
  obtain ⟨T, hT, _⟩ := fold_isKL_log (f := f) (w := (letS f Es i t k).ws.getD i [] ++ [(k : Int)]) Es (letS f Es i t k).kl
  exact ⟨R ++ T, by show (letF f Es _ _ _).kl.2 = _; rw [letF_kl, hT, hR, List.append_assoc]⟩
theorem outS_log {f : List Int → Bool} {Es : List (List Int)} {L : Nat} {t : GSt} : ∀ k, ∃ R, (outS f Es L t k).kl.2 = t.kl.2 ++ R
 | 0 => ⟨[], (List.append_nil _).symm⟩
 | k + 1 => by
  obtain ⟨R, hR⟩ := outS_log (f := f) (Es := Es) (L := L) (t := t) k
  rw [outS]
  split
  ·obtain ⟨T, hT⟩ := letS_log (f := f) (Es := Es) (i := k) (t := clr L (outS f Es L t k)) L
   refine ⟨R ++ T, ?_⟩
   show (letS f Es k (clr L (outS f Es L t k)) L).kl.2 = _
   rw [hT]
   show (outS f Es L t k).kl.2 ++ T = _
   rw [hR, List.append_assoc]
  ·exact ⟨R, hR⟩
theorem outK_log {f : List Int → Bool} {L : Nat} {Es Ws : List (List Int)} {s : KLog} (K : Nat) : ∃ R, (outK f L Es Ws s K).kl.2 = s.2 ++ R := by
 obtain ⟨A, hA⟩ := numS_log (f := f) (Es := Es) (Ws := Ws) (s := s) Ws.length
 obtain ⟨B, hB⟩ := outS_log (f := f) (Es := Es) (L := L) (t := out0 f Es Ws s) K
 refine ⟨A ++ B, ?_⟩
 unfold outK
 rw [hB, show (out0 f Es Ws s).kl = (numS f Es Ws s Ws.length).1 from rfl, hA, List.append_assoc]
theorem guessK_log {f : List Int → Bool} {L : Nat} {Es Ws : List (List Int)} {s : KLog} (K : Nat) : ∃ R, (guessK f L Ws Es s K).2.2.2 = s.2 ++ R := by
 obtain ⟨A, hA⟩ := outK_log (f := f) (L := L) (Es := Es) (Ws := Ws) (s := s) K
 obtain ⟨B, hB⟩ := markS_log (f := f) (Ws := (outK f L Es Ws s K).ws) (s := (outK f L Es Ws s K).kl) (outK f L Es Ws s K).ws.length
 refine ⟨A ++ B, hB.trans ?_⟩
 rw [hA, List.append_assoc]
theorem guessS_log {f : List Int → Bool} {L : Nat} {Es Ws : List (List Int)} {s : KLog} : ∃ R, (guessS f L Ws Es s).2.2.2 = s.2 ++ R := guessK_log fuelN
theorem mainF_ext {h : ApiDet → List Int × Bool} {go : List (List Int) → List (List Int) → KLog → List ApiQuery} (hg : ∀ Ws Es s, ∃ R, go Ws Es s = s.2 ++ R) {G : ApiDet × List (List Int) × KLog} {Es : List (List Int)} : ∃ R, mainF h go G Es = G.2.2.2 ++ qG G.1 (h G.1).1 (h G.1).2 :: R := by
 unfold mainF
 by_cases e : (h G.1).2 = true
 ·rw [if_pos e, e]
  exact ⟨[], rfl⟩
 ·rw [if_neg e]
  rw [Bool.not_eq_true] at e
  obtain ⟨R, hR⟩ := hg G.2.1 (addS Es (h G.1).1 (h G.1).1.length) (G.2.2.1, G.2.2.2 ++ [qG G.1 (h G.1).1 false])
  rw [hR, e]
  exact ⟨R, by simp⟩
theorem mainS_ext {f : List Int → Bool} {h : ApiDet → List Int × Bool} {L : Nat} : ∀ (n : Nat) (Ws Es : List (List Int)) (s : KLog), ∃ R, mainS f h L n Ws Es s = s.2 ++ R
 | 0, _, _, _ => ⟨[], (List.append_nil _).symm⟩
 | n + 1, Ws, Es, s => by
  obtain ⟨R, hR⟩ := mainF_ext (h := h) (go := mainS f h L n) (mainS_ext n) (G := guessS f L Ws Es s) (Es := Es)
  obtain ⟨T, hT⟩ := guessS_log (f := f) (L := L) (Es := Es) (Ws := Ws) (s := s)
  rw [mainS, hR, hT]
  exact ⟨_, List.append_assoc _ _ _⟩
theorem mainF_two {L : Nat} {h k : ApiDet → List Int × Bool} (hh : ∀ x, (h x).2 = false → LtrW (L : Int) (h x).1) {f g : List Int → Bool} {n : Nat} {G H : ApiDet × List (List Int) × KLog} {Es : List (List Int)} (hE : ∀ e ∈ Es, LtrW (L : Int) e) (hf : UV L f G) (hg : UV L g H)
  (ih : ∀ (Ws Es : List (List Int)) (s : KLog), (∀ w ∈ Ws, LtrW (L : Int) w) → (∀ e ∈ Es, LtrW (L : Int) e) → KnOk L f s.1 → KnOk L g s.1 → mainS f h L n Ws Es s = mainS g k L n Ws Es s ∨ Split (mainS f h L n Ws Es s) (mainS g k L n Ws Es s))
  (e : G = H ∨ Split G.2.2.2 H.2.2.2) : mainF h (mainS f h L n) G Es = mainF k (mainS g k L n) H Es ∨ Split (mainF h (mainS f h L n) G Es) (mainF k (mainS g k L n) H Es) := by
 obtain ⟨R, hR⟩ := mainF_ext (h := h) (go := mainS f h L n) (mainS_ext n) (G := G) (Es := Es)
 obtain ⟨T, hT⟩ := mainF_ext (h := k) (go := mainS g k L n) (mainS_ext n) (G := H) (Es := Es)
 rcases e with rfl | e
 ·by_cases ha : h G.1 = k G.1
  ·unfold mainF
   rw [← ha]
   by_cases hr : (h G.1).2 = true
   ·rw [if_pos hr, if_pos hr]
    exact .inl rfl
   ·rw [if_neg hr, if_neg hr]
    rw [Bool.not_eq_true] at hr
    exact ih _ _ _ hf.2 (addS_ltr hE (hh _ hr) _) hf.1 hg.1
  ·right
   rw [hR, hT]
   refine ⟨_, _, _, R, T, rfl, rfl, rfl, .inr ⟨rfl, rfl, ?_⟩⟩
   show (h G.1).2 ≠ (k G.1).2 ∨ (h G.1).1 ≠ (k G.1).1
   rcases Decidable.em ((h G.1).2 = (k G.1).2) with h1 | h1
   ·exact .inr fun h2 => ha (Prod.ext h2 h1)
   ·exact .inl h1
 ·right
  exact e.app ⟨_, hR⟩ ⟨_, hT⟩
theorem main_two {L : Nat} (hL : (L : Int) ≤ 4) {f g : List Int → Bool} {h k : ApiDet → List Int × Bool} (hh : ∀ x, (h x).2 = false → LtrW (L : Int) (h x).1) : ∀ (n : Nat) (Ws Es : List (List Int)) (s : KLog), (∀ w ∈ Ws, LtrW (L : Int) w) → (∀ e ∈ Es, LtrW (L : Int) e) → KnOk L f s.1 → KnOk L g s.1 →
  mainS f h L n Ws Es s = mainS g k L n Ws Es s ∨ Split (mainS f h L n Ws Es s) (mainS g k L n Ws Es s)
 | 0, _, _, _, _, _, _, _ => .inl rfl
 | n + 1, Ws, Es, s, hW, hE, hf, hg => by
  have hB := blind_guess hL hE hW
  rw [mainS, mainS]
  exact mainF_two hh hE (hB.keep f s hf) (hB.keep g s hg) (main_two hL hh n) (hB.two f g s hf hg)
theorem NumOk.dist {f : List Int → Bool} {Es Ws : List (List Int)} {N : KMap} (h : NumOk f Es Ws N Ws.length) : Dist f Es Ws := fun i j hi hj e => by
 have h1 := (h _ (rowB_rb (f := f) (Es := Es) (w := Ws.getD i [])) (i : Int)).2 ⟨i, rfl, hi, rfl⟩
 have h2 := (h _ (rowB_rb (f := f) (Es := Es) (w := Ws.getD i [])) (j : Int)).2 ⟨j, rfl, hj, e.symm⟩
 rw [h1] at h2
 exact Int.ofNat_inj.1 (Option.some.inj h2)
def CapF (L : Int) (f : List Int → Bool) (Es : List (List Int)) : Prop := ∀ Ws : List (List Int), (∀ w ∈ Ws, LtrW L w) → Dist f Es Ws → Ws.length ≤ 12
section
variable {L : Nat} {f : List Int → Bool} {Es : List (List Int)}
structure LetOk (L : Nat) (f : List Int → Bool) (Es : List (List Int)) (i : Nat) (t0 t : GSt) (a : Nat) : Prop where
 ext : ∃ R, t.ws = t0.ws ++ R
 wok : WsOk (L : Int) t.ws
 num : NumOk f Es t.ws t.nm t.ws.length
 len : t.nx.length = L
 nxt : ∀ b, b < a → ∃ n : Nat, t.nx.getD b 0 = (n : Int) ∧ n < t.ws.length ∧ rowB f Es (t.ws.getD n []) = rowB f Es (t0.ws.getD i [] ++ [(b : Int)])
 kn : KnOk (L : Int) f t.kl.1
 log : t.kl.2.length ≤ t0.kl.2.length + a * Es.length
 next : t.next = t0.next
theorem LetOk.ge {i a : Nat} {t0 t : GSt} (h : LetOk L f Es i t0 t a) : t0.ws.length ≤ t.ws.length := by
 obtain ⟨R, hR⟩ := h.ext
 rw [hR, List.length_append]
 omega
theorem LetOk.at {i a : Nat} {t0 t : GSt} (h : LetOk L f Es i t0 t a) {j : Nat} (hj : j < t0.ws.length) : t.ws.getD j [] = t0.ws.getD j [] := by
 obtain ⟨R, hR⟩ := h.ext
 rw [hR, getD_app_left hj]
theorem set_getD {l : List Int} {a b : Nat} {x : Int} : (l.set a x).getD b 0 = if a = b ∧ a < l.length then x else l.getD b 0 := by
 simp only [List.getD_eq_getElem?_getD, List.getElem?_set]
 by_cases h : a = b
 ·subst h
  by_cases h2 : a < l.length <;> simp [h2]
 ·simp [h]
theorem LetOk.step (hL : (L : Int) ≤ 4) (hE : ∀ e ∈ Es, LtrW (L : Int) e) {i a : Nat} {t0 t : GSt} (h : LetOk L f Es i t0 t a) (hi : i < t0.ws.length) (ha : a < L) : LetOk L f Es i t0 (letF f Es (t.ws.getD i [] ++ [(a : Int)]) a t) (a + 1) := by
 have hit := Nat.lt_of_lt_of_le hi h.ge
 have hw : LtrW (L : Int) (t.ws.getD i [] ++ [(a : Int)]) := (h.wok.at i).app fun x hx => by rw [List.mem_singleton.1 hx]; omega
 have ew : t.ws.getD i [] = t0.ws.getD i [] := h.at hi
 have hkn := rowKL_ok (f := f) hL hw Es t.kl hE h.kn
 obtain ⟨R, hR, hRl⟩ := fold_isKL_log (f := f) (w := t.ws.getD i [] ++ [(a : Int)]) Es t.kl
 have hlog : (rowKL f Es (t.ws.getD i [] ++ [(a : Int)]) t.kl).2.length ≤ t0.kl.2.length + (a + 1) * Es.length := by
  rw [hR, List.length_append, Nat.succ_mul]
  have := h.log
  omega
 obtain ⟨E, hE'⟩ := h.ext
 unfold letF
 by_cases hc : (!(mget (bytesOf (rowB f Es (t.ws.getD i [] ++ [(a : Int)]))) t.nm).isSome) = true
 ·rw [if_pos hc]
  have hnone : mget (bytesOf (rowB f Es (t.ws.getD i [] ++ [(a : Int)]))) t.nm = none := by simpa using hc
  refine ⟨⟨E ++ [t.ws.getD i [] ++ [(a : Int)]], by show t.ws ++ _ = _; rw [← List.append_assoc, ← hE']⟩, h.wok.push hit (by omega), ?_, by simpa using h.len, fun b hb => ?_, hkn, hlog, h.next⟩
  ·have := h.num.push (Ws' := t.ws ++ [t.ws.getD i [] ++ [(a : Int)]]) (fun j hj => getD_app_left hj) fun j hj e => by
    rw [getD_app_at] at e
    have := (h.num _ (rowB_rb (f := f) (Es := Es) (w := t.ws.getD i [] ++ [(a : Int)])) (j : Int)).2 ⟨j, rfl, hj, e⟩
    rw [hnone] at this
    cases this
   rw [getD_app_at] at this
   show NumOk f Es _ _ (t.ws ++ [t.ws.getD i [] ++ [(a : Int)]]).length
   rw [List.length_append]
   exact this
  ·dsimp only
   rw [set_getD, List.length_append, List.length_singleton]
   by_cases e : a = b
   ·subst e
    rw [if_pos ⟨rfl, by have := h.len; omega⟩]
    refine ⟨t.ws.length, rfl, Nat.lt_succ_self _, ?_⟩
    rw [getD_app_at, ew]
   ·rw [if_neg (fun hh => e hh.1)]
    obtain ⟨n, h1, h2, h3⟩ := h.nxt b (by omega)
    exact ⟨n, h1, Nat.lt_succ_of_lt h2, by rw [getD_app_left h2]; exact h3⟩
 ·rw [if_neg hc]
  obtain ⟨n, hn⟩ : ∃ n, mget (bytesOf (rowB f Es (t.ws.getD i [] ++ [(a : Int)]))) t.nm = some n := Option.isSome_iff_exists.1 (by
   cases e : (mget (bytesOf (rowB f Es (t.ws.getD i [] ++ [(a : Int)]))) t.nm).isSome with
   | true => rfl
   | false => rw [e] at hc; exact absurd rfl hc)
  obtain ⟨j, rfl, hj, hr⟩ := (h.num _ (rowB_rb (f := f) (Es := Es) (w := t.ws.getD i [] ++ [(a : Int)])) n).1 hn
  refine ⟨h.ext, h.wok, h.num, by simpa using h.len, fun b hb => ?_, hkn, hlog, h.next⟩
  dsimp only
  rw [hn, set_getD]
  by_cases e : a = b
  ·subst e
   rw [if_pos ⟨rfl, by have := h.len; omega⟩]
   exact ⟨j, rfl, hj, by rw [hr, ew]⟩
  ·rw [if_neg (fun hh => e hh.1)]
   exact h.nxt b (by omega)
theorem letS_ok (hL : (L : Int) ≤ 4) (hE : ∀ e ∈ Es, LtrW (L : Int) e) {i : Nat} {t0 : GSt} (h : LetOk L f Es i t0 t0 0) (hi : i < t0.ws.length) : ∀ a, a ≤ L → LetOk L f Es i t0 (letS f Es i t0 a) a
 | 0, _ => h
 | a + 1, ha => (letS_ok hL hE h hi a (by omega)).step hL hE hi (by omega)
structure OutOk (L : Nat) (f : List Int → Bool) (Es : List (List Int)) (o0 o : GSt) (k : Nat) : Prop where
 ext : ∃ R, o.ws = o0.ws ++ R
 wok : WsOk (L : Int) o.ws
 num : NumOk f Es o.ws o.nm o.ws.length
 le : k ≤ o.ws.length
 len : o.next.length = k
 rows : ∀ i, i < k → (o.next.getD i []).length = L
 nxt : ∀ i, i < k → ∀ b, b < L → ∃ n : Nat, (o.next.getD i []).getD b 0 = (n : Int) ∧ n < o.ws.length ∧ rowB f Es (o.ws.getD n []) = rowB f Es (o.ws.getD i [] ++ [(b : Int)])
 kn : KnOk (L : Int) f o.kl.1
 log : o.kl.2.length ≤ o0.kl.2.length + k * (L * Es.length)
theorem OutOk.clr {o0 o : GSt} {k i : Nat} (h : OutOk L f Es o0 o k) : LetOk L f Es i (clr L o) (clr L o) 0 :=
 ⟨⟨[], (List.append_nil _).symm⟩, h.wok, h.num, List.length_replicate, fun b hb => absurd hb (Nat.not_lt_zero _), h.kn, by omega, rfl⟩
theorem OutOk.step (hL : (L : Int) ≤ 4) (hE : ∀ e ∈ Es, LtrW (L : Int) e) {o0 o : GSt} {k : Nat} (h : OutOk L f Es o0 o k) (hk : k < o.ws.length) : OutOk L f Es o0 (outF f Es L k o) (k + 1) := by
 have hl := letS_ok hL hE (h.clr (i := k)) hk L (Nat.le_refl _)
 obtain ⟨R, hR⟩ := h.ext
 obtain ⟨T, hT⟩ := hl.ext
 have hge : o.ws.length ≤ (letS f Es k (Go.Proofs.Ytobenjahlicnoaa.clr L o) L).ws.length := hl.ge
 have hnx : (letS f Es k (Go.Proofs.Ytobenjahlicnoaa.clr L o) L).next = o.next := hl.next
 have hat : ∀ j, j < o.ws.length → (letS f Es k (Go.Proofs.Ytobenjahlicnoaa.clr L o) L).ws.getD j [] = o.ws.getD j [] := fun j hj => hl.at hj
 have hN : ∀ i, i < k → ((letS f Es k (Go.Proofs.Ytobenjahlicnoaa.clr L o) L).next ++ [(letS f Es k (Go.Proofs.Ytobenjahlicnoaa.clr L o) L).nx]).getD i [] = o.next.getD i [] := fun i hi => by
  rw [hnx, getD_app_left (by rw [h.len]; exact hi)]
 have hK : ((letS f Es k (Go.Proofs.Ytobenjahlicnoaa.clr L o) L).next ++ [(letS f Es k (Go.Proofs.Ytobenjahlicnoaa.clr L o) L).nx]).getD k [] = (letS f Es k (Go.Proofs.Ytobenjahlicnoaa.clr L o) L).nx := by
  have key : ∀ (l : List (List Int)) (x : List Int) (k : Nat), l.length = k → (l ++ [x]).getD k [] = x := by
   rintro l x _ rfl
   exact getD_app_at
  exact key _ _ _ (by rw [hnx, h.len])
 refine ⟨⟨R ++ T, by show (letS f Es k (Go.Proofs.Ytobenjahlicnoaa.clr L o) L).ws = _; rw [hT]; show o.ws ++ T = _; rw [hR, List.append_assoc]⟩, hl.wok, hl.num, by show k + 1 ≤ (letS f Es k (Go.Proofs.Ytobenjahlicnoaa.clr L o) L).ws.length; omega, ?_, fun i hi => ?_, fun i hi b hb => ?_, hl.kn, ?_⟩
 ·show ((letS f Es k (Go.Proofs.Ytobenjahlicnoaa.clr L o) L).next ++ [_]).length = _
  rw [hnx, List.length_append, h.len]
  rfl
 ·show (List.getD (_ ++ [_]) i []).length = L
  rcases Nat.lt_succ_iff_lt_or_eq.1 hi with hi | rfl
  ·rw [hN i hi]
   exact h.rows i hi
  ·rw [hK]
   exact hl.len
 ·show ∃ n : Nat, (List.getD (_ ++ [_]) i []).getD b 0 = _ ∧ n < (letS f Es k (Go.Proofs.Ytobenjahlicnoaa.clr L o) L).ws.length ∧ rowB f Es ((letS f Es k (Go.Proofs.Ytobenjahlicnoaa.clr L o) L).ws.getD n []) = rowB f Es ((letS f Es k (Go.Proofs.Ytobenjahlicnoaa.clr L o) L).ws.getD i [] ++ [(b : Int)])
  rcases Nat.lt_succ_iff_lt_or_eq.1 hi with hi | rfl
  ·obtain ⟨n, h1, h2, h3⟩ := h.nxt i hi b hb
   refine ⟨n, by rw [hN i hi]; exact h1, by omega, ?_⟩
   rw [hat n h2, hat i (by omega)]
   exact h3
  ·obtain ⟨n, h1, h2, h3⟩ := hl.nxt b hb
   refine ⟨n, by rw [hK]; exact h1, h2, ?_⟩
   rw [hat i hk]
   exact h3
 ·have := hl.log
  have := h.log
  show (letS f Es k (Go.Proofs.Ytobenjahlicnoaa.clr L o) L).kl.2.length ≤ _
  rw [Nat.succ_mul]
  have e : (Go.Proofs.Ytobenjahlicnoaa.clr L o).kl.2.length = o.kl.2.length := rfl
  omega
theorem outS_stop {o : GSt} {k : Nat} (h : (outS f Es L o k).ws.length ≤ k) : ∀ j, outS f Es L o (k + j) = outS f Es L o k
 | 0 => rfl
 | j + 1 => by
  show outS f Es L o (k + j + 1) = _
  rw [outS, outS_stop h j, if_neg (by omega)]
theorem outS_end (hL : (L : Int) ≤ 4) (hE : ∀ e ∈ Es, LtrW (L : Int) e) (hC : CapF (L : Int) f Es) {o0 : GSt} : ∀ (n k : Nat), k + n = 13 → OutOk L f Es o0 (outS f Es L o0 k) k → ∃ k, k ≤ 12 ∧ OutOk L f Es o0 (outS f Es L o0 k) k ∧ (outS f Es L o0 k).ws.length = k
 | 0, k, hk, h => by
  have := hC _ h.wok.wl h.num.dist
  have := h.le
  omega
 | n + 1, k, hk, h => by
  by_cases hlt : k < (outS f Es L o0 k).ws.length
  ·have := h.step hL hE hlt
   refine outS_end hL hE hC n (k + 1) (by omega) ?_
   rw [outS, if_pos hlt]
   exact this
  ·have := h.le
   exact ⟨k, by omega, h, by omega⟩
structure GOk (L : Nat) (f : List Int → Bool) (Es : List (List Int)) (g : ApiDet) (Ws : List (List Int)) : Prop where
 lets : g.fLetters = (L : Int)
 start : g.fStart = 0
 len : g.fNext.length = Ws.length
 mlen : g.fMark.length = Ws.length
 rows : ∀ i, i < Ws.length → (g.fNext.getD i []).length = L
 nxt : ∀ i, i < Ws.length → ∀ b, b < L → ∃ n : Nat, (g.fNext.getD i []).getD b 0 = (n : Int) ∧ n < Ws.length ∧ rowB f Es (Ws.getD n []) = rowB f Es (Ws.getD i [] ++ [(b : Int)])
 mark : ∀ i, i < Ws.length → g.fMark.getD i 0 = if f (Ws.getD i []) = true then 1 else 0
theorem markS_at {Ws : List (List Int)} {s : KLog} : ∀ k, (markS f Ws s k).2.length = k ∧ ∀ i, i < k → (markS f Ws s k).2.getD i 0 = if f (Ws.getD i []) = true then 1 else 0
 | 0 => ⟨rfl, fun i hi => absurd hi (Nat.not_lt_zero _)⟩
 | k + 1 => by
  obtain ⟨h1, h2⟩ := markS_at (Ws := Ws) (s := s) k
  refine ⟨by show ((markS f Ws s k).2 ++ [_]).length = _; rw [List.length_append, h1]; rfl, fun i hi => ?_⟩
  show ((markS f Ws s k).2 ++ [_]).getD i 0 = _
  rcases Nat.lt_succ_iff_lt_or_eq.1 hi with hi | rfl
  ·rw [getD_app_left (by omega)]
   exact h2 i hi
  ·conv => lhs; arg 2; rw [← h1]
   rw [getD_app_at]
theorem markS_kn (hL : (L : Int) ≤ 4) {Ws : List (List Int)} (hW : ∀ i, LtrW (L : Int) (Ws.getD i [])) {s : KLog} (h : KnOk (L : Int) f s.1) : ∀ k, KnOk (L : Int) f (markS f Ws s k).1.1 ∧ (markS f Ws s k).1.2.length ≤ s.2.length + k
 | 0 => ⟨h, Nat.le_refl _⟩
 | k + 1 => by
  obtain ⟨h1, h2⟩ := markS_kn hL hW h k
  refine ⟨(isKL_ok hL h1 (hW k)).1, ?_⟩
  obtain ⟨R, hR, hl⟩ := isKL_log (f := f) (w := Ws.getD k []) (s := (markS f Ws s k).1)
  show (isKL f _ _).2.length ≤ _
  rw [hR, List.length_append]
  omega
theorem numS_kn (hL : (L : Int) ≤ 4) (hE : ∀ e ∈ Es, LtrW (L : Int) e) {Ws : List (List Int)} (hW : ∀ i, LtrW (L : Int) (Ws.getD i [])) {s : KLog} (h : KnOk (L : Int) f s.1) : ∀ k, KnOk (L : Int) f (numS f Es Ws s k).1.1 ∧ (numS f Es Ws s k).1.2.length ≤ s.2.length + k * Es.length
 | 0 => ⟨h, by show s.2.length ≤ _; omega⟩
 | k + 1 => by
  obtain ⟨h1, h2⟩ := numS_kn hL hE hW h k
  refine ⟨rowKL_ok hL (hW k) Es _ hE h1, ?_⟩
  obtain ⟨R, hR, hl⟩ := fold_isKL_log (f := f) (w := Ws.getD k []) Es (numS f Es Ws s k).1
  show (rowKL f Es _ _).2.length ≤ _
  rw [hR, List.length_append, Nat.succ_mul]
  omega
theorem out0_ok (hL : (L : Int) ≤ 4) (hE : ∀ e ∈ Es, LtrW (L : Int) e) {Ws : List (List Int)} (hW : WsOk (L : Int) Ws) (hd : Dist f Es Ws) {s : KLog} (h : KnOk (L : Int) f s.1) : OutOk L f Es (out0 f Es Ws s) (out0 f Es Ws s) 0 :=
 ⟨⟨[], (List.append_nil _).symm⟩, hW, numS_ok hd Ws.length (Nat.le_refl _), Nat.zero_le _, rfl, fun i hi => absurd hi (Nat.not_lt_zero _), fun i hi => absurd hi (Nat.not_lt_zero _), (numS_kn hL hE hW.at h _).1, by omega⟩
structure GuessOk (L : Nat) (f : List Int → Bool) (Es Ws : List (List Int)) (s : KLog) (G : ApiDet × List (List Int) × KLog) : Prop where
 g : GOk L f Es G.1 G.2.1
 ext : ∃ R, G.2.1 = Ws ++ R
 wok : WsOk (L : Int) G.2.1
 dist : Dist f Es G.2.1
 cap : G.2.1.length ≤ 12
 kn : KnOk (L : Int) f G.2.2.1
 log : G.2.2.2.length ≤ s.2.length + 60 * Es.length + 12
theorem outK_ok (hL : (L : Int) ≤ 4) (hE : ∀ e ∈ Es, LtrW (L : Int) e) (hC : CapF (L : Int) f Es) {Ws : List (List Int)} (hW : WsOk (L : Int) Ws) (hd : Dist f Es Ws) {s : KLog} (h : KnOk (L : Int) f s.1) : ∃ k, k ≤ 12 ∧ OutOk L f Es (out0 f Es Ws s) (outS f Es L (out0 f Es Ws s) k) k ∧ (outS f Es L (out0 f Es Ws s) k).ws.length = k ∧ ∀ K, 12 ≤ K → outK f L Es Ws s K = outS f Es L (out0 f Es Ws s) k := by
 obtain ⟨k, hk, h1, h2⟩ := outS_end hL hE hC 13 0 rfl (out0_ok hL hE hW hd h)
 refine ⟨k, hk, h1, h2, fun K hK => ?_⟩
 obtain ⟨j, rfl⟩ := Nat.exists_eq_add_of_le (Nat.le_trans hk hK)
 exact outS_stop (by omega) j
theorem guessK_ok (hL : (L : Int) ≤ 4) (hE : ∀ e ∈ Es, LtrW (L : Int) e) (hC : CapF (L : Int) f Es) {Ws : List (List Int)} (hW : WsOk (L : Int) Ws) (hd : Dist f Es Ws) {s : KLog} (h : KnOk (L : Int) f s.1) {K : Nat} (hK : 12 ≤ K) : GuessOk L f Es Ws s (guessK f L Ws Es s K) := by
 obtain ⟨k, hk, h1, h2, h3⟩ := outK_ok hL hE hC hW hd h
 unfold guessK
 rw [h3 K hK]
 generalize outS f Es L (out0 f Es Ws s) k = o at h1 h2
 obtain ⟨m1, m2⟩ := markS_at (f := f) (Ws := o.ws) (s := o.kl) o.ws.length
 obtain ⟨m3, m4⟩ := markS_kn (f := f) hL h1.wok.at h1.kn o.ws.length
 refine ⟨⟨rfl, rfl, by show o.next.length = o.ws.length; rw [h1.len, h2], m1, fun i hi => h1.rows i (by have : i < o.ws.length := hi; omega), fun i hi => h1.nxt i (by have : i < o.ws.length := hi; omega), m2⟩, h1.ext, h1.wok, h1.num.dist, by show o.ws.length ≤ 12; omega, m3, ?_⟩
 show (markS f o.ws o.kl o.ws.length).1.2.length ≤ _
 have a1 := h1.log
 have a2 := (numS_kn (f := f) hL hE hW.at h Ws.length).2
 have a3 : Ws.length ≤ 12 := hC _ hW.wl hd
 have a4 : (out0 f Es Ws s).kl.2.length = (numS f Es Ws s Ws.length).1.2.length := rfl
 have a5 : Ws.length * Es.length ≤ 12 * Es.length := Nat.mul_le_mul_right _ a3
 have a6 : k * (L * Es.length) ≤ 12 * (4 * Es.length) := Nat.mul_le_mul hk (Nat.mul_le_mul_right _ (by omega))
 omega
def SufC (Es : List (List Int)) : Prop := [] ∈ Es ∧ ∀ a e, a :: e ∈ Es → e ∈ Es
theorem rowB_at {u v : List Int} (h : rowB f Es u = rowB f Es v) {e : List Int} (he : e ∈ Es) : f (u ++ e) = f (v ++ e) := by
 have := (List.map_inj_left.1 h) e he
 by_cases h1 : f (u ++ e) = true <;> by_cases h2 : f (v ++ e) = true
 ·rw [h1, h2]
 ·rw [if_pos h1, if_neg h2] at this
  omega
 ·rw [if_neg h1, if_pos h2] at this
  omega
 ·rw [Bool.not_eq_true] at h1 h2
  rw [h1, h2]
theorem GOk.at {g : ApiDet} {Ws : List (List Int)} (h : GOk L f Es g Ws) {i : Nat} (hi : i < Ws.length) {a : Int} (a0 : 0 ≤ a) (a1 : a < (L : Int)) : ∃ n : Nat, stepI g (i : Int) a = (n : Int) ∧ n < Ws.length ∧ rowB f Es (Ws.getD n []) = rowB f Es (Ws.getD i [] ++ [a]) := by
 obtain ⟨n, h1, h2, h3⟩ := h.nxt i hi a.toNat (by omega)
 rw [Int.toNat_of_nonneg a0] at h3
 exact ⟨n, by unfold stepI; rw [Int.toNat_natCast]; exact h1, h2, h3⟩
theorem GOk.right (hs : SufC Es) (hE : ∀ e ∈ Es, LtrW (L : Int) e) {g : ApiDet} {Ws : List (List Int)} (h : GOk L f Es g Ws) : ∀ (e : List Int), e ∈ Es → ∀ i : Nat, i < Ws.length → g.fMark.getD (aftI g (i : Int) e).toNat 0 = if f (Ws.getD i [] ++ e) = true then 1 else 0
 | [], _, i, hi => by
  rw [List.append_nil]
  exact h.mark i hi
 | a :: e, he, i, hi => by
  have he' := hs.2 a e he
  obtain ⟨a0, a1⟩ := hE _ he a List.mem_cons_self
  obtain ⟨n, h1, h2, h3⟩ := h.at hi a0 a1
  show g.fMark.getD (aftI g (stepI g i a) e).toNat 0 = _
  rw [h1, GOk.right hs hE h e he' n h2, rowB_at h3 he', List.append_assoc]
  rfl
theorem GOk.det (hL : 1 ≤ L ∧ L ≤ 4) {g : ApiDet} {Ws : List (List Int)} (h : GOk L f Es g Ws) (h0 : 0 < Ws.length) (hc : Ws.length ≤ 12) : DetOk g := by
 have hlen := h.len
 have key : ∀ r ∈ g.fNext, ∃ i, i < Ws.length ∧ r = g.fNext.getD i [] := fun r hr => by
  obtain ⟨i, hi, rfl⟩ := List.getElem_of_mem hr
  exact ⟨i, by omega, by rw [List.getD_eq_getElem?_getD, List.getElem?_eq_getElem hi]; rfl⟩
 refine ⟨by rw [h.lets]; omega, by omega, by rw [h.mlen, hlen], fun r hr => ?_, by rw [h.start]; omega, fun r hr p hp => ?_, fun m hm => ?_⟩
 ·obtain ⟨i, hi, rfl⟩ := key r hr
  rw [h.rows i hi, h.lets]
 ·obtain ⟨i, hi, rfl⟩ := key r hr
  obtain ⟨b, hb, rfl⟩ := List.getElem_of_mem hp
  obtain ⟨n, h1, h2, _⟩ := h.nxt i hi b (by rw [← h.rows i hi]; exact hb)
  rw [List.getD_eq_getElem?_getD, List.getElem?_eq_getElem hb] at h1
  have : (g.fNext.getD i [])[b] = (n : Int) := h1
  rw [this]
  omega
 ·obtain ⟨i, hi, rfl⟩ := List.getElem_of_mem hm
  have := h.mark i (by rw [← h.mlen]; exact hi)
  rw [List.getD_eq_getElem?_getD, List.getElem?_eq_getElem hi] at this
  have : g.fMark[i] = if f (Ws.getD i []) = true then 1 else 0 := this
  rw [this]
  split
  ·exact .inr rfl
  ·exact .inl rfl
theorem rowB_pre {R : List (List Int)} {u v : List Int} (h : rowB f (Es ++ R) u = rowB f (Es ++ R) v) : rowB f Es u = rowB f Es v := by
 unfold rowB at h ⊢
 rw [List.map_append, List.map_append] at h
 exact (List.append_inj h (by simp)).1
theorem Dist.pre {R : List (List Int)} {Ws : List (List Int)} (h : Dist f Es Ws) : Dist f (Es ++ R) Ws := fun i j hi hj e => h i j hi hj (rowB_pre e)
theorem list_getD {α : Type} {z : α} {l m : List α} (h : l.length = m.length) (e : ∀ i, i < l.length → l.getD i z = m.getD i z) : l = m := by
 refine List.ext_getElem h fun i h1 h2 => ?_
 have := e i h1
 rw [List.getD_eq_getElem?_getD, List.getD_eq_getElem?_getD, List.getElem?_eq_getElem h1, List.getElem?_eq_getElem h2] at this
 exact this
theorem GOk.same {R : List (List Int)} {g h : ApiDet} {Ws : List (List Int)} (hd : Dist f Es Ws) (hg : GOk L f Es g Ws) (hh : GOk L f (Es ++ R) h Ws) : g = h := by
 have e1 : g.fNext = h.fNext := by
  refine list_getD (z := []) (by rw [hg.len, hh.len]) fun i hi => ?_
  have hi : i < Ws.length := by rw [← hg.len]; exact hi
  refine list_getD (z := 0) (by rw [hg.rows i hi, hh.rows i hi]) fun b hb => ?_
  have hb : b < L := by rw [← hg.rows i hi]; exact hb
  obtain ⟨n, n1, n2, n3⟩ := hg.nxt i hi b hb
  obtain ⟨k, k1, k2, k3⟩ := hh.nxt i hi b hb
  rw [n1, k1, hd n k n2 k2 (n3.trans (rowB_pre k3).symm)]
 have e2 : g.fMark = h.fMark := by
  refine list_getD (z := 0) (by rw [hg.mlen, hh.mlen]) fun i hi => ?_
  have hi : i < Ws.length := by rw [← hg.mlen]; exact hi
  rw [hg.mark i hi, hh.mark i hi]
 rcases g with ⟨a, b, c, d⟩
 rcases h with ⟨a', b', c', d'⟩
 have a1 := hg.lets
 have a2 := hh.lets
 have b1 := hg.start
 have b2 := hh.start
 simp only at a1 a2 b1 b2 e1 e2
 subst a1 b1 e1 e2 a2 b2
 rfl
theorem GOk.acc (hs : SufC Es) (hE : ∀ e ∈ Es, LtrW (L : Int) e) {g : ApiDet} {Ws : List (List Int)} (hW : WsOk (L : Int) Ws) (h : GOk L f Es g Ws) {w : List Int} (hw : w ∈ Es) : accB g w = f w := by
 have := h.right hs hE w hw 0 hW.one.2
 have h0 : accB g w = (g.fMark.getD (aftI g ((0 : Nat) : Int) w).toNat 0 == 1) := by
  unfold accB
  rw [h.start]
  rfl
 rw [h0, this, hW.one.1, List.nil_append]
 cases f w <;> rfl
end
theorem addS_ext {Es : List (List Int)} {w : List Int} : ∀ k, ∃ R, addS Es w k = Es ++ R ∧ R.length ≤ k ∧ ∀ e ∈ R, ∃ j, j < k ∧ e = w.drop j
 | 0 => ⟨[], (List.append_nil _).symm, Nat.le_refl _, fun e he => by cases he⟩
 | k + 1 => by
  obtain ⟨R, h1, h2, h3⟩ := addS_ext (Es := Es) (w := w) k
  rw [addS]
  split
  ·exact ⟨R, h1, by omega, fun e he => by obtain ⟨j, hj, e⟩ := h3 e he; exact ⟨j, by omega, e⟩⟩
  ·refine ⟨R ++ [w.drop k], by rw [h1, List.append_assoc], by rw [List.length_append, List.length_singleton]; omega, fun e he => ?_⟩
   rcases List.mem_append.1 he with he | he
   ·obtain ⟨j, hj, e⟩ := h3 e he
    exact ⟨j, by omega, e⟩
   ·exact ⟨k, Nat.lt_succ_self _, List.mem_singleton.1 he⟩
theorem addS_mono {Es : List (List Int)} {w e : List Int} {k : Nat} (h : e ∈ addS Es w k) : e ∈ addS Es w (k + 1) := by
 rw [addS]
 split
 ·exact h
 ·exact List.mem_append_left _ h
theorem addS_has {Es : List (List Int)} {w : List Int} : ∀ k j, j < k → w.drop j ∈ addS Es w k
 | 0, _, h => absurd h (Nat.not_lt_zero _)
 | k + 1, j, h => by
  rcases Nat.lt_succ_iff_lt_or_eq.1 h with h | rfl
  ·exact addS_mono (addS_has k j h)
  ·rw [addS]
   split
   ·rename_i e
    obtain ⟨x, hx, he⟩ := List.any_eq_true.1 e
    rw [← eq_of_beq he]
    exact hx
   ·exact List.mem_append_right _ (List.mem_singleton.2 rfl)
theorem addS_suf {Es : List (List Int)} (hs : SufC Es) {w : List Int} : SufC (addS Es w w.length) ∧ w ∈ addS Es w w.length := by
 obtain ⟨R, h1, _, h3⟩ := addS_ext (Es := Es) (w := w) w.length
 have hin : ∀ e ∈ Es, e ∈ addS Es w w.length := fun e he => by rw [h1]; exact List.mem_append_left _ he
 refine ⟨⟨hin _ hs.1, fun a e he => ?_⟩, ?_⟩
 ·rw [h1] at he
  rcases List.mem_append.1 he with he | he
  ·exact hin _ (hs.2 a e he)
  ·obtain ⟨j, hj, ej⟩ := h3 _ he
   have e1 : e = w.drop (j + 1) := by
    rw [← List.drop_drop, ← ej]
    rfl
   by_cases hl : j + 1 < w.length
   ·rw [e1]
    exact addS_has _ _ hl
   ·rw [e1, List.drop_of_length_le (by omega)]
    exact hin _ hs.1
 ·cases w with
  | nil => exact hin _ hs.1
  | cons a w => exact addS_has (w := a :: w) (a :: w).length 0 (by simp)
theorem more_words {L : Nat} {f : List Int → Bool} {Es Ws : List (List Int)} {g : ApiDet} {w : List Int} {s : KLog} {G : ApiDet × List (List Int) × KLog} (hs : SufC Es) (hE : ∀ e ∈ Es, LtrW (L : Int) e) (hw : LtrW (L : Int) w) (hW : WsOk (L : Int) Ws) (hd : Dist f Es Ws) (hg : GOk L f Es g Ws) (hne : accB g w ≠ f w)
  (hG : GuessOk L f (addS Es w w.length) Ws s G) : Ws.length < G.2.1.length := by
 obtain ⟨R, hR⟩ := hG.ext
 obtain ⟨T, hT, _⟩ := addS_ext (Es := Es) (w := w) w.length
 obtain ⟨s1, s2⟩ := addS_suf hs (w := w)
 cases R with
 | cons x R => rw [hR, List.length_append, List.length_cons]; omega
 | nil =>
  rw [List.append_nil] at hR
  exfalso
  have hGg := hG.g
  rw [hR] at hGg
  have hacc := hGg.acc s1 (addS_ltr hE hw w.length) hW s2
  rw [hT] at hGg
  rw [← hg.same hd hGg] at hacc
  exact hne hacc
theorem seekS_way {nxt : DetCouple × Int → DetCouple} {ok : DetCouple → Bool} {L : Nat} {M : List DetCouple} {first : DetCouple} (hM : ∀ c ∈ M, ∀ b : Int, 0 ≤ b → b < (L : Int) → nxt (c, b) ∈ M) : ∀ (n : Nat) (mp : Ways) (l : List DetCouple), SInv nxt ok L M first mp l → (seekS nxt ok L n mp l).2 = true →
  (seekS nxt ok L n mp l).1.length ≤ M.length ∧ (∀ a ∈ (seekS nxt ok L n mp l).1, 0 ≤ a ∧ a < (L : Int)) ∧ ok ((seekS nxt ok L n mp l).1.foldl (fun c a => nxt (c, a)) first) = true
 | 0, _, _, _, h => by cases h
 | n + 1, mp, [], _, h => by cases h
 | n + 1, mp, c :: l, h, hs => by
  rw [seekS] at hs ⊢
  by_cases hc : ok c = true
  ·rw [if_pos hc]
   cases e : mget c mp with
   | none => exact absurd (h.sub c List.mem_cons_self) (mget_none.1 e)
   | some w =>
    obtain ⟨k1, k2, k3⟩ := h.way c w e
    exact ⟨Nat.le_trans k1 h.cap, k2, by show ok (w.foldl _ first) = true; rw [k3]; exact hc⟩
  ·rw [if_neg hc] at hs ⊢
   exact seekS_way hM n _ _ (growS_drop h hM) hs
def dGoR (x y : ApiDet) (k : DetCouple) (a : Int) : DetCouple := ⟨stepI x k.fE0 a, stepI y k.fE1 a⟩
def dOkR (x y : ApiDet) (k : DetCouple) : Bool := x.fMark.getD k.fE0.toNat 0 != y.fMark.getD k.fE1.toNat 0
structure DifPre (x y : ApiDet) : Prop where
 dx : DetOk x
 dy : DetOk y
 lets : x.fLetters = y.fLetters
 xl : x.fNext.length ≤ 12
 yl : y.fNext.length ≤ 12
def DGo (x y : ApiDet) (k : DetCouple) (a : Int) : Prop := DifPre x y ∧ (InQ x k.fE0 ∧ InQ y k.fE1) ∧ InA x a
def DOk (x y : ApiDet) (k : DetCouple) : Prop := DifPre x y ∧ (InQ x k.fE0 ∧ InQ y k.fE1)
def difW (x y : ApiDet) : List Int × Bool := seekR ⟨x.fStart, y.fStart⟩ x.fLetters (fun z => dGoR x y z.1 z.2) (dOkR x y)
open Classical in
noncomputable def hOf (m g : ApiDet) : List Int × Bool := if DifPre g m then ((difW g m).1, !(difW g m).2) else ([], true)
theorem hOf_at {m g : ApiDet} (h : DifPre g m) : hOf m g = ((difW g m).1, !(difW g m).2) := if_pos h
def cplM (n k : Nat) : List DetCouple := (List.range n).flatMap fun (p : Nat) => (List.range k).map fun (q : Nat) => ⟨p, q⟩
theorem cplM_mem {x y : ApiDet} {k : DetCouple} : k ∈ cplM x.fNext.length y.fNext.length ↔ InQ x k.fE0 ∧ InQ y k.fE1 := by
 unfold cplM InQ
 rw [List.mem_flatMap]
 constructor
 ·rintro ⟨p, hp, h⟩
  obtain ⟨q, hq, rfl⟩ := List.mem_map.1 h
  have hp := List.mem_range.1 hp
  have hq := List.mem_range.1 hq
  simp only
  omega
 ·rintro ⟨⟨h1, h2⟩, h3, h4⟩
  refine ⟨k.fE0.toNat, List.mem_range.2 (by omega), List.mem_map.2 ⟨k.fE1.toNat, List.mem_range.2 (by omega), ?_⟩⟩
  rw [Int.toNat_of_nonneg h1, Int.toNat_of_nonneg h3]
theorem cplM_len (n k : Nat) : (cplM n k).length = n * k := by
 unfold cplM
 rw [List.length_flatMap]
 simp only [List.length_map, List.length_range]
 rw [List.map_const', List.sum_replicate_nat, List.length_range]
theorem dif_pre {x y : ApiDet} (h : DifPre x y) : SeekPre ⟨x.fStart, y.fStart⟩ x.fLetters (fun z => DGo x y z.1 z.2) (fun z => dGoR x y z.1 z.2) (DOk x y) := by
 have hl := h.dx.letters
 refine ⟨⟨by omega, by omega⟩, cplM x.fNext.length y.fNext.length, ?_, cplM_mem.2 ⟨h.dx.start, h.dy.start⟩, fun c hc => ⟨h, cplM_mem.1 hc⟩, fun c hc b b0 b1 => ?_⟩
 ·rw [cplM_len]
  exact Nat.le_trans (Nat.mul_le_mul h.xl h.yl) (by decide)
 ·have hc := cplM_mem.1 hc
  exact ⟨⟨h, hc, b0, b1⟩, cplM_mem.2 ⟨(stepI_at h.dx hc.1 ⟨b0, b1⟩).2.2, (stepI_at h.dy hc.2 ⟨b0, by rw [← h.lets]; exact b1⟩).2.2⟩⟩
theorem det_mark {m : ApiDet} (h : DetOk m) {q : Int} (hq : InQ m q) : m.fMark.getD q.toNat 0 = 0 ∨ m.fMark.getD q.toNat 0 = 1 :=
 h.mark _ (getD_mem (by have := h.marks; have := hq.1; have := hq.2; omega))
theorem dif_way {x y : ApiDet} (h : DifPre x y) (hs : (difW x y).2 = true) : (difW x y).1.length ≤ 144 ∧ LtrW x.fLetters (difW x y).1 ∧ accB x (difW x y).1 ≠ accB y (difW x y).1 := by
 have hl := h.dx.letters
 obtain ⟨L, hL⟩ : ∃ L : Nat, x.fLetters = (L : Int) := ⟨x.fLetters.toNat, by omega⟩
 have hM : ∀ c ∈ cplM x.fNext.length y.fNext.length, ∀ b : Int, 0 ≤ b → b < (L : Int) → dGoR x y c b ∈ cplM x.fNext.length y.fNext.length := fun c hc b b0 b1 => by
  have hc := cplM_mem.1 hc
  rw [← hL] at b1
  exact cplM_mem.2 ⟨(stepI_at h.dx hc.1 ⟨b0, b1⟩).2.2, (stepI_at h.dy hc.2 ⟨b0, by rw [← h.lets]; exact b1⟩).2.2⟩
 have hw := seekS_way (nxt := fun z => dGoR x y z.1 z.2) (ok := dOkR x y) (first := ⟨x.fStart, y.fStart⟩) hM 3000000 _ _ (sinv_first (cplM_mem.2 ⟨h.dx.start, h.dy.start⟩)) (by
  unfold difW seekR at hs
  rw [hL, Int.toNat_natCast] at hs
  exact hs)
 have e : difW x y = seekS (fun z => dGoR x y z.1 z.2) (dOkR x y) L 3000000 [(⟨x.fStart, y.fStart⟩, [])] [⟨x.fStart, y.fStart⟩] := by
  unfold difW seekR
  rw [hL, Int.toNat_natCast]
 rw [← e, cplM_len] at hw
 obtain ⟨w1, w2, w3⟩ := hw
 have key : ∀ (w : List Int) (p q : Int), w.foldl (fun c a => dGoR x y c a) (DetCouple.mk p q) = ⟨aftI x p w, aftI y q w⟩ := by
  intro w
  induction w with
  | nil => intro p q; rfl
  | cons a w ih => intro p q; exact ih _ _
 have w3 : dOkR x y ((difW x y).1.foldl (fun c a => dGoR x y c a) (DetCouple.mk x.fStart y.fStart)) = true := w3
 rw [key] at w3
 have hwx : wOk x (difW x y).1 := fun a ha => by have := w2 a ha; exact ⟨this.1, by omega⟩
 have hwy : wOk y (difW x y).1 := fun a ha => by have := w2 a ha; exact ⟨this.1, by have := h.lets; omega⟩
 refine ⟨Nat.le_trans w1 (Nat.mul_le_mul h.xl h.yl), fun a ha => by rw [hL]; exact w2 a ha, fun e => ?_⟩
 have m1 := det_mark h.dx (aftI_in h.dx _ _ hwx h.dx.start)
 have m2 := det_mark h.dy (aftI_in h.dy _ _ hwy h.dy.start)
 unfold dOkR at w3
 unfold accB at e
 rcases m1 with m1 | m1 <;> rcases m2 with m2 | m2 <;> rw [m1, m2] at w3 e <;> simp at w3 e
def rK (d : ApiDet) (Es : List (List Int)) (w : List Int) (Kn : KMap) (Lg : List ApiQuery) : KMap := (rowKL (accB d) Es w (Kn, Lg)).1
def rL (d : ApiDet) (Es : List (List Int)) (w : List Int) (Kn : KMap) (Lg : List ApiQuery) : List ApiQuery := (rowKL (accB d) Es w (Kn, Lg)).2
def rB (d : ApiDet) (Es : List (List Int)) (w : List Int) : ByteArray := bytesOf (rowB (accB d) Es w)
def iK (d : ApiDet) (w : List Int) (Kn : KMap) (Lg : List ApiQuery) : KMap := (isKL (accB d) (Kn, Lg) w).1
def iL (d : ApiDet) (w : List Int) (Kn : KMap) (Lg : List ApiQuery) : List ApiQuery := (isKL (accB d) (Kn, Lg) w).2
noncomputable def gS (m : ApiDet) (Ws Es : List (List Int)) (Kn : KMap) (Lg : List ApiQuery) : ApiDet × List (List Int) × KLog := guessS (accB m) m.fLetters.toNat Ws Es (Kn, Lg)
theorem seekS_no {nxt : DetCouple × Int → DetCouple} {ok : DetCouple → Bool} {L : Nat} : ∀ (n : Nat) (mp : Ways) (l : List DetCouple), (seekS nxt ok L n mp l).2 = false → (seekS nxt ok L n mp l).1 = []
 | 0, _, _, _ => rfl
 | n + 1, _, [], _ => rfl
 | n + 1, mp, c :: l, h => by
  rw [seekS] at h ⊢
  by_cases hc : ok c = true
  ·rw [if_pos hc] at h
   cases h
  ·rw [if_neg hc] at h ⊢
   exact seekS_no n _ _ h
theorem seekR_no {first : DetCouple} {L : Int} {nxt : DetCouple × Int → DetCouple} {ok : DetCouple → Bool} (n : Nat) (h : (seekS nxt ok L.toNat n [(first, [])] [first]).2 = false) : (seekS nxt ok L.toNat n [(first, [])] [first]).1 = [] := seekS_no n _ _ h
theorem difW_len {x y : ApiDet} (h : DifPre x y) : (difW x y).1.length ≤ 50000000 := by
 cases e : (difW x y).2 with
 | true => exact Nat.le_trans (dif_way h e).1 (by decide)
 | false =>
  have : (difW x y).1 = [] := seekR_no 3000000 e
  rw [this]
  exact Nat.zero_le _
theorem hOf_ltr {m x : ApiDet} (h : (hOf m x).2 = false) : LtrW m.fLetters (hOf m x).1 := by
 by_cases hd : DifPre x m
 ·rw [hOf_at hd] at h ⊢
  have := (dif_way hd (by simpa using h)).2.1
  rw [hd.lets] at this
  exact this
 ·unfold hOf at h
  rw [if_neg hd] at h
  cases h
theorem accB_app {m : ApiDet} {u v : List Int} : accB m (u ++ v) = (m.fMark.getD (aftI m (aftI m m.fStart u) v).toNat 0 == 1) := by unfold accB; rw [aftI_app]
theorem capF_acc {m : ApiDet} (h : DetOk m) (hn : m.fNext.length ≤ 12) (Es : List (List Int)) : CapF m.fLetters (accB m) Es := by
 intro Ws hW hd
 have h1 : ((List.range Ws.length).map fun j => aftI m m.fStart (Ws.getD j [])).Nodup := by
  rw [List.nodup_iff_pairwise_ne, List.pairwise_map]
  refine List.Pairwise.imp_of_mem (fun {i j} hi hj hij e => hij ?_) List.nodup_range
  refine hd i j (List.mem_range.1 hi) (List.mem_range.1 hj) ?_
  unfold rowB
  exact List.map_congr_left fun x _ => by rw [accB_app, accB_app, e]
 have h2 := nodup_le h1 (m := (List.range m.fNext.length).map fun (q : Nat) => (q : Int)) fun q hq => by
  obtain ⟨j, hj, rfl⟩ := List.mem_map.1 hq
  obtain ⟨k1, k2⟩ := aftI_in h (Ws.getD j []) m.fStart (hW _ (getD_mem (List.mem_range.1 hj))) h.start
  exact List.mem_map.2 ⟨(aftI m m.fStart (Ws.getD j [])).toNat, List.mem_range.2 (by omega), by omega⟩
 simp only [List.length_map, List.length_range] at h2
 omega
theorem det01 {d : ApiDet} (h : DetOk d) (q : Nat) (w : List Nat) : langD d q w = 0 ∨ langD d q w = 1 := by
 unfold langD
 by_cases hq : w.foldl (stepD d) q < d.fMark.length
 ·exact h.mark _ (by
   rw [List.getD_eq_getElem?_getD, List.getElem?_eq_getElem hq]
   exact List.getElem_mem hq)
 ·left
  rw [List.getD_eq_getElem?_getD, List.getElem?_eq_none (by omega)]
  rfl
theorem least_ok {d : ApiDet} (hl : (leastR d).2 = 0) : DetOk (leastR d).1 ∧ (leastR d).1.fLetters = d.fLetters := by
 have hd : detErr d = 0 := by
  refine Decidable.byContradiction fun hn => ?_
  unfold leastR at hl
  rw [if_neg hn] at hl
  exact hn hl
 have hm : (leastR d).1 = canon d.fLetters.toNat (langD d d.fStart.toNat) := by
  unfold leastR
  rw [if_pos hd]
 rw [hm]
 have hok := (detErr_iff d).1 hd
 have hst : d.fStart.toNat < d.fNext.length := by have := hok.start; omega
 have hlet := hok.letters
 have hC := canonOk_det hok.cls.pre (L := d.fLetters.toNat) hst
 exact ⟨hC.det (by omega) hok.size.2 fun w => det01 hok _ w, by rw [hC.letters]; omega⟩
noncomputable def learnR (d : ApiDet) : List ApiQuery × Int := if (leastR d).2 ≠ 0 then ([], (leastR d).2) else if 12 < (leastR d).1.fNext.length then ([], 1) else (mainS (accB (leastR d).1) (hOf (leastR d).1) d.fLetters.toNat fuelN [[]] [[]] ([], []), 0)
theorem learnR_main {d : ApiDet} (h : (learnR d).2 = 0) : ∃ m, DetOk m ∧ m.fLetters = d.fLetters ∧ (learnR d).1 = mainS (accB m) (hOf m) d.fLetters.toNat fuelN [[]] [[]] ([], []) := by
 by_cases h1 : (leastR d).2 = 0
 ·by_cases h2 : 12 < (leastR d).1.fNext.length
  ·unfold learnR at h
   rw [if_neg (fun e => e h1), if_pos h2] at h
   cases h
  ·obtain ⟨k1, k2⟩ := least_ok h1
   refine ⟨(leastR d).1, k1, k2, ?_⟩
   unfold learnR
   rw [if_neg (fun e => e h1), if_neg h2]
 ·unfold learnR at h
  rw [if_pos h1] at h
  exact absurd h h1
theorem fuelN_succ : ∃ k, fuelN = k + 1 := ⟨fuelN - 1, by have := fuelN_ge; omega⟩
theorem learn_two {a b : ApiDet} (ha : (learnR a).2 = 0) (hb : (learnR b).2 = 0) (hl : a.fLetters = b.fLetters) : (learnR a).1 ≠ [] ∧ (learnR b).1 ≠ [] ∧ ((learnR a).1 = (learnR b).1 ∨ Split (learnR a).1 (learnR b).1) := by
 obtain ⟨m, m1, m2, m3⟩ := learnR_main ha
 obtain ⟨n, n1, n2, n3⟩ := learnR_main hb
 have hlet := m1.letters
 have hL : ((a.fLetters.toNat : Nat) : Int) = m.fLetters := by omega
 have hne : ∀ (m : ApiDet) (L : Nat), mainS (accB m) (hOf m) L fuelN [[]] [[]] ([], []) ≠ [] := fun m L => by
  obtain ⟨k, hk⟩ := fuelN_succ
  obtain ⟨R, hR⟩ := mainF_ext (h := hOf m) (go := mainS (accB m) (hOf m) L k) (mainS_ext k) (G := guessS (accB m) L [[]] [[]] ([], [])) (Es := [[]])
  rw [hk, mainS, hR]
  simp
 rw [m3, n3, ← hl]
 refine ⟨hne _ _, hne _ _, main_two (by omega) (fun x hx => by rw [hL]; exact hOf_ltr hx) fuelN _ _ _ (fun w hw a ha => ?_) (fun w hw a ha => ?_) (fun _ _ => .inl rfl) (fun _ _ => .inl rfl)⟩
 ·rw [List.mem_singleton.1 hw] at ha
  cases ha
 ·rw [List.mem_singleton.1 hw] at ha
  cases ha
structure MainInv (m : ApiDet) (L : Nat) (R : List ApiQuery) (Ws Es : List (List Int)) (Kn : KMap) (Lg : List ApiQuery) (c : Nat) : Prop where
 wok : WsOk (L : Int) Ws
 dist : Dist (accB m) Es Ws
 suf : SufC Es
 ends : ∀ e ∈ Es, LtrW (L : Int) e ∧ e.length ≤ 200
 elen : Es.length ≤ 1 + 144 * c
 log : Lg.length ≤ 400000 * c
 kn : KnOk (L : Int) (accB m) Kn
 cw : c ≤ Ws.length
 none : c = 0 → Lg = []
 more : 0 < c → Lg ≠ []
 fresh : 0 < c → ∀ s G, GuessOk L (accB m) Es Ws s G → Ws.length < G.2.1.length
 res : ∃ n, 40 - 2 * Ws.length + (if Lg = [] then 1 else 0) ≤ n ∧ R = mainS (accB m) (hOf m) L n Ws Es (Kn, Lg)
theorem main_start {m : ApiDet} {L : Nat} {R : List ApiQuery} (h : R = mainS (accB m) (hOf m) L fuelN [[]] [[]] ([], [])) : MainInv m L R [[]] [[]] [] [] 0 := by
 refine ⟨⟨⟨rfl, Nat.one_pos⟩, fun w hw a ha => ?_, fun j => ?_⟩, fun i j hi hj _ => ?_, ⟨List.mem_singleton.2 rfl, fun a e he => ?_⟩, fun e he => ?_, Nat.le_refl _, Nat.le_refl _, fun w _ => .inl rfl, Nat.zero_le _, fun _ => rfl, fun h => absurd h (Nat.lt_irrefl 0), fun h => absurd h (Nat.lt_irrefl 0), fuelN, Nat.le_trans (by decide) fuelN_ge, h⟩
 ·rw [List.mem_singleton.1 hw] at ha
  cases ha
 ·cases j with
  | zero => exact Nat.le_refl _
  | succ j => exact Nat.zero_le _
 ·have hi : i < 1 := hi
  have hj : j < 1 := hj
  omega
 ·have := List.mem_singleton.1 he
  cases this
 ·rw [List.mem_singleton.1 he]
  exact ⟨fun a ha => (by cases ha), Nat.zero_le _⟩
section
variable {m : ApiDet} {L : Nat} {R : List ApiQuery} {Ws Es : List (List Int)} {Kn : KMap} {Lg : List ApiQuery} {c : Nat} {G : ApiDet × List (List Int) × KLog}
theorem MainInv.guess (hm : DetOk m) (hL : m.fLetters = (L : Int)) (hn : m.fNext.length ≤ 12) (h : MainInv m L R Ws Es Kn Lg c) (hG : G = guessS (accB m) L Ws Es (Kn, Lg)) : c ≤ 12 ∧ GuessOk L (accB m) Es Ws (Kn, Lg) G ∧ DifPre G.1 m := by
 have hlet := hm.letters
 have hcap := capF_acc hm hn Es
 rw [hL] at hcap
 have hW12 := hcap _ h.wok.wl h.dist
 have hg : GuessOk L (accB m) Es Ws (Kn, Lg) G := by
  rw [hG]
  exact guessK_ok (by omega) (fun e he => (h.ends e he).1) hcap h.wok h.dist h.kn (Nat.le_trans (by decide) fuelN_ge)
 refine ⟨by have := h.cw; omega, hg, ⟨hg.g.det ⟨by omega, by omega⟩ hg.wok.one.2 hg.cap, hm, by rw [hg.g.lets, hL], by rw [hg.g.len]; exact hg.cap, hn⟩⟩
theorem MainInv.end (h : MainInv m L R Ws Es Kn Lg c) (hW : Ws.length ≤ 12) (hG : G = guessS (accB m) L Ws Es (Kn, Lg)) (hr : (hOf m G.1).2 = true) : R = G.2.2.2 ++ [qG G.1 (hOf m G.1).1 true] := by
 obtain ⟨n, hn, hR⟩ := h.res
 obtain ⟨k, rfl⟩ : ∃ k, n = k + 1 := ⟨n - 1, by omega⟩
 rw [hR, mainS, ← hG]
 unfold mainF
 rw [if_pos hr]
theorem MainInv.next (hm : DetOk m) (hL : m.fLetters = (L : Int)) (hn : m.fNext.length ≤ 12) (h : MainInv m L R Ws Es Kn Lg c) (hG : G = guessS (accB m) L Ws Es (Kn, Lg)) (hr : (hOf m G.1).2 = false) :
  MainInv m L R G.2.1 (addS Es (hOf m G.1).1 (hOf m G.1).1.length) G.2.2.1 (G.2.2.2 ++ [qG G.1 (hOf m G.1).1 false]) (c + 1) ∧ 40 - 2 * G.2.1.length + (if G.2.2.2 ++ [qG G.1 (hOf m G.1).1 false] = [] then 1 else 0) < 40 - 2 * Ws.length + (if Lg = [] then 1 else 0) := by
 obtain ⟨hc, hg, hdif⟩ := h.guess hm hL hn hG
 have hway := dif_way hdif (by rw [hOf_at hdif] at hr; simpa using hr)
 have hwe : (difW G.1 m).1 = (hOf m G.1).1 := by rw [hOf_at hdif]
 rw [hwe, hg.g.lets] at hway
 obtain ⟨w1, w2, w3⟩ := hway
 obtain ⟨w, hw⟩ : ∃ w, w = (hOf m G.1).1 := ⟨_, rfl⟩
 rw [← hw] at w1 w2 w3 ⊢
 have hlt : G.2.2.2 ++ [qG G.1 w false] ≠ [] := by simp
 obtain ⟨T, hT, hTl, hTm⟩ := addS_ext (Es := Es) (w := w) w.length
 obtain ⟨X, hX⟩ := hg.ext
 have hge : Ws.length ≤ G.2.1.length := by rw [hX, List.length_append]; omega
 have hcap := hg.cap
 have h0 := h.wok.one.2
 have hgrow : 0 < c → Ws.length < G.2.1.length := fun hc0 => h.fresh hc0 _ _ hg
 have hmu : 40 - 2 * G.2.1.length + (if G.2.2.2 ++ [qG G.1 w false] = [] then 1 else 0) < 40 - 2 * Ws.length + (if Lg = [] then 1 else 0) := by
  rw [if_neg hlt]
  by_cases hc0 : c = 0
  ·rw [if_pos (h.none hc0)]
   omega
  ·rw [if_neg (h.more (by omega))]
   have := hgrow (by omega)
   omega
 have hel := h.elen
 refine ⟨⟨hg.wok, by rw [hT]; exact hg.dist.pre, (addS_suf h.suf).1, fun e he => ?_, ?_, ?_, hg.kn, ?_, fun hh => by omega, fun _ => hlt, fun _ s G' hG' => more_words h.suf (fun e he => (h.ends e he).1) w2 hg.wok hg.dist hg.g w3 hG', ?_⟩, hmu⟩
 ·refine ⟨addS_ltr (fun e he => (h.ends e he).1) w2 _ e he, ?_⟩
  rw [hT] at he
  rcases List.mem_append.1 he with he | he
  ·exact (h.ends e he).2
  ·obtain ⟨j, _, rfl⟩ := hTm e he
   rw [List.length_drop]
   omega
 ·rw [hT, List.length_append]
  omega
 ·have h1 := hg.log
  have h2 := h.log
  have h3 : (Kn, Lg).2.length = Lg.length := rfl
  rw [List.length_append, List.length_singleton]
  omega
 ·by_cases hc0 : c = 0
  ·omega
  ·have := hgrow (by omega)
   have := h.cw
   omega
 ·obtain ⟨n, hn', hR⟩ := h.res
  obtain ⟨k, rfl⟩ : ∃ k, n = k + 1 := ⟨n - 1, by omega⟩
  refine ⟨k, by omega, ?_⟩
  rw [hR, mainS, ← hG]
  unfold mainF
  rw [if_neg (by rw [hr]; decide), ← hw]
theorem MainInv.size (hm : DetOk m) (hL : m.fLetters = (L : Int)) (hn : m.fNext.length ≤ 12) : ∀ (n : Nat) {Ws Es : List (List Int)} {Kn : KMap} {Lg : List ApiQuery} {c : Nat}, MainInv m L R Ws Es Kn Lg c → 40 - 2 * Ws.length + (if Lg = [] then 1 else 0) ≤ n → R.length ≤ 100000000
 | 0, Ws, Es, Kn, Lg, c, h, hmu => by
  obtain ⟨hc, hg, hdif⟩ := h.guess hm hL hn rfl
  obtain ⟨X, hX⟩ := hg.ext
  have := hg.cap
  rw [hX, List.length_append] at this
  omega
 | n + 1, Ws, Es, Kn, Lg, c, h, hmu => by
  obtain ⟨G, hG⟩ : ∃ G, G = guessS (accB m) L Ws Es (Kn, Lg) := ⟨_, rfl⟩
  obtain ⟨hc, hg, hdif⟩ := h.guess hm hL hn hG
  cases hr : (hOf m G.1).2 with
  | true =>
   obtain ⟨X, hX⟩ := hg.ext
   have h12 := hg.cap
   rw [hX, List.length_append] at h12
   rw [h.end (by omega) hG hr, List.length_append, List.length_singleton]
   have h1 := hg.log
   have h2 := h.log
   have h3 : (Kn, Lg).2.length = Lg.length := rfl
   have h4 := h.elen
   omega
  | false =>
   obtain ⟨h1, h2⟩ := h.next hm hL hn hG hr
   exact MainInv.size hm hL hn n h1 (by omega)
end
theorem learnR_len {d : ApiDet} : (learnR d).1.length ≤ 100000000 := by
 unfold learnR
 by_cases h1 : (leastR d).2 = 0
 ·rw [if_neg (fun e => e h1)]
  by_cases h2 : 12 < (leastR d).1.fNext.length
  ·rw [if_pos h2]
   exact Nat.zero_le _
  ·rw [if_neg h2]
   obtain ⟨k1, k2⟩ := least_ok h1
   have hlet := k1.letters
   exact (main_start (m := (leastR d).1) (L := d.fLetters.toNat) rfl).size k1 (by omega) (by omega) 100 (by decide)
 ·rw [if_pos h1]
  exact Nat.zero_le _
def askL (d : ApiDet) (w : List Int) (Lg : List ApiQuery) : List ApiQuery := Lg ++ [qA w (accB d w)]
structure AskPre (d : ApiDet) (Lg : List ApiQuery) (w : List Int) : Prop where
 det : DetOk d
 wl : LtrW d.fLetters w
 len : w.length ≤ 400
 log : Lg.length ≤ 200000000
structure IsPre (d : ApiDet) (Kn : KMap) (Lg : List ApiQuery) (w : List Int) : Prop where
 ask : AskPre d Lg w
 kn : KnOk d.fLetters (accB d) Kn
structure RowPre (d : ApiDet) (Es : List (List Int)) (Kn : KMap) (Lg : List ApiQuery) (w : List Int) : Prop where
 det : DetOk d
 wl : LtrW d.fLetters w
 len : w.length ≤ 100
 ends : ∀ e ∈ Es, LtrW d.fLetters e ∧ e.length ≤ 200
 some : 0 < Es.length ∧ Es.length ≤ 100000
 log : Lg.length ≤ 100000000
 kn : KnOk d.fLetters (accB d) Kn
def lAsk_vc (d : ApiDet) (Lg : List ApiQuery) (w : List Int) (Q : Bool × (List ApiQuery) → Prop) : Prop :=
 w.length ≤ 9223372036854775807 →
 ((DetOk d ∧ InQ d d.fStart ∧ wOk d w) ∧
 ∃ e, idx d.fMark (aftI d d.fStart w) = some e ∧
 (w.length * 8 ≤ 140737488355328) ∧
 capOk Lg.length (([(ApiQuery.mk false (w) (e == 1) (ApiDet.mk 0 0 [] []) false)] : List ApiQuery) : List ApiQuery).length 112 ∧
 Q ((e == 1), (Lg ++ ([(ApiQuery.mk false (w) (e == 1) (ApiDet.mk 0 0 [] []) false)] : List ApiQuery))))
noncomputable abbrev qt0 (d : ApiDet) := (.box [I d.fLetters, I d.fStart, LS (lsT intT) d.fNext, LS intT d.fMark, .own 1] 78 false : Item)
noncomputable abbrev qt1 (w : List Int) (y0 : Int) := (ApiQuery.mk false w (y0 == 1) (ApiDet.mk 0 0 [] []) false)
noncomputable abbrev qt2 (y0 : Nat → Nat) := sl 0 (.pptr 0 0 (y0 0))
noncomputable abbrev qt3 (d : ApiDet) := (.box [I d.fLetters, I d.fStart, LS (lsT intT) d.fNext, LS intT d.fMark, .own 2] 78 false : Item)
theorem lAsk_walk (d : ApiDet) (Lg : List ApiQuery) (w : List Int) (Q : Bool × (List ApiQuery) → Prop) (h : lAsk_vc d Lg w Q) : CtE 136 [.sv (.one (.ptr 0 0)), .sv (.one (LS intT w))] [.box [I d.fLetters, I d.fStart, LS (lsT intT) d.fNext, LS intT d.fMark, .own 1] 78 false, rowI 32 ApiQuery.ty Lg] [0] Q (fun (r : Bool × (List ApiQuery)) => .sv (.one (B r.1))) (fun (r : Bool × (List ApiQuery)) => [.box [I d.fLetters, I d.fStart, LS (lsT intT) d.fNext, LS intT d.fMark, .own 1] 78 false, rowI 32 ApiQuery.ty r.2]) := by
 have ht := tab_ok
 refine CtE.body Try.func136 rfl rfl rfl (by kernel_rfl) (by kernel_rfl) (fun c Bk hn => ?_)
 unfold lAsk_vc at h
 show En c ⟨[qt2 Bk, sl 1 (LS intT w)], [qt0 d, rowI 32 ApiQuery.ty Lg]⟩ _
 refine En.lenL 1 (by rfl) (fun hl => ?_)
 replace h := h hl
 clear hl
 refine En.sr ?_
 refine WL.rn ht hn 1 ⟨[qt2 Bk, sl 1 (LS intT w)], [qt0 d, rowI 32 ApiQuery.ty Lg]⟩ ?_
 refine En.seq ?_
 obtain ⟨hp_2, h⟩ := h
 obtain ⟨e, he, h⟩ := h
 refine En.regionA ⟨[qt2 Bk, sl 1 (LS intT w)], [.sv (.one (.ptr 0 0)), .sv (.one (.ptr 0 0)), .sv (.one (.ptr 0 0)), .sv (.one (.ptr 0 3)), .sv (.one (LS intT d.fMark)), .sv (.one (.ptr 0 0)), .sv (.one (.ptr 0 0)), .sv (.one (.ptr 0 0)), .sv (.agg (ApiDet.cl d)), .sv (.one (.ptr 0 0)), .sv (.one (.ptr 0 0)), .sv (.one (.ptr 0 0)), .sv (.one (.ptr 0 1)), .sv (.one (I d.fStart)), .sv (.one (LS intT w)), .sv (.one (I (aftI d d.fStart w))), .sv (.one (.pe (svR (.one (I e))) 1)), .sv (.one (I e)), .sv (.one (B (e == 1))), .sv (.one (B (e == 1)))], [⟨(qt0 d), none, none, none⟩, ⟨rowI 32 ApiQuery.ty Lg, none, none, none⟩]⟩ ⟨[qt2 Bk, sl 1 (LS intT w), sl 5 (B (e == 1))], [qt0 d, rowI 32 ApiQuery.ty Lg]⟩ (by kernel_rfl) hn (by kernel_rfl) (by rfl) (by kernel_rfl) ?_ (by kernel_rfl) ?_
 exact ⟨.ev ⟨[qt2 Bk], []⟩ ht,
 .ev ⟨[sl 6 (.ptr 0 0)], []⟩ ht,
 .ev ⟨[sl 7 (.ptr 0 0)], []⟩ ht,
 .ev ⟨[sl 8 (.ptr 0 0)], []⟩ ht,
 .ev ⟨[sl 9 (.ptr 0 3)], [qt0 d]⟩ ht,
 .ev ⟨[qt2 Bk], []⟩ ht,
 .ev ⟨[sl 11 (.ptr 0 0)], []⟩ ht,
 .ev ⟨[sl 12 (.ptr 0 0)], []⟩ ht,
 .ev ⟨[sl 13 (.ptr 0 0)], [qt0 d]⟩ ht,
 .ev ⟨[qt2 Bk], []⟩ ht,
 .ev ⟨[sl 15 (.ptr 0 0)], []⟩ ht,
 .ev ⟨[sl 16 (.ptr 0 0)], []⟩ ht,
 .ev ⟨[sl 17 (.ptr 0 0)], []⟩ ht,
 .ev ⟨[sl 18 (.ptr 0 1)], [qt0 d]⟩ ht,
 .ev ⟨[sl 1 (LS intT w)], []⟩ ht,
 .vl ⟨[(14, .sv (.agg (ApiDet.cl d))), sl 19 (I d.fStart), sl 20 (LS intT w)], []⟩ (mt_c (afterI_ct d d.fStart w hp_2) en60 rfl),
 .vl ⟨[sl 10 (LS intT d.fMark), sl 21 (I (aftI d d.fStart w))], []⟩ (mt_val (val_ix (T := intT) (l := d.fMark) (i := (aftI d d.fStart w)) ht rfl he)),
 .vl ⟨[sl 22 (.pe (svR (.one (I e))) 1)], []⟩ (mt_val (val_ld (s := .one (I e)) ht rfl)),
 .ev ⟨[sl 23 (I e)], []⟩ ht,
 .ev ⟨[sl 24 (B (e == 1))], []⟩ ht,
 trivial⟩
 refine En.seq ?_
 obtain ⟨hp_3, h⟩ := h
 obtain ⟨hp_4, h⟩ := h
 refine En.regionA ⟨[qt2 Bk, sl 1 (LS intT w), sl 5 (B (e == 1))], [.sv (.one (.ptr 0 0)), .sv (.one (.ptr 0 0)), .sv (.one (.ptr 0 0)), .sv (.one (.ptr 0 4)), .sv (.one (.own 1)), .sv (.one (LS intT w)), .sv (.one (LS intT w)), .sv (.one (B (e == 1))), .sv (.agg [B false, LS intT w, B (e == 1), I 0, I 0, .v (.slice none 0 0), .v (.slice none 0 0), B false]), .sv (.one (LS ApiQuery.ty ([qt1 w e] : List ApiQuery))), .sv (.one (.own 2)), .sv (.one (.ptr 0 0)), .sv (.one (.ptr 0 4)), .tup []], [⟨(qt0 d), none, none, some (13, (qt3 d))⟩, ⟨rowI 32 ApiQuery.ty Lg, none, some 10, none⟩, ⟨rowI 32 ApiQuery.ty (Lg ++ ([qt1 w e] : List ApiQuery)), some 10, none, none⟩]⟩ ⟨[qt2 Bk, sl 5 (B (e == 1))], [qt3 d, .gone, rowI 32 ApiQuery.ty (Lg ++ ([qt1 w e] : List ApiQuery))]⟩ (by kernel_rfl) hn (by kernel_rfl) (by rfl) (by kernel_rfl) ?_ (by kernel_rfl) ?_
 exact ⟨.ev ⟨[qt2 Bk], []⟩ ht,
 .ev ⟨[qt2 Bk], []⟩ ht,
 .ev ⟨[sl 26 (.ptr 0 0)], []⟩ ht,
 .ev ⟨[sl 27 (.ptr 0 0)], []⟩ ht,
 .ev ⟨[sl 28 (.ptr 0 4)], [qt0 d]⟩ ht,
 .ev ⟨[sl 1 (LS intT w)], []⟩ ht,
 .mt ⟨[sl 30 (LS intT w)], []⟩ [] none (by kernel_rfl) (by rfl) (mt_seal (q := 2) (e := 3) (mt_callI 2 (cloneInt_ct w hp_3) en37 (caps := []) [] rfl rfl (by rfl) (by kernel_rfl) (by kernel_rfl) (by rfl) (by rfl))) rfl rfl rfl rfl,
 .ev ⟨[sl 5 (B (e == 1))], []⟩ ht,
 .ev ⟨[sl 31 (LS intT w), sl 32 (B (e == 1))], []⟩ ht,
 .mt ⟨[(33, .sv (.agg [B false, LS intT w, B (e == 1), I 0, I 0, .v (.slice none 0 0), .v (.slice none 0 0), B false]))], []⟩ [] none (by kernel_rfl) (by rfl) (mt_seal (q := 2) (e := 32) (mt_lit (T := ApiQuery.ty) ([qt1 w e] : List ApiQuery) (mt_nilBox (T := intT) 6 (mt_nilBox (T := (lsT intT)) 5 (mt_bsl 2 (r := [B false, LS intT w, B (e == 1), I 0, I 0, .v (.slice none 0 0), .v (.slice none 0 0), B false]) ht rfl (by rfl) (by rfl) (by rfl) (by kernel_rfl) (by rfl)) (by rfl)) (by rfl)) (fun _ h => by cases h) (fun _ => rfl) (fun _ => rfl) (by rfl) (Nat.le_of_ble_eq_true rfl))) rfl rfl rfl rfl,
 .mt ⟨[sl 29 (.own 1), sl 34 (LS ApiQuery.ty ([qt1 w e] : List ApiQuery))], [.gone, rowI 32 ApiQuery.ty Lg]⟩ [1] (some 2) (by kernel_rfl) (by rfl) (mt_append (T := ApiQuery.ty) (l := Lg) (es := ([qt1 w e] : List ApiQuery)) (p := 2) ht rfl (by rfl) (by rfl) (by rfl) (by rfl) (by decide) (by rfl) (by rfl) (srcLS (T := ApiQuery.ty) (es := ([qt1 w e] : List ApiQuery)) (fun _ h => by cases h) (by decide) (by rfl)) (by exact hp_4) (by exact hp_4.le (by decide))) rfl rfl rfl rfl,
 .ev ⟨[sl 25 (.ptr 0 0)], []⟩ ht,
 .ev ⟨[sl 36 (.ptr 0 0)], []⟩ ht,
 .mu ⟨[sl 35 (.own 2), sl 37 (.ptr 0 4)], [qt0 d]⟩ 0 _ _ rfl rfl (by kernel_rfl) (by rfl) (mu_store2 ht rfl (by rfl) (by rfl) (by rfl) (by rfl) (fun h => by cases h) (by rfl) (by rfl)) rfl rfl rfl rfl rfl rfl rfl,
 trivial⟩
 refine En.sr ?_
 refine WL.rn ht hn 2 ⟨[qt2 Bk, sl 4 (B (e == 1))], [qt3 d, .gone, rowI 32 ApiQuery.ty (Lg ++ ([qt1 w e] : List ApiQuery))]⟩ ?_
 refine En.ret ?_
 refine En.move 2 1 (by rfl) (by rfl) ?_
 exact En.backE [0] ht ((e == 1), (Lg ++ ([qt1 w e] : List ApiQuery))) h (by kernel_rfl) (by rfl) rfl
theorem en136 : ∀ args w, (callFunc 136 args).run Try.prog w = .ok (.enter 136 args) w := enters_of Try.func136 (by kernel_rfl) rfl
theorem lAsk_ct (d : ApiDet) (Lg : List ApiQuery) (w : List Int) (hp : AskPre d Lg w)  : CtE 136 [.sv (.one (.ptr 0 0)), .sv (.one (LS intT w))] [.box [I d.fLetters, I d.fStart, LS (lsT intT) d.fNext, LS intT d.fMark, .own 1] 78 false, rowI 32 ApiQuery.ty Lg] [0] (fun (_ : Unit) => True) (fun _ => .sv (.one (B (accB d w)))) (fun _ => [.box [I d.fLetters, I d.fStart, LS (lsT intT) d.fNext, LS intT d.fMark, .own 1] 78 false, rowI 32 ApiQuery.ty (askL d w Lg)]) := by
 refine (lAsk_walk d Lg w (fun res_ => res_ = (accB d w, askL d w Lg)) ?_).imp (fun r hr => ⟨(), trivial, by subst hr; rfl, by subst hr; rfl⟩)
 obtain ⟨hd, hw, hl, hg⟩ := hp
 unfold lAsk_vc
 intro _
 have hq := aftI_in hd w d.fStart hw hd.start
 have hm := hd.marks
 refine ⟨⟨hd, hd.start, hw⟩, _, idx_of 0 hq.1 (by rw [hm]; exact hq.2), by omega, capOk_of ?_, rfl⟩
 simp only [List.length_cons, List.length_nil]
 omega
def lIs_vc (d : ApiDet) (lt : Int) (Ws : List (List Int)) (Es : List (List Int)) (Kn : List (ByteArray × Int)) (Lg : List ApiQuery) (w : List Int) (Q : Bool × (List (ByteArray × Int)) × (List ApiQuery) → Prop) : Prop :=
 w.length ≤ 9223372036854775807 →
 ((w.length ≤ 1000) ∧
 ∃ J : (List (ByteArray × Int)) → (List ApiQuery) → Prop, (IfP (((mget (keyR w) Kn).getD (0 : Int)) == 0) ((AskPre d Lg w) ∧
 IfP (accB d w) (J (mput (keyR w) 1 (mput (keyR w) 2 Kn)) (askL d w Lg)) (J (mput (keyR w) 2 Kn) (askL d w Lg))) (J Kn Lg)) ∧
 (∀ (m4 : List (ByteArray × Int)) (l5 : List ApiQuery), J m4 l5 → Q ((((mget (keyR w) m4).getD (0 : Int)) == 1), m4, l5)))
noncomputable abbrev qu0 (lt : Int) (d : ApiDet) (Ws : List (List Int)) (Es : List (List Int)) (Kn : List (ByteArray × Int)) (Lg : List ApiQuery) (y0 : Nat → Nat) (y1 : Nat → Value) := ([.box [.pptr 1 0 (y0 1), I lt, .pown 2 (y1 2), .pown 3 (y1 3), .own 4] 81 false, .box [I d.fLetters, I d.fStart, LS (lsT intT) d.fNext, LS intT d.fMark, .own 5] 78 false, rowI 23 (lsT intT) Ws, rowI 23 (lsT intT) Es, mapI encS intT Kn, rowI 32 ApiQuery.ty Lg] : List Item)
noncomputable abbrev qu1 (d : ApiDet) := (.box [I d.fLetters, I d.fStart, LS (lsT intT) d.fNext, LS intT d.fMark, .own 5] 78 false : Item)
noncomputable abbrev qu2 (lt : Int) (y0 : Nat → Nat) (y1 : Nat → Value) := (.box [.pptr 1 0 (y0 1), I lt, .pown 2 (y1 2), .pown 3 (y1 3), .own 4] 81 false : Item)
noncomputable abbrev qu3 (y0 : Nat → Nat) := sl 0 (.pptr 0 0 (y0 0))
noncomputable abbrev qu4 (w : List Int) := sl 5 (.v (.string (keyR w)))
theorem lIs_walk (d : ApiDet) (lt : Int) (Ws : List (List Int)) (Es : List (List Int)) (Kn : List (ByteArray × Int)) (Lg : List ApiQuery) (w : List Int) (Q : Bool × (List (ByteArray × Int)) × (List ApiQuery) → Prop) (h : lIs_vc d lt Ws Es Kn Lg w Q) : CtE 80 [.sv (.one (.ptr 0 0)), .sv (.one (LS intT w))] [.box [.ptr 1 0, I lt, .own 2, .own 3, .own 4] 81 false, .box [I d.fLetters, I d.fStart, LS (lsT intT) d.fNext, LS intT d.fMark, .own 5] 78 false, rowI 23 (lsT intT) Ws, rowI 23 (lsT intT) Es, mapI encS intT Kn, rowI 32 ApiQuery.ty Lg] [0, 1, 2, 3] Q (fun (r : Bool × (List (ByteArray × Int)) × (List ApiQuery)) => .sv (.one (B r.1))) (fun (r : Bool × (List (ByteArray × Int)) × (List ApiQuery)) => [.box [.ptr 1 0, I lt, .own 2, .own 3, .own 4] 81 false, .box [I d.fLetters, I d.fStart, LS (lsT intT) d.fNext, LS intT d.fMark, .own 5] 78 false, rowI 23 (lsT intT) Ws, rowI 23 (lsT intT) Es, mapI encS intT r.2.1, rowI 32 ApiQuery.ty r.2.2]) := by
 have ht := tab_ok
 refine CtE.bodyP [0, 1] [2, 3] Try.func80 rfl rfl rfl (by kernel_rfl) (by kernel_rfl) (fun c Bk Vk hn => ?_)
 unfold lIs_vc at h
 show En c ⟨[qu3 Bk, sl 1 (LS intT w)], (qu0 lt d Ws Es Kn Lg Bk Vk)⟩ _
 refine En.lenL 1 (by rfl) (fun hl => ?_)
 replace h := h hl
 clear hl
 refine En.sr ?_
 refine WL.rn ht hn 1 ⟨[qu3 Bk, sl 1 (LS intT w)], (qu0 lt d Ws Es Kn Lg Bk Vk)⟩ ?_
 refine En.sr ?_
 refine WL.r ht hn 1 ⟨[qu3 Bk, sl 1 (LS intT w), sl 6 (LS intT w)], (qu0 lt d Ws Es Kn Lg Bk Vk)⟩ ?_
 obtain ⟨hp, h⟩ := h
 refine WL.m0 hn (mt_c (detKey_ct w hp) en108 rfl) ?_
 refine WL.rn ht hn 1 ⟨[qu3 Bk, sl 1 (LS intT w), qu4 w], (qu0 lt d Ws Es Kn Lg Bk Vk)⟩ ?_
 obtain ⟨J, h, hJ⟩ := h
 refine En.seqJ (σ := (List (ByteArray × Int)) × (List ApiQuery)) (fun zz => J zz.1 zz.2) (fun zz => ⟨[qu3 Bk, qu4 w], [qu2 lt Bk Vk, qu1 d, rowI 23 (lsT intT) Ws, rowI 23 (lsT intT) Es, mapI encS intT zz.1, rowI 32 ApiQuery.ty zz.2]⟩) ?_ ?_
 refine En.sr ?_
 refine WL.r ht hn 5 ⟨[qu3 Bk, sl 1 (LS intT w), qu4 w, sl 11 (.own 4), sl 12 (.v (.string (keyR w)))], (qu0 lt d Ws Es Kn Lg Bk Vk)⟩ ?_
 refine WL.v hn (val_lookup (T := intT) (D := Kn) keyS9 (k := (keyR w)) (ok := false) (0 : Int) (zv := (.int .i64 0)) rfl Try.underlying79 (fun _ => by kernel_rfl) (fun _ => ⟨rfl, trivial⟩) (mapAs encS intT Kn) (by rfl) (by rfl) (by rfl) (fun _ => rfl)) ?_
 refine WL.rn ht hn 1 ⟨[qu3 Bk, sl 1 (LS intT w), qu4 w, sl 14 (B (((mget (keyR w) Kn).getD (0 : Int)) == 0))], (qu0 lt d Ws Es Kn Lg Bk Vk)⟩ ?_
 refine En.ch h (fun h => ?_) (fun h => ?_)
 refine En.sr ?_
 refine WL.r ht hn 5 ⟨[qu3 Bk, sl 1 (LS intT w), qu4 w, sl 18 (.own 4), sl 19 (.v (.string (keyR w)))], (qu0 lt d Ws Es Kn Lg Bk Vk)⟩ ?_
 refine WL.mapPut (T := intT) keyS9 (k := (keyR w)) (y := 2) hn (by rfl) (.inl rfl) Try.underlying79 (by rfl) (by rfl) (by rfl) (by rfl) (by rfl) (by rfl) ?_
 refine WL.nil ?_
 refine En.sr ?_
 refine WL.r ht hn 5 ⟨[qu3 Bk, qu4 w, sl 23 (.pptr 1 0 (Bk 1)), sl 24 (LS intT w)], [qu2 lt Bk Vk, qu1 d, rowI 23 (lsT intT) Ws, rowI 23 (lsT intT) Es, mapI encS intT (mput (keyR w) 2 Kn), rowI 32 ApiQuery.ty Lg]⟩ ?_
 obtain ⟨hp, h⟩ := h
 refine WL.cE (lAsk_ct d Lg w hp) en136 [1, 5] hn rfl ?_
 refine WL.nil ?_
 refine En.ch h (fun h => ?_) (fun h => ?_)
 refine En.region ?_
 refine WL.r ht hn 5 ⟨[qu3 Bk, qu4 w, sl 29 (.own 4), sl 30 (.v (.string (keyR w)))], [qu2 lt Bk Vk, qu1 d, rowI 23 (lsT intT) Ws, rowI 23 (lsT intT) Es, mapI encS intT (mput (keyR w) 2 Kn), rowI 32 ApiQuery.ty (askL d w Lg)]⟩ ?_
 refine WL.mapPut (T := intT) keyS9 (k := (keyR w)) (y := 1) hn (by rfl) (.inl rfl) Try.underlying79 (by rfl) (by rfl) (by rfl) (by rfl) (by rfl) (by rfl) ?_
 refine WL.nil ?_
 exact En.at (I := fun zz => J zz.1 zz.2) (T := fun zz => ⟨[qu3 Bk, qu4 w], [qu2 lt Bk Vk, qu1 d, rowI 23 (lsT intT) Ws, rowI 23 (lsT intT) Es, mapI encS intT zz.1, rowI 32 ApiQuery.ty zz.2]⟩) ((mput (keyR w) 1 (mput (keyR w) 2 Kn)), (askL d w Lg)) h (by kernel_rfl)
 refine En.skip ?_
 exact En.at (I := fun zz => J zz.1 zz.2) (T := fun zz => ⟨[qu3 Bk, qu4 w], [qu2 lt Bk Vk, qu1 d, rowI 23 (lsT intT) Ws, rowI 23 (lsT intT) Es, mapI encS intT zz.1, rowI 32 ApiQuery.ty zz.2]⟩) ((mput (keyR w) 2 Kn), (askL d w Lg)) h (by kernel_rfl)
 refine En.skip ?_
 exact En.at (I := fun zz => J zz.1 zz.2) (T := fun zz => ⟨[qu3 Bk, qu4 w], [qu2 lt Bk Vk, qu1 d, rowI 23 (lsT intT) Ws, rowI 23 (lsT intT) Es, mapI encS intT zz.1, rowI 32 ApiQuery.ty zz.2]⟩) (Kn, Lg) h (by kernel_rfl)
 rintro ⟨m4, l5⟩ h
 replace h := hJ _ _ h
 show En c ⟨[qu3 Bk, qu4 w], [qu2 lt Bk Vk, qu1 d, rowI 23 (lsT intT) Ws, rowI 23 (lsT intT) Es, mapI encS intT m4, rowI 32 ApiQuery.ty l5]⟩ _
 refine En.sr ?_
 refine WL.r ht hn 5 ⟨[qu3 Bk, sl 34 (.own 4), sl 35 (.v (.string (keyR w)))], [qu2 lt Bk Vk, qu1 d, rowI 23 (lsT intT) Ws, rowI 23 (lsT intT) Es, mapI encS intT m4, rowI 32 ApiQuery.ty l5]⟩ ?_
 refine WL.v hn (val_lookup (T := intT) (D := m4) keyS9 (k := (keyR w)) (ok := false) (0 : Int) (zv := (.int .i64 0)) rfl Try.underlying79 (fun _ => by kernel_rfl) (fun _ => ⟨rfl, trivial⟩) (mapAs encS intT m4) (by rfl) (by rfl) (by rfl) (fun _ => rfl)) ?_
 refine WL.rn ht hn 2 ⟨[qu3 Bk, sl 4 (B (((mget (keyR w) m4).getD (0 : Int)) == 1))], [qu2 lt Bk Vk, qu1 d, rowI 23 (lsT intT) Ws, rowI 23 (lsT intT) Es, mapI encS intT m4, rowI 32 ApiQuery.ty l5]⟩ ?_
 refine En.ret ?_
 exact En.backP [(0, none), (0, some 0)] [(0, some 2), (0, some 3)] ht ((((mget (keyR w) m4).getD (0 : Int)) == 1), m4, l5) h (by kernel_rfl) (by rfl) rfl rfl
theorem en80 : ∀ args w, (callFunc 80 args).run Try.prog w = .ok (.enter 80 args) w := enters_of Try.func80 (by kernel_rfl) rfl
theorem lIs_ct (d : ApiDet) (lt : Int) (Ws : List (List Int)) (Es : List (List Int)) (Kn : List (ByteArray × Int)) (Lg : List ApiQuery) (w : List Int) (hp : IsPre d Kn Lg w)  : CtE 80 [.sv (.one (.ptr 0 0)), .sv (.one (LS intT w))] [.box [.ptr 1 0, I lt, .own 2, .own 3, .own 4] 81 false, .box [I d.fLetters, I d.fStart, LS (lsT intT) d.fNext, LS intT d.fMark, .own 5] 78 false, rowI 23 (lsT intT) Ws, rowI 23 (lsT intT) Es, mapI encS intT Kn, rowI 32 ApiQuery.ty Lg] [0, 1, 2, 3] (fun (_ : Unit) => True) (fun _ => .sv (.one (B (accB d w)))) (fun _ => [.box [.ptr 1 0, I lt, .own 2, .own 3, .own 4] 81 false, .box [I d.fLetters, I d.fStart, LS (lsT intT) d.fNext, LS intT d.fMark, .own 5] 78 false, rowI 23 (lsT intT) Ws, rowI 23 (lsT intT) Es, mapI encS intT (iK d w Kn Lg), rowI 32 ApiQuery.ty (iL d w Kn Lg)]) := by
 refine (lIs_walk d lt Ws Es Kn Lg w (fun res_ => res_ = (accB d w, iK d w Kn Lg, iL d w Kn Lg)) ?_).imp (fun r hr => ⟨(), trivial, by subst hr; rfl, by subst hr; rfl⟩)
 obtain ⟨ha, hk⟩ := hp
 unfold lIs_vc iK iL
 intro _
 have hL := ha.det.letters
 have h1 := (isKL_ok (s := (Kn, Lg)) hL.2 hk ha.wl).2
 refine ⟨by have := ha.len; omega, fun K l => K = (isKL (accB d) (Kn, Lg) w).1 ∧ l = (isKL (accB d) (Kn, Lg) w).2, ⟨fun h0 => ⟨ha, fun hy => ?_, fun hy => ?_⟩, fun h0 => ?_⟩, ?_⟩
 ·unfold isKL askS
  rw [if_pos h0, if_pos hy]
  exact ⟨rfl, rfl⟩
 ·unfold isKL askS
  rw [if_pos h0, if_neg (by rw [hy]; decide)]
  exact ⟨rfl, rfl⟩
 ·unfold isKL
  rw [if_neg (by rw [h0]; decide)]
  exact ⟨rfl, rfl⟩
 ·rintro _ _ ⟨rfl, rfl⟩
  show (((mget (keyR w) (isKL (accB d) (Kn, Lg) w).1).getD 0 == 1), _, _) = _
  rw [h1]
  exact congrArg (fun b => (b, _, _)) bitF_one
def lRow_vc (d : ApiDet) (lt : Int) (Ws : List (List Int)) (Es : List (List Int)) (Kn : List (ByteArray × Int)) (Lg : List ApiQuery) (w : List Int) (Q : ByteArray × (List (ByteArray × Int)) × (List ApiQuery) → Prop) : Prop :=
 w.length ≤ 9223372036854775807 →
 (∃ (Inv : Int → (List (ByteArray × Int)) → (List ApiQuery) → (List Int) → Prop) (mu : Int → (List (ByteArray × Int)) → (List ApiQuery) → (List Int) → Nat), Inv 0 Kn Lg ([] : List Int) ∧
 ∀ (x13 : Int) (m4 : List (ByteArray × Int)) (l5 : List ApiQuery) (l8 : List Int) , Inv x13 m4 l5 l8 → (IfP (decide (x13 < (Es.length : Int))) (∃ J : (List (ByteArray × Int)) → (List ApiQuery) → (List Int) → Prop, (∃ e, idx Es x13 = some e ∧
 (w.length * 8 ≤ 140737488355328) ∧
 capOk (w).length (e : List Int).length 8 ∧
 (IsPre d m4 l5 ((w) ++ e)) ∧
 IfP (accB d ((w) ++ e)) ((l8.length + 1 ≤ 100000000) ∧
 ∀ r : (List Int), ((fun L_ => L_ = l8 ++ [49])) r →
 (J (iK d ((w) ++ e) m4 l5) (iL d ((w) ++ e) m4 l5) r)) ((l8.length + 1 ≤ 100000000) ∧
 ∀ r_2 : (List Int), ((fun L_ => L_ = l8 ++ [48])) r_2 →
 (J (iK d ((w) ++ e) m4 l5) (iL d ((w) ++ e) m4 l5) r_2))) ∧
 (∀ (m4_2 : List (ByteArray × Int)) (l5_2 : List ApiQuery) (l8_2 : List Int), J m4_2 l5_2 l8_2 → (Inv (wr (x13 + 1)) m4_2 l5_2 l8_2 ∧ mu (wr (x13 + 1)) m4_2 l5_2 l8_2 < mu x13 m4 l5 l8))) ((0 < (l8).length ∧ ∀ x_ ∈ l8, 0 ≤ x_ ∧ x_ < 256) ∧
 ∀ r_3 : Unit, ((fun _ => True)) r_3 →
 (Q ((bytesOf l8), m4, l5)))))
noncomputable abbrev qv0 (d : ApiDet) := (.box [I d.fLetters, I d.fStart, LS (lsT intT) d.fNext, LS intT d.fMark, .own 5] 78 false : Item)
noncomputable abbrev qv1 (lt : Int) (y0 : Nat → Nat) (y1 : Nat → Value) := (.box [.pptr 1 0 (y0 1), I lt, .pown 2 (y1 2), .pown 3 (y1 3), .own 4] 81 false : Item)
noncomputable abbrev qv2 (w : List Int) (Es : List (List Int)) (y0 : Nat → Nat) (y1 : Nat → Value) (y2) := ([sl 0 (.pptr 0 0 (y0 0)), sl 1 (LS intT w), sl 5 (.ptr 6 0), sl 11 (.pown 3 (y1 3)), sl 12 (I (Es.length : Int)), sl 13 (I y2)] : List (Nat × SC))
noncomputable abbrev qv3 (y0 : Nat → Nat) := sl 0 (.pptr 0 0 (y0 0))
noncomputable abbrev qv4 := (.box [.opt 6, .own 8] 229 false : Item)
noncomputable abbrev qv5 (Es : List (List Int)) := sl 12 (I (Es.length : Int))
noncomputable abbrev qv6 (y0 : Nat → Value) := sl 11 (.pown 3 (y0 3))
noncomputable abbrev qv7 := sl 5 (.ptr 6 0)
noncomputable abbrev qv8 (w : List Int) := sl 1 (LS intT w)
noncomputable abbrev qv9 := (.box [.ptr 6 0, .own 8] 229 false : Item)
theorem lRow_walk (d : ApiDet) (lt : Int) (Ws : List (List Int)) (Es : List (List Int)) (Kn : List (ByteArray × Int)) (Lg : List ApiQuery) (w : List Int) (Q : ByteArray × (List (ByteArray × Int)) × (List ApiQuery) → Prop) (h : lRow_vc d lt Ws Es Kn Lg w Q) : CtE 79 [.sv (.one (.ptr 0 0)), .sv (.one (LS intT w))] [.box [.ptr 1 0, I lt, .own 2, .own 3, .own 4] 81 false, .box [I d.fLetters, I d.fStart, LS (lsT intT) d.fNext, LS intT d.fMark, .own 5] 78 false, rowI 23 (lsT intT) Ws, rowI 23 (lsT intT) Es, mapI encS intT Kn, rowI 32 ApiQuery.ty Lg] [0, 1, 2, 3] Q (fun (r : ByteArray × (List (ByteArray × Int)) × (List ApiQuery)) => .sv (.one (.v (.string r.1)))) (fun (r : ByteArray × (List (ByteArray × Int)) × (List ApiQuery)) => [.box [.ptr 1 0, I lt, .own 2, .own 3, .own 4] 81 false, .box [I d.fLetters, I d.fStart, LS (lsT intT) d.fNext, LS intT d.fMark, .own 5] 78 false, rowI 23 (lsT intT) Ws, rowI 23 (lsT intT) Es, mapI encS intT r.2.1, rowI 32 ApiQuery.ty r.2.2]) := by
 have ht := tab_ok
 refine CtE.bodyP [0, 1] [2, 3] Try.func79 rfl rfl rfl (by kernel_rfl) (by kernel_rfl) (fun c Bk Vk hn => ?_)
 unfold lRow_vc at h
 show En c ⟨[qv3 Bk, qv8 w], [qv1 lt Bk Vk, qv0 d, rowI 23 (lsT intT) Ws, rowI 23 (lsT intT) Es, mapI encS intT Kn, rowI 32 ApiQuery.ty Lg]⟩ _
 refine En.lenL 1 (by rfl) (fun hl => ?_)
 replace h := h hl
 clear hl
 refine En.sr ?_
 refine WL.rn ht hn 1 ⟨[qv3 Bk, qv8 w], [qv1 lt Bk Vk, qv0 d, rowI 23 (lsT intT) Ws, rowI 23 (lsT intT) Es, mapI encS intT Kn, rowI 32 ApiQuery.ty Lg]⟩ ?_
 refine En.sr ?_
 refine WL.rn ht hn 1 ⟨[qv3 Bk, qv8 w, qv7], [qv1 lt Bk Vk, qv0 d, rowI 23 (lsT intT) Ws, rowI 23 (lsT intT) Es, mapI encS intT Kn, rowI 32 ApiQuery.ty Lg, .box [.v (.pointer none), .v (.slice none 0 0)] 229 false]⟩ ?_
 refine En.seq ?_
 refine En.sr ?_
 refine WL.rn ht hn 6 ⟨[qv3 Bk, qv8 w, qv7, qv6 Vk, qv5 Es, sl 13 (I 0)], [qv1 lt Bk Vk, qv0 d, rowI 23 (lsT intT) Ws, rowI 23 (lsT intT) Es, mapI encS intT Kn, rowI 32 ApiQuery.ty Lg, .box [.v (.pointer none), .v (.slice none 0 0)] 229 false]⟩ ?_
 refine En.block ?_
 refine En.boxTurn (.opt 6) 6 0 (by rfl) (by rfl) (turnNil 6) ?_
 refine En.nilBoxO (T := (intKT .u8)) 6 1 8 5 (by rfl) (by rfl) (by rfl) (by rfl) ?_
 obtain ⟨Inv, mu, h0, hI⟩ := h
 refine En.loop (σ := Int × (List (ByteArray × Int)) × (List ApiQuery) × (List Int)) (fun zz => Inv zz.1 zz.2.1 zz.2.2.1 zz.2.2.2) (fun zz => mu zz.1 zz.2.1 zz.2.2.1 zz.2.2.2) (fun zz => ⟨[qv3 Bk, qv8 w, qv7, qv6 Vk, qv5 Es, sl 13 (I zz.1)], [qv1 lt Bk Vk, qv0 d, rowI 23 (lsT intT) Ws, rowI 23 (lsT intT) Es, mapI encS intT zz.2.1, rowI 32 ApiQuery.ty zz.2.2.1, qv4, .gone, rowI 5 (intKT .u8) zz.2.2.2]⟩) (0, Kn, Lg, ([] : List Int)) h0 (sub_ok (by kernel_rfl)) ?_
 rintro ⟨x13, m4, l5, l8⟩ h
 replace h := hI _ _ _ _ h
 show En c ⟨(qv2 w Es Bk Vk x13), [qv1 lt Bk Vk, qv0 d, rowI 23 (lsT intT) Ws, rowI 23 (lsT intT) Es, mapI encS intT m4, rowI 32 ApiQuery.ty l5, qv4, .gone, rowI 5 (intKT .u8) l8]⟩ _
 refine En.sr ?_
 refine WL.rn ht hn 1 ⟨[qv3 Bk, qv8 w, qv7, qv6 Vk, qv5 Es, sl 13 (I x13), sl 14 (B (decide (x13 < (Es.length : Int))))], [qv1 lt Bk Vk, qv0 d, rowI 23 (lsT intT) Ws, rowI 23 (lsT intT) Es, mapI encS intT m4, rowI 32 ApiQuery.ty l5, qv4, .gone, rowI 5 (intKT .u8) l8]⟩ ?_
 refine En.seq ?_
 refine En.ch h (fun h => ?_) (fun h => ?_)
 refine En.skip ?_
 obtain ⟨J, h, hJ⟩ := h
 refine En.seqJ (σ := (List (ByteArray × Int)) × (List ApiQuery) × (List Int)) (fun zz => J zz.1 zz.2.1 zz.2.2) (fun zz => ⟨(qv2 w Es Bk Vk x13), [qv1 lt Bk Vk, qv0 d, rowI 23 (lsT intT) Ws, rowI 23 (lsT intT) Es, mapI encS intT zz.1, rowI 32 ApiQuery.ty zz.2.1, qv9, .gone, rowI 5 (intKT .u8) zz.2.2, .gone]⟩) ?_ ?_
 refine En.block ?_
 refine En.sr ?_
 obtain ⟨e, he, h⟩ := h
 refine WL.v hn (val_indexO (T := (lsT intT)) (l := Es) (k := x13) ht rfl (by rfl) (by rfl) (by rfl) (by rfl) (by decide) (by rfl) (by rfl) (by rfl) he) ?_
 refine WL.v hn (val_loadO (T := (lsT intT)) (l := Es) (y := e) ht rfl (by rfl) (by rfl) (by rfl) (by rfl) (by rfl) (idx_some he).2.2 (by rfl)) ?_
 refine WL.rn ht hn 1 ⟨[qv3 Bk, qv8 w, qv7, sl 7 (LS intT e), qv6 Vk, qv5 Es, sl 13 (I x13)], [qv1 lt Bk Vk, qv0 d, rowI 23 (lsT intT) Ws, rowI 23 (lsT intT) Es, mapI encS intT m4, rowI 32 ApiQuery.ty l5, qv4, .gone, rowI 5 (intKT .u8) l8]⟩ ?_
 refine En.sr ?_
 refine WL.r ht hn 2 ⟨[qv3 Bk, qv8 w, qv7, sl 7 (LS intT e), qv6 Vk, qv5 Es, sl 13 (I x13), sl 17 (.ptr 0 0), sl 18 (LS intT w)], [qv1 lt Bk Vk, qv0 d, rowI 23 (lsT intT) Ws, rowI 23 (lsT intT) Es, mapI encS intT m4, rowI 32 ApiQuery.ty l5, qv4, .gone, rowI 5 (intKT .u8) l8]⟩ ?_
 obtain ⟨hp, h⟩ := h
 refine WL.mt0 (K := []) (p := some (9, rowI 3 intT w)) hn (by rfl) (mt_callI 9 (cloneInt_ct w hp) en37 (caps := []) [] rfl rfl (by rfl) (by kernel_rfl) (by kernel_rfl) (by rfl) (by rfl)) (by rfl) (by rfl) (by rfl) ?_
 refine WL.r ht hn 1 ⟨[qv3 Bk, qv8 w, qv7, qv6 Vk, qv5 Es, sl 13 (I x13), sl 17 (.ptr 0 0), sl 19 (.own 9), sl 20 (LS intT e)], [qv1 lt Bk Vk, qv0 d, rowI 23 (lsT intT) Ws, rowI 23 (lsT intT) Es, mapI encS intT m4, rowI 32 ApiQuery.ty l5, qv4, .gone, rowI 5 (intKT .u8) l8, rowI 3 intT w]⟩ ?_
 obtain ⟨hp, h⟩ := h
 refine WL.mt (S2 := ⟨[qv3 Bk, qv8 w, qv7, qv6 Vk, qv5 Es, sl 13 (I x13), sl 17 (.ptr 0 0), sl 20 (LS intT e)], [qv1 lt Bk Vk, qv0 d, rowI 23 (lsT intT) Ws, rowI 23 (lsT intT) Es, mapI encS intT m4, rowI 32 ApiQuery.ty l5, qv4, .gone, rowI 5 (intKT .u8) l8, rowI 3 intT w]⟩) (K := [9]) (p := some (9, rowI 3 intT (w ++ e))) hn (by rfl) (mt_append (T := intT) (l := w) (es := e) ht rfl (by rfl) (by rfl) (by rfl) (by rfl) (by decide) (by rfl) (by rfl) (srcLS (T := intT) (es := e) (fun _ h => by cases h) (by decide) (by rfl)) (by exact hp) (by exact hp.le (by decide))) (by kernel_rfl) (by rfl) (by rfl) (by rfl) ?_
 refine WL.seal (T := intT) (l := (w ++ e)) (e := 3) 9 rfl ?_
 refine WL.r ht hn 0 ⟨[qv3 Bk, qv8 w, qv7, qv6 Vk, qv5 Es, sl 13 (I x13), sl 17 (.ptr 0 0), sl 20 (LS intT e), sl 21 (LS intT (w ++ e))], [qv1 lt Bk Vk, qv0 d, rowI 23 (lsT intT) Ws, rowI 23 (lsT intT) Es, mapI encS intT m4, rowI 32 ApiQuery.ty l5, qv4, .gone, rowI 5 (intKT .u8) l8, .gone]⟩ ?_
 obtain ⟨hp, h⟩ := h
 refine WL.cE (CtE.kept (lIs_ct d lt Ws Es m4 l5 (w ++ e) hp) [(2, Vk 2), (3, Vk 3)] [(1, Bk 1)] (by kernel_rfl)) en80 [0, 1, 2, 3, 4, 5] hn rfl ?_
 refine WL.nil ?_
 refine En.ch h (fun h => ?_) (fun h => ?_)
 refine En.region ?_
 obtain ⟨hp, h⟩ := h
 refine WL.callQ [qv3 Bk, qv8 w, qv7, qv6 Vk, qv5 Es, sl 13 (I x13), sl 17 (.ptr 0 0), sl 20 (LS intT e), sl 21 (LS intT (w ++ e)), sl 22 (B (accB d (w ++ e)))] (bWb_ct l8 49 hp) en134 (caps := []) [6, 8] hn (by rfl) rfl (by rfl) (argsAs (by kernel_rfl) (by rfl)) (by kernel_rfl) (by decide) (by kernel_rfl) (by rfl) (by rfl) (fun r hr_2 => ⟨by rfl, _, by rfl, ?_⟩)
 replace h := h r hr_2
 refine WL.nil ?_
 exact En.at (I := fun zz => J zz.1 zz.2.1 zz.2.2) (T := fun zz => ⟨(qv2 w Es Bk Vk x13), [qv1 lt Bk Vk, qv0 d, rowI 23 (lsT intT) Ws, rowI 23 (lsT intT) Es, mapI encS intT zz.1, rowI 32 ApiQuery.ty zz.2.1, qv9, .gone, rowI 5 (intKT .u8) zz.2.2, .gone]⟩) ((iK d (w ++ e) m4 l5), (iL d (w ++ e) m4 l5), r) h (by kernel_rfl)
 refine En.region ?_
 obtain ⟨hp, h⟩ := h
 refine WL.callQ [qv3 Bk, qv8 w, qv7, qv6 Vk, qv5 Es, sl 13 (I x13), sl 17 (.ptr 0 0), sl 20 (LS intT e), sl 21 (LS intT (w ++ e)), sl 22 (B (accB d (w ++ e)))] (bWb_ct l8 48 hp) en134 (caps := []) [6, 8] hn (by rfl) rfl (by rfl) (argsAs (by kernel_rfl) (by rfl)) (by kernel_rfl) (by decide) (by kernel_rfl) (by rfl) (by rfl) (fun r_2 hr_2_2 => ⟨by rfl, _, by rfl, ?_⟩)
 replace h := h r_2 hr_2_2
 refine WL.nil ?_
 exact En.at (I := fun zz => J zz.1 zz.2.1 zz.2.2) (T := fun zz => ⟨(qv2 w Es Bk Vk x13), [qv1 lt Bk Vk, qv0 d, rowI 23 (lsT intT) Ws, rowI 23 (lsT intT) Es, mapI encS intT zz.1, rowI 32 ApiQuery.ty zz.2.1, qv9, .gone, rowI 5 (intKT .u8) zz.2.2, .gone]⟩) ((iK d (w ++ e) m4 l5), (iL d (w ++ e) m4 l5), r_2) h (by kernel_rfl)
 rintro ⟨m4_2, l5_2, l8_2⟩ h
 replace h := hJ _ _ _ h
 show En c ⟨(qv2 w Es Bk Vk x13), [qv1 lt Bk Vk, qv0 d, rowI 23 (lsT intT) Ws, rowI 23 (lsT intT) Es, mapI encS intT m4_2, rowI 32 ApiQuery.ty l5_2, qv9, .gone, rowI 5 (intKT .u8) l8_2, .gone]⟩ _
 refine En.region ?_
 refine WL.rn ht hn 2 ⟨[qv3 Bk, qv8 w, qv7, qv6 Vk, qv5 Es, sl 13 (I (wr (x13 + 1)))], [qv1 lt Bk Vk, qv0 d, rowI 23 (lsT intT) Ws, rowI 23 (lsT intT) Es, mapI encS intT m4_2, rowI 32 ApiQuery.ty l5_2, qv9, .gone, rowI 5 (intKT .u8) l8_2, .gone]⟩ ?_
 refine En.boxTurn (.opt 6) 6 0 (by rfl) (by rfl) (turnPtr 6) ?_
 exact En.at (I := fun zz => Inv zz.1 zz.2.1 zz.2.2.1 zz.2.2.2 ∧ mu zz.1 zz.2.1 zz.2.2.1 zz.2.2.2 < mu x13 m4 l5 l8) (T := fun zz => ⟨[qv3 Bk, qv8 w, qv7, qv6 Vk, qv5 Es, sl 13 (I zz.1)], [qv1 lt Bk Vk, qv0 d, rowI 23 (lsT intT) Ws, rowI 23 (lsT intT) Es, mapI encS intT zz.2.1, rowI 32 ApiQuery.ty zz.2.2.1, qv4, .gone, rowI 5 (intKT .u8) zz.2.2.2]⟩) ((wr (x13 + 1)), m4_2, l5_2, l8_2) h (by kernel_rfl)
 refine En.exit rfl ?_
 refine En.sr ?_
 obtain ⟨hp, h⟩ := h
 refine WL.callQ [qv3 Bk, qv8 w, qv7, qv6 Vk, qv5 Es, sl 13 (I x13), sl 14 (B (decide (x13 < (Es.length : Int))))] (bStr_ct l8 hp) en135 (caps := []) [6, 8] hn (by rfl) rfl (by rfl) (argsAs (by kernel_rfl) (by rfl)) (by kernel_rfl) (by decide) (by kernel_rfl) (by rfl) (by rfl) (fun r_3 hr_3 => ⟨by rfl, _, by rfl, ?_⟩)
 replace h := h r_3 hr_3
 refine WL.rn ht hn 1 ⟨[qv3 Bk, sl 4 (.v (.string (bytesOf l8)))], [qv1 lt Bk Vk, qv0 d, rowI 23 (lsT intT) Ws, rowI 23 (lsT intT) Es, mapI encS intT m4, rowI 32 ApiQuery.ty l5, .gone, .gone, .gone]⟩ ?_
 refine En.ret ?_
 exact En.backP [(0, none), (0, some 0)] [(0, some 2), (0, some 3)] ht ((bytesOf l8), m4, l5) h (by kernel_rfl) (by rfl) rfl rfl
theorem en79 : ∀ args w, (callFunc 79 args).run Try.prog w = .ok (.enter 79 args) w := enters_of Try.func79 (by kernel_rfl) rfl
theorem lRow_ct (d : ApiDet) (lt : Int) (Ws : List (List Int)) (Es : List (List Int)) (Kn : List (ByteArray × Int)) (Lg : List ApiQuery) (w : List Int) (hp : RowPre d Es Kn Lg w)  : CtE 79 [.sv (.one (.ptr 0 0)), .sv (.one (LS intT w))] [.box [.ptr 1 0, I lt, .own 2, .own 3, .own 4] 81 false, .box [I d.fLetters, I d.fStart, LS (lsT intT) d.fNext, LS intT d.fMark, .own 5] 78 false, rowI 23 (lsT intT) Ws, rowI 23 (lsT intT) Es, mapI encS intT Kn, rowI 32 ApiQuery.ty Lg] [0, 1, 2, 3] (fun (_ : Unit) => True) (fun _ => .sv (.one (.v (.string (rB d Es w))))) (fun _ => [.box [.ptr 1 0, I lt, .own 2, .own 3, .own 4] 81 false, .box [I d.fLetters, I d.fStart, LS (lsT intT) d.fNext, LS intT d.fMark, .own 5] 78 false, rowI 23 (lsT intT) Ws, rowI 23 (lsT intT) Es, mapI encS intT (rK d Es w Kn Lg), rowI 32 ApiQuery.ty (rL d Es w Kn Lg)]) := by
 refine (lRow_walk d lt Ws Es Kn Lg w (fun res_ => res_ = (rB d Es w, rK d Es w Kn Lg, rL d Es w Kn Lg)) ?_).imp (fun r hr => ⟨(), trivial, by subst hr; rfl, by subst hr; rfl⟩)
 obtain ⟨hd, hw, hl, hE, hs, hg, hk⟩ := hp
 unfold lRow_vc rB rK rL iK iL
 intro _
 have hL := hd.letters
 refine ⟨fun i K l r => ∃ k : Nat, i = k ∧ k ≤ Es.length ∧ (K, l) = rowKL (accB d) (Es.take k) w (Kn, Lg) ∧ r = rowB (accB d) (Es.take k) w, fun i _ _ _ => Es.length - i.toNat, ⟨0, rfl, Nat.zero_le _, rfl, rfl⟩, ?_⟩
 rintro i K l r ⟨k, rfl, hk2, hKl, rfl⟩
 have hkn := rowKL_ok (f := accB d) hL.2 hw (Es.take k) (Kn, Lg) (fun e he => (hE e (List.mem_of_mem_take he)).1) hk
 obtain ⟨R, hR, hRl⟩ := fold_isKL_log (f := accB d) (w := w) (Es.take k) (Kn, Lg)
 rw [← hKl] at hkn hR
 have hlog : l.length ≤ 100000000 + Es.length := by
  have : l = Lg ++ R := hR
  rw [this, List.length_append]
  rw [List.length_take] at hRl
  omega
 have hrl : (rowB (accB d) (Es.take k) w).length = k := by unfold rowB; rw [List.length_map, List.length_take]; omega
 refine ⟨fun hb => ?_, fun hb => ?_⟩
 ·have hlt := dlt hb
  have he := hE _ (List.getElem_mem hlt)
  have hnext : rowKL (accB d) (Es.take (k + 1)) w (Kn, Lg) = isKL (accB d) (K, l) (w ++ Es[k]) := by
   rw [hKl, List.take_add_one, List.getElem?_eq_getElem hlt]
   unfold rowKL
   rw [List.foldl_append]
   rfl
  have hrow : rowB (accB d) (Es.take (k + 1)) w = rowB (accB d) (Es.take k) w ++ [if accB d (w ++ Es[k]) = true then 49 else 48] := by
   rw [List.take_add_one, List.getElem?_eq_getElem hlt]
   unfold rowB
   rw [List.map_append]
   rfl
  refine ⟨fun K' l' r' => K' = (isKL (accB d) (K, l) (w ++ Es[k])).1 ∧ l' = (isKL (accB d) (K, l) (w ++ Es[k])).2 ∧ r' = rowB (accB d) (Es.take k) w ++ [if accB d (w ++ Es[k]) = true then 49 else 48], ⟨_, idx_at hlt, by omega, capOk_of (by omega), ⟨⟨hd, hw.app he.1, by rw [List.length_append]; omega, by omega⟩, hkn⟩, fun hy => ⟨by omega, ?_⟩, fun hy => ⟨by omega, ?_⟩⟩, ?_⟩
  ·rintro _ rfl
   exact ⟨rfl, rfl, by rw [if_pos hy]⟩
  ·rintro _ rfl
   exact ⟨rfl, rfl, by rw [if_neg (by rw [hy]; decide)]⟩
  ·rintro _ _ _ ⟨rfl, rfl, rfl⟩
   exact ⟨⟨k + 1, wsucc (by omega), hlt, hnext.symm, hrow.symm⟩, mu_up hlt (by omega)⟩
 ·have hge := dge hb
  rw [List.take_of_length_le hge] at hKl ⊢
  refine ⟨⟨?_, fun x hx => ?_⟩, fun _ _ => ?_⟩
  ·unfold rowB
   rw [List.length_map]
   exact hs.1
  ·have := rowB_rb x hx
   omega
  ·rw [← hKl]
structure GuePre (d : ApiDet) (lt : Int) (Ws Es : List (List Int)) (Kn : KMap) (Lg : List ApiQuery) : Prop where
 det : DetOk d
 small : d.fNext.length ≤ 12
 lt : lt = d.fLetters
 wok : WsOk d.fLetters Ws
 dist : Dist (accB d) Es Ws
 ends : ∀ e ∈ Es, LtrW d.fLetters e ∧ e.length ≤ 200
 some : 0 < Es.length ∧ Es.length ≤ 100000
 log : Lg.length ≤ 50000000
 kn : KnOk d.fLetters (accB d) Kn
theorem getD_get {l : List (List Int)} {k : Nat} (h : k < l.length) : l.getD k [] = l[k] := by rw [List.getD_eq_getElem?_getD, List.getElem?_eq_getElem h]; rfl
theorem letF_some {f : List Int → Bool} {Es : List (List Int)} {w : List Int} {a : Nat} {t : GSt} (h : (!(mget (bytesOf (rowB f Es w)) t.nm).isSome) = true) : letF f Es w a t = ⟨t.ws ++ [w], rowKL f Es w t.kl, mput (bytesOf (rowB f Es w)) (t.ws.length : Int) t.nm, t.nx.set a (t.ws.length : Int), t.next⟩ := if_pos h
theorem letF_none {f : List Int → Bool} {Es : List (List Int)} {w : List Int} {a : Nat} {t : GSt} (h : (!(mget (bytesOf (rowB f Es w)) t.nm).isSome) = false) : letF f Es w a t = ⟨t.ws, rowKL f Es w t.kl, t.nm, t.nx.set a ((mget (bytesOf (rowB f Es w)) t.nm).getD 0), t.next⟩ := if_neg (by rw [h]; decide)
theorem wr_up {k : Nat} (h : k < 1000000) : wr ((k : Int) + 1) = ((k + 1 : Nat) : Int) := wsucc (by omega)
def lGue_vc (d : ApiDet) (lt : Int) (Ws : List (List Int)) (Es : List (List Int)) (Kn : List (ByteArray × Int)) (Lg : List ApiQuery) (Q : ApiDet × (List (List Int)) × (List (ByteArray × Int)) × (List ApiQuery) → Prop) : Prop :=
 ∃ (Inv : Int → (List (ByteArray × Int)) → (List ApiQuery) → (List (ByteArray × Int)) → Prop) (mu : Int → (List (ByteArray × Int)) → (List ApiQuery) → (List (ByteArray × Int)) → Nat), Inv 0 Kn Lg ([] : List (ByteArray × Int)) ∧
 ∀ (x28 : Int) (m4 : List (ByteArray × Int)) (l5 : List ApiQuery) (m8 : List (ByteArray × Int)) , Inv x28 m4 l5 m8 → (IfP (decide (x28 < (Ws.length : Int))) (∃ e, idx Ws x28 = some e ∧
 (RowPre d Es m4 l5 e) ∧
 (Inv (wr (x28 + 1)) (rK d Es e m4 l5) (rL d Es e m4 l5) (mput (rB d Es e) x28 m8) ∧ mu (wr (x28 + 1)) (rK d Es e m4 l5) (rL d Es e m4 l5) (mput (rB d Es e) x28 m8) < mu x28 m4 l5 m8)) (∃ (Inv_2 : Int → (List (List Int)) → (List (ByteArray × Int)) → (List ApiQuery) → (List (ByteArray × Int)) → (List (List Int)) → Prop) (mu_2 : Int → (List (List Int)) → (List (ByteArray × Int)) → (List ApiQuery) → (List (ByteArray × Int)) → (List (List Int)) → Nat), Inv_2 0 Ws m4 l5 m8 ([] : List (List Int)) ∧
 ∀ (x7 : Int) (l2 : List (List Int)) (m4_2 : List (ByteArray × Int)) (l5_2 : List ApiQuery) (m8_2 : List (ByteArray × Int)) (l11 : List (List Int)) , Inv_2 x7 l2 m4_2 l5_2 m8_2 l11 → (IfP (decide (x7 < (l2.length : Int))) (makeOk lt lt 8 ∧
 ∃ (Inv_3 : Int → (List (List Int)) → (List (ByteArray × Int)) → (List ApiQuery) → (List (ByteArray × Int)) → (List Int) → Prop) (mu_3 : Int → (List (List Int)) → (List (ByteArray × Int)) → (List ApiQuery) → (List (ByteArray × Int)) → (List Int) → Nat), Inv_3 0 l2 m4_2 l5_2 m8_2 (List.replicate (lt).toNat (0 : Int)) ∧
 ∀ (x55 : Int) (l2_2 : List (List Int)) (m4_3 : List (ByteArray × Int)) (l5_3 : List ApiQuery) (m8_3 : List (ByteArray × Int)) (l12 : List Int) , Inv_3 x55 l2_2 m4_3 l5_3 m8_3 l12 → (IfP (decide (x55 < ((List.replicate (lt).toNat (0 : Int)).length : Int))) (∃ e_2, idx l2_2 x7 = some e_2 ∧
 (e_2.length * 8 ≤ 140737488355328) ∧
 capOk (e_2).length (([x55] : List Int) : List Int).length 8 ∧
 (RowPre d Es m4_3 l5_3 ((e_2) ++ ([x55] : List Int))) ∧
 ∃ J : Int → (List (List Int)) → (List (ByteArray × Int)) → Prop, (IfP (!(mget (rB d Es ((e_2) ++ ([x55] : List Int))) m8_3).isSome) (capOk l2_2.length (([((e_2) ++ ([x55] : List Int))] : List (List Int)) : List (List Int)).length 24 ∧
 J (l2_2.length : Int) (l2_2 ++ ([((e_2) ++ ([x55] : List Int))] : List (List Int))) (mput (rB d Es ((e_2) ++ ([x55] : List Int))) (l2_2.length : Int) m8_3)) (J ((mget (rB d Es ((e_2) ++ ([x55] : List Int))) m8_3).getD (0 : Int)) l2_2 m8_3)) ∧
 (∀ (x12 : Int) (l2_3 : List (List Int)) (m8_4 : List (ByteArray × Int)), J x12 l2_3 m8_4 → ∃ e_3, idx l12 x55 = some e_3 ∧
 (Inv_3 (wr (x55 + 1)) l2_3 (rK d Es ((e_2) ++ ([x55] : List Int)) m4_3 l5_3) (rL d Es ((e_2) ++ ([x55] : List Int)) m4_3 l5_3) m8_4 (l12.set (x55).toNat x12) ∧ mu_3 (wr (x55 + 1)) l2_3 (rK d Es ((e_2) ++ ([x55] : List Int)) m4_3 l5_3) (rL d Es ((e_2) ++ ([x55] : List Int)) m4_3 l5_3) m8_4 (l12.set (x55).toNat x12) < mu_3 x55 l2_2 m4_3 l5_3 m8_3 l12))) (capOk l11.length (([l12] : List (List Int)) : List (List Int)).length 24 ∧
 (Inv_2 (wr (x7 + 1)) l2_2 m4_3 l5_3 m8_3 (l11 ++ ([l12] : List (List Int))) ∧ mu_2 (wr (x7 + 1)) l2_2 m4_3 l5_3 m8_3 (l11 ++ ([l12] : List (List Int))) < mu_2 x7 l2 m4_2 l5_2 m8_2 l11)))) (∃ (Inv_4 : Int → (List (ByteArray × Int)) → (List ApiQuery) → (List Int) → Prop) (mu_4 : Int → (List (ByteArray × Int)) → (List ApiQuery) → (List Int) → Nat), Inv_4 0 m4_2 l5_2 ([] : List Int) ∧
 ∀ (x114 : Int) (m4_4 : List (ByteArray × Int)) (l5_4 : List ApiQuery) (l13 : List Int) , Inv_4 x114 m4_4 l5_4 l13 → (IfP (decide (x114 < (l2.length : Int))) (∃ e_4, idx l2 x114 = some e_4 ∧
 ∃ J_2 : Int → Prop, ((IsPre d m4_4 l5_4 e_4) ∧
 IfP (accB d e_4) (J_2 1) (J_2 0)) ∧
 (∀ (x16 : Int), J_2 x16 → capOk l13.length (([x16] : List Int) : List Int).length 8 ∧
 (Inv_4 (wr (x114 + 1)) (iK d e_4 m4_4 l5_4) (iL d e_4 m4_4 l5_4) (l13 ++ ([x16] : List Int)) ∧ mu_4 (wr (x114 + 1)) (iK d e_4 m4_4 l5_4) (iL d e_4 m4_4 l5_4) (l13 ++ ([x16] : List Int)) < mu_4 x114 m4_4 l5_4 l13))) (Q ((ApiDet.mk lt 0 l11 l13), l2, m4_4, l5_4)))))))
noncomputable abbrev qw0 (d : ApiDet) := (.box [I d.fLetters, I d.fStart, LS (lsT intT) d.fNext, LS intT d.fMark, .own 5] 78 false : Item)
noncomputable abbrev qw1 := (.box [I 0, I 0, .v (.slice none 0 0), .v (.slice none 0 0)] 25 false : Item)
noncomputable abbrev qw2 (lt : Int) (y0 : Nat → Nat) (y1 : Nat → Value) := (.box [.pptr 1 0 (y0 1), I lt, .own 2, .pown 3 (y1 3), .own 4] 81 false : Item)
noncomputable abbrev qw3 (lt : Int) := (.box [I lt, I 0, .own 11, .v (.slice none 0 0)] 25 false : Item)
noncomputable abbrev qw4 (lt : Int) := sl 54 (I ((List.replicate (lt).toNat (0 : Int)).length : Int))
noncomputable abbrev qw5 (y0 : Nat → Nat) := sl 0 (.pptr 0 0 (y0 0))
noncomputable abbrev qw6 := sl 2 (.ptr 6 0)
noncomputable abbrev qw7 (lt : Int) := (.box [I lt, I 0, .v (.slice none 0 0), .v (.slice none 0 0)] 25 false : Item)
noncomputable abbrev qw8 := sl 3 (.ptr 7 0)
noncomputable abbrev qw9 (lt : Int) := (.box [I lt, I 0, .own 11, .own 13] 25 false : Item)
noncomputable abbrev qw10 := (List (List Int))
noncomputable abbrev qw11 := sl 8 (.own 12)
noncomputable abbrev qw12 := sl 112 (.own 2)
noncomputable abbrev qw13 (Ws : List (List Int)) := sl 27 (I (Ws.length : Int))
noncomputable abbrev qw14 := (List (ByteArray × Int))
noncomputable abbrev qw15 (lt : Int) := (List.replicate (lt).toNat (0 : Int))
set_option maxHeartbeats 2000000 in
theorem lGue_walk (d : ApiDet) (lt : Int) (Ws : List (List Int)) (Es : List (List Int)) (Kn : List (ByteArray × Int)) (Lg : List ApiQuery) (Q : ApiDet × (List (List Int)) × (List (ByteArray × Int)) × (List ApiQuery) → Prop) (h : lGue_vc d lt Ws Es Kn Lg Q) : CtE 33 [.sv (.one (.ptr 0 0))] [.box [.ptr 1 0, I lt, .own 2, .own 3, .own 4] 81 false, .box [I d.fLetters, I d.fStart, LS (lsT intT) d.fNext, LS intT d.fMark, .own 5] 78 false, rowI 23 (lsT intT) Ws, rowI 23 (lsT intT) Es, mapI encS intT Kn, rowI 32 ApiQuery.ty Lg] [0, 1, 3] Q (fun (r : ApiDet × (List (List Int)) × (List (ByteArray × Int)) × (List ApiQuery)) => .sv (.agg [I r.1.fLetters, I r.1.fStart, LS (lsT intT) r.1.fNext, LS intT r.1.fMark])) (fun (r : ApiDet × (List (List Int)) × (List (ByteArray × Int)) × (List ApiQuery)) => [.box [.ptr 1 0, I lt, .own 2, .own 3, .own 4] 81 false, .box [I d.fLetters, I d.fStart, LS (lsT intT) d.fNext, LS intT d.fMark, .own 5] 78 false, rowI 23 (lsT intT) r.2.1, rowI 23 (lsT intT) Es, mapI encS intT r.2.2.1, rowI 32 ApiQuery.ty r.2.2.2]) := by
 have ht := tab_ok
 refine CtE.bodyP [0, 1] [3] Try.func33 rfl rfl rfl (by kernel_rfl) (by kernel_rfl) (fun c Bk Vk hn => ?_)
 unfold lGue_vc at h
 show En c ⟨[qw5 Bk], [qw2 lt Bk Vk, qw0 d, rowI 23 (lsT intT) Ws, rowI 23 (lsT intT) Es, mapI encS intT Kn, rowI 32 ApiQuery.ty Lg]⟩ _
 refine En.sr ?_
 refine WL.rn ht hn 1 ⟨[qw5 Bk, qw6], [qw2 lt Bk Vk, qw0 d, rowI 23 (lsT intT) Ws, rowI 23 (lsT intT) Es, mapI encS intT Kn, rowI 32 ApiQuery.ty Lg, qw1]⟩ ?_
 refine En.sr ?_
 refine WL.rn ht hn 7 ⟨[qw5 Bk, qw6, qw8], [qw2 lt Bk Vk, qw0 d, rowI 23 (lsT intT) Ws, rowI 23 (lsT intT) Es, mapI encS intT Kn, rowI 32 ApiQuery.ty Lg, qw1, qw7 lt]⟩ ?_
 refine En.sr ?_
 refine WL.mt0 (K := []) (p := some (8, mapI encS intT ([] : List (ByteArray × Int)))) hn (by rfl) (mt_makeMap encS intT 8 rfl) (by rfl) (by rfl) (by rfl) ?_
 refine WL.rn ht hn 1 ⟨[qw5 Bk, qw6, qw8, sl 4 (.own 8)], [qw2 lt Bk Vk, qw0 d, rowI 23 (lsT intT) Ws, rowI 23 (lsT intT) Es, mapI encS intT Kn, rowI 32 ApiQuery.ty Lg, qw1, qw7 lt, mapI encS intT ([] : List (ByteArray × Int))]⟩ ?_
 refine En.seq ?_
 refine En.sr ?_
 refine WL.rn ht hn 6 ⟨[qw5 Bk, qw6, qw8, sl 4 (.own 8), sl 26 (.own 2), qw13 Ws, sl 28 (I 0)], [qw2 lt Bk Vk, qw0 d, rowI 23 (lsT intT) Ws, rowI 23 (lsT intT) Es, mapI encS intT Kn, rowI 32 ApiQuery.ty Lg, qw1, qw7 lt, mapI encS intT ([] : List (ByteArray × Int))]⟩ ?_
 refine En.block ?_
 obtain ⟨Inv, mu, h0_4, hI_4⟩ := h
 refine En.loop (σ := Int × qw14 × (List ApiQuery) × qw14) (fun zz => Inv zz.1 zz.2.1 zz.2.2.1 zz.2.2.2) (fun zz => mu zz.1 zz.2.1 zz.2.2.1 zz.2.2.2) (fun zz => ⟨[qw5 Bk, qw6, qw8, sl 4 (.own 8), sl 26 (.own 2), qw13 Ws, sl 28 (I zz.1)], [qw2 lt Bk Vk, qw0 d, rowI 23 (lsT intT) Ws, rowI 23 (lsT intT) Es, mapI encS intT zz.2.1, rowI 32 ApiQuery.ty zz.2.2.1, qw1, qw7 lt, mapI encS intT zz.2.2.2]⟩) (0, Kn, Lg, ([] : List (ByteArray × Int))) h0_4 (sub_ok (by kernel_rfl)) ?_
 rintro ⟨x28, m4, l5, m8⟩ h
 replace h := hI_4 _ _ _ _ h
 show En c ⟨[qw5 Bk, qw6, qw8, sl 4 (.own 8), sl 26 (.own 2), qw13 Ws, sl 28 (I x28)], [qw2 lt Bk Vk, qw0 d, rowI 23 (lsT intT) Ws, rowI 23 (lsT intT) Es, mapI encS intT m4, rowI 32 ApiQuery.ty l5, qw1, qw7 lt, mapI encS intT m8]⟩ _
 refine En.sr ?_
 refine WL.rn ht hn 1 ⟨[qw5 Bk, qw6, qw8, sl 4 (.own 8), sl 26 (.own 2), qw13 Ws, sl 28 (I x28), sl 29 (B (decide (x28 < (Ws.length : Int))))], [qw2 lt Bk Vk, qw0 d, rowI 23 (lsT intT) Ws, rowI 23 (lsT intT) Es, mapI encS intT m4, rowI 32 ApiQuery.ty l5, qw1, qw7 lt, mapI encS intT m8]⟩ ?_
 refine En.seq ?_
 refine En.ch h (fun h => ?_) (fun h => ?_)
 refine En.skip ?_
 refine En.seq ?_
 refine En.block ?_
 refine En.sr ?_
 refine WL.r ht hn 1 ⟨[qw5 Bk, qw6, qw8, sl 4 (.own 8), sl 26 (.own 2), qw13 Ws, sl 28 (I x28), sl 30 (I x28)], [qw2 lt Bk Vk, qw0 d, rowI 23 (lsT intT) Ws, rowI 23 (lsT intT) Es, mapI encS intT m4, rowI 32 ApiQuery.ty l5, qw1, qw7 lt, mapI encS intT m8]⟩ ?_
 obtain ⟨e, he, h⟩ := h
 refine WL.v hn (val_indexO (T := (lsT intT)) (l := Ws) (k := x28) ht rfl (by rfl) (by rfl) (by rfl) (by rfl) (by decide) (by rfl) (by rfl) (by rfl) he) ?_
 refine WL.v hn (val_loadO (T := (lsT intT)) (l := Ws) (y := e) ht rfl (by rfl) (by rfl) (by rfl) (by rfl) (by rfl) (idx_some he).2.2 (by rfl)) ?_
 refine WL.rn ht hn 2 ⟨[qw5 Bk, qw6, qw8, sl 4 (.own 8), sl 5 (I x28), sl 6 (LS intT e), sl 26 (.own 2), qw13 Ws, sl 28 (I x28)], [qw2 lt Bk Vk, qw0 d, rowI 23 (lsT intT) Ws, rowI 23 (lsT intT) Es, mapI encS intT m4, rowI 32 ApiQuery.ty l5, qw1, qw7 lt, mapI encS intT m8]⟩ ?_
 refine En.region ?_
 refine WL.r ht hn 3 ⟨[qw5 Bk, qw6, qw8, sl 4 (.own 8), sl 5 (I x28), sl 26 (.own 2), qw13 Ws, sl 28 (I x28), sl 33 (.own 8), sl 34 (.ptr 0 0), sl 35 (LS intT e)], [qw2 lt Bk Vk, qw0 d, rowI 23 (lsT intT) Ws, rowI 23 (lsT intT) Es, mapI encS intT m4, rowI 32 ApiQuery.ty l5, qw1, qw7 lt, mapI encS intT m8]⟩ ?_
 obtain ⟨hp, h⟩ := h
 refine WL.cE (CtE.kept (lRow_ct d lt Ws Es m4 l5 e hp) [(3, Vk 3)] [(1, Bk 1)] (by kernel_rfl)) en79 [0, 1, 2, 3, 4, 5] hn rfl ?_
 refine WL.r ht hn 1 ⟨[qw5 Bk, qw6, qw8, sl 4 (.own 8), sl 26 (.own 2), qw13 Ws, sl 28 (I x28), sl 33 (.own 8), sl 36 (.v (.string (rB d Es e))), sl 37 (I x28)], [qw2 lt Bk Vk, qw0 d, rowI 23 (lsT intT) Ws, rowI 23 (lsT intT) Es, mapI encS intT (rK d Es e m4 l5), rowI 32 ApiQuery.ty (rL d Es e m4 l5), qw1, qw7 lt, mapI encS intT m8]⟩ ?_
 refine WL.mapPut (T := intT) keyS9 (k := (rB d Es e)) (y := x28) hn (by rfl) (.inl rfl) Try.underlying79 (by rfl) (by rfl) (by rfl) (by rfl) (by rfl) (by rfl) ?_
 refine WL.nil ?_
 refine En.region ?_
 refine WL.rn ht hn 2 ⟨[qw5 Bk, qw6, qw8, sl 4 (.own 8), sl 26 (.own 2), qw13 Ws, sl 28 (I (wr (x28 + 1)))], [qw2 lt Bk Vk, qw0 d, rowI 23 (lsT intT) Ws, rowI 23 (lsT intT) Es, mapI encS intT (rK d Es e m4 l5), rowI 32 ApiQuery.ty (rL d Es e m4 l5), qw1, qw7 lt, mapI encS intT (mput (rB d Es e) x28 m8)]⟩ ?_
 exact En.at (I := fun zz => Inv zz.1 zz.2.1 zz.2.2.1 zz.2.2.2 ∧ mu zz.1 zz.2.1 zz.2.2.1 zz.2.2.2 < mu x28 m4 l5 m8) (T := fun zz => ⟨[qw5 Bk, qw6, qw8, sl 4 (.own 8), sl 26 (.own 2), qw13 Ws, sl 28 (I zz.1)], [qw2 lt Bk Vk, qw0 d, rowI 23 (lsT intT) Ws, rowI 23 (lsT intT) Es, mapI encS intT zz.2.1, rowI 32 ApiQuery.ty zz.2.2.1, qw1, qw7 lt, mapI encS intT zz.2.2.2]⟩) ((wr (x28 + 1)), (rK d Es e m4 l5), (rL d Es e m4 l5), (mput (rB d Es e) x28 m8)) h (by kernel_rfl)
 refine En.exit rfl ?_
 refine En.seq ?_
 refine En.sr ?_
 refine WL.rn ht hn 1 ⟨[qw5 Bk, qw6, qw8, sl 4 (.own 8), sl 7 (I 0)], [qw2 lt Bk Vk, qw0 d, rowI 23 (lsT intT) Ws, rowI 23 (lsT intT) Es, mapI encS intT m4, rowI 32 ApiQuery.ty l5, qw1, qw7 lt, mapI encS intT m8]⟩ ?_
 refine En.block ?_
 refine En.nilBoxO (T := (lsT intT)) 7 2 11 23 (by rfl) (by rfl) (by rfl) (by rfl) ?_
 obtain ⟨Inv_2, mu_2, h0_3, hI_3⟩ := h
 refine En.loop (σ := Int × qw10 × qw14 × (List ApiQuery) × qw14 × qw10) (fun zz => Inv_2 zz.1 zz.2.1 zz.2.2.1 zz.2.2.2.1 zz.2.2.2.2.1 zz.2.2.2.2.2) (fun zz => mu_2 zz.1 zz.2.1 zz.2.2.1 zz.2.2.2.1 zz.2.2.2.2.1 zz.2.2.2.2.2) (fun zz => ⟨[qw5 Bk, qw6, qw8, sl 4 (.own 8), sl 7 (I zz.1)], [qw2 lt Bk Vk, qw0 d, rowI 23 (lsT intT) zz.2.1, rowI 23 (lsT intT) Es, mapI encS intT zz.2.2.1, rowI 32 ApiQuery.ty zz.2.2.2.1, qw1, qw3 lt, mapI encS intT zz.2.2.2.2.1, .gone, .gone, rowI 23 (lsT intT) zz.2.2.2.2.2]⟩) (0, Ws, m4, l5, m8, ([] : qw10)) h0_3 (sub_ok (by kernel_rfl)) ?_
 rintro ⟨x7, l2, m4_2, l5_2, m8_2, l11⟩ h
 replace h := hI_3 _ _ _ _ _ _ h
 show En c ⟨[qw5 Bk, qw6, qw8, sl 4 (.own 8), sl 7 (I x7)], [qw2 lt Bk Vk, qw0 d, rowI 23 (lsT intT) l2, rowI 23 (lsT intT) Es, mapI encS intT m4_2, rowI 32 ApiQuery.ty l5_2, qw1, qw3 lt, mapI encS intT m8_2, .gone, .gone, rowI 23 (lsT intT) l11]⟩ _
 refine En.seq ?_
 refine En.sr ?_
 refine WL.rn ht hn 7 ⟨[qw5 Bk, qw6, qw8, sl 4 (.own 8), sl 7 (I x7), sl 45 (B (decide (x7 < (l2.length : Int))))], [qw2 lt Bk Vk, qw0 d, rowI 23 (lsT intT) l2, rowI 23 (lsT intT) Es, mapI encS intT m4_2, rowI 32 ApiQuery.ty l5_2, qw1, qw3 lt, mapI encS intT m8_2, .gone, .gone, rowI 23 (lsT intT) l11]⟩ ?_
 refine En.ch h (fun h => ?_) (fun h => ?_)
 refine En.skip ?_
 refine En.seq ?_
 refine En.block ?_
 refine En.sr ?_
 refine WL.r ht hn 4 ⟨[qw5 Bk, qw6, qw8, sl 4 (.own 8), sl 7 (I x7), sl 51 (I lt)], [qw2 lt Bk Vk, qw0 d, rowI 23 (lsT intT) l2, rowI 23 (lsT intT) Es, mapI encS intT m4_2, rowI 32 ApiQuery.ty l5_2, qw1, qw3 lt, mapI encS intT m8_2, .gone, .gone, rowI 23 (lsT intT) l11]⟩ ?_
 obtain ⟨hp, h⟩ := h
 refine WL.mt0 (K := []) (p := some (12, rowI 3 intT (qw15 lt))) hn (by rfl) (mt_make (T := intT) (0 : Int) (zv := (.int .i64 0)) 12 (l := lt) (cp := lt) ht rfl (by rfl) (by rfl) (by rfl) (by rfl) (by decide) (by rfl) (by rfl) hp.1 hp.2.1 hp.2.2 (hp.le (by decide)) rfl (fun _ => ⟨rfl, trivial⟩)) (by rfl) (by rfl) (by rfl) ?_
 refine WL.rn ht hn 1 ⟨[qw5 Bk, qw6, qw8, sl 4 (.own 8), sl 7 (I x7), qw11], [qw2 lt Bk Vk, qw0 d, rowI 23 (lsT intT) l2, rowI 23 (lsT intT) Es, mapI encS intT m4_2, rowI 32 ApiQuery.ty l5_2, qw1, qw3 lt, mapI encS intT m8_2, .gone, .gone, rowI 23 (lsT intT) l11, rowI 3 intT (qw15 lt)]⟩ ?_
 refine En.seq ?_
 refine En.sr ?_
 refine WL.rn ht hn 3 ⟨[qw5 Bk, qw6, qw8, sl 4 (.own 8), sl 7 (I x7), qw11, qw4 lt, sl 55 (I 0)], [qw2 lt Bk Vk, qw0 d, rowI 23 (lsT intT) l2, rowI 23 (lsT intT) Es, mapI encS intT m4_2, rowI 32 ApiQuery.ty l5_2, qw1, qw3 lt, mapI encS intT m8_2, .gone, .gone, rowI 23 (lsT intT) l11, rowI 3 intT (qw15 lt)]⟩ ?_
 refine En.block ?_
 obtain ⟨Inv_3, mu_3, h0, hI⟩ := h
 refine En.loop (σ := Int × qw10 × qw14 × (List ApiQuery) × qw14 × (List Int)) (fun zz => Inv_3 zz.1 zz.2.1 zz.2.2.1 zz.2.2.2.1 zz.2.2.2.2.1 zz.2.2.2.2.2) (fun zz => mu_3 zz.1 zz.2.1 zz.2.2.1 zz.2.2.2.1 zz.2.2.2.2.1 zz.2.2.2.2.2) (fun zz => ⟨[qw5 Bk, qw6, qw8, sl 4 (.own 8), sl 7 (I x7), qw11, qw4 lt, sl 55 (I zz.1)], [qw2 lt Bk Vk, qw0 d, rowI 23 (lsT intT) zz.2.1, rowI 23 (lsT intT) Es, mapI encS intT zz.2.2.1, rowI 32 ApiQuery.ty zz.2.2.2.1, qw1, qw3 lt, mapI encS intT zz.2.2.2.2.1, .gone, .gone, rowI 23 (lsT intT) l11, rowI 3 intT zz.2.2.2.2.2]⟩) (0, l2, m4_2, l5_2, m8_2, (qw15 lt)) h0 (sub_ok (by kernel_rfl)) ?_
 rintro ⟨x55, l2_2, m4_3, l5_3, m8_3, l12⟩ h
 replace h := hI _ _ _ _ _ _ h
 show En c ⟨[qw5 Bk, qw6, qw8, sl 4 (.own 8), sl 7 (I x7), qw11, qw4 lt, sl 55 (I x55)], [qw2 lt Bk Vk, qw0 d, rowI 23 (lsT intT) l2_2, rowI 23 (lsT intT) Es, mapI encS intT m4_3, rowI 32 ApiQuery.ty l5_3, qw1, qw3 lt, mapI encS intT m8_3, .gone, .gone, rowI 23 (lsT intT) l11, rowI 3 intT l12]⟩ _
 refine En.sr ?_
 refine WL.rn ht hn 1 ⟨[qw5 Bk, qw6, qw8, sl 4 (.own 8), sl 7 (I x7), qw11, qw4 lt, sl 55 (I x55), sl 56 (B (decide (x55 < ((qw15 lt).length : Int))))], [qw2 lt Bk Vk, qw0 d, rowI 23 (lsT intT) l2_2, rowI 23 (lsT intT) Es, mapI encS intT m4_3, rowI 32 ApiQuery.ty l5_3, qw1, qw3 lt, mapI encS intT m8_3, .gone, .gone, rowI 23 (lsT intT) l11, rowI 3 intT l12]⟩ ?_
 refine En.seq ?_
 refine En.ch h (fun h => ?_) (fun h => ?_)
 refine En.skip ?_
 refine En.seq ?_
 refine En.block ?_
 refine En.sr ?_
 refine WL.rn ht hn 2 ⟨[qw5 Bk, qw6, qw8, sl 4 (.own 8), sl 7 (I x7), qw11, sl 9 (I x55), qw4 lt, sl 55 (I x55)], [qw2 lt Bk Vk, qw0 d, rowI 23 (lsT intT) l2_2, rowI 23 (lsT intT) Es, mapI encS intT m4_3, rowI 32 ApiQuery.ty l5_3, qw1, qw3 lt, mapI encS intT m8_3, .gone, .gone, rowI 23 (lsT intT) l11, rowI 3 intT l12]⟩ ?_
 refine En.sr ?_
 refine WL.r ht hn 5 ⟨[qw5 Bk, qw6, qw8, sl 4 (.own 8), sl 7 (I x7), qw11, sl 9 (I x55), qw4 lt, sl 55 (I x55), sl 61 (.own 2), sl 62 (I x7)], [qw2 lt Bk Vk, qw0 d, rowI 23 (lsT intT) l2_2, rowI 23 (lsT intT) Es, mapI encS intT m4_3, rowI 32 ApiQuery.ty l5_3, qw1, qw3 lt, mapI encS intT m8_3, .gone, .gone, rowI 23 (lsT intT) l11, rowI 3 intT l12]⟩ ?_
 obtain ⟨e_2, he_2, h⟩ := h
 refine WL.v hn (val_indexO (T := (lsT intT)) (l := l2_2) (k := x7) ht rfl (by rfl) (by rfl) (by rfl) (by rfl) (by decide) (by rfl) (by rfl) (by rfl) he_2) ?_
 refine WL.v hn (val_loadO (T := (lsT intT)) (l := l2_2) (y := e_2) ht rfl (by rfl) (by rfl) (by rfl) (by rfl) (by rfl) (idx_some he_2).2.2 (by rfl)) ?_
 obtain ⟨hp, h⟩ := h
 refine WL.mt0 (K := []) (p := some (13, rowI 3 intT e_2)) hn (by rfl) (mt_callI 13 (cloneInt_ct e_2 hp) en37 (caps := []) [] rfl rfl (by rfl) (by kernel_rfl) (by kernel_rfl) (by rfl) (by rfl)) (by rfl) (by rfl) (by rfl) ?_
 refine WL.r ht hn 1 ⟨[qw5 Bk, qw6, qw8, sl 4 (.own 8), sl 7 (I x7), qw11, sl 9 (I x55), qw4 lt, sl 55 (I x55), sl 65 (.own 13), sl 66 (I x55)], [qw2 lt Bk Vk, qw0 d, rowI 23 (lsT intT) l2_2, rowI 23 (lsT intT) Es, mapI encS intT m4_3, rowI 32 ApiQuery.ty l5_3, qw1, qw3 lt, mapI encS intT m8_3, .gone, .gone, rowI 23 (lsT intT) l11, rowI 3 intT l12, rowI 3 intT e_2]⟩ ?_
 refine WL.mt0 (K := []) (p := some (14, rowI 3 intT ([x55] : List Int))) hn (by rfl) (mt_lit (T := intT) ([x55] : List Int) (mt_bsl 14 (r := cellsOf intT ([x55] : List Int)) ht rfl (by rfl) (by rfl) (by rfl) (by kernel_rfl) (by rfl)) (fun _ h => by cases h) (fun _ => rfl) (fun _ => rfl) (by rfl) (Nat.le_of_ble_eq_true rfl)) (by rfl) (by rfl) (by rfl) ?_
 refine WL.seal (T := intT) (l := ([x55] : List Int)) (e := 3) 14 rfl ?_
 refine WL.r ht hn 0 ⟨[qw5 Bk, qw6, qw8, sl 4 (.own 8), sl 7 (I x7), qw11, sl 9 (I x55), qw4 lt, sl 55 (I x55), sl 65 (.own 13), sl 66 (I x55), sl 67 (LS intT ([x55] : List Int))], [qw2 lt Bk Vk, qw0 d, rowI 23 (lsT intT) l2_2, rowI 23 (lsT intT) Es, mapI encS intT m4_3, rowI 32 ApiQuery.ty l5_3, qw1, qw3 lt, mapI encS intT m8_3, .gone, .gone, rowI 23 (lsT intT) l11, rowI 3 intT l12, rowI 3 intT e_2, .gone]⟩ ?_
 obtain ⟨hp, h⟩ := h
 refine WL.mt (S2 := ⟨[qw5 Bk, qw6, qw8, sl 4 (.own 8), sl 7 (I x7), qw11, sl 9 (I x55), qw4 lt, sl 55 (I x55), sl 66 (I x55), sl 67 (LS intT ([x55] : List Int))], [qw2 lt Bk Vk, qw0 d, rowI 23 (lsT intT) l2_2, rowI 23 (lsT intT) Es, mapI encS intT m4_3, rowI 32 ApiQuery.ty l5_3, qw1, qw3 lt, mapI encS intT m8_3, .gone, .gone, rowI 23 (lsT intT) l11, rowI 3 intT l12, rowI 3 intT e_2, .gone]⟩) (K := [13]) (p := some (13, rowI 3 intT (e_2 ++ ([x55] : List Int)))) hn (by rfl) (mt_append (T := intT) (l := e_2) (es := ([x55] : List Int)) ht rfl (by rfl) (by rfl) (by rfl) (by rfl) (by decide) (by rfl) (by rfl) (srcLS (T := intT) (es := ([x55] : List Int)) (fun _ h => by cases h) (by decide) (by rfl)) (by exact hp) (by exact hp.le (by decide))) (by kernel_rfl) (by rfl) (by rfl) (by rfl) ?_
 refine WL.rn ht hn 1 ⟨[qw5 Bk, qw6, qw8, sl 4 (.own 8), sl 7 (I x7), qw11, sl 9 (I x55), sl 10 (.own 13), qw4 lt, sl 55 (I x55)], [qw2 lt Bk Vk, qw0 d, rowI 23 (lsT intT) l2_2, rowI 23 (lsT intT) Es, mapI encS intT m4_3, rowI 32 ApiQuery.ty l5_3, qw1, qw3 lt, mapI encS intT m8_3, .gone, .gone, rowI 23 (lsT intT) l11, rowI 3 intT l12, rowI 3 intT (e_2 ++ ([x55] : List Int)), .gone]⟩ ?_
 refine En.sr ?_
 refine WL.r ht hn 2 ⟨[qw5 Bk, qw6, qw8, sl 4 (.own 8), sl 7 (I x7), qw11, sl 9 (I x55), sl 10 (.own 13), qw4 lt, sl 55 (I x55), sl 69 (.ptr 0 0), sl 70 (.own 13)], [qw2 lt Bk Vk, qw0 d, rowI 23 (lsT intT) l2_2, rowI 23 (lsT intT) Es, mapI encS intT m4_3, rowI 32 ApiQuery.ty l5_3, qw1, qw3 lt, mapI encS intT m8_3, .gone, .gone, rowI 23 (lsT intT) l11, rowI 3 intT l12, rowI 3 intT (e_2 ++ ([x55] : List Int)), .gone]⟩ ?_
 refine WL.seal (T := intT) (l := (e_2 ++ ([x55] : List Int))) (e := 3) 13 rfl ?_
 refine WL.r ht hn 0 ⟨[qw5 Bk, qw6, qw8, sl 4 (.own 8), sl 7 (I x7), qw11, sl 9 (I x55), sl 10 (LS intT (e_2 ++ ([x55] : List Int))), qw4 lt, sl 55 (I x55), sl 69 (.ptr 0 0), sl 70 (LS intT (e_2 ++ ([x55] : List Int)))], [qw2 lt Bk Vk, qw0 d, rowI 23 (lsT intT) l2_2, rowI 23 (lsT intT) Es, mapI encS intT m4_3, rowI 32 ApiQuery.ty l5_3, qw1, qw3 lt, mapI encS intT m8_3, .gone, .gone, rowI 23 (lsT intT) l11, rowI 3 intT l12, .gone, .gone]⟩ ?_
 obtain ⟨hp, h⟩ := h
 refine WL.cE (CtE.kept (lRow_ct d lt l2_2 Es m4_3 l5_3 (e_2 ++ ([x55] : List Int)) hp) [(3, Vk 3)] [(1, Bk 1)] (by kernel_rfl)) en79 [0, 1, 2, 3, 4, 5] hn rfl ?_
 refine WL.rn ht hn 1 ⟨[qw5 Bk, qw6, qw8, sl 4 (.own 8), sl 7 (I x7), qw11, sl 9 (I x55), sl 10 (LS intT (e_2 ++ ([x55] : List Int))), sl 11 (.v (.string (rB d Es (e_2 ++ ([x55] : List Int))))), qw4 lt, sl 55 (I x55)], [qw2 lt Bk Vk, qw0 d, rowI 23 (lsT intT) l2_2, rowI 23 (lsT intT) Es, mapI encS intT (rK d Es (e_2 ++ ([x55] : List Int)) m4_3 l5_3), rowI 32 ApiQuery.ty (rL d Es (e_2 ++ ([x55] : List Int)) m4_3 l5_3), qw1, qw3 lt, mapI encS intT m8_3, .gone, .gone, rowI 23 (lsT intT) l11, rowI 3 intT l12, .gone, .gone]⟩ ?_
 refine En.sr ?_
 refine WL.r ht hn 2 ⟨[qw5 Bk, qw6, qw8, sl 4 (.own 8), sl 7 (I x7), qw11, sl 9 (I x55), sl 10 (LS intT (e_2 ++ ([x55] : List Int))), sl 11 (.v (.string (rB d Es (e_2 ++ ([x55] : List Int))))), qw4 lt, sl 55 (I x55), sl 73 (.own 8), sl 74 (.v (.string (rB d Es (e_2 ++ ([x55] : List Int)))))], [qw2 lt Bk Vk, qw0 d, rowI 23 (lsT intT) l2_2, rowI 23 (lsT intT) Es, mapI encS intT (rK d Es (e_2 ++ ([x55] : List Int)) m4_3 l5_3), rowI 32 ApiQuery.ty (rL d Es (e_2 ++ ([x55] : List Int)) m4_3 l5_3), qw1, qw3 lt, mapI encS intT m8_3, .gone, .gone, rowI 23 (lsT intT) l11, rowI 3 intT l12, .gone, .gone]⟩ ?_
 refine WL.v hn (val_lookup (T := intT) (D := m8_3) keyS9 (k := (rB d Es (e_2 ++ ([x55] : List Int)))) (ok := true) (0 : Int) (zv := (.int .i64 0)) rfl Try.underlying79 (fun _ => by kernel_rfl) (fun _ => ⟨rfl, trivial⟩) (mapAs encS intT m8_3) (by rfl) (by rfl) (by rfl) (fun _ => rfl)) ?_
 refine WL.rn ht hn 5 ⟨[qw5 Bk, qw6, qw8, sl 4 (.own 8), sl 7 (I x7), qw11, sl 9 (I x55), sl 10 (LS intT (e_2 ++ ([x55] : List Int))), sl 11 (.v (.string (rB d Es (e_2 ++ ([x55] : List Int))))), sl 12 (I ((mget (rB d Es (e_2 ++ ([x55] : List Int))) m8_3).getD (0 : Int))), sl 13 (B (mget (rB d Es (e_2 ++ ([x55] : List Int))) m8_3).isSome), qw4 lt, sl 55 (I x55)], [qw2 lt Bk Vk, qw0 d, rowI 23 (lsT intT) l2_2, rowI 23 (lsT intT) Es, mapI encS intT (rK d Es (e_2 ++ ([x55] : List Int)) m4_3 l5_3), rowI 32 ApiQuery.ty (rL d Es (e_2 ++ ([x55] : List Int)) m4_3 l5_3), qw1, qw3 lt, mapI encS intT m8_3, .gone, .gone, rowI 23 (lsT intT) l11, rowI 3 intT l12, .gone, .gone]⟩ ?_
 obtain ⟨J, h, hJ⟩ := h
 refine En.seqJ (σ := Int × qw10 × qw14) (fun zz => J zz.1 zz.2.1 zz.2.2) (fun zz => ⟨[qw5 Bk, qw6, qw8, sl 4 (.own 8), sl 7 (I x7), qw11, sl 9 (I x55), sl 12 (I zz.1), qw4 lt, sl 55 (I x55)], [qw2 lt Bk Vk, qw0 d, rowI 23 (lsT intT) zz.2.1, rowI 23 (lsT intT) Es, mapI encS intT (rK d Es (e_2 ++ ([x55] : List Int)) m4_3 l5_3), rowI 32 ApiQuery.ty (rL d Es (e_2 ++ ([x55] : List Int)) m4_3 l5_3), qw1, qw3 lt, mapI encS intT zz.2.2, .gone, .gone, rowI 23 (lsT intT) l11, rowI 3 intT l12, .gone, .gone]⟩) ?_ ?_
 refine En.sr ?_
 refine WL.rn ht hn 2 ⟨[qw5 Bk, qw6, qw8, sl 4 (.own 8), sl 7 (I x7), qw11, sl 9 (I x55), sl 10 (LS intT (e_2 ++ ([x55] : List Int))), sl 11 (.v (.string (rB d Es (e_2 ++ ([x55] : List Int))))), sl 12 (I ((mget (rB d Es (e_2 ++ ([x55] : List Int))) m8_3).getD (0 : Int))), qw4 lt, sl 55 (I x55), sl 79 (B (!(mget (rB d Es (e_2 ++ ([x55] : List Int))) m8_3).isSome))], [qw2 lt Bk Vk, qw0 d, rowI 23 (lsT intT) l2_2, rowI 23 (lsT intT) Es, mapI encS intT (rK d Es (e_2 ++ ([x55] : List Int)) m4_3 l5_3), rowI 32 ApiQuery.ty (rL d Es (e_2 ++ ([x55] : List Int)) m4_3 l5_3), qw1, qw3 lt, mapI encS intT m8_3, .gone, .gone, rowI 23 (lsT intT) l11, rowI 3 intT l12, .gone, .gone]⟩ ?_
 refine En.ch h (fun h => ?_) (fun h => ?_)
 refine En.sr ?_
 refine WL.rn ht hn 6 ⟨[qw5 Bk, qw6, qw8, sl 4 (.own 8), sl 7 (I x7), qw11, sl 9 (I x55), sl 10 (LS intT (e_2 ++ ([x55] : List Int))), sl 11 (.v (.string (rB d Es (e_2 ++ ([x55] : List Int))))), sl 12 (I (l2_2.length : Int)), qw4 lt, sl 55 (I x55)], [qw2 lt Bk Vk, qw0 d, rowI 23 (lsT intT) l2_2, rowI 23 (lsT intT) Es, mapI encS intT (rK d Es (e_2 ++ ([x55] : List Int)) m4_3 l5_3), rowI 32 ApiQuery.ty (rL d Es (e_2 ++ ([x55] : List Int)) m4_3 l5_3), qw1, qw3 lt, mapI encS intT m8_3, .gone, .gone, rowI 23 (lsT intT) l11, rowI 3 intT l12, .gone, .gone]⟩ ?_
 refine En.sr ?_
 refine WL.r ht hn 3 ⟨[qw5 Bk, qw6, qw8, sl 4 (.own 8), sl 7 (I x7), qw11, sl 9 (I x55), sl 10 (LS intT (e_2 ++ ([x55] : List Int))), sl 12 (I (l2_2.length : Int)), qw4 lt, sl 55 (I x55), sl 85 (.own 8), sl 86 (.v (.string (rB d Es (e_2 ++ ([x55] : List Int))))), sl 87 (I (l2_2.length : Int))], [qw2 lt Bk Vk, qw0 d, rowI 23 (lsT intT) l2_2, rowI 23 (lsT intT) Es, mapI encS intT (rK d Es (e_2 ++ ([x55] : List Int)) m4_3 l5_3), rowI 32 ApiQuery.ty (rL d Es (e_2 ++ ([x55] : List Int)) m4_3 l5_3), qw1, qw3 lt, mapI encS intT m8_3, .gone, .gone, rowI 23 (lsT intT) l11, rowI 3 intT l12, .gone, .gone]⟩ ?_
 refine WL.mapPut (T := intT) keyS9 (k := (rB d Es (e_2 ++ ([x55] : List Int)))) (y := (l2_2.length : Int)) hn (by rfl) (.inl rfl) Try.underlying79 (by rfl) (by rfl) (by rfl) (by rfl) (by rfl) (by rfl) ?_
 refine WL.nil ?_
 refine En.region ?_
 refine WL.r ht hn 6 ⟨[qw5 Bk, qw6, qw8, sl 4 (.own 8), sl 7 (I x7), qw11, sl 9 (I x55), sl 12 (I (l2_2.length : Int)), qw4 lt, sl 55 (I x55), sl 88 (.ptr 0 0), sl 92 (.own 2), sl 93 (LS intT (e_2 ++ ([x55] : List Int)))], [qw2 lt Bk Vk, qw0 d, rowI 23 (lsT intT) l2_2, rowI 23 (lsT intT) Es, mapI encS intT (rK d Es (e_2 ++ ([x55] : List Int)) m4_3 l5_3), rowI 32 ApiQuery.ty (rL d Es (e_2 ++ ([x55] : List Int)) m4_3 l5_3), qw1, qw3 lt, mapI encS intT (mput (rB d Es (e_2 ++ ([x55] : List Int))) (l2_2.length : Int) m8_3), .gone, .gone, rowI 23 (lsT intT) l11, rowI 3 intT l12, .gone, .gone]⟩ ?_
 refine WL.mt0 (K := []) (p := some (15, rowI 23 (lsT intT) ([(e_2 ++ ([x55] : List Int))] : qw10))) hn (by rfl) (mt_lit (T := (lsT intT)) ([(e_2 ++ ([x55] : List Int))] : qw10) (mt_bsl 15 (r := cellsOf (lsT intT) ([(e_2 ++ ([x55] : List Int))] : qw10)) ht rfl (by rfl) (by rfl) (by rfl) (by kernel_rfl) (by rfl)) (fun _ h => by cases h) (fun _ => rfl) (fun _ => rfl) (by rfl) (Nat.le_of_ble_eq_true rfl)) (by rfl) (by rfl) (by rfl) ?_
 refine WL.seal (T := (lsT intT)) (l := ([(e_2 ++ ([x55] : List Int))] : qw10)) (e := 23) 15 rfl ?_
 refine WL.r ht hn 0 ⟨[qw5 Bk, qw6, qw8, sl 4 (.own 8), sl 7 (I x7), qw11, sl 9 (I x55), sl 12 (I (l2_2.length : Int)), qw4 lt, sl 55 (I x55), sl 88 (.ptr 0 0), sl 92 (.own 2), sl 93 (LS intT (e_2 ++ ([x55] : List Int))), sl 94 (LS (lsT intT) ([(e_2 ++ ([x55] : List Int))] : qw10))], [qw2 lt Bk Vk, qw0 d, rowI 23 (lsT intT) l2_2, rowI 23 (lsT intT) Es, mapI encS intT (rK d Es (e_2 ++ ([x55] : List Int)) m4_3 l5_3), rowI 32 ApiQuery.ty (rL d Es (e_2 ++ ([x55] : List Int)) m4_3 l5_3), qw1, qw3 lt, mapI encS intT (mput (rB d Es (e_2 ++ ([x55] : List Int))) (l2_2.length : Int) m8_3), .gone, .gone, rowI 23 (lsT intT) l11, rowI 3 intT l12, .gone, .gone, .gone]⟩ ?_
 refine WL.junk 0 2 (by rfl) ?_
 obtain ⟨hp, h⟩ := h
 refine WL.mt (S2 := ⟨[qw5 Bk, qw6, qw8, sl 4 (.own 8), sl 7 (I x7), qw11, sl 9 (I x55), sl 12 (I (l2_2.length : Int)), qw4 lt, sl 55 (I x55), sl 88 (.ptr 0 0), sl 93 (LS intT (e_2 ++ ([x55] : List Int))), sl 94 (LS (lsT intT) ([(e_2 ++ ([x55] : List Int))] : qw10))], [.box [.pptr 1 0 (Bk 1), I lt, .junk, .pown 3 (Vk 3), .own 4] 81 false, qw0 d, rowI 23 (lsT intT) l2_2, rowI 23 (lsT intT) Es, mapI encS intT (rK d Es (e_2 ++ ([x55] : List Int)) m4_3 l5_3), rowI 32 ApiQuery.ty (rL d Es (e_2 ++ ([x55] : List Int)) m4_3 l5_3), qw1, qw3 lt, mapI encS intT (mput (rB d Es (e_2 ++ ([x55] : List Int))) (l2_2.length : Int) m8_3), .gone, .gone, rowI 23 (lsT intT) l11, rowI 3 intT l12, .gone, .gone, .gone]⟩) (K := [2]) (p := some (2, rowI 23 (lsT intT) (l2_2 ++ ([(e_2 ++ ([x55] : List Int))] : qw10)))) hn (by rfl) (mt_append (T := (lsT intT)) (l := l2_2) (es := ([(e_2 ++ ([x55] : List Int))] : qw10)) ht rfl (by rfl) (by rfl) (by rfl) (by rfl) (by decide) (by rfl) (by rfl) (srcLS (T := (lsT intT)) (es := ([(e_2 ++ ([x55] : List Int))] : qw10)) (fun _ h => by cases h) (by decide) (by rfl)) (by exact hp) (by exact hp.le (by decide))) (by kernel_rfl) (by rfl) (by rfl) (by rfl) ?_
 refine WL.rn ht hn 3 ⟨[qw5 Bk, qw6, qw8, sl 4 (.own 8), sl 7 (I x7), qw11, sl 9 (I x55), sl 12 (I (l2_2.length : Int)), qw4 lt, sl 55 (I x55)], [qw2 lt Bk Vk, qw0 d, rowI 23 (lsT intT) (l2_2 ++ ([(e_2 ++ ([x55] : List Int))] : qw10)), rowI 23 (lsT intT) Es, mapI encS intT (rK d Es (e_2 ++ ([x55] : List Int)) m4_3 l5_3), rowI 32 ApiQuery.ty (rL d Es (e_2 ++ ([x55] : List Int)) m4_3 l5_3), qw1, qw3 lt, mapI encS intT (mput (rB d Es (e_2 ++ ([x55] : List Int))) (l2_2.length : Int) m8_3), .gone, .gone, rowI 23 (lsT intT) l11, rowI 3 intT l12, .gone, .gone, .gone]⟩ ?_
 exact En.at (I := fun zz => J zz.1 zz.2.1 zz.2.2) (T := fun zz => ⟨[qw5 Bk, qw6, qw8, sl 4 (.own 8), sl 7 (I x7), qw11, sl 9 (I x55), sl 12 (I zz.1), qw4 lt, sl 55 (I x55)], [qw2 lt Bk Vk, qw0 d, rowI 23 (lsT intT) zz.2.1, rowI 23 (lsT intT) Es, mapI encS intT (rK d Es (e_2 ++ ([x55] : List Int)) m4_3 l5_3), rowI 32 ApiQuery.ty (rL d Es (e_2 ++ ([x55] : List Int)) m4_3 l5_3), qw1, qw3 lt, mapI encS intT zz.2.2, .gone, .gone, rowI 23 (lsT intT) l11, rowI 3 intT l12, .gone, .gone]⟩) ((l2_2.length : Int), (l2_2 ++ ([(e_2 ++ ([x55] : List Int))] : qw10)), (mput (rB d Es (e_2 ++ ([x55] : List Int))) (l2_2.length : Int) m8_3)) h (by kernel_rfl)
 refine En.skip ?_
 exact En.at (I := fun zz => J zz.1 zz.2.1 zz.2.2) (T := fun zz => ⟨[qw5 Bk, qw6, qw8, sl 4 (.own 8), sl 7 (I x7), qw11, sl 9 (I x55), sl 12 (I zz.1), qw4 lt, sl 55 (I x55)], [qw2 lt Bk Vk, qw0 d, rowI 23 (lsT intT) zz.2.1, rowI 23 (lsT intT) Es, mapI encS intT (rK d Es (e_2 ++ ([x55] : List Int)) m4_3 l5_3), rowI 32 ApiQuery.ty (rL d Es (e_2 ++ ([x55] : List Int)) m4_3 l5_3), qw1, qw3 lt, mapI encS intT zz.2.2, .gone, .gone, rowI 23 (lsT intT) l11, rowI 3 intT l12, .gone, .gone]⟩) (((mget (rB d Es (e_2 ++ ([x55] : List Int))) m8_3).getD (0 : Int)), l2_2, m8_3) h (by kernel_rfl)
 rintro ⟨x12, l2_3, m8_4⟩ h
 replace h := hJ _ _ _ h
 show En c ⟨[qw5 Bk, qw6, qw8, sl 4 (.own 8), sl 7 (I x7), qw11, sl 9 (I x55), sl 12 (I x12), qw4 lt, sl 55 (I x55)], [qw2 lt Bk Vk, qw0 d, rowI 23 (lsT intT) l2_3, rowI 23 (lsT intT) Es, mapI encS intT (rK d Es (e_2 ++ ([x55] : List Int)) m4_3 l5_3), rowI 32 ApiQuery.ty (rL d Es (e_2 ++ ([x55] : List Int)) m4_3 l5_3), qw1, qw3 lt, mapI encS intT m8_4, .gone, .gone, rowI 23 (lsT intT) l11, rowI 3 intT l12, .gone, .gone]⟩ _
 refine En.region ?_
 refine WL.r ht hn 3 ⟨[qw5 Bk, qw6, qw8, sl 4 (.own 8), sl 7 (I x7), qw11, qw4 lt, sl 55 (I x55), sl 98 (.own 12), sl 99 (I x55), sl 100 (I x12)], [qw2 lt Bk Vk, qw0 d, rowI 23 (lsT intT) l2_3, rowI 23 (lsT intT) Es, mapI encS intT (rK d Es (e_2 ++ ([x55] : List Int)) m4_3 l5_3), rowI 32 ApiQuery.ty (rL d Es (e_2 ++ ([x55] : List Int)) m4_3 l5_3), qw1, qw3 lt, mapI encS intT m8_4, .gone, .gone, rowI 23 (lsT intT) l11, rowI 3 intT l12, .gone, .gone]⟩ ?_
 obtain ⟨e_3, he_3, h⟩ := h
 refine WL.v hn (val_indexO (T := intT) (l := l12) (k := x55) ht rfl (by rfl) (by rfl) (by rfl) (by rfl) (by decide) (by rfl) (by rfl) (by rfl) he_3) ?_
 refine WL.storeO (T := intT) (l := l12) (y := x12) ht hn (by rfl) rfl (by rfl) (by rfl) (fun _ h => by cases h) (by rfl) (by rfl) (idx_lt he_3) (by rfl) (by rfl) (by rfl) (by rfl) ?_
 refine WL.nil ?_
 refine En.region ?_
 refine WL.rn ht hn 2 ⟨[qw5 Bk, qw6, qw8, sl 4 (.own 8), sl 7 (I x7), qw11, qw4 lt, sl 55 (I (wr (x55 + 1)))], [qw2 lt Bk Vk, qw0 d, rowI 23 (lsT intT) l2_3, rowI 23 (lsT intT) Es, mapI encS intT (rK d Es (e_2 ++ ([x55] : List Int)) m4_3 l5_3), rowI 32 ApiQuery.ty (rL d Es (e_2 ++ ([x55] : List Int)) m4_3 l5_3), qw1, qw3 lt, mapI encS intT m8_4, .gone, .gone, rowI 23 (lsT intT) l11, rowI 3 intT (l12.set (x55).toNat x12), .gone, .gone]⟩ ?_
 exact En.at (I := fun zz => Inv_3 zz.1 zz.2.1 zz.2.2.1 zz.2.2.2.1 zz.2.2.2.2.1 zz.2.2.2.2.2 ∧ mu_3 zz.1 zz.2.1 zz.2.2.1 zz.2.2.2.1 zz.2.2.2.2.1 zz.2.2.2.2.2 < mu_3 x55 l2_2 m4_3 l5_3 m8_3 l12) (T := fun zz => ⟨[qw5 Bk, qw6, qw8, sl 4 (.own 8), sl 7 (I x7), qw11, qw4 lt, sl 55 (I zz.1)], [qw2 lt Bk Vk, qw0 d, rowI 23 (lsT intT) zz.2.1, rowI 23 (lsT intT) Es, mapI encS intT zz.2.2.1, rowI 32 ApiQuery.ty zz.2.2.2.1, qw1, qw3 lt, mapI encS intT zz.2.2.2.2.1, .gone, .gone, rowI 23 (lsT intT) l11, rowI 3 intT zz.2.2.2.2.2]⟩) ((wr (x55 + 1)), l2_3, (rK d Es (e_2 ++ ([x55] : List Int)) m4_3 l5_3), (rL d Es (e_2 ++ ([x55] : List Int)) m4_3 l5_3), m8_4, (l12.set (x55).toNat x12)) h (by kernel_rfl)
 refine En.exit rfl ?_
 refine En.region ?_
 refine WL.r ht hn 3 ⟨[qw5 Bk, qw6, qw8, sl 4 (.own 8), sl 7 (I x7), sl 104 (.own 11), sl 105 (.own 12)], [qw2 lt Bk Vk, qw0 d, rowI 23 (lsT intT) l2_2, rowI 23 (lsT intT) Es, mapI encS intT m4_3, rowI 32 ApiQuery.ty l5_3, qw1, qw3 lt, mapI encS intT m8_3, .gone, .gone, rowI 23 (lsT intT) l11, rowI 3 intT l12]⟩ ?_
 refine WL.seal (T := intT) (l := l12) (e := 3) 12 rfl ?_
 refine WL.r ht hn 0 ⟨[qw5 Bk, qw6, qw8, sl 4 (.own 8), sl 7 (I x7), sl 104 (.own 11), sl 105 (LS intT l12)], [qw2 lt Bk Vk, qw0 d, rowI 23 (lsT intT) l2_2, rowI 23 (lsT intT) Es, mapI encS intT m4_3, rowI 32 ApiQuery.ty l5_3, qw1, qw3 lt, mapI encS intT m8_3, .gone, .gone, rowI 23 (lsT intT) l11, .gone]⟩ ?_
 refine WL.mt0 (K := []) (p := some (13, rowI 23 (lsT intT) ([l12] : qw10))) hn (by rfl) (mt_lit (T := (lsT intT)) ([l12] : qw10) (mt_bsl 13 (r := cellsOf (lsT intT) ([l12] : qw10)) ht rfl (by rfl) (by rfl) (by rfl) (by kernel_rfl) (by rfl)) (fun _ h => by cases h) (fun _ => rfl) (fun _ => rfl) (by rfl) (Nat.le_of_ble_eq_true rfl)) (by rfl) (by rfl) (by rfl) ?_
 refine WL.seal (T := (lsT intT)) (l := ([l12] : qw10)) (e := 23) 13 rfl ?_
 refine WL.r ht hn 0 ⟨[qw5 Bk, qw6, qw8, sl 4 (.own 8), sl 7 (I x7), sl 104 (.own 11), sl 105 (LS intT l12), sl 106 (LS (lsT intT) ([l12] : qw10))], [qw2 lt Bk Vk, qw0 d, rowI 23 (lsT intT) l2_2, rowI 23 (lsT intT) Es, mapI encS intT m4_3, rowI 32 ApiQuery.ty l5_3, qw1, qw3 lt, mapI encS intT m8_3, .gone, .gone, rowI 23 (lsT intT) l11, .gone, .gone]⟩ ?_
 refine WL.junk 7 2 (by rfl) ?_
 obtain ⟨hp, h⟩ := h
 refine WL.mt (S2 := ⟨[qw5 Bk, qw6, qw8, sl 4 (.own 8), sl 7 (I x7), sl 105 (LS intT l12), sl 106 (LS (lsT intT) ([l12] : qw10))], [qw2 lt Bk Vk, qw0 d, rowI 23 (lsT intT) l2_2, rowI 23 (lsT intT) Es, mapI encS intT m4_3, rowI 32 ApiQuery.ty l5_3, qw1, .box [I lt, I 0, .junk, .v (.slice none 0 0)] 25 false, mapI encS intT m8_3, .gone, .gone, rowI 23 (lsT intT) l11, .gone, .gone]⟩) (K := [11]) (p := some (11, rowI 23 (lsT intT) (l11 ++ ([l12] : qw10)))) hn (by rfl) (mt_append (T := (lsT intT)) (l := l11) (es := ([l12] : qw10)) ht rfl (by rfl) (by rfl) (by rfl) (by rfl) (by decide) (by rfl) (by rfl) (srcLS (T := (lsT intT)) (es := ([l12] : qw10)) (fun _ h => by cases h) (by decide) (by rfl)) (by exact hp) (by exact hp.le (by decide))) (by kernel_rfl) (by rfl) (by rfl) (by rfl) ?_
 refine WL.rn ht hn 2 ⟨[qw5 Bk, qw6, qw8, sl 4 (.own 8), sl 7 (I x7)], [qw2 lt Bk Vk, qw0 d, rowI 23 (lsT intT) l2_2, rowI 23 (lsT intT) Es, mapI encS intT m4_3, rowI 32 ApiQuery.ty l5_3, qw1, qw3 lt, mapI encS intT m8_3, .gone, .gone, rowI 23 (lsT intT) (l11 ++ ([l12] : qw10)), .gone, .gone]⟩ ?_
 refine En.region ?_
 refine WL.rn ht hn 3 ⟨[qw5 Bk, qw6, qw8, sl 4 (.own 8), sl 7 (I (wr (x7 + 1)))], [qw2 lt Bk Vk, qw0 d, rowI 23 (lsT intT) l2_2, rowI 23 (lsT intT) Es, mapI encS intT m4_3, rowI 32 ApiQuery.ty l5_3, qw1, qw3 lt, mapI encS intT m8_3, .gone, .gone, rowI 23 (lsT intT) (l11 ++ ([l12] : qw10)), .gone, .gone]⟩ ?_
 exact En.at (I := fun zz => Inv_2 zz.1 zz.2.1 zz.2.2.1 zz.2.2.2.1 zz.2.2.2.2.1 zz.2.2.2.2.2 ∧ mu_2 zz.1 zz.2.1 zz.2.2.1 zz.2.2.2.1 zz.2.2.2.2.1 zz.2.2.2.2.2 < mu_2 x7 l2 m4_2 l5_2 m8_2 l11) (T := fun zz => ⟨[qw5 Bk, qw6, qw8, sl 4 (.own 8), sl 7 (I zz.1)], [qw2 lt Bk Vk, qw0 d, rowI 23 (lsT intT) zz.2.1, rowI 23 (lsT intT) Es, mapI encS intT zz.2.2.1, rowI 32 ApiQuery.ty zz.2.2.2.1, qw1, qw3 lt, mapI encS intT zz.2.2.2.2.1, .gone, .gone, rowI 23 (lsT intT) zz.2.2.2.2.2]⟩) ((wr (x7 + 1)), l2_2, m4_3, l5_3, m8_3, (l11 ++ ([l12] : qw10))) h (by kernel_rfl)
 refine En.exit rfl ?_
 refine En.seq ?_
 refine En.sr ?_
 refine WL.rn ht hn 6 ⟨[qw5 Bk, qw6, qw8, qw12, sl 113 (I (l2.length : Int)), sl 114 (I 0)], [qw2 lt Bk Vk, qw0 d, rowI 23 (lsT intT) l2, rowI 23 (lsT intT) Es, mapI encS intT m4_2, rowI 32 ApiQuery.ty l5_2, qw1, qw3 lt, .gone, .gone, .gone, rowI 23 (lsT intT) l11]⟩ ?_
 refine En.block ?_
 refine En.nilBoxO (T := intT) 7 3 13 3 (by rfl) (by rfl) (by rfl) (by rfl) ?_
 obtain ⟨Inv_4, mu_4, h0_2, hI_2⟩ := h
 refine En.loop (σ := Int × qw14 × (List ApiQuery) × (List Int)) (fun zz => Inv_4 zz.1 zz.2.1 zz.2.2.1 zz.2.2.2) (fun zz => mu_4 zz.1 zz.2.1 zz.2.2.1 zz.2.2.2) (fun zz => ⟨[qw5 Bk, qw6, qw8, qw12, sl 113 (I (l2.length : Int)), sl 114 (I zz.1)], [qw2 lt Bk Vk, qw0 d, rowI 23 (lsT intT) l2, rowI 23 (lsT intT) Es, mapI encS intT zz.2.1, rowI 32 ApiQuery.ty zz.2.2.1, qw1, qw9 lt, .gone, .gone, .gone, rowI 23 (lsT intT) l11, .gone, rowI 3 intT zz.2.2.2]⟩) (0, m4_2, l5_2, ([] : List Int)) h0_2 (sub_ok (by kernel_rfl)) ?_
 rintro ⟨x114, m4_4, l5_4, l13⟩ h
 replace h := hI_2 _ _ _ _ h
 show En c ⟨[qw5 Bk, qw6, qw8, qw12, sl 113 (I (l2.length : Int)), sl 114 (I x114)], [qw2 lt Bk Vk, qw0 d, rowI 23 (lsT intT) l2, rowI 23 (lsT intT) Es, mapI encS intT m4_4, rowI 32 ApiQuery.ty l5_4, qw1, qw9 lt, .gone, .gone, .gone, rowI 23 (lsT intT) l11, .gone, rowI 3 intT l13]⟩ _
 refine En.sr ?_
 refine WL.rn ht hn 1 ⟨[qw5 Bk, qw6, qw8, qw12, sl 113 (I (l2.length : Int)), sl 114 (I x114), sl 115 (B (decide (x114 < (l2.length : Int))))], [qw2 lt Bk Vk, qw0 d, rowI 23 (lsT intT) l2, rowI 23 (lsT intT) Es, mapI encS intT m4_4, rowI 32 ApiQuery.ty l5_4, qw1, qw9 lt, .gone, .gone, .gone, rowI 23 (lsT intT) l11, .gone, rowI 3 intT l13]⟩ ?_
 refine En.seq ?_
 refine En.ch h (fun h => ?_) (fun h => ?_)
 refine En.skip ?_
 refine En.seq ?_
 refine En.block ?_
 refine En.sr ?_
 obtain ⟨e_4, he_4, h⟩ := h
 refine WL.v hn (val_indexO (T := (lsT intT)) (l := l2) (k := x114) ht rfl (by rfl) (by rfl) (by rfl) (by rfl) (by decide) (by rfl) (by rfl) (by rfl) he_4) ?_
 refine WL.v hn (val_loadO (T := (lsT intT)) (l := l2) (y := e_4) ht rfl (by rfl) (by rfl) (by rfl) (by rfl) (by rfl) (idx_some he_4).2.2 (by rfl)) ?_
 refine WL.rn ht hn 1 ⟨[qw5 Bk, qw6, qw8, sl 15 (LS intT e_4), qw12, sl 113 (I (l2.length : Int)), sl 114 (I x114)], [qw2 lt Bk Vk, qw0 d, rowI 23 (lsT intT) l2, rowI 23 (lsT intT) Es, mapI encS intT m4_4, rowI 32 ApiQuery.ty l5_4, qw1, qw9 lt, .gone, .gone, .gone, rowI 23 (lsT intT) l11, .gone, rowI 3 intT l13]⟩ ?_
 refine En.sr ?_
 refine WL.rn ht hn 1 ⟨[qw5 Bk, qw6, qw8, sl 15 (LS intT e_4), sl 16 (I 0), qw12, sl 113 (I (l2.length : Int)), sl 114 (I x114)], [qw2 lt Bk Vk, qw0 d, rowI 23 (lsT intT) l2, rowI 23 (lsT intT) Es, mapI encS intT m4_4, rowI 32 ApiQuery.ty l5_4, qw1, qw9 lt, .gone, .gone, .gone, rowI 23 (lsT intT) l11, .gone, rowI 3 intT l13]⟩ ?_
 obtain ⟨J_2, h, hJ_2⟩ := h
 refine En.seqJ (σ := Int) (fun zz => J_2 zz) (fun zz => ⟨[qw5 Bk, qw6, qw8, sl 16 (I zz), qw12, sl 113 (I (l2.length : Int)), sl 114 (I x114)], [qw2 lt Bk Vk, qw0 d, rowI 23 (lsT intT) l2, rowI 23 (lsT intT) Es, mapI encS intT (iK d e_4 m4_4 l5_4), rowI 32 ApiQuery.ty (iL d e_4 m4_4 l5_4), qw1, qw9 lt, .gone, .gone, .gone, rowI 23 (lsT intT) l11, .gone, rowI 3 intT l13]⟩) ?_ ?_
 refine En.sr ?_
 refine WL.r ht hn 2 ⟨[qw5 Bk, qw6, qw8, sl 16 (I 0), qw12, sl 113 (I (l2.length : Int)), sl 114 (I x114), sl 118 (.ptr 0 0), sl 119 (LS intT e_4)], [qw2 lt Bk Vk, qw0 d, rowI 23 (lsT intT) l2, rowI 23 (lsT intT) Es, mapI encS intT m4_4, rowI 32 ApiQuery.ty l5_4, qw1, qw9 lt, .gone, .gone, .gone, rowI 23 (lsT intT) l11, .gone, rowI 3 intT l13]⟩ ?_
 obtain ⟨hp, h⟩ := h
 refine WL.cE (CtE.kept (lIs_ct d lt l2 Es m4_4 l5_4 e_4 hp) [(3, Vk 3)] [(1, Bk 1)] (by kernel_rfl)) en80 [0, 1, 2, 3, 4, 5] hn rfl ?_
 refine WL.nil ?_
 refine En.ch h (fun h => ?_) (fun h => ?_)
 refine En.region ?_
 refine WL.rn ht hn 1 ⟨[qw5 Bk, qw6, qw8, sl 16 (I 1), qw12, sl 113 (I (l2.length : Int)), sl 114 (I x114)], [qw2 lt Bk Vk, qw0 d, rowI 23 (lsT intT) l2, rowI 23 (lsT intT) Es, mapI encS intT (iK d e_4 m4_4 l5_4), rowI 32 ApiQuery.ty (iL d e_4 m4_4 l5_4), qw1, qw9 lt, .gone, .gone, .gone, rowI 23 (lsT intT) l11, .gone, rowI 3 intT l13]⟩ ?_
 exact En.at (I := fun zz => J_2 zz) (T := fun zz => ⟨[qw5 Bk, qw6, qw8, sl 16 (I zz), qw12, sl 113 (I (l2.length : Int)), sl 114 (I x114)], [qw2 lt Bk Vk, qw0 d, rowI 23 (lsT intT) l2, rowI 23 (lsT intT) Es, mapI encS intT (iK d e_4 m4_4 l5_4), rowI 32 ApiQuery.ty (iL d e_4 m4_4 l5_4), qw1, qw9 lt, .gone, .gone, .gone, rowI 23 (lsT intT) l11, .gone, rowI 3 intT l13]⟩) 1 h (by kernel_rfl)
 refine En.skip ?_
 exact En.at (I := fun zz => J_2 zz) (T := fun zz => ⟨[qw5 Bk, qw6, qw8, sl 16 (I zz), qw12, sl 113 (I (l2.length : Int)), sl 114 (I x114)], [qw2 lt Bk Vk, qw0 d, rowI 23 (lsT intT) l2, rowI 23 (lsT intT) Es, mapI encS intT (iK d e_4 m4_4 l5_4), rowI 32 ApiQuery.ty (iL d e_4 m4_4 l5_4), qw1, qw9 lt, .gone, .gone, .gone, rowI 23 (lsT intT) l11, .gone, rowI 3 intT l13]⟩) 0 h (by kernel_rfl)
 intro x16 h
 replace h := hJ_2 _ h
 show En c ⟨[qw5 Bk, qw6, qw8, sl 16 (I x16), qw12, sl 113 (I (l2.length : Int)), sl 114 (I x114)], [qw2 lt Bk Vk, qw0 d, rowI 23 (lsT intT) l2, rowI 23 (lsT intT) Es, mapI encS intT (iK d e_4 m4_4 l5_4), rowI 32 ApiQuery.ty (iL d e_4 m4_4 l5_4), qw1, qw9 lt, .gone, .gone, .gone, rowI 23 (lsT intT) l11, .gone, rowI 3 intT l13]⟩ _
 refine En.region ?_
 refine WL.r ht hn 3 ⟨[qw5 Bk, qw6, qw8, qw12, sl 113 (I (l2.length : Int)), sl 114 (I x114), sl 122 (.own 13), sl 123 (I x16)], [qw2 lt Bk Vk, qw0 d, rowI 23 (lsT intT) l2, rowI 23 (lsT intT) Es, mapI encS intT (iK d e_4 m4_4 l5_4), rowI 32 ApiQuery.ty (iL d e_4 m4_4 l5_4), qw1, qw9 lt, .gone, .gone, .gone, rowI 23 (lsT intT) l11, .gone, rowI 3 intT l13]⟩ ?_
 refine WL.mt0 (K := []) (p := some (14, rowI 3 intT ([x16] : List Int))) hn (by rfl) (mt_lit (T := intT) ([x16] : List Int) (mt_bsl 14 (r := cellsOf intT ([x16] : List Int)) ht rfl (by rfl) (by rfl) (by rfl) (by kernel_rfl) (by rfl)) (fun _ h => by cases h) (fun _ => rfl) (fun _ => rfl) (by rfl) (Nat.le_of_ble_eq_true rfl)) (by rfl) (by rfl) (by rfl) ?_
 refine WL.seal (T := intT) (l := ([x16] : List Int)) (e := 3) 14 rfl ?_
 refine WL.r ht hn 0 ⟨[qw5 Bk, qw6, qw8, qw12, sl 113 (I (l2.length : Int)), sl 114 (I x114), sl 122 (.own 13), sl 123 (I x16), sl 124 (LS intT ([x16] : List Int))], [qw2 lt Bk Vk, qw0 d, rowI 23 (lsT intT) l2, rowI 23 (lsT intT) Es, mapI encS intT (iK d e_4 m4_4 l5_4), rowI 32 ApiQuery.ty (iL d e_4 m4_4 l5_4), qw1, qw9 lt, .gone, .gone, .gone, rowI 23 (lsT intT) l11, .gone, rowI 3 intT l13, .gone]⟩ ?_
 refine WL.junk 7 3 (by rfl) ?_
 obtain ⟨hp, h⟩ := h
 refine WL.mt (S2 := ⟨[qw5 Bk, qw6, qw8, qw12, sl 113 (I (l2.length : Int)), sl 114 (I x114), sl 123 (I x16), sl 124 (LS intT ([x16] : List Int))], [qw2 lt Bk Vk, qw0 d, rowI 23 (lsT intT) l2, rowI 23 (lsT intT) Es, mapI encS intT (iK d e_4 m4_4 l5_4), rowI 32 ApiQuery.ty (iL d e_4 m4_4 l5_4), qw1, .box [I lt, I 0, .own 11, .junk] 25 false, .gone, .gone, .gone, rowI 23 (lsT intT) l11, .gone, rowI 3 intT l13, .gone]⟩) (K := [13]) (p := some (13, rowI 3 intT (l13 ++ ([x16] : List Int)))) hn (by rfl) (mt_append (T := intT) (l := l13) (es := ([x16] : List Int)) ht rfl (by rfl) (by rfl) (by rfl) (by rfl) (by decide) (by rfl) (by rfl) (srcLS (T := intT) (es := ([x16] : List Int)) (fun _ h => by cases h) (by decide) (by rfl)) (by exact hp) (by exact hp.le (by decide))) (by kernel_rfl) (by rfl) (by rfl) (by rfl) ?_
 refine WL.rn ht hn 2 ⟨[qw5 Bk, qw6, qw8, qw12, sl 113 (I (l2.length : Int)), sl 114 (I x114)], [qw2 lt Bk Vk, qw0 d, rowI 23 (lsT intT) l2, rowI 23 (lsT intT) Es, mapI encS intT (iK d e_4 m4_4 l5_4), rowI 32 ApiQuery.ty (iL d e_4 m4_4 l5_4), qw1, qw9 lt, .gone, .gone, .gone, rowI 23 (lsT intT) l11, .gone, rowI 3 intT (l13 ++ ([x16] : List Int)), .gone]⟩ ?_
 refine En.region ?_
 refine WL.rn ht hn 2 ⟨[qw5 Bk, qw6, qw8, qw12, sl 113 (I (l2.length : Int)), sl 114 (I (wr (x114 + 1)))], [qw2 lt Bk Vk, qw0 d, rowI 23 (lsT intT) l2, rowI 23 (lsT intT) Es, mapI encS intT (iK d e_4 m4_4 l5_4), rowI 32 ApiQuery.ty (iL d e_4 m4_4 l5_4), qw1, qw9 lt, .gone, .gone, .gone, rowI 23 (lsT intT) l11, .gone, rowI 3 intT (l13 ++ ([x16] : List Int)), .gone]⟩ ?_
 exact En.at (I := fun zz => Inv_4 zz.1 zz.2.1 zz.2.2.1 zz.2.2.2 ∧ mu_4 zz.1 zz.2.1 zz.2.2.1 zz.2.2.2 < mu_4 x114 m4_4 l5_4 l13) (T := fun zz => ⟨[qw5 Bk, qw6, qw8, qw12, sl 113 (I (l2.length : Int)), sl 114 (I zz.1)], [qw2 lt Bk Vk, qw0 d, rowI 23 (lsT intT) l2, rowI 23 (lsT intT) Es, mapI encS intT zz.2.1, rowI 32 ApiQuery.ty zz.2.2.1, qw1, qw9 lt, .gone, .gone, .gone, rowI 23 (lsT intT) l11, .gone, rowI 3 intT zz.2.2.2]⟩) ((wr (x114 + 1)), (iK d e_4 m4_4 l5_4), (iL d e_4 m4_4 l5_4), (l13 ++ ([x16] : List Int))) h (by kernel_rfl)
 refine En.exit rfl ?_
 refine En.sr ?_
 refine WL.rn ht hn 2 ⟨[qw5 Bk, qw6], [qw2 lt Bk Vk, qw0 d, rowI 23 (lsT intT) l2, rowI 23 (lsT intT) Es, mapI encS intT m4_4, rowI 32 ApiQuery.ty l5_4, qw9 lt, .gone, .gone, .gone, .gone, rowI 23 (lsT intT) l11, .gone, rowI 3 intT l13]⟩ ?_
 refine En.ret ?_
 refine En.seal (T := (lsT intT)) (l := l11) (e := 23) 11 rfl ?_
 refine En.seal (T := intT) (l := l13) (e := 3) 13 rfl ?_
 exact En.backP [(0, none), (0, some 0)] [(0, some 3)] ht ((ApiDet.mk lt 0 l11 l13), l2, m4_4, l5_4) h (by kernel_rfl) (by rfl) rfl rfl
theorem en33 : ∀ args w, (callFunc 33 args).run Try.prog w = .ok (.enter 33 args) w := enters_of Try.func33 (by kernel_rfl) rfl
set_option maxHeartbeats 2000000 in
theorem lGue_ct_g (d : ApiDet) (lt : Int) (Ws : List (List Int)) (Es : List (List Int)) (Kn : List (ByteArray × Int)) (Lg : List ApiQuery) (G : ApiDet × List (List Int) × KLog) (hG : G = gS d Ws Es Kn Lg) (hp : GuePre d lt Ws Es Kn Lg)  : CtE 33 [.sv (.one (.ptr 0 0))] [.box [.ptr 1 0, I lt, .own 2, .own 3, .own 4] 81 false, .box [I d.fLetters, I d.fStart, LS (lsT intT) d.fNext, LS intT d.fMark, .own 5] 78 false, rowI 23 (lsT intT) Ws, rowI 23 (lsT intT) Es, mapI encS intT Kn, rowI 32 ApiQuery.ty Lg] [0, 1, 3] (fun (_ : Unit) => True) (fun _ => .sv (.agg [I (G.1).fLetters, I (G.1).fStart, LS (lsT intT) (G.1).fNext, LS intT (G.1).fMark])) (fun _ => [.box [.ptr 1 0, I lt, .own 2, .own 3, .own 4] 81 false, .box [I d.fLetters, I d.fStart, LS (lsT intT) d.fNext, LS intT d.fMark, .own 5] 78 false, rowI 23 (lsT intT) (G.2.1), rowI 23 (lsT intT) Es, mapI encS intT (G.2.2.1), rowI 32 ApiQuery.ty (G.2.2.2)]) := by
 refine (lGue_walk d lt Ws Es Kn Lg (fun res_ => res_ = (G.1, G.2.1, G.2.2.1, G.2.2.2)) ?_).imp (fun r hr => ⟨(), trivial, by subst hr; rfl, by subst hr; rfl⟩)
 obtain ⟨hd, hsm, rfl, hW, hdist, hends, hsome, hlog, hkn⟩ := hp
 have hlet := hd.letters
 obtain ⟨L, hL⟩ : ∃ L : Nat, d.fLetters = (L : Int) := ⟨d.fLetters.toNat, by omega⟩
 have hL4 : (L : Int) ≤ 4 := by omega
 have hcap := capF_acc hd hsm Es
 have hE : ∀ e ∈ Es, LtrW (L : Int) e := fun e he => by rw [← hL]; exact (hends e he).1
 rw [hL] at hW hkn hcap
 obtain ⟨f, hf⟩ : ∃ f, f = accB d := ⟨_, rfl⟩
 unfold lGue_vc rB rK rL iK iL
 have hrow : ∀ (K : KMap) (l : List ApiQuery) (w : List Int), KnOk (L : Int) f K → LtrW (L : Int) w → w.length ≤ 100 → l.length ≤ 100000000 → RowPre d Es K l w := fun K l w h1 h2 h3 h4 => ⟨hd, by rw [hL]; exact h2, h3, hends, hsome, h4, by rw [hL, ← hf]; exact h1⟩
 unfold gS at hG
 rw [show d.fLetters.toNat = L by omega, ← hf] at hG
 rw [hL, ← hf]
 rw [← hf] at hdist hcap hkn
 have hW12 := hcap _ hW.wl hdist
 obtain ⟨o0, ho0⟩ : ∃ o, o = out0 f Es Ws (Kn, Lg) := ⟨_, rfl⟩
 have hok0 := out0_ok (s := (Kn, Lg)) hL4 hE hW hdist hkn
 rw [← ho0] at hok0
 have hlog0 : o0.kl.2.length ≤ 50000000 + 12 * Es.length := by
  have h1 := (numS_kn (f := f) (s := (Kn, Lg)) hL4 hE hW.at hkn Ws.length).2
  have h2 : Ws.length * Es.length ≤ 12 * Es.length := Nat.mul_le_mul_right _ hW12
  have h3 : o0.kl.2.length = (numS f Es Ws (Kn, Lg) Ws.length).1.2.length := by rw [ho0]; rfl
  have h4 : (Kn, Lg).2.length = Lg.length := rfl
  omega
 refine ⟨fun x K l N => ∃ k : Nat, x = k ∧ k ≤ Ws.length ∧ ((K, l), N) = numS f Es Ws (Kn, Lg) k, fun x _ _ _ => Ws.length - x.toNat, ⟨0, rfl, Nat.zero_le _, rfl⟩, ?_⟩
 rintro x K l N ⟨k, rfl, hk, hS⟩
 have hS1 : (K, l) = (numS f Es Ws (Kn, Lg) k).1 := congrArg Prod.fst hS
 have hS2 : N = (numS f Es Ws (Kn, Lg) k).2 := congrArg Prod.snd hS
 refine ⟨fun hb => ?_, fun hb => ?_⟩
 ·have hlt := dlt hb
  obtain ⟨n1, n2⟩ := numS_kn (f := f) (s := (Kn, Lg)) hL4 hE hW.at hkn k
  rw [← hS1] at n1 n2
  have n2 : l.length ≤ Lg.length + k * Es.length := n2
  have n3 : k * Es.length ≤ 12 * Es.length := Nat.mul_le_mul_right _ (by omega)
  have hw := hW.len k
  rw [getD_get hlt] at hw
  refine ⟨_, idx_at hlt, hrow K l _ n1 (hW.wl _ (List.getElem_mem hlt)) (by omega) (by omega), ⟨k + 1, wr_up (by omega), hlt, ?_⟩, mu_up hlt (by omega)⟩
  rw [numS, ← hS1, ← hS2, getD_get hlt]
 ·obtain rfl : k = Ws.length := by have := dge hb; omega
  have hkl0 : (K, l) = o0.kl := by rw [hS1, ho0]; rfl
  have hnm0 : N = o0.nm := by rw [hS2, ho0]; rfl
  have hws0 : Ws = o0.ws := by rw [ho0]; rfl
  have hnx0 : ([] : List (List Int)) = o0.next := by rw [ho0]; rfl
  refine ⟨fun x ws K l N nx => ∃ (k : Nat) (o : GSt), x = k ∧ o = outS f Es L o0 k ∧ OutOk L f Es o0 o k ∧ ws = o.ws ∧ (K, l) = o.kl ∧ N = o.nm ∧ nx = o.next, fun x _ _ _ _ _ => 13 - x.toNat, ⟨0, o0, rfl, rfl, hok0, hws0, hkl0, hnm0, hnx0⟩, ?_⟩
  rintro x ws K l N nx ⟨k, o, rfl, ho, hO, rfl, hkl, rfl, rfl⟩
  have hcO := hcap _ hO.wok.wl hO.num.dist
  have hlogO : o.kl.2.length ≤ 50000000 + 60 * Es.length := by
   have h1 := hO.log
   have h2 : k * (L * Es.length) ≤ 12 * (4 * Es.length) := Nat.mul_le_mul (Nat.le_trans hO.le hcO) (Nat.mul_le_mul_right _ (by omega))
   omega
  refine ⟨fun hb => ?_, fun hb => ?_⟩
  ·have hlt := dlt hb
   obtain ⟨t0, ht0⟩ : ∃ t, t = clr L o := ⟨_, rfl⟩
   have hT0 : LetOk L f Es k t0 t0 0 := by rw [ht0]; exact hO.clr
   have e0 : t0.ws = o.ws := by rw [ht0]; rfl
   have e1 : t0.kl = o.kl := by rw [ht0]; rfl
   refine ⟨⟨by omega, Int.le_refl _, by show (L : Int) * ((8 : Nat) : Int) ≤ _; omega⟩, fun x ws K l N nx => ∃ (a : Nat) (t : GSt), x = a ∧ a ≤ L ∧ t = letS f Es k t0 a ∧ LetOk L f Es k t0 t a ∧ ws = t.ws ∧ (K, l) = t.kl ∧ N = t.nm ∧ nx = t.nx, fun x _ _ _ _ _ => L - x.toNat, ⟨0, t0, rfl, Nat.zero_le _, rfl, hT0, e0.symm, by rw [e1]; exact hkl, by rw [ht0]; rfl, by rw [ht0]; rfl⟩, ?_⟩
   rintro x ws K l N nx ⟨a, t, rfl, ha, ht, hT, rfl, hkl2, rfl, rfl⟩
   have hcT := hcap _ hT.wok.wl hT.num.dist
   have hlogT : l.length ≤ 50000000 + 64 * Es.length := by
    have h1 := hT.log
    have h2 : a * Es.length ≤ 4 * Es.length := Nat.mul_le_mul_right _ (by omega)
    have h3 : l = t.kl.2 := congrArg Prod.snd hkl2
    rw [e1] at h1
    rw [h3]
    omega
   have hge : o.ws.length ≤ t.ws.length := by have := hT.ge; rw [e0] at this; exact this
   refine ⟨fun hb2 => ?_, fun hb2 => ?_⟩
   ·have hat : a < L := by
     have := of_decide_eq_true hb2
     rw [List.length_replicate, Int.toNat_natCast] at this
     omega
    have hkt : k < t.ws.length := by omega
    have hwk := hT.wok.len k
    have hwl := hT.wok.at k
    have hwa : LtrW (L : Int) (t.ws.getD k [] ++ [(a : Int)]) := hwl.app fun x hx => by rw [List.mem_singleton.1 hx]; omega
    have hstep := hT.step hL4 hE (by rw [e0]; exact hlt) hat
    have htn : letF f Es (t.ws.getD k [] ++ [(a : Int)]) a t = letS f Es k t0 (a + 1) := by rw [letS, ← ht]
    refine ⟨t.ws.getD k [], by rw [getD_get hkt]; exact idx_at hkt, by omega, capOk_of (by simp only [List.length_cons, List.length_nil]; omega), hrow K l _ (by have := hT.kn; rw [← hkl2] at this; exact this) hwa (by rw [List.length_append, List.length_singleton]; omega) (by omega),
     fun n ws' N' => ws' = (letF f Es (t.ws.getD k [] ++ [(a : Int)]) a t).ws ∧ N' = (letF f Es (t.ws.getD k [] ++ [(a : Int)]) a t).nm ∧ t.nx.set a n = (letF f Es (t.ws.getD k [] ++ [(a : Int)]) a t).nx, ⟨fun h1 => ⟨capOk_of (by simp only [List.length_cons, List.length_nil]; omega), ?_⟩, fun h1 => ?_⟩, ?_⟩
    ·rw [letF_some h1]
     exact ⟨rfl, rfl, rfl⟩
    ·rw [letF_none h1]
     exact ⟨rfl, rfl, rfl⟩
    ·rintro n _ _ ⟨rfl, rfl, hnx⟩
     have hlen := hT.len
     refine ⟨_, idx_of 0 (by omega) (by omega), ⟨a + 1, letF f Es (t.ws.getD k [] ++ [(a : Int)]) a t, wr_up (by omega), hat, htn, hstep, rfl, by rw [letF_kl, ← hkl2], rfl, by rw [Int.toNat_natCast]; exact hnx⟩, mu_up hat (by omega)⟩
   ·obtain rfl : a = L := by
     have := of_decide_eq_false hb2
     rw [List.length_replicate, Int.toNat_natCast] at this
     omega
    have hon : outF f Es a k o = outS f Es a o0 (k + 1) := by rw [outS, ← ho, if_pos hlt]
    have hOn := hO.step hL4 hE hlt
    have hnxt : outF f Es a k o = nxtF t := by unfold outF; rw [← ht0, ← ht]
    have hlen := hO.len
    refine ⟨capOk_of (by simp only [List.length_cons, List.length_nil]; omega), ⟨k + 1, outF f Es a k o, wr_up (by omega), hon, hOn, by rw [hnxt]; rfl, by rw [hnxt]; exact hkl2, by rw [hnxt]; rfl, ?_⟩, ?_⟩
    ·rw [hnxt]
     show _ = t.next ++ [t.nx]
     rw [hT.next, ht0]
     rfl
    ·rw [wr_up (by omega)]
     show 13 - (k + 1) < 13 - k
     omega
  ·have hke : o.ws.length = k := by have := dge hb; have := hO.le; omega
   have hK20 : outK f L Es Ws (Kn, Lg) fuelN = o := by
    have hfu := fuelN_ge
    obtain ⟨j, hj⟩ : ∃ j, fuelN = k + j := ⟨fuelN - k, by omega⟩
    unfold outK
    rw [← ho0, ho, hj]
    exact outS_stop (by rw [← ho]; omega) _
   refine ⟨fun x K l r => ∃ j : Nat, x = j ∧ j ≤ o.ws.length ∧ ((K, l), r) = markS f o.ws o.kl j, fun x _ _ _ => o.ws.length - x.toNat, ⟨0, rfl, Nat.zero_le _, by rw [← hkl]; rfl⟩, ?_⟩
   rintro x K l r ⟨j, rfl, hj, hM⟩
   have hM1 : (K, l) = (markS f o.ws o.kl j).1 := congrArg Prod.fst hM
   have hM2 : r = (markS f o.ws o.kl j).2 := congrArg Prod.snd hM
   obtain ⟨m3, m4⟩ := markS_kn (f := f) hL4 hO.wok.at hO.kn j
   rw [← hM1] at m3 m4
   have m4 : l.length ≤ o.kl.2.length + j := m4
   have m5 := (markS_at (f := f) (Ws := o.ws) (s := o.kl) j).1
   rw [← hM2] at m5
   refine ⟨fun hb2 => ?_, fun hb2 => ?_⟩
   ·have hlt := dlt hb2
    have hw := hO.wok.len j
    have hnext : markS f o.ws o.kl (j + 1) = (isKL f (K, l) o.ws[j], r ++ [if f o.ws[j] = true then 1 else 0]) := by rw [markS, ← hM1, ← hM2, getD_get hlt]
    rw [getD_get hlt] at hw
    refine ⟨_, idx_at hlt, fun b => b = if f o.ws[j] = true then 1 else 0, ⟨⟨⟨hd, by rw [hL]; exact hO.wok.wl _ (List.getElem_mem hlt), by omega, by omega⟩, by rw [hL, ← hf]; exact m3⟩, fun h1 => (if_pos h1).symm, fun h1 => (if_neg (by rw [h1]; decide)).symm⟩, ?_⟩
    rintro _ rfl
    exact ⟨capOk_of (by simp only [List.length_cons, List.length_nil]; omega), ⟨j + 1, wr_up (by omega), hlt, hnext.symm⟩, mu_up hlt (by omega)⟩
   ·obtain rfl : j = o.ws.length := by have := dge hb2; omega
    unfold guessS guessK at hG
    rw [hK20] at hG
    unfold markT at hG
    rw [← hM] at hG
    rw [hG]
theorem lGue_ct (d : ApiDet) (lt : Int) (Ws : List (List Int)) (Es : List (List Int)) (Kn : List (ByteArray × Int)) (Lg : List ApiQuery) (hp : GuePre d lt Ws Es Kn Lg)  : CtE 33 [.sv (.one (.ptr 0 0))] [.box [.ptr 1 0, I lt, .own 2, .own 3, .own 4] 81 false, .box [I d.fLetters, I d.fStart, LS (lsT intT) d.fNext, LS intT d.fMark, .own 5] 78 false, rowI 23 (lsT intT) Ws, rowI 23 (lsT intT) Es, mapI encS intT Kn, rowI 32 ApiQuery.ty Lg] [0, 1, 3] (fun (_ : Unit) => True) (fun _ => .sv (.agg [I ((gS d Ws Es Kn Lg).1).fLetters, I ((gS d Ws Es Kn Lg).1).fStart, LS (lsT intT) ((gS d Ws Es Kn Lg).1).fNext, LS intT ((gS d Ws Es Kn Lg).1).fMark])) (fun _ => [.box [.ptr 1 0, I lt, .own 2, .own 3, .own 4] 81 false, .box [I d.fLetters, I d.fStart, LS (lsT intT) d.fNext, LS intT d.fMark, .own 5] 78 false, rowI 23 (lsT intT) ((gS d Ws Es Kn Lg).2.1), rowI 23 (lsT intT) Es, mapI encS intT ((gS d Ws Es Kn Lg).2.2.1), rowI 32 ApiQuery.ty ((gS d Ws Es Kn Lg).2.2.2)]) := lGue_ct_g d lt Ws Es Kn Lg _ rfl hp
end Go.Proofs.Ytobenjahlicnoaa
