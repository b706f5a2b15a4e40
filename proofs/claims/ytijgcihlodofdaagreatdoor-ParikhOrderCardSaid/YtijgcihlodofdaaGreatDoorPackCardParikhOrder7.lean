/- Lemmas towards the statement: mirrors of functions, and plain laws. No condition. -/
import Derived.ProofKit
import Derived.LaidMore
import Derived.OpenShut
import Derived.LaidLaws
import Derived.Test.YtijgcihlodofdaaGreatDoorPackCardParikhOrder6
namespace Go.Proofs.YtijgcihlodofdaaGreatDoor
open Go.RowKit Go.MapKept
set_option linter.unusedSimpArgs false
set_option linter.unusedVariables false
set_option maxRecDepth 100000
def pMan_vc (d : ApiDet) (counts : List Int) (Q : (ByteArray × Int) → Prop) : Prop :=
  d.fNext.length ≤ 9223372036854775807 →
  d.fMark.length ≤ 9223372036854775807 →
  counts.length ≤ 9223372036854775807 →
  (IfP ((chkR d counts) != 0) (Q ((ByteArray.mk #[]), (chkR d counts))) (((counts).length ≤ 4) ∧
  (WayPre d ([] : List (ParikhPlace × (Option MathBigInt))) (begunR d counts) 13) ∧
  ∀ r : (List (ParikhPlace × (Option MathBigInt))), (MOk) r →
  ((∃ v, (numR (wL ((begunR d counts)).fLeft)) = numR v ∧ 0 < v ∧ v < 4611686018427387904) ∧
  Q ((bytesOf (decL (numS (numR (wL ((begunR d counts)).fLeft))))), 0))))
theorem pMan_walk (d : ApiDet) (counts : List Int) (Q : (ByteArray × Int) → Prop) (h : pMan_vc d counts Q) : CtG GL 5 [.sv (.agg [I d.fLetters, I d.fStart, LS (lsT intT) d.fNext, LS intT d.fMark]), .sv (.one (LS intT counts))] [] Q (fun (r : (ByteArray × Int)) => .tup [.one (.v (.string r.1)), .one (I r.2)]) := by
  have ht := tab_ok
  refine CtG.body Tryz.func5 rfl rfl rfl rfl (fun c hn hG => ?_)
  unfold pMan_vc at h
  refine En.lenA 0 2 (by rfl) (by rfl) (fun hl => ?_)
  replace h := h hl
  clear hl
  refine En.lenA 0 3 (by rfl) (by rfl) (fun hl => ?_)
  replace h := h hl
  clear hl
  refine En.lenL 1 (by rfl) (fun hl => ?_)
  replace h := h hl
  clear hl
  refine En.seq ?_
  refine En.region ?_
  refine WL.run ht hn 3 ⟨[(1, .sv (.one (LS intT counts))), (2, .sv (.one (.ptr 0 0)))], [.box [I d.fLetters, I d.fStart, LS (lsT intT) d.fNext, LS intT d.fMark] 25 false]⟩ (by kernel_rfl) ?_
  refine WL.nil ?_
  refine En.seq ?_
  refine En.seq ?_
  refine En.region ?_
  refine WL.run ht hn 2 ⟨[(1, .sv (.one (LS intT counts))), (2, .sv (.one (.ptr 0 0))), (8, .sv (.agg [I d.fLetters, I d.fStart, LS (lsT intT) d.fNext, LS intT d.fMark])), (9, .sv (.one (LS intT counts)))], [.box [I d.fLetters, I d.fStart, LS (lsT intT) d.fNext, LS intT d.fMark] 25 false]⟩ (by kernel_rfl) ?_
  refine WL.mt0 (K := []) (p := none) hn (by rfl) (mt_call (pChk_ct d counts) en7 (caps := []) [] rfl (by rfl) (by kernel_rfl) (by kernel_rfl) (by rfl) (by rfl) (by rfl)) (by rfl) (by rfl) (by rfl) ?_
  refine WL.run ht hn 1 ⟨[(1, .sv (.one (LS intT counts))), (2, .sv (.one (.ptr 0 0))), (6, .sv (.one (I (chkR d counts))))], [.box [I d.fLetters, I d.fStart, LS (lsT intT) d.fNext, LS intT d.fMark] 25 false]⟩ (by kernel_rfl) ?_
  refine WL.nil ?_
  refine En.seq ?_
  refine En.region ?_
  refine WL.run ht hn 2 ⟨[(1, .sv (.one (LS intT counts))), (2, .sv (.one (.ptr 0 0))), (6, .sv (.one (I (chkR d counts)))), (12, .sv (.one (B ((chkR d counts) != 0))))], [.box [I d.fLetters, I d.fStart, LS (lsT intT) d.fNext, LS intT d.fMark] 25 false]⟩ (by kernel_rfl) ?_
  refine WL.nil ?_
  refine En.cond (b := ((chkR d counts) != 0)) (by kernel_rfl) (fun hb => ?_) (fun hb => ?_)
  · replace h := h.1 hb
    refine En.seq ?_
    refine En.region ?_
    refine WL.run ht hn 3 ⟨[(4, .sv (.one (.v (.string (ByteArray.mk #[]))))), (5, .sv (.one (I (chkR d counts))))], [.gone]⟩ (by kernel_rfl) ?_
    refine WL.nil ?_
    refine En.ret ?_
    exact En.back ht ((ByteArray.mk #[]), (chkR d counts)) h (by kernel_rfl) rfl
  · replace h := h.2 hb
    refine En.skip ?_
    refine En.seq ?_
    refine En.region ?_
    refine WL.run ht hn 1 ⟨[(1, .sv (.one (LS intT counts))), (2, .sv (.one (.ptr 0 0))), (14, .sv (.agg [I d.fLetters, I d.fStart, LS (lsT intT) d.fNext, LS intT d.fMark]))], [.box [I d.fLetters, I d.fStart, LS (lsT intT) d.fNext, LS intT d.fMark] 25 false]⟩ (by kernel_rfl) ?_
    refine WL.mt0 (K := []) (p := some (1, mapI ParikhPlace.enc (optT MathBigInt.ty) ([] : List (ParikhPlace × (Option MathBigInt))))) hn (by rfl) (mt_makeMap ParikhPlace.enc (optT MathBigInt.ty) 1 rfl) (by rfl) (by rfl) (by rfl) ?_
    refine WL.run ht hn 3 ⟨[(1, .sv (.one (LS intT counts))), (2, .sv (.one (.ptr 0 0))), (7, .sv (.one (.ptr 2 0)))], [.box [I d.fLetters, I d.fStart, LS (lsT intT) d.fNext, LS intT d.fMark] 25 false, mapI ParikhPlace.enc (optT MathBigInt.ty) ([] : List (ParikhPlace × (Option MathBigInt))), .box [I d.fLetters, I d.fStart, LS (lsT intT) d.fNext, LS intT d.fMark, .own 1] 37 false]⟩ (by kernel_rfl) ?_
    refine WL.nil ?_
    refine En.seq ?_
    refine En.region ?_
    refine WL.run ht hn 3 ⟨[(18, .sv (.one (.ptr 2 0))), (19, .sv (.agg [I d.fLetters, I d.fStart, LS (lsT intT) d.fNext, LS intT d.fMark])), (20, .sv (.one (LS intT counts)))], [.gone, mapI ParikhPlace.enc (optT MathBigInt.ty) ([] : List (ParikhPlace × (Option MathBigInt))), .box [I d.fLetters, I d.fStart, LS (lsT intT) d.fNext, LS intT d.fMark, .own 1] 37 false]⟩ (by kernel_rfl) ?_
    have hp := h.1
    replace h := h.2
    refine WL.mt0 (K := []) (p := none) hn (by rfl) (mt_call (begun_ct d counts hp) en8 (caps := []) [] rfl (by rfl) (by kernel_rfl) (by kernel_rfl) (by rfl) (by rfl) (by rfl)) (by rfl) (by rfl) (by rfl) ?_
    have hp := h.1
    replace h := h.2
    refine WL.callQ [(18, .sv (.one (.ptr 2 0))), (19, .sv (.agg [I d.fLetters, I d.fStart, LS (lsT intT) d.fNext, LS intT d.fMark])), (20, .sv (.one (LS intT counts))), (21, .sv (.agg [I (begunR d counts).fQ, I (begunR d counts).fLeft.fE0, I (begunR d counts).fLeft.fE1, I (begunR d counts).fLeft.fE2, I (begunR d counts).fLeft.fE3]))] (pWay_ct d ([] : List (ParikhPlace × (Option MathBigInt))) (begunR d counts) hp) en9 (caps := []) [2, 1] hn (by rfl) rfl (by rfl) (argsAs (by kernel_rfl) (by rfl)) (by kernel_rfl) (by decide) (by kernel_rfl) (by rfl) (by rfl) (fun r hr_2 => ⟨by rfl, _, by rfl, ?_⟩)
    replace h := h r hr_2
    have hp := h.1
    replace h := h.2
    refine WL.mt0 (K := []) (p := none) hn (by rfl) (mt_callG (bStr_ct (numR (wL ((begunR d counts)).fLeft)) hp) hG GL_mono en12 (caps := []) [] rfl (by rfl) (by kernel_rfl) (by kernel_rfl) (by rfl) (by rfl) (by rfl)) (by rfl) (by rfl) (by rfl) ?_
    refine WL.run ht hn 2 ⟨[(4, .sv (.one (.v (.string (bytesOf (decL (numS (numR (wL ((begunR d counts)).fLeft))))))))), (5, .sv (.one (I 0)))], [.gone, .gone, .gone]⟩ (by kernel_rfl) ?_
    refine WL.nil ?_
    refine En.ret ?_
    exact En.back ht ((bytesOf (decL (numS (numR (wL ((begunR d counts)).fLeft))))), 0) h (by kernel_rfl) rfl
theorem en5 : ∀ args w, (callFunc 5 args).run Tryz.prog w = .ok (.enter 5 args) w := enters_of Tryz.func5 (by kernel_rfl) rfl
def manR (d : ApiDet) (c : List Int) : ByteArray × Int := if (chkR d c != 0) = true then (ByteArray.mk #[], chkR d c) else (bytesOf (decL (wL (begunR d c).fLeft)), 0)
theorem pMan_ct (d : ApiDet) (counts : List Int) (hp : ∃ k : Int, d = oneD k ∧ 1 ≤ k ∧ k ≤ 4)  : CtG GL 5 [.sv (.agg [I d.fLetters, I d.fStart, LS (lsT intT) d.fNext, LS intT d.fMark]), .sv (.one (LS intT counts))] [] (fun (_ : Unit) => True) (fun _ => .tup [.one (.v (.string (manR d counts).1)), .one (I (manR d counts).2)]) := by
  refine (pMan_walk d counts (fun res_ => res_ = (manR d counts)) ?_).fun
  obtain ⟨k, rfl, h1, h4⟩ := hp
  unfold pMan_vc manR
  intro _ _ _
  refine ⟨fun h => by rw [if_pos h], fun h => ?_⟩
  have hc : chkR (oneD k) counts = 0 := by simpa using h
  rw [if_neg (by rw [h]; decide)]
  rw [chk_one h1 h4] at hc
  have hok := ctd_ok hc
  have hpl := hok.place h1 h4
  refine ⟨by have := hok.len; omega, ⟨⟨_, rfl, h1, h4, hpl⟩, fun p o h => (by cases h), by have := hpl.sum; omega⟩, fun r hr => ⟨⟨_, rfl, hpl.pos, by have := hpl.small; omega⟩, ?_⟩⟩
  have : numS (numR (wL (begunR (oneD k) counts).fLeft)) = wL (begunR (oneD k) counts).fLeft := by simp [numS, numR]
  rw [this]
def kDec_vc (n : Int) (Q : ByteArray → Prop) : Prop :=
  ∃ (Inv : Int → ByteArray → Prop) (mu : Int → ByteArray → Nat), Inv n (ByteArray.mk #[]) ∧
  ∀ (x0 : Int) (x3 : ByteArray) , Inv x0 x3 → (∃ J : Bool → Prop, (IfP (decide (x0 > 0)) (J true) (J (decide (x3 = (ByteArray.mk #[]))))) ∧
  (∀ (x9 : Bool), J x9 → IfP x9 (((bytesOf ([(IntKind.wrap .u8 (wr (48 + (Int.tmod x0 10))))] : List Int)).size + x3.size ≤ 1048576) ∧
  (Inv (wr (Int.tdiv x0 10)) ((bytesOf ([(IntKind.wrap .u8 (wr (48 + (Int.tmod x0 10))))] : List Int)) ++ x3) ∧ mu (wr (Int.tdiv x0 10)) ((bytesOf ([(IntKind.wrap .u8 (wr (48 + (Int.tmod x0 10))))] : List Int)) ++ x3) < mu x0 x3)) (Q x3)))
theorem kDec_walk (n : Int) (Q : ByteArray → Prop) (h : kDec_vc n Q) : Ct 6 [.sv (.one (I n))] [] Q (fun (r : ByteArray) => .sv (.one (.v (.string r)))) := by
  have ht := tab_ok
  refine Ct.body Tryz.func6 rfl rfl rfl rfl (fun c hn => ?_)
  unfold kDec_vc at h
  refine En.seq ?_
  refine En.region ?_
  refine WL.run ht hn 1 ⟨[(0, .sv (.one (I n)))], []⟩ (by kernel_rfl) ?_
  refine WL.nil ?_
  refine En.seq ?_
  refine En.region ?_
  refine WL.run ht hn 1 ⟨[(0, .sv (.one (I n))), (3, .sv (.one (.v (.string (ByteArray.mk #[])))))], []⟩ (by kernel_rfl) ?_
  refine WL.nil ?_
  refine En.seq ?_
  refine En.block ?_
  obtain ⟨Inv, mu, h0, hI⟩ := h
  refine En.loop (σ := Int × ByteArray) (fun zz => Inv zz.1 zz.2) (fun zz => mu zz.1 zz.2) (fun zz => ⟨[(0, .sv (.one (I zz.1))), (3, .sv (.one (.v (.string zz.2))))], []⟩) (n, (ByteArray.mk #[])) h0 (sub_ok (by kernel_rfl)) ?_
  rintro ⟨x0, x3⟩ h
  replace h := hI _ _ h
  show En c ⟨[(0, .sv (.one (I x0))), (3, .sv (.one (.v (.string x3))))], []⟩ _
  refine En.seq ?_
  obtain ⟨J, h, hJ⟩ := h
  refine En.seqJ (σ := Bool) (fun zz => J zz) (fun zz => ⟨[(0, .sv (.one (I x0))), (3, .sv (.one (.v (.string x3)))), (9, .sv (.one (B zz)))], []⟩) ?_ ?_
  · refine En.region ?_
    refine WL.run ht hn 3 ⟨[(0, .sv (.one (I x0))), (3, .sv (.one (.v (.string x3)))), (6, .sv (.one (B (decide (x0 > 0)))))], []⟩ (by kernel_rfl) ?_
    refine splitB (decide (x0 > 0)) (fun hb => ?_) (fun hb => ?_)
    · replace h := h.1 hb
      refine WL.setB 6 hb (by kernel_rfl) ?_
      refine WL.run ht hn 3 ⟨[(0, .sv (.one (I x0))), (3, .sv (.one (.v (.string x3)))), (9, .sv (.one (B true)))], []⟩ (by kernel_rfl) ?_
      refine WL.nil ?_
      exact En.at (I := fun zz => J zz) (T := fun zz => ⟨[(0, .sv (.one (I x0))), (3, .sv (.one (.v (.string x3)))), (9, .sv (.one (B zz)))], []⟩) true h (by kernel_rfl)
    · replace h := h.2 hb
      refine WL.setB 6 hb (by kernel_rfl) ?_
      refine WL.run ht hn 1 ⟨[(0, .sv (.one (I x0))), (3, .sv (.one (.v (.string x3)))), (6, .sv (.one (B false))), (7, .sv (.one (.v (.string x3))))], []⟩ (by kernel_rfl) ?_
      refine WL.val hn (by rfl) (val_eqS (u := x3) (v := (ByteArray.mk #[])) rfl (by rfl) (by rfl) (.inl ⟨rfl, rfl⟩)) (by rfl) ?_
      refine WL.run ht hn 1 ⟨[(0, .sv (.one (I x0))), (3, .sv (.one (.v (.string x3)))), (9, .sv (.one (B (decide (x3 = (ByteArray.mk #[]))))))], []⟩ (by kernel_rfl) ?_
      refine WL.nil ?_
      exact En.at (I := fun zz => J zz) (T := fun zz => ⟨[(0, .sv (.one (I x0))), (3, .sv (.one (.v (.string x3)))), (9, .sv (.one (B zz)))], []⟩) (decide (x3 = (ByteArray.mk #[]))) h (by kernel_rfl)
  · intro x9 h
    replace h := hJ _ h
    show En c ⟨[(0, .sv (.one (I x0))), (3, .sv (.one (.v (.string x3)))), (9, .sv (.one (B x9)))], []⟩ _
    refine En.cond (b := x9) (by kernel_rfl) (fun hb => ?_) (fun hb => ?_)
    · replace h := h.1 hb
      refine En.skip ?_
      refine En.block ?_
      refine En.seq ?_
      refine En.region ?_
      refine WL.run ht hn 4 ⟨[(0, .sv (.one (I x0))), (3, .sv (.one (.v (.string x3)))), (13, .sv (.one (.v (.int .u8 (IntKind.wrap .u8 (wr (48 + (Int.tmod x0 10))))))))], []⟩ (by kernel_rfl) ?_
      refine WL.mt0 (K := []) (p := some (0, rowI 5 (intKT .u8) ([(IntKind.wrap .u8 (wr (48 + (Int.tmod x0 10))))] : List Int))) hn (by rfl) (mt_lit (T := (intKT .u8)) ([(IntKind.wrap .u8 (wr (48 + (Int.tmod x0 10))))] : List Int) (mt_bsl 0 (r := cellsOf (intKT .u8) ([(IntKind.wrap .u8 (wr (48 + (Int.tmod x0 10))))] : List Int)) ht rfl (by rfl) (by rfl) (by rfl) (by kernel_rfl) (by rfl)) (fun _ h => by cases h) (fun _ => rfl) (fun _ => rfl) (by rfl) (Nat.le_of_ble_eq_true rfl)) (by rfl) (by rfl) (by rfl) ?_
      refine WL.val hn (by rfl) (val_str rfl Tryz.underlying47 Tryz.underlying5 Tryz.underlying9 (srcOwn (T := intKT .u8) (es := ([(IntKind.wrap .u8 (wr (48 + (Int.tmod x0 10))))] : List Int)) (fun _ h => by cases h) (by rfl) (by rfl))) (by rfl) ?_
      refine WL.run ht hn 1 ⟨[(0, .sv (.one (I x0))), (15, .sv (.one (.v (.string (bytesOf ([(IntKind.wrap .u8 (wr (48 + (Int.tmod x0 10))))] : List Int)))))), (16, .sv (.one (.v (.string x3))))], [.gone]⟩ (by kernel_rfl) ?_
      have hp_2 := h.1
      replace h := h.2
      refine WL.val hn (by rfl) (val_addS (u := (bytesOf ([(IntKind.wrap .u8 (wr (48 + (Int.tmod x0 10))))] : List Int))) (v := x3) rfl (by rfl) (by rfl) hp_2) (by rfl) ?_
      refine WL.run ht hn 1 ⟨[(0, .sv (.one (I x0))), (3, .sv (.one (.v (.string ((bytesOf ([(IntKind.wrap .u8 (wr (48 + (Int.tmod x0 10))))] : List Int)) ++ x3)))))], [.gone]⟩ (by kernel_rfl) ?_
      refine WL.nil ?_
      refine En.region ?_
      refine WL.run ht hn 3 ⟨[(0, .sv (.one (I (wr (Int.tdiv x0 10))))), (3, .sv (.one (.v (.string ((bytesOf ([(IntKind.wrap .u8 (wr (48 + (Int.tmod x0 10))))] : List Int)) ++ x3)))))], [.gone]⟩ (by kernel_rfl) ?_
      refine WL.nil ?_
      exact En.at (I := fun zz => Inv zz.1 zz.2 ∧ mu zz.1 zz.2 < mu x0 x3) (T := fun zz => ⟨[(0, .sv (.one (I zz.1))), (3, .sv (.one (.v (.string zz.2))))], []⟩) ((wr (Int.tdiv x0 10)), ((bytesOf ([(IntKind.wrap .u8 (wr (48 + (Int.tmod x0 10))))] : List Int)) ++ x3)) h (by kernel_rfl)
    · replace h := h.2 hb
      refine En.exit rfl ?_
      refine En.seq ?_
      refine En.region ?_
      refine WL.run ht hn 2 ⟨[(2, .sv (.one (.v (.string x3))))], []⟩ (by kernel_rfl) ?_
      refine WL.nil ?_
      refine En.ret ?_
      exact En.back ht x3 h (by kernel_rfl) rfl
theorem en6 : ∀ args w, (callFunc 6 args).run Tryz.prog w = .ok (.enter 6 args) w := enters_of Tryz.func6 (by kernel_rfl) rfl
theorem bytesOf_data (l : List Int) : (bytesOf l).data.toList = l.map fun n => UInt8.ofNat n.toNat := by
  have key : ∀ (l : List Int) (b : ByteArray), (l.foldl (fun r n => r.push (UInt8.ofNat n.toNat)) b).data.toList = b.data.toList ++ l.map fun n => UInt8.ofNat n.toNat := by
    intro l
    induction l with
    | nil => simp
    | cons x l ih =>
      intro b
      rw [List.foldl_cons, ih]
      simp
  have := key l ByteArray.empty
  rw [bytesOf, this]
  rfl
theorem bytes_ext {a b : ByteArray} (h : a.data.toList = b.data.toList) : a = b := by
  have h2 : a.data = b.data := Array.ext' h
  cases a
  cases b
  simp only at h2
  rw [h2]
theorem bytesOf_append (l m : List Int) : bytesOf (l ++ m) = bytesOf l ++ bytesOf m := bytes_ext (by
  rw [ByteArray.data_append, Array.toList_append, bytesOf_data, bytesOf_data, bytesOf_data, List.map_append])
theorem bytesOf_size (l : List Int) : (bytesOf l).size = l.length := by
  have := congrArg List.length (bytesOf_data l)
  rw [List.length_map, Array.length_toList] at this
  exact this
theorem decL_len {n : Int} (h0 : 0 ≤ n) (h1 : n ≤ 100000000) : (decL n).length ≤ 20 := by
  obtain ⟨j, hj⟩ := digL_dec 20 n h0 (by
    have : (10 : Int) ^ 20 = 100000000000000000000 := by decide
    omega)
  have := congrArg List.length hj
  rw [digL_len, List.length_append] at this
  omega
theorem kDec_ct (n : Int) (hp : 0 < n ∧ n ≤ 100000000)  : Ct 6 [.sv (.one (I n))] [] (fun (_ : Unit) => True) (fun _ => .sv (.one (.v (.string (bytesOf (decL n)))))) := by
  refine (kDec_walk n (fun res_ => res_ = (bytesOf (decL n))) ?_).fun
  obtain ⟨h0, h1⟩ := hp
  have hlen := decL_len (n := n) (by omega) h1
  unfold kDec_vc
  refine ⟨fun t s => ∃ suf : List Int, s = bytesOf suf ∧ decL n = decL t ++ suf ∧ 0 ≤ t ∧ t ≤ n ∧ (suf = [] → 0 < t), fun t _ => t.toNat, ⟨[], rfl, by simp, by omega, Int.le_refl _, fun _ => h0⟩, ?_⟩
  rintro t s ⟨suf, rfl, hd, t0, t1, hs⟩
  have hemp : 0 < t ∨ decide (bytesOf suf = ByteArray.mk #[]) = false := by
    rcases Int.lt_or_le 0 t with c | c
    · exact .inl c
    · refine .inr (decide_eq_false fun e => ?_)
      have e1 : (bytesOf suf).size = 0 := by rw [e]; rfl
      rw [bytesOf_size] at e1
      have := hs (List.length_eq_zero_iff.1 e1)
      omega
  refine ⟨fun b => b = decide (t > 0), ⟨fun h => h.symm, fun h => ?_⟩, ?_⟩
  · have := of_decide_eq_false h
    rcases hemp with c | c
    · omega
    · rw [c, h]
  rintro b rfl
  have hsl : suf.length ≤ 20 := by
    have := congrArg List.length hd
    rw [List.length_append] at this
    omega
  refine ⟨fun h => ?_, fun h => ?_⟩
  · have h := of_decide_eq_true h
    have hm : Int.tmod t 10 = t % 10 := Int.tmod_eq_emod_of_nonneg t0
    have hq : Int.tdiv t 10 = t / 10 := Int.tdiv_eq_ediv_of_nonneg t0
    have hw : IntKind.wrap .u8 (wr (48 + Int.tmod t 10)) = 48 + t % 10 := by
      rw [hm, wr_in (n := 48 + t % 10) (by omega) (by omega)]
      exact Int.emod_eq_of_lt (by omega) (show 48 + t % 10 < (256 : Int) by omega)
    have hw2 : wr (Int.tdiv t 10) = t / 10 := by
      rw [hq, wr_in (by omega) (by omega)]
    rw [hw, hw2]
    refine ⟨by rw [bytesOf_size, bytesOf_size, List.length_singleton]; omega, ⟨(48 + t % 10) :: suf, ?_, ?_, by omega, by omega, fun e => (by cases e)⟩, by show (t / 10).toNat < t.toNat; omega⟩
    · rw [← bytesOf_append]
      rfl
    · rw [hd, decL_pos h]
      simp
  · have h := of_decide_eq_false h
    have : t = 0 := by omega
    subst this
    rw [decL_zero] at hd
    rw [hd]
    rfl
def kPar_vc (x : List Int) (Q : Bool → Prop) : Prop :=
  x.length ≤ 9223372036854775807 →
  (IfP ((decide ((x.length : Int) < 1)) || (decide ((x.length : Int) > 4))) (Q true) (makeOk (x.length : Int) (x.length : Int) 8 ∧
  (∃ k : Int, (ApiDet.mk (x.length : Int) 0 ([(List.replicate ((x.length : Int)).toNat (0 : Int))] : List (List Int)) ([1] : List Int)) = oneD k ∧ 1 ≤ k ∧ k ≤ 4) ∧
  IfP ((wordR (ApiDet.mk (x.length : Int) 0 ([(List.replicate ((x.length : Int)).toNat (0 : Int))] : List (List Int)) ([1] : List Int)) x).2.2 != 0) (Q true) (IfP (!(wordR (ApiDet.mk (x.length : Int) 0 ([(List.replicate ((x.length : Int)).toNat (0 : Int))] : List (List Int)) ([1] : List Int)) x).2.1) (Q false) (∃ (Inv : Int → Prop) (mu : Int → Nat), Inv 1 ∧
  ∀ (x7 : Int) , Inv x7 → (IfP (decide (x7 < ((wordR (ApiDet.mk (x.length : Int) 0 ([(List.replicate ((x.length : Int)).toNat (0 : Int))] : List (List Int)) ([1] : List Int)) x).1.length : Int))) (∃ e, idx (wordR (ApiDet.mk (x.length : Int) 0 ([(List.replicate ((x.length : Int)).toNat (0 : Int))] : List (List Int)) ([1] : List Int)) x).1 (wr (x7 - 1)) = some e ∧
  ∃ e_2, idx (wordR (ApiDet.mk (x.length : Int) 0 ([(List.replicate ((x.length : Int)).toNat (0 : Int))] : List (List Int)) ([1] : List Int)) x).1 x7 = some e_2 ∧
  IfP (decide (e > e_2)) (Q false) ((Inv (wr (x7 + 1)) ∧ mu (wr (x7 + 1)) < mu x7))) (∃ (Inv_2 : Int → Int → Int → Prop) (mu_2 : Int → Int → Int → Nat), Inv_2 0 1 0 ∧
  ∀ (x8 : Int) (x9 : Int) (x10 : Int) , Inv_2 x8 x9 x10 → (IfP (decide (x10 < (x.length : Int))) (∃ (Inv_3 : Int → Int → Int → Prop) (mu_3 : Int → Int → Int → Nat), Inv_3 x8 x9 1 ∧
  ∀ (x8_2 : Int) (x9_2 : Int) (x11 : Int) , Inv_3 x8_2 x9_2 x11 → (∃ e_3, idx x x10 = some e_3 ∧
  IfP (decide (x11 ≤ e_3)) ((x11 ≠ 0) ∧
  (Inv_3 (wr (x8_2 + 1)) (wr (Int.tdiv (wr (x9_2 * (wr (x8_2 + 1)))) x11)) (wr (x11 + 1)) ∧ mu_3 (wr (x8_2 + 1)) (wr (Int.tdiv (wr (x9_2 * (wr (x8_2 + 1)))) x11)) (wr (x11 + 1)) < mu_3 x8_2 x9_2 x11)) ((Inv_2 x8_2 x9_2 (wr (x10 + 1)) ∧ mu_2 x8_2 x9_2 (wr (x10 + 1)) < mu_2 x8 x9 x10)))) ((∃ k : Int, (ApiDet.mk (x.length : Int) 0 ([(List.replicate ((x.length : Int)).toNat (0 : Int))] : List (List Int)) ([1] : List Int)) = oneD k ∧ 1 ≤ k ∧ k ≤ 4) ∧
  ∃ J : Bool → Prop, (IfP ((manR (ApiDet.mk (x.length : Int) 0 ([(List.replicate ((x.length : Int)).toNat (0 : Int))] : List (List Int)) ([1] : List Int)) x).2 == 0) ((0 < x9 ∧ x9 ≤ 100000000) ∧
  J (decide ((manR (ApiDet.mk (x.length : Int) 0 ([(List.replicate ((x.length : Int)).toNat (0 : Int))] : List (List Int)) ([1] : List Int)) x).1 = (bytesOf (decL x9))))) (J false)) ∧
  (∀ (x2 : Bool), J x2 → Q x2)))))))))
set_option maxHeartbeats 2000000 in
theorem kPar_walk (x : List Int) (Q : Bool → Prop) (h : kPar_vc x Q) : CtG GL 3 [.sv (.one (LS intT x))] [] Q (fun (r : Bool) => .sv (.one (B r))) := by
  have ht := tab_ok
  refine CtG.body Tryz.func3 rfl rfl rfl rfl (fun c hn hG => ?_)
  unfold kPar_vc at h
  refine En.lenL 0 (by rfl) (fun hl => ?_)
  replace h := h hl
  clear hl
  refine En.seq ?_
  refine En.region ?_
  refine WL.run ht hn 1 ⟨[(0, .sv (.one (LS intT x)))], []⟩ (by kernel_rfl) ?_
  refine WL.nil ?_
  refine En.seq ?_
  refine En.seq ?_
  refine En.region ?_
  refine WL.run ht hn 4 ⟨[(0, .sv (.one (LS intT x))), (16, .sv (.one (B (decide ((x.length : Int) < 1)))))], []⟩ (by kernel_rfl) ?_
  refine WL.thru ⟨[(0, .sv (.one (LS intT x))), (20, .sv (.one (B ((decide ((x.length : Int) < 1)) || (decide ((x.length : Int) > 4))))))], []⟩ ?_ ?_
  · refine splitB (decide ((x.length : Int) < 1)) (fun hb0 => ?_) (fun hb0 => ?_)
    · refine WL.setB 16 hb0 (by kernel_rfl) ?_
      refine WL.run ht hn 4 ⟨[(0, .sv (.one (LS intT x))), (20, .sv (.one (B true)))], []⟩ (by kernel_rfl) ?_
      exact WL.nil (sub_ok (by simp only [hb0]; kernel_rfl))
    · refine WL.setB 16 hb0 (by kernel_rfl) ?_
      refine WL.run ht hn 4 ⟨[(0, .sv (.one (LS intT x))), (20, .sv (.one (B (decide ((x.length : Int) > 4)))))], []⟩ (by kernel_rfl) ?_
      exact WL.nil (sub_ok (by simp only [hb0]; kernel_rfl))
  · refine En.cond (b := ((decide ((x.length : Int) < 1)) || (decide ((x.length : Int) > 4)))) (by kernel_rfl) (fun hb => ?_) (fun hb => ?_)
    · replace h := h.1 hb
      refine En.seq ?_
      refine En.region ?_
      refine WL.run ht hn 1 ⟨[(2, .sv (.one (B true)))], []⟩ (by kernel_rfl) ?_
      refine WL.nil ?_
      refine En.ret ?_
      exact En.back ht true h (by kernel_rfl) rfl
    · replace h := h.2 hb
      refine En.skip ?_
      refine En.seq ?_
      refine En.region ?_
      refine WL.run ht hn 4 ⟨[(0, .sv (.one (LS intT x))), (22, .sv (.one (I (x.length : Int)))), (24, .sv (.one (I (x.length : Int))))], []⟩ (by kernel_rfl) ?_
      have hp := h.1
      replace h := h.2
      refine WL.mt0 (K := []) (p := some (0, rowI 3 intT (List.replicate ((x.length : Int)).toNat (0 : Int)))) hn (by rfl) (mt_make (T := intT) (0 : Int) (zv := (.int .i64 0)) 0 (l := (x.length : Int)) (cp := (x.length : Int)) ht rfl (by rfl) (by rfl) (by rfl) (by rfl) (by decide) (by rfl) (by rfl) hp.1 hp.2.1 hp.2.2 (hp.le (by decide)) rfl (fun _ => ⟨rfl, trivial⟩)) (by rfl) (by rfl) (by rfl) ?_
      refine WL.seal (T := intT) (l := (List.replicate ((x.length : Int)).toNat (0 : Int))) (e := 3) 0 rfl ?_
      refine WL.run ht hn 0 ⟨[(0, .sv (.one (LS intT x))), (22, .sv (.one (I (x.length : Int)))), (24, .sv (.one (I (x.length : Int)))), (25, .sv (.one (LS intT (List.replicate ((x.length : Int)).toNat (0 : Int)))))], [.gone]⟩ (by kernel_rfl) ?_
      refine WL.mt0 (K := []) (p := some (1, rowI 22 (lsT intT) ([(List.replicate ((x.length : Int)).toNat (0 : Int))] : List (List Int)))) hn (by rfl) (mt_lit (T := (lsT intT)) ([(List.replicate ((x.length : Int)).toNat (0 : Int))] : List (List Int)) (mt_bsl 1 (r := cellsOf (lsT intT) ([(List.replicate ((x.length : Int)).toNat (0 : Int))] : List (List Int))) ht rfl (by rfl) (by rfl) (by rfl) (by kernel_rfl) (by rfl)) (fun _ h => by cases h) (fun _ => rfl) (fun _ => rfl) (by rfl) (Nat.le_of_ble_eq_true rfl)) (by rfl) (by rfl) (by rfl) ?_
      refine WL.mt0 (K := []) (p := some (2, rowI 3 intT ([1] : List Int))) hn (by rfl) (mt_lit (T := intT) ([1] : List Int) (mt_bsl 2 (r := cellsOf intT ([1] : List Int)) ht rfl (by rfl) (by rfl) (by rfl) (by kernel_rfl) (by rfl)) (fun _ h => by cases h) (fun _ => rfl) (fun _ => rfl) (by rfl) (Nat.le_of_ble_eq_true rfl)) (by rfl) (by rfl) (by rfl) ?_
      refine WL.run ht hn 3 ⟨[(0, .sv (.one (LS intT x))), (3, .sv (.one (.ptr 3 0)))], [.gone, rowI 22 (lsT intT) ([(List.replicate ((x.length : Int)).toNat (0 : Int))] : List (List Int)), rowI 3 intT ([1] : List Int), .box [I (x.length : Int), I 0, .own 1, .own 2] 25 false]⟩ (by kernel_rfl) ?_
      refine WL.nil ?_
      refine En.seq ?_
      refine En.region ?_
      refine WL.run ht hn 2 ⟨[(0, .sv (.one (LS intT x))), (3, .sv (.one (.ptr 3 0))), (30, .sv (.agg [I (x.length : Int), I 0, .own 1, .own 2])), (31, .sv (.one (LS intT x)))], [.gone, rowI 22 (lsT intT) ([(List.replicate ((x.length : Int)).toNat (0 : Int))] : List (List Int)), rowI 3 intT ([1] : List Int), .box [I (x.length : Int), I 0, .own 1, .own 2] 25 false]⟩ (by kernel_rfl) ?_
      refine WL.seal (T := (lsT intT)) (l := ([(List.replicate ((x.length : Int)).toNat (0 : Int))] : List (List Int))) (e := 22) 1 rfl ?_
      refine WL.run ht hn 0 ⟨[(0, .sv (.one (LS intT x))), (3, .sv (.one (.ptr 3 0))), (30, .sv (.agg [I (x.length : Int), I 0, LS (lsT intT) ([(List.replicate ((x.length : Int)).toNat (0 : Int))] : List (List Int)), .own 2])), (31, .sv (.one (LS intT x)))], [.gone, .gone, rowI 3 intT ([1] : List Int), .box [I (x.length : Int), I 0, LS (lsT intT) ([(List.replicate ((x.length : Int)).toNat (0 : Int))] : List (List Int)), .own 2] 25 false]⟩ (by kernel_rfl) ?_
      refine WL.seal (T := intT) (l := ([1] : List Int)) (e := 3) 2 rfl ?_
      refine WL.run ht hn 0 ⟨[(0, .sv (.one (LS intT x))), (3, .sv (.one (.ptr 3 0))), (30, .sv (.agg [I (x.length : Int), I 0, LS (lsT intT) ([(List.replicate ((x.length : Int)).toNat (0 : Int))] : List (List Int)), LS intT ([1] : List Int)])), (31, .sv (.one (LS intT x)))], [.gone, .gone, .gone, .box [I (x.length : Int), I 0, LS (lsT intT) ([(List.replicate ((x.length : Int)).toNat (0 : Int))] : List (List Int)), LS intT ([1] : List Int)] 25 false]⟩ (by kernel_rfl) ?_
      have hp := h.1
      replace h := h.2
      refine WL.mt0 (K := []) (p := none) hn (by rfl) (mt_call (pWord_ct (ApiDet.mk (x.length : Int) 0 ([(List.replicate ((x.length : Int)).toNat (0 : Int))] : List (List Int)) ([1] : List Int)) x hp) en4 (caps := []) [] rfl (by rfl) (by kernel_rfl) (by kernel_rfl) (by rfl) (by rfl) (by rfl)) (by rfl) (by rfl) (by rfl) ?_
      refine WL.run ht hn 7 ⟨[(0, .sv (.one (LS intT x))), (3, .sv (.one (.ptr 3 0))), (4, .sv (.one (LS intT (wordR (ApiDet.mk (x.length : Int) 0 ([(List.replicate ((x.length : Int)).toNat (0 : Int))] : List (List Int)) ([1] : List Int)) x).1))), (5, .sv (.one (B (wordR (ApiDet.mk (x.length : Int) 0 ([(List.replicate ((x.length : Int)).toNat (0 : Int))] : List (List Int)) ([1] : List Int)) x).2.1))), (6, .sv (.one (I (wordR (ApiDet.mk (x.length : Int) 0 ([(List.replicate ((x.length : Int)).toNat (0 : Int))] : List (List Int)) ([1] : List Int)) x).2.2)))], [.gone, .gone, .gone, .box [I (x.length : Int), I 0, LS (lsT intT) ([(List.replicate ((x.length : Int)).toNat (0 : Int))] : List (List Int)), LS intT ([1] : List Int)] 25 false]⟩ (by kernel_rfl) ?_
      refine WL.nil ?_
      refine En.seq ?_
      refine En.seq ?_
      refine En.region ?_
      refine WL.run ht hn 2 ⟨[(0, .sv (.one (LS intT x))), (3, .sv (.one (.ptr 3 0))), (4, .sv (.one (LS intT (wordR (ApiDet.mk (x.length : Int) 0 ([(List.replicate ((x.length : Int)).toNat (0 : Int))] : List (List Int)) ([1] : List Int)) x).1))), (5, .sv (.one (B (wordR (ApiDet.mk (x.length : Int) 0 ([(List.replicate ((x.length : Int)).toNat (0 : Int))] : List (List Int)) ([1] : List Int)) x).2.1))), (37, .sv (.one (B ((wordR (ApiDet.mk (x.length : Int) 0 ([(List.replicate ((x.length : Int)).toNat (0 : Int))] : List (List Int)) ([1] : List Int)) x).2.2 != 0))))], [.gone, .gone, .gone, .box [I (x.length : Int), I 0, LS (lsT intT) ([(List.replicate ((x.length : Int)).toNat (0 : Int))] : List (List Int)), LS intT ([1] : List Int)] 25 false]⟩ (by kernel_rfl) ?_
      refine WL.nil ?_
      refine En.cond (b := ((wordR (ApiDet.mk (x.length : Int) 0 ([(List.replicate ((x.length : Int)).toNat (0 : Int))] : List (List Int)) ([1] : List Int)) x).2.2 != 0)) (by kernel_rfl) (fun hb => ?_) (fun hb => ?_)
      · replace h := h.1 hb
        refine En.seq ?_
        refine En.region ?_
        refine WL.run ht hn 1 ⟨[(2, .sv (.one (B true)))], [.gone, .gone, .gone, .gone]⟩ (by kernel_rfl) ?_
        refine WL.nil ?_
        refine En.ret ?_
        exact En.back ht true h (by kernel_rfl) rfl
      · replace h := h.2 hb
        refine En.skip ?_
        refine En.seq ?_
        refine En.seq ?_
        refine En.region ?_
        refine WL.run ht hn 2 ⟨[(0, .sv (.one (LS intT x))), (3, .sv (.one (.ptr 3 0))), (4, .sv (.one (LS intT (wordR (ApiDet.mk (x.length : Int) 0 ([(List.replicate ((x.length : Int)).toNat (0 : Int))] : List (List Int)) ([1] : List Int)) x).1))), (39, .sv (.one (B (!(wordR (ApiDet.mk (x.length : Int) 0 ([(List.replicate ((x.length : Int)).toNat (0 : Int))] : List (List Int)) ([1] : List Int)) x).2.1))))], [.gone, .gone, .gone, .box [I (x.length : Int), I 0, LS (lsT intT) ([(List.replicate ((x.length : Int)).toNat (0 : Int))] : List (List Int)), LS intT ([1] : List Int)] 25 false]⟩ (by kernel_rfl) ?_
        refine WL.nil ?_
        refine En.cond (b := (!(wordR (ApiDet.mk (x.length : Int) 0 ([(List.replicate ((x.length : Int)).toNat (0 : Int))] : List (List Int)) ([1] : List Int)) x).2.1)) (by kernel_rfl) (fun hb => ?_) (fun hb => ?_)
        · replace h := h.1 hb
          refine En.seq ?_
          refine En.region ?_
          refine WL.run ht hn 1 ⟨[(2, .sv (.one (B false)))], [.gone, .gone, .gone, .gone]⟩ (by kernel_rfl) ?_
          refine WL.nil ?_
          refine En.ret ?_
          exact En.back ht false h (by kernel_rfl) rfl
        · replace h := h.2 hb
          refine En.skip ?_
          refine En.seq ?_
          refine En.seq ?_
          refine En.region ?_
          refine WL.run ht hn 1 ⟨[(0, .sv (.one (LS intT x))), (3, .sv (.one (.ptr 3 0))), (4, .sv (.one (LS intT (wordR (ApiDet.mk (x.length : Int) 0 ([(List.replicate ((x.length : Int)).toNat (0 : Int))] : List (List Int)) ([1] : List Int)) x).1))), (7, .sv (.one (I 1)))], [.gone, .gone, .gone, .box [I (x.length : Int), I 0, LS (lsT intT) ([(List.replicate ((x.length : Int)).toNat (0 : Int))] : List (List Int)), LS intT ([1] : List Int)] 25 false]⟩ (by kernel_rfl) ?_
          refine WL.nil ?_
          refine En.block ?_
          obtain ⟨Inv, mu, h0_3, hI_3⟩ := h
          refine En.loop (σ := Int) (fun zz => Inv zz) (fun zz => mu zz) (fun zz => ⟨[(0, .sv (.one (LS intT x))), (3, .sv (.one (.ptr 3 0))), (4, .sv (.one (LS intT (wordR (ApiDet.mk (x.length : Int) 0 ([(List.replicate ((x.length : Int)).toNat (0 : Int))] : List (List Int)) ([1] : List Int)) x).1))), (7, .sv (.one (I zz)))], [.gone, .gone, .gone, .box [I (x.length : Int), I 0, LS (lsT intT) ([(List.replicate ((x.length : Int)).toNat (0 : Int))] : List (List Int)), LS intT ([1] : List Int)] 25 false]⟩) 1 h0_3 (sub_ok (by kernel_rfl)) ?_
          intro x7 h
          replace h := hI_3 _ h
          show En c ⟨[(0, .sv (.one (LS intT x))), (3, .sv (.one (.ptr 3 0))), (4, .sv (.one (LS intT (wordR (ApiDet.mk (x.length : Int) 0 ([(List.replicate ((x.length : Int)).toNat (0 : Int))] : List (List Int)) ([1] : List Int)) x).1))), (7, .sv (.one (I x7)))], [.gone, .gone, .gone, .box [I (x.length : Int), I 0, LS (lsT intT) ([(List.replicate ((x.length : Int)).toNat (0 : Int))] : List (List Int)), LS intT ([1] : List Int)] 25 false]⟩ _
          refine En.seq ?_
          refine En.seq ?_
          refine En.region ?_
          refine WL.run ht hn 4 ⟨[(0, .sv (.one (LS intT x))), (3, .sv (.one (.ptr 3 0))), (4, .sv (.one (LS intT (wordR (ApiDet.mk (x.length : Int) 0 ([(List.replicate ((x.length : Int)).toNat (0 : Int))] : List (List Int)) ([1] : List Int)) x).1))), (7, .sv (.one (I x7))), (43, .sv (.one (B (decide (x7 < ((wordR (ApiDet.mk (x.length : Int) 0 ([(List.replicate ((x.length : Int)).toNat (0 : Int))] : List (List Int)) ([1] : List Int)) x).1.length : Int))))))], [.gone, .gone, .gone, .box [I (x.length : Int), I 0, LS (lsT intT) ([(List.replicate ((x.length : Int)).toNat (0 : Int))] : List (List Int)), LS intT ([1] : List Int)] 25 false]⟩ (by kernel_rfl) ?_
          refine WL.nil ?_
          refine En.cond (b := (decide (x7 < ((wordR (ApiDet.mk (x.length : Int) 0 ([(List.replicate ((x.length : Int)).toNat (0 : Int))] : List (List Int)) ([1] : List Int)) x).1.length : Int)))) (by kernel_rfl) (fun hb => ?_) (fun hb => ?_)
          · replace h := h.1 hb
            refine En.skip ?_
            refine En.seq ?_
            refine En.block ?_
            refine En.seq ?_
            refine En.regionS (by kernel_rfl) (by kernel_rfl) ?_
            refine SL.run ht hn 3 ⟨[(0, .sv (.one (LS intT x))), (3, .sv (.one (.ptr 3 0))), (4, .sv (.one (LS intT (wordR (ApiDet.mk (x.length : Int) 0 ([(List.replicate ((x.length : Int)).toNat (0 : Int))] : List (List Int)) ([1] : List Int)) x).1))), (7, .sv (.one (I x7))), (46, .sv (.one (LS intT (wordR (ApiDet.mk (x.length : Int) 0 ([(List.replicate ((x.length : Int)).toNat (0 : Int))] : List (List Int)) ([1] : List Int)) x).1))), (47, .sv (.one (I x7))), (48, .sv (.one (I (wr (x7 - 1)))))], [.gone, .gone, .gone, .box [I (x.length : Int), I 0, LS (lsT intT) ([(List.replicate ((x.length : Int)).toNat (0 : Int))] : List (List Int)), LS intT ([1] : List Int)] 25 false]⟩ (by kernel_rfl) ?_
            obtain ⟨e, he, h⟩ := h
            refine SL.val hn (by rfl) (val_index (T := intT) (l := (wordR (ApiDet.mk (x.length : Int) 0 ([(List.replicate ((x.length : Int)).toNat (0 : Int))] : List (List Int)) ([1] : List Int)) x).1) (i := (wr (x7 - 1))) ht rfl (by rfl) (by rfl) (by rfl) (by rfl) (by rfl) (by rfl) he) (by rfl) ?_
            refine SL.val hn (by rfl) (val_load (s := .one (I e)) ht rfl (by rfl) (by rfl) (by rfl) (by rfl) (by rfl)) (by rfl) ?_
            refine SL.run ht hn 2 ⟨[(0, .sv (.one (LS intT x))), (3, .sv (.one (.ptr 3 0))), (4, .sv (.one (LS intT (wordR (ApiDet.mk (x.length : Int) 0 ([(List.replicate ((x.length : Int)).toNat (0 : Int))] : List (List Int)) ([1] : List Int)) x).1))), (7, .sv (.one (I x7))), (46, .sv (.one (LS intT (wordR (ApiDet.mk (x.length : Int) 0 ([(List.replicate ((x.length : Int)).toNat (0 : Int))] : List (List Int)) ([1] : List Int)) x).1))), (47, .sv (.one (I x7))), (48, .sv (.one (I (wr (x7 - 1))))), (49, .sv (.one (.pe (svR (.one (I e))) 1))), (50, .sv (.one (I e))), (51, .sv (.one (LS intT (wordR (ApiDet.mk (x.length : Int) 0 ([(List.replicate ((x.length : Int)).toNat (0 : Int))] : List (List Int)) ([1] : List Int)) x).1))), (52, .sv (.one (I x7)))], [.gone, .gone, .gone, .box [I (x.length : Int), I 0, LS (lsT intT) ([(List.replicate ((x.length : Int)).toNat (0 : Int))] : List (List Int)), LS intT ([1] : List Int)] 25 false]⟩ (by kernel_rfl) ?_
            obtain ⟨e_2, he_2, h⟩ := h
            refine SL.val hn (by rfl) (val_index (T := intT) (l := (wordR (ApiDet.mk (x.length : Int) 0 ([(List.replicate ((x.length : Int)).toNat (0 : Int))] : List (List Int)) ([1] : List Int)) x).1) (i := x7) ht rfl (by rfl) (by rfl) (by rfl) (by rfl) (by rfl) (by rfl) he_2) (by rfl) ?_
            refine SL.val hn (by rfl) (val_load (s := .one (I e_2)) ht rfl (by rfl) (by rfl) (by rfl) (by rfl) (by rfl)) (by rfl) ?_
            refine SL.run ht hn 1 ⟨[(0, .sv (.one (LS intT x))), (3, .sv (.one (.ptr 3 0))), (4, .sv (.one (LS intT (wordR (ApiDet.mk (x.length : Int) 0 ([(List.replicate ((x.length : Int)).toNat (0 : Int))] : List (List Int)) ([1] : List Int)) x).1))), (7, .sv (.one (I x7))), (46, .sv (.one (LS intT (wordR (ApiDet.mk (x.length : Int) 0 ([(List.replicate ((x.length : Int)).toNat (0 : Int))] : List (List Int)) ([1] : List Int)) x).1))), (47, .sv (.one (I x7))), (48, .sv (.one (I (wr (x7 - 1))))), (49, .sv (.one (.pe (svR (.one (I e))) 1))), (50, .sv (.one (I e))), (51, .sv (.one (LS intT (wordR (ApiDet.mk (x.length : Int) 0 ([(List.replicate ((x.length : Int)).toNat (0 : Int))] : List (List Int)) ([1] : List Int)) x).1))), (52, .sv (.one (I x7))), (53, .sv (.one (.pe (svR (.one (I e_2))) 1))), (54, .sv (.one (I e_2))), (55, .sv (.one (B (decide (e > e_2)))))], [.gone, .gone, .gone, .box [I (x.length : Int), I 0, LS (lsT intT) ([(List.replicate ((x.length : Int)).toNat (0 : Int))] : List (List Int)), LS intT ([1] : List Int)] 25 false]⟩ (by kernel_rfl) ?_
            refine SL.nil ⟨by kernel_rfl, ?_⟩
            refine En.cond (b := (decide (e > e_2))) (by kernel_rfl) (fun hb => ?_) (fun hb => ?_)
            · replace h := h.1 hb
              refine En.seq ?_
              refine En.region ?_
              refine WL.run ht hn 1 ⟨[(2, .sv (.one (B false)))], [.gone, .gone, .gone, .gone]⟩ (by kernel_rfl) ?_
              refine WL.nil ?_
              refine En.ret ?_
              exact En.back ht false h (by kernel_rfl) rfl
            · replace h := h.2 hb
              refine En.skip ?_
              refine En.region ?_
              refine WL.run ht hn 3 ⟨[(0, .sv (.one (LS intT x))), (3, .sv (.one (.ptr 3 0))), (4, .sv (.one (LS intT (wordR (ApiDet.mk (x.length : Int) 0 ([(List.replicate ((x.length : Int)).toNat (0 : Int))] : List (List Int)) ([1] : List Int)) x).1))), (7, .sv (.one (I (wr (x7 + 1)))))], [.gone, .gone, .gone, .box [I (x.length : Int), I 0, LS (lsT intT) ([(List.replicate ((x.length : Int)).toNat (0 : Int))] : List (List Int)), LS intT ([1] : List Int)] 25 false]⟩ (by kernel_rfl) ?_
              refine WL.nil ?_
              exact En.at (I := fun zz => Inv zz ∧ mu zz < mu x7) (T := fun zz => ⟨[(0, .sv (.one (LS intT x))), (3, .sv (.one (.ptr 3 0))), (4, .sv (.one (LS intT (wordR (ApiDet.mk (x.length : Int) 0 ([(List.replicate ((x.length : Int)).toNat (0 : Int))] : List (List Int)) ([1] : List Int)) x).1))), (7, .sv (.one (I zz)))], [.gone, .gone, .gone, .box [I (x.length : Int), I 0, LS (lsT intT) ([(List.replicate ((x.length : Int)).toNat (0 : Int))] : List (List Int)), LS intT ([1] : List Int)] 25 false]⟩) (wr (x7 + 1)) h (by kernel_rfl)
          · replace h := h.2 hb
            refine En.exit rfl ?_
            refine En.seq ?_
            refine En.region ?_
            refine WL.run ht hn 1 ⟨[(0, .sv (.one (LS intT x))), (3, .sv (.one (.ptr 3 0))), (8, .sv (.one (I 0)))], [.gone, .gone, .gone, .box [I (x.length : Int), I 0, LS (lsT intT) ([(List.replicate ((x.length : Int)).toNat (0 : Int))] : List (List Int)), LS intT ([1] : List Int)] 25 false]⟩ (by kernel_rfl) ?_
            refine WL.nil ?_
            refine En.seq ?_
            refine En.region ?_
            refine WL.run ht hn 1 ⟨[(0, .sv (.one (LS intT x))), (3, .sv (.one (.ptr 3 0))), (8, .sv (.one (I 0))), (9, .sv (.one (I 1)))], [.gone, .gone, .gone, .box [I (x.length : Int), I 0, LS (lsT intT) ([(List.replicate ((x.length : Int)).toNat (0 : Int))] : List (List Int)), LS intT ([1] : List Int)] 25 false]⟩ (by kernel_rfl) ?_
            refine WL.nil ?_
            refine En.seq ?_
            refine En.seq ?_
            refine En.region ?_
            refine WL.run ht hn 1 ⟨[(0, .sv (.one (LS intT x))), (3, .sv (.one (.ptr 3 0))), (8, .sv (.one (I 0))), (9, .sv (.one (I 1))), (10, .sv (.one (I 0)))], [.gone, .gone, .gone, .box [I (x.length : Int), I 0, LS (lsT intT) ([(List.replicate ((x.length : Int)).toNat (0 : Int))] : List (List Int)), LS intT ([1] : List Int)] 25 false]⟩ (by kernel_rfl) ?_
            refine WL.nil ?_
            refine En.block ?_
            obtain ⟨Inv_2, mu_2, h0_2, hI_2⟩ := h
            refine En.loop (σ := Int × Int × Int) (fun zz => Inv_2 zz.1 zz.2.1 zz.2.2) (fun zz => mu_2 zz.1 zz.2.1 zz.2.2) (fun zz => ⟨[(0, .sv (.one (LS intT x))), (3, .sv (.one (.ptr 3 0))), (8, .sv (.one (I zz.1))), (9, .sv (.one (I zz.2.1))), (10, .sv (.one (I zz.2.2)))], [.gone, .gone, .gone, .box [I (x.length : Int), I 0, LS (lsT intT) ([(List.replicate ((x.length : Int)).toNat (0 : Int))] : List (List Int)), LS intT ([1] : List Int)] 25 false]⟩) (0, 1, 0) h0_2 (sub_ok (by kernel_rfl)) ?_
            rintro ⟨x8, x9, x10⟩ h
            replace h := hI_2 _ _ _ h
            show En c ⟨[(0, .sv (.one (LS intT x))), (3, .sv (.one (.ptr 3 0))), (8, .sv (.one (I x8))), (9, .sv (.one (I x9))), (10, .sv (.one (I x10)))], [.gone, .gone, .gone, .box [I (x.length : Int), I 0, LS (lsT intT) ([(List.replicate ((x.length : Int)).toNat (0 : Int))] : List (List Int)), LS intT ([1] : List Int)] 25 false]⟩ _
            refine En.seq ?_
            refine En.seq ?_
            refine En.region ?_
            refine WL.run ht hn 4 ⟨[(0, .sv (.one (LS intT x))), (3, .sv (.one (.ptr 3 0))), (8, .sv (.one (I x8))), (9, .sv (.one (I x9))), (10, .sv (.one (I x10))), (59, .sv (.one (B (decide (x10 < (x.length : Int))))))], [.gone, .gone, .gone, .box [I (x.length : Int), I 0, LS (lsT intT) ([(List.replicate ((x.length : Int)).toNat (0 : Int))] : List (List Int)), LS intT ([1] : List Int)] 25 false]⟩ (by kernel_rfl) ?_
            refine WL.nil ?_
            refine En.cond (b := (decide (x10 < (x.length : Int)))) (by kernel_rfl) (fun hb => ?_) (fun hb => ?_)
            · replace h := h.1 hb
              refine En.skip ?_
              refine En.seq ?_
              refine En.block ?_
              refine En.seq ?_
              refine En.region ?_
              refine WL.run ht hn 1 ⟨[(0, .sv (.one (LS intT x))), (3, .sv (.one (.ptr 3 0))), (8, .sv (.one (I x8))), (9, .sv (.one (I x9))), (10, .sv (.one (I x10))), (11, .sv (.one (I 1)))], [.gone, .gone, .gone, .box [I (x.length : Int), I 0, LS (lsT intT) ([(List.replicate ((x.length : Int)).toNat (0 : Int))] : List (List Int)), LS intT ([1] : List Int)] 25 false]⟩ (by kernel_rfl) ?_
              refine WL.nil ?_
              refine En.block ?_
              obtain ⟨Inv_3, mu_3, h0, hI⟩ := h
              refine En.loop (σ := Int × Int × Int) (fun zz => Inv_3 zz.1 zz.2.1 zz.2.2) (fun zz => mu_3 zz.1 zz.2.1 zz.2.2) (fun zz => ⟨[(0, .sv (.one (LS intT x))), (3, .sv (.one (.ptr 3 0))), (8, .sv (.one (I zz.1))), (9, .sv (.one (I zz.2.1))), (10, .sv (.one (I x10))), (11, .sv (.one (I zz.2.2)))], [.gone, .gone, .gone, .box [I (x.length : Int), I 0, LS (lsT intT) ([(List.replicate ((x.length : Int)).toNat (0 : Int))] : List (List Int)), LS intT ([1] : List Int)] 25 false]⟩) (x8, x9, 1) h0 (sub_ok (by kernel_rfl)) ?_
              rintro ⟨x8_2, x9_2, x11⟩ h
              replace h := hI _ _ _ h
              show En c ⟨[(0, .sv (.one (LS intT x))), (3, .sv (.one (.ptr 3 0))), (8, .sv (.one (I x8_2))), (9, .sv (.one (I x9_2))), (10, .sv (.one (I x10))), (11, .sv (.one (I x11)))], [.gone, .gone, .gone, .box [I (x.length : Int), I 0, LS (lsT intT) ([(List.replicate ((x.length : Int)).toNat (0 : Int))] : List (List Int)), LS intT ([1] : List Int)] 25 false]⟩ _
              refine En.seq ?_
              refine En.seq ?_
              refine En.region ?_
              refine WL.run ht hn 3 ⟨[(0, .sv (.one (LS intT x))), (3, .sv (.one (.ptr 3 0))), (8, .sv (.one (I x8_2))), (9, .sv (.one (I x9_2))), (10, .sv (.one (I x10))), (11, .sv (.one (I x11))), (62, .sv (.one (I x11))), (63, .sv (.one (LS intT x))), (64, .sv (.one (I x10)))], [.gone, .gone, .gone, .box [I (x.length : Int), I 0, LS (lsT intT) ([(List.replicate ((x.length : Int)).toNat (0 : Int))] : List (List Int)), LS intT ([1] : List Int)] 25 false]⟩ (by kernel_rfl) ?_
              obtain ⟨e_3, he_3, h⟩ := h
              refine WL.val hn (by rfl) (val_index (T := intT) (l := x) (i := x10) ht rfl (by rfl) (by rfl) (by rfl) (by rfl) (by rfl) (by rfl) he_3) (by rfl) ?_
              refine WL.val hn (by rfl) (val_load (s := .one (I e_3)) ht rfl (by rfl) (by rfl) (by rfl) (by rfl) (by rfl)) (by rfl) ?_
              refine WL.run ht hn 1 ⟨[(0, .sv (.one (LS intT x))), (3, .sv (.one (.ptr 3 0))), (8, .sv (.one (I x8_2))), (9, .sv (.one (I x9_2))), (10, .sv (.one (I x10))), (11, .sv (.one (I x11))), (67, .sv (.one (B (decide (x11 ≤ e_3)))))], [.gone, .gone, .gone, .box [I (x.length : Int), I 0, LS (lsT intT) ([(List.replicate ((x.length : Int)).toNat (0 : Int))] : List (List Int)), LS intT ([1] : List Int)] 25 false]⟩ (by kernel_rfl) ?_
              refine WL.nil ?_
              refine En.cond (b := (decide (x11 ≤ e_3))) (by kernel_rfl) (fun hb => ?_) (fun hb => ?_)
              · replace h := h.1 hb
                refine En.skip ?_
                refine En.seq ?_
                refine En.block ?_
                refine En.seq ?_
                refine En.region ?_
                refine WL.run ht hn 3 ⟨[(0, .sv (.one (LS intT x))), (3, .sv (.one (.ptr 3 0))), (8, .sv (.one (I (wr (x8_2 + 1))))), (9, .sv (.one (I x9_2))), (10, .sv (.one (I x10))), (11, .sv (.one (I x11)))], [.gone, .gone, .gone, .box [I (x.length : Int), I 0, LS (lsT intT) ([(List.replicate ((x.length : Int)).toNat (0 : Int))] : List (List Int)), LS intT ([1] : List Int)] 25 false]⟩ (by kernel_rfl) ?_
                refine WL.nil ?_
                refine En.region ?_
                refine WL.run ht hn 4 ⟨[(0, .sv (.one (LS intT x))), (3, .sv (.one (.ptr 3 0))), (8, .sv (.one (I (wr (x8_2 + 1))))), (10, .sv (.one (I x10))), (11, .sv (.one (I x11))), (74, .sv (.one (I (wr (x9_2 * (wr (x8_2 + 1))))))), (75, .sv (.one (I x11)))], [.gone, .gone, .gone, .box [I (x.length : Int), I 0, LS (lsT intT) ([(List.replicate ((x.length : Int)).toNat (0 : Int))] : List (List Int)), LS intT ([1] : List Int)] 25 false]⟩ (by kernel_rfl) ?_
                have hz := h.1
                replace h := h.2
                refine WL.val hn (by rfl) (val_div (u := (wr (x9_2 * (wr (x8_2 + 1))))) (v := x11) rfl (by rfl) (by rfl) hz (.inl ⟨rfl, rfl⟩)) (by rfl) ?_
                refine WL.run ht hn 1 ⟨[(0, .sv (.one (LS intT x))), (3, .sv (.one (.ptr 3 0))), (8, .sv (.one (I (wr (x8_2 + 1))))), (9, .sv (.one (I (wr (Int.tdiv (wr (x9_2 * (wr (x8_2 + 1)))) x11))))), (10, .sv (.one (I x10))), (11, .sv (.one (I x11)))], [.gone, .gone, .gone, .box [I (x.length : Int), I 0, LS (lsT intT) ([(List.replicate ((x.length : Int)).toNat (0 : Int))] : List (List Int)), LS intT ([1] : List Int)] 25 false]⟩ (by kernel_rfl) ?_
                refine WL.nil ?_
                refine En.region ?_
                refine WL.run ht hn 3 ⟨[(0, .sv (.one (LS intT x))), (3, .sv (.one (.ptr 3 0))), (8, .sv (.one (I (wr (x8_2 + 1))))), (9, .sv (.one (I (wr (Int.tdiv (wr (x9_2 * (wr (x8_2 + 1)))) x11))))), (10, .sv (.one (I x10))), (11, .sv (.one (I (wr (x11 + 1)))))], [.gone, .gone, .gone, .box [I (x.length : Int), I 0, LS (lsT intT) ([(List.replicate ((x.length : Int)).toNat (0 : Int))] : List (List Int)), LS intT ([1] : List Int)] 25 false]⟩ (by kernel_rfl) ?_
                refine WL.nil ?_
                exact En.at (I := fun zz => Inv_3 zz.1 zz.2.1 zz.2.2 ∧ mu_3 zz.1 zz.2.1 zz.2.2 < mu_3 x8_2 x9_2 x11) (T := fun zz => ⟨[(0, .sv (.one (LS intT x))), (3, .sv (.one (.ptr 3 0))), (8, .sv (.one (I zz.1))), (9, .sv (.one (I zz.2.1))), (10, .sv (.one (I x10))), (11, .sv (.one (I zz.2.2)))], [.gone, .gone, .gone, .box [I (x.length : Int), I 0, LS (lsT intT) ([(List.replicate ((x.length : Int)).toNat (0 : Int))] : List (List Int)), LS intT ([1] : List Int)] 25 false]⟩) ((wr (x8_2 + 1)), (wr (Int.tdiv (wr (x9_2 * (wr (x8_2 + 1)))) x11)), (wr (x11 + 1))) h (by kernel_rfl)
              · replace h := h.2 hb
                refine En.exit rfl ?_
                refine En.region ?_
                refine WL.run ht hn 3 ⟨[(0, .sv (.one (LS intT x))), (3, .sv (.one (.ptr 3 0))), (8, .sv (.one (I x8_2))), (9, .sv (.one (I x9_2))), (10, .sv (.one (I (wr (x10 + 1)))))], [.gone, .gone, .gone, .box [I (x.length : Int), I 0, LS (lsT intT) ([(List.replicate ((x.length : Int)).toNat (0 : Int))] : List (List Int)), LS intT ([1] : List Int)] 25 false]⟩ (by kernel_rfl) ?_
                refine WL.nil ?_
                exact En.at (I := fun zz => Inv_2 zz.1 zz.2.1 zz.2.2 ∧ mu_2 zz.1 zz.2.1 zz.2.2 < mu_2 x8 x9 x10) (T := fun zz => ⟨[(0, .sv (.one (LS intT x))), (3, .sv (.one (.ptr 3 0))), (8, .sv (.one (I zz.1))), (9, .sv (.one (I zz.2.1))), (10, .sv (.one (I zz.2.2)))], [.gone, .gone, .gone, .box [I (x.length : Int), I 0, LS (lsT intT) ([(List.replicate ((x.length : Int)).toNat (0 : Int))] : List (List Int)), LS intT ([1] : List Int)] 25 false]⟩) (x8_2, x9_2, (wr (x10 + 1))) h (by kernel_rfl)
            · replace h := h.2 hb
              refine En.exit rfl ?_
              refine En.seq ?_
              refine En.region ?_
              refine WL.run ht hn 2 ⟨[(9, .sv (.one (I x9))), (78, .sv (.agg [I (x.length : Int), I 0, LS (lsT intT) ([(List.replicate ((x.length : Int)).toNat (0 : Int))] : List (List Int)), LS intT ([1] : List Int)])), (79, .sv (.one (LS intT x)))], [.gone, .gone, .gone, .gone]⟩ (by kernel_rfl) ?_
              have hp := h.1
              replace h := h.2
              refine WL.mt0 (K := []) (p := none) hn (by rfl) (mt_callG (pMan_ct (ApiDet.mk (x.length : Int) 0 ([(List.replicate ((x.length : Int)).toNat (0 : Int))] : List (List Int)) ([1] : List Int)) x hp) hG GL_mono en5 (caps := []) [] rfl (by rfl) (by kernel_rfl) (by kernel_rfl) (by rfl) (by rfl) (by rfl)) (by rfl) (by rfl) (by rfl) ?_
              refine WL.run ht hn 5 ⟨[(6, .sv (.one (I (manR (ApiDet.mk (x.length : Int) 0 ([(List.replicate ((x.length : Int)).toNat (0 : Int))] : List (List Int)) ([1] : List Int)) x).2))), (9, .sv (.one (I x9))), (12, .sv (.one (.v (.string (manR (ApiDet.mk (x.length : Int) 0 ([(List.replicate ((x.length : Int)).toNat (0 : Int))] : List (List Int)) ([1] : List Int)) x).1))))], [.gone, .gone, .gone, .gone]⟩ (by kernel_rfl) ?_
              refine WL.nil ?_
              obtain ⟨J, h, hJ⟩ := h
              refine En.seqJ (σ := Bool) (fun zz => J zz) (fun zz => ⟨[(2, .sv (.one (B zz)))], [.gone, .gone, .gone, .gone]⟩) ?_ ?_
              · refine En.region ?_
                refine WL.run ht hn 3 ⟨[(9, .sv (.one (I x9))), (12, .sv (.one (.v (.string (manR (ApiDet.mk (x.length : Int) 0 ([(List.replicate ((x.length : Int)).toNat (0 : Int))] : List (List Int)) ([1] : List Int)) x).1)))), (85, .sv (.one (B ((manR (ApiDet.mk (x.length : Int) 0 ([(List.replicate ((x.length : Int)).toNat (0 : Int))] : List (List Int)) ([1] : List Int)) x).2 == 0))))], [.gone, .gone, .gone, .gone]⟩ (by kernel_rfl) ?_
                refine splitB ((manR (ApiDet.mk (x.length : Int) 0 ([(List.replicate ((x.length : Int)).toNat (0 : Int))] : List (List Int)) ([1] : List Int)) x).2 == 0) (fun hb => ?_) (fun hb => ?_)
                · replace h := h.1 hb
                  refine WL.setB 85 hb (by kernel_rfl) ?_
                  refine WL.run ht hn 2 ⟨[(85, .sv (.one (B true))), (86, .sv (.one (.v (.string (manR (ApiDet.mk (x.length : Int) 0 ([(List.replicate ((x.length : Int)).toNat (0 : Int))] : List (List Int)) ([1] : List Int)) x).1)))), (87, .sv (.one (I x9)))], [.gone, .gone, .gone, .gone]⟩ (by kernel_rfl) ?_
                  have hp := h.1
                  replace h := h.2
                  refine WL.mt0 (K := []) (p := none) hn (by rfl) (mt_call (kDec_ct x9 hp) en6 (caps := []) [] rfl (by rfl) (by kernel_rfl) (by kernel_rfl) (by rfl) (by rfl) (by rfl)) (by rfl) (by rfl) (by rfl) ?_
                  refine WL.val hn (by rfl) (val_eqS (u := (manR (ApiDet.mk (x.length : Int) 0 ([(List.replicate ((x.length : Int)).toNat (0 : Int))] : List (List Int)) ([1] : List Int)) x).1) (v := (bytesOf (decL x9))) rfl (by rfl) (by rfl) (.inl ⟨rfl, rfl⟩)) (by rfl) ?_
                  refine WL.run ht hn 2 ⟨[(2, .sv (.one (B (decide ((manR (ApiDet.mk (x.length : Int) 0 ([(List.replicate ((x.length : Int)).toNat (0 : Int))] : List (List Int)) ([1] : List Int)) x).1 = (bytesOf (decL x9)))))))], [.gone, .gone, .gone, .gone]⟩ (by kernel_rfl) ?_
                  refine WL.nil ?_
                  exact En.at (I := fun zz => J zz) (T := fun zz => ⟨[(2, .sv (.one (B zz)))], [.gone, .gone, .gone, .gone]⟩) (decide ((manR (ApiDet.mk (x.length : Int) 0 ([(List.replicate ((x.length : Int)).toNat (0 : Int))] : List (List Int)) ([1] : List Int)) x).1 = (bytesOf (decL x9)))) h (by kernel_rfl)
                · replace h := h.2 hb
                  refine WL.setB 85 hb (by kernel_rfl) ?_
                  refine WL.run ht hn 6 ⟨[(2, .sv (.one (B false)))], [.gone, .gone, .gone, .gone]⟩ (by kernel_rfl) ?_
                  refine WL.nil ?_
                  exact En.at (I := fun zz => J zz) (T := fun zz => ⟨[(2, .sv (.one (B zz)))], [.gone, .gone, .gone, .gone]⟩) false h (by kernel_rfl)
              · intro x2 h
                replace h := hJ _ h
                show En c ⟨[(2, .sv (.one (B x2)))], [.gone, .gone, .gone, .gone]⟩ _
                refine En.ret ?_
                exact En.back ht x2 h (by kernel_rfl) rfl
theorem en3 : ∀ args w, (callFunc 3 args).run Tryz.prog w = .ok (.enter 3 args) w := enters_of Tryz.func3 (by kernel_rfl) rfl
def facP : List Nat → Nat
  | [] => 1
  | a :: l => fac a * facP l
theorem facP_append : ∀ l m : List Nat, facP (l ++ m) = facP l * facP m
  | [], m => by simp [facP]
  | a :: l, m => by simp [facP, facP_append l m, Nat.mul_assoc]
theorem facP_pos : ∀ l : List Nat, 0 < facP l
  | [] => Nat.one_pos
  | a :: l => Nat.mul_pos (fac_pos a) (facP_pos l)
theorem mul_ex (l : List Nat) (h : l.length ≤ 4) : ∃ W, W * facP l = fac l.sum ∧ W ≤ 4 ^ l.sum := by
  match l, h with
  | [], _ => exact ⟨1, rfl, Nat.le_refl _⟩
  | [a], _ => exact ⟨wN a a 0 0 0, by simpa [facP, fac] using wN_fac a a 0 0 0 (by omega), by simpa using wN_le a a 0 0 0⟩
  | [a, b], _ => exact ⟨wN (a + b) a b 0 0, by simpa [facP, fac, Nat.mul_assoc] using wN_fac (a + b) a b 0 0 (by omega), by simpa using wN_le (a + b) a b 0 0⟩
  | [a, b, c], _ => exact ⟨wN (a + (b + c)) a b c 0, by simpa [facP, fac, Nat.mul_assoc, Nat.add_assoc] using wN_fac (a + (b + c)) a b c 0 (by omega), by simpa [Nat.add_assoc] using wN_le (a + (b + c)) a b c 0⟩
  | [a, b, c, d], _ => exact ⟨wN (a + (b + (c + d))) a b c d, by simpa [facP, fac, Nat.mul_assoc, Nat.add_assoc] using wN_fac (a + (b + (c + d))) a b c d (by omega), by simpa [Nat.add_assoc] using wN_le (a + (b + (c + d))) a b c d⟩
  | _ :: _ :: _ :: _ :: _ :: _, h => simp only [List.length_cons] at h; omega
theorem wL_fac {x : List Int} {k : Int} (h : CtdOk k x) (h1 : 1 ≤ k) (h4 : k ≤ 4) : ∃ V : Nat, wL (begunR (oneD k) x).fLeft = V ∧ V * facP (x.map Int.toNat) = fac (x.map Int.toNat).sum := by
  have hpl := h.place h1 h4
  have hf := hpl.fits
  have e := wN_fac _ _ _ _ _ hf
  have hl := h.len
  refine ⟨_, rfl, ?_⟩
  match x, hl, hf, e with
  | [], hl, _, _ => simp at hl; omega
  | [a], _, hf, e =>
    have s : (([a] : List Int).map Int.toNat).sum = (sumE (begunR (oneD k) [a]).fLeft).toNat := by rw [← hf]; simp [begunR, fourC]
    rw [s, ← e]
    congr 1
    simp [facP, fac, begunR, fourC]
  | [a, b], _, hf, e =>
    have s : (([a, b] : List Int).map Int.toNat).sum = (sumE (begunR (oneD k) [a, b]).fLeft).toNat := by rw [← hf]; simp [begunR, fourC]
    rw [s, ← e]
    congr 1
    simp [facP, fac, begunR, fourC]
  | [a, b, d], _, hf, e =>
    have s : (([a, b, d] : List Int).map Int.toNat).sum = (sumE (begunR (oneD k) [a, b, d]).fLeft).toNat := by rw [← hf]; simp [begunR, fourC, Nat.add_assoc]
    rw [s, ← e]
    congr 1
    simp [facP, fac, begunR, fourC, Nat.mul_assoc]
  | [a, b, d, f], _, hf, e =>
    have s : (([a, b, d, f] : List Int).map Int.toNat).sum = (sumE (begunR (oneD k) [a, b, d, f]).fLeft).toNat := by rw [← hf]; simp [begunR, fourC, Nat.add_assoc]
    rw [s, ← e]
    congr 1
    simp [facP, fac, begunR, fourC, Nat.mul_assoc]
  | _ :: _ :: _ :: _ :: _ :: _, hl, _, _ => simp only [List.length_cons] at hl; omega
theorem firstW_sorted (x : St38) : List.Pairwise (· ≤ ·) (firstW x) := by
  unfold firstW
  have r : ∀ (n : Nat) (a : Int), List.Pairwise (· ≤ ·) (List.replicate n a) := fun n a => List.pairwise_replicate.2 (.inr (Int.le_refl a))
  have m : ∀ {n : Nat} {a b : Int}, b ∈ List.replicate n a → b = a := fun h => (List.mem_replicate.1 h).2
  refine List.pairwise_append.2 ⟨r _ _, List.pairwise_append.2 ⟨r _ _, List.pairwise_append.2 ⟨r _ _, r _ _, fun a ha b hb => ?_⟩, fun a ha b hb => ?_⟩, fun a ha b hb => ?_⟩
  · rw [m ha, m hb]; decide
  · rw [m ha]
    rcases List.mem_append.1 hb with hb | hb <;> (rw [m hb]; decide)
  · rw [m ha]
    rcases List.mem_append.1 hb with hb | hb
    · rw [m hb]; decide
    rcases List.mem_append.1 hb with hb | hb <;> (rw [m hb]; decide)
theorem nat_sum : ∀ {x : List Int}, (∀ e ∈ x, 0 ≤ e ∧ e ≤ 6) → (((x.map Int.toNat).sum : Nat) : Int) = x.sum
  | [], _ => rfl
  | a :: x, h => by
    have ih := nat_sum (x := x) fun e he => h e (List.mem_cons_of_mem _ he)
    have ha := h a (by simp)
    rw [List.map_cons, List.sum_cons, List.sum_cons, Int.natCast_add, ih]
    omega
theorem ways_step {pre : List Nat} {T V V' : Nat} (hV : V * facP (pre ++ [T]) = fac (pre.sum + T)) (hV' : V' * facP (pre ++ [T + 1]) = fac (pre.sum + (T + 1))) : V * (pre.sum + T + 1) = V' * (T + 1) := by
  have hp : 0 < facP (pre ++ [T]) := facP_pos _
  apply Nat.eq_of_mul_eq_mul_right hp
  have e1 : V * (pre.sum + T + 1) * facP (pre ++ [T]) = fac (pre.sum + (T + 1)) := by
    rw [Nat.mul_right_comm, hV, Nat.mul_comm, ← Nat.add_assoc, fac]
  have e2 : V' * (T + 1) * facP (pre ++ [T]) = V' * facP (pre ++ [T + 1]) := by
    rw [facP_append, facP_append]
    simp only [facP, fac, Nat.mul_one, Nat.mul_assoc, Nat.mul_left_comm, Nat.mul_comm]
  rw [e1, e2, hV']
theorem CtG.row {G : Gh → Prop} {f : Nat} {ins : List SC} {w : World} {args : List Value} (h : CtG G f ins [] (fun (_ : Unit) => True) (fun _ => .sv (.one (B true)))) (hG : G w.gh) (ha : okArgs w.gh hs0 ins args) : Calls Tryz.prog f args.toArray w (fun e w' => e = .returned (.bool true) ∧ Below w.heap.size w w') :=
  (h w w.gh hs0 args hG (gh_pers w) ha (fun i it hi => by simp at hi)).mono fun e w' ⟨v, g', _, h1, _, h2, h3⟩ => ⟨by rw [h1]; congr 1; exact h2.1, h3.below⟩
theorem kPar_ct (x : List Int)  : CtG GL 3 [.sv (.one (LS intT x))] [] (fun (_ : Unit) => True) (fun _ => .sv (.one (B (true)))) := by
  refine (kPar_walk x (fun res_ => res_ = (true)) ?_).fun
  unfold kPar_vc
  intro hlen
  refine ⟨fun _ => rfl, fun hb => ?_⟩
  have hk : 1 ≤ x.length ∧ x.length ≤ 4 := by
    simp only [Bool.or_eq_false_iff, decide_eq_false_iff_not] at hb
    omega
  obtain ⟨d, hd⟩ : ∃ d, d = oneD (x.length : Int) := ⟨_, rfl⟩
  have hd' : ApiDet.mk (x.length : Int) 0 ([(List.replicate ((x.length : Int)).toNat (0 : Int))] : List (List Int)) ([1] : List Int) = d := hd.symm
  rw [hd']
  refine ⟨⟨by omega, by omega, by omega⟩, ⟨_, hd, by omega, by omega⟩, fun _ => rfl, fun h0 => ?_⟩
  have hc : chkR d x = 0 := by
    by_cases hcc : (chkR d x != 0) = true
    · unfold wordR at h0
      rw [if_pos hcc] at h0
      rw [hcc] at h0
      cases h0
    · simpa using hcc
  have hW : wordR d x = (firstW (begunR d x).fLeft, true, 0) := by unfold wordR; rw [if_neg (by rw [hc]; decide)]
  have hM : manR d x = (bytesOf (decL (wL (begunR d x).fLeft)), 0) := by unfold manR; rw [if_neg (by rw [hc]; decide)]
  rw [hW, hM]
  subst hd
  rw [chk_one (by omega) (by omega)] at hc
  have hok := ctd_ok hc
  have hpl := hok.place (by omega) (by omega)
  refine ⟨fun h => (by cases h), fun _ => ?_⟩
  obtain ⟨L, hL⟩ : ∃ L, L = firstW (begunR (oneD (x.length : Int)) x).fLeft := ⟨_, rfl⟩
  have hLs : List.Pairwise (· ≤ ·) L := by rw [hL]; exact firstW_sorted _
  have hLl : L.length ≤ 12 := by rw [hL]; exact first_len hpl
  simp only [← hL]
  refine ⟨fun i => ∃ j : Nat, i = j ∧ 1 ≤ j, fun i => L.length - i.toNat, ⟨1, rfl, Nat.le_refl _⟩, ?_⟩
  rintro i ⟨j, rfl, hj⟩
  refine ⟨fun h => ?_, fun _ => ?_⟩
  · have hlt := dlt h
    have hw : wr ((j : Int) - 1) = ((j - 1 : Nat) : Int) := by rw [wr_in (by omega) (by omega)]; omega
    rw [hw]
    refine ⟨L[j - 1], idx_at (by omega), L[j], idx_at hlt, fun h2 => ?_, fun _ => ⟨⟨j + 1, wsucc (by omega), by omega⟩, mu_up hlt (by omega)⟩⟩
    have h2 := of_decide_eq_true h2
    have := List.pairwise_iff_getElem.1 hLs (j - 1) j (by omega) hlt (by omega)
    omega
  obtain ⟨c, hcx⟩ : ∃ c, c = x.map Int.toNat := ⟨_, rfl⟩
  have hcl : c.length = x.length := by rw [hcx, List.length_map]
  have hcs : c.sum ≤ 12 := by
    have h1 := nat_sum hok.in_
    have h2 := hok.sum
    rw [← hcx] at h1
    omega
  have hci : ∀ (J : Nat) (h : J < x.length), x[J] = ((c[J]'(by omega) : Nat) : Int) ∧ (c[J]'(by omega)) ≤ 6 := fun J h => by
    have hin := hok.in_ x[J] (List.getElem_mem h)
    subst hcx
    rw [List.getElem_map]
    omega
  have hpre : ∀ (J : Nat) (h : J < c.length), c.take (J + 1) = c.take J ++ [c[J]] ∧ (c.take J).sum + c[J] ≤ 12 := fun J h => by
    have e : c.take (J + 1) = c.take J ++ [c[J]] := by rw [List.take_add_one, List.getElem?_eq_getElem h]; rfl
    have h2 : (c.take (J + 1)).sum + (c.drop (J + 1)).sum = c.sum := by rw [← List.sum_append_nat, List.take_append_drop]
    rw [e, List.sum_append_nat] at h2
    simp only [List.sum_cons, List.sum_nil] at h2
    exact ⟨e, by omega⟩
  refine ⟨fun n w j => ∃ J W : Nat, j = J ∧ J ≤ x.length ∧ n = ((c.take J).sum : Nat) ∧ w = W ∧ W * facP (c.take J) = fac (c.take J).sum, fun _ _ j => x.length - j.toNat, ⟨0, 1, rfl, Nat.zero_le _, rfl, rfl, rfl⟩, ?_⟩
  rintro n w j ⟨J, W, rfl, hJ, rfl, rfl, hfac⟩
  refine ⟨fun h => ?_, fun h => ?_⟩
  · have hlt := dlt h
    obtain ⟨p1, p2⟩ := hpre J (by omega)
    obtain ⟨i1, i2⟩ := hci J hlt
    obtain ⟨S, hS⟩ : ∃ S, S = (c.take J).sum := ⟨_, rfl⟩
    obtain ⟨cJ, hcJ⟩ : ∃ y, y = c[J]'(by omega) := ⟨_, rfl⟩
    rw [← hcJ] at p1 p2 i1 i2
    refine ⟨fun n w t => ∃ T V : Nat, t = ((T + 1 : Nat) : Int) ∧ T ≤ cJ ∧ n = (((c.take J).sum + T : Nat) : Int) ∧ w = V ∧ V * facP (c.take J ++ [T]) = fac ((c.take J).sum + T), fun _ _ t => 8 - t.toNat, ⟨0, W, rfl, Nat.zero_le _, rfl, rfl, by rw [facP_append]; simpa [facP, fac] using hfac⟩, ?_⟩
    rintro n w t ⟨T, V, rfl, hT, rfl, rfl, hV⟩
    refine ⟨x[J], idx_at hlt, fun h => ?_, fun h => ?_⟩
    · have h := of_decide_eq_true h
      rw [i1] at h
      have hTc : T < cJ := by omega
      obtain ⟨V', e1, e2⟩ := mul_ex (c.take J ++ [T + 1]) (by rw [List.length_append, List.length_take, List.length_singleton]; omega)
      rw [List.sum_append_nat] at e1 e2
      simp only [List.sum_cons, List.sum_nil, Nat.add_zero] at e1 e2
      have e3 : V' ≤ 16777216 := by
        have : 4 ^ ((c.take J).sum + (T + 1)) ≤ 4 ^ 12 := Nat.pow_le_pow_right (by decide) (by omega)
        have : (4 : Nat) ^ 12 = 16777216 := by decide
        omega
      have key := ways_step hV e1
      have hb : V' * (T + 1) ≤ 16777216 * 8 := Nat.mul_le_mul e3 (by omega)
      have w1 : wr ((((c.take J).sum + T : Nat) : Int) + 1) = (((c.take J).sum + T + 1 : Nat) : Int) := by rw [wr_in (by omega) (by omega)]; omega
      have w2 : wr ((V : Int) * (((c.take J).sum + T + 1 : Nat) : Int)) = ((V' * (T + 1) : Nat) : Int) := by
        rw [← Int.natCast_mul, key]
        exact wr_in (by omega) (by omega)
      have w3 : wr (Int.tdiv ((V' * (T + 1) : Nat) : Int) ((T + 1 : Nat) : Int)) = (V' : Int) := by
        rw [Int.natCast_mul, Int.mul_tdiv_cancel _ (by omega)]
        exact wr_in (by omega) (by omega)
      rw [w1, w2, w3]
      refine ⟨by omega, ⟨T + 1, V', wsucc (by omega), hTc, by omega, rfl, e1⟩, ?_⟩
      rw [wsucc (by omega)]
      show 8 - (((T + 1 + 1 : Nat) : Int)).toNat < 8 - (((T + 1 : Nat) : Int)).toNat
      omega
    · have h := of_decide_eq_false h
      rw [i1] at h
      have hTc : T = cJ := by omega
      subst hTc
      have hsum : (c.take (J + 1)).sum = (c.take J).sum + T := by
        rw [p1, List.sum_append_nat]
        simp
      exact ⟨⟨J + 1, V, wsucc (by omega), hlt, by rw [hsum], rfl, by rw [hsum, p1]; exact hV⟩, mu_up hlt (by omega)⟩
  · have hge : J = x.length := by
      have : ¬ (J : Int) < (x.length : Int) := of_decide_eq_false h
      omega
    have htk : c.take J = c := List.take_of_length_le (by omega)
    rw [htk] at hfac
    obtain ⟨V, hV1, hV2⟩ := wL_fac hok (by omega) (by omega)
    rw [← hcx] at hV2
    have hWV : W = V := Nat.eq_of_mul_eq_mul_right (facP_pos c) (hfac.trans hV2.symm)
    subst hWV
    have hs := hpl.small
    have hp := hpl.pos
    rw [hV1] at hs hp ⊢
    exact ⟨⟨_, rfl, by omega, by omega⟩, fun b => b = true, ⟨fun _ => ⟨⟨hp, by omega⟩, by simp⟩, fun h => (by cases h)⟩, fun b hb => hb⟩
end Go.Proofs.YtijgcihlodofdaaGreatDoor
namespace Go.Proofs.YtijgcihlodofdaaGreatDoor.parikhOrder
open Go.ChangeShapes Go.WideShapes Go.ChangeAt Go.RowKit
set_option linter.unusedSimpArgs false
set_option linter.unusedVariables false
set_option maxRecDepth 100000
theorem rd3 : Reads 3 1 (RT intT) := readsT_int Tryz.underlying3
theorem rd22 : Reads 22 1 (RT (lsT intT)) := readsT_slice Tryz.underlying22 (by kernel_rfl) (by decide) rd3
theorem gAt : Tryz.prog.globalNamed "math/big.leafSize" = some 1 := by kernel_rfl
theorem tAt : (Tryz.prog.globals[1]?).map (·.type) = some 3 := by kernel_rfl
theorem of_laid {W : World} (h : laidMetH Tryz.prog Rows.parikhOrderRow.laid W) : W.cell? ⟨1, 0, none⟩ = some (.int .i64 8) := by
  rw [MakeChecks.laidMetH_plain _ _ _ (by kernel_rfl)] at h
  obtain ⟨ps, ⟨g0, t0, cs0, f0, p0, q0, hg0, ht0, hv0, hd0, ⟨g1, t1, cs1, f1, p1, q1, hg1, ht1, hv1, hd1, ⟨g2, t2, cs2, f2, p2, q2, hg2, ht2, hv2, hd2, _, _⟩, _⟩, _⟩, _, _⟩ := h
  obtain rfl := Option.some.inj (gAt.symm.trans hg2)
  obtain rfl := Option.some.inj (tAt.symm.trans ht2)
  obtain ⟨k, e1, e2, _⟩ := DataW.trod_int Tryz.underlying3 hd2
  have hk : k = 8 := by
    have e3 : (.lit (.int .i64 8) : DataW _) = .lit (.int .i64 k) := congrArg Prod.fst e2
    simpa using e3.symm
  subst hk
  have := World.var?_cell hg2 hv2 0
  rw [Array.eq_one_of_toList e1] at this
  simpa using this
theorem door_met (os : Os) (args : Array Value) : laidMetH Tryz.prog Rows.parikhOrderRow.laid ((World.doorLaid Tryz.prog 4000 os).forCall (fun _ _ => 0) ⟨#[], args, []⟩).memory :=
  laidMetH_of_parts3 (fuel := 8) (laidMet_of_run' 8 (by kernel_rfl) (by kernel_rfl)) (by kernel_rfl) (by kernel_rfl)
set_option maxRecDepth 100000 in
theorem lifted (os : Os) (started : os.Started) (H : Type) (enc : TypeId × Value → H) :
    ReturnsInHanded {} Tryz.checked os 3 .any (fun w args => (Rows.parikhOrderSpec.pre enc Tryz.prog Tryz.f3 [] false w args ∧ laidMetH Tryz.prog Rows.parikhOrderRow.laid w) ∧ sizedMet enc Tryz.prog Tryz.f3 (OpenSpec.ofChange Rows.parikhOrderSpec) false w args) (Rows.parikhOrderSpec.post enc Tryz.prog Tryz.f3 false true false false) := by
  refine returnsInHanded_of_change_and (C := Tryz.checked) (X := fun w _ => laidMetH Tryz.prog Rows.parikhOrderRow.laid w) (fun _ _ _ hh h => h.of_heap hh) ownK started (by kernel_rfl) Tryz.func3
    (ChangeSpec.witness_shaped (enc := enc) (C := Tryz.checked) (os := os) (X := fun w _ => laidMetH Tryz.prog Rows.parikhOrderRow.laid w) false (World.doorLaid Tryz.prog 4000 os) #[.slice none 0 0] 8 rfl (World.shaped_of_RefB (by kernel_rfl) (by kernel_rfl)) (by kernel_rfl) (by kernel_rfl) (by kernel_rfl) (door_met os _)) ?_
  intro W base args ds gs before hval0 hW hcnd _ hL _
  have hval : ∀ (j : Nat) t v, Tryz.f3.params[j]? = some t → args[j]? = some v → Value.okWide Tryz.prog W .any base t v := hval0
  have hW' := hW
  obtain ⟨p, q, hA0, hV, rfl, hfz, hnd⟩ := hW
  have hA : DataW.TrodAll enc Tryz.prog W 0 (fun _ => true) true Tryz.f3.params.toList args.toList ds p := hA0
  rw [Tryz.params3] at hA hval
  obtain ⟨v0, vs0, d0, ds0, p0, q0, hargs, rfl, rfl, h0, r0⟩ := trodAll_cons hA
  obtain ⟨rfl, rfl, rfl⟩ := trodAll_nil r0
  obtain rfl : args = #[v0] := by cases args; simp_all
  obtain ⟨rfl, rfl⟩ := trodVars_none hV
  obtain ⟨a0, g0⟩ := topT_slice (T := intT) Tryz.underlying22 rd22 (hval 0 22 v0 rfl rfl) h0
  have lt0 := places_lt h0
  have hG : GL W.gh := gh_cell (of_laid hL)
  clear hA0 hval0
  refine ((kPar_ct a0).row hG (w := W) (args := [v0]) ⟨g0, trivial⟩).mono fun e W' ⟨he, bel⟩ => ?_
  subst he
  exact ⟨_, rfl, _, _, _, [], _, [], hW', trodAll_mk1 (shut_bool Tryz.underlying4 _), (trodAll_cons_mk (Below.trod laidOut (by kernel_rfl) (of_decide_eq_true (by kernel_rfl)) h0 bel lt0) trodAll_mk0), rfl, bel.frame _, fun h => by cases h⟩
theorem over : Rows.parikhOrderRow.holds Tryz.pinned (OpenSpec.ofChange Rows.parikhOrderSpec) :=
  OpenClaim.holds_of_wide 3 Tryz.f3 rfl rfl rfl rfl rfl rfl rfl ⟨rfl, rfl, rfl, rfl, rfl⟩ rfl rfl rfl rfl rfl (by kernel_rfl) Tryz.func3 (by kernel_rfl)
    (of_decide_eq_true (by kernel_rfl)) (by unfold Func.isWrapper; first | (rw [if_pos (by decide +kernel)]; kernel_rfl) | (rw [if_neg (by decide +kernel)]; exact ⟨rfl, rfl⟩))
    (fun os started H enc _ => lifted os started H enc)
theorem proved : Rows.ParikhOrderSaid := over
#print axioms proved
end Go.Proofs.YtijgcihlodofdaaGreatDoor.parikhOrder
