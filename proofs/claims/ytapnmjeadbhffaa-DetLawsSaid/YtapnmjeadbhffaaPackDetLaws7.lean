/- Lemmas towards the statement: mirrors of functions, and plain laws. No condition. -/
import Derived.Test.YtapnmjeadbhffaaPackDetLaws6


namespace Go.Proofs.Ytapnmjeadbhffaa
open Go.RowKit Go.MapKept
set_option linter.unusedSimpArgs false
set_option linter.unusedVariables false
set_option maxRecDepth 100000
def lastL : List Bool → Nat → Int → Int
  | [], _, y => y
  | b :: l, x, y => lastL l (x + 1) (if b = true then bitsI .or .i64 y (wr (1 * (2 ^ (min ((x : Int)).toNat 64)))) else y)
def startR (p : RegularPlaces) : Int := wr (1 * (2 ^ (min ((p.fLetters.length : Int)).toNat 64)))
def rLang (M : RegularPlaces × List Bool) : Lang := langK (fun st (a : Nat) => goR M.2 M.1 st (a : Int)) (mkR (lastL M.2 0 0)) (startR M.1)
theorem rDet_ok (fu : Nat) (letters : Int) (text : ByteArray) (t : RTr) (M : RegularPlaces × List Bool) (m : List Int) (ht : fullS text = some t) (hl : 1 ≤ letters ∧ letters ≤ 4) (hs : ¬ 0 ≤ strIdx (fun (x : Int) => d1R letters x) true text (text.size + 1) 0) (hm : machS fu t = some M)
    (hn : M.1.fLetters.length ≤ 10) (hg : M.2.length ≤ 1048576) (h0 : startR M.1 ∈ m) (hP : ∀ st (a : Nat), st ∈ m → a < letters.toNat → goDom M.2 M.1 st (a : Int) ∧ goR M.2 M.1 st (a : Int) ∈ m) (hml : m.length ≤ 3000) :
    Ct 27 [.sv (.one (I letters)), .sv (.one (.v (.string text)))] [] (fun (_ : Unit) => True) (fun _ => .tup [.agg [I (canon letters.toNat (rLang M)).fLetters, I (canon letters.toNat (rLang M)).fStart, LS (lsT intT) (canon letters.toNat (rLang M)).fNext, LS intT (canon letters.toNat (rLang M)).fMark], .one (I 0)]) := by
  refine (rDet_walk fu letters text (fun r => r = (canon letters.toNat (rLang M), 0)) ?_).fun
  unfold rDet_vc
  intro r hr
  have hr : r = (some t, ⟨0, 0⟩) := by
    unfold ParsedQ at hr
    rw [ht] at hr
    exact hr
  subst hr
  refine ⟨fun hb => (by cases hb), fun _ => ⟨fun b => b = false, ⟨fun hb => absurd (of_decide_eq_true hb) (by omega), fun _ => ⟨fun hb => absurd (of_decide_eq_true hb) (by omega), fun _ => ⟨fun _ => trivial, decide_eq_false hs⟩⟩⟩, ?_⟩⟩
  rintro _ rfl
  refine ⟨fun hb => (by cases hb), fun _ => ⟨t, rfl, by rw [hm]; rfl, ?_⟩⟩
  have hz : machR fu t = M := by
    unfold machR
    rw [hm]
    rfl
  rw [hz]
  refine ⟨fun hb => absurd (of_decide_eq_true hb) (by omega), fun _ => ⟨fun x y => ∃ n : Nat, x = n ∧ n ≤ M.2.length ∧ lastL (M.2.drop n) n y = lastL M.2 0 0, fun x _ => M.2.length - x.toNat, ⟨0, rfl, Nat.zero_le _, rfl⟩, ?_⟩⟩
  rintro _ y ⟨n, rfl, hnl, he⟩
  refine ⟨fun hb => ?_, fun hb => ?_⟩
  · have hlt : n < M.2.length := by have := of_decide_eq_true hb; exact Int.ofNat_lt.1 this
    rw [List.drop_eq_getElem_cons hlt, lastL] at he
    refine ⟨fun y2 => lastL (M.2.drop (n + 1)) (n + 1) y2 = lastL M.2 0 0, ⟨M.2[n], by simp [idx, hlt], fun hb2 => ⟨Int.natCast_nonneg _, ?_⟩, fun hb2 => ?_⟩, fun y2 h2 => ⟨⟨n + 1, wr_len (n := M.2.length) (by omega) hlt, hlt, h2⟩, ?_⟩⟩
    · rw [if_pos hb2] at he
      exact he
    · rw [if_neg (by rw [hb2]; decide)] at he
      exact he
    · rw [wr_len (n := M.2.length) (by omega) hlt]
      show M.2.length - (n + 1) < M.2.length - n
      omega
  · have hge : M.2.length ≤ n := by have := of_decide_eq_false hb; exact Nat.le_of_not_lt fun h => this (Int.ofNat_lt.2 h)
    rw [List.drop_eq_nil_of_le hge, lastL] at he
    subst he
    have hP2 : ∀ k a, k ∈ m → a < letters.toNat → goR M.2 M.1 k ((a : Nat) : Int) ∈ m := fun k a hk ha => (hP k a hk ha).2
    have key : ∀ E : ApiDet × Bool, E = (explD (fun st (a : Nat) => goR M.2 M.1 st (a : Int)) (mkR (lastL M.2 0 0)) letters.toNat (startR M.1), true) → ClsOk E.1 ∧ canon (E.1).fLetters.toNat (langD E.1 (E.1).fStart.toNat) = canon letters.toNat (rLang M) := by
      rintro E rfl
      have hcount := explD_count (mark := mkR (lastL M.2 0 0)) h0 hP2
      refine ⟨⟨explD_wf h0 hP2, Nat.le_trans hcount (by omega), ?_, explD_marks h0 hP2 fun k hk => ?_⟩, canon_congr fun w hw => explD_lang h0 hP2 hw⟩
      · show ((letters.toNat : Nat) : Int) ≤ 1000
        omega
      · unfold mkR
        split <;> decide
    obtain ⟨k1, k2⟩ := key _ (explR_ends (limit := 3000) h0 hP2 (by omega))
    exact ⟨Int.natCast_nonneg _, ⟨⟨by omega, by omega⟩, by decide, fun st => st ∈ m, h0, fun st a hk ha => hP st a hk (by omega), fun _ _ => trivial⟩, k1, congrArg (fun d => (d, (0 : Int))) k2⟩
def textC : ByteArray := ByteArray.mk #[40, 97, 43, 98, 41, 42, 97]
def treeC : RTr := nd 3 0 [nd 4 0 [nd 5 0 [nd 3 0 [nd 4 0 [nd 2 0 []], nd 4 0 [nd 2 1 []]]], nd 2 0 []]]
def machC : RegularPlaces × List Bool := (⟨[0, 1, 0], [[0, 1, 2], [0, 1, 2], [], [0, 1, 2]]⟩, [false, false, true, false])
theorem fullC : fullS textC = some treeC := by kernel_rfl
theorem machC_eq : machS 8 treeC = some machC := by kernel_rfl
theorem strC : strIdx (fun (x : Int) => d1R 2 x) true textC (textC.size + 1) 0 = -1 := by kernel_rfl
theorem goC : goS machC.2 machC.1 8 0 = some 5 ∧ goS machC.2 machC.1 8 1 = some 2 ∧ goS machC.2 machC.1 5 0 = some 5 ∧ goS machC.2 machC.1 5 1 = some 2 ∧ goS machC.2 machC.1 2 0 = some 5 ∧ goS machC.2 machC.1 2 1 = some 2 := by
  refine ⟨?_, ?_, ?_, ?_, ?_, ?_⟩ <;> kernel_rfl
theorem startC : startR machC.1 = 8 := by kernel_rfl
theorem lastC : lastL machC.2 0 0 = 4 := by kernel_rfl
def go2 (_ : Bool) (a : Nat) : Bool := decide (a = 0)
def mk2 (b : Bool) : Int := if b = true then 1 else 0
theorem mkC : mkR 4 8 = 0 ∧ mkR 4 5 = 1 ∧ mkR 4 2 = 0 := by
  refine ⟨?_, ?_, ?_⟩ <;> kernel_rfl
theorem goR_of {good : List Bool} {p : RegularPlaces} {st a r : Int} (h : goS good p st a = some r) : goDom good p st a ∧ goR good p st a = r := ⟨by unfold goDom; rw [h]; rfl, by unfold goR; rw [h]; rfl⟩
theorem stepC {st : Int} {a : Nat} (hs : st ∈ [(8 : Int), 5, 2]) (ha : a < 2) : goDom machC.2 machC.1 st (a : Int) ∧ goR machC.2 machC.1 st (a : Int) = if a = 0 then 5 else 2 := by
  obtain ⟨g1, g2, g3, g4, g5, g6⟩ := goC
  have h2 : a = 0 ∨ a = 1 := by omega
  simp only [List.mem_cons, List.not_mem_nil, or_false] at hs
  rcases h2 with rfl | rfl <;> rcases hs with rfl | rfl | rfl
  · exact goR_of g1
  · exact goR_of g3
  · exact goR_of g5
  · exact goR_of g2
  · exact goR_of g4
  · exact goR_of g6
theorem langC : ∀ (w : List Nat) (st : Int) (b : Bool), (∀ a ∈ w, a < 2) → ((st = 8 ∧ b = false) ∨ (st = 5 ∧ b = true) ∨ (st = 2 ∧ b = false)) → mkR 4 (w.foldl (fun st (a : Nat) => goR machC.2 machC.1 st (a : Int)) st) = mk2 (w.foldl go2 b)
  | [], st, b, _, h => by
    obtain ⟨h1, h2, h3⟩ := mkC
    rcases h with ⟨rfl, rfl⟩ | ⟨rfl, rfl⟩ | ⟨rfl, rfl⟩
    · exact h1
    · exact h2
    · exact h3
  | a :: w, st, b, hw, h => by
    have ha : a < 2 := hw a List.mem_cons_self
    have hs : st ∈ [(8 : Int), 5, 2] := by
      simp only [List.mem_cons, List.not_mem_nil, or_false]
      rcases h with ⟨h, _⟩ | ⟨h, _⟩ | ⟨h, _⟩ <;> simp [h]
    rw [List.foldl_cons, List.foldl_cons]
    refine langC w _ _ (fun x hx => hw x (List.mem_cons_of_mem _ hx)) ?_
    rw [(stepC hs ha).2]
    unfold go2
    by_cases e : a = 0
    · exact .inr (.inl ⟨if_pos e, decide_eq_true e⟩)
    · exact .inr (.inr ⟨if_neg e, decide_eq_false e⟩)
theorem canonC : canon 2 (rLang machC) = explD go2 mk2 2 false := by
  have h := canon_of (K := Bool) (go := go2) (mark := mk2) (L := 2) (k0 := false) (P := fun _ => True) trivial (fun _ _ _ _ => trivial) (fun x y _ _ hxy => by
    have := congrFun hxy []
    unfold rs langK at this
    simp only [List.not_mem_nil, false_implies, implies_true, if_true, List.foldl_nil] at this
    revert this
    cases x <;> cases y <;> simp [mk2])
  rw [h]
  refine canon_congr fun w hw => ?_
  show mkR (lastL machC.2 0 0) (w.foldl _ (startR machC.1)) = _
  rw [lastC, startC]
  exact langC w 8 false hw (.inl ⟨rfl, rfl⟩)
theorem lenC : (canon 2 (rLang machC)).fNext.length = 2 := by
  rw [canonC]
  obtain ⟨l, h1, h2, h3, h4, h5, h6⟩ := explD_facts (go := go2) (L := 2) (k0 := false) (m := [false, true]) (by simp) (fun k a _ _ => by cases go2 k a <;> simp)
  have hl : (explD go2 mk2 2 false).fNext.length = l.length := by
    show ((explL go2 2 false).map _).length = _
    rw [List.length_map, h1]
  rw [hl]
  have h4 : l.length ≤ 2 := h4
  match l, h5, h6, h4 with
  | [x], h5, h6, _ =>
    simp only [List.getElem?_cons_zero, Option.some.injEq] at h5
    subst h5
    have := h6 false (by simp) 0 (by decide)
    simp [go2] at this
  | [x, y], _, _, _ => rfl
theorem detC_ct (letters : Int) (text : ByteArray) (hp : letters = 2 ∧ text = textC) : Ct 27 [.sv (.one (I letters)), .sv (.one (.v (.string text)))] [] (fun (_ : Unit) => True) (fun _ => .tup [.agg [I (canon 2 (rLang machC)).fLetters, I (canon 2 (rLang machC)).fStart, LS (lsT intT) (canon 2 (rLang machC)).fNext, LS intT (canon 2 (rLang machC)).fMark], .one (I 0)]) := by
  obtain ⟨rfl, rfl⟩ := hp
  refine rDet_ok 8 2 textC treeC machC [8, 5, 2] fullC ⟨by decide, by decide⟩ (by rw [strC]; decide) machC_eq (by decide) (by decide) (by rw [startC]; decide) (fun st a hs ha => ?_) (by decide)
  obtain ⟨k1, k2⟩ := stepC hs ha
  refine ⟨k1, ?_⟩
  rw [k2]
  split <;> decide
def closed_vc (Q : Bool → Prop) : Prop :=
  ((2 : Int) = 2 ∧ (ByteArray.mk #[40, 97, 43, 98, 41, 42, 97]) = textC) ∧
  Q ((((canon 2 (rLang machC), (0 : Int))).2 == 0) && ((((canon 2 (rLang machC), (0 : Int))).1.fNext.length : Int) == 2))
theorem closed_walk (Q : Bool → Prop) (h : closed_vc  Q) : Ct 26 [] [] Q (fun (r : Bool) => .sv (.one (B r))) := by
 have ht := tab_ok
 refine Ct.body Try.func26 rfl rfl rfl rfl (fun c hn => ?_)
 unfold closed_vc at h
 refine En.seq ?_
 refine En.region ?_
 refine WL.run ht hn 1 ⟨[], []⟩ (by kernel_rfl) ?_
 refine WL.nil ?_
 refine En.seq ?_
 refine En.region ?_
 have hp := h.1
 replace h := h.2
 refine WL.mt0 (K := []) (p := none) hn (by rfl) (mt_call (detC_ct 2 (ByteArray.mk #[40, 97, 43, 98, 41, 42, 97]) hp) en27 (caps := []) [] rfl (by rfl) (by kernel_rfl) (by kernel_rfl) (by rfl) (by rfl) (by rfl)) (by rfl) (by rfl) (by rfl) ?_
 refine WL.run ht hn 6 ⟨[sl 1 (.ptr 0 0), sl 2 (I ((canon 2 (rLang machC), (0 : Int))).2)], [.box (ApiDet.cl ((canon 2 (rLang machC), (0 : Int))).1) 73 false]⟩ (by kernel_rfl) ?_
 refine WL.nil ?_
 refine En.seq ?_
 refine En.region ?_
 refine WL.run ht hn 3 ⟨[sl 1 (.ptr 0 0), sl 9 (B (((canon 2 (rLang machC), (0 : Int))).2 == 0))], [.box (ApiDet.cl ((canon 2 (rLang machC), (0 : Int))).1) 73 false]⟩ (by kernel_rfl) ?_
 refine WL.thru ⟨[sl 0 (B ((((canon 2 (rLang machC), (0 : Int))).2 == 0) && ((((canon 2 (rLang machC), (0 : Int))).1.fNext.length : Int) == 2)))], [.gone]⟩ ?_ ?_
 refine splitB (((canon 2 (rLang machC), (0 : Int))).2 == 0) (fun hb0 => ?_) (fun hb0 => ?_)
 refine WL.setB 9 hb0 (by kernel_rfl) ?_
 refine WL.run ht hn 6 ⟨[sl 0 (B ((((canon 2 (rLang machC), (0 : Int))).1.fNext.length : Int) == 2))], [.gone]⟩ (by kernel_rfl) ?_
 exact WL.nil (sub_ok (by simp only [hb0]; kernel_rfl))
 refine WL.setB 9 hb0 (by kernel_rfl) ?_
 refine WL.run ht hn 6 ⟨[sl 0 (B false)], [.gone]⟩ (by kernel_rfl) ?_
 exact WL.nil (sub_ok (by simp only [hb0]; kernel_rfl))
 refine En.ret ?_
 exact En.back ht ((((canon 2 (rLang machC), (0 : Int))).2 == 0) && ((((canon 2 (rLang machC), (0 : Int))).1.fNext.length : Int) == 2)) h (by kernel_rfl) rfl
theorem en26 : ∀ args w, (callFunc 26 args).run Try.prog w = .ok (.enter 26 args) w := enters_of Try.func26 (by kernel_rfl) rfl
theorem closed_ct  : Ct 26 [] [] (fun (_ : Unit) => True) (fun _ => .sv (.one (B (true)))) := by
  refine (closed_walk  (fun res_ => res_ = (true)) ?_).fun
  unfold closed_vc
  refine ⟨⟨rfl, rfl⟩, ?_⟩
  rw [lenC]
  rfl
end Go.Proofs.Ytapnmjeadbhffaa


namespace Go.Proofs.Ytapnmjeadbhffaa
open Go.RowKit Go.MapKept
set_option linter.unusedSimpArgs false
set_option linter.unusedVariables false
set_option maxRecDepth 100000
def difGo_vc (k : DetCouple) (a : Int) (x : ApiDet) (y : ApiDet) (Q : DetCouple → Prop) : Prop :=
  ∃ e, idx x.fNext k.fE0 = some e ∧
  ∃ e_2, idx e a = some e_2 ∧
  ∃ e_3, idx y.fNext k.fE1 = some e_3 ∧
  ∃ e_4, idx e_3 a = some e_4 ∧
  Q (DetCouple.mk e_2 e_4)
theorem difGo_walk (k : DetCouple) (a : Int) (x : ApiDet) (y : ApiDet) (Q : DetCouple → Prop) (h : difGo_vc k a x y Q) : Ct 84 [.sv (.agg [I k.fE0, I k.fE1]), .sv (.one (I a)), .sv (.one (.ptr 0 0)), .sv (.one (.ptr 1 0))] [.box [I x.fLetters, I x.fStart, LS (lsT intT) x.fNext, LS intT x.fMark] 73 true, .box [I y.fLetters, I y.fStart, LS (lsT intT) y.fNext, LS intT y.fMark] 73 true] Q (fun (r : DetCouple) => .sv (.agg [I r.fE0, I r.fE1])) := by
 have ht := tab_ok
 refine Ct.body Try.func84 rfl rfl rfl rfl (fun c hn => ?_)
 unfold difGo_vc at h
 refine En.seq ?_
 refine En.region ?_
 refine WL.run ht hn 2 ⟨[sl 1 (I a), sl 2 (.ptr 0 0), sl 3 (.ptr 1 0), sl 4 (.ptr 2 0), sl 6 (.ptr 3 0)], [.box (ApiDet.cl x) 73 true, .box (ApiDet.cl y) 73 true, .box (DetCouple.cl k) 169 false, .box [I 0, I 0] 169 false]⟩ (by kernel_rfl) ?_
 refine WL.nil ?_
 refine En.seq ?_
 obtain ⟨e, he, h⟩ := h
 obtain ⟨e_2, he_2, h⟩ := h
 obtain ⟨e_3, he_3, h⟩ := h
 obtain ⟨e_4, he_4, h⟩ := h
 refine En.regionA ⟨[sl 1 (I a), sl 2 (.ptr 0 0), sl 3 (.ptr 1 0), sl 4 (.ptr 2 0), sl 6 (.ptr 3 0)], [.sv (.one (.ptr 0 2)), .sv (.one (LS (lsT intT) x.fNext)), .sv (.one (.ptr 2 0)), .sv (.one (I k.fE0)), .sv (.one (.pe (svR (.one (LS intT e))) 1)), .sv (.one (LS intT e)), .sv (.one (I a)), .sv (.one (.pe (svR (.one (I e_2))) 1)), .sv (.one (I e_2)), .sv (.one (.ptr 1 2)), .sv (.one (LS (lsT intT) y.fNext)), .sv (.one (.ptr 2 1)), .sv (.one (I k.fE1)), .sv (.one (.pe (svR (.one (LS intT e_3))) 1)), .sv (.one (LS intT e_3)), .sv (.one (I a)), .sv (.one (.pe (svR (.one (I e_4))) 1)), .sv (.one (I e_4)), .sv (.agg [I e_2, I e_4]), .tup []], [⟨.box (ApiDet.cl x) 73 true, none, none, none⟩, ⟨.box (ApiDet.cl y) 73 true, none, none, none⟩, ⟨.box (DetCouple.cl k) 169 false, none, none, none⟩, ⟨.box [I 0, I 0] 169 false, none, none, some (19, .box [I e_2, I e_4] 169 false)⟩]⟩ ⟨[sl 6 (.ptr 3 0)], [.gone, .gone, .gone, .box [I e_2, I e_4] 169 false]⟩ (by kernel_rfl) hn (by kernel_rfl) (by rfl) (by kernel_rfl) ?_ (by kernel_rfl) ?_
 exact ⟨.mt ⟨[sl 2 (.ptr 0 0)], []⟩ [] none (by kernel_rfl) (by rfl) (mt_ev ht (by kernel_rfl)) rfl rfl rfl rfl,
  .mt ⟨[sl 7 (.ptr 0 2)], [.box (ApiDet.cl x) 73 true]⟩ [] none (by kernel_rfl) (by rfl) (mt_ev ht (by kernel_rfl)) rfl rfl rfl rfl,
  .mt ⟨[sl 4 (.ptr 2 0)], [.gone, .gone, .box (DetCouple.cl k) 169 false]⟩ [] none (by kernel_rfl) (by rfl) (mt_val (val_indexP (k := 0) 2 0 0 ht rfl Try.underlying169 (by rfl) (by rfl) (by rfl) (by rfl) (by decide) (by rfl))) rfl rfl rfl rfl,
  .mt ⟨[sl 9 (.ptr 2 0)], [.gone, .gone, .box (DetCouple.cl k) 169 false]⟩ [] none (by kernel_rfl) (by rfl) (mt_ev ht (by kernel_rfl)) rfl rfl rfl rfl,
  .mt ⟨[sl 8 (LS (lsT intT) x.fNext), sl 10 (I k.fE0)], []⟩ [] none (by kernel_rfl) (by rfl) (mt_val (val_index (T := (lsT intT)) (l := x.fNext) (i := k.fE0) ht rfl (by rfl) (by rfl) (by rfl) (by rfl) (by rfl) (by rfl) he)) rfl rfl rfl rfl,
  .mt ⟨[sl 11 (.pe (svR (.one (LS intT e))) 1)], []⟩ [] none (by kernel_rfl) (by rfl) (mt_val (val_load (s := .one (LS intT e)) ht rfl (by rfl) (by rfl) (by rfl) (by rfl) (by rfl))) rfl rfl rfl rfl,
  .mt ⟨[sl 1 (I a)], []⟩ [] none (by kernel_rfl) (by rfl) (mt_ev ht (by kernel_rfl)) rfl rfl rfl rfl,
  .mt ⟨[sl 12 (LS intT e), sl 13 (I a)], []⟩ [] none (by kernel_rfl) (by rfl) (mt_val (val_index (T := intT) (l := e) (i := a) ht rfl (by rfl) (by rfl) (by rfl) (by rfl) (by rfl) (by rfl) he_2)) rfl rfl rfl rfl,
  .mt ⟨[sl 14 (.pe (svR (.one (I e_2))) 1)], []⟩ [] none (by kernel_rfl) (by rfl) (mt_val (val_load (s := .one (I e_2)) ht rfl (by rfl) (by rfl) (by rfl) (by rfl) (by rfl))) rfl rfl rfl rfl,
  .mt ⟨[sl 3 (.ptr 1 0)], []⟩ [] none (by kernel_rfl) (by rfl) (mt_ev ht (by kernel_rfl)) rfl rfl rfl rfl,
  .mt ⟨[sl 16 (.ptr 1 2)], [.gone, .box (ApiDet.cl y) 73 true]⟩ [] none (by kernel_rfl) (by rfl) (mt_ev ht (by kernel_rfl)) rfl rfl rfl rfl,
  .mt ⟨[sl 4 (.ptr 2 0)], [.gone, .gone, .box (DetCouple.cl k) 169 false]⟩ [] none (by kernel_rfl) (by rfl) (mt_val (val_indexP (k := 1) 2 0 1 ht rfl Try.underlying169 (by rfl) (by rfl) (by rfl) (by rfl) (by decide) (by rfl))) rfl rfl rfl rfl,
  .mt ⟨[sl 18 (.ptr 2 1)], [.gone, .gone, .box (DetCouple.cl k) 169 false]⟩ [] none (by kernel_rfl) (by rfl) (mt_ev ht (by kernel_rfl)) rfl rfl rfl rfl,
  .mt ⟨[sl 17 (LS (lsT intT) y.fNext), sl 19 (I k.fE1)], []⟩ [] none (by kernel_rfl) (by rfl) (mt_val (val_index (T := (lsT intT)) (l := y.fNext) (i := k.fE1) ht rfl (by rfl) (by rfl) (by rfl) (by rfl) (by rfl) (by rfl) he_3)) rfl rfl rfl rfl,
  .mt ⟨[sl 20 (.pe (svR (.one (LS intT e_3))) 1)], []⟩ [] none (by kernel_rfl) (by rfl) (mt_val (val_load (s := .one (LS intT e_3)) ht rfl (by rfl) (by rfl) (by rfl) (by rfl) (by rfl))) rfl rfl rfl rfl,
  .mt ⟨[sl 1 (I a)], []⟩ [] none (by kernel_rfl) (by rfl) (mt_ev ht (by kernel_rfl)) rfl rfl rfl rfl,
  .mt ⟨[sl 21 (LS intT e_3), sl 22 (I a)], []⟩ [] none (by kernel_rfl) (by rfl) (mt_val (val_index (T := intT) (l := e_3) (i := a) ht rfl (by rfl) (by rfl) (by rfl) (by rfl) (by rfl) (by rfl) he_4)) rfl rfl rfl rfl,
  .mt ⟨[sl 23 (.pe (svR (.one (I e_4))) 1)], []⟩ [] none (by kernel_rfl) (by rfl) (mt_val (val_load (s := .one (I e_4)) ht rfl (by rfl) (by rfl) (by rfl) (by rfl) (by rfl))) rfl rfl rfl rfl,
  .mt ⟨[sl 15 (I e_2), sl 24 (I e_4)], []⟩ [] none (by kernel_rfl) (by rfl) (mt_ev ht (by kernel_rfl)) rfl rfl rfl rfl,
  .mu ⟨[sl 6 (.ptr 3 0), (25, .sv (.agg [I e_2, I e_4]))], [.gone, .gone, .gone, .box [I 0, I 0] 169 false]⟩ 3 _ _ rfl rfl (by kernel_rfl) (by rfl) (mu_store2 ht rfl (by rfl) (by rfl) (by rfl) (by rfl) (fun h => by cases h) (by rfl) (by rfl)) rfl rfl rfl rfl rfl rfl rfl,
  trivial⟩
 refine En.ret ?_
 exact En.back ht (DetCouple.mk e_2 e_4) h (by kernel_rfl) rfl
theorem en84 : ∀ args w, (callFunc 84 args).run Try.prog w = .ok (.enter 84 args) w := enters_of Try.func84 (by kernel_rfl) rfl
def difOk_vc (k : DetCouple) (x : ApiDet) (y : ApiDet) (Q : Bool → Prop) : Prop :=
  ∃ e, idx x.fMark k.fE0 = some e ∧
  ∃ e_2, idx y.fMark k.fE1 = some e_2 ∧
  Q (e != e_2)
theorem difOk_walk (k : DetCouple) (x : ApiDet) (y : ApiDet) (Q : Bool → Prop) (h : difOk_vc k x y Q) : Ct 85 [.sv (.agg [I k.fE0, I k.fE1]), .sv (.one (.ptr 0 0)), .sv (.one (.ptr 1 0))] [.box [I x.fLetters, I x.fStart, LS (lsT intT) x.fNext, LS intT x.fMark] 73 true, .box [I y.fLetters, I y.fStart, LS (lsT intT) y.fNext, LS intT y.fMark] 73 true] Q (fun (r : Bool) => .sv (.one (B r))) := by
 have ht := tab_ok
 refine Ct.body Try.func85 rfl rfl rfl rfl (fun c hn => ?_)
 unfold difOk_vc at h
 refine En.seq ?_
 refine En.region ?_
 refine WL.run ht hn 2 ⟨[sl 1 (.ptr 0 0), sl 2 (.ptr 1 0), sl 3 (.ptr 2 0)], [.box (ApiDet.cl x) 73 true, .box (ApiDet.cl y) 73 true, .box (DetCouple.cl k) 169 false]⟩ (by kernel_rfl) ?_
 refine WL.nil ?_
 refine En.seq ?_
 refine En.regionS (by kernel_rfl) (by kernel_rfl) ?_
 refine SL.run ht hn 2 ⟨[sl 1 (.ptr 0 0), sl 2 (.ptr 1 0), sl 3 (.ptr 2 0), sl 5 (.ptr 0 3), sl 6 (LS intT x.fMark)], [.box (ApiDet.cl x) 73 true, .box (ApiDet.cl y) 73 true, .box (DetCouple.cl k) 169 false]⟩ (by kernel_rfl) ?_
 refine SL.val hn (by rfl) (val_indexP (k := 0) 2 0 0 ht rfl Try.underlying169 (by rfl) (by rfl) (by rfl) (by rfl) (by decide) (by rfl)) (by rfl) ?_
 refine SL.run ht hn 1 ⟨[sl 1 (.ptr 0 0), sl 2 (.ptr 1 0), sl 3 (.ptr 2 0), sl 5 (.ptr 0 3), sl 6 (LS intT x.fMark), sl 7 (.ptr 2 0), sl 8 (I k.fE0)], [.box (ApiDet.cl x) 73 true, .box (ApiDet.cl y) 73 true, .box (DetCouple.cl k) 169 false]⟩ (by kernel_rfl) ?_
 obtain ⟨e, he, h⟩ := h
 refine SL.val hn (by rfl) (val_index (T := intT) (l := x.fMark) (i := k.fE0) ht rfl (by rfl) (by rfl) (by rfl) (by rfl) (by rfl) (by rfl) he) (by rfl) ?_
 refine SL.val hn (by rfl) (val_load (s := .one (I e)) ht rfl (by rfl) (by rfl) (by rfl) (by rfl) (by rfl)) (by rfl) ?_
 refine SL.run ht hn 2 ⟨[sl 1 (.ptr 0 0), sl 2 (.ptr 1 0), sl 3 (.ptr 2 0), sl 5 (.ptr 0 3), sl 6 (LS intT x.fMark), sl 7 (.ptr 2 0), sl 8 (I k.fE0), sl 9 (.pe (svR (.one (I e))) 1), sl 10 (I e), sl 11 (.ptr 1 3), sl 12 (LS intT y.fMark)], [.box (ApiDet.cl x) 73 true, .box (ApiDet.cl y) 73 true, .box (DetCouple.cl k) 169 false]⟩ (by kernel_rfl) ?_
 refine SL.val hn (by rfl) (val_indexP (k := 1) 2 0 1 ht rfl Try.underlying169 (by rfl) (by rfl) (by rfl) (by rfl) (by decide) (by rfl)) (by rfl) ?_
 refine SL.run ht hn 1 ⟨[sl 1 (.ptr 0 0), sl 2 (.ptr 1 0), sl 3 (.ptr 2 0), sl 5 (.ptr 0 3), sl 6 (LS intT x.fMark), sl 7 (.ptr 2 0), sl 8 (I k.fE0), sl 9 (.pe (svR (.one (I e))) 1), sl 10 (I e), sl 11 (.ptr 1 3), sl 12 (LS intT y.fMark), sl 13 (.ptr 2 1), sl 14 (I k.fE1)], [.box (ApiDet.cl x) 73 true, .box (ApiDet.cl y) 73 true, .box (DetCouple.cl k) 169 false]⟩ (by kernel_rfl) ?_
 obtain ⟨e_2, he_2, h⟩ := h
 refine SL.val hn (by rfl) (val_index (T := intT) (l := y.fMark) (i := k.fE1) ht rfl (by rfl) (by rfl) (by rfl) (by rfl) (by rfl) (by rfl) he_2) (by rfl) ?_
 refine SL.val hn (by rfl) (val_load (s := .one (I e_2)) ht rfl (by rfl) (by rfl) (by rfl) (by rfl) (by rfl)) (by rfl) ?_
 refine SL.run ht hn 2 ⟨[sl 1 (.ptr 0 0), sl 2 (.ptr 1 0), sl 3 (.ptr 2 0), sl 4 (B (e != e_2)), sl 5 (.ptr 0 3), sl 6 (LS intT x.fMark), sl 7 (.ptr 2 0), sl 8 (I k.fE0), sl 9 (.pe (svR (.one (I e))) 1), sl 10 (I e), sl 11 (.ptr 1 3), sl 12 (LS intT y.fMark), sl 13 (.ptr 2 1), sl 14 (I k.fE1), sl 15 (.pe (svR (.one (I e_2))) 1), sl 16 (I e_2), sl 17 (B (e != e_2))], [.box (ApiDet.cl x) 73 true, .box (ApiDet.cl y) 73 true, .box (DetCouple.cl k) 169 false]⟩ (by kernel_rfl) ?_
 refine SL.nil ⟨by kernel_rfl, ?_⟩
 refine En.ret ?_
 exact En.back ht (e != e_2) h (by kernel_rfl) rfl
theorem en85 : ∀ args w, (callFunc 85 args).run Try.prog w = .ok (.enter 85 args) w := enters_of Try.func85 (by kernel_rfl) rfl
def detSeeks_vc (first : DetCouple) (letters : Int) (domnxt : ((DetCouple × Int) → Prop)) (nxt : ((DetCouple × Int) → DetCouple)) (domok : (DetCouple → Prop)) (ok : (DetCouple → Bool)) (Q : ((List Int) × Bool) → Prop) : Prop :=
  ∃ (Inv : (List (DetCouple × (List Int))) → (List DetCouple) → Prop) (mu : (List (DetCouple × (List Int))) → (List DetCouple) → Nat), Inv (mput first ([] : (List Int)) ([] : List (DetCouple × (List Int)))) ([first] : (List DetCouple)) ∧
  ∀ (m1 : (List (DetCouple × (List Int)))) (l3 : (List DetCouple)) , Inv m1 l3 → (IfP (decide ((l3.length : Int) > 0)) (∃ e, idx l3 0 = some e ∧
  (domok e) ∧
  IfP (ok e) (∃ e_2, idx l3 0 = some e_2 ∧
  Q (((mget e_2 m1).getD []), true)) (∃ (Inv_2 : Int → (List (DetCouple × (List Int))) → (List DetCouple) → Prop) (mu_2 : Int → (List (DetCouple × (List Int))) → (List DetCouple) → Nat), Inv_2 0 m1 l3 ∧
  ∀ (x38 : Int) (m1_2 : (List (DetCouple × (List Int)))) (l3_2 : (List DetCouple)) , Inv_2 x38 m1_2 l3_2 → (IfP (decide (x38 < letters)) (∃ J : (List (DetCouple × (List Int))) → (List DetCouple) → Prop, (∃ e_3, idx l3_2 0 = some e_3 ∧
  (domnxt (e_3, x38)) ∧
  IfP (!(mget (nxt (e_3, x38)) m1_2).isSome) (∃ e_4, idx l3_2 0 = some e_4 ∧
  (((mget e_4 m1_2).getD []).length * 8 ≤ 140737488355328) ∧
  capOk (((mget e_4 m1_2).getD [])).length (([x38] : (List Int)) : (List Int)).length 8 ∧
  capOk l3_2.length (([(nxt (e_3, x38))] : (List DetCouple)) : (List DetCouple)).length 16 ∧
  J (mput (nxt (e_3, x38)) ((((mget e_4 m1_2).getD [])) ++ ([x38] : (List Int))) m1_2) (l3_2 ++ ([(nxt (e_3, x38))] : (List DetCouple)))) (J m1_2 l3_2)) ∧
  (∀ (m1_3 : (List (DetCouple × (List Int)))) (l3_3 : (List DetCouple)), J m1_3 l3_3 → (Inv_2 (wr (x38 + 1)) m1_3 l3_3 ∧ mu_2 (wr (x38 + 1)) m1_3 l3_3 < mu_2 x38 m1_2 l3_2))) ((0 ≤ (1 : Int) ∧ (1 : Int) ≤ (l3_2.length : Int)) ∧
  (Inv m1_2 (l3_2.drop (1 : Int).toNat) ∧ mu m1_2 (l3_2.drop (1 : Int).toNat) < mu m1 l3))))) (Q ([], false)))
theorem detSeeks_walk (first : DetCouple) (letters : Int) (domnxt : ((DetCouple × Int) → Prop)) (nxt : ((DetCouple × Int) → DetCouple)) (domok : (DetCouple → Prop)) (ok : (DetCouple → Bool)) (Q : ((List Int) × Bool) → Prop) (h : detSeeks_vc first letters domnxt nxt domok ok Q) : Ct 83 [.sv (.agg [I first.fE0, I first.fE1]), .sv (.one (I letters)), .sv (.one (.rd (fvR (fun (x : (DetCouple × Int)) => [.sv (.agg [I x.1.fE0, I x.1.fE1]), .sv (.one (I x.2))]) (fun (r : DetCouple) => .sv (.agg [I r.fE0, I r.fE1])) domnxt nxt))), .sv (.one (.rd (fvR (fun (x : DetCouple) => [.sv (.agg [I x.fE0, I x.fE1])]) (fun (r : Bool) => .sv (.one (B r))) domok ok)))] [] Q (fun (r : ((List Int) × Bool)) => .tup [.one (LS intT r.1), .one (B r.2)]) := by
  have ht := tab_ok
  refine Ct.body Try.func83 rfl rfl rfl rfl (fun c hn => ?_)
  unfold detSeeks_vc at h
  refine En.seq ?_
  refine En.region ?_
  refine WL.run ht hn 3 ⟨[sl 1 (I letters), sl 2 (.rd (fvR (fun (x : (DetCouple × Int)) => [.sv (.agg (DetCouple.cl x.1)), .sv (.one (I x.2))]) (fun (r : DetCouple) => .sv (.agg (DetCouple.cl r))) domnxt nxt)), sl 3 (.rd (fvR (fun (x : DetCouple) => [.sv (.agg (DetCouple.cl x))]) (fun (r : Bool) => .sv (.one (B r))) domok ok)), sl 4 (.ptr 0 0)], [.box (DetCouple.cl first) 169 false]⟩ (by kernel_rfl) ?_
  refine WL.nil ?_
  refine En.seq ?_
  refine En.region ?_
  refine WL.mt0 (K := []) (p := some (1, mapI DetCouple.enc (lsT intT) ([] : List (DetCouple × (List Int))))) hn (by rfl) (mt_makeMap DetCouple.enc (lsT intT) 1 rfl) (by rfl) (by rfl) (by rfl) ?_
  refine WL.run ht hn 1 ⟨[sl 1 (I letters), sl 2 (.rd (fvR (fun (x : (DetCouple × Int)) => [.sv (.agg (DetCouple.cl x.1)), .sv (.one (I x.2))]) (fun (r : DetCouple) => .sv (.agg (DetCouple.cl r))) domnxt nxt)), sl 3 (.rd (fvR (fun (x : DetCouple) => [.sv (.agg (DetCouple.cl x))]) (fun (r : Bool) => .sv (.one (B r))) domok ok)), sl 4 (.ptr 0 0), sl 16 (.own 1), (17, .sv (.agg (DetCouple.cl first)))], [.box (DetCouple.cl first) 169 false, mapI DetCouple.enc (lsT intT) ([] : List (DetCouple × (List Int)))]⟩ (by kernel_rfl) ?_
  refine WL.mt0 (K := []) (p := some (2, rowI 3 intT ([] : (List Int)))) hn (by rfl) (mt_empty intT 2 ht rfl (by rfl) (by rfl) (by rfl)) (by rfl) (by rfl) (by rfl) ?_
  refine WL.seal (T := intT) (l := ([] : (List Int))) (e := 3) 2 rfl ?_
  refine WL.run ht hn 0 ⟨[sl 1 (I letters), sl 2 (.rd (fvR (fun (x : (DetCouple × Int)) => [.sv (.agg (DetCouple.cl x.1)), .sv (.one (I x.2))]) (fun (r : DetCouple) => .sv (.agg (DetCouple.cl r))) domnxt nxt)), sl 3 (.rd (fvR (fun (x : DetCouple) => [.sv (.agg (DetCouple.cl x))]) (fun (r : Bool) => .sv (.one (B r))) domok ok)), sl 4 (.ptr 0 0), sl 16 (.own 1), (17, .sv (.agg (DetCouple.cl first))), sl 18 (LS intT ([] : (List Int)))], [.box (DetCouple.cl first) 169 false, mapI DetCouple.enc (lsT intT) ([] : List (DetCouple × (List Int))), .gone]⟩ (by kernel_rfl) ?_
  refine WL.mapPut (T := (lsT intT)) DetCouple.keyLaw (k := first) (y := ([] : (List Int))) hn (by rfl) (.inr rfl) Try.underlying280 (by rfl) (by rfl) (by rfl) (by rfl) (by rfl) (by rfl) ?_
  refine WL.run ht hn 2 ⟨[sl 1 (I letters), sl 2 (.rd (fvR (fun (x : (DetCouple × Int)) => [.sv (.agg (DetCouple.cl x.1)), .sv (.one (I x.2))]) (fun (r : DetCouple) => .sv (.agg (DetCouple.cl r))) domnxt nxt)), sl 3 (.rd (fvR (fun (x : DetCouple) => [.sv (.agg (DetCouple.cl x))]) (fun (r : Bool) => .sv (.one (B r))) domok ok)), sl 4 (.ptr 0 0), sl 10 (.own 1)], [.box (DetCouple.cl first) 169 false, mapI DetCouple.enc (lsT intT) (mput first ([] : (List Int)) ([] : List (DetCouple × (List Int)))), .gone]⟩ (by kernel_rfl) ?_
  refine WL.nil ?_
  refine En.seq ?_
  refine En.seq ?_
  refine En.region ?_
  refine WL.run ht hn 1 ⟨[sl 1 (I letters), sl 2 (.rd (fvR (fun (x : (DetCouple × Int)) => [.sv (.agg (DetCouple.cl x.1)), .sv (.one (I x.2))]) (fun (r : DetCouple) => .sv (.agg (DetCouple.cl r))) domnxt nxt)), sl 3 (.rd (fvR (fun (x : DetCouple) => [.sv (.agg (DetCouple.cl x))]) (fun (r : Bool) => .sv (.one (B r))) domok ok)), sl 10 (.own 1), (20, .sv (.agg (DetCouple.cl first)))], [.gone, mapI DetCouple.enc (lsT intT) (mput first ([] : (List Int)) ([] : List (DetCouple × (List Int)))), .gone]⟩ (by kernel_rfl) ?_
  refine WL.mt0 (K := []) (p := some (3, rowI 169 DetCouple.ty ([first] : (List DetCouple)))) hn (by rfl) (mt_lit (T := DetCouple.ty) ([first] : (List DetCouple)) (mt_bsl 3 (r := cellsOf DetCouple.ty ([first] : (List DetCouple))) ht rfl (by rfl) (by rfl) (by rfl) (by kernel_rfl) (by rfl)) (fun _ h => by cases h) (fun _ => rfl) (fun _ => rfl) (by rfl) (Nat.le_of_ble_eq_true rfl)) (by rfl) (by rfl) (by rfl) ?_
  refine WL.run ht hn 1 ⟨[sl 1 (I letters), sl 2 (.rd (fvR (fun (x : (DetCouple × Int)) => [.sv (.agg (DetCouple.cl x.1)), .sv (.one (I x.2))]) (fun (r : DetCouple) => .sv (.agg (DetCouple.cl r))) domnxt nxt)), sl 3 (.rd (fvR (fun (x : DetCouple) => [.sv (.agg (DetCouple.cl x))]) (fun (r : Bool) => .sv (.one (B r))) domok ok)), sl 10 (.own 1), sl 11 (.own 3)], [.gone, mapI DetCouple.enc (lsT intT) (mput first ([] : (List Int)) ([] : List (DetCouple × (List Int)))), .gone, rowI 169 DetCouple.ty ([first] : (List DetCouple))]⟩ (by kernel_rfl) ?_
  refine WL.nil ?_
  refine En.block ?_
  obtain ⟨Inv, mu, h0_2, hI_2⟩ := h
  refine En.loop (σ := (List (DetCouple × (List Int))) × (List DetCouple)) (fun zz => Inv zz.1 zz.2) (fun zz => mu zz.1 zz.2) (fun zz => ⟨[sl 1 (I letters), sl 2 (.rd (fvR (fun (x : (DetCouple × Int)) => [.sv (.agg (DetCouple.cl x.1)), .sv (.one (I x.2))]) (fun (r : DetCouple) => .sv (.agg (DetCouple.cl r))) domnxt nxt)), sl 3 (.rd (fvR (fun (x : DetCouple) => [.sv (.agg (DetCouple.cl x))]) (fun (r : Bool) => .sv (.one (B r))) domok ok)), sl 10 (.own 1), sl 11 (.own 3)], [.gone, mapI DetCouple.enc (lsT intT) zz.1, .gone, rowI 169 DetCouple.ty zz.2]⟩) ((mput first ([] : (List Int)) ([] : List (DetCouple × (List Int)))), ([first] : (List DetCouple))) h0_2 (sub_ok (by kernel_rfl)) ?_
  rintro ⟨m1, l3⟩ h
  replace h := hI_2 _ _ h
  show En c ⟨[sl 1 (I letters), sl 2 (.rd (fvR (fun (x : (DetCouple × Int)) => [.sv (.agg (DetCouple.cl x.1)), .sv (.one (I x.2))]) (fun (r : DetCouple) => .sv (.agg (DetCouple.cl r))) domnxt nxt)), sl 3 (.rd (fvR (fun (x : DetCouple) => [.sv (.agg (DetCouple.cl x))]) (fun (r : Bool) => .sv (.one (B r))) domok ok)), sl 10 (.own 1), sl 11 (.own 3)], [.gone, mapI DetCouple.enc (lsT intT) m1, .gone, rowI 169 DetCouple.ty l3]⟩ _
  refine En.seq ?_
  refine En.seq ?_
  refine En.region ?_
  refine WL.run ht hn 3 ⟨[sl 1 (I letters), sl 2 (.rd (fvR (fun (x : (DetCouple × Int)) => [.sv (.agg (DetCouple.cl x.1)), .sv (.one (I x.2))]) (fun (r : DetCouple) => .sv (.agg (DetCouple.cl r))) domnxt nxt)), sl 3 (.rd (fvR (fun (x : DetCouple) => [.sv (.agg (DetCouple.cl x))]) (fun (r : Bool) => .sv (.one (B r))) domok ok)), sl 10 (.own 1), sl 11 (.own 3), sl 24 (B (decide ((l3.length : Int) > 0)))], [.gone, mapI DetCouple.enc (lsT intT) m1, .gone, rowI 169 DetCouple.ty l3]⟩ (by kernel_rfl) ?_
  refine WL.nil ?_
  refine En.cond (b := (decide ((l3.length : Int) > 0))) (by kernel_rfl) (fun hb => ?_) (fun hb => ?_)
  · replace h := h.1 hb
    refine En.skip ?_
    refine En.seq ?_
    refine En.block ?_
    refine En.seq ?_
    refine En.seq ?_
    refine En.region ?_
    refine WL.run ht hn 2 ⟨[sl 1 (I letters), sl 2 (.rd (fvR (fun (x : (DetCouple × Int)) => [.sv (.agg (DetCouple.cl x.1)), .sv (.one (I x.2))]) (fun (r : DetCouple) => .sv (.agg (DetCouple.cl r))) domnxt nxt)), sl 3 (.rd (fvR (fun (x : DetCouple) => [.sv (.agg (DetCouple.cl x))]) (fun (r : Bool) => .sv (.one (B r))) domok ok)), sl 10 (.own 1), sl 11 (.own 3), sl 27 (.rd (fvR (fun (x : DetCouple) => [.sv (.agg (DetCouple.cl x))]) (fun (r : Bool) => .sv (.one (B r))) domok ok)), sl 28 (.own 3)], [.gone, mapI DetCouple.enc (lsT intT) m1, .gone, rowI 169 DetCouple.ty l3]⟩ (by kernel_rfl) ?_
    obtain ⟨e, he, h⟩ := h
    refine WL.val hn (by rfl) (val_indexO (T := DetCouple.ty) (l := l3) (k := 0) ht rfl (by rfl) (by rfl) (by rfl) (by rfl) (by decide) (by rfl) (by rfl) (by rfl) he) (by rfl) ?_
    refine WL.val hn (by rfl) (val_loadO (T := DetCouple.ty) (l := l3) (y := e) ht rfl (by rfl) (by rfl) (by rfl) (by rfl) (by rfl) (idx_some he).2.2 (by rfl)) (by rfl) ?_
    have hp := h.1
    replace h := h.2
    refine WL.mt0 (K := []) (p := none) hn (by rfl) (mt_callv e hp rfl (by rfl) (by rfl) (by rfl) (by rfl)) (by rfl) (by rfl) (by rfl) ?_
    refine WL.nil ?_
    refine En.cond (b := (ok e)) (by kernel_rfl) (fun hb => ?_) (fun hb => ?_)
    · replace h := h.1 hb
      refine En.seq ?_
      refine En.region ?_
      refine WL.run ht hn 2 ⟨[sl 32 (.own 1), sl 33 (.own 3)], [.gone, mapI DetCouple.enc (lsT intT) m1, .gone, rowI 169 DetCouple.ty l3]⟩ (by kernel_rfl) ?_
      obtain ⟨e_2, he_2, h⟩ := h
      refine WL.val hn (by rfl) (val_indexO (T := DetCouple.ty) (l := l3) (k := 0) ht rfl (by rfl) (by rfl) (by rfl) (by rfl) (by decide) (by rfl) (by rfl) (by rfl) he_2) (by rfl) ?_
      refine WL.val hn (by rfl) (val_loadO (T := DetCouple.ty) (l := l3) (y := e_2) ht rfl (by rfl) (by rfl) (by rfl) (by rfl) (by rfl) (idx_some he_2).2.2 (by rfl)) (by rfl) ?_
      refine WL.val hn (by rfl) (val_lookup (T := (lsT intT)) (D := m1) DetCouple.keyLaw (k := e_2) (ok := false) [] (zv := (.slice none 0 0)) rfl Try.underlying280 (fun _ => by kernel_rfl) (fun _ => ls_nil) (mapAs DetCouple.enc (lsT intT) m1) (by rfl) (by rfl) (by rfl) (fun _ => rfl)) (by rfl) ?_
      refine WL.run ht hn 2 ⟨[sl 8 (LS intT ((mget e_2 m1).getD [])), sl 9 (B true)], [.gone, .gone, .gone, .gone]⟩ (by kernel_rfl) ?_
      refine WL.nil ?_
      refine En.ret ?_
      exact En.back ht (((mget e_2 m1).getD []), true) h (by kernel_rfl) rfl
    · replace h := h.2 hb
      refine En.skip ?_
      refine En.seq ?_
      refine En.region ?_
      refine WL.run ht hn 2 ⟨[sl 1 (I letters), sl 2 (.rd (fvR (fun (x : (DetCouple × Int)) => [.sv (.agg (DetCouple.cl x.1)), .sv (.one (I x.2))]) (fun (r : DetCouple) => .sv (.agg (DetCouple.cl r))) domnxt nxt)), sl 3 (.rd (fvR (fun (x : DetCouple) => [.sv (.agg (DetCouple.cl x))]) (fun (r : Bool) => .sv (.one (B r))) domok ok)), sl 10 (.own 1), sl 11 (.own 3), sl 37 (I letters), sl 38 (I 0)], [.gone, mapI DetCouple.enc (lsT intT) m1, .gone, rowI 169 DetCouple.ty l3]⟩ (by kernel_rfl) ?_
      refine WL.nil ?_
      refine En.block ?_
      obtain ⟨Inv_2, mu_2, h0, hI⟩ := h
      refine En.loop (σ := Int × (List (DetCouple × (List Int))) × (List DetCouple)) (fun zz => Inv_2 zz.1 zz.2.1 zz.2.2) (fun zz => mu_2 zz.1 zz.2.1 zz.2.2) (fun zz => ⟨[sl 1 (I letters), sl 2 (.rd (fvR (fun (x : (DetCouple × Int)) => [.sv (.agg (DetCouple.cl x.1)), .sv (.one (I x.2))]) (fun (r : DetCouple) => .sv (.agg (DetCouple.cl r))) domnxt nxt)), sl 3 (.rd (fvR (fun (x : DetCouple) => [.sv (.agg (DetCouple.cl x))]) (fun (r : Bool) => .sv (.one (B r))) domok ok)), sl 10 (.own 1), sl 11 (.own 3), sl 37 (I letters), sl 38 (I zz.1)], [.gone, mapI DetCouple.enc (lsT intT) zz.2.1, .gone, rowI 169 DetCouple.ty zz.2.2]⟩) (0, m1, l3) h0 (sub_ok (by kernel_rfl)) ?_
      rintro ⟨x38, m1_2, l3_2⟩ h
      replace h := hI _ _ _ h
      show En c ⟨[sl 1 (I letters), sl 2 (.rd (fvR (fun (x : (DetCouple × Int)) => [.sv (.agg (DetCouple.cl x.1)), .sv (.one (I x.2))]) (fun (r : DetCouple) => .sv (.agg (DetCouple.cl r))) domnxt nxt)), sl 3 (.rd (fvR (fun (x : DetCouple) => [.sv (.agg (DetCouple.cl x))]) (fun (r : Bool) => .sv (.one (B r))) domok ok)), sl 10 (.own 1), sl 11 (.own 3), sl 37 (I letters), sl 38 (I x38)], [.gone, mapI DetCouple.enc (lsT intT) m1_2, .gone, rowI 169 DetCouple.ty l3_2]⟩ _
      refine En.seq ?_
      refine En.region ?_
      refine WL.run ht hn 1 ⟨[sl 1 (I letters), sl 2 (.rd (fvR (fun (x : (DetCouple × Int)) => [.sv (.agg (DetCouple.cl x.1)), .sv (.one (I x.2))]) (fun (r : DetCouple) => .sv (.agg (DetCouple.cl r))) domnxt nxt)), sl 3 (.rd (fvR (fun (x : DetCouple) => [.sv (.agg (DetCouple.cl x))]) (fun (r : Bool) => .sv (.one (B r))) domok ok)), sl 10 (.own 1), sl 11 (.own 3), sl 37 (I letters), sl 38 (I x38), sl 39 (B (decide (x38 < letters)))], [.gone, mapI DetCouple.enc (lsT intT) m1_2, .gone, rowI 169 DetCouple.ty l3_2]⟩ (by kernel_rfl) ?_
      refine WL.nil ?_
      refine En.seq ?_
      refine En.cond (b := (decide (x38 < letters))) (by kernel_rfl) (fun hb => ?_) (fun hb => ?_)
      · replace h := h.1 hb
        refine En.skip ?_
        obtain ⟨J, h, hJ⟩ := h
        refine En.seqJ (σ := (List (DetCouple × (List Int))) × (List DetCouple)) (fun zz => J zz.1 zz.2) (fun zz => ⟨[sl 1 (I letters), sl 2 (.rd (fvR (fun (x : (DetCouple × Int)) => [.sv (.agg (DetCouple.cl x.1)), .sv (.one (I x.2))]) (fun (r : DetCouple) => .sv (.agg (DetCouple.cl r))) domnxt nxt)), sl 3 (.rd (fvR (fun (x : DetCouple) => [.sv (.agg (DetCouple.cl x))]) (fun (r : Bool) => .sv (.one (B r))) domok ok)), sl 10 (.own 1), sl 11 (.own 3), sl 37 (I letters), sl 38 (I x38)], [.gone, mapI DetCouple.enc (lsT intT) zz.1, .gone, rowI 169 DetCouple.ty zz.2, .gone]⟩) ?_ ?_
        · refine En.block ?_
          refine En.seq ?_
          refine En.region ?_
          refine WL.run ht hn 2 ⟨[sl 1 (I letters), sl 2 (.rd (fvR (fun (x : (DetCouple × Int)) => [.sv (.agg (DetCouple.cl x.1)), .sv (.one (I x.2))]) (fun (r : DetCouple) => .sv (.agg (DetCouple.cl r))) domnxt nxt)), sl 3 (.rd (fvR (fun (x : DetCouple) => [.sv (.agg (DetCouple.cl x))]) (fun (r : Bool) => .sv (.one (B r))) domok ok)), sl 10 (.own 1), sl 11 (.own 3), sl 12 (I x38), sl 37 (I letters), sl 38 (I x38)], [.gone, mapI DetCouple.enc (lsT intT) m1_2, .gone, rowI 169 DetCouple.ty l3_2]⟩ (by kernel_rfl) ?_
          refine WL.nil ?_
          refine En.seq ?_
          refine En.region ?_
          refine WL.run ht hn 2 ⟨[sl 1 (I letters), sl 2 (.rd (fvR (fun (x : (DetCouple × Int)) => [.sv (.agg (DetCouple.cl x.1)), .sv (.one (I x.2))]) (fun (r : DetCouple) => .sv (.agg (DetCouple.cl r))) domnxt nxt)), sl 3 (.rd (fvR (fun (x : DetCouple) => [.sv (.agg (DetCouple.cl x))]) (fun (r : Bool) => .sv (.one (B r))) domok ok)), sl 10 (.own 1), sl 11 (.own 3), sl 12 (I x38), sl 37 (I letters), sl 38 (I x38), sl 41 (.rd (fvR (fun (x : (DetCouple × Int)) => [.sv (.agg (DetCouple.cl x.1)), .sv (.one (I x.2))]) (fun (r : DetCouple) => .sv (.agg (DetCouple.cl r))) domnxt nxt)), sl 42 (.own 3)], [.gone, mapI DetCouple.enc (lsT intT) m1_2, .gone, rowI 169 DetCouple.ty l3_2]⟩ (by kernel_rfl) ?_
          obtain ⟨e_3, he_3, h⟩ := h
          refine WL.val hn (by rfl) (val_indexO (T := DetCouple.ty) (l := l3_2) (k := 0) ht rfl (by rfl) (by rfl) (by rfl) (by rfl) (by decide) (by rfl) (by rfl) (by rfl) he_3) (by rfl) ?_
          refine WL.val hn (by rfl) (val_loadO (T := DetCouple.ty) (l := l3_2) (y := e_3) ht rfl (by rfl) (by rfl) (by rfl) (by rfl) (by rfl) (idx_some he_3).2.2 (by rfl)) (by rfl) ?_
          refine WL.run ht hn 1 ⟨[sl 1 (I letters), sl 2 (.rd (fvR (fun (x : (DetCouple × Int)) => [.sv (.agg (DetCouple.cl x.1)), .sv (.one (I x.2))]) (fun (r : DetCouple) => .sv (.agg (DetCouple.cl r))) domnxt nxt)), sl 3 (.rd (fvR (fun (x : DetCouple) => [.sv (.agg (DetCouple.cl x))]) (fun (r : Bool) => .sv (.one (B r))) domok ok)), sl 10 (.own 1), sl 11 (.own 3), sl 12 (I x38), sl 37 (I letters), sl 38 (I x38), sl 41 (.rd (fvR (fun (x : (DetCouple × Int)) => [.sv (.agg (DetCouple.cl x.1)), .sv (.one (I x.2))]) (fun (r : DetCouple) => .sv (.agg (DetCouple.cl r))) domnxt nxt)), (44, .sv (.agg (DetCouple.cl e_3))), sl 45 (I x38)], [.gone, mapI DetCouple.enc (lsT intT) m1_2, .gone, rowI 169 DetCouple.ty l3_2]⟩ (by kernel_rfl) ?_
          have hp := h.1
          replace h := h.2
          refine WL.mt0 (K := []) (p := none) hn (by rfl) (mt_callv (e_3, x38) hp rfl (by rfl) (by rfl) (by rfl) (by rfl)) (by rfl) (by rfl) (by rfl) ?_
          refine WL.run ht hn 2 ⟨[sl 1 (I letters), sl 2 (.rd (fvR (fun (x : (DetCouple × Int)) => [.sv (.agg (DetCouple.cl x.1)), .sv (.one (I x.2))]) (fun (r : DetCouple) => .sv (.agg (DetCouple.cl r))) domnxt nxt)), sl 3 (.rd (fvR (fun (x : DetCouple) => [.sv (.agg (DetCouple.cl x))]) (fun (r : Bool) => .sv (.one (B r))) domok ok)), sl 10 (.own 1), sl 11 (.own 3), sl 12 (I x38), sl 13 (.ptr 4 0), sl 37 (I letters), sl 38 (I x38)], [.gone, mapI DetCouple.enc (lsT intT) m1_2, .gone, rowI 169 DetCouple.ty l3_2, .box (DetCouple.cl (nxt (e_3, x38))) 169 false]⟩ (by kernel_rfl) ?_
          refine WL.nil ?_
          refine En.seq ?_
          refine En.region ?_
          refine WL.run ht hn 2 ⟨[sl 1 (I letters), sl 2 (.rd (fvR (fun (x : (DetCouple × Int)) => [.sv (.agg (DetCouple.cl x.1)), .sv (.one (I x.2))]) (fun (r : DetCouple) => .sv (.agg (DetCouple.cl r))) domnxt nxt)), sl 3 (.rd (fvR (fun (x : DetCouple) => [.sv (.agg (DetCouple.cl x))]) (fun (r : Bool) => .sv (.one (B r))) domok ok)), sl 10 (.own 1), sl 11 (.own 3), sl 12 (I x38), sl 13 (.ptr 4 0), sl 37 (I letters), sl 38 (I x38), sl 48 (.own 1), (49, .sv (.agg (DetCouple.cl (nxt (e_3, x38)))))], [.gone, mapI DetCouple.enc (lsT intT) m1_2, .gone, rowI 169 DetCouple.ty l3_2, .box (DetCouple.cl (nxt (e_3, x38))) 169 false]⟩ (by kernel_rfl) ?_
          refine WL.val hn (by rfl) (val_lookup (T := (lsT intT)) (D := m1_2) DetCouple.keyLaw (k := (nxt (e_3, x38))) (ok := true) [] (zv := (.slice none 0 0)) rfl Try.underlying280 (fun _ => by kernel_rfl) (fun _ => ls_nil) (mapAs DetCouple.enc (lsT intT) m1_2) (by rfl) (by rfl) (by rfl) (fun _ => rfl)) (by rfl) ?_
          refine WL.run ht hn 5 ⟨[sl 1 (I letters), sl 2 (.rd (fvR (fun (x : (DetCouple × Int)) => [.sv (.agg (DetCouple.cl x.1)), .sv (.one (I x.2))]) (fun (r : DetCouple) => .sv (.agg (DetCouple.cl r))) domnxt nxt)), sl 3 (.rd (fvR (fun (x : DetCouple) => [.sv (.agg (DetCouple.cl x))]) (fun (r : Bool) => .sv (.one (B r))) domok ok)), sl 10 (.own 1), sl 11 (.own 3), sl 12 (I x38), sl 13 (.ptr 4 0), sl 15 (B (mget (nxt (e_3, x38)) m1_2).isSome), sl 37 (I letters), sl 38 (I x38)], [.gone, mapI DetCouple.enc (lsT intT) m1_2, .gone, rowI 169 DetCouple.ty l3_2, .box (DetCouple.cl (nxt (e_3, x38))) 169 false]⟩ (by kernel_rfl) ?_
          refine WL.nil ?_
          refine En.seq ?_
          refine En.region ?_
          refine WL.run ht hn 2 ⟨[sl 1 (I letters), sl 2 (.rd (fvR (fun (x : (DetCouple × Int)) => [.sv (.agg (DetCouple.cl x.1)), .sv (.one (I x.2))]) (fun (r : DetCouple) => .sv (.agg (DetCouple.cl r))) domnxt nxt)), sl 3 (.rd (fvR (fun (x : DetCouple) => [.sv (.agg (DetCouple.cl x))]) (fun (r : Bool) => .sv (.one (B r))) domok ok)), sl 10 (.own 1), sl 11 (.own 3), sl 12 (I x38), sl 13 (.ptr 4 0), sl 37 (I letters), sl 38 (I x38), sl 54 (B (!(mget (nxt (e_3, x38)) m1_2).isSome))], [.gone, mapI DetCouple.enc (lsT intT) m1_2, .gone, rowI 169 DetCouple.ty l3_2, .box (DetCouple.cl (nxt (e_3, x38))) 169 false]⟩ (by kernel_rfl) ?_
          refine WL.nil ?_
          refine En.cond (b := (!(mget (nxt (e_3, x38)) m1_2).isSome)) (by kernel_rfl) (fun hb => ?_) (fun hb => ?_)
          · replace h := h.1 hb
            refine En.seq ?_
            obtain ⟨e_4, he_4, h⟩ := h
            have hp_2 := h.1
            replace h := h.2
            have hp_3 := h.1
            replace h := h.2
            refine En.regionA ⟨[sl 1 (I letters), sl 2 (.rd (fvR (fun (x : (DetCouple × Int)) => [.sv (.agg (DetCouple.cl x.1)), .sv (.one (I x.2))]) (fun (r : DetCouple) => .sv (.agg (DetCouple.cl r))) domnxt nxt)), sl 3 (.rd (fvR (fun (x : DetCouple) => [.sv (.agg (DetCouple.cl x))]) (fun (r : Bool) => .sv (.one (B r))) domok ok)), sl 10 (.own 1), sl 11 (.own 3), sl 12 (I x38), sl 13 (.ptr 4 0), sl 37 (I letters), sl 38 (I x38)], [.sv (.one (.own 1)), .sv (.agg (DetCouple.cl (nxt (e_3, x38)))), .sv (.one (.own 1)), .sv (.one (.own 3)), .sv (.one (.oe 3 ((0 : Int).toNat) 2)), .sv (.agg (DetCouple.cl e_4)), .sv (.one (LS intT ((mget e_4 m1_2).getD []))), .sv (.one (.own 5)), .sv (.one (I x38)), .sv (.one (LS intT ([x38] : (List Int)))), .sv (.one (LS intT ((((mget e_4 m1_2).getD [])) ++ ([x38] : (List Int))))), .tup []], [⟨.gone, none, none, none⟩, ⟨mapI DetCouple.enc (lsT intT) m1_2, none, none, some (11, mapI DetCouple.enc (lsT intT) (mput (nxt (e_3, x38)) ((((mget e_4 m1_2).getD [])) ++ ([x38] : (List Int))) m1_2))⟩, ⟨.gone, none, none, none⟩, ⟨rowI 169 DetCouple.ty l3_2, none, none, none⟩, ⟨.box (DetCouple.cl (nxt (e_3, x38))) 169 false, none, none, none⟩, ⟨rowI 3 intT (((mget e_4 m1_2).getD [])), some 7, some 10, none⟩]⟩ ⟨[sl 1 (I letters), sl 2 (.rd (fvR (fun (x : (DetCouple × Int)) => [.sv (.agg (DetCouple.cl x.1)), .sv (.one (I x.2))]) (fun (r : DetCouple) => .sv (.agg (DetCouple.cl r))) domnxt nxt)), sl 3 (.rd (fvR (fun (x : DetCouple) => [.sv (.agg (DetCouple.cl x))]) (fun (r : Bool) => .sv (.one (B r))) domok ok)), sl 10 (.own 1), sl 11 (.own 3), sl 13 (.ptr 4 0), sl 37 (I letters), sl 38 (I x38)], [.gone, mapI DetCouple.enc (lsT intT) (mput (nxt (e_3, x38)) ((((mget e_4 m1_2).getD [])) ++ ([x38] : (List Int))) m1_2), .gone, rowI 169 DetCouple.ty l3_2, .box (DetCouple.cl (nxt (e_3, x38))) 169 false, .gone]⟩ (by kernel_rfl) hn (by kernel_rfl) (by rfl) (by kernel_rfl) ?_ (by kernel_rfl) ?_
            · exact ⟨.mt ⟨[sl 10 (.own 1)], []⟩ [] none (by kernel_rfl) (by rfl) (mt_ev ht (by kernel_rfl)) rfl rfl rfl rfl,
    .mt ⟨[sl 13 (.ptr 4 0)], [.gone, .gone, .gone, .gone, .box (DetCouple.cl (nxt (e_3, x38))) 169 false]⟩ [] none (by kernel_rfl) (by rfl) (mt_ev ht (by kernel_rfl)) rfl rfl rfl rfl,
    .mt ⟨[sl 10 (.own 1)], []⟩ [] none (by kernel_rfl) (by rfl) (mt_ev ht (by kernel_rfl)) rfl rfl rfl rfl,
    .mt ⟨[sl 11 (.own 3)], []⟩ [] none (by kernel_rfl) (by rfl) (mt_ev ht (by kernel_rfl)) rfl rfl rfl rfl,
    .mt ⟨[sl 58 (.own 3)], [.gone, .gone, .gone, rowI 169 DetCouple.ty l3_2]⟩ [] none (by kernel_rfl) (by rfl) (mt_val (val_indexO (T := DetCouple.ty) (l := l3_2) (k := 0) ht rfl (by rfl) (by rfl) (by rfl) (by rfl) (by decide) (by rfl) (by rfl) (by rfl) he_4)) rfl rfl rfl rfl,
    .mt ⟨[sl 59 (.oe 3 ((0 : Int).toNat) 2)], [.gone, .gone, .gone, rowI 169 DetCouple.ty l3_2]⟩ [] none (by kernel_rfl) (by rfl) (mt_val (val_loadO (T := DetCouple.ty) (l := l3_2) (y := e_4) ht rfl (by rfl) (by rfl) (by rfl) (by rfl) (by rfl) (idx_some he_4).2.2 (by rfl))) rfl rfl rfl rfl,
    .mt ⟨[sl 57 (.own 1), (60, .sv (.agg (DetCouple.cl e_4)))], [.gone, mapI DetCouple.enc (lsT intT) m1_2]⟩ [] none (by kernel_rfl) (by rfl) (mt_val (val_lookup (T := (lsT intT)) (D := m1_2) DetCouple.keyLaw (k := e_4) (ok := false) [] (zv := (.slice none 0 0)) rfl Try.underlying280 (fun _ => by kernel_rfl) (fun _ => ls_nil) (mapAs DetCouple.enc (lsT intT) m1_2) (by rfl) (by rfl) (by rfl) (fun _ => rfl))) rfl rfl rfl rfl,
    .mt ⟨[sl 61 (LS intT ((mget e_4 m1_2).getD []))], []⟩ [] (some 5) (by kernel_rfl) (by rfl) (mt_callI 5 (cloneInt_ct ((mget e_4 m1_2).getD []) hp_2) en49 (caps := []) [] rfl rfl (by rfl) (by kernel_rfl) (by kernel_rfl) (by rfl) (by rfl)) rfl rfl rfl rfl,
    .mt ⟨[sl 12 (I x38)], []⟩ [] none (by kernel_rfl) (by rfl) (mt_ev ht (by kernel_rfl)) rfl rfl rfl rfl,
    .mt ⟨[sl 63 (I x38)], []⟩ [] none (by kernel_rfl) (by rfl) (mt_seal (q := 6) (e := 3) (mt_lit (T := intT) ([x38] : (List Int)) (mt_bsl 6 (r := cellsOf intT ([x38] : (List Int))) ht rfl (by rfl) (by rfl) (by rfl) (by kernel_rfl) (by rfl)) (fun _ h => by cases h) (fun _ => rfl) (fun _ => rfl) (by rfl) (Nat.le_of_ble_eq_true rfl))) rfl rfl rfl rfl,
    .mt ⟨[sl 62 (.own 5), sl 64 (LS intT ([x38] : (List Int)))], [.gone, .gone, .gone, .gone, .gone, rowI 3 intT (((mget e_4 m1_2).getD []))]⟩ [5] none (by kernel_rfl) (by rfl) (mt_seal (q := 6) (e := 3) (mt_append (T := intT) (l := (((mget e_4 m1_2).getD []))) (es := ([x38] : (List Int))) (p := 6) ht rfl (by rfl) (by rfl) (by rfl) (by rfl) (by decide) (by rfl) (by rfl) (srcLS (T := intT) (es := ([x38] : (List Int))) (fun _ h => by cases h) (by decide) (by rfl)) (by exact hp_3) (by exact hp_3.le (by decide)))) rfl rfl rfl rfl,
    .mu ⟨[sl 55 (.own 1), (56, .sv (.agg (DetCouple.cl (nxt (e_3, x38))))), sl 65 (LS intT ((((mget e_4 m1_2).getD [])) ++ ([x38] : (List Int))))], [.gone, mapI DetCouple.enc (lsT intT) m1_2]⟩ 1 _ _ rfl rfl (by kernel_rfl) (by rfl) (mu_mapPut (T := (lsT intT)) DetCouple.keyLaw (k := (nxt (e_3, x38))) (y := ((((mget e_4 m1_2).getD [])) ++ ([x38] : (List Int)))) (.inl rfl) Try.underlying280 (by rfl) (by rfl) (by rfl) (by rfl) (by rfl)) rfl rfl rfl rfl rfl rfl rfl,
    trivial⟩
            · refine En.region ?_
              refine WL.run ht hn 2 ⟨[sl 1 (I letters), sl 2 (.rd (fvR (fun (x : (DetCouple × Int)) => [.sv (.agg (DetCouple.cl x.1)), .sv (.one (I x.2))]) (fun (r : DetCouple) => .sv (.agg (DetCouple.cl r))) domnxt nxt)), sl 3 (.rd (fvR (fun (x : DetCouple) => [.sv (.agg (DetCouple.cl x))]) (fun (r : Bool) => .sv (.one (B r))) domok ok)), sl 10 (.own 1), sl 37 (I letters), sl 38 (I x38), sl 66 (.own 3), (67, .sv (.agg (DetCouple.cl (nxt (e_3, x38)))))], [.gone, mapI DetCouple.enc (lsT intT) (mput (nxt (e_3, x38)) ((((mget e_4 m1_2).getD [])) ++ ([x38] : (List Int))) m1_2), .gone, rowI 169 DetCouple.ty l3_2, .gone, .gone]⟩ (by kernel_rfl) ?_
              refine WL.mt0 (K := []) (p := some (6, rowI 169 DetCouple.ty ([(nxt (e_3, x38))] : (List DetCouple)))) hn (by rfl) (mt_lit (T := DetCouple.ty) ([(nxt (e_3, x38))] : (List DetCouple)) (mt_bsl 6 (r := cellsOf DetCouple.ty ([(nxt (e_3, x38))] : (List DetCouple))) ht rfl (by rfl) (by rfl) (by rfl) (by kernel_rfl) (by rfl)) (fun _ h => by cases h) (fun _ => rfl) (fun _ => rfl) (by rfl) (Nat.le_of_ble_eq_true rfl)) (by rfl) (by rfl) (by rfl) ?_
              refine WL.seal (T := DetCouple.ty) (l := ([(nxt (e_3, x38))] : (List DetCouple))) (e := 169) 6 rfl ?_
              refine WL.run ht hn 0 ⟨[sl 1 (I letters), sl 2 (.rd (fvR (fun (x : (DetCouple × Int)) => [.sv (.agg (DetCouple.cl x.1)), .sv (.one (I x.2))]) (fun (r : DetCouple) => .sv (.agg (DetCouple.cl r))) domnxt nxt)), sl 3 (.rd (fvR (fun (x : DetCouple) => [.sv (.agg (DetCouple.cl x))]) (fun (r : Bool) => .sv (.one (B r))) domok ok)), sl 10 (.own 1), sl 37 (I letters), sl 38 (I x38), sl 66 (.own 3), (67, .sv (.agg (DetCouple.cl (nxt (e_3, x38))))), sl 68 (LS DetCouple.ty ([(nxt (e_3, x38))] : (List DetCouple)))], [.gone, mapI DetCouple.enc (lsT intT) (mput (nxt (e_3, x38)) ((((mget e_4 m1_2).getD [])) ++ ([x38] : (List Int))) m1_2), .gone, rowI 169 DetCouple.ty l3_2, .gone, .gone, .gone]⟩ (by kernel_rfl) ?_
              have hp := h.1
              replace h := h.2
              refine WL.mt (S2 := ⟨[sl 1 (I letters), sl 2 (.rd (fvR (fun (x : (DetCouple × Int)) => [.sv (.agg (DetCouple.cl x.1)), .sv (.one (I x.2))]) (fun (r : DetCouple) => .sv (.agg (DetCouple.cl r))) domnxt nxt)), sl 3 (.rd (fvR (fun (x : DetCouple) => [.sv (.agg (DetCouple.cl x))]) (fun (r : Bool) => .sv (.one (B r))) domok ok)), sl 10 (.own 1), sl 37 (I letters), sl 38 (I x38), (67, .sv (.agg (DetCouple.cl (nxt (e_3, x38))))), sl 68 (LS DetCouple.ty ([(nxt (e_3, x38))] : (List DetCouple)))], [.gone, mapI DetCouple.enc (lsT intT) (mput (nxt (e_3, x38)) ((((mget e_4 m1_2).getD [])) ++ ([x38] : (List Int))) m1_2), .gone, rowI 169 DetCouple.ty l3_2, .gone, .gone, .gone]⟩) (K := [3]) (p := some (3, rowI 169 DetCouple.ty (l3_2 ++ ([(nxt (e_3, x38))] : (List DetCouple))))) hn (by rfl) (mt_append (T := DetCouple.ty) (l := l3_2) (es := ([(nxt (e_3, x38))] : (List DetCouple))) ht rfl (by rfl) (by rfl) (by rfl) (by rfl) (by decide) (by rfl) (by rfl) (srcLS (T := DetCouple.ty) (es := ([(nxt (e_3, x38))] : (List DetCouple))) (fun _ h => by cases h) (by decide) (by rfl)) (by exact hp) (by exact hp.le (by decide))) (by kernel_rfl) (by rfl) (by rfl) (by rfl) ?_
              refine WL.run ht hn 1 ⟨[sl 1 (I letters), sl 2 (.rd (fvR (fun (x : (DetCouple × Int)) => [.sv (.agg (DetCouple.cl x.1)), .sv (.one (I x.2))]) (fun (r : DetCouple) => .sv (.agg (DetCouple.cl r))) domnxt nxt)), sl 3 (.rd (fvR (fun (x : DetCouple) => [.sv (.agg (DetCouple.cl x))]) (fun (r : Bool) => .sv (.one (B r))) domok ok)), sl 10 (.own 1), sl 11 (.own 3), sl 37 (I letters), sl 38 (I x38)], [.gone, mapI DetCouple.enc (lsT intT) (mput (nxt (e_3, x38)) ((((mget e_4 m1_2).getD [])) ++ ([x38] : (List Int))) m1_2), .gone, rowI 169 DetCouple.ty (l3_2 ++ ([(nxt (e_3, x38))] : (List DetCouple))), .gone, .gone, .gone]⟩ (by kernel_rfl) ?_
              refine WL.nil ?_
              exact En.at (I := fun zz => J zz.1 zz.2) (T := fun zz => ⟨[sl 1 (I letters), sl 2 (.rd (fvR (fun (x : (DetCouple × Int)) => [.sv (.agg (DetCouple.cl x.1)), .sv (.one (I x.2))]) (fun (r : DetCouple) => .sv (.agg (DetCouple.cl r))) domnxt nxt)), sl 3 (.rd (fvR (fun (x : DetCouple) => [.sv (.agg (DetCouple.cl x))]) (fun (r : Bool) => .sv (.one (B r))) domok ok)), sl 10 (.own 1), sl 11 (.own 3), sl 37 (I letters), sl 38 (I x38)], [.gone, mapI DetCouple.enc (lsT intT) zz.1, .gone, rowI 169 DetCouple.ty zz.2, .gone]⟩) ((mput (nxt (e_3, x38)) ((((mget e_4 m1_2).getD [])) ++ ([x38] : (List Int))) m1_2), (l3_2 ++ ([(nxt (e_3, x38))] : (List DetCouple)))) h (by kernel_rfl)
          · replace h := h.2 hb
            refine En.skip ?_
            exact En.at (I := fun zz => J zz.1 zz.2) (T := fun zz => ⟨[sl 1 (I letters), sl 2 (.rd (fvR (fun (x : (DetCouple × Int)) => [.sv (.agg (DetCouple.cl x.1)), .sv (.one (I x.2))]) (fun (r : DetCouple) => .sv (.agg (DetCouple.cl r))) domnxt nxt)), sl 3 (.rd (fvR (fun (x : DetCouple) => [.sv (.agg (DetCouple.cl x))]) (fun (r : Bool) => .sv (.one (B r))) domok ok)), sl 10 (.own 1), sl 11 (.own 3), sl 37 (I letters), sl 38 (I x38)], [.gone, mapI DetCouple.enc (lsT intT) zz.1, .gone, rowI 169 DetCouple.ty zz.2, .gone]⟩) (m1_2, l3_2) h (by kernel_rfl)
        · rintro ⟨m1_3, l3_3⟩ h
          replace h := hJ _ _ h
          show En c ⟨[sl 1 (I letters), sl 2 (.rd (fvR (fun (x : (DetCouple × Int)) => [.sv (.agg (DetCouple.cl x.1)), .sv (.one (I x.2))]) (fun (r : DetCouple) => .sv (.agg (DetCouple.cl r))) domnxt nxt)), sl 3 (.rd (fvR (fun (x : DetCouple) => [.sv (.agg (DetCouple.cl x))]) (fun (r : Bool) => .sv (.one (B r))) domok ok)), sl 10 (.own 1), sl 11 (.own 3), sl 37 (I letters), sl 38 (I x38)], [.gone, mapI DetCouple.enc (lsT intT) m1_3, .gone, rowI 169 DetCouple.ty l3_3, .gone]⟩ _
          refine En.region ?_
          refine WL.run ht hn 2 ⟨[sl 1 (I letters), sl 2 (.rd (fvR (fun (x : (DetCouple × Int)) => [.sv (.agg (DetCouple.cl x.1)), .sv (.one (I x.2))]) (fun (r : DetCouple) => .sv (.agg (DetCouple.cl r))) domnxt nxt)), sl 3 (.rd (fvR (fun (x : DetCouple) => [.sv (.agg (DetCouple.cl x))]) (fun (r : Bool) => .sv (.one (B r))) domok ok)), sl 10 (.own 1), sl 11 (.own 3), sl 37 (I letters), sl 38 (I (wr (x38 + 1)))], [.gone, mapI DetCouple.enc (lsT intT) m1_3, .gone, rowI 169 DetCouple.ty l3_3, .gone]⟩ (by kernel_rfl) ?_
          refine WL.nil ?_
          exact En.at (I := fun zz => Inv_2 zz.1 zz.2.1 zz.2.2 ∧ mu_2 zz.1 zz.2.1 zz.2.2 < mu_2 x38 m1_2 l3_2) (T := fun zz => ⟨[sl 1 (I letters), sl 2 (.rd (fvR (fun (x : (DetCouple × Int)) => [.sv (.agg (DetCouple.cl x.1)), .sv (.one (I x.2))]) (fun (r : DetCouple) => .sv (.agg (DetCouple.cl r))) domnxt nxt)), sl 3 (.rd (fvR (fun (x : DetCouple) => [.sv (.agg (DetCouple.cl x))]) (fun (r : Bool) => .sv (.one (B r))) domok ok)), sl 10 (.own 1), sl 11 (.own 3), sl 37 (I letters), sl 38 (I zz.1)], [.gone, mapI DetCouple.enc (lsT intT) zz.2.1, .gone, rowI 169 DetCouple.ty zz.2.2]⟩) ((wr (x38 + 1)), m1_3, l3_3) h (by kernel_rfl)
      · replace h := h.2 hb
        refine En.exit rfl ?_
        refine En.region ?_
        refine WL.run ht hn 1 ⟨[sl 1 (I letters), sl 2 (.rd (fvR (fun (x : (DetCouple × Int)) => [.sv (.agg (DetCouple.cl x.1)), .sv (.one (I x.2))]) (fun (r : DetCouple) => .sv (.agg (DetCouple.cl r))) domnxt nxt)), sl 3 (.rd (fvR (fun (x : DetCouple) => [.sv (.agg (DetCouple.cl x))]) (fun (r : Bool) => .sv (.one (B r))) domok ok)), sl 10 (.own 1), sl 25 (.own 3)], [.gone, mapI DetCouple.enc (lsT intT) m1_2, .gone, rowI 169 DetCouple.ty l3_2]⟩ (by kernel_rfl) ?_
        have hp_4 := h.1
        replace h := h.2
        refine WL.mt (S2 := ⟨[sl 1 (I letters), sl 2 (.rd (fvR (fun (x : (DetCouple × Int)) => [.sv (.agg (DetCouple.cl x.1)), .sv (.one (I x.2))]) (fun (r : DetCouple) => .sv (.agg (DetCouple.cl r))) domnxt nxt)), sl 3 (.rd (fvR (fun (x : DetCouple) => [.sv (.agg (DetCouple.cl x))]) (fun (r : Bool) => .sv (.one (B r))) domok ok)), sl 10 (.own 1)], [.gone, mapI DetCouple.enc (lsT intT) m1_2, .gone, rowI 169 DetCouple.ty l3_2]⟩) (K := [3]) (p := some (3, rowI 169 DetCouple.ty (l3_2.drop (1 : Int).toNat))) hn (by rfl) (mt_sliceF (T := DetCouple.ty) (l := l3_2) (p := 3) (lv := 1) ht rfl (by rfl) (by rfl) (by rfl) (by rfl) (by rfl) (by rfl) (by rfl) hp_4) (by kernel_rfl) (by rfl) (by rfl) (by rfl) ?_
        refine WL.run ht hn 1 ⟨[sl 1 (I letters), sl 2 (.rd (fvR (fun (x : (DetCouple × Int)) => [.sv (.agg (DetCouple.cl x.1)), .sv (.one (I x.2))]) (fun (r : DetCouple) => .sv (.agg (DetCouple.cl r))) domnxt nxt)), sl 3 (.rd (fvR (fun (x : DetCouple) => [.sv (.agg (DetCouple.cl x))]) (fun (r : Bool) => .sv (.one (B r))) domok ok)), sl 10 (.own 1), sl 11 (.own 3)], [.gone, mapI DetCouple.enc (lsT intT) m1_2, .gone, rowI 169 DetCouple.ty (l3_2.drop (1 : Int).toNat)]⟩ (by kernel_rfl) ?_
        refine WL.nil ?_
        exact En.at (I := fun zz => Inv zz.1 zz.2 ∧ mu zz.1 zz.2 < mu m1 l3) (T := fun zz => ⟨[sl 1 (I letters), sl 2 (.rd (fvR (fun (x : (DetCouple × Int)) => [.sv (.agg (DetCouple.cl x.1)), .sv (.one (I x.2))]) (fun (r : DetCouple) => .sv (.agg (DetCouple.cl r))) domnxt nxt)), sl 3 (.rd (fvR (fun (x : DetCouple) => [.sv (.agg (DetCouple.cl x))]) (fun (r : Bool) => .sv (.one (B r))) domok ok)), sl 10 (.own 1), sl 11 (.own 3)], [.gone, mapI DetCouple.enc (lsT intT) zz.1, .gone, rowI 169 DetCouple.ty zz.2]⟩) (m1_2, (l3_2.drop (1 : Int).toNat)) h (by kernel_rfl)
  · replace h := h.2 hb
    refine En.exit rfl ?_
    refine En.seq ?_
    refine En.region ?_
    refine WL.run ht hn 2 ⟨[sl 8 (.v (.slice none 0 0)), sl 9 (B false)], [.gone, .gone, .gone, .gone]⟩ (by kernel_rfl) ?_
    refine WL.nil ?_
    refine En.ret ?_
    refine En.nilLS 8 intT (by rfl) ?_
    exact En.back ht ([], false) h (by kernel_rfl) rfl
theorem en83 : ∀ args w, (callFunc 83 args).run Try.prog w = .ok (.enter 83 args) w := enters_of Try.func83 (by kernel_rfl) rfl
def difB (x y : ApiDet) (k : DetCouple) : Bool := (idx x.fMark k.fE0).getD 0 != (idx y.fMark k.fE1).getD 0
def difDom (x y : ApiDet) (k : DetCouple) : Prop := (idx x.fMark k.fE0).isSome = true ∧ (idx y.fMark k.fE1).isSome = true
theorem difGo_ct (k : DetCouple) (a : Int) (x : ApiDet) (y : ApiDet) (hd : False)  : Ct 84 [.sv (.agg [I k.fE0, I k.fE1]), .sv (.one (I a)), .sv (.one (.ptr 0 0)), .sv (.one (.ptr 1 0))] [.box [I x.fLetters, I x.fStart, LS (lsT intT) x.fNext, LS intT x.fMark] 73 true, .box [I y.fLetters, I y.fStart, LS (lsT intT) y.fNext, LS intT y.fMark] 73 true] (fun (_ : Unit) => True) (fun _ => .sv (.agg [I (k).fE0, I (k).fE1])) := by
  refine (difGo_walk k a x y (fun res_ => res_ = (k)) ?_).fun
  exact hd.elim
theorem difOk_ct (k : DetCouple) (x : ApiDet) (y : ApiDet) (hd : difDom x y k)  : Ct 85 [.sv (.agg [I k.fE0, I k.fE1]), .sv (.one (.ptr 0 0)), .sv (.one (.ptr 1 0))] [.box [I x.fLetters, I x.fStart, LS (lsT intT) x.fNext, LS intT x.fMark] 73 true, .box [I y.fLetters, I y.fStart, LS (lsT intT) y.fNext, LS intT y.fMark] 73 true] (fun (_ : Unit) => True) (fun _ => .sv (.one (B (difB x y k)))) := by
  refine (difOk_walk k x y (fun res_ => res_ = (difB x y k)) ?_).fun
  obtain ⟨a, ha⟩ := Option.isSome_iff_exists.1 hd.1
  obtain ⟨b, hb⟩ := Option.isSome_iff_exists.1 hd.2
  unfold difOk_vc difB
  rw [ha, hb]
  exact ⟨a, rfl, b, rfl, rfl⟩
theorem detSeeks_ct (first : DetCouple) (letters : Int) (domnxt : ((DetCouple × Int) → Prop)) (nxt : ((DetCouple × Int) → DetCouple)) (domok : (DetCouple → Prop)) (ok : (DetCouple → Bool)) (hp : domok first ∧ ok first = true)  : Ct 83 [.sv (.agg [I first.fE0, I first.fE1]), .sv (.one (I letters)), .sv (.one (.rd (fvR (fun (x : (DetCouple × Int)) => [.sv (.agg [I x.1.fE0, I x.1.fE1]), .sv (.one (I x.2))]) (fun (r : DetCouple) => .sv (.agg [I r.fE0, I r.fE1])) domnxt nxt))), .sv (.one (.rd (fvR (fun (x : DetCouple) => [.sv (.agg [I x.fE0, I x.fE1])]) (fun (r : Bool) => .sv (.one (B r))) domok ok)))] [] (fun (_ : Unit) => True) (fun _ => .tup [.one (LS intT ((([] : List Int), true)).1), .one (B ((([] : List Int), true)).2)]) := by
  refine (detSeeks_walk first letters domnxt nxt domok ok (fun res_ => res_ = ((([] : List Int), true))) ?_).fun
  unfold detSeeks_vc
  refine ⟨fun m l => m = mput first ([] : List Int) [] ∧ l = [first], fun _ _ => 0, ⟨rfl, rfl⟩, ?_⟩
  rintro _ _ ⟨rfl, rfl⟩
  refine ⟨fun _ => ⟨first, rfl, hp.1, fun _ => ⟨first, rfl, ?_⟩, fun hb => ?_⟩, fun hb => ?_⟩
  · show ((mget first (mput first [] [])).getD [], true) = ([], true)
    have : (mget first (mput first ([] : List Int) [])).getD [] = [] := by
      unfold mget mput
      simp
    rw [this]
  · rw [hp.2] at hb
    cases hb
  · exact absurd (of_decide_eq_false hb) (by simp)
def detDiffer_vc (x : ApiDet) (y : ApiDet) (Q : ((List Int) × Bool × Int) → Prop) : Prop :=
  x.fNext.length ≤ 9223372036854775807 →
  x.fMark.length ≤ 9223372036854775807 →
  y.fNext.length ≤ 9223372036854775807 →
  y.fMark.length ≤ 9223372036854775807 →
  (IfP ((twoErr x y) != 0) (Q ([], false, (twoErr x y))) ((((difDom x y) (DetCouple.mk x.fStart y.fStart)) ∧ (difB x y) (DetCouple.mk x.fStart y.fStart) = true) ∧
  Q (((([] : List Int), true)).1, ((([] : List Int), true)).2, 0)))
theorem detDiffer_walk (x : ApiDet) (y : ApiDet) (Q : ((List Int) × Bool × Int) → Prop) (h : detDiffer_vc x y Q) : Ct 32 [.sv (.agg [I x.fLetters, I x.fStart, LS (lsT intT) x.fNext, LS intT x.fMark]), .sv (.agg [I y.fLetters, I y.fStart, LS (lsT intT) y.fNext, LS intT y.fMark])] [] Q (fun (r : ((List Int) × Bool × Int)) => .tup [.one (LS intT r.1), .one (B r.2.1), .one (I r.2.2)]) := by
 have ht := tab_ok
 refine Ct.body Try.func32 rfl rfl rfl rfl (fun c hn => ?_)
 unfold detDiffer_vc at h
 refine En.lenA 0 2 (by rfl) (by rfl) (fun hl => ?_)
 replace h := h hl
 clear hl
 refine En.lenA 0 3 (by rfl) (by rfl) (fun hl => ?_)
 replace h := h hl
 clear hl
 refine En.lenA 1 2 (by rfl) (by rfl) (fun hl => ?_)
 replace h := h hl
 clear hl
 refine En.lenA 1 3 (by rfl) (by rfl) (fun hl => ?_)
 replace h := h hl
 clear hl
 refine En.seq ?_
 refine En.region ?_
 refine WL.run ht hn 5 ⟨[sl 2 (.ptr 0 0), sl 3 (.ptr 1 0)], [.box (ApiDet.cl x) 73 false, .box (ApiDet.cl y) 73 false]⟩ (by kernel_rfl) ?_
 refine WL.nil ?_
 refine En.seq ?_
 refine En.seq ?_
 refine En.region ?_
 refine WL.run ht hn 2 ⟨[sl 2 (.ptr 0 0), sl 3 (.ptr 1 0), (10, .sv (.agg (ApiDet.cl x))), (11, .sv (.agg (ApiDet.cl y)))], [.box (ApiDet.cl x) 73 false, .box (ApiDet.cl y) 73 false]⟩ (by kernel_rfl) ?_
 refine WL.mt0 (K := []) (p := none) hn (by rfl) (mt_call (detTwo_ct x y) en78 (caps := []) [] rfl (by rfl) (by kernel_rfl) (by kernel_rfl) (by rfl) (by rfl) (by rfl)) (by rfl) (by rfl) (by rfl) ?_
 refine WL.run ht hn 1 ⟨[sl 2 (.ptr 0 0), sl 3 (.ptr 1 0), sl 7 (I (twoErr x y))], [.box (ApiDet.cl x) 73 false, .box (ApiDet.cl y) 73 false]⟩ (by kernel_rfl) ?_
 refine WL.nil ?_
 refine En.seq ?_
 refine En.region ?_
 refine WL.run ht hn 2 ⟨[sl 2 (.ptr 0 0), sl 3 (.ptr 1 0), sl 7 (I (twoErr x y)), sl 14 (B ((twoErr x y) != 0))], [.box (ApiDet.cl x) 73 false, .box (ApiDet.cl y) 73 false]⟩ (by kernel_rfl) ?_
 refine WL.nil ?_
 refine En.cond (b := ((twoErr x y) != 0)) (by kernel_rfl) (fun hb => ?_) (fun hb => ?_)
 replace h := h.1 hb
 refine En.seq ?_
 refine En.region ?_
 refine WL.run ht hn 4 ⟨[sl 4 (.v (.slice none 0 0)), sl 5 (B false), sl 6 (I (twoErr x y))], [.gone, .gone]⟩ (by kernel_rfl) ?_
 refine WL.nil ?_
 refine En.ret ?_
 refine En.nilLS 4 intT (by rfl) ?_
 exact En.back ht ([], false, (twoErr x y)) h (by kernel_rfl) rfl
 replace h := h.2 hb
 refine En.skip ?_
 refine En.seq ?_
 refine En.region ?_
 refine WL.run ht hn 9 ⟨[(21, .sv (.agg [I x.fStart, I y.fStart])), sl 23 (I x.fLetters), sl 24 (.fn 84 [0, 1]), sl 25 (.fn 85 [0, 1])], [.box (ApiDet.cl x) 73 false, .box (ApiDet.cl y) 73 false]⟩ (by kernel_rfl) ?_
 refine WL.freeze [0, 1] (by rfl) ?_
 refine WL.ghost 24 (o1 (.rd (fvR (fun (x_ : (DetCouple × Int)) => [.sv (.agg (DetCouple.cl x_.1)), .sv (.one (I x_.2))]) (fun (r : DetCouple) => .sv (.agg (DetCouple.cl r))) (fun (z : DetCouple × Int) => False) (fun (z : DetCouple × Int) => z.1)))) (by rfl) (fv_of (M := [.box (ApiDet.cl x) 73 true, .box (ApiDet.cl y) 73 true]) (caps := [0, 1]) (fun x_ hx => difGo_ct x_.1 x_.2 x y hx) en84 rfl (by kernel_rfl) (by rfl) (fun _ => rfl)) ?_
 refine WL.ghost 25 (o1 (.rd (fvR (fun (x_ : DetCouple) => [.sv (.agg (DetCouple.cl x_))]) (fun (r : Bool) => .sv (.one (B r))) (difDom x y) (difB x y)))) (by rfl) (fv_of (M := [.box (ApiDet.cl x) 73 true, .box (ApiDet.cl y) 73 true]) (caps := [0, 1]) (fun x_ hx => difOk_ct x_ x y hx) en85 rfl (by kernel_rfl) (by rfl) (fun _ => rfl)) ?_
 have hp := h.1
 replace h := h.2
 refine WL.mt0 (K := []) (p := none) hn (by rfl) (mt_call (detSeeks_ct (DetCouple.mk x.fStart y.fStart) x.fLetters (fun (z : DetCouple × Int) => False) (fun (z : DetCouple × Int) => z.1) (difDom x y) (difB x y) hp) en83 (caps := []) [] rfl (by rfl) (by kernel_rfl) (by kernel_rfl) (by rfl) (by rfl) (by rfl)) (by rfl) (by rfl) (by rfl) ?_
 refine WL.run ht hn 5 ⟨[sl 8 (LS intT ((([] : List Int), true)).1), sl 9 (B ((([] : List Int), true)).2)], [.gone, .gone]⟩ (by kernel_rfl) ?_
 refine WL.nil ?_
 refine En.seq ?_
 refine En.region ?_
 refine WL.run ht hn 5 ⟨[sl 4 (LS intT ((([] : List Int), true)).1), sl 5 (B ((([] : List Int), true)).2), sl 6 (I 0)], [.gone, .gone]⟩ (by kernel_rfl) ?_
 refine WL.nil ?_
 refine En.ret ?_
 exact En.back ht (((([] : List Int), true)).1, ((([] : List Int), true)).2, 0) h (by kernel_rfl) rfl
theorem en32 : ∀ args w, (callFunc 32 args).run Try.prog w = .ok (.enter 32 args) w := enters_of Try.func32 (by kernel_rfl) rfl
theorem detDiffer_ct (x : ApiDet) (y : ApiDet) (hp : twoErr x y = 0 ∧ difDom x y ⟨x.fStart, y.fStart⟩ ∧ difB x y ⟨x.fStart, y.fStart⟩ = true)  : Ct 32 [.sv (.agg [I x.fLetters, I x.fStart, LS (lsT intT) x.fNext, LS intT x.fMark]), .sv (.agg [I y.fLetters, I y.fStart, LS (lsT intT) y.fNext, LS intT y.fMark])] [] (fun (_ : Unit) => True) (fun _ => .tup [.one (LS intT ((([] : List Int), true, (0 : Int))).1), .one (B ((([] : List Int), true, (0 : Int))).2.1), .one (I ((([] : List Int), true, (0 : Int))).2.2)]) := by
  refine (detDiffer_walk x y (fun res_ => res_ = ((([] : List Int), true, (0 : Int)))) ?_).fun
  unfold detDiffer_vc
  obtain ⟨h1, h2, h3⟩ := hp
  intro _ _ _ _
  refine ⟨fun hb => ?_, fun _ => ⟨⟨h2, h3⟩, rfl⟩⟩
  rw [h1] at hb
  cases hb
def sameWords_vc (u : (List Int)) (v : (List Int)) (Q : Bool → Prop) : Prop :=
  u.length ≤ 9223372036854775807 →
  v.length ≤ 9223372036854775807 →
  (IfP ((u.length : Int) != (v.length : Int)) (Q false) (∃ (Inv : Int → Prop) (mu : Int → Nat), Inv 0 ∧
  ∀ (x5 : Int) , Inv x5 → (IfP (decide (x5 < (u.length : Int))) (∃ e, idx u x5 = some e ∧
  ∃ e_2, idx v x5 = some e_2 ∧
  IfP (e != e_2) (Q false) ((Inv (wr (x5 + 1)) ∧ mu (wr (x5 + 1)) < mu x5))) (Q true))))
theorem sameWords_walk (u : (List Int)) (v : (List Int)) (Q : Bool → Prop) (h : sameWords_vc u v Q) : Ct 36 [.sv (.one (LS intT u)), .sv (.one (LS intT v))] [] Q (fun (r : Bool) => .sv (.one (B r))) := by
 have ht := tab_ok
 refine Ct.body Try.func36 rfl rfl rfl rfl (fun c hn => ?_)
 unfold sameWords_vc at h
 refine En.lenL 0 (by rfl) (fun hl => ?_)
 replace h := h hl
 clear hl
 refine En.lenL 1 (by rfl) (fun hl => ?_)
 replace h := h hl
 clear hl
 refine En.seq ?_
 refine En.region ?_
 refine WL.run ht hn 1 ⟨[sl 0 (LS intT u), sl 1 (LS intT v)], []⟩ (by kernel_rfl) ?_
 refine WL.nil ?_
 refine En.seq ?_
 refine En.seq ?_
 refine En.region ?_
 refine WL.run ht hn 5 ⟨[sl 0 (LS intT u), sl 1 (LS intT v), sl 10 (B ((u.length : Int) != (v.length : Int)))], []⟩ (by kernel_rfl) ?_
 refine WL.nil ?_
 refine En.cond (b := ((u.length : Int) != (v.length : Int))) (by kernel_rfl) (fun hb => ?_) (fun hb => ?_)
 replace h := h.1 hb
 refine En.seq ?_
 refine En.region ?_
 refine WL.run ht hn 1 ⟨[sl 4 (B false)], []⟩ (by kernel_rfl) ?_
 refine WL.nil ?_
 refine En.ret ?_
 exact En.back ht false h (by kernel_rfl) rfl
 replace h := h.2 hb
 refine En.skip ?_
 refine En.seq ?_
 refine En.seq ?_
 refine En.region ?_
 refine WL.run ht hn 1 ⟨[sl 0 (LS intT u), sl 1 (LS intT v), sl 5 (I 0)], []⟩ (by kernel_rfl) ?_
 refine WL.nil ?_
 refine En.block ?_
 obtain ⟨Inv, mu, h0, hI⟩ := h
 refine En.loop (σ := Int) (fun zz => Inv zz) (fun zz => mu zz) (fun zz => ⟨[sl 0 (LS intT u), sl 1 (LS intT v), sl 5 (I zz)], []⟩) 0 h0 (sub_ok (by kernel_rfl)) ?_
 intro x5 h
 replace h := hI _ h
 show En c ⟨[sl 0 (LS intT u), sl 1 (LS intT v), sl 5 (I x5)], []⟩ _
 refine En.seq ?_
 refine En.seq ?_
 refine En.region ?_
 refine WL.run ht hn 4 ⟨[sl 0 (LS intT u), sl 1 (LS intT v), sl 5 (I x5), sl 14 (B (decide (x5 < (u.length : Int))))], []⟩ (by kernel_rfl) ?_
 refine WL.nil ?_
 refine En.cond (b := (decide (x5 < (u.length : Int)))) (by kernel_rfl) (fun hb => ?_) (fun hb => ?_)
 replace h := h.1 hb
 refine En.skip ?_
 refine En.seq ?_
 refine En.block ?_
 refine En.seq ?_
 refine En.regionS (by kernel_rfl) (by kernel_rfl) ?_
 refine SL.run ht hn 2 ⟨[sl 0 (LS intT u), sl 1 (LS intT v), sl 5 (I x5), sl 17 (LS intT u), sl 18 (I x5)], []⟩ (by kernel_rfl) ?_
 obtain ⟨e, he, h⟩ := h
 refine SL.val hn (by rfl) (val_index (T := intT) (l := u) (i := x5) ht rfl (by rfl) (by rfl) (by rfl) (by rfl) (by rfl) (by rfl) he) (by rfl) ?_
 refine SL.val hn (by rfl) (val_load (s := .one (I e)) ht rfl (by rfl) (by rfl) (by rfl) (by rfl) (by rfl)) (by rfl) ?_
 refine SL.run ht hn 2 ⟨[sl 0 (LS intT u), sl 1 (LS intT v), sl 5 (I x5), sl 17 (LS intT u), sl 18 (I x5), sl 19 (.pe (svR (.one (I e))) 1), sl 20 (I e), sl 21 (LS intT v), sl 22 (I x5)], []⟩ (by kernel_rfl) ?_
 obtain ⟨e_2, he_2, h⟩ := h
 refine SL.val hn (by rfl) (val_index (T := intT) (l := v) (i := x5) ht rfl (by rfl) (by rfl) (by rfl) (by rfl) (by rfl) (by rfl) he_2) (by rfl) ?_
 refine SL.val hn (by rfl) (val_load (s := .one (I e_2)) ht rfl (by rfl) (by rfl) (by rfl) (by rfl) (by rfl)) (by rfl) ?_
 refine SL.run ht hn 1 ⟨[sl 0 (LS intT u), sl 1 (LS intT v), sl 5 (I x5), sl 17 (LS intT u), sl 18 (I x5), sl 19 (.pe (svR (.one (I e))) 1), sl 20 (I e), sl 21 (LS intT v), sl 22 (I x5), sl 23 (.pe (svR (.one (I e_2))) 1), sl 24 (I e_2), sl 25 (B (e != e_2))], []⟩ (by kernel_rfl) ?_
 refine SL.nil ⟨by kernel_rfl, ?_⟩
 refine En.cond (b := (e != e_2)) (by kernel_rfl) (fun hb => ?_) (fun hb => ?_)
 replace h := h.1 hb
 refine En.seq ?_
 refine En.region ?_
 refine WL.run ht hn 1 ⟨[sl 4 (B false)], []⟩ (by kernel_rfl) ?_
 refine WL.nil ?_
 refine En.ret ?_
 exact En.back ht false h (by kernel_rfl) rfl
 replace h := h.2 hb
 refine En.skip ?_
 refine En.region ?_
 refine WL.run ht hn 3 ⟨[sl 0 (LS intT u), sl 1 (LS intT v), sl 5 (I (wr (x5 + 1)))], []⟩ (by kernel_rfl) ?_
 refine WL.nil ?_
 exact En.at (I := fun zz => Inv zz ∧ mu zz < mu x5) (T := fun zz => ⟨[sl 0 (LS intT u), sl 1 (LS intT v), sl 5 (I zz)], []⟩) (wr (x5 + 1)) h (by kernel_rfl)
 replace h := h.2 hb
 refine En.exit rfl ?_
 refine En.seq ?_
 refine En.region ?_
 refine WL.run ht hn 1 ⟨[sl 4 (B true)], []⟩ (by kernel_rfl) ?_
 refine WL.nil ?_
 refine En.ret ?_
 exact En.back ht true h (by kernel_rfl) rfl
theorem en36 : ∀ args w, (callFunc 36 args).run Try.prog w = .ok (.enter 36 args) w := enters_of Try.func36 (by kernel_rfl) rfl
theorem sameWords_ct (u : (List Int)) (v : (List Int))  : Ct 36 [.sv (.one (LS intT u)), .sv (.one (LS intT v))] [] (fun (_ : Unit) => True) (fun _ => .sv (.one (B (decide (u = v))))) := by
  refine (sameWords_walk u v (fun res_ => res_ = (decide (u = v))) ?_).fun
  intro hl _
  refine ⟨fun h => ?_, fun h => ?_⟩
  · exact (decide_eq_false (fun e => by rw [e] at h; simp at h)).symm
  have hlen : u.length = v.length := by have : (u.length : Int) = v.length := by simpa using h
                                        omega
  refine ⟨fun i => ∃ k : Nat, i = k ∧ k ≤ u.length ∧ u.take k = v.take k, fun i => u.length - i.toNat, ⟨0, rfl, Nat.zero_le _, rfl⟩, ?_⟩
  rintro i ⟨k, rfl, hk, ht⟩
  refine ⟨fun hb => ?_, fun hb => ?_⟩
  · have hlt := dlt hb
    have hlt' : k < v.length := by omega
    refine ⟨_, idx_at hlt, _, idx_at hlt', fun hne => ?_, fun he => ⟨⟨k + 1, ?_, hlt, ?_⟩, ?_⟩⟩
    · exact (decide_eq_false (fun e => by subst e; simp at hne)).symm
    · rw [wr_in (by omega) (by omega)]; omega
    · rw [List.take_add_one, List.take_add_one, ht, List.getElem?_eq_getElem hlt, List.getElem?_eq_getElem hlt', show u[k] = v[k] by simpa using he]
    · rw [wr_in (by omega) (by omega)]; simp only; omega
  · have hge := dge hb
    rw [List.take_of_length_le hge, List.take_of_length_le (by omega)] at ht
    exact (decide_eq_true ht).symm
def alike_vc (a : ApiDet) (b : ApiDet) (Q : Bool → Prop) : Prop :=
  a.fNext.length ≤ 9223372036854775807 →
  a.fMark.length ≤ 9223372036854775807 →
  b.fNext.length ≤ 9223372036854775807 →
  b.fMark.length ≤ 9223372036854775807 →
  (IfP (((a.fLetters != b.fLetters) || (a.fStart != b.fStart)) || ((a.fNext.length : Int) != (b.fNext.length : Int))) (Q false) (∃ (Inv : Bool → Int → Prop) (mu : Bool → Int → Nat), Inv (decide (a.fMark = b.fMark)) 0 ∧
  ∀ (x5 : Bool) (x6 : Int) , Inv x5 x6 → (IfP ((decide (x6 < (a.fNext.length : Int))) && x5) (∃ e, idx a.fNext x6 = some e ∧
  ∃ e_2, idx b.fNext x6 = some e_2 ∧
  (Inv (decide (e = e_2)) (wr (x6 + 1)) ∧ mu (decide (e = e_2)) (wr (x6 + 1)) < mu x5 x6)) (Q x5))))
theorem alike_walk (a : ApiDet) (b : ApiDet) (Q : Bool → Prop) (h : alike_vc a b Q) : Ct 29 [.sv (.agg [I a.fLetters, I a.fStart, LS (lsT intT) a.fNext, LS intT a.fMark]), .sv (.agg [I b.fLetters, I b.fStart, LS (lsT intT) b.fNext, LS intT b.fMark])] [] Q (fun (r : Bool) => .sv (.one (B r))) := by
 have ht := tab_ok
 refine Ct.body Try.func29 rfl rfl rfl rfl (fun c hn => ?_)
 unfold alike_vc at h
 refine En.lenA 0 2 (by rfl) (by rfl) (fun hl => ?_)
 replace h := h hl
 clear hl
 refine En.lenA 0 3 (by rfl) (by rfl) (fun hl => ?_)
 replace h := h hl
 clear hl
 refine En.lenA 1 2 (by rfl) (by rfl) (fun hl => ?_)
 replace h := h hl
 clear hl
 refine En.lenA 1 3 (by rfl) (by rfl) (fun hl => ?_)
 replace h := h hl
 clear hl
 refine En.seq ?_
 refine En.region ?_
 refine WL.run ht hn 3 ⟨[sl 2 (.ptr 0 0), sl 3 (.ptr 1 0)], [.box (ApiDet.cl a) 73 false, .box (ApiDet.cl b) 73 false]⟩ (by kernel_rfl) ?_
 refine WL.nil ?_
 refine En.seq ?_
 refine En.seq ?_
 refine En.region ?_
 refine WL.run ht hn 6 ⟨[sl 2 (.ptr 0 0), sl 3 (.ptr 1 0), sl 12 (B (a.fLetters != b.fLetters))], [.box (ApiDet.cl a) 73 false, .box (ApiDet.cl b) 73 false]⟩ (by kernel_rfl) ?_
 refine WL.thru ⟨[sl 2 (.ptr 0 0), sl 3 (.ptr 1 0), sl 27 (B (((a.fLetters != b.fLetters) || (a.fStart != b.fStart)) || ((a.fNext.length : Int) != (b.fNext.length : Int))))], [.box (ApiDet.cl a) 73 false, .box (ApiDet.cl b) 73 false]⟩ ?_ ?_
 refine splitB (a.fLetters != b.fLetters) (fun hb0 => ?_) (fun hb0 => ?_)
 refine WL.setB 12 hb0 (by kernel_rfl) ?_
 refine WL.run ht hn 15 ⟨[sl 2 (.ptr 0 0), sl 3 (.ptr 1 0), sl 27 (B true)], [.box (ApiDet.cl a) 73 false, .box (ApiDet.cl b) 73 false]⟩ (by kernel_rfl) ?_
 exact WL.nil (sub_ok (by simp only [hb0]; kernel_rfl))
 refine WL.setB 12 hb0 (by kernel_rfl) ?_
 refine WL.run ht hn 7 ⟨[sl 2 (.ptr 0 0), sl 3 (.ptr 1 0), sl 19 (B (a.fStart != b.fStart))], [.box (ApiDet.cl a) 73 false, .box (ApiDet.cl b) 73 false]⟩ (by kernel_rfl) ?_
 refine splitB (a.fStart != b.fStart) (fun hb1 => ?_) (fun hb1 => ?_)
 refine WL.setB 19 hb1 (by kernel_rfl) ?_
 refine WL.run ht hn 8 ⟨[sl 2 (.ptr 0 0), sl 3 (.ptr 1 0), sl 27 (B true)], [.box (ApiDet.cl a) 73 false, .box (ApiDet.cl b) 73 false]⟩ (by kernel_rfl) ?_
 exact WL.nil (sub_ok (by simp only [hb0, hb1]; kernel_rfl))
 refine WL.setB 19 hb1 (by kernel_rfl) ?_
 refine WL.run ht hn 8 ⟨[sl 2 (.ptr 0 0), sl 3 (.ptr 1 0), sl 27 (B ((a.fNext.length : Int) != (b.fNext.length : Int)))], [.box (ApiDet.cl a) 73 false, .box (ApiDet.cl b) 73 false]⟩ (by kernel_rfl) ?_
 exact WL.nil (sub_ok (by simp only [hb0, hb1]; kernel_rfl))
 refine En.cond (b := (((a.fLetters != b.fLetters) || (a.fStart != b.fStart)) || ((a.fNext.length : Int) != (b.fNext.length : Int)))) (by kernel_rfl) (fun hb => ?_) (fun hb => ?_)
 replace h := h.1 hb
 refine En.seq ?_
 refine En.region ?_
 refine WL.run ht hn 1 ⟨[sl 4 (B false)], [.gone, .gone]⟩ (by kernel_rfl) ?_
 refine WL.nil ?_
 refine En.ret ?_
 exact En.back ht false h (by kernel_rfl) rfl
 replace h := h.2 hb
 refine En.skip ?_
 refine En.seq ?_
 refine En.region ?_
 refine WL.run ht hn 4 ⟨[sl 2 (.ptr 0 0), sl 3 (.ptr 1 0), sl 29 (LS intT a.fMark), sl 31 (LS intT b.fMark)], [.box (ApiDet.cl a) 73 false, .box (ApiDet.cl b) 73 false]⟩ (by kernel_rfl) ?_
 refine WL.mt0 (K := []) (p := none) hn (by rfl) (mt_call (sameWords_ct a.fMark b.fMark) en36 (caps := []) [] rfl (by rfl) (by kernel_rfl) (by kernel_rfl) (by rfl) (by rfl) (by rfl)) (by rfl) (by rfl) (by rfl) ?_
 refine WL.run ht hn 1 ⟨[sl 2 (.ptr 0 0), sl 3 (.ptr 1 0), sl 5 (B (decide (a.fMark = b.fMark)))], [.box (ApiDet.cl a) 73 false, .box (ApiDet.cl b) 73 false]⟩ (by kernel_rfl) ?_
 refine WL.nil ?_
 refine En.seq ?_
 refine En.seq ?_
 refine En.region ?_
 refine WL.run ht hn 1 ⟨[sl 2 (.ptr 0 0), sl 3 (.ptr 1 0), sl 5 (B (decide (a.fMark = b.fMark))), sl 6 (I 0)], [.box (ApiDet.cl a) 73 false, .box (ApiDet.cl b) 73 false]⟩ (by kernel_rfl) ?_
 refine WL.nil ?_
 refine En.block ?_
 obtain ⟨Inv, mu, h0, hI⟩ := h
 refine En.loop (σ := Bool × Int) (fun zz => Inv zz.1 zz.2) (fun zz => mu zz.1 zz.2) (fun zz => ⟨[sl 2 (.ptr 0 0), sl 3 (.ptr 1 0), sl 5 (B zz.1), sl 6 (I zz.2)], [.box (ApiDet.cl a) 73 false, .box (ApiDet.cl b) 73 false]⟩) ((decide (a.fMark = b.fMark)), 0) h0 (sub_ok (by kernel_rfl)) ?_
 rintro ⟨x5, x6⟩ h
 replace h := hI _ _ h
 show En c ⟨[sl 2 (.ptr 0 0), sl 3 (.ptr 1 0), sl 5 (B x5), sl 6 (I x6)], [.box (ApiDet.cl a) 73 false, .box (ApiDet.cl b) 73 false]⟩ _
 refine En.seq ?_
 refine En.seq ?_
 refine En.region ?_
 refine WL.run ht hn 6 ⟨[sl 2 (.ptr 0 0), sl 3 (.ptr 1 0), sl 5 (B x5), sl 6 (I x6), sl 38 (B (decide (x6 < (a.fNext.length : Int))))], [.box (ApiDet.cl a) 73 false, .box (ApiDet.cl b) 73 false]⟩ (by kernel_rfl) ?_
 refine WL.thru ⟨[sl 2 (.ptr 0 0), sl 3 (.ptr 1 0), sl 5 (B x5), sl 6 (I x6), sl 40 (B ((decide (x6 < (a.fNext.length : Int))) && x5))], [.box (ApiDet.cl a) 73 false, .box (ApiDet.cl b) 73 false]⟩ ?_ ?_
 refine splitB (decide (x6 < (a.fNext.length : Int))) (fun hb0 => ?_) (fun hb0 => ?_)
 refine WL.setB 38 hb0 (by kernel_rfl) ?_
 refine WL.run ht hn 2 ⟨[sl 2 (.ptr 0 0), sl 3 (.ptr 1 0), sl 5 (B x5), sl 6 (I x6), sl 40 (B x5)], [.box (ApiDet.cl a) 73 false, .box (ApiDet.cl b) 73 false]⟩ (by kernel_rfl) ?_
 exact WL.nil (sub_ok (by simp only [hb0]; kernel_rfl))
 refine WL.setB 38 hb0 (by kernel_rfl) ?_
 refine WL.run ht hn 2 ⟨[sl 2 (.ptr 0 0), sl 3 (.ptr 1 0), sl 5 (B x5), sl 6 (I x6), sl 40 (B false)], [.box (ApiDet.cl a) 73 false, .box (ApiDet.cl b) 73 false]⟩ (by kernel_rfl) ?_
 exact WL.nil (sub_ok (by simp only [hb0]; kernel_rfl))
 refine En.cond (b := ((decide (x6 < (a.fNext.length : Int))) && x5)) (by kernel_rfl) (fun hb => ?_) (fun hb => ?_)
 replace h := h.1 hb
 refine En.skip ?_
 refine En.seq ?_
 refine En.block ?_
 obtain ⟨e, he, h⟩ := h
 obtain ⟨e_2, he_2, h⟩ := h
 refine En.regionA ⟨[sl 2 (.ptr 0 0), sl 3 (.ptr 1 0), sl 6 (I x6)], [.sv (.one (.ptr 0 2)), .sv (.one (LS (lsT intT) a.fNext)), .sv (.one (I x6)), .sv (.one (.pe (svR (.one (LS intT e))) 1)), .sv (.one (LS intT e)), .sv (.one (.ptr 1 2)), .sv (.one (LS (lsT intT) b.fNext)), .sv (.one (I x6)), .sv (.one (.pe (svR (.one (LS intT e_2))) 1)), .sv (.one (LS intT e_2)), .sv (.one (B (decide (e = e_2)))), .sv (.one (B (decide (e = e_2))))], [⟨.box (ApiDet.cl a) 73 false, none, none, none⟩, ⟨.box (ApiDet.cl b) 73 false, none, none, none⟩]⟩ ⟨[sl 2 (.ptr 0 0), sl 3 (.ptr 1 0), sl 5 (B (decide (e = e_2))), sl 6 (I x6)], [.box (ApiDet.cl a) 73 false, .box (ApiDet.cl b) 73 false]⟩ (by kernel_rfl) hn (by kernel_rfl) (by rfl) (by kernel_rfl) ?_ (by kernel_rfl) ?_
 exact ⟨.mt ⟨[sl 2 (.ptr 0 0)], []⟩ [] none (by kernel_rfl) (by rfl) (mt_ev ht (by kernel_rfl)) rfl rfl rfl rfl,
  .mt ⟨[sl 43 (.ptr 0 2)], [.box (ApiDet.cl a) 73 false]⟩ [] none (by kernel_rfl) (by rfl) (mt_ev ht (by kernel_rfl)) rfl rfl rfl rfl,
  .mt ⟨[sl 6 (I x6)], []⟩ [] none (by kernel_rfl) (by rfl) (mt_ev ht (by kernel_rfl)) rfl rfl rfl rfl,
  .mt ⟨[sl 44 (LS (lsT intT) a.fNext), sl 45 (I x6)], []⟩ [] none (by kernel_rfl) (by rfl) (mt_val (val_index (T := (lsT intT)) (l := a.fNext) (i := x6) ht rfl (by rfl) (by rfl) (by rfl) (by rfl) (by rfl) (by rfl) he)) rfl rfl rfl rfl,
  .mt ⟨[sl 46 (.pe (svR (.one (LS intT e))) 1)], []⟩ [] none (by kernel_rfl) (by rfl) (mt_val (val_load (s := .one (LS intT e)) ht rfl (by rfl) (by rfl) (by rfl) (by rfl) (by rfl))) rfl rfl rfl rfl,
  .mt ⟨[sl 3 (.ptr 1 0)], []⟩ [] none (by kernel_rfl) (by rfl) (mt_ev ht (by kernel_rfl)) rfl rfl rfl rfl,
  .mt ⟨[sl 48 (.ptr 1 2)], [.gone, .box (ApiDet.cl b) 73 false]⟩ [] none (by kernel_rfl) (by rfl) (mt_ev ht (by kernel_rfl)) rfl rfl rfl rfl,
  .mt ⟨[sl 6 (I x6)], []⟩ [] none (by kernel_rfl) (by rfl) (mt_ev ht (by kernel_rfl)) rfl rfl rfl rfl,
  .mt ⟨[sl 49 (LS (lsT intT) b.fNext), sl 50 (I x6)], []⟩ [] none (by kernel_rfl) (by rfl) (mt_val (val_index (T := (lsT intT)) (l := b.fNext) (i := x6) ht rfl (by rfl) (by rfl) (by rfl) (by rfl) (by rfl) (by rfl) he_2)) rfl rfl rfl rfl,
  .mt ⟨[sl 51 (.pe (svR (.one (LS intT e_2))) 1)], []⟩ [] none (by kernel_rfl) (by rfl) (mt_val (val_load (s := .one (LS intT e_2)) ht rfl (by rfl) (by rfl) (by rfl) (by rfl) (by rfl))) rfl rfl rfl rfl,
  .mt ⟨[sl 47 (LS intT e), sl 52 (LS intT e_2)], []⟩ [] none (by kernel_rfl) (by rfl) (mt_call (sameWords_ct e e_2) en36 (caps := []) [] rfl (by rfl) (by kernel_rfl) (by kernel_rfl) (by rfl) (by rfl) (by rfl)) rfl rfl rfl rfl,
  .mt ⟨[sl 53 (B (decide (e = e_2)))], []⟩ [] none (by kernel_rfl) (by rfl) (mt_ev ht (by kernel_rfl)) rfl rfl rfl rfl,
  trivial⟩
 refine En.region ?_
 refine WL.run ht hn 3 ⟨[sl 2 (.ptr 0 0), sl 3 (.ptr 1 0), sl 5 (B (decide (e = e_2))), sl 6 (I (wr (x6 + 1)))], [.box (ApiDet.cl a) 73 false, .box (ApiDet.cl b) 73 false]⟩ (by kernel_rfl) ?_
 refine WL.nil ?_
 exact En.at (I := fun zz => Inv zz.1 zz.2 ∧ mu zz.1 zz.2 < mu x5 x6) (T := fun zz => ⟨[sl 2 (.ptr 0 0), sl 3 (.ptr 1 0), sl 5 (B zz.1), sl 6 (I zz.2)], [.box (ApiDet.cl a) 73 false, .box (ApiDet.cl b) 73 false]⟩) ((decide (e = e_2)), (wr (x6 + 1))) h (by kernel_rfl)
 replace h := h.2 hb
 refine En.exit rfl ?_
 refine En.seq ?_
 refine En.region ?_
 refine WL.run ht hn 2 ⟨[sl 4 (B x5)], [.gone, .gone]⟩ (by kernel_rfl) ?_
 refine WL.nil ?_
 refine En.ret ?_
 exact En.back ht x5 h (by kernel_rfl) rfl
theorem en29 : ∀ args w, (callFunc 29 args).run Try.prog w = .ok (.enter 29 args) w := enters_of Try.func29 (by kernel_rfl) rfl
theorem alike_ct (a : ApiDet) (b : ApiDet)  : Ct 29 [.sv (.agg [I a.fLetters, I a.fStart, LS (lsT intT) a.fNext, LS intT a.fMark]), .sv (.agg [I b.fLetters, I b.fStart, LS (lsT intT) b.fNext, LS intT b.fMark])] [] (fun (_ : Unit) => True) (fun _ => .sv (.one (B (decide (a = b))))) := by
  refine (alike_walk a b (fun res_ => res_ = (decide (a = b))) ?_).fun
  intro hl _ _ _
  refine ⟨fun h => ?_, fun h => ?_⟩
  · exact (decide_eq_false (fun e => by subst e; simp at h)).symm
  simp only [Bool.or_eq_false_iff, bne_eq_false_iff_eq] at h
  obtain ⟨⟨h1, h2⟩, h3⟩ := h
  refine ⟨fun m i => ∃ k : Nat, i = k ∧ k ≤ a.fNext.length ∧ (m = true → a.fMark = b.fMark ∧ a.fNext.take k = b.fNext.take k) ∧ (m = false → a ≠ b), fun m i => a.fNext.length - i.toNat, ⟨0, rfl, Nat.zero_le _, fun h => ⟨of_decide_eq_true h, rfl⟩, fun h e => of_decide_eq_false h (by rw [e])⟩, ?_⟩
  rintro m i ⟨k, rfl, hk, ht, hf⟩
  refine ⟨fun hb => ?_, fun hb => ?_⟩
  · simp only [Bool.and_eq_true] at hb
    have hlt := dlt hb.1
    have hlt' : k < b.fNext.length := by omega
    obtain ⟨hm, htk⟩ := ht hb.2
    refine ⟨_, idx_at hlt, _, idx_at hlt', ⟨k + 1, ?_, hlt, fun he => ⟨hm, ?_⟩, fun he e => ?_⟩, ?_⟩
    · rw [wr_in (by omega) (by omega)]; omega
    · rw [List.take_add_one, List.take_add_one, htk, List.getElem?_eq_getElem hlt, List.getElem?_eq_getElem hlt', of_decide_eq_true he]
    · subst e; exact of_decide_eq_false he rfl
    · rw [wr_in (by omega) (by omega)]; simp only; omega
  · cases m with
    | false => exact (decide_eq_false (hf rfl)).symm
    | true =>
      rw [Bool.and_true] at hb
      have hge := dge hb
      obtain ⟨hm, htk⟩ := ht rfl
      rw [List.take_of_length_le hge, List.take_of_length_le (by omega)] at htk
      refine (decide_eq_true ?_).symm
      obtain ⟨a1, a2, a3, a4⟩ := a
      obtain ⟨b1, b2, b3, b4⟩ := b
      simp only at h1 h2 hm htk
      rw [h1, h2, hm, htk]
def detLaws_vc (a : ApiDet) (b : ApiDet) (Q : Bool → Prop) : Prop :=
  a.fNext.length ≤ 9223372036854775807 →
  a.fMark.length ≤ 9223372036854775807 →
  b.fNext.length ≤ 9223372036854775807 →
  b.fMark.length ≤ 9223372036854775807 →
  (IfP (!(true)) (Q false) (IfP ((mixR a b 8).2 != 0) (Q true) (IfP ((((mixR a b 14).2 != 0) || ((mixR a b 1).2 != 0)) || ((leastR a).2 != 0)) (Q false) (∃ J : Prop, (IfP ((mixR a (mixR a b 14).1 8).2 == 0) (IfP (!(decide ((mixR a (mixR a b 14).1 8).1 = (leastR a).1))) (Q false) (J)) (J)) ∧
  (J → ∃ J_2 : Prop, (IfP ((mixR a (mixR a b 8).1 14).2 == 0) (IfP (!(decide ((mixR a (mixR a b 8).1 14).1 = (leastR a).1))) (Q false) (J_2)) (J_2)) ∧
  (J_2 → (twoErr (mixR a b 14).1 (mixR a b 1).1 = 0 ∧ difDom (mixR a b 14).1 (mixR a b 1).1 ⟨((mixR a b 14).1).fStart, ((mixR a b 1).1).fStart⟩ ∧ difB (mixR a b 14).1 (mixR a b 1).1 ⟨((mixR a b 14).1).fStart, ((mixR a b 1).1).fStart⟩ = true) ∧
  IfP (((((([] : List Int), true, (0 : Int))).2.2 != 0) || (!((([] : List Int), true, (0 : Int))).2.1)) || ((((([] : List Int), true, (0 : Int))).1.length : Int) != 0)) (Q false) (Q (((leastR (leastR a).1).2 == 0) && (decide ((leastR (leastR a).1).1 = (leastR a).1))))))))))
noncomputable abbrev qdetLaws0 (a : ApiDet) := (ApiDet.cl (leastR a).1)
noncomputable abbrev qdetLaws1 (a : ApiDet) (b : ApiDet) := (ApiDet.cl (mixR a b 14).1)
noncomputable abbrev qdetLaws2 (a : ApiDet) (b : ApiDet) := (ApiDet.cl (mixR a b 1).1)
noncomputable abbrev qdetLaws3 (a : ApiDet) (b : ApiDet) := (ApiDet.cl (mixR a b 8).1)
noncomputable abbrev qdetLaws4 (a : ApiDet) (b : ApiDet) := (ApiDet.cl (mixR a (mixR a b 14).1 8).1)
noncomputable abbrev qdetLaws5 (a : ApiDet) := (decide ((leastR (leastR a).1).1 = (leastR a).1))
set_option maxHeartbeats 2000000 in
theorem detLaws_walk (a : ApiDet) (b : ApiDet) (Q : Bool → Prop) (h : detLaws_vc a b Q) : Ct 11 [.sv (.agg [I a.fLetters, I a.fStart, LS (lsT intT) a.fNext, LS intT a.fMark]), .sv (.agg [I b.fLetters, I b.fStart, LS (lsT intT) b.fNext, LS intT b.fMark])] [] Q (fun (r : Bool) => .sv (.one (B r))) := by
 have ht := tab_ok
 refine Ct.body Try.func11 rfl rfl rfl rfl (fun c hn => ?_)
 unfold detLaws_vc at h
 refine En.lenA 0 2 (by rfl) (by rfl) (fun hl => ?_)
 replace h := h hl
 clear hl
 refine En.lenA 0 3 (by rfl) (by rfl) (fun hl => ?_)
 replace h := h hl
 clear hl
 refine En.lenA 1 2 (by rfl) (by rfl) (fun hl => ?_)
 replace h := h hl
 clear hl
 refine En.lenA 1 3 (by rfl) (by rfl) (fun hl => ?_)
 replace h := h hl
 clear hl
 refine En.seq ?_
 refine En.region ?_
 refine WL.run ht hn 3 ⟨[sl 2 (.ptr 0 0), sl 3 (.ptr 1 0)], [.box (ApiDet.cl a) 73 false, .box (ApiDet.cl b) 73 false]⟩ (by kernel_rfl) ?_
 refine WL.nil ?_
 refine En.seq ?_
 refine En.region ?_
 refine WL.mt0 (K := []) (p := none) hn (by rfl) (mt_call (closed_ct ) en26 (caps := []) [] rfl (by rfl) (by kernel_rfl) (by kernel_rfl) (by rfl) (by rfl) (by rfl)) (by rfl) (by rfl) (by rfl) ?_
 refine WL.run ht hn 1 ⟨[sl 2 (.ptr 0 0), sl 3 (.ptr 1 0), sl 5 (B (true))], [.box (ApiDet.cl a) 73 false, .box (ApiDet.cl b) 73 false]⟩ (by kernel_rfl) ?_
 refine WL.nil ?_
 refine En.seq ?_
 refine En.seq ?_
 refine En.region ?_
 refine WL.run ht hn 2 ⟨[sl 2 (.ptr 0 0), sl 3 (.ptr 1 0), sl 23 (B (!(true)))], [.box (ApiDet.cl a) 73 false, .box (ApiDet.cl b) 73 false]⟩ (by kernel_rfl) ?_
 refine WL.nil ?_
 refine En.cond (b := (!(true))) (by kernel_rfl) (fun hb => ?_) (fun hb => ?_)
 replace h := h.1 hb
 refine En.seq ?_
 refine En.region ?_
 refine WL.run ht hn 1 ⟨[sl 4 (B false)], [.gone, .gone]⟩ (by kernel_rfl) ?_
 refine WL.nil ?_
 refine En.ret ?_
 exact En.back ht false h (by kernel_rfl) rfl
 replace h := h.2 hb
 refine En.skip ?_
 refine En.seq ?_
 refine En.region ?_
 refine WL.run ht hn 2 ⟨[sl 2 (.ptr 0 0), sl 3 (.ptr 1 0), (25, .sv (.agg (ApiDet.cl a))), (26, .sv (.agg (ApiDet.cl b)))], [.box (ApiDet.cl a) 73 false, .box (ApiDet.cl b) 73 false]⟩ (by kernel_rfl) ?_
 refine WL.mt0 (K := []) (p := none) hn (by rfl) (mt_call (detMixed_ct a b 8) en28 (caps := []) [] rfl (by rfl) (by kernel_rfl) (by kernel_rfl) (by rfl) (by rfl) (by rfl)) (by rfl) (by rfl) (by rfl) ?_
 refine WL.run ht hn 6 ⟨[sl 2 (.ptr 0 0), sl 3 (.ptr 1 0), sl 6 (.ptr 2 0), sl 7 (I (mixR a b 8).2)], [.box (ApiDet.cl a) 73 false, .box (ApiDet.cl b) 73 false, .box (qdetLaws3 a b) 73 false]⟩ (by kernel_rfl) ?_
 refine WL.nil ?_
 refine En.seq ?_
 refine En.seq ?_
 refine En.region ?_
 refine WL.run ht hn 2 ⟨[sl 2 (.ptr 0 0), sl 3 (.ptr 1 0), sl 6 (.ptr 2 0), sl 31 (B ((mixR a b 8).2 != 0))], [.box (ApiDet.cl a) 73 false, .box (ApiDet.cl b) 73 false, .box (qdetLaws3 a b) 73 false]⟩ (by kernel_rfl) ?_
 refine WL.nil ?_
 refine En.cond (b := ((mixR a b 8).2 != 0)) (by kernel_rfl) (fun hb => ?_) (fun hb => ?_)
 replace h := h.1 hb
 refine En.seq ?_
 refine En.region ?_
 refine WL.run ht hn 1 ⟨[sl 4 (B true)], [.gone, .gone, .gone]⟩ (by kernel_rfl) ?_
 refine WL.nil ?_
 refine En.ret ?_
 exact En.back ht true h (by kernel_rfl) rfl
 replace h := h.2 hb
 refine En.skip ?_
 refine En.seq ?_
 refine En.region ?_
 refine WL.run ht hn 2 ⟨[sl 2 (.ptr 0 0), sl 3 (.ptr 1 0), sl 6 (.ptr 2 0), (33, .sv (.agg (ApiDet.cl a))), (34, .sv (.agg (ApiDet.cl b)))], [.box (ApiDet.cl a) 73 false, .box (ApiDet.cl b) 73 false, .box (qdetLaws3 a b) 73 false]⟩ (by kernel_rfl) ?_
 refine WL.mt0 (K := []) (p := none) hn (by rfl) (mt_call (detMixed_ct a b 14) en28 (caps := []) [] rfl (by rfl) (by kernel_rfl) (by kernel_rfl) (by rfl) (by rfl) (by rfl)) (by rfl) (by rfl) (by rfl) ?_
 refine WL.run ht hn 6 ⟨[sl 2 (.ptr 0 0), sl 3 (.ptr 1 0), sl 6 (.ptr 2 0), sl 8 (.ptr 3 0), sl 9 (I (mixR a b 14).2)], [.box (ApiDet.cl a) 73 false, .box (ApiDet.cl b) 73 false, .box (qdetLaws3 a b) 73 false, .box (qdetLaws1 a b) 73 false]⟩ (by kernel_rfl) ?_
 refine WL.nil ?_
 refine En.seq ?_
 refine En.region ?_
 refine WL.run ht hn 2 ⟨[sl 2 (.ptr 0 0), sl 6 (.ptr 2 0), sl 8 (.ptr 3 0), sl 9 (I (mixR a b 14).2), (39, .sv (.agg (ApiDet.cl a))), (40, .sv (.agg (ApiDet.cl b)))], [.box (ApiDet.cl a) 73 false, .gone, .box (qdetLaws3 a b) 73 false, .box (qdetLaws1 a b) 73 false]⟩ (by kernel_rfl) ?_
 refine WL.mt0 (K := []) (p := none) hn (by rfl) (mt_call (detMixed_ct a b 1) en28 (caps := []) [] rfl (by rfl) (by kernel_rfl) (by kernel_rfl) (by rfl) (by rfl) (by rfl)) (by rfl) (by rfl) (by rfl) ?_
 refine WL.run ht hn 6 ⟨[sl 2 (.ptr 0 0), sl 6 (.ptr 2 0), sl 8 (.ptr 3 0), sl 9 (I (mixR a b 14).2), sl 10 (.ptr 4 0), sl 11 (I (mixR a b 1).2)], [.box (ApiDet.cl a) 73 false, .gone, .box (qdetLaws3 a b) 73 false, .box (qdetLaws1 a b) 73 false, .box (qdetLaws2 a b) 73 false]⟩ (by kernel_rfl) ?_
 refine WL.nil ?_
 refine En.seq ?_
 refine En.region ?_
 refine WL.run ht hn 1 ⟨[sl 2 (.ptr 0 0), sl 6 (.ptr 2 0), sl 8 (.ptr 3 0), sl 9 (I (mixR a b 14).2), sl 10 (.ptr 4 0), sl 11 (I (mixR a b 1).2), (45, .sv (.agg (ApiDet.cl a)))], [.box (ApiDet.cl a) 73 false, .gone, .box (qdetLaws3 a b) 73 false, .box (qdetLaws1 a b) 73 false, .box (qdetLaws2 a b) 73 false]⟩ (by kernel_rfl) ?_
 refine WL.mt0 (K := []) (p := none) hn (by rfl) (mt_call (detLeast_ct a) en31 (caps := []) [] rfl (by rfl) (by kernel_rfl) (by kernel_rfl) (by rfl) (by rfl) (by rfl)) (by rfl) (by rfl) (by rfl) ?_
 refine WL.run ht hn 6 ⟨[sl 2 (.ptr 0 0), sl 6 (.ptr 2 0), sl 8 (.ptr 3 0), sl 9 (I (mixR a b 14).2), sl 10 (.ptr 4 0), sl 11 (I (mixR a b 1).2), sl 12 (.ptr 5 0), sl 13 (I (leastR a).2)], [.box (ApiDet.cl a) 73 false, .gone, .box (qdetLaws3 a b) 73 false, .box (qdetLaws1 a b) 73 false, .box (qdetLaws2 a b) 73 false, .box (qdetLaws0 a) 73 false]⟩ (by kernel_rfl) ?_
 refine WL.nil ?_
 refine En.seq ?_
 refine En.seq ?_
 refine En.region ?_
 refine WL.run ht hn 3 ⟨[sl 2 (.ptr 0 0), sl 6 (.ptr 2 0), sl 8 (.ptr 3 0), sl 10 (.ptr 4 0), sl 11 (I (mixR a b 1).2), sl 12 (.ptr 5 0), sl 13 (I (leastR a).2), sl 51 (B ((mixR a b 14).2 != 0))], [.box (ApiDet.cl a) 73 false, .gone, .box (qdetLaws3 a b) 73 false, .box (qdetLaws1 a b) 73 false, .box (qdetLaws2 a b) 73 false, .box (qdetLaws0 a) 73 false]⟩ (by kernel_rfl) ?_
 refine WL.thru ⟨[sl 2 (.ptr 0 0), sl 6 (.ptr 2 0), sl 8 (.ptr 3 0), sl 10 (.ptr 4 0), sl 12 (.ptr 5 0), sl 58 (B ((((mixR a b 14).2 != 0) || ((mixR a b 1).2 != 0)) || ((leastR a).2 != 0)))], [.box (ApiDet.cl a) 73 false, .gone, .box (qdetLaws3 a b) 73 false, .box (qdetLaws1 a b) 73 false, .box (qdetLaws2 a b) 73 false, .box (qdetLaws0 a) 73 false]⟩ ?_ ?_
 refine splitB ((mixR a b 14).2 != 0) (fun hb0 => ?_) (fun hb0 => ?_)
 refine WL.setB 51 hb0 (by kernel_rfl) ?_
 refine WL.run ht hn 7 ⟨[sl 2 (.ptr 0 0), sl 6 (.ptr 2 0), sl 8 (.ptr 3 0), sl 10 (.ptr 4 0), sl 12 (.ptr 5 0), sl 58 (B true)], [.box (ApiDet.cl a) 73 false, .gone, .box (qdetLaws3 a b) 73 false, .box (qdetLaws1 a b) 73 false, .box (qdetLaws2 a b) 73 false, .box (qdetLaws0 a) 73 false]⟩ (by kernel_rfl) ?_
 exact WL.nil (sub_ok (by simp only [hb0]; kernel_rfl))
 refine WL.setB 51 hb0 (by kernel_rfl) ?_
 refine WL.run ht hn 4 ⟨[sl 2 (.ptr 0 0), sl 6 (.ptr 2 0), sl 8 (.ptr 3 0), sl 10 (.ptr 4 0), sl 12 (.ptr 5 0), sl 13 (I (leastR a).2), sl 55 (B ((mixR a b 1).2 != 0))], [.box (ApiDet.cl a) 73 false, .gone, .box (qdetLaws3 a b) 73 false, .box (qdetLaws1 a b) 73 false, .box (qdetLaws2 a b) 73 false, .box (qdetLaws0 a) 73 false]⟩ (by kernel_rfl) ?_
 refine splitB ((mixR a b 1).2 != 0) (fun hb1 => ?_) (fun hb1 => ?_)
 refine WL.setB 55 hb1 (by kernel_rfl) ?_
 refine WL.run ht hn 3 ⟨[sl 2 (.ptr 0 0), sl 6 (.ptr 2 0), sl 8 (.ptr 3 0), sl 10 (.ptr 4 0), sl 12 (.ptr 5 0), sl 58 (B true)], [.box (ApiDet.cl a) 73 false, .gone, .box (qdetLaws3 a b) 73 false, .box (qdetLaws1 a b) 73 false, .box (qdetLaws2 a b) 73 false, .box (qdetLaws0 a) 73 false]⟩ (by kernel_rfl) ?_
 exact WL.nil (sub_ok (by simp only [hb0, hb1]; kernel_rfl))
 refine WL.setB 55 hb1 (by kernel_rfl) ?_
 refine WL.run ht hn 3 ⟨[sl 2 (.ptr 0 0), sl 6 (.ptr 2 0), sl 8 (.ptr 3 0), sl 10 (.ptr 4 0), sl 12 (.ptr 5 0), sl 58 (B ((leastR a).2 != 0))], [.box (ApiDet.cl a) 73 false, .gone, .box (qdetLaws3 a b) 73 false, .box (qdetLaws1 a b) 73 false, .box (qdetLaws2 a b) 73 false, .box (qdetLaws0 a) 73 false]⟩ (by kernel_rfl) ?_
 exact WL.nil (sub_ok (by simp only [hb0, hb1]; kernel_rfl))
 refine En.cond (b := ((((mixR a b 14).2 != 0) || ((mixR a b 1).2 != 0)) || ((leastR a).2 != 0))) (by kernel_rfl) (fun hb => ?_) (fun hb => ?_)
 replace h := h.1 hb
 refine En.seq ?_
 refine En.region ?_
 refine WL.run ht hn 1 ⟨[sl 4 (B false)], [.gone, .gone, .gone, .gone, .gone, .gone]⟩ (by kernel_rfl) ?_
 refine WL.nil ?_
 refine En.ret ?_
 exact En.back ht false h (by kernel_rfl) rfl
 replace h := h.2 hb
 refine En.skip ?_
 refine En.seq ?_
 refine En.region ?_
 refine WL.run ht hn 2 ⟨[sl 2 (.ptr 0 0), sl 6 (.ptr 2 0), sl 8 (.ptr 3 0), sl 10 (.ptr 4 0), sl 12 (.ptr 5 0), (60, .sv (.agg (ApiDet.cl a))), (61, .sv (.agg (qdetLaws1 a b)))], [.box (ApiDet.cl a) 73 false, .gone, .box (qdetLaws3 a b) 73 false, .box (qdetLaws1 a b) 73 false, .box (qdetLaws2 a b) 73 false, .box (qdetLaws0 a) 73 false]⟩ (by kernel_rfl) ?_
 refine WL.mt0 (K := []) (p := none) hn (by rfl) (mt_call (detMixed_ct a (mixR a b 14).1 8) en28 (caps := []) [] rfl (by rfl) (by kernel_rfl) (by kernel_rfl) (by rfl) (by rfl) (by rfl)) (by rfl) (by rfl) (by rfl) ?_
 refine WL.run ht hn 6 ⟨[sl 2 (.ptr 0 0), sl 6 (.ptr 2 0), sl 7 (I (mixR a (mixR a b 14).1 8).2), sl 8 (.ptr 3 0), sl 10 (.ptr 4 0), sl 12 (.ptr 5 0), sl 14 (.ptr 6 0)], [.box (ApiDet.cl a) 73 false, .gone, .box (qdetLaws3 a b) 73 false, .box (qdetLaws1 a b) 73 false, .box (qdetLaws2 a b) 73 false, .box (qdetLaws0 a) 73 false, .box (qdetLaws4 a b) 73 false]⟩ (by kernel_rfl) ?_
 refine WL.nil ?_
 obtain ⟨J, h, hJ⟩ := h
 refine En.seqJ (σ := Unit) (fun _ => J) (fun _ => ⟨[sl 2 (.ptr 0 0), sl 6 (.ptr 2 0), sl 8 (.ptr 3 0), sl 10 (.ptr 4 0), sl 12 (.ptr 5 0), sl 14 (.ptr 6 0)], [.box (ApiDet.cl a) 73 false, .gone, .box (qdetLaws3 a b) 73 false, .box (qdetLaws1 a b) 73 false, .box (qdetLaws2 a b) 73 false, .box (qdetLaws0 a) 73 false, .box (qdetLaws4 a b) 73 false]⟩) ?_ ?_
 refine En.seq ?_
 refine En.region ?_
 refine WL.run ht hn 2 ⟨[sl 2 (.ptr 0 0), sl 6 (.ptr 2 0), sl 8 (.ptr 3 0), sl 10 (.ptr 4 0), sl 12 (.ptr 5 0), sl 14 (.ptr 6 0), sl 66 (B ((mixR a (mixR a b 14).1 8).2 == 0))], [.box (ApiDet.cl a) 73 false, .gone, .box (qdetLaws3 a b) 73 false, .box (qdetLaws1 a b) 73 false, .box (qdetLaws2 a b) 73 false, .box (qdetLaws0 a) 73 false, .box (qdetLaws4 a b) 73 false]⟩ (by kernel_rfl) ?_
 refine WL.nil ?_
 refine En.cond (b := ((mixR a (mixR a b 14).1 8).2 == 0)) (by kernel_rfl) (fun hb => ?_) (fun hb => ?_)
 replace h := h.1 hb
 refine En.seq ?_
 refine En.region ?_
 refine WL.run ht hn 2 ⟨[sl 2 (.ptr 0 0), sl 6 (.ptr 2 0), sl 8 (.ptr 3 0), sl 10 (.ptr 4 0), sl 12 (.ptr 5 0), sl 14 (.ptr 6 0), (67, .sv (.agg (qdetLaws4 a b))), (68, .sv (.agg (qdetLaws0 a)))], [.box (ApiDet.cl a) 73 false, .gone, .box (qdetLaws3 a b) 73 false, .box (qdetLaws1 a b) 73 false, .box (qdetLaws2 a b) 73 false, .box (qdetLaws0 a) 73 false, .box (qdetLaws4 a b) 73 false]⟩ (by kernel_rfl) ?_
 refine WL.mt0 (K := []) (p := none) hn (by rfl) (mt_call (alike_ct (mixR a (mixR a b 14).1 8).1 (leastR a).1) en29 (caps := []) [] rfl (by rfl) (by kernel_rfl) (by kernel_rfl) (by rfl) (by rfl) (by rfl)) (by rfl) (by rfl) (by rfl) ?_
 refine WL.run ht hn 1 ⟨[sl 2 (.ptr 0 0), sl 6 (.ptr 2 0), sl 8 (.ptr 3 0), sl 10 (.ptr 4 0), sl 12 (.ptr 5 0), sl 14 (.ptr 6 0), sl 15 (B (decide ((mixR a (mixR a b 14).1 8).1 = (leastR a).1)))], [.box (ApiDet.cl a) 73 false, .gone, .box (qdetLaws3 a b) 73 false, .box (qdetLaws1 a b) 73 false, .box (qdetLaws2 a b) 73 false, .box (qdetLaws0 a) 73 false, .box (qdetLaws4 a b) 73 false]⟩ (by kernel_rfl) ?_
 refine WL.nil ?_
 refine En.seq ?_
 refine En.region ?_
 refine WL.run ht hn 2 ⟨[sl 2 (.ptr 0 0), sl 6 (.ptr 2 0), sl 8 (.ptr 3 0), sl 10 (.ptr 4 0), sl 12 (.ptr 5 0), sl 14 (.ptr 6 0), sl 71 (B (!(decide ((mixR a (mixR a b 14).1 8).1 = (leastR a).1))))], [.box (ApiDet.cl a) 73 false, .gone, .box (qdetLaws3 a b) 73 false, .box (qdetLaws1 a b) 73 false, .box (qdetLaws2 a b) 73 false, .box (qdetLaws0 a) 73 false, .box (qdetLaws4 a b) 73 false]⟩ (by kernel_rfl) ?_
 refine WL.nil ?_
 refine En.cond (b := (!(decide ((mixR a (mixR a b 14).1 8).1 = (leastR a).1)))) (by kernel_rfl) (fun hb => ?_) (fun hb => ?_)
 replace h := h.1 hb
 refine En.seq ?_
 refine En.region ?_
 refine WL.run ht hn 1 ⟨[sl 4 (B false)], [.gone, .gone, .gone, .gone, .gone, .gone, .gone]⟩ (by kernel_rfl) ?_
 refine WL.nil ?_
 refine En.ret ?_
 exact En.back ht false h (by kernel_rfl) rfl
 replace h := h.2 hb
 refine En.skip ?_
 exact En.at (I := fun _ => J) (T := fun _ => ⟨[sl 2 (.ptr 0 0), sl 6 (.ptr 2 0), sl 8 (.ptr 3 0), sl 10 (.ptr 4 0), sl 12 (.ptr 5 0), sl 14 (.ptr 6 0)], [.box (ApiDet.cl a) 73 false, .gone, .box (qdetLaws3 a b) 73 false, .box (qdetLaws1 a b) 73 false, .box (qdetLaws2 a b) 73 false, .box (qdetLaws0 a) 73 false, .box (qdetLaws4 a b) 73 false]⟩) () h (by kernel_rfl)
 replace h := h.2 hb
 refine En.skip ?_
 exact En.at (I := fun _ => J) (T := fun _ => ⟨[sl 2 (.ptr 0 0), sl 6 (.ptr 2 0), sl 8 (.ptr 3 0), sl 10 (.ptr 4 0), sl 12 (.ptr 5 0), sl 14 (.ptr 6 0)], [.box (ApiDet.cl a) 73 false, .gone, .box (qdetLaws3 a b) 73 false, .box (qdetLaws1 a b) 73 false, .box (qdetLaws2 a b) 73 false, .box (qdetLaws0 a) 73 false, .box (qdetLaws4 a b) 73 false]⟩) () h (by kernel_rfl)
 intro _ h
 replace h := hJ h
 show En c ⟨[sl 2 (.ptr 0 0), sl 6 (.ptr 2 0), sl 8 (.ptr 3 0), sl 10 (.ptr 4 0), sl 12 (.ptr 5 0), sl 14 (.ptr 6 0)], [.box (ApiDet.cl a) 73 false, .gone, .box (qdetLaws3 a b) 73 false, .box (qdetLaws1 a b) 73 false, .box (qdetLaws2 a b) 73 false, .box (qdetLaws0 a) 73 false, .box (qdetLaws4 a b) 73 false]⟩ _
 refine En.seq ?_
 refine En.region ?_
 refine WL.run ht hn 2 ⟨[sl 8 (.ptr 3 0), sl 10 (.ptr 4 0), sl 12 (.ptr 5 0), sl 14 (.ptr 6 0), (73, .sv (.agg (ApiDet.cl a))), (74, .sv (.agg (qdetLaws3 a b)))], [.gone, .gone, .gone, .box (qdetLaws1 a b) 73 false, .box (qdetLaws2 a b) 73 false, .box (qdetLaws0 a) 73 false, .box (qdetLaws4 a b) 73 false]⟩ (by kernel_rfl) ?_
 refine WL.mt0 (K := []) (p := none) hn (by rfl) (mt_call (detMixed_ct a (mixR a b 8).1 14) en28 (caps := []) [] rfl (by rfl) (by kernel_rfl) (by kernel_rfl) (by rfl) (by rfl) (by rfl)) (by rfl) (by rfl) (by rfl) ?_
 refine WL.run ht hn 5 ⟨[sl 7 (I (mixR a (mixR a b 8).1 14).2), sl 8 (.ptr 3 0), sl 10 (.ptr 4 0), sl 12 (.ptr 5 0), sl 14 (.ptr 6 0)], [.gone, .gone, .gone, .box (qdetLaws1 a b) 73 false, .box (qdetLaws2 a b) 73 false, .box (qdetLaws0 a) 73 false, .box (ApiDet.cl (mixR a (mixR a b 8).1 14).1) 73 false]⟩ (by kernel_rfl) ?_
 refine WL.nil ?_
 obtain ⟨J_2, h, hJ_2⟩ := h
 refine En.seqJ (σ := Unit) (fun _ => J_2) (fun _ => ⟨[sl 8 (.ptr 3 0), sl 10 (.ptr 4 0), sl 12 (.ptr 5 0)], [.gone, .gone, .gone, .box (qdetLaws1 a b) 73 false, .box (qdetLaws2 a b) 73 false, .box (qdetLaws0 a) 73 false, .gone]⟩) ?_ ?_
 refine En.seq ?_
 refine En.region ?_
 refine WL.run ht hn 2 ⟨[sl 8 (.ptr 3 0), sl 10 (.ptr 4 0), sl 12 (.ptr 5 0), sl 14 (.ptr 6 0), sl 79 (B ((mixR a (mixR a b 8).1 14).2 == 0))], [.gone, .gone, .gone, .box (qdetLaws1 a b) 73 false, .box (qdetLaws2 a b) 73 false, .box (qdetLaws0 a) 73 false, .box (ApiDet.cl (mixR a (mixR a b 8).1 14).1) 73 false]⟩ (by kernel_rfl) ?_
 refine WL.nil ?_
 refine En.cond (b := ((mixR a (mixR a b 8).1 14).2 == 0)) (by kernel_rfl) (fun hb => ?_) (fun hb => ?_)
 replace h := h.1 hb
 refine En.seq ?_
 refine En.region ?_
 refine WL.run ht hn 2 ⟨[sl 8 (.ptr 3 0), sl 10 (.ptr 4 0), sl 12 (.ptr 5 0), (80, .sv (.agg (ApiDet.cl (mixR a (mixR a b 8).1 14).1))), (81, .sv (.agg (qdetLaws0 a)))], [.gone, .gone, .gone, .box (qdetLaws1 a b) 73 false, .box (qdetLaws2 a b) 73 false, .box (qdetLaws0 a) 73 false, .gone]⟩ (by kernel_rfl) ?_
 refine WL.mt0 (K := []) (p := none) hn (by rfl) (mt_call (alike_ct (mixR a (mixR a b 8).1 14).1 (leastR a).1) en29 (caps := []) [] rfl (by rfl) (by kernel_rfl) (by kernel_rfl) (by rfl) (by rfl) (by rfl)) (by rfl) (by rfl) (by rfl) ?_
 refine WL.run ht hn 1 ⟨[sl 8 (.ptr 3 0), sl 10 (.ptr 4 0), sl 12 (.ptr 5 0), sl 16 (B (decide ((mixR a (mixR a b 8).1 14).1 = (leastR a).1)))], [.gone, .gone, .gone, .box (qdetLaws1 a b) 73 false, .box (qdetLaws2 a b) 73 false, .box (qdetLaws0 a) 73 false, .gone]⟩ (by kernel_rfl) ?_
 refine WL.nil ?_
 refine En.seq ?_
 refine En.region ?_
 refine WL.run ht hn 2 ⟨[sl 8 (.ptr 3 0), sl 10 (.ptr 4 0), sl 12 (.ptr 5 0), sl 84 (B (!(decide ((mixR a (mixR a b 8).1 14).1 = (leastR a).1))))], [.gone, .gone, .gone, .box (qdetLaws1 a b) 73 false, .box (qdetLaws2 a b) 73 false, .box (qdetLaws0 a) 73 false, .gone]⟩ (by kernel_rfl) ?_
 refine WL.nil ?_
 refine En.cond (b := (!(decide ((mixR a (mixR a b 8).1 14).1 = (leastR a).1)))) (by kernel_rfl) (fun hb => ?_) (fun hb => ?_)
 replace h := h.1 hb
 refine En.seq ?_
 refine En.region ?_
 refine WL.run ht hn 1 ⟨[sl 4 (B false)], [.gone, .gone, .gone, .gone, .gone, .gone, .gone]⟩ (by kernel_rfl) ?_
 refine WL.nil ?_
 refine En.ret ?_
 exact En.back ht false h (by kernel_rfl) rfl
 replace h := h.2 hb
 refine En.skip ?_
 exact En.at (I := fun _ => J_2) (T := fun _ => ⟨[sl 8 (.ptr 3 0), sl 10 (.ptr 4 0), sl 12 (.ptr 5 0)], [.gone, .gone, .gone, .box (qdetLaws1 a b) 73 false, .box (qdetLaws2 a b) 73 false, .box (qdetLaws0 a) 73 false, .gone]⟩) () h (by kernel_rfl)
 replace h := h.2 hb
 refine En.skip ?_
 exact En.at (I := fun _ => J_2) (T := fun _ => ⟨[sl 8 (.ptr 3 0), sl 10 (.ptr 4 0), sl 12 (.ptr 5 0)], [.gone, .gone, .gone, .box (qdetLaws1 a b) 73 false, .box (qdetLaws2 a b) 73 false, .box (qdetLaws0 a) 73 false, .gone]⟩) () h (by kernel_rfl)
 intro _ h
 replace h := hJ_2 h
 show En c ⟨[sl 8 (.ptr 3 0), sl 10 (.ptr 4 0), sl 12 (.ptr 5 0)], [.gone, .gone, .gone, .box (qdetLaws1 a b) 73 false, .box (qdetLaws2 a b) 73 false, .box (qdetLaws0 a) 73 false, .gone]⟩ _
 refine En.seq ?_
 refine En.region ?_
 refine WL.run ht hn 2 ⟨[sl 12 (.ptr 5 0), (86, .sv (.agg (qdetLaws1 a b))), (87, .sv (.agg (qdetLaws2 a b)))], [.gone, .gone, .gone, .gone, .gone, .box (qdetLaws0 a) 73 false, .gone]⟩ (by kernel_rfl) ?_
 have hp := h.1
 replace h := h.2
 refine WL.mt0 (K := []) (p := none) hn (by rfl) (mt_call (detDiffer_ct (mixR a b 14).1 (mixR a b 1).1 hp) en32 (caps := []) [] rfl (by rfl) (by kernel_rfl) (by kernel_rfl) (by rfl) (by rfl) (by rfl)) (by rfl) (by rfl) (by rfl) ?_
 refine WL.run ht hn 7 ⟨[sl 7 (I ((([] : List Int), true, (0 : Int))).2.2), sl 12 (.ptr 5 0), sl 17 (LS intT ((([] : List Int), true, (0 : Int))).1), sl 18 (B ((([] : List Int), true, (0 : Int))).2.1)], [.gone, .gone, .gone, .gone, .gone, .box (qdetLaws0 a) 73 false, .gone]⟩ (by kernel_rfl) ?_
 refine WL.nil ?_
 refine En.seq ?_
 refine En.seq ?_
 refine En.region ?_
 refine WL.run ht hn 3 ⟨[sl 12 (.ptr 5 0), sl 17 (LS intT ((([] : List Int), true, (0 : Int))).1), sl 18 (B ((([] : List Int), true, (0 : Int))).2.1), sl 94 (B (((([] : List Int), true, (0 : Int))).2.2 != 0))], [.gone, .gone, .gone, .gone, .gone, .box (qdetLaws0 a) 73 false, .gone]⟩ (by kernel_rfl) ?_
 refine WL.thru ⟨[sl 12 (.ptr 5 0), sl 102 (B (((((([] : List Int), true, (0 : Int))).2.2 != 0) || (!((([] : List Int), true, (0 : Int))).2.1)) || ((((([] : List Int), true, (0 : Int))).1.length : Int) != 0)))], [.gone, .gone, .gone, .gone, .gone, .box (qdetLaws0 a) 73 false, .gone]⟩ ?_ ?_
 refine splitB (((([] : List Int), true, (0 : Int))).2.2 != 0) (fun hb0 => ?_) (fun hb0 => ?_)
 refine WL.setB 94 hb0 (by kernel_rfl) ?_
 refine WL.run ht hn 8 ⟨[sl 12 (.ptr 5 0), sl 102 (B true)], [.gone, .gone, .gone, .gone, .gone, .box (qdetLaws0 a) 73 false, .gone]⟩ (by kernel_rfl) ?_
 exact WL.nil (sub_ok (by simp only [hb0]; kernel_rfl))
 refine WL.setB 94 hb0 (by kernel_rfl) ?_
 refine WL.run ht hn 4 ⟨[sl 12 (.ptr 5 0), sl 17 (LS intT ((([] : List Int), true, (0 : Int))).1), sl 98 (B (!((([] : List Int), true, (0 : Int))).2.1))], [.gone, .gone, .gone, .gone, .gone, .box (qdetLaws0 a) 73 false, .gone]⟩ (by kernel_rfl) ?_
 refine splitB (!((([] : List Int), true, (0 : Int))).2.1) (fun hb1 => ?_) (fun hb1 => ?_)
 refine WL.setB 98 hb1 (by kernel_rfl) ?_
 refine WL.run ht hn 4 ⟨[sl 12 (.ptr 5 0), sl 102 (B true)], [.gone, .gone, .gone, .gone, .gone, .box (qdetLaws0 a) 73 false, .gone]⟩ (by kernel_rfl) ?_
 exact WL.nil (sub_ok (by simp only [hb0, hb1]; kernel_rfl))
 refine WL.setB 98 hb1 (by kernel_rfl) ?_
 refine WL.run ht hn 4 ⟨[sl 12 (.ptr 5 0), sl 102 (B ((((([] : List Int), true, (0 : Int))).1.length : Int) != 0))], [.gone, .gone, .gone, .gone, .gone, .box (qdetLaws0 a) 73 false, .gone]⟩ (by kernel_rfl) ?_
 exact WL.nil (sub_ok (by simp only [hb0, hb1]; kernel_rfl))
 refine En.cond (b := (((((([] : List Int), true, (0 : Int))).2.2 != 0) || (!((([] : List Int), true, (0 : Int))).2.1)) || ((((([] : List Int), true, (0 : Int))).1.length : Int) != 0))) (by kernel_rfl) (fun hb => ?_) (fun hb => ?_)
 replace h := h.1 hb
 refine En.seq ?_
 refine En.region ?_
 refine WL.run ht hn 1 ⟨[sl 4 (B false)], [.gone, .gone, .gone, .gone, .gone, .gone, .gone]⟩ (by kernel_rfl) ?_
 refine WL.nil ?_
 refine En.ret ?_
 exact En.back ht false h (by kernel_rfl) rfl
 replace h := h.2 hb
 refine En.skip ?_
 refine En.seq ?_
 refine En.region ?_
 refine WL.run ht hn 1 ⟨[sl 12 (.ptr 5 0), (104, .sv (.agg (qdetLaws0 a)))], [.gone, .gone, .gone, .gone, .gone, .box (qdetLaws0 a) 73 false, .gone]⟩ (by kernel_rfl) ?_
 refine WL.mt0 (K := []) (p := none) hn (by rfl) (mt_call (detLeast_ct (leastR a).1) en31 (caps := []) [] rfl (by rfl) (by kernel_rfl) (by kernel_rfl) (by rfl) (by rfl) (by rfl)) (by rfl) (by rfl) (by rfl) ?_
 refine WL.run ht hn 6 ⟨[sl 7 (I (leastR (leastR a).1).2), sl 12 (.ptr 5 0), sl 19 (.ptr 7 0)], [.gone, .gone, .gone, .gone, .gone, .box (qdetLaws0 a) 73 false, .gone, .box (ApiDet.cl (leastR (leastR a).1).1) 73 false]⟩ (by kernel_rfl) ?_
 refine WL.nil ?_
 refine En.seq ?_
 refine En.region ?_
 refine WL.run ht hn 2 ⟨[sl 7 (I (leastR (leastR a).1).2), (108, .sv (.agg (ApiDet.cl (leastR (leastR a).1).1))), (109, .sv (.agg (qdetLaws0 a)))], [.gone, .gone, .gone, .gone, .gone, .gone, .gone, .gone]⟩ (by kernel_rfl) ?_
 refine WL.mt0 (K := []) (p := none) hn (by rfl) (mt_call (alike_ct (leastR (leastR a).1).1 (leastR a).1) en29 (caps := []) [] rfl (by rfl) (by kernel_rfl) (by kernel_rfl) (by rfl) (by rfl) (by rfl)) (by rfl) (by rfl) (by rfl) ?_
 refine WL.run ht hn 1 ⟨[sl 7 (I (leastR (leastR a).1).2), sl 20 (B (qdetLaws5 a))], [.gone, .gone, .gone, .gone, .gone, .gone, .gone, .gone]⟩ (by kernel_rfl) ?_
 refine WL.nil ?_
 refine En.seq ?_
 refine En.region ?_
 refine WL.run ht hn 3 ⟨[sl 20 (B (qdetLaws5 a)), sl 113 (B ((leastR (leastR a).1).2 == 0))], [.gone, .gone, .gone, .gone, .gone, .gone, .gone, .gone]⟩ (by kernel_rfl) ?_
 refine WL.thru ⟨[sl 4 (B (((leastR (leastR a).1).2 == 0) && (qdetLaws5 a)))], [.gone, .gone, .gone, .gone, .gone, .gone, .gone, .gone]⟩ ?_ ?_
 refine splitB ((leastR (leastR a).1).2 == 0) (fun hb0 => ?_) (fun hb0 => ?_)
 refine WL.setB 113 hb0 (by kernel_rfl) ?_
 refine WL.run ht hn 3 ⟨[sl 4 (B (qdetLaws5 a))], [.gone, .gone, .gone, .gone, .gone, .gone, .gone, .gone]⟩ (by kernel_rfl) ?_
 exact WL.nil (sub_ok (by simp only [hb0]; kernel_rfl))
 refine WL.setB 113 hb0 (by kernel_rfl) ?_
 refine WL.run ht hn 3 ⟨[sl 4 (B false)], [.gone, .gone, .gone, .gone, .gone, .gone, .gone, .gone]⟩ (by kernel_rfl) ?_
 exact WL.nil (sub_ok (by simp only [hb0]; kernel_rfl))
 refine En.ret ?_
 exact En.back ht (((leastR (leastR a).1).2 == 0) && (qdetLaws5 a)) h (by kernel_rfl) rfl
theorem lang_01 {d : ApiDet} (h : DetOk d) (q : Nat) (w : List Nat) : langD d q w = 0 ∨ langD d q w = 1 := by
  unfold langD
  by_cases hq : w.foldl (stepD d) q < d.fMark.length
  · exact h.mark _ (by
      rw [List.getD_eq_getElem?_getD, List.getElem?_eq_getElem hq]
      exact List.getElem_mem hq)
  · left
    rw [List.getD_eq_getElem?_getD, List.getElem?_eq_none (by omega)]
    rfl
theorem mixOk {a b : ApiDet} (ha : DetOk a) (hb : DetOk b) (hS : a.fNext.length * b.fNext.length ≤ 3000) (t : Int) : CanonOk a.fLetters.toNat (mixLang a b t) 3000 := by
  have h1 : (⟨a.fStart, b.fStart⟩ : DetCouple) ∈ allCpl a.fNext.length b.fNext.length := allCpl_mem.2 ⟨ha.start, hb.start⟩
  have hP : ∀ k c, k ∈ allCpl a.fNext.length b.fNext.length → c < a.fLetters.toNat → cplGo a b k ((c : Nat) : Int) ∈ allCpl a.fNext.length b.fNext.length := fun k c hk _ => by
    have hk := allCpl_mem.1 hk
    refine allCpl_mem.2 ⟨?_, ?_⟩
    · have := step_in ha hk.1 c
      unfold cplGo
      simpa using this
    · have := step_in hb hk.2 c
      unfold cplGo
      simpa using this
  have h := canonOk_keys (mark := cplMark t a b) h1 hP
  rw [allCpl_len] at h
  exact (h.mono hS).congr fun w _ => cpl_lang w _ ha.start.1 hb.start.1
theorem mix_absorb {a b : ApiDet} (ha : DetOk a) (hb : DetOk b) (hS : a.fNext.length * b.fNext.length ≤ 3000) (t u : Int) (htu : (t = 8 ∧ u = 14) ∨ (t = 14 ∧ u = 8)) (h : (mixR a (canon a.fLetters.toNat (mixLang a b u)) t).2 = 0) : (mixR a (canon a.fLetters.toNat (mixLang a b u)) t).1 = canon a.fLetters.toNat (langD a a.fStart.toNat) := by
  have hC := mixOk ha hb hS u
  have ht : 0 ≤ t ∧ t ≤ 15 := by omega
  unfold mixR at h ⊢
  by_cases e1 : twoErr a (canon a.fLetters.toNat (mixLang a b u)) = 0
  · rw [if_pos e1, if_pos ht] at h ⊢
    by_cases e2 : a.fNext.length * (canon a.fLetters.toNat (mixLang a b u)).fNext.length ≤ 3000
    · rw [if_pos e2]
      refine canon_congr fun w hw => ?_
      show tabB t (langD a a.fStart.toNat w) (langD (canon a.fLetters.toNat (mixLang a b u)) (canon a.fLetters.toNat (mixLang a b u)).fStart.toNat w) = _
      rw [hC.start, show (0 : Int).toNat = 0 from rfl, hC.lang w hw]
      show tabB t (langD a a.fStart.toNat w) (tabB u (langD a a.fStart.toNat w) (langD b b.fStart.toNat w)) = _
      rcases htu with ⟨rfl, rfl⟩ | ⟨rfl, rfl⟩ <;> rcases lang_01 ha a.fStart.toNat w with e | e <;> rcases lang_01 hb b.fStart.toNat w with e3 | e3 <;> rw [e, e3] <;> kernel_rfl
    · rw [if_neg e2] at h
      exact absurd h (by decide)
  · rw [if_neg e1] at h
    exact absurd h e1
theorem detLaws_ct (a : ApiDet) (b : ApiDet)  : Ct 11 [.sv (.agg [I a.fLetters, I a.fStart, LS (lsT intT) a.fNext, LS intT a.fMark]), .sv (.agg [I b.fLetters, I b.fStart, LS (lsT intT) b.fNext, LS intT b.fMark])] [] (fun (_ : Unit) => True) (fun _ => .sv (.one (B (true)))) := by
  refine (detLaws_walk a b (fun res_ => res_ = (true)) ?_).fun
  intro _ _ _ _
  refine ⟨fun h => (by cases h), fun _ => ⟨fun _ => rfl, fun h0 => ?_⟩⟩
  have h0 : (mixR a b 8).2 = 0 := by simpa using h0
  have hE : twoErr a b = 0 := Decidable.byContradiction fun hc => by
    unfold mixR at h0
    rw [if_neg hc] at h0
    exact hc h0
  have hS : a.fNext.length * b.fNext.length ≤ 3000 := Decidable.byContradiction fun hc => by
    unfold mixR at h0
    rw [if_pos hE, if_pos (by decide), if_neg hc] at h0
    exact absurd h0 (by decide)
  obtain ⟨ha, hb, hl⟩ := (twoErr_iff a b).1 hE
  have hlet := ha.letters
  have hsz := ha.size
  have hM : ∀ t : Int, 0 ≤ t ∧ t ≤ 15 → mixR a b t = (canon a.fLetters.toNat (mixLang a b t), 0) := fun t ht => by
    unfold mixR
    rw [if_pos hE, if_pos ht, if_pos hS]
  have hL : leastR a = (canon a.fLetters.toNat (langD a a.fStart.toNat), 0) := by
    unfold leastR
    rw [if_pos ((detErr_iff a).2 ha)]
  have h01 : ∀ t : Int, 0 ≤ t ∧ t ≤ 15 → ∀ w, mixLang a b t w = 0 ∨ mixLang a b t w = 1 := fun t ht w => by
    show tabB t _ _ = 0 ∨ tabB t _ _ = 1
    rw [tabB_01 ht (lang_01 ha _ w) (lang_01 hb _ w)]
    split
    · exact .inr rfl
    · exact .inl rfl
  have hD : ∀ t : Int, 0 ≤ t ∧ t ≤ 15 → DetOk (canon a.fLetters.toNat (mixLang a b t)) := fun t ht => (mixOk ha hb hS t).det (by omega) (by decide) (h01 t ht)
  rw [hM 8 (by decide), hM 14 (by decide), hM 1 (by decide), hL]
  refine ⟨fun h => (by cases (show false = true from h)), fun _ => ⟨True, ⟨fun hb1 => ⟨fun h => ?_, fun _ => trivial⟩, fun _ => trivial⟩, fun _ => ⟨True, ⟨fun hb1 => ⟨fun h => ?_, fun _ => trivial⟩, fun _ => trivial⟩, fun _ => ⟨⟨?_, ?_, ?_⟩, fun h => (by cases (show false = true from h)), fun _ => ?_⟩⟩⟩⟩
  · have := mix_absorb ha hb hS 8 14 (.inl ⟨rfl, rfl⟩) (eq_of_beq hb1)
    rw [Bool.not_eq_true', decide_eq_false_iff_not] at h
    exact absurd this h
  · have := mix_absorb ha hb hS 14 8 (.inr ⟨rfl, rfl⟩) (eq_of_beq hb1)
    rw [Bool.not_eq_true', decide_eq_false_iff_not] at h
    exact absurd this h
  · exact (twoErr_iff _ _).2 ⟨hD 14 (by decide), hD 1 (by decide), by rw [(mixOk ha hb hS 14).letters, (mixOk ha hb hS 1).letters]⟩
  · have k1 := hD 14 (by decide)
    have k2 := hD 1 (by decide)
    have m1 := k1.marks
    have m2 := k2.marks
    refine ⟨?_, ?_⟩
    · show (idx (canon a.fLetters.toNat (mixLang a b 14)).fMark (canon a.fLetters.toNat (mixLang a b 14)).fStart).isSome = true
      rw [idx_getD 0 k1.start.1 (by rw [m1]; exact k1.start.2)]
      rfl
    · show (idx (canon a.fLetters.toNat (mixLang a b 1)).fMark (canon a.fLetters.toNat (mixLang a b 1)).fStart).isSome = true
      rw [idx_getD 0 k2.start.1 (by rw [m2]; exact k2.start.2)]
      rfl
  · have k1 := hD 14 (by decide)
    have k2 := hD 1 (by decide)
    have m1 := k1.marks
    have m2 := k2.marks
    have l1 := (mixOk ha hb hS 14).lang [] (by simp)
    have l2 := (mixOk ha hb hS 1).lang [] (by simp)
    show ((idx (canon a.fLetters.toNat (mixLang a b 14)).fMark (canon a.fLetters.toNat (mixLang a b 14)).fStart).getD 0 != (idx (canon a.fLetters.toNat (mixLang a b 1)).fMark (canon a.fLetters.toNat (mixLang a b 1)).fStart).getD 0) = true
    rw [idx_getD 0 k1.start.1 (by rw [m1]; exact k1.start.2), idx_getD 0 k2.start.1 (by rw [m2]; exact k2.start.2), (mixOk ha hb hS 14).start, (mixOk ha hb hS 1).start]
    have l1 : (canon a.fLetters.toNat (mixLang a b 14)).fMark.getD 0 0 = tabB 14 (langD a a.fStart.toNat []) (langD b b.fStart.toNat []) := l1
    have l2 : (canon a.fLetters.toNat (mixLang a b 1)).fMark.getD 0 0 = tabB 1 (langD a a.fStart.toNat []) (langD b b.fStart.toNat []) := l2
    show ((canon a.fLetters.toNat (mixLang a b 14)).fMark.getD 0 0 != (canon a.fLetters.toNat (mixLang a b 1)).fMark.getD 0 0) = true
    rw [l1, l2]
    rcases lang_01 ha a.fStart.toNat [] with e | e <;> rcases lang_01 hb b.fStart.toNat [] with e3 | e3 <;> rw [e, e3] <;> kernel_rfl
  · have hA : CanonOk a.fLetters.toNat (langD a a.fStart.toNat) 3000 := (canonOk_det ha.cls.pre (by have := ha.start; omega)).mono hsz.2
    have hA2 : DetOk (canon a.fLetters.toNat (langD a a.fStart.toNat)) := hA.det (by omega) (by decide) (fun w => lang_01 ha _ w)
    have hf : leastR (canon a.fLetters.toNat (langD a a.fStart.toNat)) = (canon a.fLetters.toNat (langD a a.fStart.toNat), 0) := by
      unfold leastR
      rw [if_pos ((detErr_iff _).2 hA2), hA.letters, hA.start, show (0 : Int).toNat = 0 from rfl, Int.toNat_natCast, canon_canon hA]
    show ((leastR (canon a.fLetters.toNat (langD a a.fStart.toNat))).2 == 0 && decide ((leastR (canon a.fLetters.toNat (langD a a.fStart.toNat))).1 = canon a.fLetters.toNat (langD a a.fStart.toNat))) = true
    rw [hf]
    simp
end Go.Proofs.Ytapnmjeadbhffaa

