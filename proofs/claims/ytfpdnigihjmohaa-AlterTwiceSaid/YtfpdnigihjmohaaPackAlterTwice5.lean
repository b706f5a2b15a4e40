/- Lemmas towards the statement: mirrors of functions, and plain laws. No condition. -/
import Derived.Laws.BitsLemmas
import Derived.Test.YtfpdnigihjmohaaPackAlterTwice4

/- Contracts of det.Explore and det.Smallest. No condition. -/
namespace Go.Proofs.Ytfpdnigihjmohaa
open Go.RowKit Go.MapKept
set_option linter.unusedSimpArgs false
set_option linter.unusedVariables false
set_option maxRecDepth 100000

/-- exploring may go on -/
def ExplPre {K : Type} (letters : Int) (start : K) (domgo : (K × Int) → Prop) (go : (K × Int) → K) (dommark : K → Prop) (limit : Int) : Prop :=
  (0 ≤ letters ∧ letters ≤ 1000) ∧ (1 ≤ limit ∧ limit ≤ 2097152) ∧ ∃ P : K → Prop, P start ∧ (∀ k (a : Nat), P k → (a : Int) < letters → domgo (k, (a : Int)) ∧ P (go (k, (a : Int)))) ∧ ∀ k, P k → dommark k
theorem exploreInt_ct (letters : Int) (start : Int) (domgo : ((Int × Int) → Prop)) (go : ((Int × Int) → Int)) (dommark : (Int → Prop)) (mark : (Int → Int)) (limit : Int) (hp : ExplPre letters start domgo go dommark limit) : Ct 72 [.sv (.one (I letters)), .sv (.one (I start)), .sv (.one (.rd (fvR (fun (x : (Int × Int)) => [.sv (.one (I x.1)), .sv (.one (I x.2))]) (fun (r : Int) => .sv (.one (I r))) domgo go))), .sv (.one (.rd (fvR (fun (x : Int) => [.sv (.one (I x))]) (fun (r : Int) => .sv (.one (I r))) dommark mark))), .sv (.one (I limit))] [] (fun (_ : Unit) => True) (fun _ => .tup [.agg [I (explR (fun k (a : Nat) => go (k, (a : Int))) mark letters.toNat start limit).1.fLetters, I (explR (fun k (a : Nat) => go (k, (a : Int))) mark letters.toNat start limit).1.fStart, LS (lsT intT) (explR (fun k (a : Nat) => go (k, (a : Int))) mark letters.toNat start limit).1.fNext, LS intT (explR (fun k (a : Nat) => go (k, (a : Int))) mark letters.toNat start limit).1.fMark], .one (B (explR (fun k (a : Nat) => go (k, (a : Int))) mark letters.toNat start limit).2)]) := by
  refine (exploreInt_walk letters start domgo go dommark mark limit (fun res_ => res_ = (explR (fun k (a : Nat) => go (k, (a : Int))) mark letters.toNat start limit)) ?_).fun
  obtain ⟨h1, h2, P, h3, h4, h5⟩ := hp
  exact explore_plain letters start domgo go dommark mark limit 8 (fun r => r = explR (fun k (a : Nat) => go (k, (a : Int))) mark letters.toNat start limit) P h3 h4 h5 h1 h2 (by decide) rfl
theorem exploreOwn_ct (letters : Int) (start : Int) (domgo : ((Int × Int) → Prop)) (go : ((Int × Int) → Int)) (dommark : (Int → Prop)) (mark : (Int → Int)) (limit : Int) (hp : ExplPre letters start domgo go dommark limit) : CtS 72 [.sv (.one (I letters)), .sv (.one (I start)), .sv (.one (.rd (fvR (fun (x : (Int × Int)) => [.sv (.one (I x.1)), .sv (.one (I x.2))]) (fun (r : Int) => .sv (.one (I r))) domgo go))), .sv (.one (.rd (fvR (fun (x : Int) => [.sv (.one (I x))]) (fun (r : Int) => .sv (.one (I r))) dommark mark))), .sv (.one (I limit))] [] (fun (_ : Unit) => True) (fun _ => .tup [.agg [I (explR (fun k (a : Nat) => go (k, (a : Int))) mark letters.toNat start limit).1.fLetters, I (explR (fun k (a : Nat) => go (k, (a : Int))) mark letters.toNat start limit).1.fStart, LS (lsT intT) (explR (fun k (a : Nat) => go (k, (a : Int))) mark letters.toNat start limit).1.fNext, .own 0], .one (B (explR (fun k (a : Nat) => go (k, (a : Int))) mark letters.toNat start limit).2)]) (fun _ => rowI 3 intT (explR (fun k (a : Nat) => go (k, (a : Int))) mark letters.toNat start limit).1.fMark) := by
  refine (exploreOwn_walk letters start domgo go dommark mark limit (fun res_ => res_ = (explR (fun k (a : Nat) => go (k, (a : Int))) mark letters.toNat start limit)) ?_).fun
  obtain ⟨h1, h2, P, h3, h4, h5⟩ := hp
  exact explore_plain letters start domgo go dommark mark limit 8 (fun r => r = explR (fun k (a : Nat) => go (k, (a : Int))) mark letters.toNat start limit) P h3 h4 h5 h1 h2 (by decide) rfl
def smGo_vc (k : Int) (a : Int) (cls : (List Int)) (d : ApiDet) (back : (List Int)) (Q : Int → Prop) : Prop :=
  ∃ e, idx back k = some e ∧
  ∃ e_2, idx d.fNext e = some e_2 ∧
  ∃ e_3, idx e_2 a = some e_3 ∧
  ∃ e_4, idx cls e_3 = some e_4 ∧
  Q e_4
theorem smGo_walk (k : Int) (a : Int) (cls : (List Int)) (d : ApiDet) (back : (List Int)) (Q : Int → Prop) (h : smGo_vc k a cls d back Q) : Ct 132 [.sv (.one (I k)), .sv (.one (I a)), .sv (.one (.ptr 0 0)), .sv (.one (.ptr 1 0)), .sv (.one (.ptr 2 0))] [.box [LS intT cls] 22 true, .box [I d.fLetters, I d.fStart, LS (lsT intT) d.fNext, LS intT d.fMark] 80 true, .box [LS intT back] 22 true] Q (fun (r : Int) => .sv (.one (I r))) := by
  have ht := tab_ok
  refine Ct.body Try.func132 rfl rfl rfl rfl (fun c hn => ?_)
  unfold smGo_vc at h
  refine En.seq ?_
  refine En.region ?_
  refine WL.run ht hn 1 ⟨[(0, .sv (.one (I k))), (1, .sv (.one (I a))), (2, .sv (.one (.ptr 0 0))), (3, .sv (.one (.ptr 1 0))), (4, .sv (.one (.ptr 2 0)))], [.box [LS intT cls] 22 true, .box [I d.fLetters, I d.fStart, LS (lsT intT) d.fNext, LS intT d.fMark] 80 true, .box [LS intT back] 22 true]⟩ (by kernel_rfl) ?_
  refine WL.nil ?_
  refine En.seq ?_
  refine En.regionS (by kernel_rfl) (by kernel_rfl) ?_
  refine SL.run ht hn 5 ⟨[(0, .sv (.one (I k))), (1, .sv (.one (I a))), (2, .sv (.one (.ptr 0 0))), (3, .sv (.one (.ptr 1 0))), (4, .sv (.one (.ptr 2 0))), (8, .sv (.one (LS intT cls))), (9, .sv (.one (.ptr 1 2))), (10, .sv (.one (LS (lsT intT) d.fNext))), (11, .sv (.one (LS intT back))), (12, .sv (.one (I k)))], [.box [LS intT cls] 22 true, .box [I d.fLetters, I d.fStart, LS (lsT intT) d.fNext, LS intT d.fMark] 80 true, .box [LS intT back] 22 true]⟩ (by kernel_rfl) ?_
  obtain ⟨e, he, h⟩ := h
  refine SL.val hn (by rfl) (val_index (T := intT) (l := back) (i := k) ht rfl (by rfl) (by rfl) (by rfl) (by rfl) (by rfl) (by rfl) he) (by rfl) ?_
  refine SL.val hn (by rfl) (val_load (s := .one (I e)) ht rfl (by rfl) (by rfl) (by rfl) (by rfl) (by rfl)) (by rfl) ?_
  obtain ⟨e_2, he_2, h⟩ := h
  refine SL.val hn (by rfl) (val_index (T := (lsT intT)) (l := d.fNext) (i := e) ht rfl (by rfl) (by rfl) (by rfl) (by rfl) (by rfl) (by rfl) he_2) (by rfl) ?_
  refine SL.val hn (by rfl) (val_load (s := .one (LS intT e_2)) ht rfl (by rfl) (by rfl) (by rfl) (by rfl) (by rfl)) (by rfl) ?_
  refine SL.run ht hn 1 ⟨[(0, .sv (.one (I k))), (1, .sv (.one (I a))), (2, .sv (.one (.ptr 0 0))), (3, .sv (.one (.ptr 1 0))), (4, .sv (.one (.ptr 2 0))), (8, .sv (.one (LS intT cls))), (9, .sv (.one (.ptr 1 2))), (10, .sv (.one (LS (lsT intT) d.fNext))), (11, .sv (.one (LS intT back))), (12, .sv (.one (I k))), (13, .sv (.one (.pe (svR (.one (I e))) 1))), (14, .sv (.one (I e))), (15, .sv (.one (.pe (svR (.one (LS intT e_2))) 1))), (16, .sv (.one (LS intT e_2))), (17, .sv (.one (I a)))], [.box [LS intT cls] 22 true, .box [I d.fLetters, I d.fStart, LS (lsT intT) d.fNext, LS intT d.fMark] 80 true, .box [LS intT back] 22 true]⟩ (by kernel_rfl) ?_
  obtain ⟨e_3, he_3, h⟩ := h
  refine SL.val hn (by rfl) (val_index (T := intT) (l := e_2) (i := a) ht rfl (by rfl) (by rfl) (by rfl) (by rfl) (by rfl) (by rfl) he_3) (by rfl) ?_
  refine SL.val hn (by rfl) (val_load (s := .one (I e_3)) ht rfl (by rfl) (by rfl) (by rfl) (by rfl) (by rfl)) (by rfl) ?_
  obtain ⟨e_4, he_4, h⟩ := h
  refine SL.val hn (by rfl) (val_index (T := intT) (l := cls) (i := e_3) ht rfl (by rfl) (by rfl) (by rfl) (by rfl) (by rfl) (by rfl) he_4) (by rfl) ?_
  refine SL.val hn (by rfl) (val_load (s := .one (I e_4)) ht rfl (by rfl) (by rfl) (by rfl) (by rfl) (by rfl)) (by rfl) ?_
  refine SL.run ht hn 1 ⟨[(0, .sv (.one (I k))), (1, .sv (.one (I a))), (2, .sv (.one (.ptr 0 0))), (3, .sv (.one (.ptr 1 0))), (4, .sv (.one (.ptr 2 0))), (7, .sv (.one (I e_4))), (8, .sv (.one (LS intT cls))), (9, .sv (.one (.ptr 1 2))), (10, .sv (.one (LS (lsT intT) d.fNext))), (11, .sv (.one (LS intT back))), (12, .sv (.one (I k))), (13, .sv (.one (.pe (svR (.one (I e))) 1))), (14, .sv (.one (I e))), (15, .sv (.one (.pe (svR (.one (LS intT e_2))) 1))), (16, .sv (.one (LS intT e_2))), (17, .sv (.one (I a))), (18, .sv (.one (.pe (svR (.one (I e_3))) 1))), (19, .sv (.one (I e_3))), (20, .sv (.one (.pe (svR (.one (I e_4))) 1))), (21, .sv (.one (I e_4)))], [.box [LS intT cls] 22 true, .box [I d.fLetters, I d.fStart, LS (lsT intT) d.fNext, LS intT d.fMark] 80 true, .box [LS intT back] 22 true]⟩ (by kernel_rfl) ?_
  refine SL.nil ⟨by kernel_rfl, ?_⟩
  refine En.ret ?_
  exact En.back ht e_4 h (by kernel_rfl) rfl
theorem en132 : ∀ args w, (callFunc 132 args).run Try.prog w = .ok (.enter 132 args) w := enters_of Try.func132 (by kernel_rfl) rfl
def smMark_vc (k : Int) (d : ApiDet) (back : (List Int)) (Q : Int → Prop) : Prop :=
  ∃ e, idx back k = some e ∧
  ∃ e_2, idx d.fMark e = some e_2 ∧
  Q e_2
theorem smMark_walk (k : Int) (d : ApiDet) (back : (List Int)) (Q : Int → Prop) (h : smMark_vc k d back Q) : Ct 133 [.sv (.one (I k)), .sv (.one (.ptr 0 0)), .sv (.one (.ptr 1 0))] [.box [I d.fLetters, I d.fStart, LS (lsT intT) d.fNext, LS intT d.fMark] 80 true, .box [LS intT back] 22 true] Q (fun (r : Int) => .sv (.one (I r))) := by
  have ht := tab_ok
  refine Ct.body Try.func133 rfl rfl rfl rfl (fun c hn => ?_)
  unfold smMark_vc at h
  refine En.seq ?_
  refine En.region ?_
  refine WL.run ht hn 1 ⟨[(0, .sv (.one (I k))), (1, .sv (.one (.ptr 0 0))), (2, .sv (.one (.ptr 1 0)))], [.box [I d.fLetters, I d.fStart, LS (lsT intT) d.fNext, LS intT d.fMark] 80 true, .box [LS intT back] 22 true]⟩ (by kernel_rfl) ?_
  refine WL.nil ?_
  refine En.seq ?_
  refine En.regionS (by kernel_rfl) (by kernel_rfl) ?_
  refine SL.run ht hn 4 ⟨[(0, .sv (.one (I k))), (1, .sv (.one (.ptr 0 0))), (2, .sv (.one (.ptr 1 0))), (5, .sv (.one (.ptr 0 3))), (6, .sv (.one (LS intT d.fMark))), (7, .sv (.one (LS intT back))), (8, .sv (.one (I k)))], [.box [I d.fLetters, I d.fStart, LS (lsT intT) d.fNext, LS intT d.fMark] 80 true, .box [LS intT back] 22 true]⟩ (by kernel_rfl) ?_
  obtain ⟨e, he, h⟩ := h
  refine SL.val hn (by rfl) (val_index (T := intT) (l := back) (i := k) ht rfl (by rfl) (by rfl) (by rfl) (by rfl) (by rfl) (by rfl) he) (by rfl) ?_
  refine SL.val hn (by rfl) (val_load (s := .one (I e)) ht rfl (by rfl) (by rfl) (by rfl) (by rfl) (by rfl)) (by rfl) ?_
  obtain ⟨e_2, he_2, h⟩ := h
  refine SL.val hn (by rfl) (val_index (T := intT) (l := d.fMark) (i := e) ht rfl (by rfl) (by rfl) (by rfl) (by rfl) (by rfl) (by rfl) he_2) (by rfl) ?_
  refine SL.val hn (by rfl) (val_load (s := .one (I e_2)) ht rfl (by rfl) (by rfl) (by rfl) (by rfl) (by rfl)) (by rfl) ?_
  refine SL.run ht hn 1 ⟨[(0, .sv (.one (I k))), (1, .sv (.one (.ptr 0 0))), (2, .sv (.one (.ptr 1 0))), (4, .sv (.one (I e_2))), (5, .sv (.one (.ptr 0 3))), (6, .sv (.one (LS intT d.fMark))), (7, .sv (.one (LS intT back))), (8, .sv (.one (I k))), (9, .sv (.one (.pe (svR (.one (I e))) 1))), (10, .sv (.one (I e))), (11, .sv (.one (.pe (svR (.one (I e_2))) 1))), (12, .sv (.one (I e_2)))], [.box [I d.fLetters, I d.fStart, LS (lsT intT) d.fNext, LS intT d.fMark] 80 true, .box [LS intT back] 22 true]⟩ (by kernel_rfl) ?_
  refine SL.nil ⟨by kernel_rfl, ?_⟩
  refine En.ret ?_
  exact En.back ht e_2 h (by kernel_rfl) rfl
theorem en133 : ∀ args w, (callFunc 133 args).run Try.prog w = .ok (.enter 133 args) w := enters_of Try.func133 (by kernel_rfl) rfl
def smGo (cls : List Int) (d : ApiDet) (back : List Int) (c a : Int) : Int := cls.getD ((d.fNext.getD (back.getD c.toNat 0).toNat []).getD a.toNat 0).toNat 0
def smDom (cls : List Int) (d : ApiDet) (back : List Int) (c a : Int) : Prop := (0 ≤ c ∧ c < (back.length : Int)) ∧ (0 ≤ back.getD c.toNat 0 ∧ back.getD c.toNat 0 < (d.fNext.length : Int)) ∧ (0 ≤ a ∧ a < ((d.fNext.getD (back.getD c.toNat 0).toNat []).length : Int)) ∧ 0 ≤ (d.fNext.getD (back.getD c.toNat 0).toNat []).getD a.toNat 0 ∧ (d.fNext.getD (back.getD c.toNat 0).toNat []).getD a.toNat 0 < (cls.length : Int)
def smMark (d : ApiDet) (back : List Int) (c : Int) : Int := d.fMark.getD (back.getD c.toNat 0).toNat 0
def smMarkDom (d : ApiDet) (back : List Int) (c : Int) : Prop := (0 ≤ c ∧ c < (back.length : Int)) ∧ 0 ≤ back.getD c.toNat 0 ∧ back.getD c.toNat 0 < (d.fMark.length : Int)
theorem idx_getD {α : Type} {l : List α} {i : Int} (z : α) (h0 : 0 ≤ i) (h1 : i < (l.length : Int)) : idx l i = some (l.getD i.toNat z) := by
  unfold idx
  rw [if_pos h0]
  exact getD_some (by omega)
theorem smGo_ct (k : Int) (a : Int) (cls : (List Int)) (d : ApiDet) (back : (List Int)) (hd : smDom cls d back k a) : Ct 132 [.sv (.one (I k)), .sv (.one (I a)), .sv (.one (.ptr 0 0)), .sv (.one (.ptr 1 0)), .sv (.one (.ptr 2 0))] [.box [LS intT cls] 22 true, .box [I d.fLetters, I d.fStart, LS (lsT intT) d.fNext, LS intT d.fMark] 80 true, .box [LS intT back] 22 true] (fun (_ : Unit) => True) (fun _ => .sv (.one (I (smGo cls d back k a)))) := by
  refine (smGo_walk k a cls d back (fun res_ => res_ = (smGo cls d back k a)) ?_).fun
  obtain ⟨⟨h1, h2⟩, ⟨h3, h4⟩, ⟨h5, h6⟩, h7, h8⟩ := hd
  exact ⟨_, idx_getD 0 h1 h2, _, idx_getD [] h3 h4, _, idx_getD 0 h5 h6, _, idx_getD 0 h7 h8, rfl⟩
theorem smMark_ct (k : Int) (d : ApiDet) (back : (List Int)) (hd : smMarkDom d back k) : Ct 133 [.sv (.one (I k)), .sv (.one (.ptr 0 0)), .sv (.one (.ptr 1 0))] [.box [I d.fLetters, I d.fStart, LS (lsT intT) d.fNext, LS intT d.fMark] 80 true, .box [LS intT back] 22 true] (fun (_ : Unit) => True) (fun _ => .sv (.one (I (smMark d back k)))) := by
  refine (smMark_walk k d back (fun res_ => res_ = (smMark d back k)) ?_).fun
  obtain ⟨⟨h1, h2⟩, h3, h4⟩ := hd
  exact ⟨_, idx_getD 0 h1 h2, _, idx_getD 0 h3 h4, rfl⟩
def smallest_vc (d : ApiDet) (Q : ApiDet → Prop) : Prop :=
  d.fNext.length ≤ 9223372036854775807 →
  d.fMark.length ≤ 9223372036854775807 →
  ((ClsOk d) ∧
  ∀ r : (List Int), (IsClass d) r →
  (makeOk (r.length : Int) (r.length : Int) 8 ∧
  ∃ (Inv : Int → (List Int) → Prop) (mu : Int → (List Int) → Nat), Inv 0 (List.replicate ((r.length : Int)).toNat (0 : Int)) ∧
  ∀ (x16 : Int) (l3 : (List Int)) , Inv x16 l3 → (IfP (decide (x16 < (r.length : Int))) (∃ e, idx r x16 = some e ∧
  ∃ e_2, idx l3 e = some e_2 ∧
  (Inv (wr (x16 + 1)) (l3.set (e).toNat x16) ∧ mu (wr (x16 + 1)) (l3.set (e).toNat x16) < mu x16 l3)) (∃ e_3, idx r d.fStart = some e_3 ∧
  (ExplPre d.fLetters e_3 (fun (x : Int × Int) => smDom r d l3 x.1 x.2) (fun (x : Int × Int) => smGo r d l3 x.1 x.2) (smMarkDom d l3) (wr ((r.length : Int) + 1))) ∧
  Q (explR (fun k (a : Nat) => (fun (x : Int × Int) => smGo r d l3 x.1 x.2) (k, (a : Int))) (smMark d l3) (d.fLetters).toNat e_3 (wr ((r.length : Int) + 1))).1))))
theorem smallest_walk (d : ApiDet) (Q : ApiDet → Prop) (h : smallest_vc d Q) : Ct 76 [.sv (.agg [I d.fLetters, I d.fStart, LS (lsT intT) d.fNext, LS intT d.fMark])] [] Q (fun (r : ApiDet) => .sv (.agg [I r.fLetters, I r.fStart, LS (lsT intT) r.fNext, LS intT r.fMark])) := by
  have ht := tab_ok
  refine Ct.body Try.func76 rfl rfl rfl rfl (fun c hn => ?_)
  unfold smallest_vc at h
  refine En.lenA 0 2 (by rfl) (by rfl) (fun hl => ?_)
  replace h := h hl
  clear hl
  refine En.lenA 0 3 (by rfl) (by rfl) (fun hl => ?_)
  replace h := h hl
  clear hl
  refine En.seq ?_
  refine En.region ?_
  refine WL.run ht hn 2 ⟨[(1, .sv (.one (.ptr 0 0))), (2, .sv (.one (.ptr 1 0)))], [.box [I d.fLetters, I d.fStart, LS (lsT intT) d.fNext, LS intT d.fMark] 80 false, .box [I 0, I 0, .v (.slice none 0 0), .v (.slice none 0 0)] 80 false]⟩ (by kernel_rfl) ?_
  refine WL.nil ?_
  refine En.seq ?_
  refine En.region ?_
  refine WL.run ht hn 1 ⟨[(1, .sv (.one (.ptr 0 0))), (2, .sv (.one (.ptr 1 0))), (9, .sv (.agg [I d.fLetters, I d.fStart, LS (lsT intT) d.fNext, LS intT d.fMark]))], [.box [I d.fLetters, I d.fStart, LS (lsT intT) d.fNext, LS intT d.fMark] 80 false, .box [I 0, I 0, .v (.slice none 0 0), .v (.slice none 0 0)] 80 false]⟩ (by kernel_rfl) ?_
  have hp := h.1
  replace h := h.2
  refine WL.mtQ (Q := IsClass d) (x := fun (r : (List Int)) => .sv (.one (LS intT r))) (p := fun _ => none) hn (by rfl) (mtq_call (classes_ct d hp) en131 (caps := []) [] rfl (by rfl) (by kernel_rfl) (by kernel_rfl) (by rfl) (fun _ => rfl) (by rfl)) (fun r hr_2 => ⟨by rfl, _, by rfl, ?_⟩)
  replace h := h r hr_2
  refine WL.run ht hn 2 ⟨[(1, .sv (.one (.ptr 0 0))), (2, .sv (.one (.ptr 1 0))), (3, .sv (.one (.ptr 2 0)))], [.box [I d.fLetters, I d.fStart, LS (lsT intT) d.fNext, LS intT d.fMark] 80 false, .box [I 0, I 0, .v (.slice none 0 0), .v (.slice none 0 0)] 80 false, .box [LS intT r] 22 false]⟩ (by kernel_rfl) ?_
  refine WL.nil ?_
  refine En.seq ?_
  refine En.region ?_
  refine WL.run ht hn 2 ⟨[(1, .sv (.one (.ptr 0 0))), (2, .sv (.one (.ptr 1 0))), (3, .sv (.one (.ptr 2 0))), (12, .sv (.one (I (r.length : Int))))], [.box [I d.fLetters, I d.fStart, LS (lsT intT) d.fNext, LS intT d.fMark] 80 false, .box [I 0, I 0, .v (.slice none 0 0), .v (.slice none 0 0)] 80 false, .box [LS intT r] 22 false]⟩ (by kernel_rfl) ?_
  have hp := h.1
  replace h := h.2
  refine WL.mt0 (K := []) (p := some (3, rowI 3 intT (List.replicate ((r.length : Int)).toNat (0 : Int)))) hn (by rfl) (mt_make (T := intT) (0 : Int) (zv := (.int .i64 0)) 3 (l := (r.length : Int)) (cp := (r.length : Int)) ht rfl (by rfl) (by rfl) (by rfl) (by rfl) (by decide) (by rfl) (by rfl) hp.1 hp.2.1 hp.2.2 (hp.le (by decide)) rfl (fun _ => ⟨rfl, trivial⟩)) (by rfl) (by rfl) (by rfl) ?_
  refine WL.run ht hn 2 ⟨[(1, .sv (.one (.ptr 0 0))), (2, .sv (.one (.ptr 1 0))), (3, .sv (.one (.ptr 2 0))), (4, .sv (.one (.ptr 4 0)))], [.box [I d.fLetters, I d.fStart, LS (lsT intT) d.fNext, LS intT d.fMark] 80 false, .box [I 0, I 0, .v (.slice none 0 0), .v (.slice none 0 0)] 80 false, .box [LS intT r] 22 false, rowI 3 intT (List.replicate ((r.length : Int)).toNat (0 : Int)), .box [.own 3] 22 false]⟩ (by kernel_rfl) ?_
  refine WL.nil ?_
  refine En.seq ?_
  refine En.seq ?_
  refine En.region ?_
  refine WL.run ht hn 3 ⟨[(1, .sv (.one (.ptr 0 0))), (2, .sv (.one (.ptr 1 0))), (3, .sv (.one (.ptr 2 0))), (4, .sv (.one (.ptr 4 0))), (14, .sv (.one (LS intT r))), (15, .sv (.one (I (r.length : Int)))), (16, .sv (.one (I 0)))], [.box [I d.fLetters, I d.fStart, LS (lsT intT) d.fNext, LS intT d.fMark] 80 false, .box [I 0, I 0, .v (.slice none 0 0), .v (.slice none 0 0)] 80 false, .box [LS intT r] 22 false, rowI 3 intT (List.replicate ((r.length : Int)).toNat (0 : Int)), .box [.own 3] 22 false]⟩ (by kernel_rfl) ?_
  refine WL.nil ?_
  refine En.block ?_
  obtain ⟨Inv, mu, h0, hI⟩ := h
  refine En.loop (σ := Int × (List Int)) (fun zz => Inv zz.1 zz.2) (fun zz => mu zz.1 zz.2) (fun zz => ⟨[(1, .sv (.one (.ptr 0 0))), (2, .sv (.one (.ptr 1 0))), (3, .sv (.one (.ptr 2 0))), (4, .sv (.one (.ptr 4 0))), (14, .sv (.one (LS intT r))), (15, .sv (.one (I (r.length : Int)))), (16, .sv (.one (I zz.1)))], [.box [I d.fLetters, I d.fStart, LS (lsT intT) d.fNext, LS intT d.fMark] 80 false, .box [I 0, I 0, .v (.slice none 0 0), .v (.slice none 0 0)] 80 false, .box [LS intT r] 22 false, rowI 3 intT zz.2, .box [.own 3] 22 false]⟩) (0, (List.replicate ((r.length : Int)).toNat (0 : Int))) h0 (sub_ok (by kernel_rfl)) ?_
  rintro ⟨x16, l3⟩ h
  replace h := hI _ _ h
  show En c ⟨[(1, .sv (.one (.ptr 0 0))), (2, .sv (.one (.ptr 1 0))), (3, .sv (.one (.ptr 2 0))), (4, .sv (.one (.ptr 4 0))), (14, .sv (.one (LS intT r))), (15, .sv (.one (I (r.length : Int)))), (16, .sv (.one (I x16)))], [.box [I d.fLetters, I d.fStart, LS (lsT intT) d.fNext, LS intT d.fMark] 80 false, .box [I 0, I 0, .v (.slice none 0 0), .v (.slice none 0 0)] 80 false, .box [LS intT r] 22 false, rowI 3 intT l3, .box [.own 3] 22 false]⟩ _
  refine En.seq ?_
  refine En.region ?_
  refine WL.run ht hn 1 ⟨[(1, .sv (.one (.ptr 0 0))), (2, .sv (.one (.ptr 1 0))), (3, .sv (.one (.ptr 2 0))), (4, .sv (.one (.ptr 4 0))), (14, .sv (.one (LS intT r))), (15, .sv (.one (I (r.length : Int)))), (16, .sv (.one (I x16))), (17, .sv (.one (B (decide (x16 < (r.length : Int))))))], [.box [I d.fLetters, I d.fStart, LS (lsT intT) d.fNext, LS intT d.fMark] 80 false, .box [I 0, I 0, .v (.slice none 0 0), .v (.slice none 0 0)] 80 false, .box [LS intT r] 22 false, rowI 3 intT l3, .box [.own 3] 22 false]⟩ (by kernel_rfl) ?_
  refine WL.nil ?_
  refine En.seq ?_
  refine En.cond (b := (decide (x16 < (r.length : Int)))) (by kernel_rfl) (fun hb => ?_) (fun hb => ?_)
  · replace h := h.1 hb
    refine En.skip ?_
    refine En.seq ?_
    refine En.block ?_
    refine En.seq ?_
    refine En.region ?_
    refine WL.run ht hn 1 ⟨[(1, .sv (.one (.ptr 0 0))), (2, .sv (.one (.ptr 1 0))), (3, .sv (.one (.ptr 2 0))), (4, .sv (.one (.ptr 4 0))), (14, .sv (.one (LS intT r))), (15, .sv (.one (I (r.length : Int)))), (16, .sv (.one (I x16))), (18, .sv (.one (I x16)))], [.box [I d.fLetters, I d.fStart, LS (lsT intT) d.fNext, LS intT d.fMark] 80 false, .box [I 0, I 0, .v (.slice none 0 0), .v (.slice none 0 0)] 80 false, .box [LS intT r] 22 false, rowI 3 intT l3, .box [.own 3] 22 false]⟩ (by kernel_rfl) ?_
    obtain ⟨e, he, h⟩ := h
    refine WL.val hn (by rfl) (val_index (T := intT) (l := r) (i := x16) ht rfl (by rfl) (by rfl) (by rfl) (by rfl) (by rfl) (by rfl) he) (by rfl) ?_
    refine WL.val hn (by rfl) (val_load (s := .one (I e)) ht rfl (by rfl) (by rfl) (by rfl) (by rfl) (by rfl)) (by rfl) ?_
    refine WL.run ht hn 2 ⟨[(1, .sv (.one (.ptr 0 0))), (2, .sv (.one (.ptr 1 0))), (3, .sv (.one (.ptr 2 0))), (4, .sv (.one (.ptr 4 0))), (5, .sv (.one (I x16))), (6, .sv (.one (I e))), (14, .sv (.one (LS intT r))), (15, .sv (.one (I (r.length : Int)))), (16, .sv (.one (I x16)))], [.box [I d.fLetters, I d.fStart, LS (lsT intT) d.fNext, LS intT d.fMark] 80 false, .box [I 0, I 0, .v (.slice none 0 0), .v (.slice none 0 0)] 80 false, .box [LS intT r] 22 false, rowI 3 intT l3, .box [.own 3] 22 false]⟩ (by kernel_rfl) ?_
    refine WL.nil ?_
    refine En.region ?_
    refine WL.run ht hn 3 ⟨[(1, .sv (.one (.ptr 0 0))), (2, .sv (.one (.ptr 1 0))), (3, .sv (.one (.ptr 2 0))), (4, .sv (.one (.ptr 4 0))), (14, .sv (.one (LS intT r))), (15, .sv (.one (I (r.length : Int)))), (16, .sv (.one (I x16))), (21, .sv (.one (.own 3))), (22, .sv (.one (I e))), (23, .sv (.one (I x16)))], [.box [I d.fLetters, I d.fStart, LS (lsT intT) d.fNext, LS intT d.fMark] 80 false, .box [I 0, I 0, .v (.slice none 0 0), .v (.slice none 0 0)] 80 false, .box [LS intT r] 22 false, rowI 3 intT l3, .box [.own 3] 22 false]⟩ (by kernel_rfl) ?_
    obtain ⟨e_2, he_2, h⟩ := h
    refine WL.val hn (by rfl) (val_indexO (T := intT) (l := l3) (k := e) ht rfl (by rfl) (by rfl) (by rfl) (by rfl) (by decide) (by rfl) (by rfl) (by rfl) he_2) (by rfl) ?_
    refine WL.storeO (T := intT) (l := l3) (y := x16) ht hn (by rfl) rfl (by rfl) (by rfl) (fun _ h => by cases h) (by rfl) (by rfl) (idx_lt he_2) (by rfl) (by rfl) (by rfl) (by rfl) ?_
    refine WL.nil ?_
    refine En.region ?_
    refine WL.run ht hn 2 ⟨[(1, .sv (.one (.ptr 0 0))), (2, .sv (.one (.ptr 1 0))), (3, .sv (.one (.ptr 2 0))), (4, .sv (.one (.ptr 4 0))), (14, .sv (.one (LS intT r))), (15, .sv (.one (I (r.length : Int)))), (16, .sv (.one (I (wr (x16 + 1)))))], [.box [I d.fLetters, I d.fStart, LS (lsT intT) d.fNext, LS intT d.fMark] 80 false, .box [I 0, I 0, .v (.slice none 0 0), .v (.slice none 0 0)] 80 false, .box [LS intT r] 22 false, rowI 3 intT (l3.set (e).toNat x16), .box [.own 3] 22 false]⟩ (by kernel_rfl) ?_
    refine WL.nil ?_
    exact En.at (I := fun zz => Inv zz.1 zz.2 ∧ mu zz.1 zz.2 < mu x16 l3) (T := fun zz => ⟨[(1, .sv (.one (.ptr 0 0))), (2, .sv (.one (.ptr 1 0))), (3, .sv (.one (.ptr 2 0))), (4, .sv (.one (.ptr 4 0))), (14, .sv (.one (LS intT r))), (15, .sv (.one (I (r.length : Int)))), (16, .sv (.one (I zz.1)))], [.box [I d.fLetters, I d.fStart, LS (lsT intT) d.fNext, LS intT d.fMark] 80 false, .box [I 0, I 0, .v (.slice none 0 0), .v (.slice none 0 0)] 80 false, .box [LS intT r] 22 false, rowI 3 intT zz.2, .box [.own 3] 22 false]⟩) ((wr (x16 + 1)), (l3.set (e).toNat x16)) h (by kernel_rfl)
  · replace h := h.2 hb
    refine En.exit rfl ?_
    refine En.seq ?_
    refine En.seal 3 (by rfl) ?_
    refine En.freeze [2, 0, 4] (by rfl) ?_
    obtain ⟨e_3, he_3, h⟩ := h
    have hp_2 := h.1
    replace h := h.2
    refine En.regionA ⟨[(1, .sv (.one (.ptr 0 0))), (2, .sv (.one (.ptr 1 0))), (3, .sv (.one (.ptr 2 0))), (4, .sv (.one (.ptr 4 0)))], [.sv (.one (.ptr 0 0)), .sv (.one (I d.fLetters)), .sv (.one (LS intT r)), .sv (.one (.ptr 0 1)), .sv (.one (I d.fStart)), .sv (.one (.pe (svR (.one (I e_3))) 1)), .sv (.one (I e_3)), .sv (.one (.rd (fvR (fun (x_ : (Int × Int)) => [.sv (.one (I x_.1)), .sv (.one (I x_.2))]) (fun (r : Int) => .sv (.one (I r))) (fun (x : Int × Int) => smDom r d l3 x.1 x.2) (fun (x : Int × Int) => smGo r d l3 x.1 x.2)))), .sv (.one (.rd (fvR (fun (x_ : Int) => [.sv (.one (I x_))]) (fun (r : Int) => .sv (.one (I r))) (smMarkDom d l3) (smMark d l3)))), .sv (.one (LS intT r)), .sv (.one (I (r.length : Int))), .sv (.one (I (wr ((r.length : Int) + 1)))), .tup [.agg [I (explR (fun k (a : Nat) => (fun (x : Int × Int) => smGo r d l3 x.1 x.2) (k, (a : Int))) (smMark d l3) (d.fLetters).toNat e_3 (wr ((r.length : Int) + 1))).1.fLetters, I (explR (fun k (a : Nat) => (fun (x : Int × Int) => smGo r d l3 x.1 x.2) (k, (a : Int))) (smMark d l3) (d.fLetters).toNat e_3 (wr ((r.length : Int) + 1))).1.fStart, LS (lsT intT) (explR (fun k (a : Nat) => (fun (x : Int × Int) => smGo r d l3 x.1 x.2) (k, (a : Int))) (smMark d l3) (d.fLetters).toNat e_3 (wr ((r.length : Int) + 1))).1.fNext, LS intT (explR (fun k (a : Nat) => (fun (x : Int × Int) => smGo r d l3 x.1 x.2) (k, (a : Int))) (smMark d l3) (d.fLetters).toNat e_3 (wr ((r.length : Int) + 1))).1.fMark], .one (B (explR (fun k (a : Nat) => (fun (x : Int × Int) => smGo r d l3 x.1 x.2) (k, (a : Int))) (smMark d l3) (d.fLetters).toNat e_3 (wr ((r.length : Int) + 1))).2)], .tup [.agg [I (explR (fun k (a : Nat) => (fun (x : Int × Int) => smGo r d l3 x.1 x.2) (k, (a : Int))) (smMark d l3) (d.fLetters).toNat e_3 (wr ((r.length : Int) + 1))).1.fLetters, I (explR (fun k (a : Nat) => (fun (x : Int × Int) => smGo r d l3 x.1 x.2) (k, (a : Int))) (smMark d l3) (d.fLetters).toNat e_3 (wr ((r.length : Int) + 1))).1.fStart, LS (lsT intT) (explR (fun k (a : Nat) => (fun (x : Int × Int) => smGo r d l3 x.1 x.2) (k, (a : Int))) (smMark d l3) (d.fLetters).toNat e_3 (wr ((r.length : Int) + 1))).1.fNext, LS intT (explR (fun k (a : Nat) => (fun (x : Int × Int) => smGo r d l3 x.1 x.2) (k, (a : Int))) (smMark d l3) (d.fLetters).toNat e_3 (wr ((r.length : Int) + 1))).1.fMark], .one (B (explR (fun k (a : Nat) => (fun (x : Int × Int) => smGo r d l3 x.1 x.2) (k, (a : Int))) (smMark d l3) (d.fLetters).toNat e_3 (wr ((r.length : Int) + 1))).2)], .sv (.agg [I (explR (fun k (a : Nat) => (fun (x : Int × Int) => smGo r d l3 x.1 x.2) (k, (a : Int))) (smMark d l3) (d.fLetters).toNat e_3 (wr ((r.length : Int) + 1))).1.fLetters, I (explR (fun k (a : Nat) => (fun (x : Int × Int) => smGo r d l3 x.1 x.2) (k, (a : Int))) (smMark d l3) (d.fLetters).toNat e_3 (wr ((r.length : Int) + 1))).1.fStart, LS (lsT intT) (explR (fun k (a : Nat) => (fun (x : Int × Int) => smGo r d l3 x.1 x.2) (k, (a : Int))) (smMark d l3) (d.fLetters).toNat e_3 (wr ((r.length : Int) + 1))).1.fNext, LS intT (explR (fun k (a : Nat) => (fun (x : Int × Int) => smGo r d l3 x.1 x.2) (k, (a : Int))) (smMark d l3) (d.fLetters).toNat e_3 (wr ((r.length : Int) + 1))).1.fMark]), .sv (.one (B (explR (fun k (a : Nat) => (fun (x : Int × Int) => smGo r d l3 x.1 x.2) (k, (a : Int))) (smMark d l3) (d.fLetters).toNat e_3 (wr ((r.length : Int) + 1))).2)), .sv (.one (.ptr 5 0)), .tup [], .sv (.one (B (explR (fun k (a : Nat) => (fun (x : Int × Int) => smGo r d l3 x.1 x.2) (k, (a : Int))) (smMark d l3) (d.fLetters).toNat e_3 (wr ((r.length : Int) + 1))).2))], [⟨.box [I d.fLetters, I d.fStart, LS (lsT intT) d.fNext, LS intT d.fMark] 80 true, none, none, none⟩, ⟨.box [I 0, I 0, .v (.slice none 0 0), .v (.slice none 0 0)] 80 false, none, none, none⟩, ⟨.box [LS intT r] 22 true, none, none, none⟩, ⟨.gone, none, none, none⟩, ⟨.box [LS intT l3] 22 true, none, none, none⟩, ⟨.box [I 0, I 0, .v (.slice none 0 0), .v (.slice none 0 0)] 80 false, some 16, none, some (17, .box [I (explR (fun k (a : Nat) => (fun (x : Int × Int) => smGo r d l3 x.1 x.2) (k, (a : Int))) (smMark d l3) (d.fLetters).toNat e_3 (wr ((r.length : Int) + 1))).1.fLetters, I (explR (fun k (a : Nat) => (fun (x : Int × Int) => smGo r d l3 x.1 x.2) (k, (a : Int))) (smMark d l3) (d.fLetters).toNat e_3 (wr ((r.length : Int) + 1))).1.fStart, LS (lsT intT) (explR (fun k (a : Nat) => (fun (x : Int × Int) => smGo r d l3 x.1 x.2) (k, (a : Int))) (smMark d l3) (d.fLetters).toNat e_3 (wr ((r.length : Int) + 1))).1.fNext, LS intT (explR (fun k (a : Nat) => (fun (x : Int × Int) => smGo r d l3 x.1 x.2) (k, (a : Int))) (smMark d l3) (d.fLetters).toNat e_3 (wr ((r.length : Int) + 1))).1.fMark] 80 false)⟩]⟩ ⟨[(2, .sv (.one (.ptr 1 0))), (7, .sv (.one (.ptr 5 0)))], [.gone, .box [I 0, I 0, .v (.slice none 0 0), .v (.slice none 0 0)] 80 false, .gone, .gone, .gone, .box [I (explR (fun k (a : Nat) => (fun (x : Int × Int) => smGo r d l3 x.1 x.2) (k, (a : Int))) (smMark d l3) (d.fLetters).toNat e_3 (wr ((r.length : Int) + 1))).1.fLetters, I (explR (fun k (a : Nat) => (fun (x : Int × Int) => smGo r d l3 x.1 x.2) (k, (a : Int))) (smMark d l3) (d.fLetters).toNat e_3 (wr ((r.length : Int) + 1))).1.fStart, LS (lsT intT) (explR (fun k (a : Nat) => (fun (x : Int × Int) => smGo r d l3 x.1 x.2) (k, (a : Int))) (smMark d l3) (d.fLetters).toNat e_3 (wr ((r.length : Int) + 1))).1.fNext, LS intT (explR (fun k (a : Nat) => (fun (x : Int × Int) => smGo r d l3 x.1 x.2) (k, (a : Int))) (smMark d l3) (d.fLetters).toNat e_3 (wr ((r.length : Int) + 1))).1.fMark] 80 false]⟩ (by kernel_rfl) hn (by kernel_rfl) (by rfl) (by kernel_rfl) ?_ (by kernel_rfl) ?_
    · exact ⟨.mt ⟨[(1, .sv (.one (.ptr 0 0)))], []⟩ [] none (by kernel_rfl) (by rfl) (mt_ev ht (by kernel_rfl)) rfl rfl rfl rfl,
    .mt ⟨[(27, .sv (.one (.ptr 0 0)))], [.box [I d.fLetters, I d.fStart, LS (lsT intT) d.fNext, LS intT d.fMark] 80 true]⟩ [] none (by kernel_rfl) (by rfl) (mt_ev ht (by kernel_rfl)) rfl rfl rfl rfl,
    .mt ⟨[(3, .sv (.one (.ptr 2 0)))], [.gone, .gone, .box [LS intT r] 22 true]⟩ [] none (by kernel_rfl) (by rfl) (mt_ev ht (by kernel_rfl)) rfl rfl rfl rfl,
    .mt ⟨[(1, .sv (.one (.ptr 0 0)))], []⟩ [] none (by kernel_rfl) (by rfl) (mt_ev ht (by kernel_rfl)) rfl rfl rfl rfl,
    .mt ⟨[(30, .sv (.one (.ptr 0 1)))], [.box [I d.fLetters, I d.fStart, LS (lsT intT) d.fNext, LS intT d.fMark] 80 true]⟩ [] none (by kernel_rfl) (by rfl) (mt_ev ht (by kernel_rfl)) rfl rfl rfl rfl,
    .mt ⟨[(29, .sv (.one (LS intT r))), (31, .sv (.one (I d.fStart)))], []⟩ [] none (by kernel_rfl) (by rfl) (mt_val (val_index (T := intT) (l := r) (i := d.fStart) ht rfl (by rfl) (by rfl) (by rfl) (by rfl) (by rfl) (by rfl) he_3)) rfl rfl rfl rfl,
    .mt ⟨[(32, .sv (.one (.pe (svR (.one (I e_3))) 1)))], []⟩ [] none (by kernel_rfl) (by rfl) (mt_val (val_load (s := .one (I e_3)) ht rfl (by rfl) (by rfl) (by rfl) (by rfl) (by rfl))) rfl rfl rfl rfl,
    .mt ⟨[(1, .sv (.one (.ptr 0 0))), (3, .sv (.one (.ptr 2 0))), (4, .sv (.one (.ptr 4 0)))], [.box [I d.fLetters, I d.fStart, LS (lsT intT) d.fNext, LS intT d.fMark] 80 true, .gone, .box [LS intT r] 22 true, .gone, .box [LS intT l3] 22 true]⟩ [] none (by kernel_rfl) (by rfl) (mt_fv (x := .sv (.one (.fn 132 [2, 0, 4]))) ht (by kernel_rfl) (fv_of (M := [.box [LS intT r] 22 true, .box [I d.fLetters, I d.fStart, LS (lsT intT) d.fNext, LS intT d.fMark] 80 true, .box [LS intT l3] 22 true]) (caps := [2, 0, 4]) (fun x_ hx => smGo_ct x_.1 x_.2 r d l3 hx) en132 rfl (by kernel_rfl) (by rfl) (fun _ => rfl))) rfl rfl rfl rfl,
    .mt ⟨[(1, .sv (.one (.ptr 0 0))), (4, .sv (.one (.ptr 4 0)))], [.box [I d.fLetters, I d.fStart, LS (lsT intT) d.fNext, LS intT d.fMark] 80 true, .gone, .gone, .gone, .box [LS intT l3] 22 true]⟩ [] none (by kernel_rfl) (by rfl) (mt_fv (x := .sv (.one (.fn 133 [0, 4]))) ht (by kernel_rfl) (fv_of (M := [.box [I d.fLetters, I d.fStart, LS (lsT intT) d.fNext, LS intT d.fMark] 80 true, .box [LS intT l3] 22 true]) (caps := [0, 4]) (fun x_ hx => smMark_ct x_ d l3 hx) en133 rfl (by kernel_rfl) (by rfl) (fun _ => rfl))) rfl rfl rfl rfl,
    .mt ⟨[(3, .sv (.one (.ptr 2 0)))], [.gone, .gone, .box [LS intT r] 22 true]⟩ [] none (by kernel_rfl) (by rfl) (mt_ev ht (by kernel_rfl)) rfl rfl rfl rfl,
    .mt ⟨[(36, .sv (.one (LS intT r)))], []⟩ [] none (by kernel_rfl) (by rfl) (mt_ev ht (by kernel_rfl)) rfl rfl rfl rfl,
    .mt ⟨[(37, .sv (.one (I (r.length : Int))))], []⟩ [] none (by kernel_rfl) (by rfl) (mt_ev ht (by kernel_rfl)) rfl rfl rfl rfl,
    .mt ⟨[(28, .sv (.one (I d.fLetters))), (33, .sv (.one (I e_3))), (34, .sv (.one (.rd (fvR (fun (x_ : (Int × Int)) => [.sv (.one (I x_.1)), .sv (.one (I x_.2))]) (fun (r : Int) => .sv (.one (I r))) (fun (x : Int × Int) => smDom r d l3 x.1 x.2) (fun (x : Int × Int) => smGo r d l3 x.1 x.2))))), (35, .sv (.one (.rd (fvR (fun (x_ : Int) => [.sv (.one (I x_))]) (fun (r : Int) => .sv (.one (I r))) (smMarkDom d l3) (smMark d l3))))), (38, .sv (.one (I (wr ((r.length : Int) + 1)))))], []⟩ [] none (by kernel_rfl) (by rfl) (mt_call (exploreInt_ct d.fLetters e_3 (fun (x : Int × Int) => smDom r d l3 x.1 x.2) (fun (x : Int × Int) => smGo r d l3 x.1 x.2) (smMarkDom d l3) (smMark d l3) (wr ((r.length : Int) + 1)) hp_2) en72 (caps := []) [] rfl (by rfl) (by kernel_rfl) (by kernel_rfl) (by rfl) (by rfl) (by rfl)) rfl rfl rfl rfl,
    .mt ⟨[(39, .tup [.agg [I (explR (fun k (a : Nat) => (fun (x : Int × Int) => smGo r d l3 x.1 x.2) (k, (a : Int))) (smMark d l3) (d.fLetters).toNat e_3 (wr ((r.length : Int) + 1))).1.fLetters, I (explR (fun k (a : Nat) => (fun (x : Int × Int) => smGo r d l3 x.1 x.2) (k, (a : Int))) (smMark d l3) (d.fLetters).toNat e_3 (wr ((r.length : Int) + 1))).1.fStart, LS (lsT intT) (explR (fun k (a : Nat) => (fun (x : Int × Int) => smGo r d l3 x.1 x.2) (k, (a : Int))) (smMark d l3) (d.fLetters).toNat e_3 (wr ((r.length : Int) + 1))).1.fNext, LS intT (explR (fun k (a : Nat) => (fun (x : Int × Int) => smGo r d l3 x.1 x.2) (k, (a : Int))) (smMark d l3) (d.fLetters).toNat e_3 (wr ((r.length : Int) + 1))).1.fMark], .one (B (explR (fun k (a : Nat) => (fun (x : Int × Int) => smGo r d l3 x.1 x.2) (k, (a : Int))) (smMark d l3) (d.fLetters).toNat e_3 (wr ((r.length : Int) + 1))).2)])], []⟩ [] none (by kernel_rfl) (by rfl) (mt_ev ht (by kernel_rfl)) rfl rfl rfl rfl,
    .mt ⟨[(26, .tup [.agg [I (explR (fun k (a : Nat) => (fun (x : Int × Int) => smGo r d l3 x.1 x.2) (k, (a : Int))) (smMark d l3) (d.fLetters).toNat e_3 (wr ((r.length : Int) + 1))).1.fLetters, I (explR (fun k (a : Nat) => (fun (x : Int × Int) => smGo r d l3 x.1 x.2) (k, (a : Int))) (smMark d l3) (d.fLetters).toNat e_3 (wr ((r.length : Int) + 1))).1.fStart, LS (lsT intT) (explR (fun k (a : Nat) => (fun (x : Int × Int) => smGo r d l3 x.1 x.2) (k, (a : Int))) (smMark d l3) (d.fLetters).toNat e_3 (wr ((r.length : Int) + 1))).1.fNext, LS intT (explR (fun k (a : Nat) => (fun (x : Int × Int) => smGo r d l3 x.1 x.2) (k, (a : Int))) (smMark d l3) (d.fLetters).toNat e_3 (wr ((r.length : Int) + 1))).1.fMark], .one (B (explR (fun k (a : Nat) => (fun (x : Int × Int) => smGo r d l3 x.1 x.2) (k, (a : Int))) (smMark d l3) (d.fLetters).toNat e_3 (wr ((r.length : Int) + 1))).2)])], []⟩ [] none (by kernel_rfl) (by rfl) (mt_ev ht (by kernel_rfl)) rfl rfl rfl rfl,
    .mt ⟨[(26, .tup [.agg [I (explR (fun k (a : Nat) => (fun (x : Int × Int) => smGo r d l3 x.1 x.2) (k, (a : Int))) (smMark d l3) (d.fLetters).toNat e_3 (wr ((r.length : Int) + 1))).1.fLetters, I (explR (fun k (a : Nat) => (fun (x : Int × Int) => smGo r d l3 x.1 x.2) (k, (a : Int))) (smMark d l3) (d.fLetters).toNat e_3 (wr ((r.length : Int) + 1))).1.fStart, LS (lsT intT) (explR (fun k (a : Nat) => (fun (x : Int × Int) => smGo r d l3 x.1 x.2) (k, (a : Int))) (smMark d l3) (d.fLetters).toNat e_3 (wr ((r.length : Int) + 1))).1.fNext, LS intT (explR (fun k (a : Nat) => (fun (x : Int × Int) => smGo r d l3 x.1 x.2) (k, (a : Int))) (smMark d l3) (d.fLetters).toNat e_3 (wr ((r.length : Int) + 1))).1.fMark], .one (B (explR (fun k (a : Nat) => (fun (x : Int × Int) => smGo r d l3 x.1 x.2) (k, (a : Int))) (smMark d l3) (d.fLetters).toNat e_3 (wr ((r.length : Int) + 1))).2)])], []⟩ [] none (by kernel_rfl) (by rfl) (mt_ev ht (by kernel_rfl)) rfl rfl rfl rfl,
    .mt ⟨[], []⟩ [] (some 5) (by kernel_rfl) (by rfl) (mt_alloc2 5 80 ht rfl (by rfl) (by rfl)) rfl rfl rfl rfl,
    .mu ⟨[(7, .sv (.one (.ptr 5 0))), (40, .sv (.agg [I (explR (fun k (a : Nat) => (fun (x : Int × Int) => smGo r d l3 x.1 x.2) (k, (a : Int))) (smMark d l3) (d.fLetters).toNat e_3 (wr ((r.length : Int) + 1))).1.fLetters, I (explR (fun k (a : Nat) => (fun (x : Int × Int) => smGo r d l3 x.1 x.2) (k, (a : Int))) (smMark d l3) (d.fLetters).toNat e_3 (wr ((r.length : Int) + 1))).1.fStart, LS (lsT intT) (explR (fun k (a : Nat) => (fun (x : Int × Int) => smGo r d l3 x.1 x.2) (k, (a : Int))) (smMark d l3) (d.fLetters).toNat e_3 (wr ((r.length : Int) + 1))).1.fNext, LS intT (explR (fun k (a : Nat) => (fun (x : Int × Int) => smGo r d l3 x.1 x.2) (k, (a : Int))) (smMark d l3) (d.fLetters).toNat e_3 (wr ((r.length : Int) + 1))).1.fMark]))], [.gone, .gone, .gone, .gone, .gone, .box [I 0, I 0, .v (.slice none 0 0), .v (.slice none 0 0)] 80 false]⟩ 5 _ _ rfl rfl (by kernel_rfl) (by rfl) (mu_store2 ht rfl (by rfl) (by rfl) (by rfl) (by rfl) (fun h => by cases h) (by rfl) (by rfl)) rfl rfl rfl rfl rfl rfl rfl,
    .mt ⟨[(41, .sv (.one (B (explR (fun k (a : Nat) => (fun (x : Int × Int) => smGo r d l3 x.1 x.2) (k, (a : Int))) (smMark d l3) (d.fLetters).toNat e_3 (wr ((r.length : Int) + 1))).2)))], []⟩ [] none (by kernel_rfl) (by rfl) (mt_ev ht (by kernel_rfl)) rfl rfl rfl rfl,
    trivial⟩
    · refine En.seq ?_
      refine En.region ?_
      refine WL.run ht hn 2 ⟨[(2, .sv (.one (.ptr 1 0)))], [.gone, .box [I (explR (fun k (a : Nat) => (fun (x : Int × Int) => smGo r d l3 x.1 x.2) (k, (a : Int))) (smMark d l3) (d.fLetters).toNat e_3 (wr ((r.length : Int) + 1))).1.fLetters, I (explR (fun k (a : Nat) => (fun (x : Int × Int) => smGo r d l3 x.1 x.2) (k, (a : Int))) (smMark d l3) (d.fLetters).toNat e_3 (wr ((r.length : Int) + 1))).1.fStart, LS (lsT intT) (explR (fun k (a : Nat) => (fun (x : Int × Int) => smGo r d l3 x.1 x.2) (k, (a : Int))) (smMark d l3) (d.fLetters).toNat e_3 (wr ((r.length : Int) + 1))).1.fNext, LS intT (explR (fun k (a : Nat) => (fun (x : Int × Int) => smGo r d l3 x.1 x.2) (k, (a : Int))) (smMark d l3) (d.fLetters).toNat e_3 (wr ((r.length : Int) + 1))).1.fMark] 80 false, .gone, .gone, .gone, .gone]⟩ (by kernel_rfl) ?_
      refine WL.nil ?_
      refine En.ret ?_
      exact En.back ht (explR (fun k (a : Nat) => (fun (x : Int × Int) => smGo r d l3 x.1 x.2) (k, (a : Int))) (smMark d l3) (d.fLetters).toNat e_3 (wr ((r.length : Int) + 1))).1 h (by kernel_rfl) rfl
theorem en76 : ∀ args w, (callFunc 76 args).run Try.prog w = .ok (.enter 76 args) w := enters_of Try.func76 (by kernel_rfl) rfl
def smallestOwn_vc (d : ApiDet) (Q : ApiDet → Prop) : Prop :=
  d.fNext.length ≤ 9223372036854775807 →
  d.fMark.length ≤ 9223372036854775807 →
  ((ClsOk d) ∧
  ∀ r : (List Int), (IsClass d) r →
  (makeOk (r.length : Int) (r.length : Int) 8 ∧
  ∃ (Inv : Int → (List Int) → Prop) (mu : Int → (List Int) → Nat), Inv 0 (List.replicate ((r.length : Int)).toNat (0 : Int)) ∧
  ∀ (x16 : Int) (l3 : (List Int)) , Inv x16 l3 → (IfP (decide (x16 < (r.length : Int))) (∃ e, idx r x16 = some e ∧
  ∃ e_2, idx l3 e = some e_2 ∧
  (Inv (wr (x16 + 1)) (l3.set (e).toNat x16) ∧ mu (wr (x16 + 1)) (l3.set (e).toNat x16) < mu x16 l3)) (∃ e_3, idx r d.fStart = some e_3 ∧
  (ExplPre d.fLetters e_3 (fun (x : Int × Int) => smDom r d l3 x.1 x.2) (fun (x : Int × Int) => smGo r d l3 x.1 x.2) (smMarkDom d l3) (wr ((r.length : Int) + 1))) ∧
  Q (explR (fun k (a : Nat) => (fun (x : Int × Int) => smGo r d l3 x.1 x.2) (k, (a : Int))) (smMark d l3) (d.fLetters).toNat e_3 (wr ((r.length : Int) + 1))).1))))
theorem smallestOwn_walk (d : ApiDet) (Q : ApiDet → Prop) (h : smallestOwn_vc d Q) : CtS 76 [.sv (.agg [I d.fLetters, I d.fStart, LS (lsT intT) d.fNext, LS intT d.fMark])] [] Q (fun (r : ApiDet) => .sv (.agg [I r.fLetters, I r.fStart, LS (lsT intT) r.fNext, .own 0])) (fun (r : ApiDet) => rowI 3 intT r.fMark) := by
  have ht := tab_ok
  refine CtS.body Try.func76 rfl rfl rfl rfl (fun c hn hmay => ?_)
  unfold smallestOwn_vc at h
  refine En.lenA 0 2 (by rfl) (by rfl) (fun hl => ?_)
  replace h := h hl
  clear hl
  refine En.lenA 0 3 (by rfl) (by rfl) (fun hl => ?_)
  replace h := h hl
  clear hl
  refine En.seq ?_
  refine En.region ?_
  refine WL.run ht hn 2 ⟨[(1, .sv (.one (.ptr 0 0))), (2, .sv (.one (.ptr 1 0)))], [.box [I d.fLetters, I d.fStart, LS (lsT intT) d.fNext, LS intT d.fMark] 80 false, .box [I 0, I 0, .v (.slice none 0 0), .v (.slice none 0 0)] 80 false]⟩ (by kernel_rfl) ?_
  refine WL.nil ?_
  refine En.seq ?_
  refine En.region ?_
  refine WL.run ht hn 1 ⟨[(1, .sv (.one (.ptr 0 0))), (2, .sv (.one (.ptr 1 0))), (9, .sv (.agg [I d.fLetters, I d.fStart, LS (lsT intT) d.fNext, LS intT d.fMark]))], [.box [I d.fLetters, I d.fStart, LS (lsT intT) d.fNext, LS intT d.fMark] 80 false, .box [I 0, I 0, .v (.slice none 0 0), .v (.slice none 0 0)] 80 false]⟩ (by kernel_rfl) ?_
  have hp := h.1
  replace h := h.2
  refine WL.mtQ (Q := IsClass d) (x := fun (r : (List Int)) => .sv (.one (LS intT r))) (p := fun _ => none) hn (by rfl) (mtq_call (classes_ct d hp) en131 (caps := []) [] rfl (by rfl) (by kernel_rfl) (by kernel_rfl) (by rfl) (fun _ => rfl) (by rfl)) (fun r hr_2 => ⟨by rfl, _, by rfl, ?_⟩)
  replace h := h r hr_2
  refine WL.run ht hn 2 ⟨[(1, .sv (.one (.ptr 0 0))), (2, .sv (.one (.ptr 1 0))), (3, .sv (.one (.ptr 2 0)))], [.box [I d.fLetters, I d.fStart, LS (lsT intT) d.fNext, LS intT d.fMark] 80 false, .box [I 0, I 0, .v (.slice none 0 0), .v (.slice none 0 0)] 80 false, .box [LS intT r] 22 false]⟩ (by kernel_rfl) ?_
  refine WL.nil ?_
  refine En.seq ?_
  refine En.region ?_
  refine WL.run ht hn 2 ⟨[(1, .sv (.one (.ptr 0 0))), (2, .sv (.one (.ptr 1 0))), (3, .sv (.one (.ptr 2 0))), (12, .sv (.one (I (r.length : Int))))], [.box [I d.fLetters, I d.fStart, LS (lsT intT) d.fNext, LS intT d.fMark] 80 false, .box [I 0, I 0, .v (.slice none 0 0), .v (.slice none 0 0)] 80 false, .box [LS intT r] 22 false]⟩ (by kernel_rfl) ?_
  have hp := h.1
  replace h := h.2
  refine WL.mt0 (K := []) (p := some (3, rowI 3 intT (List.replicate ((r.length : Int)).toNat (0 : Int)))) hn (by rfl) (mt_make (T := intT) (0 : Int) (zv := (.int .i64 0)) 3 (l := (r.length : Int)) (cp := (r.length : Int)) ht rfl (by rfl) (by rfl) (by rfl) (by rfl) (by decide) (by rfl) (by rfl) hp.1 hp.2.1 hp.2.2 (hp.le (by decide)) rfl (fun _ => ⟨rfl, trivial⟩)) (by rfl) (by rfl) (by rfl) ?_
  refine WL.run ht hn 2 ⟨[(1, .sv (.one (.ptr 0 0))), (2, .sv (.one (.ptr 1 0))), (3, .sv (.one (.ptr 2 0))), (4, .sv (.one (.ptr 4 0)))], [.box [I d.fLetters, I d.fStart, LS (lsT intT) d.fNext, LS intT d.fMark] 80 false, .box [I 0, I 0, .v (.slice none 0 0), .v (.slice none 0 0)] 80 false, .box [LS intT r] 22 false, rowI 3 intT (List.replicate ((r.length : Int)).toNat (0 : Int)), .box [.own 3] 22 false]⟩ (by kernel_rfl) ?_
  refine WL.nil ?_
  refine En.seq ?_
  refine En.seq ?_
  refine En.region ?_
  refine WL.run ht hn 3 ⟨[(1, .sv (.one (.ptr 0 0))), (2, .sv (.one (.ptr 1 0))), (3, .sv (.one (.ptr 2 0))), (4, .sv (.one (.ptr 4 0))), (14, .sv (.one (LS intT r))), (15, .sv (.one (I (r.length : Int)))), (16, .sv (.one (I 0)))], [.box [I d.fLetters, I d.fStart, LS (lsT intT) d.fNext, LS intT d.fMark] 80 false, .box [I 0, I 0, .v (.slice none 0 0), .v (.slice none 0 0)] 80 false, .box [LS intT r] 22 false, rowI 3 intT (List.replicate ((r.length : Int)).toNat (0 : Int)), .box [.own 3] 22 false]⟩ (by kernel_rfl) ?_
  refine WL.nil ?_
  refine En.block ?_
  obtain ⟨Inv, mu, h0, hI⟩ := h
  refine En.loop (σ := Int × (List Int)) (fun zz => Inv zz.1 zz.2) (fun zz => mu zz.1 zz.2) (fun zz => ⟨[(1, .sv (.one (.ptr 0 0))), (2, .sv (.one (.ptr 1 0))), (3, .sv (.one (.ptr 2 0))), (4, .sv (.one (.ptr 4 0))), (14, .sv (.one (LS intT r))), (15, .sv (.one (I (r.length : Int)))), (16, .sv (.one (I zz.1)))], [.box [I d.fLetters, I d.fStart, LS (lsT intT) d.fNext, LS intT d.fMark] 80 false, .box [I 0, I 0, .v (.slice none 0 0), .v (.slice none 0 0)] 80 false, .box [LS intT r] 22 false, rowI 3 intT zz.2, .box [.own 3] 22 false]⟩) (0, (List.replicate ((r.length : Int)).toNat (0 : Int))) h0 (sub_ok (by kernel_rfl)) ?_
  rintro ⟨x16, l3⟩ h
  replace h := hI _ _ h
  show En c ⟨[(1, .sv (.one (.ptr 0 0))), (2, .sv (.one (.ptr 1 0))), (3, .sv (.one (.ptr 2 0))), (4, .sv (.one (.ptr 4 0))), (14, .sv (.one (LS intT r))), (15, .sv (.one (I (r.length : Int)))), (16, .sv (.one (I x16)))], [.box [I d.fLetters, I d.fStart, LS (lsT intT) d.fNext, LS intT d.fMark] 80 false, .box [I 0, I 0, .v (.slice none 0 0), .v (.slice none 0 0)] 80 false, .box [LS intT r] 22 false, rowI 3 intT l3, .box [.own 3] 22 false]⟩ _
  refine En.seq ?_
  refine En.region ?_
  refine WL.run ht hn 1 ⟨[(1, .sv (.one (.ptr 0 0))), (2, .sv (.one (.ptr 1 0))), (3, .sv (.one (.ptr 2 0))), (4, .sv (.one (.ptr 4 0))), (14, .sv (.one (LS intT r))), (15, .sv (.one (I (r.length : Int)))), (16, .sv (.one (I x16))), (17, .sv (.one (B (decide (x16 < (r.length : Int))))))], [.box [I d.fLetters, I d.fStart, LS (lsT intT) d.fNext, LS intT d.fMark] 80 false, .box [I 0, I 0, .v (.slice none 0 0), .v (.slice none 0 0)] 80 false, .box [LS intT r] 22 false, rowI 3 intT l3, .box [.own 3] 22 false]⟩ (by kernel_rfl) ?_
  refine WL.nil ?_
  refine En.seq ?_
  refine En.cond (b := (decide (x16 < (r.length : Int)))) (by kernel_rfl) (fun hb => ?_) (fun hb => ?_)
  · replace h := h.1 hb
    refine En.skip ?_
    refine En.seq ?_
    refine En.block ?_
    refine En.seq ?_
    refine En.region ?_
    refine WL.run ht hn 1 ⟨[(1, .sv (.one (.ptr 0 0))), (2, .sv (.one (.ptr 1 0))), (3, .sv (.one (.ptr 2 0))), (4, .sv (.one (.ptr 4 0))), (14, .sv (.one (LS intT r))), (15, .sv (.one (I (r.length : Int)))), (16, .sv (.one (I x16))), (18, .sv (.one (I x16)))], [.box [I d.fLetters, I d.fStart, LS (lsT intT) d.fNext, LS intT d.fMark] 80 false, .box [I 0, I 0, .v (.slice none 0 0), .v (.slice none 0 0)] 80 false, .box [LS intT r] 22 false, rowI 3 intT l3, .box [.own 3] 22 false]⟩ (by kernel_rfl) ?_
    obtain ⟨e, he, h⟩ := h
    refine WL.val hn (by rfl) (val_index (T := intT) (l := r) (i := x16) ht rfl (by rfl) (by rfl) (by rfl) (by rfl) (by rfl) (by rfl) he) (by rfl) ?_
    refine WL.val hn (by rfl) (val_load (s := .one (I e)) ht rfl (by rfl) (by rfl) (by rfl) (by rfl) (by rfl)) (by rfl) ?_
    refine WL.run ht hn 2 ⟨[(1, .sv (.one (.ptr 0 0))), (2, .sv (.one (.ptr 1 0))), (3, .sv (.one (.ptr 2 0))), (4, .sv (.one (.ptr 4 0))), (5, .sv (.one (I x16))), (6, .sv (.one (I e))), (14, .sv (.one (LS intT r))), (15, .sv (.one (I (r.length : Int)))), (16, .sv (.one (I x16)))], [.box [I d.fLetters, I d.fStart, LS (lsT intT) d.fNext, LS intT d.fMark] 80 false, .box [I 0, I 0, .v (.slice none 0 0), .v (.slice none 0 0)] 80 false, .box [LS intT r] 22 false, rowI 3 intT l3, .box [.own 3] 22 false]⟩ (by kernel_rfl) ?_
    refine WL.nil ?_
    refine En.region ?_
    refine WL.run ht hn 3 ⟨[(1, .sv (.one (.ptr 0 0))), (2, .sv (.one (.ptr 1 0))), (3, .sv (.one (.ptr 2 0))), (4, .sv (.one (.ptr 4 0))), (14, .sv (.one (LS intT r))), (15, .sv (.one (I (r.length : Int)))), (16, .sv (.one (I x16))), (21, .sv (.one (.own 3))), (22, .sv (.one (I e))), (23, .sv (.one (I x16)))], [.box [I d.fLetters, I d.fStart, LS (lsT intT) d.fNext, LS intT d.fMark] 80 false, .box [I 0, I 0, .v (.slice none 0 0), .v (.slice none 0 0)] 80 false, .box [LS intT r] 22 false, rowI 3 intT l3, .box [.own 3] 22 false]⟩ (by kernel_rfl) ?_
    obtain ⟨e_2, he_2, h⟩ := h
    refine WL.val hn (by rfl) (val_indexO (T := intT) (l := l3) (k := e) ht rfl (by rfl) (by rfl) (by rfl) (by rfl) (by decide) (by rfl) (by rfl) (by rfl) he_2) (by rfl) ?_
    refine WL.storeO (T := intT) (l := l3) (y := x16) ht hn (by rfl) rfl (by rfl) (by rfl) (fun _ h => by cases h) (by rfl) (by rfl) (idx_lt he_2) (by rfl) (by rfl) (by rfl) (by rfl) ?_
    refine WL.nil ?_
    refine En.region ?_
    refine WL.run ht hn 2 ⟨[(1, .sv (.one (.ptr 0 0))), (2, .sv (.one (.ptr 1 0))), (3, .sv (.one (.ptr 2 0))), (4, .sv (.one (.ptr 4 0))), (14, .sv (.one (LS intT r))), (15, .sv (.one (I (r.length : Int)))), (16, .sv (.one (I (wr (x16 + 1)))))], [.box [I d.fLetters, I d.fStart, LS (lsT intT) d.fNext, LS intT d.fMark] 80 false, .box [I 0, I 0, .v (.slice none 0 0), .v (.slice none 0 0)] 80 false, .box [LS intT r] 22 false, rowI 3 intT (l3.set (e).toNat x16), .box [.own 3] 22 false]⟩ (by kernel_rfl) ?_
    refine WL.nil ?_
    exact En.at (I := fun zz => Inv zz.1 zz.2 ∧ mu zz.1 zz.2 < mu x16 l3) (T := fun zz => ⟨[(1, .sv (.one (.ptr 0 0))), (2, .sv (.one (.ptr 1 0))), (3, .sv (.one (.ptr 2 0))), (4, .sv (.one (.ptr 4 0))), (14, .sv (.one (LS intT r))), (15, .sv (.one (I (r.length : Int)))), (16, .sv (.one (I zz.1)))], [.box [I d.fLetters, I d.fStart, LS (lsT intT) d.fNext, LS intT d.fMark] 80 false, .box [I 0, I 0, .v (.slice none 0 0), .v (.slice none 0 0)] 80 false, .box [LS intT r] 22 false, rowI 3 intT zz.2, .box [.own 3] 22 false]⟩) ((wr (x16 + 1)), (l3.set (e).toNat x16)) h (by kernel_rfl)
  · replace h := h.2 hb
    refine En.exit rfl ?_
    refine En.seq ?_
    refine En.seal 3 (by rfl) ?_
    refine En.freeze [2, 0, 4] (by rfl) ?_
    obtain ⟨e_3, he_3, h⟩ := h
    have hp_2 := h.1
    replace h := h.2
    refine En.regionA ⟨[(1, .sv (.one (.ptr 0 0))), (2, .sv (.one (.ptr 1 0))), (3, .sv (.one (.ptr 2 0))), (4, .sv (.one (.ptr 4 0)))], [.sv (.one (.ptr 0 0)), .sv (.one (I d.fLetters)), .sv (.one (LS intT r)), .sv (.one (.ptr 0 1)), .sv (.one (I d.fStart)), .sv (.one (.pe (svR (.one (I e_3))) 1)), .sv (.one (I e_3)), .sv (.one (.rd (fvR (fun (x_ : (Int × Int)) => [.sv (.one (I x_.1)), .sv (.one (I x_.2))]) (fun (r : Int) => .sv (.one (I r))) (fun (x : Int × Int) => smDom r d l3 x.1 x.2) (fun (x : Int × Int) => smGo r d l3 x.1 x.2)))), .sv (.one (.rd (fvR (fun (x_ : Int) => [.sv (.one (I x_))]) (fun (r : Int) => .sv (.one (I r))) (smMarkDom d l3) (smMark d l3)))), .sv (.one (LS intT r)), .sv (.one (I (r.length : Int))), .sv (.one (I (wr ((r.length : Int) + 1)))), .tup [.agg [I (explR (fun k (a : Nat) => (fun (x : Int × Int) => smGo r d l3 x.1 x.2) (k, (a : Int))) (smMark d l3) (d.fLetters).toNat e_3 (wr ((r.length : Int) + 1))).1.fLetters, I (explR (fun k (a : Nat) => (fun (x : Int × Int) => smGo r d l3 x.1 x.2) (k, (a : Int))) (smMark d l3) (d.fLetters).toNat e_3 (wr ((r.length : Int) + 1))).1.fStart, LS (lsT intT) (explR (fun k (a : Nat) => (fun (x : Int × Int) => smGo r d l3 x.1 x.2) (k, (a : Int))) (smMark d l3) (d.fLetters).toNat e_3 (wr ((r.length : Int) + 1))).1.fNext, .own 5], .one (B (explR (fun k (a : Nat) => (fun (x : Int × Int) => smGo r d l3 x.1 x.2) (k, (a : Int))) (smMark d l3) (d.fLetters).toNat e_3 (wr ((r.length : Int) + 1))).2)], .tup [.agg [I (explR (fun k (a : Nat) => (fun (x : Int × Int) => smGo r d l3 x.1 x.2) (k, (a : Int))) (smMark d l3) (d.fLetters).toNat e_3 (wr ((r.length : Int) + 1))).1.fLetters, I (explR (fun k (a : Nat) => (fun (x : Int × Int) => smGo r d l3 x.1 x.2) (k, (a : Int))) (smMark d l3) (d.fLetters).toNat e_3 (wr ((r.length : Int) + 1))).1.fStart, LS (lsT intT) (explR (fun k (a : Nat) => (fun (x : Int × Int) => smGo r d l3 x.1 x.2) (k, (a : Int))) (smMark d l3) (d.fLetters).toNat e_3 (wr ((r.length : Int) + 1))).1.fNext, .own 5], .one (B (explR (fun k (a : Nat) => (fun (x : Int × Int) => smGo r d l3 x.1 x.2) (k, (a : Int))) (smMark d l3) (d.fLetters).toNat e_3 (wr ((r.length : Int) + 1))).2)], .sv (.agg [I (explR (fun k (a : Nat) => (fun (x : Int × Int) => smGo r d l3 x.1 x.2) (k, (a : Int))) (smMark d l3) (d.fLetters).toNat e_3 (wr ((r.length : Int) + 1))).1.fLetters, I (explR (fun k (a : Nat) => (fun (x : Int × Int) => smGo r d l3 x.1 x.2) (k, (a : Int))) (smMark d l3) (d.fLetters).toNat e_3 (wr ((r.length : Int) + 1))).1.fStart, LS (lsT intT) (explR (fun k (a : Nat) => (fun (x : Int × Int) => smGo r d l3 x.1 x.2) (k, (a : Int))) (smMark d l3) (d.fLetters).toNat e_3 (wr ((r.length : Int) + 1))).1.fNext, .own 5]), .sv (.one (B (explR (fun k (a : Nat) => (fun (x : Int × Int) => smGo r d l3 x.1 x.2) (k, (a : Int))) (smMark d l3) (d.fLetters).toNat e_3 (wr ((r.length : Int) + 1))).2)), .sv (.one (.ptr 6 0)), .tup [], .sv (.one (B (explR (fun k (a : Nat) => (fun (x : Int × Int) => smGo r d l3 x.1 x.2) (k, (a : Int))) (smMark d l3) (d.fLetters).toNat e_3 (wr ((r.length : Int) + 1))).2))], [⟨.box [I d.fLetters, I d.fStart, LS (lsT intT) d.fNext, LS intT d.fMark] 80 true, none, none, none⟩, ⟨.box [I 0, I 0, .v (.slice none 0 0), .v (.slice none 0 0)] 80 false, none, none, none⟩, ⟨.box [LS intT r] 22 true, none, none, none⟩, ⟨.gone, none, none, none⟩, ⟨.box [LS intT l3] 22 true, none, none, none⟩, ⟨rowI 3 intT (explR (fun k (a : Nat) => (fun (x : Int × Int) => smGo r d l3 x.1 x.2) (k, (a : Int))) (smMark d l3) (d.fLetters).toNat e_3 (wr ((r.length : Int) + 1))).1.fMark, some 12, none, none⟩, ⟨.box [I 0, I 0, .v (.slice none 0 0), .v (.slice none 0 0)] 80 false, some 16, none, some (17, .box [I (explR (fun k (a : Nat) => (fun (x : Int × Int) => smGo r d l3 x.1 x.2) (k, (a : Int))) (smMark d l3) (d.fLetters).toNat e_3 (wr ((r.length : Int) + 1))).1.fLetters, I (explR (fun k (a : Nat) => (fun (x : Int × Int) => smGo r d l3 x.1 x.2) (k, (a : Int))) (smMark d l3) (d.fLetters).toNat e_3 (wr ((r.length : Int) + 1))).1.fStart, LS (lsT intT) (explR (fun k (a : Nat) => (fun (x : Int × Int) => smGo r d l3 x.1 x.2) (k, (a : Int))) (smMark d l3) (d.fLetters).toNat e_3 (wr ((r.length : Int) + 1))).1.fNext, .own 5] 80 false)⟩]⟩ ⟨[(2, .sv (.one (.ptr 1 0))), (7, .sv (.one (.ptr 6 0)))], [.gone, .box [I 0, I 0, .v (.slice none 0 0), .v (.slice none 0 0)] 80 false, .gone, .gone, .gone, rowI 3 intT (explR (fun k (a : Nat) => (fun (x : Int × Int) => smGo r d l3 x.1 x.2) (k, (a : Int))) (smMark d l3) (d.fLetters).toNat e_3 (wr ((r.length : Int) + 1))).1.fMark, .box [I (explR (fun k (a : Nat) => (fun (x : Int × Int) => smGo r d l3 x.1 x.2) (k, (a : Int))) (smMark d l3) (d.fLetters).toNat e_3 (wr ((r.length : Int) + 1))).1.fLetters, I (explR (fun k (a : Nat) => (fun (x : Int × Int) => smGo r d l3 x.1 x.2) (k, (a : Int))) (smMark d l3) (d.fLetters).toNat e_3 (wr ((r.length : Int) + 1))).1.fStart, LS (lsT intT) (explR (fun k (a : Nat) => (fun (x : Int × Int) => smGo r d l3 x.1 x.2) (k, (a : Int))) (smMark d l3) (d.fLetters).toNat e_3 (wr ((r.length : Int) + 1))).1.fNext, .own 5] 80 false]⟩ (by kernel_rfl) hn (by kernel_rfl) (by rfl) (by kernel_rfl) ?_ (by kernel_rfl) ?_
    · exact ⟨.mt ⟨[(1, .sv (.one (.ptr 0 0)))], []⟩ [] none (by kernel_rfl) (by rfl) (mt_ev ht (by kernel_rfl)) rfl rfl rfl rfl,
    .mt ⟨[(27, .sv (.one (.ptr 0 0)))], [.box [I d.fLetters, I d.fStart, LS (lsT intT) d.fNext, LS intT d.fMark] 80 true]⟩ [] none (by kernel_rfl) (by rfl) (mt_ev ht (by kernel_rfl)) rfl rfl rfl rfl,
    .mt ⟨[(3, .sv (.one (.ptr 2 0)))], [.gone, .gone, .box [LS intT r] 22 true]⟩ [] none (by kernel_rfl) (by rfl) (mt_ev ht (by kernel_rfl)) rfl rfl rfl rfl,
    .mt ⟨[(1, .sv (.one (.ptr 0 0)))], []⟩ [] none (by kernel_rfl) (by rfl) (mt_ev ht (by kernel_rfl)) rfl rfl rfl rfl,
    .mt ⟨[(30, .sv (.one (.ptr 0 1)))], [.box [I d.fLetters, I d.fStart, LS (lsT intT) d.fNext, LS intT d.fMark] 80 true]⟩ [] none (by kernel_rfl) (by rfl) (mt_ev ht (by kernel_rfl)) rfl rfl rfl rfl,
    .mt ⟨[(29, .sv (.one (LS intT r))), (31, .sv (.one (I d.fStart)))], []⟩ [] none (by kernel_rfl) (by rfl) (mt_val (val_index (T := intT) (l := r) (i := d.fStart) ht rfl (by rfl) (by rfl) (by rfl) (by rfl) (by rfl) (by rfl) he_3)) rfl rfl rfl rfl,
    .mt ⟨[(32, .sv (.one (.pe (svR (.one (I e_3))) 1)))], []⟩ [] none (by kernel_rfl) (by rfl) (mt_val (val_load (s := .one (I e_3)) ht rfl (by rfl) (by rfl) (by rfl) (by rfl) (by rfl))) rfl rfl rfl rfl,
    .mt ⟨[(1, .sv (.one (.ptr 0 0))), (3, .sv (.one (.ptr 2 0))), (4, .sv (.one (.ptr 4 0)))], [.box [I d.fLetters, I d.fStart, LS (lsT intT) d.fNext, LS intT d.fMark] 80 true, .gone, .box [LS intT r] 22 true, .gone, .box [LS intT l3] 22 true]⟩ [] none (by kernel_rfl) (by rfl) (mt_fv (x := .sv (.one (.fn 132 [2, 0, 4]))) ht (by kernel_rfl) (fv_of (M := [.box [LS intT r] 22 true, .box [I d.fLetters, I d.fStart, LS (lsT intT) d.fNext, LS intT d.fMark] 80 true, .box [LS intT l3] 22 true]) (caps := [2, 0, 4]) (fun x_ hx => smGo_ct x_.1 x_.2 r d l3 hx) en132 rfl (by kernel_rfl) (by rfl) (fun _ => rfl))) rfl rfl rfl rfl,
    .mt ⟨[(1, .sv (.one (.ptr 0 0))), (4, .sv (.one (.ptr 4 0)))], [.box [I d.fLetters, I d.fStart, LS (lsT intT) d.fNext, LS intT d.fMark] 80 true, .gone, .gone, .gone, .box [LS intT l3] 22 true]⟩ [] none (by kernel_rfl) (by rfl) (mt_fv (x := .sv (.one (.fn 133 [0, 4]))) ht (by kernel_rfl) (fv_of (M := [.box [I d.fLetters, I d.fStart, LS (lsT intT) d.fNext, LS intT d.fMark] 80 true, .box [LS intT l3] 22 true]) (caps := [0, 4]) (fun x_ hx => smMark_ct x_ d l3 hx) en133 rfl (by kernel_rfl) (by rfl) (fun _ => rfl))) rfl rfl rfl rfl,
    .mt ⟨[(3, .sv (.one (.ptr 2 0)))], [.gone, .gone, .box [LS intT r] 22 true]⟩ [] none (by kernel_rfl) (by rfl) (mt_ev ht (by kernel_rfl)) rfl rfl rfl rfl,
    .mt ⟨[(36, .sv (.one (LS intT r)))], []⟩ [] none (by kernel_rfl) (by rfl) (mt_ev ht (by kernel_rfl)) rfl rfl rfl rfl,
    .mt ⟨[(37, .sv (.one (I (r.length : Int))))], []⟩ [] none (by kernel_rfl) (by rfl) (mt_ev ht (by kernel_rfl)) rfl rfl rfl rfl,
    .mt ⟨[(28, .sv (.one (I d.fLetters))), (33, .sv (.one (I e_3))), (34, .sv (.one (.rd (fvR (fun (x_ : (Int × Int)) => [.sv (.one (I x_.1)), .sv (.one (I x_.2))]) (fun (r : Int) => .sv (.one (I r))) (fun (x : Int × Int) => smDom r d l3 x.1 x.2) (fun (x : Int × Int) => smGo r d l3 x.1 x.2))))), (35, .sv (.one (.rd (fvR (fun (x_ : Int) => [.sv (.one (I x_))]) (fun (r : Int) => .sv (.one (I r))) (smMarkDom d l3) (smMark d l3))))), (38, .sv (.one (I (wr ((r.length : Int) + 1)))))], []⟩ [] (some 5) (by kernel_rfl) (by rfl) (mt_callS (x := .tup [.agg [I (explR (fun k (a : Nat) => (fun (x : Int × Int) => smGo r d l3 x.1 x.2) (k, (a : Int))) (smMark d l3) (d.fLetters).toNat e_3 (wr ((r.length : Int) + 1))).1.fLetters, I (explR (fun k (a : Nat) => (fun (x : Int × Int) => smGo r d l3 x.1 x.2) (k, (a : Int))) (smMark d l3) (d.fLetters).toNat e_3 (wr ((r.length : Int) + 1))).1.fStart, LS (lsT intT) (explR (fun k (a : Nat) => (fun (x : Int × Int) => smGo r d l3 x.1 x.2) (k, (a : Int))) (smMark d l3) (d.fLetters).toNat e_3 (wr ((r.length : Int) + 1))).1.fNext, .own 5], .one (B (explR (fun k (a : Nat) => (fun (x : Int × Int) => smGo r d l3 x.1 x.2) (k, (a : Int))) (smMark d l3) (d.fLetters).toNat e_3 (wr ((r.length : Int) + 1))).2)]) 5 (exploreOwn_ct d.fLetters e_3 (fun (x : Int × Int) => smDom r d l3 x.1 x.2) (fun (x : Int × Int) => smGo r d l3 x.1 x.2) (smMarkDom d l3) (smMark d l3) (wr ((r.length : Int) + 1)) hp_2) en72 (caps := []) [] rfl (by rfl) rfl (by rfl) (by kernel_rfl) (by kernel_rfl) (by rfl) (by rfl)) rfl rfl rfl rfl,
    .mt ⟨[(39, .tup [.agg [I (explR (fun k (a : Nat) => (fun (x : Int × Int) => smGo r d l3 x.1 x.2) (k, (a : Int))) (smMark d l3) (d.fLetters).toNat e_3 (wr ((r.length : Int) + 1))).1.fLetters, I (explR (fun k (a : Nat) => (fun (x : Int × Int) => smGo r d l3 x.1 x.2) (k, (a : Int))) (smMark d l3) (d.fLetters).toNat e_3 (wr ((r.length : Int) + 1))).1.fStart, LS (lsT intT) (explR (fun k (a : Nat) => (fun (x : Int × Int) => smGo r d l3 x.1 x.2) (k, (a : Int))) (smMark d l3) (d.fLetters).toNat e_3 (wr ((r.length : Int) + 1))).1.fNext, .own 5], .one (B (explR (fun k (a : Nat) => (fun (x : Int × Int) => smGo r d l3 x.1 x.2) (k, (a : Int))) (smMark d l3) (d.fLetters).toNat e_3 (wr ((r.length : Int) + 1))).2)])], []⟩ [] none (by kernel_rfl) (by rfl) (mt_ev ht (by kernel_rfl)) rfl rfl rfl rfl,
    .mt ⟨[(26, .tup [.agg [I (explR (fun k (a : Nat) => (fun (x : Int × Int) => smGo r d l3 x.1 x.2) (k, (a : Int))) (smMark d l3) (d.fLetters).toNat e_3 (wr ((r.length : Int) + 1))).1.fLetters, I (explR (fun k (a : Nat) => (fun (x : Int × Int) => smGo r d l3 x.1 x.2) (k, (a : Int))) (smMark d l3) (d.fLetters).toNat e_3 (wr ((r.length : Int) + 1))).1.fStart, LS (lsT intT) (explR (fun k (a : Nat) => (fun (x : Int × Int) => smGo r d l3 x.1 x.2) (k, (a : Int))) (smMark d l3) (d.fLetters).toNat e_3 (wr ((r.length : Int) + 1))).1.fNext, .own 5], .one (B (explR (fun k (a : Nat) => (fun (x : Int × Int) => smGo r d l3 x.1 x.2) (k, (a : Int))) (smMark d l3) (d.fLetters).toNat e_3 (wr ((r.length : Int) + 1))).2)])], []⟩ [] none (by kernel_rfl) (by rfl) (mt_ev ht (by kernel_rfl)) rfl rfl rfl rfl,
    .mt ⟨[(26, .tup [.agg [I (explR (fun k (a : Nat) => (fun (x : Int × Int) => smGo r d l3 x.1 x.2) (k, (a : Int))) (smMark d l3) (d.fLetters).toNat e_3 (wr ((r.length : Int) + 1))).1.fLetters, I (explR (fun k (a : Nat) => (fun (x : Int × Int) => smGo r d l3 x.1 x.2) (k, (a : Int))) (smMark d l3) (d.fLetters).toNat e_3 (wr ((r.length : Int) + 1))).1.fStart, LS (lsT intT) (explR (fun k (a : Nat) => (fun (x : Int × Int) => smGo r d l3 x.1 x.2) (k, (a : Int))) (smMark d l3) (d.fLetters).toNat e_3 (wr ((r.length : Int) + 1))).1.fNext, .own 5], .one (B (explR (fun k (a : Nat) => (fun (x : Int × Int) => smGo r d l3 x.1 x.2) (k, (a : Int))) (smMark d l3) (d.fLetters).toNat e_3 (wr ((r.length : Int) + 1))).2)])], []⟩ [] none (by kernel_rfl) (by rfl) (mt_ev ht (by kernel_rfl)) rfl rfl rfl rfl,
    .mt ⟨[], []⟩ [] (some 6) (by kernel_rfl) (by rfl) (mt_alloc2 6 80 ht rfl (by rfl) (by rfl)) rfl rfl rfl rfl,
    .mu ⟨[(7, .sv (.one (.ptr 6 0))), (40, .sv (.agg [I (explR (fun k (a : Nat) => (fun (x : Int × Int) => smGo r d l3 x.1 x.2) (k, (a : Int))) (smMark d l3) (d.fLetters).toNat e_3 (wr ((r.length : Int) + 1))).1.fLetters, I (explR (fun k (a : Nat) => (fun (x : Int × Int) => smGo r d l3 x.1 x.2) (k, (a : Int))) (smMark d l3) (d.fLetters).toNat e_3 (wr ((r.length : Int) + 1))).1.fStart, LS (lsT intT) (explR (fun k (a : Nat) => (fun (x : Int × Int) => smGo r d l3 x.1 x.2) (k, (a : Int))) (smMark d l3) (d.fLetters).toNat e_3 (wr ((r.length : Int) + 1))).1.fNext, .own 5]))], [.gone, .gone, .gone, .gone, .gone, .gone, .box [I 0, I 0, .v (.slice none 0 0), .v (.slice none 0 0)] 80 false]⟩ 6 _ _ rfl rfl (by kernel_rfl) (by rfl) (mu_store2 ht rfl (by rfl) (by rfl) (by rfl) (by rfl) (fun h => by cases h) (by rfl) (by rfl)) rfl rfl rfl rfl rfl rfl rfl,
    .mt ⟨[(41, .sv (.one (B (explR (fun k (a : Nat) => (fun (x : Int × Int) => smGo r d l3 x.1 x.2) (k, (a : Int))) (smMark d l3) (d.fLetters).toNat e_3 (wr ((r.length : Int) + 1))).2)))], []⟩ [] none (by kernel_rfl) (by rfl) (mt_ev ht (by kernel_rfl)) rfl rfl rfl rfl,
    trivial⟩
    · refine En.seq ?_
      refine En.region ?_
      refine WL.run ht hn 2 ⟨[(2, .sv (.one (.ptr 1 0)))], [.gone, .box [I (explR (fun k (a : Nat) => (fun (x : Int × Int) => smGo r d l3 x.1 x.2) (k, (a : Int))) (smMark d l3) (d.fLetters).toNat e_3 (wr ((r.length : Int) + 1))).1.fLetters, I (explR (fun k (a : Nat) => (fun (x : Int × Int) => smGo r d l3 x.1 x.2) (k, (a : Int))) (smMark d l3) (d.fLetters).toNat e_3 (wr ((r.length : Int) + 1))).1.fStart, LS (lsT intT) (explR (fun k (a : Nat) => (fun (x : Int × Int) => smGo r d l3 x.1 x.2) (k, (a : Int))) (smMark d l3) (d.fLetters).toNat e_3 (wr ((r.length : Int) + 1))).1.fNext, .own 5] 80 false, .gone, .gone, .gone, rowI 3 intT (explR (fun k (a : Nat) => (fun (x : Int × Int) => smGo r d l3 x.1 x.2) (k, (a : Int))) (smMark d l3) (d.fLetters).toNat e_3 (wr ((r.length : Int) + 1))).1.fMark, .gone]⟩ (by kernel_rfl) ?_
      refine WL.nil ?_
      refine En.ret ?_
      exact En.backS ht 5 (explR (fun k (a : Nat) => (fun (x : Int × Int) => smGo r d l3 x.1 x.2) (k, (a : Int))) (smMark d l3) (d.fLetters).toNat e_3 (wr ((r.length : Int) + 1))).1 hmay h (by kernel_rfl) (by rfl) rfl rfl
end Go.Proofs.Ytfpdnigihjmohaa

/- The contract of det.Smallest: it is the one automaton of its language. No condition. -/
namespace Go.Proofs.Ytfpdnigihjmohaa
open Go.RowKit Go.MapKept
set_option linter.unusedSimpArgs false
set_option linter.unusedVariables false
set_option maxRecDepth 100000
set_option linter.unusedSectionVars false

/-- of each class one of its states -/
def BackOk (cls back : List Int) (n : Nat) : Prop := back.length = n ∧ ∀ q, q < n → ∃ p : Nat, p < n ∧ back.getD (cls.getD q 0).toNat 0 = (p : Int) ∧ cls.getD p 0 = cls.getD q 0
section
variable {d : ApiDet} {cls back : List Int}
theorem smGo_at (hb : BackOk cls back d.fNext.length) {q : Nat} (hq : q < d.fNext.length) : ∃ p : Nat, p < d.fNext.length ∧ cls.getD p 0 = cls.getD q 0 ∧ (∀ a : Nat, smGo cls d back (cls.getD q 0) a = cls.getD (stepD d p a) 0) ∧ smMark d back (cls.getD q 0) = d.fMark.getD p 0 := by
  obtain ⟨p, h1, h2, h3⟩ := hb.2 q hq
  refine ⟨p, h1, h3, fun a => ?_, ?_⟩
  · unfold smGo stepD
    rw [h2, Int.toNat_natCast, Int.toNat_natCast]
  · unfold smMark
    rw [h2, Int.toNat_natCast]
theorem smLang (h : ClsOk d) (hc : IsClass d cls) (hb : BackOk cls back d.fNext.length) : ∀ (w : List Nat) (q : Nat), q < d.fNext.length → (∀ a ∈ w, a < d.fLetters.toNat) → langK (fun k (a : Nat) => smGo cls d back k (a : Int)) (smMark d back) (cls.getD q 0) w = langD d q w := by
  intro w
  induction w with
  | nil =>
    intro q hq _
    obtain ⟨p, h1, h2, _, h4⟩ := smGo_at hb hq
    show smMark d back (cls.getD q 0) = d.fMark.getD q 0
    rw [h4]
    exact rs_at (w := []) ((hc.same p q h1 hq).1 h2) fun b hb => by simp at hb
  | cons a w ih =>
    intro q hq hw
    obtain ⟨p, h1, h2, h3, _⟩ := smGo_at hb hq
    show langK (fun k (a : Nat) => smGo cls d back k (a : Int)) (smMark d back) (smGo cls d back (cls.getD q 0) a) w = _
    rw [h3, ih (stepD d p a) (h.pre.step h1) fun b hb => hw b (List.mem_cons_of_mem _ hb)]
    exact rs_at (w := a :: w) ((hc.same p q h1 hq).1 h2) hw
theorem smKeys (h : ClsOk d) (hc : IsClass d cls) (hb : BackOk cls back d.fNext.length) {k : Int} (hk : k ∈ cls) (a : Nat) : smGo cls d back k a ∈ cls := by
  obtain ⟨q, hq⟩ := List.getElem?_of_mem hk
  have hlt := (List.getElem?_eq_some_iff.1 hq).1
  rw [hc.len] at hlt
  obtain ⟨p, h1, _, h3, _⟩ := smGo_at (cls := cls) hb hlt
  rw [show k = cls.getD q 0 by simp [hq], h3]
  exact getD_mem (by rw [hc.len]; exact h.pre.step h1)
theorem smCanon (h : ClsOk d) (hc : IsClass d cls) (hb : BackOk cls back d.fNext.length) {q : Nat} (hq : q < d.fNext.length) (limit : Int) (hl : (cls.length : Int) ≤ limit) :
    explR (fun k (a : Nat) => smGo cls d back k (a : Int)) (smMark d back) d.fLetters.toNat (cls.getD q 0) limit = (canon d.fLetters.toNat (langD d q), true) := by
  have h0 : cls.getD q 0 ∈ cls := getD_mem (by rw [hc.len]; exact hq)
  rw [explR_ends h0 (fun k a hk _ => smKeys h hc hb hk a) hl]
  congr 1
  rw [canon_of (P := fun k => k ∈ cls) h0 (fun k a hk _ => smKeys h hc hb hk a) ?_]
  · exact canon_congr fun w hw => smLang h hc hb w q hq hw
  · intro x y hx hy e
    obtain ⟨p, hp⟩ := List.getElem?_of_mem hx
    obtain ⟨s, hs⟩ := List.getElem?_of_mem hy
    have hpl := (List.getElem?_eq_some_iff.1 hp).1
    have hsl := (List.getElem?_eq_some_iff.1 hs).1
    rw [hc.len] at hpl hsl
    have ex : x = cls.getD p 0 := by simp [hp]
    have ey : y = cls.getD s 0 := by simp [hs]
    rw [ex, ey] at e ⊢
    refine (hc.same p s hpl hsl).2 (rs_congr fun w hw => ?_)
    rw [← smLang h hc hb w p hpl hw, ← smLang h hc hb w s hsl hw]
    exact rs_at e hw
theorem smDom_at (h : ClsOk d) (hc : IsClass d cls) (hb : BackOk cls back d.fNext.length) {k : Int} (hk : k ∈ cls) : (∀ a : Nat, (a : Int) < d.fLetters → smDom cls d back k a) ∧ smMarkDom d back k := by
  obtain ⟨q, hq⟩ := List.getElem?_of_mem hk
  have hlt := (List.getElem?_eq_some_iff.1 hq).1
  rw [hc.len] at hlt
  obtain ⟨p, h1, h2, h3⟩ := hb.2 q hlt
  have hkr := hc.range k hk
  have ek : k = cls.getD q 0 := by simp [hq]
  rw [← ek] at h2
  have hb1 := hb.1
  have hrow := h.wf.rows _ (getD_mem (l := d.fNext) (z := []) h1)
  have hlet := h.wf.letters
  refine ⟨fun a ha => ?_, ?_⟩
  · unfold smDom
    rw [h2, Int.toNat_natCast, Int.toNat_natCast, hrow]
    have hn := h.wf.next _ (getD_mem (l := d.fNext) (z := []) h1) _ (getD_mem (l := d.fNext.getD p []) (i := a) (z := 0) (by omega))
    rw [hc.len]
    omega
  · unfold smMarkDom
    rw [h2, h.wf.mark]
    omega
end
theorem smallest_plain (d : ApiDet) (h : ClsOk d) : smallest_vc d (fun r => r = canon d.fLetters.toNat (langD d d.fStart.toNat)) := by
  intro _ _
  have hsz := h.size
  refine ⟨h, fun cls hc => ⟨⟨by omega, Int.le_refl _, by rw [hc.len]; omega⟩, fun x l => ∃ k : Nat, x = k ∧ k ≤ cls.length ∧ l.length = cls.length ∧ ∀ q, q < k → ∃ p : Nat, p < cls.length ∧ l.getD (cls.getD q 0).toNat 0 = (p : Int) ∧ cls.getD p 0 = cls.getD q 0, fun x _ => cls.length - x.toNat,
    ⟨0, rfl, Nat.zero_le _, by simp, fun q hq => absurd hq (Nat.not_lt_zero _)⟩, ?_⟩⟩
  rintro x l ⟨k, rfl, hk, hl, hg⟩
  refine ⟨fun hb => ?_, fun hb => ?_⟩
  · have hlt : k < cls.length := by
      have := of_decide_eq_true hb
      omega
    have hr := hc.range _ (getD_mem (z := 0) hlt)
    have hcl := hc.len
    refine ⟨cls.getD k 0, by rw [idx_getD 0 (by omega) (by omega), Int.toNat_natCast], l.getD (cls.getD k 0).toNat 0, idx_getD 0 hr.1 (by omega), ⟨k + 1, ?_, hlt, by simp [hl], fun q hq => ?_⟩, ?_⟩
    · rw [wr_in (by omega) (by omega)]
      omega
    · by_cases e : cls.getD q 0 = cls.getD k 0
      · refine ⟨k, hlt, ?_, e.symm⟩
        rw [e]
        have : (l.set (cls.getD k 0).toNat (k : Int))[(cls.getD k 0).toNat]? = some (k : Int) := List.getElem?_set_self (by omega)
        rw [List.getD_eq_getElem?_getD, this]
        rfl
      · have hqk : q < k := by
          rcases Nat.lt_or_ge q k with h | h
          · exact h
          · exact absurd (by rw [show q = k by omega]) e
        obtain ⟨p, h1, h2, h3⟩ := hg q hqk
        refine ⟨p, h1, ?_, h3⟩
        have hrq := hc.range _ (getD_mem (l := cls) (i := q) (z := 0) (by omega))
        rw [List.getD_eq_getElem?_getD, List.getElem?_set_ne (by omega), ← List.getD_eq_getElem?_getD]
        exact h2
    · rw [wr_in (by omega) (by omega)]
      simp only
      omega
  · have hke : k = cls.length := by
      have := of_decide_eq_false hb
      omega
    subst hke
    have hst := h.wf.start
    have hback : BackOk cls l d.fNext.length := ⟨by rw [hl, hc.len], by rw [← hc.len]; exact hg⟩
    have hcl := hc.len
    have h0 : cls.getD d.fStart.toNat 0 ∈ cls := getD_mem (by omega)
    refine ⟨cls.getD d.fStart.toNat 0, idx_getD 0 hst.1 (by omega), ⟨⟨h.wf.letters, h.wide⟩, ?_, fun k => k ∈ cls, h0, fun k a hk ha => ⟨(smDom_at h hc hback hk).1 a ha, smKeys h hc hback hk a⟩, fun k hk => (smDom_at h hc hback hk).2⟩, ?_⟩
    · rw [wr_in (by omega) (by omega)]
      omega
    · rw [wr_in (by omega) (by omega)]
      have := smCanon h hc hback (q := d.fStart.toNat) (by omega) ((cls.length : Int) + 1) (by omega)
      exact congrArg Prod.fst this
theorem smallest_ct (d : ApiDet) (h : ClsOk d) : Ct 76 [.sv (.agg [I d.fLetters, I d.fStart, LS (lsT intT) d.fNext, LS intT d.fMark])] [] (fun (_ : Unit) => True) (fun _ => .sv (.agg [I (canon d.fLetters.toNat (langD d d.fStart.toNat)).fLetters, I (canon d.fLetters.toNat (langD d d.fStart.toNat)).fStart, LS (lsT intT) (canon d.fLetters.toNat (langD d d.fStart.toNat)).fNext, LS intT (canon d.fLetters.toNat (langD d d.fStart.toNat)).fMark])) :=
  (smallest_walk d (fun r => r = canon d.fLetters.toNat (langD d d.fStart.toNat)) (smallest_plain d h)).fun
theorem smallestOwn_ct (d : ApiDet) (h : ClsOk d) : CtS 76 [.sv (.agg [I d.fLetters, I d.fStart, LS (lsT intT) d.fNext, LS intT d.fMark])] [] (fun (_ : Unit) => True) (fun _ => .sv (.agg [I (canon d.fLetters.toNat (langD d d.fStart.toNat)).fLetters, I (canon d.fLetters.toNat (langD d d.fStart.toNat)).fStart, LS (lsT intT) (canon d.fLetters.toNat (langD d d.fStart.toNat)).fNext, .own 0])) (fun _ => rowI 3 intT (canon d.fLetters.toNat (langD d d.fStart.toNat)).fMark) :=
  (smallestOwn_walk d (fun r => r = canon d.fLetters.toNat (langD d d.fStart.toNat)) (smallest_plain d h)).fun
end Go.Proofs.Ytfpdnigihjmohaa

/- Plain laws of sets that stand as bits of a number. No condition. -/
namespace Go.Proofs.Ytfpdnigihjmohaa
open Go.RowKit Go.MapKept
set_option linter.unusedSimpArgs false
set_option linter.unusedVariables false
set_option maxRecDepth 100000

theorem wr_j : ∀ n : Int, 0 ≤ n → n < 2 ^ 62 → IntKind.i64.wrap n = n := fun n h0 h1 => wr_in (by omega) (by omega)
theorem band {a b : Nat} (ha : a < 2 ^ 62) (hb : b < 2 ^ 62) : bitsI .and .i64 (a : Int) (b : Int) = ((a &&& b : Nat) : Int) := (bits_nat .i64 62 (by decide) wr_j a b ha hb).1
theorem bor {a b : Nat} (ha : a < 2 ^ 62) (hb : b < 2 ^ 62) : bitsI .or .i64 (a : Int) (b : Int) = ((a ||| b : Nat) : Int) := (bits_nat .i64 62 (by decide) wr_j a b ha hb).2
theorem bandNot {a b : Nat} (ha : a < 2 ^ 62) (hb : b < 2 ^ 62) : bitsI .andNot .i64 (a : Int) (b : Int) = ((a ^^^ (a &&& b) : Nat) : Int) := by
  have key : (BitVec.ofInt 64 (a : Int) &&& ~~~(BitVec.ofInt 64 (b : Int))).toNat = a ^^^ (a &&& b) := by
    refine Nat.eq_of_testBit_eq fun i => ?_
    rw [BitVec.testBit_toNat, BitVec.getLsbD_and, BitVec.getLsbD_not, BitVec.ofInt_natCast, BitVec.ofInt_natCast, BitVec.getLsbD_ofNat, BitVec.getLsbD_ofNat, Nat.testBit_xor, Nat.testBit_and]
    by_cases hi : i < 64
    · simp only [hi, decide_true, Bool.true_and]
      cases a.testBit i <;> cases b.testBit i <;> rfl
    · have h1 : a.testBit i = false := Nat.testBit_lt_two_pow (Nat.lt_of_lt_of_le ha (Nat.pow_le_pow_right (by decide) (by omega)))
      simp [hi, h1]
  show IntKind.i64.wrap ((BitVec.ofInt 64 (a : Int) &&& ~~~(BitVec.ofInt 64 (b : Int))).toNat : Nat) = _
  rw [key]
  refine wr_j _ (Int.natCast_nonneg _) ?_
  have : a ^^^ (a &&& b) < 2 ^ 62 := Nat.xor_lt_two_pow ha (Nat.and_lt_two_pow _ hb)
  exact_mod_cast this
theorem bshr (a : Nat) {p : Nat} (hp : p ≤ 64) : Int.fdiv (a : Int) (2 ^ (min p 64)) = ((a >>> p : Nat) : Int) := by
  rw [Nat.min_eq_left hp, Nat.shiftRight_eq_div_pow, Int.fdiv_eq_ediv_of_nonneg _ (Int.pow_nonneg (by decide))]
  simp
theorem bshl {p : Nat} (hp : p < 62) : wr (1 * 2 ^ (min p 64)) = ((2 ^ p : Nat) : Int) := by
  rw [Nat.min_eq_left (by omega), Int.one_mul]
  have h : (2 : Nat) ^ p < 2 ^ 62 := Nat.pow_lt_pow_right (by decide) hp
  rw [show ((2 : Int) ^ p) = ((2 ^ p : Nat) : Int) by simp]
  exact wr_j _ (Int.natCast_nonneg _) (by exact_mod_cast h)
/-- is it in the set? -/
theorem btest {a p : Nat} (ha : a < 2 ^ 62) (hp : p ≤ 64) : bitsI .and .i64 (Int.fdiv (a : Int) (2 ^ (min p 64))) 1 = if a.testBit p then 1 else 0 := by
  rw [bshr a hp]
  have h1 : a >>> p < 2 ^ 62 := by
    rw [Nat.shiftRight_eq_div_pow]
    exact Nat.lt_of_le_of_lt (Nat.div_le_self _ _) ha
  have := band (a := a >>> p) (b := 1) h1 (by decide)
  rw [show ((1 : Nat) : Int) = 1 from rfl] at this
  rw [this]
  rw [Nat.and_one_is_mod, Nat.testBit_eq_decide_div_mod_eq, Nat.shiftRight_eq_div_pow]
  have := Nat.mod_two_eq_zero_or_one (a / 2 ^ p)
  rcases this with h | h <;> simp [h]
/-- the set of those below n that are so -/
def maskOf (f : Nat → Bool) : Nat → Nat
  | 0 => 0
  | n + 1 => bif f n then maskOf f n ||| 2 ^ n else maskOf f n
theorem maskOf_test (f : Nat → Bool) (i : Nat) : ∀ n, (maskOf f n).testBit i = (decide (i < n) && f i)
  | 0 => by simp [maskOf]
  | n + 1 => by
    have ih := maskOf_test f i n
    rw [maskOf]
    cases hf : f n with
    | true =>
      show (maskOf f n ||| 2 ^ n).testBit i = _
      rw [Nat.testBit_or, ih, Nat.testBit_two_pow]
      by_cases e : n = i
      · subst e; simp [hf]
      · by_cases h : i < n
        · simp [h, e, show i < n + 1 by omega]
        · simp [h, e, show ¬ i < n + 1 by omega]
    | false =>
      show (maskOf f n).testBit i = _
      rw [ih]
      by_cases e : i = n
      · subst e; simp [hf]
      · by_cases h : i < n
        · simp [h, show i < n + 1 by omega]
        · simp [h, show ¬ i < n + 1 by omega]
theorem maskOf_lt (f : Nat → Bool) : ∀ n, maskOf f n < 2 ^ n
  | 0 => by simp [maskOf]
  | n + 1 => by
    have ih := maskOf_lt f n
    have h1 : 2 ^ n < 2 ^ (n + 1) := Nat.pow_lt_pow_right (by decide) (by omega)
    rw [maskOf]
    cases f n with
    | true => exact Nat.or_lt_two_pow (by omega) h1
    | false => show maskOf f n < _; omega
theorem maskOf_lt62 (f : Nat → Bool) {n : Nat} (h : n ≤ 62) : maskOf f n < 2 ^ 62 := Nat.lt_of_lt_of_le (maskOf_lt f n) (Nat.pow_le_pow_right (by decide) h)
theorem maskOf_congr {f g : Nat → Bool} : ∀ {n : Nat}, (∀ i, i < n → f i = g i) → maskOf f n = maskOf g n
  | 0, _ => rfl
  | n + 1, h => by rw [maskOf, maskOf, h n (by omega), maskOf_congr fun i hi => h i (by omega)]
/-- one more, in the loop -/
theorem mask_or {f : Nat → Bool} {n : Nat} (hn : n < 62) (hf : f n = true) : bitsI .or .i64 (maskOf f n : Int) (wr (1 * 2 ^ (min n 64))) = (maskOf f (n + 1) : Int) := by
  have h : (2 : Nat) ^ n < 2 ^ 62 := Nat.pow_lt_pow_right (by decide) hn
  rw [bshl hn, bor (maskOf_lt62 f (by omega)) h, maskOf, hf]
  rfl
theorem mask_no {f : Nat → Bool} {n : Nat} (hf : f n = false) : maskOf f (n + 1) = maskOf f n := by
  rw [maskOf, hf]
  rfl
/-- is p in the set s? -/
def hasB (s p : Int) : Bool := s.toNat.testBit p.toNat
theorem btestI {s p : Int} (hs : 0 ≤ s ∧ s < 4611686018427387904) (hp : 0 ≤ p ∧ p ≤ 64) : bitsI .and .i64 (Int.fdiv s (2 ^ (min p.toNat 64))) 1 = if hasB s p then 1 else 0 := by
  obtain ⟨a, rfl⟩ := Int.eq_ofNat_of_zero_le hs.1
  obtain ⟨q, rfl⟩ := Int.eq_ofNat_of_zero_le hp.1
  unfold hasB
  rw [Int.toNat_natCast, Int.toNat_natCast]
  exact btest (by omega) (by omega)
theorem hasB_mask {f : Nat → Bool} {n : Nat} {p : Int} (h : 0 ≤ p) : hasB (maskOf f n : Int) p = (decide (p < (n : Int)) && f p.toNat) := by
  unfold hasB
  rw [Int.toNat_natCast, maskOf_test]
  congr 1
  rw [decide_eq_decide]
  omega
-- loops that count
theorem dlt {k n : Nat} (h : decide ((k : Int) < (n : Int)) = true) : k < n := by
  have := of_decide_eq_true h
  omega
theorem dge {k n : Nat} (h : decide ((k : Int) < (n : Int)) = false) : n ≤ k := by
  have := of_decide_eq_false h
  omega
theorem wsucc {k : Nat} (h : k < 4611686018427387904) : wr ((k : Int) + 1) = ((k + 1 : Nat) : Int) := by
  rw [wr_in (by omega) (by omega)]
  rfl
theorem mu_up {n k : Nat} (h : k < n) (hk : k < 4611686018427387904) : n - (wr ((k : Int) + 1)).toNat < n - (k : Int).toNat := by
  rw [wsucc hk, Int.toNat_natCast, Int.toNat_natCast]
  omega
theorem idx_at {α : Type} {l : List α} {k : Nat} (h : k < l.length) : idx l (k : Int) = some l[k] := by simp [idx, h]
theorem idx_of {α : Type} {l : List α} {i : Int} (z : α) (h0 : 0 ≤ i) (h1 : i < (l.length : Int)) : idx l i = some (l.getD i.toNat z) := by
  have h : i.toNat < l.length := by omega
  unfold idx
  rw [if_pos h0, List.getD_eq_getElem?_getD, List.getElem?_eq_getElem h]
  rfl
theorem take_any {α : Type} {l : List α} {k : Nat} (h : k < l.length) (f : α → Bool) : (l.take (k + 1)).any f = ((l.take k).any f || f l[k]) := by
  rw [List.take_add_one, List.any_append, List.getElem?_eq_getElem h]
  simp
theorem take_map {α β : Type} {l : List α} {k : Nat} (h : k < l.length) (f : α → β) : (l.take (k + 1)).map f = (l.take k).map f ++ [f l[k]] := by
  rw [List.take_add_one, List.map_append, List.getElem?_eq_getElem h]
  rfl
theorem capOk_of {n m b : Nat} (h : (n + m) * b ≤ 140737488355328) : capOk n m b := h
end Go.Proofs.Ytfpdnigihjmohaa

/- The mirrors of package alter: Check, ends, ahead. No condition. -/
namespace Go.Proofs.Ytfpdnigihjmohaa
open Go.RowKit Go.MapKept
set_option linter.unusedSimpArgs false
set_option linter.unusedVariables false
set_option maxRecDepth 100000

def indexLLLInt_vc (l : (List (List (List (List Int))))) (dom : ((List (List (List Int))) → Prop)) (φ : ((List (List (List Int))) → Bool)) (Q : Int → Prop) : Prop :=
  l.length ≤ 9223372036854775807 →
  (∃ (Inv : Int → Prop) (mu : Int → Nat), Inv 0 ∧
  ∀ (x8 : Int) , Inv x8 → (IfP (decide (x8 < (l.length : Int))) (∃ e, idx l x8 = some e ∧
  (dom e) ∧
  IfP (φ e) (Q x8) ((Inv (wr (x8 + 1)) ∧ mu (wr (x8 + 1)) < mu x8))) (Q (-1))))
theorem indexLLLInt_walk (l : (List (List (List (List Int))))) (dom : ((List (List (List Int))) → Prop)) (φ : ((List (List (List Int))) → Bool)) (Q : Int → Prop) (h : indexLLLInt_vc l dom φ Q) : Ct 165 [.sv (.one (LS (lsT (lsT (lsT intT))) l)), .sv (.one (.rd (fvR (fun x => [.sv (.one (LS (lsT (lsT intT)) x))]) (fun b => .sv (.one (B b))) dom φ)))] [] Q (fun (r : Int) => .sv (.one (I r))) := by
  have ht := tab_ok
  refine Ct.body Try.func165 rfl rfl rfl rfl (fun c hn => ?_)
  unfold indexLLLInt_vc at h
  refine En.lenL 0 (by rfl) (fun hl => ?_)
  replace h := h hl
  clear hl
  refine En.seq ?_
  refine En.region ?_
  refine WL.run ht hn 1 ⟨[(0, .sv (.one (LS (lsT (lsT (lsT intT))) l))), (1, .sv (.one (.rd (fvR (fun x => [.sv (.one (LS (lsT (lsT intT)) x))]) (fun b => .sv (.one (B b))) dom φ))))], []⟩ (by kernel_rfl) ?_
  refine WL.nil ?_
  refine En.seq ?_
  refine En.seq ?_
  refine En.region ?_
  refine WL.run ht hn 3 ⟨[(0, .sv (.one (LS (lsT (lsT (lsT intT))) l))), (1, .sv (.one (.rd (fvR (fun x => [.sv (.one (LS (lsT (lsT intT)) x))]) (fun b => .sv (.one (B b))) dom φ)))), (7, .sv (.one (I (l.length : Int)))), (8, .sv (.one (I 0)))], []⟩ (by kernel_rfl) ?_
  refine WL.nil ?_
  refine En.block ?_
  obtain ⟨Inv, mu, h0, hI⟩ := h
  refine En.loop (σ := Int) (fun zz => Inv zz) (fun zz => mu zz) (fun zz => ⟨[(0, .sv (.one (LS (lsT (lsT (lsT intT))) l))), (1, .sv (.one (.rd (fvR (fun x => [.sv (.one (LS (lsT (lsT intT)) x))]) (fun b => .sv (.one (B b))) dom φ)))), (7, .sv (.one (I (l.length : Int)))), (8, .sv (.one (I zz)))], []⟩) 0 h0 (sub_ok (by kernel_rfl)) ?_
  intro x8 h
  replace h := hI _ h
  show En c ⟨[(0, .sv (.one (LS (lsT (lsT (lsT intT))) l))), (1, .sv (.one (.rd (fvR (fun x => [.sv (.one (LS (lsT (lsT intT)) x))]) (fun b => .sv (.one (B b))) dom φ)))), (7, .sv (.one (I (l.length : Int)))), (8, .sv (.one (I x8)))], []⟩ _
  refine En.seq ?_
  refine En.region ?_
  refine WL.run ht hn 1 ⟨[(0, .sv (.one (LS (lsT (lsT (lsT intT))) l))), (1, .sv (.one (.rd (fvR (fun x => [.sv (.one (LS (lsT (lsT intT)) x))]) (fun b => .sv (.one (B b))) dom φ)))), (7, .sv (.one (I (l.length : Int)))), (8, .sv (.one (I x8))), (9, .sv (.one (B (decide (x8 < (l.length : Int))))))], []⟩ (by kernel_rfl) ?_
  refine WL.nil ?_
  refine En.seq ?_
  refine En.cond (b := (decide (x8 < (l.length : Int)))) (by kernel_rfl) (fun hb => ?_) (fun hb => ?_)
  · replace h := h.1 hb
    refine En.skip ?_
    refine En.seq ?_
    refine En.block ?_
    refine En.seq ?_
    refine En.region ?_
    refine WL.run ht hn 2 ⟨[(0, .sv (.one (LS (lsT (lsT (lsT intT))) l))), (1, .sv (.one (.rd (fvR (fun x => [.sv (.one (LS (lsT (lsT intT)) x))]) (fun b => .sv (.one (B b))) dom φ)))), (5, .sv (.one (I x8))), (7, .sv (.one (I (l.length : Int)))), (8, .sv (.one (I x8)))], []⟩ (by kernel_rfl) ?_
    refine WL.nil ?_
    refine En.seq ?_
    refine En.region ?_
    refine WL.run ht hn 3 ⟨[(0, .sv (.one (LS (lsT (lsT (lsT intT))) l))), (1, .sv (.one (.rd (fvR (fun x => [.sv (.one (LS (lsT (lsT intT)) x))]) (fun b => .sv (.one (B b))) dom φ)))), (5, .sv (.one (I x8))), (7, .sv (.one (I (l.length : Int)))), (8, .sv (.one (I x8))), (11, .sv (.one (.rd (fvR (fun x => [.sv (.one (LS (lsT (lsT intT)) x))]) (fun b => .sv (.one (B b))) dom φ)))), (12, .sv (.one (LS (lsT (lsT (lsT intT))) l))), (13, .sv (.one (I x8)))], []⟩ (by kernel_rfl) ?_
    obtain ⟨e, he, h⟩ := h
    refine WL.val hn (by rfl) (val_index (T := (lsT (lsT (lsT intT)))) (l := l) (i := x8) ht rfl (by rfl) (by rfl) (by rfl) (by rfl) (by rfl) (by rfl) he) (by rfl) ?_
    refine WL.val hn (by rfl) (val_load (s := .one (LS (lsT (lsT intT)) e)) ht rfl (by rfl) (by rfl) (by rfl) (by rfl) (by rfl)) (by rfl) ?_
    have hp := h.1
    replace h := h.2
    refine WL.mt0 (K := []) (p := none) hn (by rfl) (mt_callv e hp rfl (by rfl) (by rfl) (by rfl) (by rfl)) (by rfl) (by rfl) (by rfl) ?_
    refine WL.nil ?_
    refine En.cond (b := (φ e)) (by kernel_rfl) (fun hb => ?_) (fun hb => ?_)
    · replace h := h.1 hb
      refine En.seq ?_
      refine En.region ?_
      refine WL.run ht hn 2 ⟨[(4, .sv (.one (I x8)))], []⟩ (by kernel_rfl) ?_
      refine WL.nil ?_
      refine En.ret ?_
      exact En.back ht x8 h (by kernel_rfl) rfl
    · replace h := h.2 hb
      refine En.skip ?_
      refine En.region ?_
      refine WL.run ht hn 2 ⟨[(0, .sv (.one (LS (lsT (lsT (lsT intT))) l))), (1, .sv (.one (.rd (fvR (fun x => [.sv (.one (LS (lsT (lsT intT)) x))]) (fun b => .sv (.one (B b))) dom φ)))), (7, .sv (.one (I (l.length : Int)))), (8, .sv (.one (I (wr (x8 + 1)))))], []⟩ (by kernel_rfl) ?_
      refine WL.nil ?_
      exact En.at (I := fun zz => Inv zz ∧ mu zz < mu x8) (T := fun zz => ⟨[(0, .sv (.one (LS (lsT (lsT (lsT intT))) l))), (1, .sv (.one (.rd (fvR (fun x => [.sv (.one (LS (lsT (lsT intT)) x))]) (fun b => .sv (.one (B b))) dom φ)))), (7, .sv (.one (I (l.length : Int)))), (8, .sv (.one (I zz)))], []⟩) (wr (x8 + 1)) h (by kernel_rfl)
  · replace h := h.2 hb
    refine En.exit rfl ?_
    refine En.seq ?_
    refine En.region ?_
    refine WL.run ht hn 1 ⟨[(4, .sv (.one (I (-1))))], []⟩ (by kernel_rfl) ?_
    refine WL.nil ?_
    refine En.ret ?_
    exact En.back ht (-1) h (by kernel_rfl) rfl
theorem en165 : ∀ args w, (callFunc 165 args).run Try.prog w = .ok (.enter 165 args) w := enters_of Try.func165 (by kernel_rfl) rfl
theorem indexLLLInt_ct (l : List (List (List (List Int)))) (dom : (List (List (List Int))) → Prop) (φ : (List (List (List Int))) → Bool) (hd : ∀ x ∈ l, dom x) : Ct 165 [.sv (.one (LS (lsT (lsT (lsT intT))) l)), .sv (.one (.rd (fvR (fun x => [.sv (.one (LS (lsT (lsT intT)) x))]) (fun b => .sv (.one (B b))) dom φ)))] [] (fun (_ : Unit) => True) (fun _ => .sv (.one (I (idxTo φ l)))) := by
  refine (indexLLLInt_walk l dom φ (fun r => r = idxTo φ l) ?_).fun
  unfold indexLLLInt_vc
  exact index_plain l dom φ hd
def anyLLLInt_vc (l : (List (List (List (List Int))))) (dom : ((List (List (List Int))) → Prop)) (φ : ((List (List (List Int))) → Bool)) (Q : Bool → Prop) : Prop :=
  l.length ≤ 9223372036854775807 →
  ((∀ x_ ∈ l, dom x_) ∧
  Q (decide ((idxTo φ l) ≥ 0)))
theorem anyLLLInt_walk (l : (List (List (List (List Int))))) (dom : ((List (List (List Int))) → Prop)) (φ : ((List (List (List Int))) → Bool)) (Q : Bool → Prop) (h : anyLLLInt_vc l dom φ Q) : Ct 123 [.sv (.one (LS (lsT (lsT (lsT intT))) l)), .sv (.one (.rd (fvR (fun x => [.sv (.one (LS (lsT (lsT intT)) x))]) (fun b => .sv (.one (B b))) dom φ)))] [] Q (fun (r : Bool) => .sv (.one (B r))) := by
  have ht := tab_ok
  refine Ct.body Try.func123 rfl rfl rfl rfl (fun c hn => ?_)
  unfold anyLLLInt_vc at h
  refine En.lenL 0 (by rfl) (fun hl => ?_)
  replace h := h hl
  clear hl
  refine En.seq ?_
  refine En.region ?_
  refine WL.run ht hn 1 ⟨[(0, .sv (.one (LS (lsT (lsT (lsT intT))) l))), (1, .sv (.one (.rd (fvR (fun x => [.sv (.one (LS (lsT (lsT intT)) x))]) (fun b => .sv (.one (B b))) dom φ))))], []⟩ (by kernel_rfl) ?_
  refine WL.nil ?_
  refine En.seq ?_
  refine En.region ?_
  refine WL.run ht hn 2 ⟨[(5, .sv (.one (LS (lsT (lsT (lsT intT))) l))), (6, .sv (.one (.rd (fvR (fun x => [.sv (.one (LS (lsT (lsT intT)) x))]) (fun b => .sv (.one (B b))) dom φ))))], []⟩ (by kernel_rfl) ?_
  have hp := h.1
  replace h := h.2
  refine WL.mt0 (K := []) (p := none) hn (by rfl) (mt_call (indexLLLInt_ct l dom φ hp) en165 (caps := []) [] rfl (by rfl) (by kernel_rfl) (by kernel_rfl) (by rfl) (by rfl) (by rfl)) (by rfl) (by rfl) (by rfl) ?_
  refine WL.run ht hn 2 ⟨[(4, .sv (.one (B (decide ((idxTo φ l) ≥ 0)))))], []⟩ (by kernel_rfl) ?_
  refine WL.nil ?_
  refine En.ret ?_
  exact En.back ht (decide ((idxTo φ l) ≥ 0)) h (by kernel_rfl) rfl
theorem en123 : ∀ args w, (callFunc 123 args).run Try.prog w = .ok (.enter 123 args) w := enters_of Try.func123 (by kernel_rfl) rfl
theorem anyLLLInt_ct (l : List (List (List (List Int)))) (dom : (List (List (List Int))) → Prop) (φ : (List (List (List Int))) → Bool) (hd : ∀ x ∈ l, dom x) : Ct 123 [.sv (.one (LS (lsT (lsT (lsT intT))) l)), .sv (.one (.rd (fvR (fun x => [.sv (.one (LS (lsT (lsT intT)) x))]) (fun b => .sv (.one (B b))) dom φ)))] [] (fun (_ : Unit) => True) (fun _ => .sv (.one (B (l.any φ)))) := by
  refine (anyLLLInt_walk l dom φ (fun r => r = l.any φ) ?_).fun
  unfold anyLLLInt_vc
  exact fun _ => ⟨hd, by rw [← idxTo_nonneg φ l]⟩
def indexLInt_vc (l : (List (List Int))) (dom : ((List Int) → Prop)) (φ : ((List Int) → Bool)) (Q : Int → Prop) : Prop :=
  l.length ≤ 9223372036854775807 →
  (∃ (Inv : Int → Prop) (mu : Int → Nat), Inv 0 ∧
  ∀ (x8 : Int) , Inv x8 → (IfP (decide (x8 < (l.length : Int))) (∃ e, idx l x8 = some e ∧
  (dom e) ∧
  IfP (φ e) (Q x8) ((Inv (wr (x8 + 1)) ∧ mu (wr (x8 + 1)) < mu x8))) (Q (-1))))
theorem indexLInt_walk (l : (List (List Int))) (dom : ((List Int) → Prop)) (φ : ((List Int) → Bool)) (Q : Int → Prop) (h : indexLInt_vc l dom φ Q) : Ct 134 [.sv (.one (LS (lsT intT) l)), .sv (.one (.rd (fvR (fun x => [.sv (.one (LS intT x))]) (fun b => .sv (.one (B b))) dom φ)))] [] Q (fun (r : Int) => .sv (.one (I r))) := by
  have ht := tab_ok
  refine Ct.body Try.func134 rfl rfl rfl rfl (fun c hn => ?_)
  unfold indexLInt_vc at h
  refine En.lenL 0 (by rfl) (fun hl => ?_)
  replace h := h hl
  clear hl
  refine En.seq ?_
  refine En.region ?_
  refine WL.run ht hn 1 ⟨[(0, .sv (.one (LS (lsT intT) l))), (1, .sv (.one (.rd (fvR (fun x => [.sv (.one (LS intT x))]) (fun b => .sv (.one (B b))) dom φ))))], []⟩ (by kernel_rfl) ?_
  refine WL.nil ?_
  refine En.seq ?_
  refine En.seq ?_
  refine En.region ?_
  refine WL.run ht hn 3 ⟨[(0, .sv (.one (LS (lsT intT) l))), (1, .sv (.one (.rd (fvR (fun x => [.sv (.one (LS intT x))]) (fun b => .sv (.one (B b))) dom φ)))), (7, .sv (.one (I (l.length : Int)))), (8, .sv (.one (I 0)))], []⟩ (by kernel_rfl) ?_
  refine WL.nil ?_
  refine En.block ?_
  obtain ⟨Inv, mu, h0, hI⟩ := h
  refine En.loop (σ := Int) (fun zz => Inv zz) (fun zz => mu zz) (fun zz => ⟨[(0, .sv (.one (LS (lsT intT) l))), (1, .sv (.one (.rd (fvR (fun x => [.sv (.one (LS intT x))]) (fun b => .sv (.one (B b))) dom φ)))), (7, .sv (.one (I (l.length : Int)))), (8, .sv (.one (I zz)))], []⟩) 0 h0 (sub_ok (by kernel_rfl)) ?_
  intro x8 h
  replace h := hI _ h
  show En c ⟨[(0, .sv (.one (LS (lsT intT) l))), (1, .sv (.one (.rd (fvR (fun x => [.sv (.one (LS intT x))]) (fun b => .sv (.one (B b))) dom φ)))), (7, .sv (.one (I (l.length : Int)))), (8, .sv (.one (I x8)))], []⟩ _
  refine En.seq ?_
  refine En.region ?_
  refine WL.run ht hn 1 ⟨[(0, .sv (.one (LS (lsT intT) l))), (1, .sv (.one (.rd (fvR (fun x => [.sv (.one (LS intT x))]) (fun b => .sv (.one (B b))) dom φ)))), (7, .sv (.one (I (l.length : Int)))), (8, .sv (.one (I x8))), (9, .sv (.one (B (decide (x8 < (l.length : Int))))))], []⟩ (by kernel_rfl) ?_
  refine WL.nil ?_
  refine En.seq ?_
  refine En.cond (b := (decide (x8 < (l.length : Int)))) (by kernel_rfl) (fun hb => ?_) (fun hb => ?_)
  · replace h := h.1 hb
    refine En.skip ?_
    refine En.seq ?_
    refine En.block ?_
    refine En.seq ?_
    refine En.region ?_
    refine WL.run ht hn 2 ⟨[(0, .sv (.one (LS (lsT intT) l))), (1, .sv (.one (.rd (fvR (fun x => [.sv (.one (LS intT x))]) (fun b => .sv (.one (B b))) dom φ)))), (5, .sv (.one (I x8))), (7, .sv (.one (I (l.length : Int)))), (8, .sv (.one (I x8)))], []⟩ (by kernel_rfl) ?_
    refine WL.nil ?_
    refine En.seq ?_
    refine En.region ?_
    refine WL.run ht hn 3 ⟨[(0, .sv (.one (LS (lsT intT) l))), (1, .sv (.one (.rd (fvR (fun x => [.sv (.one (LS intT x))]) (fun b => .sv (.one (B b))) dom φ)))), (5, .sv (.one (I x8))), (7, .sv (.one (I (l.length : Int)))), (8, .sv (.one (I x8))), (11, .sv (.one (.rd (fvR (fun x => [.sv (.one (LS intT x))]) (fun b => .sv (.one (B b))) dom φ)))), (12, .sv (.one (LS (lsT intT) l))), (13, .sv (.one (I x8)))], []⟩ (by kernel_rfl) ?_
    obtain ⟨e, he, h⟩ := h
    refine WL.val hn (by rfl) (val_index (T := (lsT intT)) (l := l) (i := x8) ht rfl (by rfl) (by rfl) (by rfl) (by rfl) (by rfl) (by rfl) he) (by rfl) ?_
    refine WL.val hn (by rfl) (val_load (s := .one (LS intT e)) ht rfl (by rfl) (by rfl) (by rfl) (by rfl) (by rfl)) (by rfl) ?_
    have hp := h.1
    replace h := h.2
    refine WL.mt0 (K := []) (p := none) hn (by rfl) (mt_callv e hp rfl (by rfl) (by rfl) (by rfl) (by rfl)) (by rfl) (by rfl) (by rfl) ?_
    refine WL.nil ?_
    refine En.cond (b := (φ e)) (by kernel_rfl) (fun hb => ?_) (fun hb => ?_)
    · replace h := h.1 hb
      refine En.seq ?_
      refine En.region ?_
      refine WL.run ht hn 2 ⟨[(4, .sv (.one (I x8)))], []⟩ (by kernel_rfl) ?_
      refine WL.nil ?_
      refine En.ret ?_
      exact En.back ht x8 h (by kernel_rfl) rfl
    · replace h := h.2 hb
      refine En.skip ?_
      refine En.region ?_
      refine WL.run ht hn 2 ⟨[(0, .sv (.one (LS (lsT intT) l))), (1, .sv (.one (.rd (fvR (fun x => [.sv (.one (LS intT x))]) (fun b => .sv (.one (B b))) dom φ)))), (7, .sv (.one (I (l.length : Int)))), (8, .sv (.one (I (wr (x8 + 1)))))], []⟩ (by kernel_rfl) ?_
      refine WL.nil ?_
      exact En.at (I := fun zz => Inv zz ∧ mu zz < mu x8) (T := fun zz => ⟨[(0, .sv (.one (LS (lsT intT) l))), (1, .sv (.one (.rd (fvR (fun x => [.sv (.one (LS intT x))]) (fun b => .sv (.one (B b))) dom φ)))), (7, .sv (.one (I (l.length : Int)))), (8, .sv (.one (I zz)))], []⟩) (wr (x8 + 1)) h (by kernel_rfl)
  · replace h := h.2 hb
    refine En.exit rfl ?_
    refine En.seq ?_
    refine En.region ?_
    refine WL.run ht hn 1 ⟨[(4, .sv (.one (I (-1))))], []⟩ (by kernel_rfl) ?_
    refine WL.nil ?_
    refine En.ret ?_
    exact En.back ht (-1) h (by kernel_rfl) rfl
theorem en134 : ∀ args w, (callFunc 134 args).run Try.prog w = .ok (.enter 134 args) w := enters_of Try.func134 (by kernel_rfl) rfl
theorem indexLInt_ct (l : List (List Int)) (dom : (List Int) → Prop) (φ : (List Int) → Bool) (hd : ∀ x ∈ l, dom x) : Ct 134 [.sv (.one (LS (lsT intT) l)), .sv (.one (.rd (fvR (fun x => [.sv (.one (LS intT x))]) (fun b => .sv (.one (B b))) dom φ)))] [] (fun (_ : Unit) => True) (fun _ => .sv (.one (I (idxTo φ l)))) := by
  refine (indexLInt_walk l dom φ (fun r => r = idxTo φ l) ?_).fun
  unfold indexLInt_vc
  exact index_plain l dom φ hd
def anyLInt_vc (l : (List (List Int))) (dom : ((List Int) → Prop)) (φ : ((List Int) → Bool)) (Q : Bool → Prop) : Prop :=
  l.length ≤ 9223372036854775807 →
  ((∀ x_ ∈ l, dom x_) ∧
  Q (decide ((idxTo φ l) ≥ 0)))
theorem anyLInt_walk (l : (List (List Int))) (dom : ((List Int) → Prop)) (φ : ((List Int) → Bool)) (Q : Bool → Prop) (h : anyLInt_vc l dom φ Q) : Ct 77 [.sv (.one (LS (lsT intT) l)), .sv (.one (.rd (fvR (fun x => [.sv (.one (LS intT x))]) (fun b => .sv (.one (B b))) dom φ)))] [] Q (fun (r : Bool) => .sv (.one (B r))) := by
  have ht := tab_ok
  refine Ct.body Try.func77 rfl rfl rfl rfl (fun c hn => ?_)
  unfold anyLInt_vc at h
  refine En.lenL 0 (by rfl) (fun hl => ?_)
  replace h := h hl
  clear hl
  refine En.seq ?_
  refine En.region ?_
  refine WL.run ht hn 1 ⟨[(0, .sv (.one (LS (lsT intT) l))), (1, .sv (.one (.rd (fvR (fun x => [.sv (.one (LS intT x))]) (fun b => .sv (.one (B b))) dom φ))))], []⟩ (by kernel_rfl) ?_
  refine WL.nil ?_
  refine En.seq ?_
  refine En.region ?_
  refine WL.run ht hn 2 ⟨[(5, .sv (.one (LS (lsT intT) l))), (6, .sv (.one (.rd (fvR (fun x => [.sv (.one (LS intT x))]) (fun b => .sv (.one (B b))) dom φ))))], []⟩ (by kernel_rfl) ?_
  have hp := h.1
  replace h := h.2
  refine WL.mt0 (K := []) (p := none) hn (by rfl) (mt_call (indexLInt_ct l dom φ hp) en134 (caps := []) [] rfl (by rfl) (by kernel_rfl) (by kernel_rfl) (by rfl) (by rfl) (by rfl)) (by rfl) (by rfl) (by rfl) ?_
  refine WL.run ht hn 2 ⟨[(4, .sv (.one (B (decide ((idxTo φ l) ≥ 0)))))], []⟩ (by kernel_rfl) ?_
  refine WL.nil ?_
  refine En.ret ?_
  exact En.back ht (decide ((idxTo φ l) ≥ 0)) h (by kernel_rfl) rfl
theorem en77 : ∀ args w, (callFunc 77 args).run Try.prog w = .ok (.enter 77 args) w := enters_of Try.func77 (by kernel_rfl) rfl
theorem anyLInt_ct (l : List (List Int)) (dom : (List Int) → Prop) (φ : (List Int) → Bool) (hd : ∀ x ∈ l, dom x) : Ct 77 [.sv (.one (LS (lsT intT) l)), .sv (.one (.rd (fvR (fun x => [.sv (.one (LS intT x))]) (fun b => .sv (.one (B b))) dom φ)))] [] (fun (_ : Unit) => True) (fun _ => .sv (.one (B (l.any φ)))) := by
  refine (anyLInt_walk l dom φ (fun r => r = l.any φ) ?_).fun
  unfold anyLInt_vc
  exact fun _ => ⟨hd, by rw [← idxTo_nonneg φ l]⟩
def indexInt_vc (l : (List Int)) (dom : (Int → Prop)) (φ : (Int → Bool)) (Q : Int → Prop) : Prop :=
  l.length ≤ 9223372036854775807 →
  (∃ (Inv : Int → Prop) (mu : Int → Nat), Inv 0 ∧
  ∀ (x8 : Int) , Inv x8 → (IfP (decide (x8 < (l.length : Int))) (∃ e, idx l x8 = some e ∧
  (dom e) ∧
  IfP (φ e) (Q x8) ((Inv (wr (x8 + 1)) ∧ mu (wr (x8 + 1)) < mu x8))) (Q (-1))))
theorem indexInt_walk (l : (List Int)) (dom : (Int → Prop)) (φ : (Int → Bool)) (Q : Int → Prop) (h : indexInt_vc l dom φ Q) : Ct 135 [.sv (.one (LS intT l)), .sv (.one (.rd (fvR (fun x => [.sv (.one (I x))]) (fun b => .sv (.one (B b))) dom φ)))] [] Q (fun (r : Int) => .sv (.one (I r))) := by
  have ht := tab_ok
  refine Ct.body Try.func135 rfl rfl rfl rfl (fun c hn => ?_)
  unfold indexInt_vc at h
  refine En.lenL 0 (by rfl) (fun hl => ?_)
  replace h := h hl
  clear hl
  refine En.seq ?_
  refine En.region ?_
  refine WL.run ht hn 1 ⟨[(0, .sv (.one (LS intT l))), (1, .sv (.one (.rd (fvR (fun x => [.sv (.one (I x))]) (fun b => .sv (.one (B b))) dom φ))))], []⟩ (by kernel_rfl) ?_
  refine WL.nil ?_
  refine En.seq ?_
  refine En.seq ?_
  refine En.region ?_
  refine WL.run ht hn 3 ⟨[(0, .sv (.one (LS intT l))), (1, .sv (.one (.rd (fvR (fun x => [.sv (.one (I x))]) (fun b => .sv (.one (B b))) dom φ)))), (7, .sv (.one (I (l.length : Int)))), (8, .sv (.one (I 0)))], []⟩ (by kernel_rfl) ?_
  refine WL.nil ?_
  refine En.block ?_
  obtain ⟨Inv, mu, h0, hI⟩ := h
  refine En.loop (σ := Int) (fun zz => Inv zz) (fun zz => mu zz) (fun zz => ⟨[(0, .sv (.one (LS intT l))), (1, .sv (.one (.rd (fvR (fun x => [.sv (.one (I x))]) (fun b => .sv (.one (B b))) dom φ)))), (7, .sv (.one (I (l.length : Int)))), (8, .sv (.one (I zz)))], []⟩) 0 h0 (sub_ok (by kernel_rfl)) ?_
  intro x8 h
  replace h := hI _ h
  show En c ⟨[(0, .sv (.one (LS intT l))), (1, .sv (.one (.rd (fvR (fun x => [.sv (.one (I x))]) (fun b => .sv (.one (B b))) dom φ)))), (7, .sv (.one (I (l.length : Int)))), (8, .sv (.one (I x8)))], []⟩ _
  refine En.seq ?_
  refine En.region ?_
  refine WL.run ht hn 1 ⟨[(0, .sv (.one (LS intT l))), (1, .sv (.one (.rd (fvR (fun x => [.sv (.one (I x))]) (fun b => .sv (.one (B b))) dom φ)))), (7, .sv (.one (I (l.length : Int)))), (8, .sv (.one (I x8))), (9, .sv (.one (B (decide (x8 < (l.length : Int))))))], []⟩ (by kernel_rfl) ?_
  refine WL.nil ?_
  refine En.seq ?_
  refine En.cond (b := (decide (x8 < (l.length : Int)))) (by kernel_rfl) (fun hb => ?_) (fun hb => ?_)
  · replace h := h.1 hb
    refine En.skip ?_
    refine En.seq ?_
    refine En.block ?_
    refine En.seq ?_
    refine En.region ?_
    refine WL.run ht hn 2 ⟨[(0, .sv (.one (LS intT l))), (1, .sv (.one (.rd (fvR (fun x => [.sv (.one (I x))]) (fun b => .sv (.one (B b))) dom φ)))), (5, .sv (.one (I x8))), (7, .sv (.one (I (l.length : Int)))), (8, .sv (.one (I x8)))], []⟩ (by kernel_rfl) ?_
    refine WL.nil ?_
    refine En.seq ?_
    refine En.region ?_
    refine WL.run ht hn 3 ⟨[(0, .sv (.one (LS intT l))), (1, .sv (.one (.rd (fvR (fun x => [.sv (.one (I x))]) (fun b => .sv (.one (B b))) dom φ)))), (5, .sv (.one (I x8))), (7, .sv (.one (I (l.length : Int)))), (8, .sv (.one (I x8))), (11, .sv (.one (.rd (fvR (fun x => [.sv (.one (I x))]) (fun b => .sv (.one (B b))) dom φ)))), (12, .sv (.one (LS intT l))), (13, .sv (.one (I x8)))], []⟩ (by kernel_rfl) ?_
    obtain ⟨e, he, h⟩ := h
    refine WL.val hn (by rfl) (val_index (T := intT) (l := l) (i := x8) ht rfl (by rfl) (by rfl) (by rfl) (by rfl) (by rfl) (by rfl) he) (by rfl) ?_
    refine WL.val hn (by rfl) (val_load (s := .one (I e)) ht rfl (by rfl) (by rfl) (by rfl) (by rfl) (by rfl)) (by rfl) ?_
    have hp := h.1
    replace h := h.2
    refine WL.mt0 (K := []) (p := none) hn (by rfl) (mt_callv e hp rfl (by rfl) (by rfl) (by rfl) (by rfl)) (by rfl) (by rfl) (by rfl) ?_
    refine WL.nil ?_
    refine En.cond (b := (φ e)) (by kernel_rfl) (fun hb => ?_) (fun hb => ?_)
    · replace h := h.1 hb
      refine En.seq ?_
      refine En.region ?_
      refine WL.run ht hn 2 ⟨[(4, .sv (.one (I x8)))], []⟩ (by kernel_rfl) ?_
      refine WL.nil ?_
      refine En.ret ?_
      exact En.back ht x8 h (by kernel_rfl) rfl
    · replace h := h.2 hb
      refine En.skip ?_
      refine En.region ?_
      refine WL.run ht hn 2 ⟨[(0, .sv (.one (LS intT l))), (1, .sv (.one (.rd (fvR (fun x => [.sv (.one (I x))]) (fun b => .sv (.one (B b))) dom φ)))), (7, .sv (.one (I (l.length : Int)))), (8, .sv (.one (I (wr (x8 + 1)))))], []⟩ (by kernel_rfl) ?_
      refine WL.nil ?_
      exact En.at (I := fun zz => Inv zz ∧ mu zz < mu x8) (T := fun zz => ⟨[(0, .sv (.one (LS intT l))), (1, .sv (.one (.rd (fvR (fun x => [.sv (.one (I x))]) (fun b => .sv (.one (B b))) dom φ)))), (7, .sv (.one (I (l.length : Int)))), (8, .sv (.one (I zz)))], []⟩) (wr (x8 + 1)) h (by kernel_rfl)
  · replace h := h.2 hb
    refine En.exit rfl ?_
    refine En.seq ?_
    refine En.region ?_
    refine WL.run ht hn 1 ⟨[(4, .sv (.one (I (-1))))], []⟩ (by kernel_rfl) ?_
    refine WL.nil ?_
    refine En.ret ?_
    exact En.back ht (-1) h (by kernel_rfl) rfl
theorem en135 : ∀ args w, (callFunc 135 args).run Try.prog w = .ok (.enter 135 args) w := enters_of Try.func135 (by kernel_rfl) rfl
theorem indexInt_ct (l : List Int) (dom : Int → Prop) (φ : Int → Bool) (hd : ∀ x ∈ l, dom x) : Ct 135 [.sv (.one (LS intT l)), .sv (.one (.rd (fvR (fun x => [.sv (.one (I x))]) (fun b => .sv (.one (B b))) dom φ)))] [] (fun (_ : Unit) => True) (fun _ => .sv (.one (I (idxTo φ l)))) := by
  refine (indexInt_walk l dom φ (fun r => r = idxTo φ l) ?_).fun
  unfold indexInt_vc
  exact index_plain l dom φ hd
def anyInt_vc (l : (List Int)) (dom : (Int → Prop)) (φ : (Int → Bool)) (Q : Bool → Prop) : Prop :=
  l.length ≤ 9223372036854775807 →
  ((∀ x_ ∈ l, dom x_) ∧
  Q (decide ((idxTo φ l) ≥ 0)))
theorem anyInt_walk (l : (List Int)) (dom : (Int → Prop)) (φ : (Int → Bool)) (Q : Bool → Prop) (h : anyInt_vc l dom φ Q) : Ct 79 [.sv (.one (LS intT l)), .sv (.one (.rd (fvR (fun x => [.sv (.one (I x))]) (fun b => .sv (.one (B b))) dom φ)))] [] Q (fun (r : Bool) => .sv (.one (B r))) := by
  have ht := tab_ok
  refine Ct.body Try.func79 rfl rfl rfl rfl (fun c hn => ?_)
  unfold anyInt_vc at h
  refine En.lenL 0 (by rfl) (fun hl => ?_)
  replace h := h hl
  clear hl
  refine En.seq ?_
  refine En.region ?_
  refine WL.run ht hn 1 ⟨[(0, .sv (.one (LS intT l))), (1, .sv (.one (.rd (fvR (fun x => [.sv (.one (I x))]) (fun b => .sv (.one (B b))) dom φ))))], []⟩ (by kernel_rfl) ?_
  refine WL.nil ?_
  refine En.seq ?_
  refine En.region ?_
  refine WL.run ht hn 2 ⟨[(5, .sv (.one (LS intT l))), (6, .sv (.one (.rd (fvR (fun x => [.sv (.one (I x))]) (fun b => .sv (.one (B b))) dom φ))))], []⟩ (by kernel_rfl) ?_
  have hp := h.1
  replace h := h.2
  refine WL.mt0 (K := []) (p := none) hn (by rfl) (mt_call (indexInt_ct l dom φ hp) en135 (caps := []) [] rfl (by rfl) (by kernel_rfl) (by kernel_rfl) (by rfl) (by rfl) (by rfl)) (by rfl) (by rfl) (by rfl) ?_
  refine WL.run ht hn 2 ⟨[(4, .sv (.one (B (decide ((idxTo φ l) ≥ 0)))))], []⟩ (by kernel_rfl) ?_
  refine WL.nil ?_
  refine En.ret ?_
  exact En.back ht (decide ((idxTo φ l) ≥ 0)) h (by kernel_rfl) rfl
theorem en79 : ∀ args w, (callFunc 79 args).run Try.prog w = .ok (.enter 79 args) w := enters_of Try.func79 (by kernel_rfl) rfl
theorem anyInt_ct (l : List Int) (dom : Int → Prop) (φ : Int → Bool) (hd : ∀ x ∈ l, dom x) : Ct 79 [.sv (.one (LS intT l)), .sv (.one (.rd (fvR (fun x => [.sv (.one (I x))]) (fun b => .sv (.one (B b))) dom φ)))] [] (fun (_ : Unit) => True) (fun _ => .sv (.one (B (l.any φ)))) := by
  refine (anyInt_walk l dom φ (fun r => r = l.any φ) ?_).fun
  unfold anyInt_vc
  exact fun _ => ⟨hd, by rw [← idxTo_nonneg φ l]⟩
def altNo (n q : Int) : Bool := (decide (q < 0)) || (decide (q ≥ n))
theorem altNo_iff {n q : Int} : altNo n q = false ↔ 0 ≤ q ∧ q < n := by
  unfold altNo
  simp only [Bool.or_eq_false_iff, decide_eq_false_iff_not]
  omega
/-- a set of states -/
def setDom (s : Int) : Prop := 0 ≤ s ∧ s < 16
def bitDom (s p : Int) : Prop := setDom s ∧ 0 ≤ p ∧ p < 4
def bigL (l : List (List Int)) : Bool := decide ((l.length : Int) > 16) || l.any fun l => decide ((l.length : Int) > 4)
def badL (n : Int) (l : List (List Int)) : Bool := l.any fun l => l.any (altNo n)
def altErr (x : ApiAlter) : Int :=
  if (decide (x.fLetters < 1)) || (decide (x.fLetters > 4)) then 2 else
  if (decide ((x.fNext.length : Int) < 1)) || (decide ((x.fNext.length : Int) > 4)) then 1 else
  if ((x.fMark.length : Int) != (x.fNext.length : Int)) || x.fNext.any (fun r => (r.length : Int) != (x).fLetters) then 3 else
  if x.fNext.any (fun r => r.any bigL) then 1 else
  if x.fNext.any (fun r => r.any (badL (x.fNext.length : Int))) || (altNo (x.fNext.length : Int) x.fStart || x.fMark.any (fun m => (m != 0) && (m != 1))) then 2 else 0
structure AltOk (x : ApiAlter) : Prop where
  letters : 1 ≤ x.fLetters ∧ x.fLetters ≤ 4
  size : 1 ≤ x.fNext.length ∧ x.fNext.length ≤ 4
  marks : x.fMark.length = x.fNext.length
  rows : ∀ r ∈ x.fNext, (r.length : Int) = x.fLetters
  wide : ∀ r ∈ x.fNext, ∀ l ∈ r, l.length ≤ 16
  few : ∀ r ∈ x.fNext, ∀ l ∈ r, ∀ c ∈ l, c.length ≤ 4
  in_ : ∀ r ∈ x.fNext, ∀ l ∈ r, ∀ c ∈ l, ∀ p ∈ c, 0 ≤ p ∧ p < (x.fNext.length : Int)
  start : 0 ≤ x.fStart ∧ x.fStart < (x.fNext.length : Int)
  mark : ∀ m ∈ x.fMark, m = 0 ∨ m = 1
theorem altErr_iff (x : ApiAlter) : altErr x = 0 ↔ AltOk x := by
  unfold altErr
  constructor
  · intro h
    by_cases h1 : ((decide (x.fLetters < 1)) || (decide (x.fLetters > 4))) = true
    · rw [if_pos h1] at h; cases h
    rw [if_neg h1] at h
    by_cases h2 : ((decide ((x.fNext.length : Int) < 1)) || (decide ((x.fNext.length : Int) > 4))) = true
    · rw [if_pos h2] at h; cases h
    rw [if_neg h2] at h
    by_cases h3 : (((x.fMark.length : Int) != (x.fNext.length : Int)) || x.fNext.any (fun r => (r.length : Int) != (x).fLetters)) = true
    · rw [if_pos h3] at h; cases h
    rw [if_neg h3] at h
    by_cases h4 : x.fNext.any (fun r => r.any bigL) = true
    · rw [if_pos h4] at h; cases h
    rw [if_neg h4] at h
    by_cases h5 : (x.fNext.any (fun r => r.any (badL (x.fNext.length : Int))) || (altNo (x.fNext.length : Int) x.fStart || x.fMark.any (fun m => (m != 0) && (m != 1)))) = true
    · rw [if_pos h5] at h; cases h
    simp only [Bool.not_eq_true, Bool.or_eq_false_iff, decide_eq_false_iff_not, List.any_eq_false, altNo_iff, bne_eq_false_iff_eq, Bool.and_eq_false_iff, bigL, badL, Bool.not_eq_false, bne_iff_ne, ne_eq, Decidable.not_not] at h1 h2 h3 h4 h5
    refine ⟨by omega, by omega, by omega, fun r hr => h3.2 r hr, fun r hr l hl => ?_, fun r hr l hl c hc => ?_, fun r hr l hl c hc p hp => (h5.1 r hr l hl c hc p hp), h5.2.1, fun m hm => h5.2.2 m hm⟩
    · have := (h4 r hr l hl).1; omega
    · have := (h4 r hr l hl).2 c hc; omega
  · intro h
    have h1 : ((decide (x.fLetters < 1)) || (decide (x.fLetters > 4))) = false := by
      have := h.letters
      simp only [Bool.or_eq_false_iff, decide_eq_false_iff_not]; omega
    have h2 : ((decide ((x.fNext.length : Int) < 1)) || (decide ((x.fNext.length : Int) > 4))) = false := by
      have := h.size
      simp only [Bool.or_eq_false_iff, decide_eq_false_iff_not]; omega
    have h3 : (((x.fMark.length : Int) != (x.fNext.length : Int)) || x.fNext.any (fun r => (r.length : Int) != (x).fLetters)) = false := by
      simp only [Bool.or_eq_false_iff, bne_eq_false_iff_eq, List.any_eq_false, bne_iff_ne, ne_eq, Decidable.not_not]
      exact ⟨by have := h.marks; omega, h.rows⟩
    have h4 : x.fNext.any (fun r => r.any bigL) = false := by
      simp only [List.any_eq_false, bigL, Bool.or_eq_true, not_or, decide_eq_true_eq, List.any_eq_true, not_exists, not_and]
      exact fun r hr l hl => ⟨by have := h.wide r hr l hl; omega, fun c hc => by have := h.few r hr l hl c hc; omega⟩
    have h5 : (x.fNext.any (fun r => r.any (badL (x.fNext.length : Int))) || (altNo (x.fNext.length : Int) x.fStart || x.fMark.any (fun m => (m != 0) && (m != 1)))) = false := by
      simp only [Bool.or_eq_false_iff, altNo_iff]
      refine ⟨?_, h.start, ?_⟩
      · rw [List.any_eq_false]
        intro r hr
        rw [Bool.not_eq_true, List.any_eq_false]
        intro l hl
        rw [Bool.not_eq_true]
        unfold badL
        rw [List.any_eq_false]
        intro c hc
        rw [Bool.not_eq_true, List.any_eq_false]
        intro p hp
        rw [Bool.not_eq_true, altNo_iff]
        exact h.in_ r hr l hl c hc p hp
      · rw [List.any_eq_false]
        intro m hm
        rcases h.mark m hm with rfl | rfl <;> decide
    rw [h1, h2, h3, h4, h5]
    rfl
def altC1_vc (r : (List (List (List Int)))) (x : ApiAlter) (Q : Bool → Prop) : Prop :=
  r.length ≤ 9223372036854775807 →
  (Q ((r.length : Int) != x.fLetters))
theorem altC1_walk (r : (List (List (List Int)))) (x : ApiAlter) (Q : Bool → Prop) (h : altC1_vc r x Q) : Ct 124 [.sv (.one (LS (lsT (lsT intT)) r)), .sv (.one (.ptr 0 0))] [.box [I x.fLetters, I x.fStart, LS (lsT (lsT (lsT intT))) x.fNext, LS intT x.fMark] 77 true] Q (fun (r : Bool) => .sv (.one (B r))) := by
  have ht := tab_ok
  refine Ct.body Try.func124 rfl rfl rfl rfl (fun c hn => ?_)
  unfold altC1_vc at h
  refine En.lenL 0 (by rfl) (fun hl => ?_)
  replace h := h hl
  clear hl
  refine En.seq ?_
  refine En.region ?_
  refine WL.run ht hn 1 ⟨[(0, .sv (.one (LS (lsT (lsT intT)) r))), (1, .sv (.one (.ptr 0 0)))], [.box [I x.fLetters, I x.fStart, LS (lsT (lsT (lsT intT))) x.fNext, LS intT x.fMark] 77 true]⟩ (by kernel_rfl) ?_
  refine WL.nil ?_
  refine En.seq ?_
  refine En.region ?_
  refine WL.run ht hn 6 ⟨[(3, .sv (.one (B ((r.length : Int) != x.fLetters))))], [.gone]⟩ (by kernel_rfl) ?_
  refine WL.nil ?_
  refine En.ret ?_
  exact En.back ht ((r.length : Int) != x.fLetters) h (by kernel_rfl) rfl
theorem en124 : ∀ args w, (callFunc 124 args).run Try.prog w = .ok (.enter 124 args) w := enters_of Try.func124 (by kernel_rfl) rfl
def altC2_vc (q : Int) (n : Int) (Q : Bool → Prop) : Prop :=
  Q ((decide (q < 0)) || (decide (q ≥ n)))
theorem altC2_walk (q : Int) (n : Int) (Q : Bool → Prop) (h : altC2_vc q n Q) : Ct 125 [.sv (.one (I q)), .sv (.one (.ptr 0 0))] [.box [I n] 3 true] Q (fun (r : Bool) => .sv (.one (B r))) := by
  have ht := tab_ok
  refine Ct.body Try.func125 rfl rfl rfl rfl (fun c hn => ?_)
  unfold altC2_vc at h
  refine En.seq ?_
  refine En.region ?_
  refine WL.run ht hn 1 ⟨[(0, .sv (.one (I q))), (1, .sv (.one (.ptr 0 0)))], [.box [I n] 3 true]⟩ (by kernel_rfl) ?_
  refine WL.nil ?_
  refine En.seq ?_
  refine En.region ?_
  refine WL.run ht hn 3 ⟨[(0, .sv (.one (I q))), (1, .sv (.one (.ptr 0 0))), (6, .sv (.one (B (decide (q < 0)))))], [.box [I n] 3 true]⟩ (by kernel_rfl) ?_
  refine WL.thru ⟨[(3, .sv (.one (B ((decide (q < 0)) || (decide (q ≥ n))))))], [.gone]⟩ ?_ ?_
  · refine splitB (decide (q < 0)) (fun hb0 => ?_) (fun hb0 => ?_)
    · refine WL.setB 6 hb0 (by kernel_rfl) ?_
      refine WL.run ht hn 5 ⟨[(3, .sv (.one (B true)))], [.gone]⟩ (by kernel_rfl) ?_
      exact WL.nil (sub_ok (by simp only [hb0]; kernel_rfl))
    · refine WL.setB 6 hb0 (by kernel_rfl) ?_
      refine WL.run ht hn 5 ⟨[(3, .sv (.one (B (decide (q ≥ n)))))], [.gone]⟩ (by kernel_rfl) ?_
      exact WL.nil (sub_ok (by simp only [hb0]; kernel_rfl))
  · refine En.ret ?_
    exact En.back ht ((decide (q < 0)) || (decide (q ≥ n))) h (by kernel_rfl) rfl
theorem en125 : ∀ args w, (callFunc 125 args).run Try.prog w = .ok (.enter 125 args) w := enters_of Try.func125 (by kernel_rfl) rfl
def altC3_vc (l : (List Int)) (Q : Bool → Prop) : Prop :=
  l.length ≤ 9223372036854775807 →
  (Q (decide ((l.length : Int) > 4)))
theorem altC3_walk (l : (List Int)) (Q : Bool → Prop) (h : altC3_vc l Q) : Ct 126 [.sv (.one (LS intT l))] [] Q (fun (r : Bool) => .sv (.one (B r))) := by
  have ht := tab_ok
  refine Ct.body Try.func126 rfl rfl rfl rfl (fun c hn => ?_)
  unfold altC3_vc at h
  refine En.lenL 0 (by rfl) (fun hl => ?_)
  replace h := h hl
  clear hl
  refine En.seq ?_
  refine En.region ?_
  refine WL.run ht hn 1 ⟨[(0, .sv (.one (LS intT l)))], []⟩ (by kernel_rfl) ?_
  refine WL.nil ?_
  refine En.seq ?_
  refine En.region ?_
  refine WL.run ht hn 4 ⟨[(2, .sv (.one (B (decide ((l.length : Int) > 4)))))], []⟩ (by kernel_rfl) ?_
  refine WL.nil ?_
  refine En.ret ?_
  exact En.back ht (decide ((l.length : Int) > 4)) h (by kernel_rfl) rfl
theorem en126 : ∀ args w, (callFunc 126 args).run Try.prog w = .ok (.enter 126 args) w := enters_of Try.func126 (by kernel_rfl) rfl
def altC5_vc (m : Int) (Q : Bool → Prop) : Prop :=
  Q ((m != 0) && (m != 1))
theorem altC5_walk (m : Int) (Q : Bool → Prop) (h : altC5_vc m Q) : Ct 128 [.sv (.one (I m))] [] Q (fun (r : Bool) => .sv (.one (B r))) := by
  have ht := tab_ok
  refine Ct.body Try.func128 rfl rfl rfl rfl (fun c hn => ?_)
  unfold altC5_vc at h
  refine En.seq ?_
  refine En.region ?_
  refine WL.run ht hn 1 ⟨[(0, .sv (.one (I m)))], []⟩ (by kernel_rfl) ?_
  refine WL.nil ?_
  refine En.seq ?_
  refine En.region ?_
  refine WL.run ht hn 3 ⟨[(0, .sv (.one (I m))), (5, .sv (.one (B (m != 0))))], []⟩ (by kernel_rfl) ?_
  refine WL.thru ⟨[(2, .sv (.one (B ((m != 0) && (m != 1)))))], []⟩ ?_ ?_
  · refine splitB (m != 0) (fun hb0 => ?_) (fun hb0 => ?_)
    · refine WL.setB 5 hb0 (by kernel_rfl) ?_
      refine WL.run ht hn 4 ⟨[(2, .sv (.one (B (m != 1))))], []⟩ (by kernel_rfl) ?_
      exact WL.nil (sub_ok (by simp only [hb0]; kernel_rfl))
    · refine WL.setB 5 hb0 (by kernel_rfl) ?_
      refine WL.run ht hn 4 ⟨[(2, .sv (.one (B false)))], []⟩ (by kernel_rfl) ?_
      exact WL.nil (sub_ok (by simp only [hb0]; kernel_rfl))
  · refine En.ret ?_
    exact En.back ht ((m != 0) && (m != 1)) h (by kernel_rfl) rfl
theorem en128 : ∀ args w, (callFunc 128 args).run Try.prog w = .ok (.enter 128 args) w := enters_of Try.func128 (by kernel_rfl) rfl
def altC4_vc (l : (List Int)) (domno : (Int → Prop)) (no : (Int → Bool)) (Q : Bool → Prop) : Prop :=
  l.length ≤ 9223372036854775807 →
  ((∀ x_ ∈ l, domno x_) ∧
  Q (l.any no))
theorem altC4_walk (l : (List Int)) (domno : (Int → Prop)) (no : (Int → Bool)) (Q : Bool → Prop) (h : altC4_vc l domno no Q) : Ct 127 [.sv (.one (LS intT l)), .sv (.one (.ptr 0 0))] [.box [.rd (fvR (fun (x : Int) => [.sv (.one (I x))]) (fun (r : Bool) => .sv (.one (B r))) domno no)] 135 true] Q (fun (r : Bool) => .sv (.one (B r))) := by
  have ht := tab_ok
  refine Ct.body Try.func127 rfl rfl rfl rfl (fun c hn => ?_)
  unfold altC4_vc at h
  refine En.lenL 0 (by rfl) (fun hl => ?_)
  replace h := h hl
  clear hl
  refine En.seq ?_
  refine En.region ?_
  refine WL.run ht hn 1 ⟨[(0, .sv (.one (LS intT l))), (1, .sv (.one (.ptr 0 0)))], [.box [.rd (fvR (fun (x : Int) => [.sv (.one (I x))]) (fun (r : Bool) => .sv (.one (B r))) domno no)] 135 true]⟩ (by kernel_rfl) ?_
  refine WL.nil ?_
  refine En.seq ?_
  refine En.region ?_
  refine WL.run ht hn 2 ⟨[(4, .sv (.one (LS intT l))), (5, .sv (.one (.rd (fvR (fun (x : Int) => [.sv (.one (I x))]) (fun (r : Bool) => .sv (.one (B r))) domno no))))], [.gone]⟩ (by kernel_rfl) ?_
  have hp := h.1
  replace h := h.2
  refine WL.mt0 (K := []) (p := none) hn (by rfl) (mt_call (anyInt_ct l domno no hp) en79 (caps := []) [] rfl (by rfl) (by kernel_rfl) (by kernel_rfl) (by rfl) (by rfl) (by rfl)) (by rfl) (by rfl) (by rfl) ?_
  refine WL.run ht hn 1 ⟨[(3, .sv (.one (B (l.any no))))], [.gone]⟩ (by kernel_rfl) ?_
  refine WL.nil ?_
  refine En.ret ?_
  exact En.back ht (l.any no) h (by kernel_rfl) rfl
theorem en127 : ∀ args w, (callFunc 127 args).run Try.prog w = .ok (.enter 127 args) w := enters_of Try.func127 (by kernel_rfl) rfl
theorem altC1_ct (r : (List (List (List Int)))) (x : ApiAlter)  : Ct 124 [.sv (.one (LS (lsT (lsT intT)) r)), .sv (.one (.ptr 0 0))] [.box [I x.fLetters, I x.fStart, LS (lsT (lsT (lsT intT))) x.fNext, LS intT x.fMark] 77 true] (fun (_ : Unit) => True) (fun _ => .sv (.one (B ((r.length : Int) != x.fLetters)))) := by
  refine (altC1_walk r x (fun res_ => res_ = ((r.length : Int) != x.fLetters)) ?_).fun
  exact fun _ => rfl
theorem altC2_ct (q : Int) (n : Int)  : Ct 125 [.sv (.one (I q)), .sv (.one (.ptr 0 0))] [.box [I n] 3 true] (fun (_ : Unit) => True) (fun _ => .sv (.one (B (altNo n q)))) := by
  refine (altC2_walk q n (fun res_ => res_ = (altNo n q)) ?_).fun
  rfl
theorem altC3_ct (l : (List Int))  : Ct 126 [.sv (.one (LS intT l))] [] (fun (_ : Unit) => True) (fun _ => .sv (.one (B (decide ((l.length : Int) > 4))))) := by
  refine (altC3_walk l (fun res_ => res_ = (decide ((l.length : Int) > 4))) ?_).fun
  exact fun _ => rfl
theorem altC5_ct (m : Int)  : Ct 128 [.sv (.one (I m))] [] (fun (_ : Unit) => True) (fun _ => .sv (.one (B ((m != 0) && (m != 1))))) := by
  refine (altC5_walk m (fun res_ => res_ = ((m != 0) && (m != 1))) ?_).fun
  rfl
theorem altC4_ct (l : (List Int)) (domno : (Int → Prop)) (no : (Int → Bool)) (hd : ∀ x ∈ l, domno x) : Ct 127 [.sv (.one (LS intT l)), .sv (.one (.ptr 0 0))] [.box [.rd (fvR (fun (x : Int) => [.sv (.one (I x))]) (fun (r : Bool) => .sv (.one (B r))) domno no)] 135 true] (fun (_ : Unit) => True) (fun _ => .sv (.one (B (l.any no)))) := by
  refine (altC4_walk l domno no (fun res_ => res_ = (l.any no)) ?_).fun
  exact fun _ => ⟨hd, rfl⟩
def altCheck_vc (x : ApiAlter) (Q : Int → Prop) : Prop :=
  x.fNext.length ≤ 9223372036854775807 →
  x.fMark.length ≤ 9223372036854775807 →
  (IfP ((decide (x.fLetters < 1)) || (decide (x.fLetters > 4))) (Q 2) (IfP ((decide ((x.fNext.length : Int) < 1)) || (decide ((x.fNext.length : Int) > 4))) (Q 1) (∃ J : Bool → Prop, (IfP ((x.fMark.length : Int) != (x.fNext.length : Int)) (J true) ((∀ x_ ∈ x.fNext, (fun _ => True) x_) ∧
  J (x.fNext.any (fun r => (r.length : Int) != (x).fLetters)))) ∧
  (∀ (x37 : Bool), J x37 → IfP x37 (Q 3) (∃ (Inv : Bool → Int → Prop) (mu : Bool → Int → Nat), Inv false 0 ∧
  ∀ (x4 : Bool) (x42 : Int) , Inv x4 x42 → (IfP (decide (x42 < (x.fNext.length : Int))) (∃ e, idx x.fNext x42 = some e ∧
  ∃ (Inv_2 : Bool → Int → Prop) (mu_2 : Bool → Int → Nat), Inv_2 x4 0 ∧
  ∀ (x4_2 : Bool) (x48 : Int) , Inv_2 x4_2 x48 → (IfP (decide (x48 < (e.length : Int))) (∃ J_2 : Bool → Prop, (∃ e_2, idx e x48 = some e_2 ∧
  ∃ J_3 : Bool → Prop, (IfP (decide ((e_2.length : Int) > 16)) (J_3 true) ((∀ x_ ∈ e_2, (fun _ => True) x_) ∧
  J_3 (e_2.any (fun l => decide ((l.length : Int) > 4))))) ∧
  (∀ (x58 : Bool), J_3 x58 → IfP x58 (Q 1) (IfP x4_2 (J_2 true) ((∀ x_ ∈ e_2, (fun l => ∀ x ∈ l, (fun _ => True) x) x_) ∧
  J_2 (e_2.any (fun l => l.any (altNo (x.fNext.length : Int)))))))) ∧
  (∀ (x4_3 : Bool), J_2 x4_3 → (Inv_2 x4_3 (wr (x48 + 1)) ∧ mu_2 x4_3 (wr (x48 + 1)) < mu_2 x4_2 x48))) ((Inv x4_2 (wr (x42 + 1)) ∧ mu x4_2 (wr (x42 + 1)) < mu x4 x42)))) (∃ J_4 : Bool → Prop, (IfP x4 (J_4 true) (((fun _ => True) x.fStart) ∧
  IfP ((altNo (x.fNext.length : Int)) x.fStart) (J_4 true) ((∀ x_ ∈ x.fMark, (fun _ => True) x_) ∧
  J_4 (x.fMark.any (fun m => (m != 0) && (m != 1)))))) ∧
  (∀ (x78 : Bool), J_4 x78 → IfP x78 (Q 2) (Q 0)))))))))
theorem altCheck_walk (x : ApiAlter) (Q : Int → Prop) (h : altCheck_vc x Q) : Ct 70 [.sv (.agg [I x.fLetters, I x.fStart, LS (lsT (lsT (lsT intT))) x.fNext, LS intT x.fMark])] [] Q (fun (r : Int) => .sv (.one (I r))) := by
  have ht := tab_ok
  refine Ct.body Try.func70 rfl rfl rfl rfl (fun c hn => ?_)
  unfold altCheck_vc at h
  refine En.lenA 0 2 (by rfl) (by rfl) (fun hl => ?_)
  replace h := h hl
  clear hl
  refine En.lenA 0 3 (by rfl) (by rfl) (fun hl => ?_)
  replace h := h hl
  clear hl
  refine En.seq ?_
  refine En.region ?_
  refine WL.run ht hn 2 ⟨[(1, .sv (.one (.ptr 0 0)))], [.box [I x.fLetters, I x.fStart, LS (lsT (lsT (lsT intT))) x.fNext, LS intT x.fMark] 77 false]⟩ (by kernel_rfl) ?_
  refine WL.nil ?_
  refine En.seq ?_
  refine En.seq ?_
  refine En.region ?_
  refine WL.run ht hn 4 ⟨[(1, .sv (.one (.ptr 0 0))), (13, .sv (.one (B (decide (x.fLetters < 1)))))], [.box [I x.fLetters, I x.fStart, LS (lsT (lsT (lsT intT))) x.fNext, LS intT x.fMark] 77 false]⟩ (by kernel_rfl) ?_
  refine WL.thru ⟨[(1, .sv (.one (.ptr 0 0))), (17, .sv (.one (B ((decide (x.fLetters < 1)) || (decide (x.fLetters > 4))))))], [.box [I x.fLetters, I x.fStart, LS (lsT (lsT (lsT intT))) x.fNext, LS intT x.fMark] 77 false]⟩ ?_ ?_
  · refine splitB (decide (x.fLetters < 1)) (fun hb0 => ?_) (fun hb0 => ?_)
    · refine WL.setB 13 hb0 (by kernel_rfl) ?_
      refine WL.run ht hn 4 ⟨[(1, .sv (.one (.ptr 0 0))), (17, .sv (.one (B true)))], [.box [I x.fLetters, I x.fStart, LS (lsT (lsT (lsT intT))) x.fNext, LS intT x.fMark] 77 false]⟩ (by kernel_rfl) ?_
      exact WL.nil (sub_ok (by simp only [hb0]; kernel_rfl))
    · refine WL.setB 13 hb0 (by kernel_rfl) ?_
      refine WL.run ht hn 4 ⟨[(1, .sv (.one (.ptr 0 0))), (17, .sv (.one (B (decide (x.fLetters > 4)))))], [.box [I x.fLetters, I x.fStart, LS (lsT (lsT (lsT intT))) x.fNext, LS intT x.fMark] 77 false]⟩ (by kernel_rfl) ?_
      exact WL.nil (sub_ok (by simp only [hb0]; kernel_rfl))
  · refine En.cond (b := ((decide (x.fLetters < 1)) || (decide (x.fLetters > 4)))) (by kernel_rfl) (fun hb => ?_) (fun hb => ?_)
    · replace h := h.1 hb
      refine En.seq ?_
      refine En.region ?_
      refine WL.run ht hn 1 ⟨[(2, .sv (.one (I 2)))], [.gone]⟩ (by kernel_rfl) ?_
      refine WL.nil ?_
      refine En.ret ?_
      exact En.back ht 2 h (by kernel_rfl) rfl
    · replace h := h.2 hb
      refine En.skip ?_
      refine En.seq ?_
      refine En.region ?_
      refine WL.run ht hn 5 ⟨[(1, .sv (.one (.ptr 0 0))), (3, .sv (.one (.ptr 1 0)))], [.box [I x.fLetters, I x.fStart, LS (lsT (lsT (lsT intT))) x.fNext, LS intT x.fMark] 77 false, .box [I (x.fNext.length : Int)] 3 false]⟩ (by kernel_rfl) ?_
      refine WL.nil ?_
      refine En.seq ?_
      refine En.seq ?_
      refine En.region ?_
      refine WL.run ht hn 3 ⟨[(1, .sv (.one (.ptr 0 0))), (3, .sv (.one (.ptr 1 0))), (23, .sv (.one (B (decide ((x.fNext.length : Int) < 1)))))], [.box [I x.fLetters, I x.fStart, LS (lsT (lsT (lsT intT))) x.fNext, LS intT x.fMark] 77 false, .box [I (x.fNext.length : Int)] 3 false]⟩ (by kernel_rfl) ?_
      refine WL.thru ⟨[(1, .sv (.one (.ptr 0 0))), (3, .sv (.one (.ptr 1 0))), (26, .sv (.one (B ((decide ((x.fNext.length : Int) < 1)) || (decide ((x.fNext.length : Int) > 4))))))], [.box [I x.fLetters, I x.fStart, LS (lsT (lsT (lsT intT))) x.fNext, LS intT x.fMark] 77 false, .box [I (x.fNext.length : Int)] 3 false]⟩ ?_ ?_
      · refine splitB (decide ((x.fNext.length : Int) < 1)) (fun hb0 => ?_) (fun hb0 => ?_)
        · refine WL.setB 23 hb0 (by kernel_rfl) ?_
          refine WL.run ht hn 3 ⟨[(1, .sv (.one (.ptr 0 0))), (3, .sv (.one (.ptr 1 0))), (26, .sv (.one (B true)))], [.box [I x.fLetters, I x.fStart, LS (lsT (lsT (lsT intT))) x.fNext, LS intT x.fMark] 77 false, .box [I (x.fNext.length : Int)] 3 false]⟩ (by kernel_rfl) ?_
          exact WL.nil (sub_ok (by simp only [hb0]; kernel_rfl))
        · refine WL.setB 23 hb0 (by kernel_rfl) ?_
          refine WL.run ht hn 3 ⟨[(1, .sv (.one (.ptr 0 0))), (3, .sv (.one (.ptr 1 0))), (26, .sv (.one (B (decide ((x.fNext.length : Int) > 4)))))], [.box [I x.fLetters, I x.fStart, LS (lsT (lsT (lsT intT))) x.fNext, LS intT x.fMark] 77 false, .box [I (x.fNext.length : Int)] 3 false]⟩ (by kernel_rfl) ?_
          exact WL.nil (sub_ok (by simp only [hb0]; kernel_rfl))
      · refine En.cond (b := ((decide ((x.fNext.length : Int) < 1)) || (decide ((x.fNext.length : Int) > 4)))) (by kernel_rfl) (fun hb => ?_) (fun hb => ?_)
        · replace h := h.1 hb
          refine En.seq ?_
          refine En.region ?_
          refine WL.run ht hn 1 ⟨[(2, .sv (.one (I 1)))], [.gone, .gone]⟩ (by kernel_rfl) ?_
          refine WL.nil ?_
          refine En.ret ?_
          exact En.back ht 1 h (by kernel_rfl) rfl
        · replace h := h.2 hb
          refine En.skip ?_
          refine En.seq ?_
          obtain ⟨J, h, hJ⟩ := h
          refine En.seqJ (σ := Bool) (fun zz => J zz) (fun zz => ⟨[(1, .sv (.one (.ptr 0 0))), (3, .sv (.one (.ptr 1 0))), (37, .sv (.one (B zz)))], [.box [I x.fLetters, I x.fStart, LS (lsT (lsT (lsT intT))) x.fNext, LS intT x.fMark] 77 false, .box [I (x.fNext.length : Int)] 3 false]⟩) ?_ ?_
          · refine En.region ?_
            refine WL.run ht hn 6 ⟨[(1, .sv (.one (.ptr 0 0))), (3, .sv (.one (.ptr 1 0))), (32, .sv (.one (B ((x.fMark.length : Int) != (x.fNext.length : Int)))))], [.box [I x.fLetters, I x.fStart, LS (lsT (lsT (lsT intT))) x.fNext, LS intT x.fMark] 77 false, .box [I (x.fNext.length : Int)] 3 false]⟩ (by kernel_rfl) ?_
            refine splitB ((x.fMark.length : Int) != (x.fNext.length : Int)) (fun hb => ?_) (fun hb => ?_)
            · replace h := h.1 hb
              refine WL.setB 32 hb (by kernel_rfl) ?_
              refine WL.run ht hn 5 ⟨[(1, .sv (.one (.ptr 0 0))), (3, .sv (.one (.ptr 1 0))), (37, .sv (.one (B true)))], [.box [I x.fLetters, I x.fStart, LS (lsT (lsT (lsT intT))) x.fNext, LS intT x.fMark] 77 false, .box [I (x.fNext.length : Int)] 3 false]⟩ (by kernel_rfl) ?_
              refine WL.nil ?_
              exact En.at (I := fun zz => J zz) (T := fun zz => ⟨[(1, .sv (.one (.ptr 0 0))), (3, .sv (.one (.ptr 1 0))), (37, .sv (.one (B zz)))], [.box [I x.fLetters, I x.fStart, LS (lsT (lsT (lsT intT))) x.fNext, LS intT x.fMark] 77 false, .box [I (x.fNext.length : Int)] 3 false]⟩) true h (by kernel_rfl)
            · replace h := h.2 hb
              refine WL.setB 32 hb (by kernel_rfl) ?_
              refine WL.run ht hn 3 ⟨[(1, .sv (.one (.ptr 0 0))), (3, .sv (.one (.ptr 1 0))), (32, .sv (.one (B false))), (34, .sv (.one (LS (lsT (lsT (lsT intT))) x.fNext))), (35, .sv (.one (.fn 124 [0])))], [.box [I x.fLetters, I x.fStart, LS (lsT (lsT (lsT intT))) x.fNext, LS intT x.fMark] 77 false, .box [I (x.fNext.length : Int)] 3 false]⟩ (by kernel_rfl) ?_
              have hp := h.1
              replace h := h.2
              refine WL.mt0 (K := []) (p := none) hn (by rfl) (mt_lendF [0] (by rfl) (by rfl) (mt_ghost 35 (.sv (.one (.rd (fvR (fun (x_ : (List (List (List Int)))) => [.sv (.one (LS (lsT (lsT intT)) x_))]) (fun (r : Bool) => .sv (.one (B r))) (fun _ => True) (fun r => (r.length : Int) != (x).fLetters))))) (by rfl) (fv_of (M := [.box [I x.fLetters, I x.fStart, LS (lsT (lsT (lsT intT))) x.fNext, LS intT x.fMark] 77 true]) (caps := [0]) (fun x_ _ => altC1_ct x_ x) en124 rfl (by kernel_rfl) (by rfl) (fun _ => rfl)) (mt_call (anyLLLInt_ct x.fNext (fun _ => True) (fun r => (r.length : Int) != (x).fLetters) hp) en123 (caps := []) [] rfl (by rfl) (by kernel_rfl) (by kernel_rfl) (by rfl) (by rfl) (by rfl)))) (by rfl) (by rfl) (by rfl) ?_
              refine WL.run ht hn 1 ⟨[(1, .sv (.one (.ptr 0 0))), (3, .sv (.one (.ptr 1 0))), (37, .sv (.one (B (x.fNext.any (fun r => (r.length : Int) != (x).fLetters)))))], [.box [I x.fLetters, I x.fStart, LS (lsT (lsT (lsT intT))) x.fNext, LS intT x.fMark] 77 false, .box [I (x.fNext.length : Int)] 3 false]⟩ (by kernel_rfl) ?_
              refine WL.nil ?_
              exact En.at (I := fun zz => J zz) (T := fun zz => ⟨[(1, .sv (.one (.ptr 0 0))), (3, .sv (.one (.ptr 1 0))), (37, .sv (.one (B zz)))], [.box [I x.fLetters, I x.fStart, LS (lsT (lsT (lsT intT))) x.fNext, LS intT x.fMark] 77 false, .box [I (x.fNext.length : Int)] 3 false]⟩) (x.fNext.any (fun r => (r.length : Int) != (x).fLetters)) h (by kernel_rfl)
          · intro x37 h
            replace h := hJ _ h
            show En c ⟨[(1, .sv (.one (.ptr 0 0))), (3, .sv (.one (.ptr 1 0))), (37, .sv (.one (B x37)))], [.box [I x.fLetters, I x.fStart, LS (lsT (lsT (lsT intT))) x.fNext, LS intT x.fMark] 77 false, .box [I (x.fNext.length : Int)] 3 false]⟩ _
            refine En.cond (b := x37) (by kernel_rfl) (fun hb => ?_) (fun hb => ?_)
            · replace h := h.1 hb
              refine En.seq ?_
              refine En.region ?_
              refine WL.run ht hn 1 ⟨[(2, .sv (.one (I 3)))], [.gone, .gone]⟩ (by kernel_rfl) ?_
              refine WL.nil ?_
              refine En.ret ?_
              exact En.back ht 3 h (by kernel_rfl) rfl
            · replace h := h.2 hb
              refine En.skip ?_
              refine En.seq ?_
              refine En.region ?_
              refine WL.run ht hn 1 ⟨[(1, .sv (.one (.ptr 0 0))), (3, .sv (.one (.ptr 1 0))), (4, .sv (.one (B false)))], [.box [I x.fLetters, I x.fStart, LS (lsT (lsT (lsT intT))) x.fNext, LS intT x.fMark] 77 false, .box [I (x.fNext.length : Int)] 3 false]⟩ (by kernel_rfl) ?_
              refine WL.nil ?_
              refine En.seq ?_
              refine En.region ?_
              refine WL.run ht hn 3 ⟨[(1, .sv (.one (.ptr 0 0))), (4, .sv (.one (B false))), (5, .sv (.one (.ptr 2 0)))], [.box [I x.fLetters, I x.fStart, LS (lsT (lsT (lsT intT))) x.fNext, LS intT x.fMark] 77 false, .box [I (x.fNext.length : Int)] 3 false, .box [.fn 125 [1]] 135 false]⟩ (by kernel_rfl) ?_
              refine WL.nil ?_
              refine En.seq ?_
              refine En.seq ?_
              refine En.region ?_
              refine WL.run ht hn 4 ⟨[(1, .sv (.one (.ptr 0 0))), (4, .sv (.one (B false))), (5, .sv (.one (.ptr 2 0))), (40, .sv (.one (LS (lsT (lsT (lsT intT))) x.fNext))), (41, .sv (.one (I (x.fNext.length : Int)))), (42, .sv (.one (I 0)))], [.box [I x.fLetters, I x.fStart, LS (lsT (lsT (lsT intT))) x.fNext, LS intT x.fMark] 77 false, .box [I (x.fNext.length : Int)] 3 false, .box [.fn 125 [1]] 135 false]⟩ (by kernel_rfl) ?_
              refine WL.nil ?_
              refine En.block ?_
              refine En.freeze [1] (by rfl) ?_
              refine En.boxTurn (.rd (fvR (fun (x_ : Int) => [.sv (.one (I x_))]) (fun (r : Bool) => .sv (.one (B r))) (fun _ => True) (altNo (x.fNext.length : Int)))) 2 0 (by rfl) (by rfl) (fv_at (fv_of (M := [.box [I (x.fNext.length : Int)] 3 true]) (caps := [1]) (fun x_ _ => altC2_ct x_ (x.fNext.length : Int)) en125 rfl (by kernel_rfl) (by rfl) (fun _ => rfl))) ?_
              obtain ⟨Inv, mu, h0_2, hI_2⟩ := h
              refine En.loop (σ := Bool × Int) (fun zz => Inv zz.1 zz.2) (fun zz => mu zz.1 zz.2) (fun zz => ⟨[(1, .sv (.one (.ptr 0 0))), (4, .sv (.one (B zz.1))), (5, .sv (.one (.ptr 2 0))), (40, .sv (.one (LS (lsT (lsT (lsT intT))) x.fNext))), (41, .sv (.one (I (x.fNext.length : Int)))), (42, .sv (.one (I zz.2)))], [.box [I x.fLetters, I x.fStart, LS (lsT (lsT (lsT intT))) x.fNext, LS intT x.fMark] 77 false, .gone, .box [.rd (fvR (fun (x_ : Int) => [.sv (.one (I x_))]) (fun (r : Bool) => .sv (.one (B r))) (fun _ => True) (altNo (x.fNext.length : Int)))] 135 false]⟩) (false, 0) h0_2 (sub_ok (by kernel_rfl)) ?_
              rintro ⟨x4, x42⟩ h
              replace h := hI_2 _ _ h
              show En c ⟨[(1, .sv (.one (.ptr 0 0))), (4, .sv (.one (B x4))), (5, .sv (.one (.ptr 2 0))), (40, .sv (.one (LS (lsT (lsT (lsT intT))) x.fNext))), (41, .sv (.one (I (x.fNext.length : Int)))), (42, .sv (.one (I x42)))], [.box [I x.fLetters, I x.fStart, LS (lsT (lsT (lsT intT))) x.fNext, LS intT x.fMark] 77 false, .gone, .box [.rd (fvR (fun (x_ : Int) => [.sv (.one (I x_))]) (fun (r : Bool) => .sv (.one (B r))) (fun _ => True) (altNo (x.fNext.length : Int)))] 135 false]⟩ _
              refine En.seq ?_
              refine En.region ?_
              refine WL.run ht hn 1 ⟨[(1, .sv (.one (.ptr 0 0))), (4, .sv (.one (B x4))), (5, .sv (.one (.ptr 2 0))), (40, .sv (.one (LS (lsT (lsT (lsT intT))) x.fNext))), (41, .sv (.one (I (x.fNext.length : Int)))), (42, .sv (.one (I x42))), (43, .sv (.one (B (decide (x42 < (x.fNext.length : Int))))))], [.box [I x.fLetters, I x.fStart, LS (lsT (lsT (lsT intT))) x.fNext, LS intT x.fMark] 77 false, .gone, .box [.rd (fvR (fun (x_ : Int) => [.sv (.one (I x_))]) (fun (r : Bool) => .sv (.one (B r))) (fun _ => True) (altNo (x.fNext.length : Int)))] 135 false]⟩ (by kernel_rfl) ?_
              refine WL.nil ?_
              refine En.seq ?_
              refine En.cond (b := (decide (x42 < (x.fNext.length : Int)))) (by kernel_rfl) (fun hb => ?_) (fun hb => ?_)
              · replace h := h.1 hb
                refine En.skip ?_
                refine En.seq ?_
                refine En.block ?_
                refine En.seq ?_
                refine En.region ?_
                obtain ⟨e, he, h⟩ := h
                refine WL.val hn (by rfl) (val_index (T := (lsT (lsT (lsT intT)))) (l := x.fNext) (i := x42) ht rfl (by rfl) (by rfl) (by rfl) (by rfl) (by rfl) (by rfl) he) (by rfl) ?_
                refine WL.val hn (by rfl) (val_load (s := .one (LS (lsT (lsT intT)) e)) ht rfl (by rfl) (by rfl) (by rfl) (by rfl) (by rfl)) (by rfl) ?_
                refine WL.run ht hn 1 ⟨[(1, .sv (.one (.ptr 0 0))), (4, .sv (.one (B x4))), (5, .sv (.one (.ptr 2 0))), (7, .sv (.one (LS (lsT (lsT intT)) e))), (40, .sv (.one (LS (lsT (lsT (lsT intT))) x.fNext))), (41, .sv (.one (I (x.fNext.length : Int)))), (42, .sv (.one (I x42)))], [.box [I x.fLetters, I x.fStart, LS (lsT (lsT (lsT intT))) x.fNext, LS intT x.fMark] 77 false, .gone, .box [.rd (fvR (fun (x_ : Int) => [.sv (.one (I x_))]) (fun (r : Bool) => .sv (.one (B r))) (fun _ => True) (altNo (x.fNext.length : Int)))] 135 false]⟩ (by kernel_rfl) ?_
                refine WL.nil ?_
                refine En.seq ?_
                refine En.region ?_
                refine WL.run ht hn 3 ⟨[(1, .sv (.one (.ptr 0 0))), (4, .sv (.one (B x4))), (5, .sv (.one (.ptr 2 0))), (40, .sv (.one (LS (lsT (lsT (lsT intT))) x.fNext))), (41, .sv (.one (I (x.fNext.length : Int)))), (42, .sv (.one (I x42))), (46, .sv (.one (LS (lsT (lsT intT)) e))), (47, .sv (.one (I (e.length : Int)))), (48, .sv (.one (I 0)))], [.box [I x.fLetters, I x.fStart, LS (lsT (lsT (lsT intT))) x.fNext, LS intT x.fMark] 77 false, .gone, .box [.rd (fvR (fun (x_ : Int) => [.sv (.one (I x_))]) (fun (r : Bool) => .sv (.one (B r))) (fun _ => True) (altNo (x.fNext.length : Int)))] 135 false]⟩ (by kernel_rfl) ?_
                refine WL.nil ?_
                refine En.block ?_
                obtain ⟨Inv_2, mu_2, h0, hI⟩ := h
                refine En.loop (σ := Bool × Int) (fun zz => Inv_2 zz.1 zz.2) (fun zz => mu_2 zz.1 zz.2) (fun zz => ⟨[(1, .sv (.one (.ptr 0 0))), (4, .sv (.one (B zz.1))), (5, .sv (.one (.ptr 2 0))), (40, .sv (.one (LS (lsT (lsT (lsT intT))) x.fNext))), (41, .sv (.one (I (x.fNext.length : Int)))), (42, .sv (.one (I x42))), (46, .sv (.one (LS (lsT (lsT intT)) e))), (47, .sv (.one (I (e.length : Int)))), (48, .sv (.one (I zz.2)))], [.box [I x.fLetters, I x.fStart, LS (lsT (lsT (lsT intT))) x.fNext, LS intT x.fMark] 77 false, .gone, .box [.rd (fvR (fun (x_ : Int) => [.sv (.one (I x_))]) (fun (r : Bool) => .sv (.one (B r))) (fun _ => True) (altNo (x.fNext.length : Int)))] 135 false]⟩) (x4, 0) h0 (sub_ok (by kernel_rfl)) ?_
                rintro ⟨x4_2, x48⟩ h
                replace h := hI _ _ h
                show En c ⟨[(1, .sv (.one (.ptr 0 0))), (4, .sv (.one (B x4_2))), (5, .sv (.one (.ptr 2 0))), (40, .sv (.one (LS (lsT (lsT (lsT intT))) x.fNext))), (41, .sv (.one (I (x.fNext.length : Int)))), (42, .sv (.one (I x42))), (46, .sv (.one (LS (lsT (lsT intT)) e))), (47, .sv (.one (I (e.length : Int)))), (48, .sv (.one (I x48)))], [.box [I x.fLetters, I x.fStart, LS (lsT (lsT (lsT intT))) x.fNext, LS intT x.fMark] 77 false, .gone, .box [.rd (fvR (fun (x_ : Int) => [.sv (.one (I x_))]) (fun (r : Bool) => .sv (.one (B r))) (fun _ => True) (altNo (x.fNext.length : Int)))] 135 false]⟩ _
                refine En.seq ?_
                refine En.region ?_
                refine WL.run ht hn 1 ⟨[(1, .sv (.one (.ptr 0 0))), (4, .sv (.one (B x4_2))), (5, .sv (.one (.ptr 2 0))), (40, .sv (.one (LS (lsT (lsT (lsT intT))) x.fNext))), (41, .sv (.one (I (x.fNext.length : Int)))), (42, .sv (.one (I x42))), (46, .sv (.one (LS (lsT (lsT intT)) e))), (47, .sv (.one (I (e.length : Int)))), (48, .sv (.one (I x48))), (49, .sv (.one (B (decide (x48 < (e.length : Int))))))], [.box [I x.fLetters, I x.fStart, LS (lsT (lsT (lsT intT))) x.fNext, LS intT x.fMark] 77 false, .gone, .box [.rd (fvR (fun (x_ : Int) => [.sv (.one (I x_))]) (fun (r : Bool) => .sv (.one (B r))) (fun _ => True) (altNo (x.fNext.length : Int)))] 135 false]⟩ (by kernel_rfl) ?_
                refine WL.nil ?_
                refine En.seq ?_
                refine En.cond (b := (decide (x48 < (e.length : Int)))) (by kernel_rfl) (fun hb => ?_) (fun hb => ?_)
                · replace h := h.1 hb
                  refine En.skip ?_
                  obtain ⟨J_2, h, hJ_2⟩ := h
                  refine En.seqJ (σ := Bool) (fun zz => J_2 zz) (fun zz => ⟨[(1, .sv (.one (.ptr 0 0))), (4, .sv (.one (B zz))), (5, .sv (.one (.ptr 2 0))), (40, .sv (.one (LS (lsT (lsT (lsT intT))) x.fNext))), (41, .sv (.one (I (x.fNext.length : Int)))), (42, .sv (.one (I x42))), (46, .sv (.one (LS (lsT (lsT intT)) e))), (47, .sv (.one (I (e.length : Int)))), (48, .sv (.one (I x48)))], [.box [I x.fLetters, I x.fStart, LS (lsT (lsT (lsT intT))) x.fNext, LS intT x.fMark] 77 false, .gone, .box [.rd (fvR (fun (x_ : Int) => [.sv (.one (I x_))]) (fun (r : Bool) => .sv (.one (B r))) (fun _ => True) (altNo (x.fNext.length : Int)))] 135 false]⟩) ?_ ?_
                  · refine En.block ?_
                    refine En.seq ?_
                    refine En.region ?_
                    obtain ⟨e_2, he_2, h⟩ := h
                    refine WL.val hn (by rfl) (val_index (T := (lsT (lsT intT))) (l := e) (i := x48) ht rfl (by rfl) (by rfl) (by rfl) (by rfl) (by rfl) (by rfl) he_2) (by rfl) ?_
                    refine WL.val hn (by rfl) (val_load (s := .one (LS (lsT intT) e_2)) ht rfl (by rfl) (by rfl) (by rfl) (by rfl) (by rfl)) (by rfl) ?_
                    refine WL.run ht hn 1 ⟨[(1, .sv (.one (.ptr 0 0))), (4, .sv (.one (B x4_2))), (5, .sv (.one (.ptr 2 0))), (9, .sv (.one (LS (lsT intT) e_2))), (40, .sv (.one (LS (lsT (lsT (lsT intT))) x.fNext))), (41, .sv (.one (I (x.fNext.length : Int)))), (42, .sv (.one (I x42))), (46, .sv (.one (LS (lsT (lsT intT)) e))), (47, .sv (.one (I (e.length : Int)))), (48, .sv (.one (I x48)))], [.box [I x.fLetters, I x.fStart, LS (lsT (lsT (lsT intT))) x.fNext, LS intT x.fMark] 77 false, .gone, .box [.rd (fvR (fun (x_ : Int) => [.sv (.one (I x_))]) (fun (r : Bool) => .sv (.one (B r))) (fun _ => True) (altNo (x.fNext.length : Int)))] 135 false]⟩ (by kernel_rfl) ?_
                    refine WL.nil ?_
                    refine En.seq ?_
                    obtain ⟨J_3, h, hJ_3⟩ := h
                    refine En.seqJ (σ := Bool) (fun zz => J_3 zz) (fun zz => ⟨[(1, .sv (.one (.ptr 0 0))), (4, .sv (.one (B x4_2))), (5, .sv (.one (.ptr 2 0))), (9, .sv (.one (LS (lsT intT) e_2))), (40, .sv (.one (LS (lsT (lsT (lsT intT))) x.fNext))), (41, .sv (.one (I (x.fNext.length : Int)))), (42, .sv (.one (I x42))), (46, .sv (.one (LS (lsT (lsT intT)) e))), (47, .sv (.one (I (e.length : Int)))), (48, .sv (.one (I x48))), (58, .sv (.one (B zz)))], [.box [I x.fLetters, I x.fStart, LS (lsT (lsT (lsT intT))) x.fNext, LS intT x.fMark] 77 false, .gone, .box [.rd (fvR (fun (x_ : Int) => [.sv (.one (I x_))]) (fun (r : Bool) => .sv (.one (B r))) (fun _ => True) (altNo (x.fNext.length : Int)))] 135 false]⟩) ?_ ?_
                    · refine En.region ?_
                      refine WL.run ht hn 4 ⟨[(1, .sv (.one (.ptr 0 0))), (4, .sv (.one (B x4_2))), (5, .sv (.one (.ptr 2 0))), (9, .sv (.one (LS (lsT intT) e_2))), (40, .sv (.one (LS (lsT (lsT (lsT intT))) x.fNext))), (41, .sv (.one (I (x.fNext.length : Int)))), (42, .sv (.one (I x42))), (46, .sv (.one (LS (lsT (lsT intT)) e))), (47, .sv (.one (I (e.length : Int)))), (48, .sv (.one (I x48))), (55, .sv (.one (B (decide ((e_2.length : Int) > 16)))))], [.box [I x.fLetters, I x.fStart, LS (lsT (lsT (lsT intT))) x.fNext, LS intT x.fMark] 77 false, .gone, .box [.rd (fvR (fun (x_ : Int) => [.sv (.one (I x_))]) (fun (r : Bool) => .sv (.one (B r))) (fun _ => True) (altNo (x.fNext.length : Int)))] 135 false]⟩ (by kernel_rfl) ?_
                      refine splitB (decide ((e_2.length : Int) > 16)) (fun hb => ?_) (fun hb => ?_)
                      · replace h := h.1 hb
                        refine WL.setB 55 hb (by kernel_rfl) ?_
                        refine WL.run ht hn 3 ⟨[(1, .sv (.one (.ptr 0 0))), (4, .sv (.one (B x4_2))), (5, .sv (.one (.ptr 2 0))), (9, .sv (.one (LS (lsT intT) e_2))), (40, .sv (.one (LS (lsT (lsT (lsT intT))) x.fNext))), (41, .sv (.one (I (x.fNext.length : Int)))), (42, .sv (.one (I x42))), (46, .sv (.one (LS (lsT (lsT intT)) e))), (47, .sv (.one (I (e.length : Int)))), (48, .sv (.one (I x48))), (58, .sv (.one (B true)))], [.box [I x.fLetters, I x.fStart, LS (lsT (lsT (lsT intT))) x.fNext, LS intT x.fMark] 77 false, .gone, .box [.rd (fvR (fun (x_ : Int) => [.sv (.one (I x_))]) (fun (r : Bool) => .sv (.one (B r))) (fun _ => True) (altNo (x.fNext.length : Int)))] 135 false]⟩ (by kernel_rfl) ?_
                        refine WL.nil ?_
                        exact En.at (I := fun zz => J_3 zz) (T := fun zz => ⟨[(1, .sv (.one (.ptr 0 0))), (4, .sv (.one (B x4_2))), (5, .sv (.one (.ptr 2 0))), (9, .sv (.one (LS (lsT intT) e_2))), (40, .sv (.one (LS (lsT (lsT (lsT intT))) x.fNext))), (41, .sv (.one (I (x.fNext.length : Int)))), (42, .sv (.one (I x42))), (46, .sv (.one (LS (lsT (lsT intT)) e))), (47, .sv (.one (I (e.length : Int)))), (48, .sv (.one (I x48))), (58, .sv (.one (B zz)))], [.box [I x.fLetters, I x.fStart, LS (lsT (lsT (lsT intT))) x.fNext, LS intT x.fMark] 77 false, .gone, .box [.rd (fvR (fun (x_ : Int) => [.sv (.one (I x_))]) (fun (r : Bool) => .sv (.one (B r))) (fun _ => True) (altNo (x.fNext.length : Int)))] 135 false]⟩) true h (by kernel_rfl)
                      · replace h := h.2 hb
                        refine WL.setB 55 hb (by kernel_rfl) ?_
                        refine WL.run ht hn 1 ⟨[(1, .sv (.one (.ptr 0 0))), (4, .sv (.one (B x4_2))), (5, .sv (.one (.ptr 2 0))), (9, .sv (.one (LS (lsT intT) e_2))), (40, .sv (.one (LS (lsT (lsT (lsT intT))) x.fNext))), (41, .sv (.one (I (x.fNext.length : Int)))), (42, .sv (.one (I x42))), (46, .sv (.one (LS (lsT (lsT intT)) e))), (47, .sv (.one (I (e.length : Int)))), (48, .sv (.one (I x48))), (55, .sv (.one (B false))), (56, .sv (.one (LS (lsT intT) e_2)))], [.box [I x.fLetters, I x.fStart, LS (lsT (lsT (lsT intT))) x.fNext, LS intT x.fMark] 77 false, .gone, .box [.rd (fvR (fun (x_ : Int) => [.sv (.one (I x_))]) (fun (r : Bool) => .sv (.one (B r))) (fun _ => True) (altNo (x.fNext.length : Int)))] 135 false]⟩ (by kernel_rfl) ?_
                        have hp := h.1
                        replace h := h.2
                        refine WL.mt0 (K := []) (p := none) hn (by rfl) (mt_call (Ct.args (anyLInt_ct e_2 (fun _ => True) (fun l => decide ((l.length : Int) > 4)) hp) (argLe_same (argLe_to (fv_const (ins := (fun (x_ : (List Int)) => [.sv (.one (LS intT x_))])) (out := (fun (r : Bool) => .sv (.one (B r)))) (dom := (fun _ => True)) (φ := (fun l => decide ((l.length : Int) > 4))) (fun x_ _ => altC3_ct x_) en126) argLe_nil))) en77 (caps := []) [] rfl (by rfl) (by kernel_rfl) (by kernel_rfl) (by rfl) (by rfl) (by rfl)) (by rfl) (by rfl) (by rfl) ?_
                        refine WL.run ht hn 1 ⟨[(1, .sv (.one (.ptr 0 0))), (4, .sv (.one (B x4_2))), (5, .sv (.one (.ptr 2 0))), (9, .sv (.one (LS (lsT intT) e_2))), (40, .sv (.one (LS (lsT (lsT (lsT intT))) x.fNext))), (41, .sv (.one (I (x.fNext.length : Int)))), (42, .sv (.one (I x42))), (46, .sv (.one (LS (lsT (lsT intT)) e))), (47, .sv (.one (I (e.length : Int)))), (48, .sv (.one (I x48))), (58, .sv (.one (B (e_2.any (fun l => decide ((l.length : Int) > 4))))))], [.box [I x.fLetters, I x.fStart, LS (lsT (lsT (lsT intT))) x.fNext, LS intT x.fMark] 77 false, .gone, .box [.rd (fvR (fun (x_ : Int) => [.sv (.one (I x_))]) (fun (r : Bool) => .sv (.one (B r))) (fun _ => True) (altNo (x.fNext.length : Int)))] 135 false]⟩ (by kernel_rfl) ?_
                        refine WL.nil ?_
                        exact En.at (I := fun zz => J_3 zz) (T := fun zz => ⟨[(1, .sv (.one (.ptr 0 0))), (4, .sv (.one (B x4_2))), (5, .sv (.one (.ptr 2 0))), (9, .sv (.one (LS (lsT intT) e_2))), (40, .sv (.one (LS (lsT (lsT (lsT intT))) x.fNext))), (41, .sv (.one (I (x.fNext.length : Int)))), (42, .sv (.one (I x42))), (46, .sv (.one (LS (lsT (lsT intT)) e))), (47, .sv (.one (I (e.length : Int)))), (48, .sv (.one (I x48))), (58, .sv (.one (B zz)))], [.box [I x.fLetters, I x.fStart, LS (lsT (lsT (lsT intT))) x.fNext, LS intT x.fMark] 77 false, .gone, .box [.rd (fvR (fun (x_ : Int) => [.sv (.one (I x_))]) (fun (r : Bool) => .sv (.one (B r))) (fun _ => True) (altNo (x.fNext.length : Int)))] 135 false]⟩) (e_2.any (fun l => decide ((l.length : Int) > 4))) h (by kernel_rfl)
                    · intro x58 h
                      replace h := hJ_3 _ h
                      show En c ⟨[(1, .sv (.one (.ptr 0 0))), (4, .sv (.one (B x4_2))), (5, .sv (.one (.ptr 2 0))), (9, .sv (.one (LS (lsT intT) e_2))), (40, .sv (.one (LS (lsT (lsT (lsT intT))) x.fNext))), (41, .sv (.one (I (x.fNext.length : Int)))), (42, .sv (.one (I x42))), (46, .sv (.one (LS (lsT (lsT intT)) e))), (47, .sv (.one (I (e.length : Int)))), (48, .sv (.one (I x48))), (58, .sv (.one (B x58)))], [.box [I x.fLetters, I x.fStart, LS (lsT (lsT (lsT intT))) x.fNext, LS intT x.fMark] 77 false, .gone, .box [.rd (fvR (fun (x_ : Int) => [.sv (.one (I x_))]) (fun (r : Bool) => .sv (.one (B r))) (fun _ => True) (altNo (x.fNext.length : Int)))] 135 false]⟩ _
                      refine En.cond (b := x58) (by kernel_rfl) (fun hb => ?_) (fun hb => ?_)
                      · replace h := h.1 hb
                        refine En.seq ?_
                        refine En.region ?_
                        refine WL.run ht hn 1 ⟨[(2, .sv (.one (I 1)))], [.gone, .gone, .gone]⟩ (by kernel_rfl) ?_
                        refine WL.nil ?_
                        refine En.ret ?_
                        exact En.back ht 1 h (by kernel_rfl) rfl
                      · replace h := h.2 hb
                        refine En.skip ?_
                        refine En.region ?_
                        refine WL.run ht hn 2 ⟨[(1, .sv (.one (.ptr 0 0))), (5, .sv (.one (.ptr 2 0))), (9, .sv (.one (LS (lsT intT) e_2))), (40, .sv (.one (LS (lsT (lsT (lsT intT))) x.fNext))), (41, .sv (.one (I (x.fNext.length : Int)))), (42, .sv (.one (I x42))), (46, .sv (.one (LS (lsT (lsT intT)) e))), (47, .sv (.one (I (e.length : Int)))), (48, .sv (.one (I x48))), (60, .sv (.one (B x4_2)))], [.box [I x.fLetters, I x.fStart, LS (lsT (lsT (lsT intT))) x.fNext, LS intT x.fMark] 77 false, .gone, .box [.rd (fvR (fun (x_ : Int) => [.sv (.one (I x_))]) (fun (r : Bool) => .sv (.one (B r))) (fun _ => True) (altNo (x.fNext.length : Int)))] 135 false]⟩ (by kernel_rfl) ?_
                        refine splitB x4_2 (fun hb => ?_) (fun hb => ?_)
                        · replace h := h.1 hb
                          refine WL.setB 60 hb (by kernel_rfl) ?_
                          refine WL.run ht hn 5 ⟨[(1, .sv (.one (.ptr 0 0))), (4, .sv (.one (B true))), (5, .sv (.one (.ptr 2 0))), (40, .sv (.one (LS (lsT (lsT (lsT intT))) x.fNext))), (41, .sv (.one (I (x.fNext.length : Int)))), (42, .sv (.one (I x42))), (46, .sv (.one (LS (lsT (lsT intT)) e))), (47, .sv (.one (I (e.length : Int)))), (48, .sv (.one (I x48)))], [.box [I x.fLetters, I x.fStart, LS (lsT (lsT (lsT intT))) x.fNext, LS intT x.fMark] 77 false, .gone, .box [.rd (fvR (fun (x_ : Int) => [.sv (.one (I x_))]) (fun (r : Bool) => .sv (.one (B r))) (fun _ => True) (altNo (x.fNext.length : Int)))] 135 false]⟩ (by kernel_rfl) ?_
                          refine WL.nil ?_
                          exact En.at (I := fun zz => J_2 zz) (T := fun zz => ⟨[(1, .sv (.one (.ptr 0 0))), (4, .sv (.one (B zz))), (5, .sv (.one (.ptr 2 0))), (40, .sv (.one (LS (lsT (lsT (lsT intT))) x.fNext))), (41, .sv (.one (I (x.fNext.length : Int)))), (42, .sv (.one (I x42))), (46, .sv (.one (LS (lsT (lsT intT)) e))), (47, .sv (.one (I (e.length : Int)))), (48, .sv (.one (I x48)))], [.box [I x.fLetters, I x.fStart, LS (lsT (lsT (lsT intT))) x.fNext, LS intT x.fMark] 77 false, .gone, .box [.rd (fvR (fun (x_ : Int) => [.sv (.one (I x_))]) (fun (r : Bool) => .sv (.one (B r))) (fun _ => True) (altNo (x.fNext.length : Int)))] 135 false]⟩) true h (by kernel_rfl)
                        · replace h := h.2 hb
                          refine WL.setB 60 hb (by kernel_rfl) ?_
                          refine WL.run ht hn 2 ⟨[(1, .sv (.one (.ptr 0 0))), (5, .sv (.one (.ptr 2 0))), (40, .sv (.one (LS (lsT (lsT (lsT intT))) x.fNext))), (41, .sv (.one (I (x.fNext.length : Int)))), (42, .sv (.one (I x42))), (46, .sv (.one (LS (lsT (lsT intT)) e))), (47, .sv (.one (I (e.length : Int)))), (48, .sv (.one (I x48))), (60, .sv (.one (B false))), (61, .sv (.one (LS (lsT intT) e_2))), (62, .sv (.one (.fn 127 [2])))], [.box [I x.fLetters, I x.fStart, LS (lsT (lsT (lsT intT))) x.fNext, LS intT x.fMark] 77 false, .gone, .box [.rd (fvR (fun (x_ : Int) => [.sv (.one (I x_))]) (fun (r : Bool) => .sv (.one (B r))) (fun _ => True) (altNo (x.fNext.length : Int)))] 135 false]⟩ (by kernel_rfl) ?_
                          have hp := h.1
                          replace h := h.2
                          refine WL.mt0 (K := []) (p := none) hn (by rfl) (mt_lendF [2] (by rfl) (by rfl) (mt_ghost 62 (.sv (.one (.rd (fvR (fun (x_ : (List Int)) => [.sv (.one (LS intT x_))]) (fun (r : Bool) => .sv (.one (B r))) (fun l => ∀ x ∈ l, (fun _ => True) x) (fun l => l.any (altNo (x.fNext.length : Int))))))) (by rfl) (fv_of (M := [.box [.rd (fvR (fun (x_ : Int) => [.sv (.one (I x_))]) (fun (r : Bool) => .sv (.one (B r))) (fun _ => True) (altNo (x.fNext.length : Int)))] 135 true]) (caps := [2]) (fun x_ hx => altC4_ct x_ (fun _ => True) (altNo (x.fNext.length : Int)) hx) en127 rfl (by kernel_rfl) (by rfl) (fun _ => rfl)) (mt_call (anyLInt_ct e_2 (fun l => ∀ x ∈ l, (fun _ => True) x) (fun l => l.any (altNo (x.fNext.length : Int))) hp) en77 (caps := []) [] rfl (by rfl) (by kernel_rfl) (by kernel_rfl) (by rfl) (by rfl) (by rfl)))) (by rfl) (by rfl) (by rfl) ?_
                          refine WL.run ht hn 2 ⟨[(1, .sv (.one (.ptr 0 0))), (4, .sv (.one (B (e_2.any (fun l => l.any (altNo (x.fNext.length : Int))))))), (5, .sv (.one (.ptr 2 0))), (40, .sv (.one (LS (lsT (lsT (lsT intT))) x.fNext))), (41, .sv (.one (I (x.fNext.length : Int)))), (42, .sv (.one (I x42))), (46, .sv (.one (LS (lsT (lsT intT)) e))), (47, .sv (.one (I (e.length : Int)))), (48, .sv (.one (I x48)))], [.box [I x.fLetters, I x.fStart, LS (lsT (lsT (lsT intT))) x.fNext, LS intT x.fMark] 77 false, .gone, .box [.rd (fvR (fun (x_ : Int) => [.sv (.one (I x_))]) (fun (r : Bool) => .sv (.one (B r))) (fun _ => True) (altNo (x.fNext.length : Int)))] 135 false]⟩ (by kernel_rfl) ?_
                          refine WL.nil ?_
                          exact En.at (I := fun zz => J_2 zz) (T := fun zz => ⟨[(1, .sv (.one (.ptr 0 0))), (4, .sv (.one (B zz))), (5, .sv (.one (.ptr 2 0))), (40, .sv (.one (LS (lsT (lsT (lsT intT))) x.fNext))), (41, .sv (.one (I (x.fNext.length : Int)))), (42, .sv (.one (I x42))), (46, .sv (.one (LS (lsT (lsT intT)) e))), (47, .sv (.one (I (e.length : Int)))), (48, .sv (.one (I x48)))], [.box [I x.fLetters, I x.fStart, LS (lsT (lsT (lsT intT))) x.fNext, LS intT x.fMark] 77 false, .gone, .box [.rd (fvR (fun (x_ : Int) => [.sv (.one (I x_))]) (fun (r : Bool) => .sv (.one (B r))) (fun _ => True) (altNo (x.fNext.length : Int)))] 135 false]⟩) (e_2.any (fun l => l.any (altNo (x.fNext.length : Int)))) h (by kernel_rfl)
                  · intro x4_3 h
                    replace h := hJ_2 _ h
                    show En c ⟨[(1, .sv (.one (.ptr 0 0))), (4, .sv (.one (B x4_3))), (5, .sv (.one (.ptr 2 0))), (40, .sv (.one (LS (lsT (lsT (lsT intT))) x.fNext))), (41, .sv (.one (I (x.fNext.length : Int)))), (42, .sv (.one (I x42))), (46, .sv (.one (LS (lsT (lsT intT)) e))), (47, .sv (.one (I (e.length : Int)))), (48, .sv (.one (I x48)))], [.box [I x.fLetters, I x.fStart, LS (lsT (lsT (lsT intT))) x.fNext, LS intT x.fMark] 77 false, .gone, .box [.rd (fvR (fun (x_ : Int) => [.sv (.one (I x_))]) (fun (r : Bool) => .sv (.one (B r))) (fun _ => True) (altNo (x.fNext.length : Int)))] 135 false]⟩ _
                    refine En.region ?_
                    refine WL.run ht hn 2 ⟨[(1, .sv (.one (.ptr 0 0))), (4, .sv (.one (B x4_3))), (5, .sv (.one (.ptr 2 0))), (40, .sv (.one (LS (lsT (lsT (lsT intT))) x.fNext))), (41, .sv (.one (I (x.fNext.length : Int)))), (42, .sv (.one (I x42))), (46, .sv (.one (LS (lsT (lsT intT)) e))), (47, .sv (.one (I (e.length : Int)))), (48, .sv (.one (I (wr (x48 + 1)))))], [.box [I x.fLetters, I x.fStart, LS (lsT (lsT (lsT intT))) x.fNext, LS intT x.fMark] 77 false, .gone, .box [.rd (fvR (fun (x_ : Int) => [.sv (.one (I x_))]) (fun (r : Bool) => .sv (.one (B r))) (fun _ => True) (altNo (x.fNext.length : Int)))] 135 false]⟩ (by kernel_rfl) ?_
                    refine WL.nil ?_
                    exact En.at (I := fun zz => Inv_2 zz.1 zz.2 ∧ mu_2 zz.1 zz.2 < mu_2 x4_2 x48) (T := fun zz => ⟨[(1, .sv (.one (.ptr 0 0))), (4, .sv (.one (B zz.1))), (5, .sv (.one (.ptr 2 0))), (40, .sv (.one (LS (lsT (lsT (lsT intT))) x.fNext))), (41, .sv (.one (I (x.fNext.length : Int)))), (42, .sv (.one (I x42))), (46, .sv (.one (LS (lsT (lsT intT)) e))), (47, .sv (.one (I (e.length : Int)))), (48, .sv (.one (I zz.2)))], [.box [I x.fLetters, I x.fStart, LS (lsT (lsT (lsT intT))) x.fNext, LS intT x.fMark] 77 false, .gone, .box [.rd (fvR (fun (x_ : Int) => [.sv (.one (I x_))]) (fun (r : Bool) => .sv (.one (B r))) (fun _ => True) (altNo (x.fNext.length : Int)))] 135 false]⟩) (x4_3, (wr (x48 + 1))) h (by kernel_rfl)
                · replace h := h.2 hb
                  refine En.exit rfl ?_
                  refine En.region ?_
                  refine WL.run ht hn 2 ⟨[(1, .sv (.one (.ptr 0 0))), (4, .sv (.one (B x4_2))), (5, .sv (.one (.ptr 2 0))), (40, .sv (.one (LS (lsT (lsT (lsT intT))) x.fNext))), (41, .sv (.one (I (x.fNext.length : Int)))), (42, .sv (.one (I (wr (x42 + 1)))))], [.box [I x.fLetters, I x.fStart, LS (lsT (lsT (lsT intT))) x.fNext, LS intT x.fMark] 77 false, .gone, .box [.rd (fvR (fun (x_ : Int) => [.sv (.one (I x_))]) (fun (r : Bool) => .sv (.one (B r))) (fun _ => True) (altNo (x.fNext.length : Int)))] 135 false]⟩ (by kernel_rfl) ?_
                  refine WL.nil ?_
                  exact En.at (I := fun zz => Inv zz.1 zz.2 ∧ mu zz.1 zz.2 < mu x4 x42) (T := fun zz => ⟨[(1, .sv (.one (.ptr 0 0))), (4, .sv (.one (B zz.1))), (5, .sv (.one (.ptr 2 0))), (40, .sv (.one (LS (lsT (lsT (lsT intT))) x.fNext))), (41, .sv (.one (I (x.fNext.length : Int)))), (42, .sv (.one (I zz.2)))], [.box [I x.fLetters, I x.fStart, LS (lsT (lsT (lsT intT))) x.fNext, LS intT x.fMark] 77 false, .gone, .box [.rd (fvR (fun (x_ : Int) => [.sv (.one (I x_))]) (fun (r : Bool) => .sv (.one (B r))) (fun _ => True) (altNo (x.fNext.length : Int)))] 135 false]⟩) (x4_2, (wr (x42 + 1))) h (by kernel_rfl)
              · replace h := h.2 hb
                refine En.exit rfl ?_
                refine En.seq ?_
                obtain ⟨J_4, h, hJ_4⟩ := h
                refine En.seqJ (σ := Bool) (fun zz => J_4 zz) (fun zz => ⟨[(78, .sv (.one (B zz)))], [.gone, .gone, .gone]⟩) ?_ ?_
                · refine En.region ?_
                  refine WL.run ht hn 2 ⟨[(1, .sv (.one (.ptr 0 0))), (5, .sv (.one (.ptr 2 0))), (68, .sv (.one (B x4)))], [.box [I x.fLetters, I x.fStart, LS (lsT (lsT (lsT intT))) x.fNext, LS intT x.fMark] 77 false, .gone, .box [.rd (fvR (fun (x_ : Int) => [.sv (.one (I x_))]) (fun (r : Bool) => .sv (.one (B r))) (fun _ => True) (altNo (x.fNext.length : Int)))] 135 false]⟩ (by kernel_rfl) ?_
                  refine splitB x4 (fun hb => ?_) (fun hb => ?_)
                  · replace h := h.1 hb
                    refine WL.setB 68 hb (by kernel_rfl) ?_
                    refine WL.run ht hn 10 ⟨[(78, .sv (.one (B true)))], [.gone, .gone, .gone]⟩ (by kernel_rfl) ?_
                    refine WL.nil ?_
                    exact En.at (I := fun zz => J_4 zz) (T := fun zz => ⟨[(78, .sv (.one (B zz)))], [.gone, .gone, .gone]⟩) true h (by kernel_rfl)
                  · replace h := h.2 hb
                    refine WL.setB 68 hb (by kernel_rfl) ?_
                    refine WL.run ht hn 3 ⟨[(1, .sv (.one (.ptr 0 0))), (68, .sv (.one (B false))), (69, .sv (.one (.rd (fvR (fun (x_ : Int) => [.sv (.one (I x_))]) (fun (r : Bool) => .sv (.one (B r))) (fun _ => True) (altNo (x.fNext.length : Int)))))), (71, .sv (.one (I x.fStart)))], [.box [I x.fLetters, I x.fStart, LS (lsT (lsT (lsT intT))) x.fNext, LS intT x.fMark] 77 false, .gone, .gone]⟩ (by kernel_rfl) ?_
                    have hp := h.1
                    replace h := h.2
                    refine WL.mt0 (K := []) (p := none) hn (by rfl) (mt_callv x.fStart hp rfl (by rfl) (by rfl) (by rfl) (by rfl)) (by rfl) (by rfl) (by rfl) ?_
                    refine WL.run ht hn 2 ⟨[(1, .sv (.one (.ptr 0 0))), (74, .sv (.one (B ((altNo (x.fNext.length : Int)) x.fStart))))], [.box [I x.fLetters, I x.fStart, LS (lsT (lsT (lsT intT))) x.fNext, LS intT x.fMark] 77 false, .gone, .gone]⟩ (by kernel_rfl) ?_
                    refine splitB ((altNo (x.fNext.length : Int)) x.fStart) (fun hb => ?_) (fun hb => ?_)
                    · replace h := h.1 hb
                      refine WL.setB 74 hb (by kernel_rfl) ?_
                      refine WL.run ht hn 4 ⟨[(78, .sv (.one (B true)))], [.gone, .gone, .gone]⟩ (by kernel_rfl) ?_
                      refine WL.nil ?_
                      exact En.at (I := fun zz => J_4 zz) (T := fun zz => ⟨[(78, .sv (.one (B zz)))], [.gone, .gone, .gone]⟩) true h (by kernel_rfl)
                    · replace h := h.2 hb
                      refine WL.setB 74 hb (by kernel_rfl) ?_
                      refine WL.run ht hn 2 ⟨[(74, .sv (.one (B false))), (76, .sv (.one (LS intT x.fMark)))], [.gone, .gone, .gone]⟩ (by kernel_rfl) ?_
                      have hp := h.1
                      replace h := h.2
                      refine WL.mt0 (K := []) (p := none) hn (by rfl) (mt_call (Ct.args (anyInt_ct x.fMark (fun _ => True) (fun m => (m != 0) && (m != 1)) hp) (argLe_same (argLe_to (fv_const (ins := (fun (x_ : Int) => [.sv (.one (I x_))])) (out := (fun (r : Bool) => .sv (.one (B r)))) (dom := (fun _ => True)) (φ := (fun m => (m != 0) && (m != 1))) (fun x_ _ => altC5_ct x_) en128) argLe_nil))) en79 (caps := []) [] rfl (by rfl) (by kernel_rfl) (by kernel_rfl) (by rfl) (by rfl) (by rfl)) (by rfl) (by rfl) (by rfl) ?_
                      refine WL.run ht hn 1 ⟨[(78, .sv (.one (B (x.fMark.any (fun m => (m != 0) && (m != 1))))))], [.gone, .gone, .gone]⟩ (by kernel_rfl) ?_
                      refine WL.nil ?_
                      exact En.at (I := fun zz => J_4 zz) (T := fun zz => ⟨[(78, .sv (.one (B zz)))], [.gone, .gone, .gone]⟩) (x.fMark.any (fun m => (m != 0) && (m != 1))) h (by kernel_rfl)
                · intro x78 h
                  replace h := hJ_4 _ h
                  show En c ⟨[(78, .sv (.one (B x78)))], [.gone, .gone, .gone]⟩ _
                  refine En.cond (b := x78) (by kernel_rfl) (fun hb => ?_) (fun hb => ?_)
                  · replace h := h.1 hb
                    refine En.seq ?_
                    refine En.region ?_
                    refine WL.run ht hn 1 ⟨[(2, .sv (.one (I 2)))], [.gone, .gone, .gone]⟩ (by kernel_rfl) ?_
                    refine WL.nil ?_
                    refine En.ret ?_
                    exact En.back ht 2 h (by kernel_rfl) rfl
                  · replace h := h.2 hb
                    refine En.skip ?_
                    refine En.seq ?_
                    refine En.region ?_
                    refine WL.run ht hn 1 ⟨[(2, .sv (.one (I 0)))], [.gone, .gone, .gone]⟩ (by kernel_rfl) ?_
                    refine WL.nil ?_
                    refine En.ret ?_
                    exact En.back ht 0 h (by kernel_rfl) rfl
theorem en70 : ∀ args w, (callFunc 70 args).run Try.prog w = .ok (.enter 70 args) w := enters_of Try.func70 (by kernel_rfl) rfl
theorem altCheck_ct (x : ApiAlter)  : Ct 70 [.sv (.agg [I x.fLetters, I x.fStart, LS (lsT (lsT (lsT intT))) x.fNext, LS intT x.fMark])] [] (fun (_ : Unit) => True) (fun _ => .sv (.one (I (altErr x)))) := by
  refine (altCheck_walk x (fun res_ => res_ = (altErr x)) ?_).fun
  intro _ _
  refine ⟨fun h1 => ?_, fun h1 => ⟨fun h2 => ?_, fun h2 => ?_⟩⟩
  · show _ = altErr x
    unfold altErr; rw [if_pos h1]
  · show _ = altErr x
    unfold altErr; rw [if_neg (by rw [h1]; decide), if_pos h2]
  have hn : x.fNext.length ≤ 4 := by
    simp only [Bool.or_eq_false_iff, decide_eq_false_iff_not] at h2; omega
  refine ⟨fun b => b = (((x.fMark.length : Int) != (x.fNext.length : Int)) || x.fNext.any (fun r => (r.length : Int) != (x).fLetters)), ⟨fun h => by rw [h]; rfl, fun h => ⟨fun _ _ => trivial, by rw [h]; rfl⟩⟩, ?_⟩
  rintro b rfl
  refine ⟨fun h3 => ?_, fun h3 => ?_⟩
  · show _ = altErr x
    unfold altErr; rw [if_neg (by rw [h1]; decide), if_neg (by rw [h2]; decide), if_pos h3]
  have h3' := h3
  simp only [Bool.or_eq_false_iff, List.any_eq_false, bne_iff_ne, ne_eq, Decidable.not_not] at h3'
  have hrow : ∀ r ∈ x.fNext, r.length ≤ 4 := fun r hr => by
    have := h3'.2 r hr
    simp only [Bool.or_eq_false_iff, decide_eq_false_iff_not] at h1; omega
  refine ⟨fun b i => ∃ k : Nat, i = k ∧ k ≤ x.fNext.length ∧ b = (x.fNext.take k).any (fun r => r.any (badL (x.fNext.length : Int))) ∧ (x.fNext.take k).any (fun r => r.any bigL) = false, fun _ i => x.fNext.length - i.toNat, ⟨0, rfl, Nat.zero_le _, by simp, by simp⟩, ?_⟩
  rintro b i ⟨k, rfl, hk, rfl, hbig⟩
  refine ⟨fun hb => ?_, fun hb => ?_⟩
  · have hlt := dlt hb
    have hmem : x.fNext[k] ∈ x.fNext := List.getElem_mem hlt
    have hr4 := hrow _ hmem
    refine ⟨_, idx_at hlt, fun b i => ∃ j : Nat, i = j ∧ j ≤ x.fNext[k].length ∧ b = ((x.fNext.take k).any (fun r => r.any (badL (x.fNext.length : Int))) || (x.fNext[k].take j).any (badL (x.fNext.length : Int))) ∧ (x.fNext[k].take j).any bigL = false, fun _ i => x.fNext[k].length - i.toNat, ⟨0, rfl, Nat.zero_le _, by simp, by simp⟩, ?_⟩
    rintro b i ⟨j, rfl, hj, rfl, hbig2⟩
    refine ⟨fun hb2 => ?_, fun hb2 => ?_⟩
    · have hlt2 := dlt hb2
      refine ⟨fun b => b = (((x.fNext.take k).any (fun r => r.any (badL (x.fNext.length : Int))) || (x.fNext[k].take j).any (badL (x.fNext.length : Int))) || badL (x.fNext.length : Int) x.fNext[k][j]) ∧ bigL x.fNext[k][j] = false, ⟨_, idx_at hlt2, fun b => b = bigL x.fNext[k][j], ⟨fun h => by unfold bigL; rw [h]; rfl, fun h => ⟨fun _ _ => trivial, by unfold bigL; rw [h]; rfl⟩⟩, ?_⟩, ?_⟩
      · rintro b rfl
        refine ⟨fun h4 => ?_, fun h4 => ⟨fun h5 => ⟨by rw [h5]; rfl, h4⟩, fun h5 => ⟨fun _ _ _ _ => trivial, by rw [h5]; rfl, h4⟩⟩⟩
        have : x.fNext.any (fun r => r.any bigL) = true := List.any_eq_true.2 ⟨_, hmem, List.any_eq_true.2 ⟨_, List.getElem_mem hlt2, h4⟩⟩
        show _ = altErr x
        unfold altErr; rw [if_neg (by rw [h1]; decide), if_neg (by rw [h2]; decide), if_neg (by rw [h3]; decide), if_pos this]
      · rintro b ⟨rfl, h4⟩
        refine ⟨⟨j + 1, wsucc (by omega), hlt2, ?_, ?_⟩, mu_up hlt2 (by omega)⟩
        · rw [take_any hlt2, Bool.or_assoc]
        · rw [take_any hlt2, hbig2, h4]; rfl
    · have hge := dge hb2
      refine ⟨⟨k + 1, wsucc (by omega), hlt, ?_, ?_⟩, mu_up hlt (by omega)⟩
      · rw [take_any hlt, List.take_of_length_le hge]
      · rw [take_any hlt, hbig, Bool.false_or]
        rw [List.take_of_length_le hge] at hbig2
        exact hbig2
  · have hge := dge hb
    rw [List.take_of_length_le hge] at hbig
    rw [List.take_of_length_le hge]
    refine ⟨fun b => b = (x.fNext.any (fun r => r.any (badL (x.fNext.length : Int))) || (altNo (x.fNext.length : Int) x.fStart || x.fMark.any (fun m => (m != 0) && (m != 1)))), ⟨fun h => by rw [h]; rfl, fun h => ⟨trivial, fun h6 => by rw [h, h6]; rfl, fun h6 => ⟨fun _ _ => trivial, by rw [h, h6]; rfl⟩⟩⟩, ?_⟩
    rintro b rfl
    refine ⟨fun h5 => ?_, fun h5 => ?_⟩
    · show _ = altErr x
      unfold altErr; rw [if_neg (by rw [h1]; decide), if_neg (by rw [h2]; decide), if_neg (by rw [h3]; decide), if_neg (by rw [hbig]; decide), if_pos h5]
    · show _ = altErr x
      unfold altErr; rw [if_neg (by rw [h1]; decide), if_neg (by rw [h2]; decide), if_neg (by rw [h3]; decide), if_neg (by rw [hbig]; decide), if_neg (by rw [h5]; decide)]
/-- the states that accept the empty word -/
def altEnd (x : ApiAlter) : Int := (maskOf (fun q => x.fMark.getD q 0 == 1) x.fNext.length : Int)
def accB (x : ApiAlter) (s a : Int) (q : Nat) : Bool := ((x.fNext.getD q []).getD a.toNat []).any fun l => !(l.any fun p => !(hasB s p))
/-- the states that accept with a letter more ahead -/
def altAhead (x : ApiAlter) (s a : Int) : Int := (maskOf (accB x s a) x.fNext.length : Int)
theorem mask_in {f : Nat → Bool} {n : Nat} (h : n ≤ 4) : setDom (maskOf f n : Int) := by
  have h1 := maskOf_lt f n
  have h2 : 2 ^ n ≤ 2 ^ 4 := Nat.pow_le_pow_right (by decide) h
  unfold setDom
  omega
theorem altEnd_in {x : ApiAlter} (h : AltOk x) : setDom (altEnd x) := mask_in h.size.2
theorem altAhead_in {x : ApiAlter} (h : AltOk x) (s a : Int) : setDom (altAhead x s a) := mask_in h.size.2
def altEnds_vc (x : ApiAlter) (Q : Int → Prop) : Prop :=
  x.fNext.length ≤ 9223372036854775807 →
  x.fMark.length ≤ 9223372036854775807 →
  (∃ (Inv : Int → Int → Prop) (mu : Int → Int → Nat), Inv 0 0 ∧
  ∀ (x3 : Int) (x9 : Int) , Inv x3 x9 → (IfP (decide (x9 < (x.fMark.length : Int))) (∃ e, idx x.fMark x9 = some e ∧
  (0 ≤ x9) ∧
  (Inv (bitsI .or .i64 x3 (wr (e * (2 ^ (min (x9).toNat 64))))) (wr (x9 + 1)) ∧ mu (bitsI .or .i64 x3 (wr (e * (2 ^ (min (x9).toNat 64))))) (wr (x9 + 1)) < mu x3 x9)) (Q x3)))
theorem altEnds_walk (x : ApiAlter) (Q : Int → Prop) (h : altEnds_vc x Q) : Ct 71 [.sv (.agg [I x.fLetters, I x.fStart, LS (lsT (lsT (lsT intT))) x.fNext, LS intT x.fMark])] [] Q (fun (r : Int) => .sv (.one (I r))) := by
  have ht := tab_ok
  refine Ct.body Try.func71 rfl rfl rfl rfl (fun c hn => ?_)
  unfold altEnds_vc at h
  refine En.lenA 0 2 (by rfl) (by rfl) (fun hl => ?_)
  replace h := h hl
  clear hl
  refine En.lenA 0 3 (by rfl) (by rfl) (fun hl => ?_)
  replace h := h hl
  clear hl
  refine En.seq ?_
  refine En.region ?_
  refine WL.run ht hn 2 ⟨[(1, .sv (.one (.ptr 0 0)))], [.box [I x.fLetters, I x.fStart, LS (lsT (lsT (lsT intT))) x.fNext, LS intT x.fMark] 77 false]⟩ (by kernel_rfl) ?_
  refine WL.nil ?_
  refine En.seq ?_
  refine En.region ?_
  refine WL.run ht hn 1 ⟨[(1, .sv (.one (.ptr 0 0))), (3, .sv (.one (I 0)))], [.box [I x.fLetters, I x.fStart, LS (lsT (lsT (lsT intT))) x.fNext, LS intT x.fMark] 77 false]⟩ (by kernel_rfl) ?_
  refine WL.nil ?_
  refine En.seq ?_
  refine En.seq ?_
  refine En.region ?_
  refine WL.run ht hn 4 ⟨[(3, .sv (.one (I 0))), (7, .sv (.one (LS intT x.fMark))), (8, .sv (.one (I (x.fMark.length : Int)))), (9, .sv (.one (I 0)))], [.gone]⟩ (by kernel_rfl) ?_
  refine WL.nil ?_
  refine En.block ?_
  obtain ⟨Inv, mu, h0, hI⟩ := h
  refine En.loop (σ := Int × Int) (fun zz => Inv zz.1 zz.2) (fun zz => mu zz.1 zz.2) (fun zz => ⟨[(3, .sv (.one (I zz.1))), (7, .sv (.one (LS intT x.fMark))), (8, .sv (.one (I (x.fMark.length : Int)))), (9, .sv (.one (I zz.2)))], [.gone]⟩) (0, 0) h0 (sub_ok (by kernel_rfl)) ?_
  rintro ⟨x3, x9⟩ h
  replace h := hI _ _ h
  show En c ⟨[(3, .sv (.one (I x3))), (7, .sv (.one (LS intT x.fMark))), (8, .sv (.one (I (x.fMark.length : Int)))), (9, .sv (.one (I x9)))], [.gone]⟩ _
  refine En.seq ?_
  refine En.region ?_
  refine WL.run ht hn 1 ⟨[(3, .sv (.one (I x3))), (7, .sv (.one (LS intT x.fMark))), (8, .sv (.one (I (x.fMark.length : Int)))), (9, .sv (.one (I x9))), (10, .sv (.one (B (decide (x9 < (x.fMark.length : Int))))))], [.gone]⟩ (by kernel_rfl) ?_
  refine WL.nil ?_
  refine En.seq ?_
  refine En.cond (b := (decide (x9 < (x.fMark.length : Int)))) (by kernel_rfl) (fun hb => ?_) (fun hb => ?_)
  · replace h := h.1 hb
    refine En.skip ?_
    refine En.seq ?_
    refine En.block ?_
    refine En.seq ?_
    refine En.region ?_
    refine WL.run ht hn 1 ⟨[(3, .sv (.one (I x3))), (7, .sv (.one (LS intT x.fMark))), (8, .sv (.one (I (x.fMark.length : Int)))), (9, .sv (.one (I x9))), (11, .sv (.one (I x9)))], [.gone]⟩ (by kernel_rfl) ?_
    obtain ⟨e, he, h⟩ := h
    refine WL.val hn (by rfl) (val_index (T := intT) (l := x.fMark) (i := x9) ht rfl (by rfl) (by rfl) (by rfl) (by rfl) (by rfl) (by rfl) he) (by rfl) ?_
    refine WL.val hn (by rfl) (val_load (s := .one (I e)) ht rfl (by rfl) (by rfl) (by rfl) (by rfl) (by rfl)) (by rfl) ?_
    refine WL.run ht hn 2 ⟨[(3, .sv (.one (I x3))), (4, .sv (.one (I x9))), (5, .sv (.one (I e))), (7, .sv (.one (LS intT x.fMark))), (8, .sv (.one (I (x.fMark.length : Int)))), (9, .sv (.one (I x9)))], [.gone]⟩ (by kernel_rfl) ?_
    refine WL.nil ?_
    refine En.region ?_
    refine WL.run ht hn 3 ⟨[(7, .sv (.one (LS intT x.fMark))), (8, .sv (.one (I (x.fMark.length : Int)))), (9, .sv (.one (I x9))), (14, .sv (.one (I x3))), (15, .sv (.one (I e))), (16, .sv (.one (I x9)))], [.gone]⟩ (by kernel_rfl) ?_
    have hz := h.1
    replace h := h.2
    refine WL.val hn (by rfl) (val_shift (u := e) (v := x9) rfl (by rfl) (by rfl) hz (.inl ⟨rfl, rfl⟩)) (by rfl) ?_
    refine WL.run ht hn 2 ⟨[(3, .sv (.one (I (bitsI .or .i64 x3 (wr (e * (2 ^ (min (x9).toNat 64)))))))), (7, .sv (.one (LS intT x.fMark))), (8, .sv (.one (I (x.fMark.length : Int)))), (9, .sv (.one (I x9)))], [.gone]⟩ (by kernel_rfl) ?_
    refine WL.nil ?_
    refine En.region ?_
    refine WL.run ht hn 2 ⟨[(3, .sv (.one (I (bitsI .or .i64 x3 (wr (e * (2 ^ (min (x9).toNat 64)))))))), (7, .sv (.one (LS intT x.fMark))), (8, .sv (.one (I (x.fMark.length : Int)))), (9, .sv (.one (I (wr (x9 + 1)))))], [.gone]⟩ (by kernel_rfl) ?_
    refine WL.nil ?_
    exact En.at (I := fun zz => Inv zz.1 zz.2 ∧ mu zz.1 zz.2 < mu x3 x9) (T := fun zz => ⟨[(3, .sv (.one (I zz.1))), (7, .sv (.one (LS intT x.fMark))), (8, .sv (.one (I (x.fMark.length : Int)))), (9, .sv (.one (I zz.2)))], [.gone]⟩) ((bitsI .or .i64 x3 (wr (e * (2 ^ (min (x9).toNat 64))))), (wr (x9 + 1))) h (by kernel_rfl)
  · replace h := h.2 hb
    refine En.exit rfl ?_
    refine En.seq ?_
    refine En.region ?_
    refine WL.run ht hn 2 ⟨[(2, .sv (.one (I x3)))], [.gone]⟩ (by kernel_rfl) ?_
    refine WL.nil ?_
    refine En.ret ?_
    exact En.back ht x3 h (by kernel_rfl) rfl
theorem en71 : ∀ args w, (callFunc 71 args).run Try.prog w = .ok (.enter 71 args) w := enters_of Try.func71 (by kernel_rfl) rfl
theorem altEnds_ct (x : ApiAlter) (hx : AltOk x) : Ct 71 [.sv (.agg [I x.fLetters, I x.fStart, LS (lsT (lsT (lsT intT))) x.fNext, LS intT x.fMark])] [] (fun (_ : Unit) => True) (fun _ => .sv (.one (I (altEnd x)))) := by
  refine (altEnds_walk x (fun res_ => res_ = (altEnd x)) ?_).fun
  intro _ _
  have hn := hx.size
  have hm := hx.marks
  refine ⟨fun s i => ∃ k : Nat, i = k ∧ k ≤ x.fMark.length ∧ s = (maskOf (fun q => x.fMark.getD q 0 == 1) k : Int), fun _ i => x.fMark.length - i.toNat, ⟨0, rfl, Nat.zero_le _, rfl⟩, ?_⟩
  rintro s i ⟨k, rfl, hk, rfl⟩
  refine ⟨fun hb => ?_, fun hb => ?_⟩
  · have hlt := dlt hb
    have hg : x.fMark.getD k 0 = x.fMark[k] := by rw [List.getD_eq_getElem?_getD, List.getElem?_eq_getElem hlt]; rfl
    refine ⟨_, idx_at hlt, by omega, ⟨k + 1, wsucc (by omega), hlt, ?_⟩, mu_up hlt (by omega)⟩
    rw [Int.toNat_natCast]
    rcases hx.mark _ (List.getElem_mem hlt) with h | h
    · rw [h, mask_no (by rw [hg, h]; rfl), Int.zero_mul]
      have := bor (a := maskOf (fun q => x.fMark.getD q 0 == 1) k) (b := 0) (maskOf_lt62 _ (by omega)) (by decide)
      rw [Nat.or_zero] at this
      exact this
    · rw [h]
      exact mask_or (by omega) (by rw [hg, h]; rfl)
  · have : k = x.fNext.length := by have := dge hb; omega
    subst this
    rfl
def aheadB_vc (p : Int) (s : Int) (Q : Bool → Prop) : Prop :=
  (0 ≤ p) ∧
  Q ((bitsI .and .i64 (Int.fdiv s (2 ^ (min (p).toNat 64))) 1) == 0)
theorem aheadB_walk (p : Int) (s : Int) (Q : Bool → Prop) (h : aheadB_vc p s Q) : Ct 130 [.sv (.one (I p)), .sv (.one (.ptr 0 0))] [.box [I s] 3 true] Q (fun (r : Bool) => .sv (.one (B r))) := by
  have ht := tab_ok
  refine Ct.body Try.func130 rfl rfl rfl rfl (fun c hn => ?_)
  unfold aheadB_vc at h
  refine En.seq ?_
  refine En.region ?_
  refine WL.run ht hn 1 ⟨[(0, .sv (.one (I p))), (1, .sv (.one (.ptr 0 0)))], [.box [I s] 3 true]⟩ (by kernel_rfl) ?_
  refine WL.nil ?_
  refine En.seq ?_
  refine En.region ?_
  refine WL.run ht hn 2 ⟨[(4, .sv (.one (I s))), (5, .sv (.one (I p)))], [.gone]⟩ (by kernel_rfl) ?_
  have hz := h.1
  replace h := h.2
  refine WL.val hn (by rfl) (val_shift (u := s) (v := p) rfl (by rfl) (by rfl) hz (.inr ⟨rfl, rfl⟩)) (by rfl) ?_
  refine WL.run ht hn 3 ⟨[(3, .sv (.one (B ((bitsI .and .i64 (Int.fdiv s (2 ^ (min (p).toNat 64))) 1) == 0))))], [.gone]⟩ (by kernel_rfl) ?_
  refine WL.nil ?_
  refine En.ret ?_
  exact En.back ht ((bitsI .and .i64 (Int.fdiv s (2 ^ (min (p).toNat 64))) 1) == 0) h (by kernel_rfl) rfl
theorem en130 : ∀ args w, (callFunc 130 args).run Try.prog w = .ok (.enter 130 args) w := enters_of Try.func130 (by kernel_rfl) rfl
theorem bit_one {s p : Int} (h : bitDom s p) : bitsI .and .i64 (Int.fdiv s (2 ^ (min p.toNat 64))) 1 = if hasB s p then 1 else 0 := btestI (by have := h.1; unfold setDom at this; omega) (by have := h.2; omega)
theorem aheadB_ct (p : Int) (s : Int) (hd : bitDom s p) : Ct 130 [.sv (.one (I p)), .sv (.one (.ptr 0 0))] [.box [I s] 3 true] (fun (_ : Unit) => True) (fun _ => .sv (.one (B (!(hasB s p))))) := by
  refine (aheadB_walk p s (fun res_ => res_ = (!(hasB s p))) ?_).fun
  refine ⟨hd.2.1, ?_⟩
  rw [bit_one hd]
  cases hasB s p <;> rfl
def aheadA_vc (l : (List Int)) (s : Int) (Q : Bool → Prop) : Prop :=
  l.length ≤ 9223372036854775807 →
  ((∀ x_ ∈ l, (fun p => bitDom s p) x_) ∧
  Q (!(l.any (fun p => !(hasB s p)))))
theorem aheadA_walk (l : (List Int)) (s : Int) (Q : Bool → Prop) (h : aheadA_vc l s Q) : Ct 129 [.sv (.one (LS intT l)), .sv (.one (.ptr 0 0))] [.box [I s] 3 true] Q (fun (r : Bool) => .sv (.one (B r))) := by
  have ht := tab_ok
  refine Ct.body Try.func129 rfl rfl rfl rfl (fun c hn => ?_)
  unfold aheadA_vc at h
  refine En.lenL 0 (by rfl) (fun hl => ?_)
  replace h := h hl
  clear hl
  refine En.seq ?_
  refine En.region ?_
  refine WL.run ht hn 1 ⟨[(0, .sv (.one (LS intT l))), (1, .sv (.one (.ptr 0 0)))], [.box [I s] 3 true]⟩ (by kernel_rfl) ?_
  refine WL.nil ?_
  refine En.seq ?_
  refine En.region ?_
  refine WL.run ht hn 2 ⟨[(4, .sv (.one (LS intT l))), (5, .sv (.one (.fn 130 [0])))], [.box [I s] 3 true]⟩ (by kernel_rfl) ?_
  have hp := h.1
  replace h := h.2
  refine WL.mt0 (K := []) (p := none) hn (by rfl) (mt_ghost 5 (.sv (.one (.rd (fvR (fun (x_ : Int) => [.sv (.one (I x_))]) (fun (r : Bool) => .sv (.one (B r))) (fun p => bitDom s p) (fun p => !(hasB s p)))))) (by rfl) (fv_of (M := [.box [I s] 3 true]) (caps := [0]) (fun x_ hx => aheadB_ct x_ s hx) en130 rfl (by kernel_rfl) (by rfl) (fun _ => rfl)) (mt_call (anyInt_ct l (fun p => bitDom s p) (fun p => !(hasB s p)) hp) en79 (caps := []) [] rfl (by rfl) (by kernel_rfl) (by kernel_rfl) (by rfl) (by rfl) (by rfl))) (by rfl) (by rfl) (by rfl) ?_
  refine WL.run ht hn 2 ⟨[(3, .sv (.one (B (!(l.any (fun p => !(hasB s p)))))))], [.gone]⟩ (by kernel_rfl) ?_
  refine WL.nil ?_
  refine En.ret ?_
  exact En.back ht (!(l.any (fun p => !(hasB s p)))) h (by kernel_rfl) rfl
theorem en129 : ∀ args w, (callFunc 129 args).run Try.prog w = .ok (.enter 129 args) w := enters_of Try.func129 (by kernel_rfl) rfl
theorem aheadA_ct (l : (List Int)) (s : Int) (hd : ∀ p ∈ l, bitDom s p) : Ct 129 [.sv (.one (LS intT l)), .sv (.one (.ptr 0 0))] [.box [I s] 3 true] (fun (_ : Unit) => True) (fun _ => .sv (.one (B (!(l.any fun p => !(hasB s p)))))) := by
  refine (aheadA_walk l s (fun res_ => res_ = (!(l.any fun p => !(hasB s p)))) ?_).fun
  exact fun _ => ⟨hd, rfl⟩
def ahead_vc (x : ApiAlter) (s : Int) (a : Int) (Q : Int → Prop) : Prop :=
  x.fNext.length ≤ 9223372036854775807 →
  x.fMark.length ≤ 9223372036854775807 →
  (∃ (Inv : Int → Int → Prop) (mu : Int → Int → Nat), Inv 0 0 ∧
  ∀ (x7 : Int) (x13 : Int) , Inv x7 x13 → (IfP (decide (x13 < (x.fNext.length : Int))) (∃ J : Int → Prop, (∃ e, idx x.fNext x13 = some e ∧
  ∃ e_2, idx e a = some e_2 ∧
  (∀ x_ ∈ e_2, (fun l => ∀ p ∈ l, bitDom s p) x_) ∧
  IfP (e_2.any (fun l => !(l.any fun p => !(hasB s p)))) ((0 ≤ x13) ∧
  J (bitsI .or .i64 x7 (wr (1 * (2 ^ (min (x13).toNat 64)))))) (J x7)) ∧
  (∀ (x7_2 : Int), J x7_2 → (Inv x7_2 (wr (x13 + 1)) ∧ mu x7_2 (wr (x13 + 1)) < mu x7 x13))) (Q x7)))
theorem ahead_walk (x : ApiAlter) (s : Int) (a : Int) (Q : Int → Prop) (h : ahead_vc x s a Q) : Ct 74 [.sv (.agg [I x.fLetters, I x.fStart, LS (lsT (lsT (lsT intT))) x.fNext, LS intT x.fMark]), .sv (.one (I s)), .sv (.one (I a))] [] Q (fun (r : Int) => .sv (.one (I r))) := by
  have ht := tab_ok
  refine Ct.body Try.func74 rfl rfl rfl rfl (fun c hn => ?_)
  unfold ahead_vc at h
  refine En.lenA 0 2 (by rfl) (by rfl) (fun hl => ?_)
  replace h := h hl
  clear hl
  refine En.lenA 0 3 (by rfl) (by rfl) (fun hl => ?_)
  replace h := h hl
  clear hl
  refine En.seq ?_
  refine En.region ?_
  refine WL.run ht hn 3 ⟨[(2, .sv (.one (I a))), (3, .sv (.one (.ptr 0 0))), (4, .sv (.one (.ptr 1 0)))], [.box [I x.fLetters, I x.fStart, LS (lsT (lsT (lsT intT))) x.fNext, LS intT x.fMark] 77 false, .box [I s] 3 false]⟩ (by kernel_rfl) ?_
  refine WL.nil ?_
  refine En.seq ?_
  refine En.region ?_
  refine WL.run ht hn 1 ⟨[(2, .sv (.one (I a))), (3, .sv (.one (.ptr 0 0))), (4, .sv (.one (.ptr 1 0))), (7, .sv (.one (I 0)))], [.box [I x.fLetters, I x.fStart, LS (lsT (lsT (lsT intT))) x.fNext, LS intT x.fMark] 77 false, .box [I s] 3 false]⟩ (by kernel_rfl) ?_
  refine WL.nil ?_
  refine En.seq ?_
  refine En.seq ?_
  refine En.region ?_
  refine WL.run ht hn 4 ⟨[(2, .sv (.one (I a))), (4, .sv (.one (.ptr 1 0))), (7, .sv (.one (I 0))), (11, .sv (.one (LS (lsT (lsT (lsT intT))) x.fNext))), (12, .sv (.one (I (x.fNext.length : Int)))), (13, .sv (.one (I 0)))], [.gone, .box [I s] 3 false]⟩ (by kernel_rfl) ?_
  refine WL.nil ?_
  refine En.block ?_
  obtain ⟨Inv, mu, h0, hI⟩ := h
  refine En.loop (σ := Int × Int) (fun zz => Inv zz.1 zz.2) (fun zz => mu zz.1 zz.2) (fun zz => ⟨[(2, .sv (.one (I a))), (4, .sv (.one (.ptr 1 0))), (7, .sv (.one (I zz.1))), (11, .sv (.one (LS (lsT (lsT (lsT intT))) x.fNext))), (12, .sv (.one (I (x.fNext.length : Int)))), (13, .sv (.one (I zz.2)))], [.gone, .box [I s] 3 false]⟩) (0, 0) h0 (sub_ok (by kernel_rfl)) ?_
  rintro ⟨x7, x13⟩ h
  replace h := hI _ _ h
  show En c ⟨[(2, .sv (.one (I a))), (4, .sv (.one (.ptr 1 0))), (7, .sv (.one (I x7))), (11, .sv (.one (LS (lsT (lsT (lsT intT))) x.fNext))), (12, .sv (.one (I (x.fNext.length : Int)))), (13, .sv (.one (I x13)))], [.gone, .box [I s] 3 false]⟩ _
  refine En.seq ?_
  refine En.region ?_
  refine WL.run ht hn 1 ⟨[(2, .sv (.one (I a))), (4, .sv (.one (.ptr 1 0))), (7, .sv (.one (I x7))), (11, .sv (.one (LS (lsT (lsT (lsT intT))) x.fNext))), (12, .sv (.one (I (x.fNext.length : Int)))), (13, .sv (.one (I x13))), (14, .sv (.one (B (decide (x13 < (x.fNext.length : Int))))))], [.gone, .box [I s] 3 false]⟩ (by kernel_rfl) ?_
  refine WL.nil ?_
  refine En.seq ?_
  refine En.cond (b := (decide (x13 < (x.fNext.length : Int)))) (by kernel_rfl) (fun hb => ?_) (fun hb => ?_)
  · replace h := h.1 hb
    refine En.skip ?_
    obtain ⟨J, h, hJ⟩ := h
    refine En.seqJ (σ := Int) (fun zz => J zz) (fun zz => ⟨[(2, .sv (.one (I a))), (4, .sv (.one (.ptr 1 0))), (7, .sv (.one (I zz))), (11, .sv (.one (LS (lsT (lsT (lsT intT))) x.fNext))), (12, .sv (.one (I (x.fNext.length : Int)))), (13, .sv (.one (I x13)))], [.gone, .box [I s] 3 false]⟩) ?_ ?_
    · refine En.block ?_
      refine En.seq ?_
      refine En.region ?_
      refine WL.run ht hn 1 ⟨[(2, .sv (.one (I a))), (4, .sv (.one (.ptr 1 0))), (7, .sv (.one (I x7))), (11, .sv (.one (LS (lsT (lsT (lsT intT))) x.fNext))), (12, .sv (.one (I (x.fNext.length : Int)))), (13, .sv (.one (I x13))), (15, .sv (.one (I x13)))], [.gone, .box [I s] 3 false]⟩ (by kernel_rfl) ?_
      obtain ⟨e, he, h⟩ := h
      refine WL.val hn (by rfl) (val_index (T := (lsT (lsT (lsT intT)))) (l := x.fNext) (i := x13) ht rfl (by rfl) (by rfl) (by rfl) (by rfl) (by rfl) (by rfl) he) (by rfl) ?_
      refine WL.val hn (by rfl) (val_load (s := .one (LS (lsT (lsT intT)) e)) ht rfl (by rfl) (by rfl) (by rfl) (by rfl) (by rfl)) (by rfl) ?_
      refine WL.run ht hn 2 ⟨[(2, .sv (.one (I a))), (4, .sv (.one (.ptr 1 0))), (7, .sv (.one (I x7))), (8, .sv (.one (I x13))), (9, .sv (.one (LS (lsT (lsT intT)) e))), (11, .sv (.one (LS (lsT (lsT (lsT intT))) x.fNext))), (12, .sv (.one (I (x.fNext.length : Int)))), (13, .sv (.one (I x13)))], [.gone, .box [I s] 3 false]⟩ (by kernel_rfl) ?_
      refine WL.nil ?_
      refine En.seq ?_
      refine En.region ?_
      refine WL.run ht hn 2 ⟨[(2, .sv (.one (I a))), (4, .sv (.one (.ptr 1 0))), (7, .sv (.one (I x7))), (8, .sv (.one (I x13))), (11, .sv (.one (LS (lsT (lsT (lsT intT))) x.fNext))), (12, .sv (.one (I (x.fNext.length : Int)))), (13, .sv (.one (I x13))), (18, .sv (.one (LS (lsT (lsT intT)) e))), (19, .sv (.one (I a)))], [.gone, .box [I s] 3 false]⟩ (by kernel_rfl) ?_
      obtain ⟨e_2, he_2, h⟩ := h
      refine WL.val hn (by rfl) (val_index (T := (lsT (lsT intT))) (l := e) (i := a) ht rfl (by rfl) (by rfl) (by rfl) (by rfl) (by rfl) (by rfl) he_2) (by rfl) ?_
      refine WL.val hn (by rfl) (val_load (s := .one (LS (lsT intT) e_2)) ht rfl (by rfl) (by rfl) (by rfl) (by rfl) (by rfl)) (by rfl) ?_
      refine WL.run ht hn 1 ⟨[(2, .sv (.one (I a))), (4, .sv (.one (.ptr 1 0))), (7, .sv (.one (I x7))), (8, .sv (.one (I x13))), (11, .sv (.one (LS (lsT (lsT (lsT intT))) x.fNext))), (12, .sv (.one (I (x.fNext.length : Int)))), (13, .sv (.one (I x13))), (21, .sv (.one (LS (lsT intT) e_2))), (22, .sv (.one (.fn 129 [1])))], [.gone, .box [I s] 3 false]⟩ (by kernel_rfl) ?_
      have hp := h.1
      replace h := h.2
      refine WL.mt0 (K := []) (p := none) hn (by rfl) (mt_lendF [1] (by rfl) (by rfl) (mt_ghost 22 (.sv (.one (.rd (fvR (fun (x_ : (List Int)) => [.sv (.one (LS intT x_))]) (fun (r : Bool) => .sv (.one (B r))) (fun l => ∀ p ∈ l, bitDom s p) (fun l => !(l.any fun p => !(hasB s p))))))) (by rfl) (fv_of (M := [.box [I s] 3 true]) (caps := [1]) (fun x_ hx => aheadA_ct x_ s hx) en129 rfl (by kernel_rfl) (by rfl) (fun _ => rfl)) (mt_call (anyLInt_ct e_2 (fun l => ∀ p ∈ l, bitDom s p) (fun l => !(l.any fun p => !(hasB s p))) hp) en77 (caps := []) [] rfl (by rfl) (by kernel_rfl) (by kernel_rfl) (by rfl) (by rfl) (by rfl)))) (by rfl) (by rfl) (by rfl) ?_
      refine WL.nil ?_
      refine En.cond (b := (e_2.any (fun l => !(l.any fun p => !(hasB s p))))) (by kernel_rfl) (fun hb => ?_) (fun hb => ?_)
      · replace h := h.1 hb
        refine En.region ?_
        refine WL.run ht hn 2 ⟨[(2, .sv (.one (I a))), (4, .sv (.one (.ptr 1 0))), (11, .sv (.one (LS (lsT (lsT (lsT intT))) x.fNext))), (12, .sv (.one (I (x.fNext.length : Int)))), (13, .sv (.one (I x13))), (24, .sv (.one (I x7))), (25, .sv (.one (I x13)))], [.gone, .box [I s] 3 false]⟩ (by kernel_rfl) ?_
        have hz := h.1
        replace h := h.2
        refine WL.val hn (by rfl) (val_shift (u := 1) (v := x13) rfl (by rfl) (by rfl) hz (.inl ⟨rfl, rfl⟩)) (by rfl) ?_
        refine WL.run ht hn 2 ⟨[(2, .sv (.one (I a))), (4, .sv (.one (.ptr 1 0))), (7, .sv (.one (I (bitsI .or .i64 x7 (wr (1 * (2 ^ (min (x13).toNat 64)))))))), (11, .sv (.one (LS (lsT (lsT (lsT intT))) x.fNext))), (12, .sv (.one (I (x.fNext.length : Int)))), (13, .sv (.one (I x13)))], [.gone, .box [I s] 3 false]⟩ (by kernel_rfl) ?_
        refine WL.nil ?_
        exact En.at (I := fun zz => J zz) (T := fun zz => ⟨[(2, .sv (.one (I a))), (4, .sv (.one (.ptr 1 0))), (7, .sv (.one (I zz))), (11, .sv (.one (LS (lsT (lsT (lsT intT))) x.fNext))), (12, .sv (.one (I (x.fNext.length : Int)))), (13, .sv (.one (I x13)))], [.gone, .box [I s] 3 false]⟩) (bitsI .or .i64 x7 (wr (1 * (2 ^ (min (x13).toNat 64))))) h (by kernel_rfl)
      · replace h := h.2 hb
        refine En.skip ?_
        exact En.at (I := fun zz => J zz) (T := fun zz => ⟨[(2, .sv (.one (I a))), (4, .sv (.one (.ptr 1 0))), (7, .sv (.one (I zz))), (11, .sv (.one (LS (lsT (lsT (lsT intT))) x.fNext))), (12, .sv (.one (I (x.fNext.length : Int)))), (13, .sv (.one (I x13)))], [.gone, .box [I s] 3 false]⟩) x7 h (by kernel_rfl)
    · intro x7_2 h
      replace h := hJ _ h
      show En c ⟨[(2, .sv (.one (I a))), (4, .sv (.one (.ptr 1 0))), (7, .sv (.one (I x7_2))), (11, .sv (.one (LS (lsT (lsT (lsT intT))) x.fNext))), (12, .sv (.one (I (x.fNext.length : Int)))), (13, .sv (.one (I x13)))], [.gone, .box [I s] 3 false]⟩ _
      refine En.region ?_
      refine WL.run ht hn 2 ⟨[(2, .sv (.one (I a))), (4, .sv (.one (.ptr 1 0))), (7, .sv (.one (I x7_2))), (11, .sv (.one (LS (lsT (lsT (lsT intT))) x.fNext))), (12, .sv (.one (I (x.fNext.length : Int)))), (13, .sv (.one (I (wr (x13 + 1)))))], [.gone, .box [I s] 3 false]⟩ (by kernel_rfl) ?_
      refine WL.nil ?_
      exact En.at (I := fun zz => Inv zz.1 zz.2 ∧ mu zz.1 zz.2 < mu x7 x13) (T := fun zz => ⟨[(2, .sv (.one (I a))), (4, .sv (.one (.ptr 1 0))), (7, .sv (.one (I zz.1))), (11, .sv (.one (LS (lsT (lsT (lsT intT))) x.fNext))), (12, .sv (.one (I (x.fNext.length : Int)))), (13, .sv (.one (I zz.2)))], [.gone, .box [I s] 3 false]⟩) (x7_2, (wr (x13 + 1))) h (by kernel_rfl)
  · replace h := h.2 hb
    refine En.exit rfl ?_
    refine En.seq ?_
    refine En.region ?_
    refine WL.run ht hn 2 ⟨[(6, .sv (.one (I x7)))], [.gone, .gone]⟩ (by kernel_rfl) ?_
    refine WL.nil ?_
    refine En.ret ?_
    exact En.back ht x7 h (by kernel_rfl) rfl
theorem en74 : ∀ args w, (callFunc 74 args).run Try.prog w = .ok (.enter 74 args) w := enters_of Try.func74 (by kernel_rfl) rfl
theorem ahead_ct (x : ApiAlter) (s : Int) (a : Int) (hd : AltOk x ∧ setDom s ∧ 0 ≤ a ∧ a < x.fLetters) : Ct 74 [.sv (.agg [I x.fLetters, I x.fStart, LS (lsT (lsT (lsT intT))) x.fNext, LS intT x.fMark]), .sv (.one (I s)), .sv (.one (I a))] [] (fun (_ : Unit) => True) (fun _ => .sv (.one (I (altAhead x s a)))) := by
  refine (ahead_walk x s a (fun res_ => res_ = (altAhead x s a)) ?_).fun
  intro _ _
  obtain ⟨hx, hs, ha0, ha1⟩ := hd
  have hn := hx.size
  refine ⟨fun t i => ∃ k : Nat, i = k ∧ k ≤ x.fNext.length ∧ t = (maskOf (accB x s a) k : Int), fun _ i => x.fNext.length - i.toNat, ⟨0, rfl, Nat.zero_le _, rfl⟩, ?_⟩
  rintro t i ⟨k, rfl, hk, rfl⟩
  refine ⟨fun hb => ?_, fun hb => ?_⟩
  · have hlt := dlt hb
    have hmem : x.fNext[k] ∈ x.fNext := List.getElem_mem hlt
    have hr := hx.rows _ hmem
    have hg : x.fNext.getD k [] = x.fNext[k] := by rw [List.getD_eq_getElem?_getD, List.getElem?_eq_getElem hlt]; rfl
    have hacc : accB x s a k = (x.fNext[k].getD a.toNat []).any fun l => !(l.any fun p => !(hasB s p)) := by unfold accB; rw [hg]
    have hlm : x.fNext[k].getD a.toNat [] ∈ x.fNext[k] := getD_mem (by omega)
    refine ⟨fun t => t = (maskOf (accB x s a) (k + 1) : Int), ⟨_, idx_at hlt, _, idx_of [] ha0 (by omega), fun l hl p hp => ⟨hs, ?_⟩, fun h => ⟨by omega, ?_⟩, fun h => ?_⟩, ?_⟩
    · have := hx.in_ _ hmem _ hlm _ hl p hp
      omega
    · rw [Int.toNat_natCast]
      exact mask_or (by omega) (by rw [hacc]; exact h)
    · rw [mask_no (by rw [hacc]; exact h)]
    · rintro t rfl
      exact ⟨⟨k + 1, wsucc (by omega), hlt, rfl⟩, mu_up hlt (by omega)⟩
  · have : k = x.fNext.length := by have := dge hb; omega
    subst this
    rfl
end Go.Proofs.Ytfpdnigihjmohaa

