/- Lemmas towards the statement: mirrors of functions, and plain laws. No condition. -/
import Derived.Test.YtfpdnigihjmohaaPackAlterTwice5

/- The mirrors of package alter: Det, Other. No condition. -/
namespace Go.Proofs.Ytfpdnigihjmohaa
open Go.RowKit Go.MapKept
set_option linter.unusedSimpArgs false
set_option linter.unusedVariables false
set_option maxRecDepth 100000

def goodDom (g : Int) : Prop := 0 ≤ g ∧ g < 65536
def altGo (x : ApiAlter) (good a : Int) : Int := (maskOf (fun s => hasB good (altAhead x (s : Int) a)) 16 : Int)
def altMk (last g : Int) : Int := if hasB g last then 1 else 0
theorem good_mask (f : Nat → Bool) : goodDom (maskOf f 16 : Int) := by
  have := maskOf_lt f 16
  unfold goodDom
  omega
def altGo_vc (good : Int) (a : Int) (x : ApiAlter) (Q : Int → Prop) : Prop :=
  ∃ (Inv : Int → Int → Prop) (mu : Int → Int → Nat), Inv 0 0 ∧
  ∀ (x6 : Int) (x8 : Int) , Inv x6 x8 → (IfP (decide (x8 < 16)) (∃ J : Int → Prop, ((AltOk x ∧ setDom x8 ∧ 0 ≤ a ∧ a < (x).fLetters) ∧
  (0 ≤ (altAhead x x8 a)) ∧
  IfP ((bitsI .and .i64 (Int.fdiv good (2 ^ (min ((altAhead x x8 a)).toNat 64))) 1) == 1) ((0 ≤ x8) ∧
  J (bitsI .or .i64 x6 (wr (1 * (2 ^ (min (x8).toNat 64)))))) (J x6)) ∧
  (∀ (x6_2 : Int), J x6_2 → (Inv x6_2 (wr (x8 + 1)) ∧ mu x6_2 (wr (x8 + 1)) < mu x6 x8))) (Q x6))
theorem altGo_walk (good : Int) (a : Int) (x : ApiAlter) (Q : Int → Prop) (h : altGo_vc good a x Q) : Ct 73 [.sv (.one (I good)), .sv (.one (I a)), .sv (.one (.ptr 0 0))] [.box [I x.fLetters, I x.fStart, LS (lsT (lsT (lsT intT))) x.fNext, LS intT x.fMark] 77 true] Q (fun (r : Int) => .sv (.one (I r))) := by
  have ht := tab_ok
  refine Ct.body Try.func73 rfl rfl rfl rfl (fun c hn => ?_)
  unfold altGo_vc at h
  refine En.seq ?_
  refine En.region ?_
  refine WL.run ht hn 1 ⟨[(0, .sv (.one (I good))), (1, .sv (.one (I a))), (2, .sv (.one (.ptr 0 0)))], [.box [I x.fLetters, I x.fStart, LS (lsT (lsT (lsT intT))) x.fNext, LS intT x.fMark] 77 true]⟩ (by kernel_rfl) ?_
  refine WL.nil ?_
  refine En.seq ?_
  refine En.region ?_
  refine WL.run ht hn 1 ⟨[(0, .sv (.one (I good))), (1, .sv (.one (I a))), (2, .sv (.one (.ptr 0 0))), (6, .sv (.one (I 0)))], [.box [I x.fLetters, I x.fStart, LS (lsT (lsT (lsT intT))) x.fNext, LS intT x.fMark] 77 true]⟩ (by kernel_rfl) ?_
  refine WL.nil ?_
  refine En.seq ?_
  refine En.seq ?_
  refine En.region ?_
  refine WL.run ht hn 1 ⟨[(0, .sv (.one (I good))), (1, .sv (.one (I a))), (2, .sv (.one (.ptr 0 0))), (6, .sv (.one (I 0))), (8, .sv (.one (I 0)))], [.box [I x.fLetters, I x.fStart, LS (lsT (lsT (lsT intT))) x.fNext, LS intT x.fMark] 77 true]⟩ (by kernel_rfl) ?_
  refine WL.nil ?_
  refine En.block ?_
  obtain ⟨Inv, mu, h0, hI⟩ := h
  refine En.loop (σ := Int × Int) (fun zz => Inv zz.1 zz.2) (fun zz => mu zz.1 zz.2) (fun zz => ⟨[(0, .sv (.one (I good))), (1, .sv (.one (I a))), (2, .sv (.one (.ptr 0 0))), (6, .sv (.one (I zz.1))), (8, .sv (.one (I zz.2)))], [.box [I x.fLetters, I x.fStart, LS (lsT (lsT (lsT intT))) x.fNext, LS intT x.fMark] 77 true]⟩) (0, 0) h0 (sub_ok (by kernel_rfl)) ?_
  rintro ⟨x6, x8⟩ h
  replace h := hI _ _ h
  show En c ⟨[(0, .sv (.one (I good))), (1, .sv (.one (I a))), (2, .sv (.one (.ptr 0 0))), (6, .sv (.one (I x6))), (8, .sv (.one (I x8)))], [.box [I x.fLetters, I x.fStart, LS (lsT (lsT (lsT intT))) x.fNext, LS intT x.fMark] 77 true]⟩ _
  refine En.seq ?_
  refine En.region ?_
  refine WL.run ht hn 1 ⟨[(0, .sv (.one (I good))), (1, .sv (.one (I a))), (2, .sv (.one (.ptr 0 0))), (6, .sv (.one (I x6))), (8, .sv (.one (I x8))), (9, .sv (.one (B (decide (x8 < 16)))))], [.box [I x.fLetters, I x.fStart, LS (lsT (lsT (lsT intT))) x.fNext, LS intT x.fMark] 77 true]⟩ (by kernel_rfl) ?_
  refine WL.nil ?_
  refine En.seq ?_
  refine En.cond (b := (decide (x8 < 16))) (by kernel_rfl) (fun hb => ?_) (fun hb => ?_)
  · replace h := h.1 hb
    refine En.skip ?_
    obtain ⟨J, h, hJ⟩ := h
    refine En.seqJ (σ := Int) (fun zz => J zz) (fun zz => ⟨[(0, .sv (.one (I good))), (1, .sv (.one (I a))), (2, .sv (.one (.ptr 0 0))), (6, .sv (.one (I zz))), (8, .sv (.one (I x8)))], [.box [I x.fLetters, I x.fStart, LS (lsT (lsT (lsT intT))) x.fNext, LS intT x.fMark] 77 true]⟩) ?_ ?_
    · refine En.block ?_
      refine En.seq ?_
      refine En.region ?_
      refine WL.run ht hn 2 ⟨[(0, .sv (.one (I good))), (1, .sv (.one (I a))), (2, .sv (.one (.ptr 0 0))), (6, .sv (.one (I x6))), (7, .sv (.one (I x8))), (8, .sv (.one (I x8)))], [.box [I x.fLetters, I x.fStart, LS (lsT (lsT (lsT intT))) x.fNext, LS intT x.fMark] 77 true]⟩ (by kernel_rfl) ?_
      refine WL.nil ?_
      refine En.seq ?_
      refine En.region ?_
      refine WL.run ht hn 4 ⟨[(0, .sv (.one (I good))), (1, .sv (.one (I a))), (2, .sv (.one (.ptr 0 0))), (6, .sv (.one (I x6))), (7, .sv (.one (I x8))), (8, .sv (.one (I x8))), (11, .sv (.one (I good))), (12, .sv (.agg [I x.fLetters, I x.fStart, LS (lsT (lsT (lsT intT))) x.fNext, LS intT x.fMark])), (13, .sv (.one (I x8))), (14, .sv (.one (I a)))], [.box [I x.fLetters, I x.fStart, LS (lsT (lsT (lsT intT))) x.fNext, LS intT x.fMark] 77 true]⟩ (by kernel_rfl) ?_
      have hp := h.1
      replace h := h.2
      refine WL.mt0 (K := []) (p := none) hn (by rfl) (mt_call (ahead_ct x x8 a hp) en74 (caps := []) [] rfl (by rfl) (by kernel_rfl) (by kernel_rfl) (by rfl) (by rfl) (by rfl)) (by rfl) (by rfl) (by rfl) ?_
      have hz := h.1
      replace h := h.2
      refine WL.val hn (by rfl) (val_shift (u := good) (v := (altAhead x x8 a)) rfl (by rfl) (by rfl) hz (.inr ⟨rfl, rfl⟩)) (by rfl) ?_
      refine WL.run ht hn 2 ⟨[(0, .sv (.one (I good))), (1, .sv (.one (I a))), (2, .sv (.one (.ptr 0 0))), (6, .sv (.one (I x6))), (7, .sv (.one (I x8))), (8, .sv (.one (I x8))), (18, .sv (.one (B ((bitsI .and .i64 (Int.fdiv good (2 ^ (min ((altAhead x x8 a)).toNat 64))) 1) == 1))))], [.box [I x.fLetters, I x.fStart, LS (lsT (lsT (lsT intT))) x.fNext, LS intT x.fMark] 77 true]⟩ (by kernel_rfl) ?_
      refine WL.nil ?_
      refine En.cond (b := ((bitsI .and .i64 (Int.fdiv good (2 ^ (min ((altAhead x x8 a)).toNat 64))) 1) == 1)) (by kernel_rfl) (fun hb => ?_) (fun hb => ?_)
      · replace h := h.1 hb
        refine En.region ?_
        refine WL.run ht hn 2 ⟨[(0, .sv (.one (I good))), (1, .sv (.one (I a))), (2, .sv (.one (.ptr 0 0))), (8, .sv (.one (I x8))), (19, .sv (.one (I x6))), (20, .sv (.one (I x8)))], [.box [I x.fLetters, I x.fStart, LS (lsT (lsT (lsT intT))) x.fNext, LS intT x.fMark] 77 true]⟩ (by kernel_rfl) ?_
        have hz_2 := h.1
        replace h := h.2
        refine WL.val hn (by rfl) (val_shift (u := 1) (v := x8) rfl (by rfl) (by rfl) hz_2 (.inl ⟨rfl, rfl⟩)) (by rfl) ?_
        refine WL.run ht hn 2 ⟨[(0, .sv (.one (I good))), (1, .sv (.one (I a))), (2, .sv (.one (.ptr 0 0))), (6, .sv (.one (I (bitsI .or .i64 x6 (wr (1 * (2 ^ (min (x8).toNat 64)))))))), (8, .sv (.one (I x8)))], [.box [I x.fLetters, I x.fStart, LS (lsT (lsT (lsT intT))) x.fNext, LS intT x.fMark] 77 true]⟩ (by kernel_rfl) ?_
        refine WL.nil ?_
        exact En.at (I := fun zz => J zz) (T := fun zz => ⟨[(0, .sv (.one (I good))), (1, .sv (.one (I a))), (2, .sv (.one (.ptr 0 0))), (6, .sv (.one (I zz))), (8, .sv (.one (I x8)))], [.box [I x.fLetters, I x.fStart, LS (lsT (lsT (lsT intT))) x.fNext, LS intT x.fMark] 77 true]⟩) (bitsI .or .i64 x6 (wr (1 * (2 ^ (min (x8).toNat 64))))) h (by kernel_rfl)
      · replace h := h.2 hb
        refine En.skip ?_
        exact En.at (I := fun zz => J zz) (T := fun zz => ⟨[(0, .sv (.one (I good))), (1, .sv (.one (I a))), (2, .sv (.one (.ptr 0 0))), (6, .sv (.one (I zz))), (8, .sv (.one (I x8)))], [.box [I x.fLetters, I x.fStart, LS (lsT (lsT (lsT intT))) x.fNext, LS intT x.fMark] 77 true]⟩) x6 h (by kernel_rfl)
    · intro x6_2 h
      replace h := hJ _ h
      show En c ⟨[(0, .sv (.one (I good))), (1, .sv (.one (I a))), (2, .sv (.one (.ptr 0 0))), (6, .sv (.one (I x6_2))), (8, .sv (.one (I x8)))], [.box [I x.fLetters, I x.fStart, LS (lsT (lsT (lsT intT))) x.fNext, LS intT x.fMark] 77 true]⟩ _
      refine En.region ?_
      refine WL.run ht hn 2 ⟨[(0, .sv (.one (I good))), (1, .sv (.one (I a))), (2, .sv (.one (.ptr 0 0))), (6, .sv (.one (I x6_2))), (8, .sv (.one (I (wr (x8 + 1)))))], [.box [I x.fLetters, I x.fStart, LS (lsT (lsT (lsT intT))) x.fNext, LS intT x.fMark] 77 true]⟩ (by kernel_rfl) ?_
      refine WL.nil ?_
      exact En.at (I := fun zz => Inv zz.1 zz.2 ∧ mu zz.1 zz.2 < mu x6 x8) (T := fun zz => ⟨[(0, .sv (.one (I good))), (1, .sv (.one (I a))), (2, .sv (.one (.ptr 0 0))), (6, .sv (.one (I zz.1))), (8, .sv (.one (I zz.2)))], [.box [I x.fLetters, I x.fStart, LS (lsT (lsT (lsT intT))) x.fNext, LS intT x.fMark] 77 true]⟩) (x6_2, (wr (x8 + 1))) h (by kernel_rfl)
  · replace h := h.2 hb
    refine En.exit rfl ?_
    refine En.seq ?_
    refine En.region ?_
    refine WL.run ht hn 2 ⟨[(5, .sv (.one (I x6)))], [.gone]⟩ (by kernel_rfl) ?_
    refine WL.nil ?_
    refine En.ret ?_
    exact En.back ht x6 h (by kernel_rfl) rfl
theorem en73 : ∀ args w, (callFunc 73 args).run Try.prog w = .ok (.enter 73 args) w := enters_of Try.func73 (by kernel_rfl) rfl
def altMark_vc (good : Int) (last : Int) (Q : Int → Prop) : Prop :=
  (0 ≤ last) ∧
  Q (bitsI .and .i64 (Int.fdiv good (2 ^ (min (last).toNat 64))) 1)
theorem altMark_walk (good : Int) (last : Int) (Q : Int → Prop) (h : altMark_vc good last Q) : Ct 75 [.sv (.one (I good)), .sv (.one (.ptr 0 0))] [.box [I last] 3 true] Q (fun (r : Int) => .sv (.one (I r))) := by
  have ht := tab_ok
  refine Ct.body Try.func75 rfl rfl rfl rfl (fun c hn => ?_)
  unfold altMark_vc at h
  refine En.seq ?_
  refine En.region ?_
  refine WL.run ht hn 1 ⟨[(0, .sv (.one (I good))), (1, .sv (.one (.ptr 0 0)))], [.box [I last] 3 true]⟩ (by kernel_rfl) ?_
  refine WL.nil ?_
  refine En.seq ?_
  refine En.region ?_
  refine WL.run ht hn 2 ⟨[(4, .sv (.one (I good))), (5, .sv (.one (I last)))], [.gone]⟩ (by kernel_rfl) ?_
  have hz := h.1
  replace h := h.2
  refine WL.val hn (by rfl) (val_shift (u := good) (v := last) rfl (by rfl) (by rfl) hz (.inr ⟨rfl, rfl⟩)) (by rfl) ?_
  refine WL.run ht hn 2 ⟨[(3, .sv (.one (I (bitsI .and .i64 (Int.fdiv good (2 ^ (min (last).toNat 64))) 1))))], [.gone]⟩ (by kernel_rfl) ?_
  refine WL.nil ?_
  refine En.ret ?_
  exact En.back ht (bitsI .and .i64 (Int.fdiv good (2 ^ (min (last).toNat 64))) 1) h (by kernel_rfl) rfl
theorem en75 : ∀ args w, (callFunc 75 args).run Try.prog w = .ok (.enter 75 args) w := enters_of Try.func75 (by kernel_rfl) rfl
theorem altGo_ct (good : Int) (a : Int) (x : ApiAlter) (hd : AltOk x ∧ goodDom good ∧ 0 ≤ a ∧ a < x.fLetters) : Ct 73 [.sv (.one (I good)), .sv (.one (I a)), .sv (.one (.ptr 0 0))] [.box [I x.fLetters, I x.fStart, LS (lsT (lsT (lsT intT))) x.fNext, LS intT x.fMark] 77 true] (fun (_ : Unit) => True) (fun _ => .sv (.one (I (altGo x good a)))) := by
  refine (altGo_walk good a x (fun res_ => res_ = (altGo x good a)) ?_).fun
  obtain ⟨hx, hg, ha0, ha1⟩ := hd
  refine ⟨fun t i => ∃ k : Nat, i = k ∧ k ≤ 16 ∧ t = (maskOf (fun s => hasB good (altAhead x (s : Int) a)) k : Int), fun _ i => 16 - i.toNat, ⟨0, rfl, Nat.zero_le _, rfl⟩, ?_⟩
  rintro t i ⟨k, rfl, hk, rfl⟩
  refine ⟨fun hb => ?_, fun hb => ?_⟩
  · have hlt := dlt (n := 16) hb
    have hin := altAhead_in hx (k : Int) a
    have hbit := btestI (s := good) (p := altAhead x (k : Int) a) (by unfold goodDom at hg; omega) (by unfold setDom at hin; omega)
    refine ⟨fun t => t = (maskOf (fun s => hasB good (altAhead x (s : Int) a)) (k + 1) : Int), ⟨⟨hx, by unfold setDom; omega, ha0, ha1⟩, hin.1, fun h => ⟨by omega, ?_⟩, fun h => ?_⟩, ?_⟩
    · rw [hbit] at h
      rw [Int.toNat_natCast]
      exact mask_or (by omega) (by cases hh : hasB good (altAhead x (k : Int) a) <;> simp [hh] at h ⊢)
    · rw [hbit] at h
      rw [mask_no (by cases hh : hasB good (altAhead x (k : Int) a) <;> simp [hh] at h ⊢)]
    · rintro t rfl
      exact ⟨⟨k + 1, wsucc (by omega), hlt, rfl⟩, mu_up hlt (by omega)⟩
  · have : k = 16 := by have := dge (n := 16) hb; omega
    subst this
    rfl
theorem altMark_ct (good : Int) (last : Int) (hd : goodDom good ∧ setDom last) : Ct 75 [.sv (.one (I good)), .sv (.one (.ptr 0 0))] [.box [I last] 3 true] (fun (_ : Unit) => True) (fun _ => .sv (.one (I (altMk last good)))) := by
  refine (altMark_walk good last (fun res_ => res_ = (altMk last good)) ?_).fun
  exact ⟨hd.2.1, btestI (by have := hd.1; unfold goodDom at this; omega) (by have := hd.2; unfold setDom at this; omega)⟩
def altDet_vc (x : ApiAlter) (Q : (ApiDet × Int) → Prop) : Prop :=
  x.fNext.length ≤ 9223372036854775807 →
  x.fMark.length ≤ 9223372036854775807 →
  (IfP ((altErr x) != 0) (Q ((ApiDet.mk 0 0 [] ([] : (List Int))), (altErr x))) (∃ (Inv : Int → Int → Prop) (mu : Int → Int → Nat), Inv 0 0 ∧
  ∀ (x5 : Int) (x16 : Int) , Inv x5 x16 → (IfP (decide (x16 < 16)) (∃ J : Int → Prop, ((0 ≤ x.fStart) ∧
  IfP ((bitsI .and .i64 (Int.fdiv x16 (2 ^ (min (x.fStart).toNat 64))) 1) == 1) ((0 ≤ x16) ∧
  J (bitsI .or .i64 x5 (wr (1 * (2 ^ (min (x16).toNat 64)))))) (J x5)) ∧
  (∀ (x5_2 : Int), J x5_2 → (Inv x5_2 (wr (x16 + 1)) ∧ mu x5_2 (wr (x16 + 1)) < mu x5 x16))) ((AltOk x) ∧
  (ExplPre x.fLetters x5 (fun (y : Int × Int) => AltOk x ∧ goodDom y.1 ∧ 0 ≤ y.2 ∧ y.2 < (x).fLetters) (fun (y : Int × Int) => altGo x y.1 y.2) (fun g => goodDom g ∧ setDom (altEnd x)) 131072) ∧
  (ClsOk (explR (fun k (a : Nat) => (fun (y : Int × Int) => altGo x y.1 y.2) (k, (a : Int))) (fun g => altMk (altEnd x) g) (x.fLetters).toNat x5 131072).1) ∧
  IfP ((!(explR (fun k (a : Nat) => (fun (y : Int × Int) => altGo x y.1 y.2) (k, (a : Int))) (fun g => altMk (altEnd x) g) (x.fLetters).toNat x5 131072).2) || (decide (((canon ((explR (fun k (a : Nat) => (fun (y : Int × Int) => altGo x y.1 y.2) (k, (a : Int))) (fun g => altMk (altEnd x) g) (x.fLetters).toNat x5 131072).1).fLetters.toNat (langD (explR (fun k (a : Nat) => (fun (y : Int × Int) => altGo x y.1 y.2) (k, (a : Int))) (fun g => altMk (altEnd x) g) (x.fLetters).toNat x5 131072).1 ((explR (fun k (a : Nat) => (fun (y : Int × Int) => altGo x y.1 y.2) (k, (a : Int))) (fun g => altMk (altEnd x) g) (x.fLetters).toNat x5 131072).1).fStart.toNat)).fNext.length : Int) > 3000))) (Q ((ApiDet.mk 0 0 [] ([] : (List Int))), 7)) (Q ((canon ((explR (fun k (a : Nat) => (fun (y : Int × Int) => altGo x y.1 y.2) (k, (a : Int))) (fun g => altMk (altEnd x) g) (x.fLetters).toNat x5 131072).1).fLetters.toNat (langD (explR (fun k (a : Nat) => (fun (y : Int × Int) => altGo x y.1 y.2) (k, (a : Int))) (fun g => altMk (altEnd x) g) (x.fLetters).toNat x5 131072).1 ((explR (fun k (a : Nat) => (fun (y : Int × Int) => altGo x y.1 y.2) (k, (a : Int))) (fun g => altMk (altEnd x) g) (x.fLetters).toNat x5 131072).1).fStart.toNat)), 0))))))
theorem altDet_walk (x : ApiAlter) (Q : (ApiDet × Int) → Prop) (h : altDet_vc x Q) : CtS 32 [.sv (.agg [I x.fLetters, I x.fStart, LS (lsT (lsT (lsT intT))) x.fNext, LS intT x.fMark])] [] Q (fun (r : (ApiDet × Int)) => .tup [.agg [I r.1.fLetters, I r.1.fStart, LS (lsT intT) r.1.fNext, .own 0], .one (I r.2)]) (fun (r : (ApiDet × Int)) => rowI 3 intT r.1.fMark) := by
  have ht := tab_ok
  refine CtS.body Try.func32 rfl rfl rfl rfl (fun c hn hmay => ?_)
  unfold altDet_vc at h
  refine En.lenA 0 2 (by rfl) (by rfl) (fun hl => ?_)
  replace h := h hl
  clear hl
  refine En.lenA 0 3 (by rfl) (by rfl) (fun hl => ?_)
  replace h := h hl
  clear hl
  refine En.seq ?_
  refine En.region ?_
  refine WL.run ht hn 3 ⟨[(1, .sv (.one (.ptr 0 0))), (2, .sv (.one (.ptr 1 0)))], [.box [I x.fLetters, I x.fStart, LS (lsT (lsT (lsT intT))) x.fNext, LS intT x.fMark] 77 false, .box [I 0, I 0, .v (.slice none 0 0), .v (.slice none 0 0)] 80 false]⟩ (by kernel_rfl) ?_
  refine WL.nil ?_
  refine En.seq ?_
  refine En.seq ?_
  refine En.region ?_
  refine WL.run ht hn 1 ⟨[(1, .sv (.one (.ptr 0 0))), (2, .sv (.one (.ptr 1 0))), (10, .sv (.agg [I x.fLetters, I x.fStart, LS (lsT (lsT (lsT intT))) x.fNext, LS intT x.fMark]))], [.box [I x.fLetters, I x.fStart, LS (lsT (lsT (lsT intT))) x.fNext, LS intT x.fMark] 77 false, .box [I 0, I 0, .v (.slice none 0 0), .v (.slice none 0 0)] 80 false]⟩ (by kernel_rfl) ?_
  refine WL.mt0 (K := []) (p := none) hn (by rfl) (mt_call (altCheck_ct x) en70 (caps := []) [] rfl (by rfl) (by kernel_rfl) (by kernel_rfl) (by rfl) (by rfl) (by rfl)) (by rfl) (by rfl) (by rfl) ?_
  refine WL.run ht hn 1 ⟨[(1, .sv (.one (.ptr 0 0))), (2, .sv (.one (.ptr 1 0))), (4, .sv (.one (I (altErr x))))], [.box [I x.fLetters, I x.fStart, LS (lsT (lsT (lsT intT))) x.fNext, LS intT x.fMark] 77 false, .box [I 0, I 0, .v (.slice none 0 0), .v (.slice none 0 0)] 80 false]⟩ (by kernel_rfl) ?_
  refine WL.nil ?_
  refine En.seq ?_
  refine En.region ?_
  refine WL.run ht hn 2 ⟨[(1, .sv (.one (.ptr 0 0))), (2, .sv (.one (.ptr 1 0))), (4, .sv (.one (I (altErr x)))), (13, .sv (.one (B ((altErr x) != 0))))], [.box [I x.fLetters, I x.fStart, LS (lsT (lsT (lsT intT))) x.fNext, LS intT x.fMark] 77 false, .box [I 0, I 0, .v (.slice none 0 0), .v (.slice none 0 0)] 80 false]⟩ (by kernel_rfl) ?_
  refine WL.nil ?_
  refine En.cond (b := ((altErr x) != 0)) (by kernel_rfl) (fun hb => ?_) (fun hb => ?_)
  · replace h := h.1 hb
    refine En.seq ?_
    refine En.region ?_
    refine WL.run ht hn 4 ⟨[(2, .sv (.one (.ptr 1 0))), (3, .sv (.one (I (altErr x))))], [.gone, .box [I 0, I 0, .v (.slice none 0 0), .v (.slice none 0 0)] 80 false]⟩ (by kernel_rfl) ?_
    refine WL.nil ?_
    refine En.ret ?_
    refine En.nilBoxO (T := intT) 1 3 2 3 (by rfl) (by rfl) (by rfl) (by rfl) ?_
    refine En.nilBox (T := (lsT intT)) 1 2 (by rfl) (by rfl) ?_
    exact En.backS ht 2 ((ApiDet.mk 0 0 [] ([] : (List Int))), (altErr x)) hmay h (by kernel_rfl) (by rfl) rfl rfl
  · replace h := h.2 hb
    refine En.skip ?_
    refine En.seq ?_
    refine En.region ?_
    refine WL.run ht hn 1 ⟨[(1, .sv (.one (.ptr 0 0))), (2, .sv (.one (.ptr 1 0))), (5, .sv (.one (I 0)))], [.box [I x.fLetters, I x.fStart, LS (lsT (lsT (lsT intT))) x.fNext, LS intT x.fMark] 77 false, .box [I 0, I 0, .v (.slice none 0 0), .v (.slice none 0 0)] 80 false]⟩ (by kernel_rfl) ?_
    refine WL.nil ?_
    refine En.seq ?_
    refine En.seq ?_
    refine En.region ?_
    refine WL.run ht hn 1 ⟨[(1, .sv (.one (.ptr 0 0))), (2, .sv (.one (.ptr 1 0))), (5, .sv (.one (I 0))), (16, .sv (.one (I 0)))], [.box [I x.fLetters, I x.fStart, LS (lsT (lsT (lsT intT))) x.fNext, LS intT x.fMark] 77 false, .box [I 0, I 0, .v (.slice none 0 0), .v (.slice none 0 0)] 80 false]⟩ (by kernel_rfl) ?_
    refine WL.nil ?_
    refine En.block ?_
    obtain ⟨Inv, mu, h0, hI⟩ := h
    refine En.loop (σ := Int × Int) (fun zz => Inv zz.1 zz.2) (fun zz => mu zz.1 zz.2) (fun zz => ⟨[(1, .sv (.one (.ptr 0 0))), (2, .sv (.one (.ptr 1 0))), (5, .sv (.one (I zz.1))), (16, .sv (.one (I zz.2)))], [.box [I x.fLetters, I x.fStart, LS (lsT (lsT (lsT intT))) x.fNext, LS intT x.fMark] 77 false, .box [I 0, I 0, .v (.slice none 0 0), .v (.slice none 0 0)] 80 false]⟩) (0, 0) h0 (sub_ok (by kernel_rfl)) ?_
    rintro ⟨x5, x16⟩ h
    replace h := hI _ _ h
    show En c ⟨[(1, .sv (.one (.ptr 0 0))), (2, .sv (.one (.ptr 1 0))), (5, .sv (.one (I x5))), (16, .sv (.one (I x16)))], [.box [I x.fLetters, I x.fStart, LS (lsT (lsT (lsT intT))) x.fNext, LS intT x.fMark] 77 false, .box [I 0, I 0, .v (.slice none 0 0), .v (.slice none 0 0)] 80 false]⟩ _
    refine En.seq ?_
    refine En.region ?_
    refine WL.run ht hn 1 ⟨[(1, .sv (.one (.ptr 0 0))), (2, .sv (.one (.ptr 1 0))), (5, .sv (.one (I x5))), (16, .sv (.one (I x16))), (17, .sv (.one (B (decide (x16 < 16)))))], [.box [I x.fLetters, I x.fStart, LS (lsT (lsT (lsT intT))) x.fNext, LS intT x.fMark] 77 false, .box [I 0, I 0, .v (.slice none 0 0), .v (.slice none 0 0)] 80 false]⟩ (by kernel_rfl) ?_
    refine WL.nil ?_
    refine En.seq ?_
    refine En.cond (b := (decide (x16 < 16))) (by kernel_rfl) (fun hb => ?_) (fun hb => ?_)
    · replace h := h.1 hb
      refine En.skip ?_
      obtain ⟨J, h, hJ⟩ := h
      refine En.seqJ (σ := Int) (fun zz => J zz) (fun zz => ⟨[(1, .sv (.one (.ptr 0 0))), (2, .sv (.one (.ptr 1 0))), (5, .sv (.one (I zz))), (16, .sv (.one (I x16)))], [.box [I x.fLetters, I x.fStart, LS (lsT (lsT (lsT intT))) x.fNext, LS intT x.fMark] 77 false, .box [I 0, I 0, .v (.slice none 0 0), .v (.slice none 0 0)] 80 false]⟩) ?_ ?_
      · refine En.block ?_
        refine En.seq ?_
        refine En.region ?_
        refine WL.run ht hn 2 ⟨[(1, .sv (.one (.ptr 0 0))), (2, .sv (.one (.ptr 1 0))), (5, .sv (.one (I x5))), (6, .sv (.one (I x16))), (16, .sv (.one (I x16)))], [.box [I x.fLetters, I x.fStart, LS (lsT (lsT (lsT intT))) x.fNext, LS intT x.fMark] 77 false, .box [I 0, I 0, .v (.slice none 0 0), .v (.slice none 0 0)] 80 false]⟩ (by kernel_rfl) ?_
        refine WL.nil ?_
        refine En.seq ?_
        refine En.region ?_
        refine WL.run ht hn 3 ⟨[(1, .sv (.one (.ptr 0 0))), (2, .sv (.one (.ptr 1 0))), (5, .sv (.one (I x5))), (6, .sv (.one (I x16))), (16, .sv (.one (I x16))), (19, .sv (.one (I x16))), (21, .sv (.one (I x.fStart)))], [.box [I x.fLetters, I x.fStart, LS (lsT (lsT (lsT intT))) x.fNext, LS intT x.fMark] 77 false, .box [I 0, I 0, .v (.slice none 0 0), .v (.slice none 0 0)] 80 false]⟩ (by kernel_rfl) ?_
        have hz := h.1
        replace h := h.2
        refine WL.val hn (by rfl) (val_shift (u := x16) (v := x.fStart) rfl (by rfl) (by rfl) hz (.inr ⟨rfl, rfl⟩)) (by rfl) ?_
        refine WL.run ht hn 2 ⟨[(1, .sv (.one (.ptr 0 0))), (2, .sv (.one (.ptr 1 0))), (5, .sv (.one (I x5))), (6, .sv (.one (I x16))), (16, .sv (.one (I x16))), (24, .sv (.one (B ((bitsI .and .i64 (Int.fdiv x16 (2 ^ (min (x.fStart).toNat 64))) 1) == 1))))], [.box [I x.fLetters, I x.fStart, LS (lsT (lsT (lsT intT))) x.fNext, LS intT x.fMark] 77 false, .box [I 0, I 0, .v (.slice none 0 0), .v (.slice none 0 0)] 80 false]⟩ (by kernel_rfl) ?_
        refine WL.nil ?_
        refine En.cond (b := ((bitsI .and .i64 (Int.fdiv x16 (2 ^ (min (x.fStart).toNat 64))) 1) == 1)) (by kernel_rfl) (fun hb => ?_) (fun hb => ?_)
        · replace h := h.1 hb
          refine En.region ?_
          refine WL.run ht hn 2 ⟨[(1, .sv (.one (.ptr 0 0))), (2, .sv (.one (.ptr 1 0))), (16, .sv (.one (I x16))), (25, .sv (.one (I x5))), (26, .sv (.one (I x16)))], [.box [I x.fLetters, I x.fStart, LS (lsT (lsT (lsT intT))) x.fNext, LS intT x.fMark] 77 false, .box [I 0, I 0, .v (.slice none 0 0), .v (.slice none 0 0)] 80 false]⟩ (by kernel_rfl) ?_
          have hz_2 := h.1
          replace h := h.2
          refine WL.val hn (by rfl) (val_shift (u := 1) (v := x16) rfl (by rfl) (by rfl) hz_2 (.inl ⟨rfl, rfl⟩)) (by rfl) ?_
          refine WL.run ht hn 2 ⟨[(1, .sv (.one (.ptr 0 0))), (2, .sv (.one (.ptr 1 0))), (5, .sv (.one (I (bitsI .or .i64 x5 (wr (1 * (2 ^ (min (x16).toNat 64)))))))), (16, .sv (.one (I x16)))], [.box [I x.fLetters, I x.fStart, LS (lsT (lsT (lsT intT))) x.fNext, LS intT x.fMark] 77 false, .box [I 0, I 0, .v (.slice none 0 0), .v (.slice none 0 0)] 80 false]⟩ (by kernel_rfl) ?_
          refine WL.nil ?_
          exact En.at (I := fun zz => J zz) (T := fun zz => ⟨[(1, .sv (.one (.ptr 0 0))), (2, .sv (.one (.ptr 1 0))), (5, .sv (.one (I zz))), (16, .sv (.one (I x16)))], [.box [I x.fLetters, I x.fStart, LS (lsT (lsT (lsT intT))) x.fNext, LS intT x.fMark] 77 false, .box [I 0, I 0, .v (.slice none 0 0), .v (.slice none 0 0)] 80 false]⟩) (bitsI .or .i64 x5 (wr (1 * (2 ^ (min (x16).toNat 64))))) h (by kernel_rfl)
        · replace h := h.2 hb
          refine En.skip ?_
          exact En.at (I := fun zz => J zz) (T := fun zz => ⟨[(1, .sv (.one (.ptr 0 0))), (2, .sv (.one (.ptr 1 0))), (5, .sv (.one (I zz))), (16, .sv (.one (I x16)))], [.box [I x.fLetters, I x.fStart, LS (lsT (lsT (lsT intT))) x.fNext, LS intT x.fMark] 77 false, .box [I 0, I 0, .v (.slice none 0 0), .v (.slice none 0 0)] 80 false]⟩) x5 h (by kernel_rfl)
      · intro x5_2 h
        replace h := hJ _ h
        show En c ⟨[(1, .sv (.one (.ptr 0 0))), (2, .sv (.one (.ptr 1 0))), (5, .sv (.one (I x5_2))), (16, .sv (.one (I x16)))], [.box [I x.fLetters, I x.fStart, LS (lsT (lsT (lsT intT))) x.fNext, LS intT x.fMark] 77 false, .box [I 0, I 0, .v (.slice none 0 0), .v (.slice none 0 0)] 80 false]⟩ _
        refine En.region ?_
        refine WL.run ht hn 2 ⟨[(1, .sv (.one (.ptr 0 0))), (2, .sv (.one (.ptr 1 0))), (5, .sv (.one (I x5_2))), (16, .sv (.one (I (wr (x16 + 1)))))], [.box [I x.fLetters, I x.fStart, LS (lsT (lsT (lsT intT))) x.fNext, LS intT x.fMark] 77 false, .box [I 0, I 0, .v (.slice none 0 0), .v (.slice none 0 0)] 80 false]⟩ (by kernel_rfl) ?_
        refine WL.nil ?_
        exact En.at (I := fun zz => Inv zz.1 zz.2 ∧ mu zz.1 zz.2 < mu x5 x16) (T := fun zz => ⟨[(1, .sv (.one (.ptr 0 0))), (2, .sv (.one (.ptr 1 0))), (5, .sv (.one (I zz.1))), (16, .sv (.one (I zz.2)))], [.box [I x.fLetters, I x.fStart, LS (lsT (lsT (lsT intT))) x.fNext, LS intT x.fMark] 77 false, .box [I 0, I 0, .v (.slice none 0 0), .v (.slice none 0 0)] 80 false]⟩) (x5_2, (wr (x16 + 1))) h (by kernel_rfl)
    · replace h := h.2 hb
      refine En.exit rfl ?_
      refine En.seq ?_
      refine En.region ?_
      refine WL.run ht hn 1 ⟨[(1, .sv (.one (.ptr 0 0))), (2, .sv (.one (.ptr 1 0))), (5, .sv (.one (I x5))), (30, .sv (.agg [I x.fLetters, I x.fStart, LS (lsT (lsT (lsT intT))) x.fNext, LS intT x.fMark]))], [.box [I x.fLetters, I x.fStart, LS (lsT (lsT (lsT intT))) x.fNext, LS intT x.fMark] 77 false, .box [I 0, I 0, .v (.slice none 0 0), .v (.slice none 0 0)] 80 false]⟩ (by kernel_rfl) ?_
      have hp := h.1
      replace h := h.2
      refine WL.mt0 (K := []) (p := none) hn (by rfl) (mt_call (altEnds_ct x hp) en71 (caps := []) [] rfl (by rfl) (by kernel_rfl) (by kernel_rfl) (by rfl) (by rfl) (by rfl)) (by rfl) (by rfl) (by rfl) ?_
      refine WL.run ht hn 2 ⟨[(1, .sv (.one (.ptr 0 0))), (2, .sv (.one (.ptr 1 0))), (5, .sv (.one (I x5))), (7, .sv (.one (.ptr 2 0)))], [.box [I x.fLetters, I x.fStart, LS (lsT (lsT (lsT intT))) x.fNext, LS intT x.fMark] 77 false, .box [I 0, I 0, .v (.slice none 0 0), .v (.slice none 0 0)] 80 false, .box [I (altEnd x)] 3 false]⟩ (by kernel_rfl) ?_
      refine WL.nil ?_
      refine En.seq ?_
      refine En.region ?_
      refine WL.run ht hn 5 ⟨[(2, .sv (.one (.ptr 1 0))), (34, .sv (.one (I x.fLetters))), (35, .sv (.one (I x5))), (36, .sv (.one (.fn 73 [0]))), (37, .sv (.one (.fn 75 [2])))], [.box [I x.fLetters, I x.fStart, LS (lsT (lsT (lsT intT))) x.fNext, LS intT x.fMark] 77 false, .box [I 0, I 0, .v (.slice none 0 0), .v (.slice none 0 0)] 80 false, .box [I (altEnd x)] 3 false]⟩ (by kernel_rfl) ?_
      refine WL.freeze [0] (by rfl) ?_
      refine WL.ghost 36 (.sv (.one (.rd (fvR (fun (x_ : (Int × Int)) => [.sv (.one (I x_.1)), .sv (.one (I x_.2))]) (fun (r : Int) => .sv (.one (I r))) (fun (y : Int × Int) => AltOk x ∧ goodDom y.1 ∧ 0 ≤ y.2 ∧ y.2 < (x).fLetters) (fun (y : Int × Int) => altGo x y.1 y.2))))) (by rfl) (fv_of (M := [.box [I x.fLetters, I x.fStart, LS (lsT (lsT (lsT intT))) x.fNext, LS intT x.fMark] 77 true]) (caps := [0]) (fun x_ hx => altGo_ct x_.1 x_.2 x hx) en73 rfl (by kernel_rfl) (by rfl) (fun _ => rfl)) ?_
      refine WL.freeze [2] (by rfl) ?_
      refine WL.ghost 37 (.sv (.one (.rd (fvR (fun (x_ : Int) => [.sv (.one (I x_))]) (fun (r : Int) => .sv (.one (I r))) (fun g => goodDom g ∧ setDom (altEnd x)) (fun g => altMk (altEnd x) g))))) (by rfl) (fv_of (M := [.box [I (altEnd x)] 3 true]) (caps := [2]) (fun x_ hx => altMark_ct x_ (altEnd x) hx) en75 rfl (by kernel_rfl) (by rfl) (fun _ => rfl)) ?_
      have hp := h.1
      replace h := h.2
      refine WL.mt0 (K := []) (p := some (3, rowI 3 intT (explR (fun k (a : Nat) => (fun (y : Int × Int) => altGo x y.1 y.2) (k, (a : Int))) (fun g => altMk (altEnd x) g) (x.fLetters).toNat x5 131072).1.fMark)) hn (by rfl) (mt_callS (x := .tup [.agg [I (explR (fun k (a : Nat) => (fun (y : Int × Int) => altGo x y.1 y.2) (k, (a : Int))) (fun g => altMk (altEnd x) g) (x.fLetters).toNat x5 131072).1.fLetters, I (explR (fun k (a : Nat) => (fun (y : Int × Int) => altGo x y.1 y.2) (k, (a : Int))) (fun g => altMk (altEnd x) g) (x.fLetters).toNat x5 131072).1.fStart, LS (lsT intT) (explR (fun k (a : Nat) => (fun (y : Int × Int) => altGo x y.1 y.2) (k, (a : Int))) (fun g => altMk (altEnd x) g) (x.fLetters).toNat x5 131072).1.fNext, .own 3], .one (B (explR (fun k (a : Nat) => (fun (y : Int × Int) => altGo x y.1 y.2) (k, (a : Int))) (fun g => altMk (altEnd x) g) (x.fLetters).toNat x5 131072).2)]) 3 (exploreOwn_ct x.fLetters x5 (fun (y : Int × Int) => AltOk x ∧ goodDom y.1 ∧ 0 ≤ y.2 ∧ y.2 < (x).fLetters) (fun (y : Int × Int) => altGo x y.1 y.2) (fun g => goodDom g ∧ setDom (altEnd x)) (fun g => altMk (altEnd x) g) 131072 hp) en72 (caps := []) [] rfl (by rfl) rfl (by rfl) (by kernel_rfl) (by kernel_rfl) (by rfl) (by rfl)) (by rfl) (by rfl) (by rfl) ?_
      refine WL.run ht hn 6 ⟨[(2, .sv (.one (.ptr 1 0))), (8, .sv (.one (.ptr 4 0))), (9, .sv (.one (B (explR (fun k (a : Nat) => (fun (y : Int × Int) => altGo x y.1 y.2) (k, (a : Int))) (fun g => altMk (altEnd x) g) (x.fLetters).toNat x5 131072).2)))], [.gone, .box [I 0, I 0, .v (.slice none 0 0), .v (.slice none 0 0)] 80 false, .gone, rowI 3 intT (explR (fun k (a : Nat) => (fun (y : Int × Int) => altGo x y.1 y.2) (k, (a : Int))) (fun g => altMk (altEnd x) g) (x.fLetters).toNat x5 131072).1.fMark, .box [I (explR (fun k (a : Nat) => (fun (y : Int × Int) => altGo x y.1 y.2) (k, (a : Int))) (fun g => altMk (altEnd x) g) (x.fLetters).toNat x5 131072).1.fLetters, I (explR (fun k (a : Nat) => (fun (y : Int × Int) => altGo x y.1 y.2) (k, (a : Int))) (fun g => altMk (altEnd x) g) (x.fLetters).toNat x5 131072).1.fStart, LS (lsT intT) (explR (fun k (a : Nat) => (fun (y : Int × Int) => altGo x y.1 y.2) (k, (a : Int))) (fun g => altMk (altEnd x) g) (x.fLetters).toNat x5 131072).1.fNext, .own 3] 80 false]⟩ (by kernel_rfl) ?_
      refine WL.nil ?_
      refine En.seq ?_
      refine En.seq ?_
      refine En.region ?_
      refine WL.run ht hn 1 ⟨[(2, .sv (.one (.ptr 1 0))), (8, .sv (.one (.ptr 4 0))), (9, .sv (.one (B (explR (fun k (a : Nat) => (fun (y : Int × Int) => altGo x y.1 y.2) (k, (a : Int))) (fun g => altMk (altEnd x) g) (x.fLetters).toNat x5 131072).2))), (41, .sv (.agg [I (explR (fun k (a : Nat) => (fun (y : Int × Int) => altGo x y.1 y.2) (k, (a : Int))) (fun g => altMk (altEnd x) g) (x.fLetters).toNat x5 131072).1.fLetters, I (explR (fun k (a : Nat) => (fun (y : Int × Int) => altGo x y.1 y.2) (k, (a : Int))) (fun g => altMk (altEnd x) g) (x.fLetters).toNat x5 131072).1.fStart, LS (lsT intT) (explR (fun k (a : Nat) => (fun (y : Int × Int) => altGo x y.1 y.2) (k, (a : Int))) (fun g => altMk (altEnd x) g) (x.fLetters).toNat x5 131072).1.fNext, .own 3]))], [.gone, .box [I 0, I 0, .v (.slice none 0 0), .v (.slice none 0 0)] 80 false, .gone, rowI 3 intT (explR (fun k (a : Nat) => (fun (y : Int × Int) => altGo x y.1 y.2) (k, (a : Int))) (fun g => altMk (altEnd x) g) (x.fLetters).toNat x5 131072).1.fMark, .box [I (explR (fun k (a : Nat) => (fun (y : Int × Int) => altGo x y.1 y.2) (k, (a : Int))) (fun g => altMk (altEnd x) g) (x.fLetters).toNat x5 131072).1.fLetters, I (explR (fun k (a : Nat) => (fun (y : Int × Int) => altGo x y.1 y.2) (k, (a : Int))) (fun g => altMk (altEnd x) g) (x.fLetters).toNat x5 131072).1.fStart, LS (lsT intT) (explR (fun k (a : Nat) => (fun (y : Int × Int) => altGo x y.1 y.2) (k, (a : Int))) (fun g => altMk (altEnd x) g) (x.fLetters).toNat x5 131072).1.fNext, .own 3] 80 false]⟩ (by kernel_rfl) ?_
      refine WL.seal 3 (by rfl) ?_
      have hp := h.1
      replace h := h.2
      refine WL.mt0 (K := []) (p := some (5, rowI 3 intT (canon ((explR (fun k (a : Nat) => (fun (y : Int × Int) => altGo x y.1 y.2) (k, (a : Int))) (fun g => altMk (altEnd x) g) (x.fLetters).toNat x5 131072).1).fLetters.toNat (langD (explR (fun k (a : Nat) => (fun (y : Int × Int) => altGo x y.1 y.2) (k, (a : Int))) (fun g => altMk (altEnd x) g) (x.fLetters).toNat x5 131072).1 ((explR (fun k (a : Nat) => (fun (y : Int × Int) => altGo x y.1 y.2) (k, (a : Int))) (fun g => altMk (altEnd x) g) (x.fLetters).toNat x5 131072).1).fStart.toNat)).fMark)) hn (by rfl) (mt_callS (x := .sv (.agg [I (canon ((explR (fun k (a : Nat) => (fun (y : Int × Int) => altGo x y.1 y.2) (k, (a : Int))) (fun g => altMk (altEnd x) g) (x.fLetters).toNat x5 131072).1).fLetters.toNat (langD (explR (fun k (a : Nat) => (fun (y : Int × Int) => altGo x y.1 y.2) (k, (a : Int))) (fun g => altMk (altEnd x) g) (x.fLetters).toNat x5 131072).1 ((explR (fun k (a : Nat) => (fun (y : Int × Int) => altGo x y.1 y.2) (k, (a : Int))) (fun g => altMk (altEnd x) g) (x.fLetters).toNat x5 131072).1).fStart.toNat)).fLetters, I (canon ((explR (fun k (a : Nat) => (fun (y : Int × Int) => altGo x y.1 y.2) (k, (a : Int))) (fun g => altMk (altEnd x) g) (x.fLetters).toNat x5 131072).1).fLetters.toNat (langD (explR (fun k (a : Nat) => (fun (y : Int × Int) => altGo x y.1 y.2) (k, (a : Int))) (fun g => altMk (altEnd x) g) (x.fLetters).toNat x5 131072).1 ((explR (fun k (a : Nat) => (fun (y : Int × Int) => altGo x y.1 y.2) (k, (a : Int))) (fun g => altMk (altEnd x) g) (x.fLetters).toNat x5 131072).1).fStart.toNat)).fStart, LS (lsT intT) (canon ((explR (fun k (a : Nat) => (fun (y : Int × Int) => altGo x y.1 y.2) (k, (a : Int))) (fun g => altMk (altEnd x) g) (x.fLetters).toNat x5 131072).1).fLetters.toNat (langD (explR (fun k (a : Nat) => (fun (y : Int × Int) => altGo x y.1 y.2) (k, (a : Int))) (fun g => altMk (altEnd x) g) (x.fLetters).toNat x5 131072).1 ((explR (fun k (a : Nat) => (fun (y : Int × Int) => altGo x y.1 y.2) (k, (a : Int))) (fun g => altMk (altEnd x) g) (x.fLetters).toNat x5 131072).1).fStart.toNat)).fNext, .own 5])) 5 (smallestOwn_ct (explR (fun k (a : Nat) => (fun (y : Int × Int) => altGo x y.1 y.2) (k, (a : Int))) (fun g => altMk (altEnd x) g) (x.fLetters).toNat x5 131072).1 hp) en76 (caps := []) [] rfl (by rfl) rfl (by rfl) (by kernel_rfl) (by kernel_rfl) (by rfl) (by rfl)) (by rfl) (by rfl) (by rfl) ?_
      refine WL.run ht hn 1 ⟨[(2, .sv (.one (.ptr 1 0))), (8, .sv (.one (.ptr 4 0))), (9, .sv (.one (B (explR (fun k (a : Nat) => (fun (y : Int × Int) => altGo x y.1 y.2) (k, (a : Int))) (fun g => altMk (altEnd x) g) (x.fLetters).toNat x5 131072).2)))], [.gone, .box [I 0, I 0, .v (.slice none 0 0), .v (.slice none 0 0)] 80 false, .gone, .gone, .box [I (canon ((explR (fun k (a : Nat) => (fun (y : Int × Int) => altGo x y.1 y.2) (k, (a : Int))) (fun g => altMk (altEnd x) g) (x.fLetters).toNat x5 131072).1).fLetters.toNat (langD (explR (fun k (a : Nat) => (fun (y : Int × Int) => altGo x y.1 y.2) (k, (a : Int))) (fun g => altMk (altEnd x) g) (x.fLetters).toNat x5 131072).1 ((explR (fun k (a : Nat) => (fun (y : Int × Int) => altGo x y.1 y.2) (k, (a : Int))) (fun g => altMk (altEnd x) g) (x.fLetters).toNat x5 131072).1).fStart.toNat)).fLetters, I (canon ((explR (fun k (a : Nat) => (fun (y : Int × Int) => altGo x y.1 y.2) (k, (a : Int))) (fun g => altMk (altEnd x) g) (x.fLetters).toNat x5 131072).1).fLetters.toNat (langD (explR (fun k (a : Nat) => (fun (y : Int × Int) => altGo x y.1 y.2) (k, (a : Int))) (fun g => altMk (altEnd x) g) (x.fLetters).toNat x5 131072).1 ((explR (fun k (a : Nat) => (fun (y : Int × Int) => altGo x y.1 y.2) (k, (a : Int))) (fun g => altMk (altEnd x) g) (x.fLetters).toNat x5 131072).1).fStart.toNat)).fStart, LS (lsT intT) (canon ((explR (fun k (a : Nat) => (fun (y : Int × Int) => altGo x y.1 y.2) (k, (a : Int))) (fun g => altMk (altEnd x) g) (x.fLetters).toNat x5 131072).1).fLetters.toNat (langD (explR (fun k (a : Nat) => (fun (y : Int × Int) => altGo x y.1 y.2) (k, (a : Int))) (fun g => altMk (altEnd x) g) (x.fLetters).toNat x5 131072).1 ((explR (fun k (a : Nat) => (fun (y : Int × Int) => altGo x y.1 y.2) (k, (a : Int))) (fun g => altMk (altEnd x) g) (x.fLetters).toNat x5 131072).1).fStart.toNat)).fNext, .own 5] 80 false, rowI 3 intT (canon ((explR (fun k (a : Nat) => (fun (y : Int × Int) => altGo x y.1 y.2) (k, (a : Int))) (fun g => altMk (altEnd x) g) (x.fLetters).toNat x5 131072).1).fLetters.toNat (langD (explR (fun k (a : Nat) => (fun (y : Int × Int) => altGo x y.1 y.2) (k, (a : Int))) (fun g => altMk (altEnd x) g) (x.fLetters).toNat x5 131072).1 ((explR (fun k (a : Nat) => (fun (y : Int × Int) => altGo x y.1 y.2) (k, (a : Int))) (fun g => altMk (altEnd x) g) (x.fLetters).toNat x5 131072).1).fStart.toNat)).fMark]⟩ (by kernel_rfl) ?_
      refine WL.nil ?_
      refine En.seq ?_
      refine En.region ?_
      refine WL.run ht hn 3 ⟨[(2, .sv (.one (.ptr 1 0))), (8, .sv (.one (.ptr 4 0))), (45, .sv (.one (B (!(explR (fun k (a : Nat) => (fun (y : Int × Int) => altGo x y.1 y.2) (k, (a : Int))) (fun g => altMk (altEnd x) g) (x.fLetters).toNat x5 131072).2))))], [.gone, .box [I 0, I 0, .v (.slice none 0 0), .v (.slice none 0 0)] 80 false, .gone, .gone, .box [I (canon ((explR (fun k (a : Nat) => (fun (y : Int × Int) => altGo x y.1 y.2) (k, (a : Int))) (fun g => altMk (altEnd x) g) (x.fLetters).toNat x5 131072).1).fLetters.toNat (langD (explR (fun k (a : Nat) => (fun (y : Int × Int) => altGo x y.1 y.2) (k, (a : Int))) (fun g => altMk (altEnd x) g) (x.fLetters).toNat x5 131072).1 ((explR (fun k (a : Nat) => (fun (y : Int × Int) => altGo x y.1 y.2) (k, (a : Int))) (fun g => altMk (altEnd x) g) (x.fLetters).toNat x5 131072).1).fStart.toNat)).fLetters, I (canon ((explR (fun k (a : Nat) => (fun (y : Int × Int) => altGo x y.1 y.2) (k, (a : Int))) (fun g => altMk (altEnd x) g) (x.fLetters).toNat x5 131072).1).fLetters.toNat (langD (explR (fun k (a : Nat) => (fun (y : Int × Int) => altGo x y.1 y.2) (k, (a : Int))) (fun g => altMk (altEnd x) g) (x.fLetters).toNat x5 131072).1 ((explR (fun k (a : Nat) => (fun (y : Int × Int) => altGo x y.1 y.2) (k, (a : Int))) (fun g => altMk (altEnd x) g) (x.fLetters).toNat x5 131072).1).fStart.toNat)).fStart, LS (lsT intT) (canon ((explR (fun k (a : Nat) => (fun (y : Int × Int) => altGo x y.1 y.2) (k, (a : Int))) (fun g => altMk (altEnd x) g) (x.fLetters).toNat x5 131072).1).fLetters.toNat (langD (explR (fun k (a : Nat) => (fun (y : Int × Int) => altGo x y.1 y.2) (k, (a : Int))) (fun g => altMk (altEnd x) g) (x.fLetters).toNat x5 131072).1 ((explR (fun k (a : Nat) => (fun (y : Int × Int) => altGo x y.1 y.2) (k, (a : Int))) (fun g => altMk (altEnd x) g) (x.fLetters).toNat x5 131072).1).fStart.toNat)).fNext, .own 5] 80 false, rowI 3 intT (canon ((explR (fun k (a : Nat) => (fun (y : Int × Int) => altGo x y.1 y.2) (k, (a : Int))) (fun g => altMk (altEnd x) g) (x.fLetters).toNat x5 131072).1).fLetters.toNat (langD (explR (fun k (a : Nat) => (fun (y : Int × Int) => altGo x y.1 y.2) (k, (a : Int))) (fun g => altMk (altEnd x) g) (x.fLetters).toNat x5 131072).1 ((explR (fun k (a : Nat) => (fun (y : Int × Int) => altGo x y.1 y.2) (k, (a : Int))) (fun g => altMk (altEnd x) g) (x.fLetters).toNat x5 131072).1).fStart.toNat)).fMark]⟩ (by kernel_rfl) ?_
      refine WL.thru ⟨[(2, .sv (.one (.ptr 1 0))), (8, .sv (.one (.ptr 4 0))), (50, .sv (.one (B ((!(explR (fun k (a : Nat) => (fun (y : Int × Int) => altGo x y.1 y.2) (k, (a : Int))) (fun g => altMk (altEnd x) g) (x.fLetters).toNat x5 131072).2) || (decide (((canon ((explR (fun k (a : Nat) => (fun (y : Int × Int) => altGo x y.1 y.2) (k, (a : Int))) (fun g => altMk (altEnd x) g) (x.fLetters).toNat x5 131072).1).fLetters.toNat (langD (explR (fun k (a : Nat) => (fun (y : Int × Int) => altGo x y.1 y.2) (k, (a : Int))) (fun g => altMk (altEnd x) g) (x.fLetters).toNat x5 131072).1 ((explR (fun k (a : Nat) => (fun (y : Int × Int) => altGo x y.1 y.2) (k, (a : Int))) (fun g => altMk (altEnd x) g) (x.fLetters).toNat x5 131072).1).fStart.toNat)).fNext.length : Int) > 3000))))))], [.gone, .box [I 0, I 0, .v (.slice none 0 0), .v (.slice none 0 0)] 80 false, .gone, .gone, .box [I (canon ((explR (fun k (a : Nat) => (fun (y : Int × Int) => altGo x y.1 y.2) (k, (a : Int))) (fun g => altMk (altEnd x) g) (x.fLetters).toNat x5 131072).1).fLetters.toNat (langD (explR (fun k (a : Nat) => (fun (y : Int × Int) => altGo x y.1 y.2) (k, (a : Int))) (fun g => altMk (altEnd x) g) (x.fLetters).toNat x5 131072).1 ((explR (fun k (a : Nat) => (fun (y : Int × Int) => altGo x y.1 y.2) (k, (a : Int))) (fun g => altMk (altEnd x) g) (x.fLetters).toNat x5 131072).1).fStart.toNat)).fLetters, I (canon ((explR (fun k (a : Nat) => (fun (y : Int × Int) => altGo x y.1 y.2) (k, (a : Int))) (fun g => altMk (altEnd x) g) (x.fLetters).toNat x5 131072).1).fLetters.toNat (langD (explR (fun k (a : Nat) => (fun (y : Int × Int) => altGo x y.1 y.2) (k, (a : Int))) (fun g => altMk (altEnd x) g) (x.fLetters).toNat x5 131072).1 ((explR (fun k (a : Nat) => (fun (y : Int × Int) => altGo x y.1 y.2) (k, (a : Int))) (fun g => altMk (altEnd x) g) (x.fLetters).toNat x5 131072).1).fStart.toNat)).fStart, LS (lsT intT) (canon ((explR (fun k (a : Nat) => (fun (y : Int × Int) => altGo x y.1 y.2) (k, (a : Int))) (fun g => altMk (altEnd x) g) (x.fLetters).toNat x5 131072).1).fLetters.toNat (langD (explR (fun k (a : Nat) => (fun (y : Int × Int) => altGo x y.1 y.2) (k, (a : Int))) (fun g => altMk (altEnd x) g) (x.fLetters).toNat x5 131072).1 ((explR (fun k (a : Nat) => (fun (y : Int × Int) => altGo x y.1 y.2) (k, (a : Int))) (fun g => altMk (altEnd x) g) (x.fLetters).toNat x5 131072).1).fStart.toNat)).fNext, .own 5] 80 false, rowI 3 intT (canon ((explR (fun k (a : Nat) => (fun (y : Int × Int) => altGo x y.1 y.2) (k, (a : Int))) (fun g => altMk (altEnd x) g) (x.fLetters).toNat x5 131072).1).fLetters.toNat (langD (explR (fun k (a : Nat) => (fun (y : Int × Int) => altGo x y.1 y.2) (k, (a : Int))) (fun g => altMk (altEnd x) g) (x.fLetters).toNat x5 131072).1 ((explR (fun k (a : Nat) => (fun (y : Int × Int) => altGo x y.1 y.2) (k, (a : Int))) (fun g => altMk (altEnd x) g) (x.fLetters).toNat x5 131072).1).fStart.toNat)).fMark]⟩ ?_ ?_
      · refine splitB (!(explR (fun k (a : Nat) => (fun (y : Int × Int) => altGo x y.1 y.2) (k, (a : Int))) (fun g => altMk (altEnd x) g) (x.fLetters).toNat x5 131072).2) (fun hb0 => ?_) (fun hb0 => ?_)
        · refine WL.setB 45 hb0 (by kernel_rfl) ?_
          refine WL.run ht hn 5 ⟨[(2, .sv (.one (.ptr 1 0))), (8, .sv (.one (.ptr 4 0))), (50, .sv (.one (B true)))], [.gone, .box [I 0, I 0, .v (.slice none 0 0), .v (.slice none 0 0)] 80 false, .gone, .gone, .box [I (canon ((explR (fun k (a : Nat) => (fun (y : Int × Int) => altGo x y.1 y.2) (k, (a : Int))) (fun g => altMk (altEnd x) g) (x.fLetters).toNat x5 131072).1).fLetters.toNat (langD (explR (fun k (a : Nat) => (fun (y : Int × Int) => altGo x y.1 y.2) (k, (a : Int))) (fun g => altMk (altEnd x) g) (x.fLetters).toNat x5 131072).1 ((explR (fun k (a : Nat) => (fun (y : Int × Int) => altGo x y.1 y.2) (k, (a : Int))) (fun g => altMk (altEnd x) g) (x.fLetters).toNat x5 131072).1).fStart.toNat)).fLetters, I (canon ((explR (fun k (a : Nat) => (fun (y : Int × Int) => altGo x y.1 y.2) (k, (a : Int))) (fun g => altMk (altEnd x) g) (x.fLetters).toNat x5 131072).1).fLetters.toNat (langD (explR (fun k (a : Nat) => (fun (y : Int × Int) => altGo x y.1 y.2) (k, (a : Int))) (fun g => altMk (altEnd x) g) (x.fLetters).toNat x5 131072).1 ((explR (fun k (a : Nat) => (fun (y : Int × Int) => altGo x y.1 y.2) (k, (a : Int))) (fun g => altMk (altEnd x) g) (x.fLetters).toNat x5 131072).1).fStart.toNat)).fStart, LS (lsT intT) (canon ((explR (fun k (a : Nat) => (fun (y : Int × Int) => altGo x y.1 y.2) (k, (a : Int))) (fun g => altMk (altEnd x) g) (x.fLetters).toNat x5 131072).1).fLetters.toNat (langD (explR (fun k (a : Nat) => (fun (y : Int × Int) => altGo x y.1 y.2) (k, (a : Int))) (fun g => altMk (altEnd x) g) (x.fLetters).toNat x5 131072).1 ((explR (fun k (a : Nat) => (fun (y : Int × Int) => altGo x y.1 y.2) (k, (a : Int))) (fun g => altMk (altEnd x) g) (x.fLetters).toNat x5 131072).1).fStart.toNat)).fNext, .own 5] 80 false, rowI 3 intT (canon ((explR (fun k (a : Nat) => (fun (y : Int × Int) => altGo x y.1 y.2) (k, (a : Int))) (fun g => altMk (altEnd x) g) (x.fLetters).toNat x5 131072).1).fLetters.toNat (langD (explR (fun k (a : Nat) => (fun (y : Int × Int) => altGo x y.1 y.2) (k, (a : Int))) (fun g => altMk (altEnd x) g) (x.fLetters).toNat x5 131072).1 ((explR (fun k (a : Nat) => (fun (y : Int × Int) => altGo x y.1 y.2) (k, (a : Int))) (fun g => altMk (altEnd x) g) (x.fLetters).toNat x5 131072).1).fStart.toNat)).fMark]⟩ (by kernel_rfl) ?_
          exact WL.nil (sub_ok (by simp only [hb0]; kernel_rfl))
        · refine WL.setB 45 hb0 (by kernel_rfl) ?_
          refine WL.run ht hn 5 ⟨[(2, .sv (.one (.ptr 1 0))), (8, .sv (.one (.ptr 4 0))), (50, .sv (.one (B (decide (((canon ((explR (fun k (a : Nat) => (fun (y : Int × Int) => altGo x y.1 y.2) (k, (a : Int))) (fun g => altMk (altEnd x) g) (x.fLetters).toNat x5 131072).1).fLetters.toNat (langD (explR (fun k (a : Nat) => (fun (y : Int × Int) => altGo x y.1 y.2) (k, (a : Int))) (fun g => altMk (altEnd x) g) (x.fLetters).toNat x5 131072).1 ((explR (fun k (a : Nat) => (fun (y : Int × Int) => altGo x y.1 y.2) (k, (a : Int))) (fun g => altMk (altEnd x) g) (x.fLetters).toNat x5 131072).1).fStart.toNat)).fNext.length : Int) > 3000)))))], [.gone, .box [I 0, I 0, .v (.slice none 0 0), .v (.slice none 0 0)] 80 false, .gone, .gone, .box [I (canon ((explR (fun k (a : Nat) => (fun (y : Int × Int) => altGo x y.1 y.2) (k, (a : Int))) (fun g => altMk (altEnd x) g) (x.fLetters).toNat x5 131072).1).fLetters.toNat (langD (explR (fun k (a : Nat) => (fun (y : Int × Int) => altGo x y.1 y.2) (k, (a : Int))) (fun g => altMk (altEnd x) g) (x.fLetters).toNat x5 131072).1 ((explR (fun k (a : Nat) => (fun (y : Int × Int) => altGo x y.1 y.2) (k, (a : Int))) (fun g => altMk (altEnd x) g) (x.fLetters).toNat x5 131072).1).fStart.toNat)).fLetters, I (canon ((explR (fun k (a : Nat) => (fun (y : Int × Int) => altGo x y.1 y.2) (k, (a : Int))) (fun g => altMk (altEnd x) g) (x.fLetters).toNat x5 131072).1).fLetters.toNat (langD (explR (fun k (a : Nat) => (fun (y : Int × Int) => altGo x y.1 y.2) (k, (a : Int))) (fun g => altMk (altEnd x) g) (x.fLetters).toNat x5 131072).1 ((explR (fun k (a : Nat) => (fun (y : Int × Int) => altGo x y.1 y.2) (k, (a : Int))) (fun g => altMk (altEnd x) g) (x.fLetters).toNat x5 131072).1).fStart.toNat)).fStart, LS (lsT intT) (canon ((explR (fun k (a : Nat) => (fun (y : Int × Int) => altGo x y.1 y.2) (k, (a : Int))) (fun g => altMk (altEnd x) g) (x.fLetters).toNat x5 131072).1).fLetters.toNat (langD (explR (fun k (a : Nat) => (fun (y : Int × Int) => altGo x y.1 y.2) (k, (a : Int))) (fun g => altMk (altEnd x) g) (x.fLetters).toNat x5 131072).1 ((explR (fun k (a : Nat) => (fun (y : Int × Int) => altGo x y.1 y.2) (k, (a : Int))) (fun g => altMk (altEnd x) g) (x.fLetters).toNat x5 131072).1).fStart.toNat)).fNext, .own 5] 80 false, rowI 3 intT (canon ((explR (fun k (a : Nat) => (fun (y : Int × Int) => altGo x y.1 y.2) (k, (a : Int))) (fun g => altMk (altEnd x) g) (x.fLetters).toNat x5 131072).1).fLetters.toNat (langD (explR (fun k (a : Nat) => (fun (y : Int × Int) => altGo x y.1 y.2) (k, (a : Int))) (fun g => altMk (altEnd x) g) (x.fLetters).toNat x5 131072).1 ((explR (fun k (a : Nat) => (fun (y : Int × Int) => altGo x y.1 y.2) (k, (a : Int))) (fun g => altMk (altEnd x) g) (x.fLetters).toNat x5 131072).1).fStart.toNat)).fMark]⟩ (by kernel_rfl) ?_
          exact WL.nil (sub_ok (by simp only [hb0]; kernel_rfl))
      · refine En.cond (b := ((!(explR (fun k (a : Nat) => (fun (y : Int × Int) => altGo x y.1 y.2) (k, (a : Int))) (fun g => altMk (altEnd x) g) (x.fLetters).toNat x5 131072).2) || (decide (((canon ((explR (fun k (a : Nat) => (fun (y : Int × Int) => altGo x y.1 y.2) (k, (a : Int))) (fun g => altMk (altEnd x) g) (x.fLetters).toNat x5 131072).1).fLetters.toNat (langD (explR (fun k (a : Nat) => (fun (y : Int × Int) => altGo x y.1 y.2) (k, (a : Int))) (fun g => altMk (altEnd x) g) (x.fLetters).toNat x5 131072).1 ((explR (fun k (a : Nat) => (fun (y : Int × Int) => altGo x y.1 y.2) (k, (a : Int))) (fun g => altMk (altEnd x) g) (x.fLetters).toNat x5 131072).1).fStart.toNat)).fNext.length : Int) > 3000)))) (by kernel_rfl) (fun hb => ?_) (fun hb => ?_)
        · replace h := h.1 hb
          refine En.seq ?_
          refine En.region ?_
          refine WL.run ht hn 3 ⟨[(2, .sv (.one (.ptr 1 0))), (3, .sv (.one (I 7)))], [.gone, .box [I 0, I 0, .v (.slice none 0 0), .v (.slice none 0 0)] 80 false, .gone, .gone, .gone, .gone]⟩ (by kernel_rfl) ?_
          refine WL.nil ?_
          refine En.ret ?_
          refine En.nilBoxO (T := intT) 1 3 6 3 (by rfl) (by rfl) (by rfl) (by rfl) ?_
          refine En.nilBox (T := (lsT intT)) 1 2 (by rfl) (by rfl) ?_
          exact En.backS ht 6 ((ApiDet.mk 0 0 [] ([] : (List Int))), 7) hmay h (by kernel_rfl) (by rfl) rfl rfl
        · replace h := h.2 hb
          refine En.skip ?_
          refine En.seq ?_
          refine En.region ?_
          refine WL.run ht hn 3 ⟨[(2, .sv (.one (.ptr 1 0))), (3, .sv (.one (I 0)))], [.gone, .box [I (canon ((explR (fun k (a : Nat) => (fun (y : Int × Int) => altGo x y.1 y.2) (k, (a : Int))) (fun g => altMk (altEnd x) g) (x.fLetters).toNat x5 131072).1).fLetters.toNat (langD (explR (fun k (a : Nat) => (fun (y : Int × Int) => altGo x y.1 y.2) (k, (a : Int))) (fun g => altMk (altEnd x) g) (x.fLetters).toNat x5 131072).1 ((explR (fun k (a : Nat) => (fun (y : Int × Int) => altGo x y.1 y.2) (k, (a : Int))) (fun g => altMk (altEnd x) g) (x.fLetters).toNat x5 131072).1).fStart.toNat)).fLetters, I (canon ((explR (fun k (a : Nat) => (fun (y : Int × Int) => altGo x y.1 y.2) (k, (a : Int))) (fun g => altMk (altEnd x) g) (x.fLetters).toNat x5 131072).1).fLetters.toNat (langD (explR (fun k (a : Nat) => (fun (y : Int × Int) => altGo x y.1 y.2) (k, (a : Int))) (fun g => altMk (altEnd x) g) (x.fLetters).toNat x5 131072).1 ((explR (fun k (a : Nat) => (fun (y : Int × Int) => altGo x y.1 y.2) (k, (a : Int))) (fun g => altMk (altEnd x) g) (x.fLetters).toNat x5 131072).1).fStart.toNat)).fStart, LS (lsT intT) (canon ((explR (fun k (a : Nat) => (fun (y : Int × Int) => altGo x y.1 y.2) (k, (a : Int))) (fun g => altMk (altEnd x) g) (x.fLetters).toNat x5 131072).1).fLetters.toNat (langD (explR (fun k (a : Nat) => (fun (y : Int × Int) => altGo x y.1 y.2) (k, (a : Int))) (fun g => altMk (altEnd x) g) (x.fLetters).toNat x5 131072).1 ((explR (fun k (a : Nat) => (fun (y : Int × Int) => altGo x y.1 y.2) (k, (a : Int))) (fun g => altMk (altEnd x) g) (x.fLetters).toNat x5 131072).1).fStart.toNat)).fNext, .own 5] 80 false, .gone, .gone, .gone, rowI 3 intT (canon ((explR (fun k (a : Nat) => (fun (y : Int × Int) => altGo x y.1 y.2) (k, (a : Int))) (fun g => altMk (altEnd x) g) (x.fLetters).toNat x5 131072).1).fLetters.toNat (langD (explR (fun k (a : Nat) => (fun (y : Int × Int) => altGo x y.1 y.2) (k, (a : Int))) (fun g => altMk (altEnd x) g) (x.fLetters).toNat x5 131072).1 ((explR (fun k (a : Nat) => (fun (y : Int × Int) => altGo x y.1 y.2) (k, (a : Int))) (fun g => altMk (altEnd x) g) (x.fLetters).toNat x5 131072).1).fStart.toNat)).fMark]⟩ (by kernel_rfl) ?_
          refine WL.nil ?_
          refine En.ret ?_
          exact En.backS ht 5 ((canon ((explR (fun k (a : Nat) => (fun (y : Int × Int) => altGo x y.1 y.2) (k, (a : Int))) (fun g => altMk (altEnd x) g) (x.fLetters).toNat x5 131072).1).fLetters.toNat (langD (explR (fun k (a : Nat) => (fun (y : Int × Int) => altGo x y.1 y.2) (k, (a : Int))) (fun g => altMk (altEnd x) g) (x.fLetters).toNat x5 131072).1 ((explR (fun k (a : Nat) => (fun (y : Int × Int) => altGo x y.1 y.2) (k, (a : Int))) (fun g => altMk (altEnd x) g) (x.fLetters).toNat x5 131072).1).fStart.toNat)), 0) hmay h (by kernel_rfl) (by rfl) rfl rfl
theorem en32 : ∀ args w, (callFunc 32 args).run Try.prog w = .ok (.enter 32 args) w := enters_of Try.func32 (by kernel_rfl) rfl
def altFirst (x : ApiAlter) : Int := (maskOf (fun s => hasB (s : Int) x.fStart) 16 : Int)
noncomputable def altDetC (x : ApiAlter) : ApiDet := canon x.fLetters.toNat (langK (fun k (a : Nat) => altGo x k (a : Int)) (altMk (altEnd x)) (altFirst x))
noncomputable def altDetR (x : ApiAlter) : ApiDet × Int := if altErr x = 0 then (if (altDetC x).fNext.length > 3000 then (⟨0, 0, [], []⟩, 7) else (altDetC x, 0)) else (⟨0, 0, [], []⟩, altErr x)
theorem goods : ∃ m : List Int, (∀ k, goodDom k ↔ k ∈ m) ∧ m.length = 65536 := by
  refine ⟨(List.range 65536).map (fun i : Nat => (i : Int)), fun k => ?_, by rw [List.length_map, List.length_range]⟩
  rw [List.mem_map]
  unfold goodDom
  constructor
  · rintro ⟨h1, h2⟩
    exact ⟨k.toNat, List.mem_range.2 (by omega), by omega⟩
  · rintro ⟨i, hi, rfl⟩
    have := List.mem_range.1 hi
    omega
theorem altDet_ct (x : ApiAlter)  : CtS 32 [.sv (.agg [I x.fLetters, I x.fStart, LS (lsT (lsT (lsT intT))) x.fNext, LS intT x.fMark])] [] (fun (_ : Unit) => True) (fun _ => .tup [.agg [I (altDetR x).1.fLetters, I (altDetR x).1.fStart, LS (lsT intT) (altDetR x).1.fNext, .own 0], .one (I (altDetR x).2)]) (fun _ => rowI 3 intT (altDetR x).1.fMark) := by
  refine (altDet_walk x (fun res_ => res_ = (altDetR x)) ?_).fun
  intro _ _
  refine ⟨fun he => ?_, fun he => ?_⟩
  · show _ = altDetR x
    unfold altDetR
    rw [if_neg (by simpa using he)]
  have he : altErr x = 0 := by simpa using he
  have hx := (altErr_iff x).1 he
  have hlet := hx.letters
  refine ⟨fun t i => ∃ k : Nat, i = k ∧ k ≤ 16 ∧ t = (maskOf (fun s => hasB (s : Int) x.fStart) k : Int), fun _ i => 16 - i.toNat, ⟨0, rfl, Nat.zero_le _, rfl⟩, ?_⟩
  rintro t i ⟨k, rfl, hk, rfl⟩
  refine ⟨fun hb => ?_, fun hb => ?_⟩
  · have hlt := dlt (n := 16) hb
    have hst := hx.start
    have hn := hx.size
    have hbit := btestI (s := (k : Int)) (p := x.fStart) (by omega) (by omega)
    refine ⟨fun t => t = (maskOf (fun s => hasB (s : Int) x.fStart) (k + 1) : Int), ⟨hst.1, fun h => ⟨by omega, ?_⟩, fun h => ?_⟩, ?_⟩
    · rw [hbit] at h
      rw [Int.toNat_natCast]
      exact mask_or (by omega) (by cases hh : hasB (k : Int) x.fStart <;> simp [hh] at h ⊢)
    · rw [hbit] at h
      rw [mask_no (by cases hh : hasB (k : Int) x.fStart <;> simp [hh] at h ⊢)]
    · rintro t rfl
      exact ⟨⟨k + 1, wsucc (by omega), hlt, rfl⟩, mu_up hlt (by omega)⟩
  have : k = 16 := by have := dge (n := 16) hb; omega
  subst this
  obtain ⟨m, hm, hml⟩ := goods
  have h0 : altFirst x ∈ m := (hm _).1 (good_mask _)
  have hP : ∀ k a, k ∈ m → a < x.fLetters.toNat → altGo x k ((a : Nat) : Int) ∈ m := fun k a _ _ => (hm _).1 (good_mask _)
  refine ⟨hx, ⟨⟨by omega, by omega⟩, by decide, goodDom, good_mask _, fun k a hk ha => ⟨⟨hx, hk, by omega, ha⟩, good_mask _⟩, fun k hk => ⟨hk, altEnd_in hx⟩⟩, ?_⟩
  have key : ∀ E : ApiDet × Bool, E = (explD (fun k (a : Nat) => altGo x k (a : Int)) (altMk (altEnd x)) x.fLetters.toNat (altFirst x), true) → (ClsOk E.1 ∧ IfP ((!E.2) || (decide (((canon (E.1).fLetters.toNat (langD E.1 (E.1).fStart.toNat)).fNext.length : Int) > 3000))) ((⟨0, 0, [], []⟩, 7) = altDetR x) ((canon (E.1).fLetters.toNat (langD E.1 (E.1).fStart.toNat), 0) = altDetR x)) := by
    rintro E rfl
    have hwf : Wf (explD (fun k (a : Nat) => altGo x k (a : Int)) (altMk (altEnd x)) x.fLetters.toNat (altFirst x)) := explD_wf h0 hP
    have hC : canon (explD (fun k (a : Nat) => altGo x k (a : Int)) (altMk (altEnd x)) x.fLetters.toNat (altFirst x)).fLetters.toNat (langD (explD (fun k (a : Nat) => altGo x k (a : Int)) (altMk (altEnd x)) x.fLetters.toNat (altFirst x)) (explD (fun k (a : Nat) => altGo x k (a : Int)) (altMk (altEnd x)) x.fLetters.toNat (altFirst x)).fStart.toNat) = altDetC x := canon_congr fun w hw => explD_lang h0 hP hw
    refine ⟨⟨hwf, by rw [← hml]; exact explD_count h0 hP, ?_, ?_⟩, ?_⟩
    · show ((x.fLetters.toNat : Nat) : Int) ≤ 1000
      omega
    · refine explD_marks h0 hP fun k _ => ?_
      unfold altMk
      split <;> decide
    · simp only
      rw [hC]
      unfold altDetR
      rw [if_pos he]
      refine ⟨fun h => ?_, fun h => ?_⟩
      · rw [if_pos (by simp only [Bool.not_true, Bool.false_or, decide_eq_true_eq] at h; omega)]
      · rw [if_neg (by simp only [Bool.not_true, Bool.false_or, decide_eq_false_iff_not] at h; omega)]
  exact key _ (explR_ends h0 hP (by rw [hml]; decide))
def otherB_vc (p : Int) (s : Int) (Q : Bool → Prop) : Prop :=
  (0 ≤ p) ∧
  Q ((bitsI .and .i64 (Int.fdiv s (2 ^ (min (p).toNat 64))) 1) == 1)
theorem otherB_walk (p : Int) (s : Int) (Q : Bool → Prop) (h : otherB_vc p s Q) : Ct 80 [.sv (.one (I p)), .sv (.one (.ptr 0 0))] [.box [I s] 3 true] Q (fun (r : Bool) => .sv (.one (B r))) := by
  have ht := tab_ok
  refine Ct.body Try.func80 rfl rfl rfl rfl (fun c hn => ?_)
  unfold otherB_vc at h
  refine En.seq ?_
  refine En.region ?_
  refine WL.run ht hn 1 ⟨[(0, .sv (.one (I p))), (1, .sv (.one (.ptr 0 0)))], [.box [I s] 3 true]⟩ (by kernel_rfl) ?_
  refine WL.nil ?_
  refine En.seq ?_
  refine En.region ?_
  refine WL.run ht hn 2 ⟨[(4, .sv (.one (I s))), (5, .sv (.one (I p)))], [.gone]⟩ (by kernel_rfl) ?_
  have hz := h.1
  replace h := h.2
  refine WL.val hn (by rfl) (val_shift (u := s) (v := p) rfl (by rfl) (by rfl) hz (.inr ⟨rfl, rfl⟩)) (by rfl) ?_
  refine WL.run ht hn 3 ⟨[(3, .sv (.one (B ((bitsI .and .i64 (Int.fdiv s (2 ^ (min (p).toNat 64))) 1) == 1))))], [.gone]⟩ (by kernel_rfl) ?_
  refine WL.nil ?_
  refine En.ret ?_
  exact En.back ht ((bitsI .and .i64 (Int.fdiv s (2 ^ (min (p).toNat 64))) 1) == 1) h (by kernel_rfl) rfl
theorem en80 : ∀ args w, (callFunc 80 args).run Try.prog w = .ok (.enter 80 args) w := enters_of Try.func80 (by kernel_rfl) rfl
theorem otherB_ct (p : Int) (s : Int) (hd : bitDom s p) : Ct 80 [.sv (.one (I p)), .sv (.one (.ptr 0 0))] [.box [I s] 3 true] (fun (_ : Unit) => True) (fun _ => .sv (.one (B (hasB s p)))) := by
  refine (otherB_walk p s (fun res_ => res_ = (hasB s p)) ?_).fun
  refine ⟨hd.2.1, ?_⟩
  rw [bit_one hd]
  cases hasB s p <;> rfl
def otherA_vc (l : (List Int)) (s : Int) (Q : Bool → Prop) : Prop :=
  l.length ≤ 9223372036854775807 →
  ((∀ x_ ∈ l, (fun p => bitDom s p) x_) ∧
  Q (!(l.any (fun p => hasB s p))))
theorem otherA_walk (l : (List Int)) (s : Int) (Q : Bool → Prop) (h : otherA_vc l s Q) : Ct 78 [.sv (.one (LS intT l)), .sv (.one (.ptr 0 0))] [.box [I s] 3 true] Q (fun (r : Bool) => .sv (.one (B r))) := by
  have ht := tab_ok
  refine Ct.body Try.func78 rfl rfl rfl rfl (fun c hn => ?_)
  unfold otherA_vc at h
  refine En.lenL 0 (by rfl) (fun hl => ?_)
  replace h := h hl
  clear hl
  refine En.seq ?_
  refine En.region ?_
  refine WL.run ht hn 1 ⟨[(0, .sv (.one (LS intT l))), (1, .sv (.one (.ptr 0 0)))], [.box [I s] 3 true]⟩ (by kernel_rfl) ?_
  refine WL.nil ?_
  refine En.seq ?_
  refine En.region ?_
  refine WL.run ht hn 2 ⟨[(4, .sv (.one (LS intT l))), (5, .sv (.one (.fn 80 [0])))], [.box [I s] 3 true]⟩ (by kernel_rfl) ?_
  have hp := h.1
  replace h := h.2
  refine WL.mt0 (K := []) (p := none) hn (by rfl) (mt_ghost 5 (.sv (.one (.rd (fvR (fun (x_ : Int) => [.sv (.one (I x_))]) (fun (r : Bool) => .sv (.one (B r))) (fun p => bitDom s p) (fun p => hasB s p))))) (by rfl) (fv_of (M := [.box [I s] 3 true]) (caps := [0]) (fun x_ hx => otherB_ct x_ s hx) en80 rfl (by kernel_rfl) (by rfl) (fun _ => rfl)) (mt_call (anyInt_ct l (fun p => bitDom s p) (fun p => hasB s p) hp) en79 (caps := []) [] rfl (by rfl) (by kernel_rfl) (by kernel_rfl) (by rfl) (by rfl) (by rfl))) (by rfl) (by rfl) (by rfl) ?_
  refine WL.run ht hn 2 ⟨[(3, .sv (.one (B (!(l.any (fun p => hasB s p))))))], [.gone]⟩ (by kernel_rfl) ?_
  refine WL.nil ?_
  refine En.ret ?_
  exact En.back ht (!(l.any (fun p => hasB s p))) h (by kernel_rfl) rfl
theorem en78 : ∀ args w, (callFunc 78 args).run Try.prog w = .ok (.enter 78 args) w := enters_of Try.func78 (by kernel_rfl) rfl
def otherC_vc (t : Int) (s : Int) (Q : Bool → Prop) : Prop :=
  Q ((bitsI .andNot .i64 t s) == 0)
theorem otherC_walk (t : Int) (s : Int) (Q : Bool → Prop) (h : otherC_vc t s Q) : Ct 81 [.sv (.one (I t)), .sv (.one (.ptr 0 0))] [.box [I s] 3 true] Q (fun (r : Bool) => .sv (.one (B r))) := by
  have ht := tab_ok
  refine Ct.body Try.func81 rfl rfl rfl rfl (fun c hn => ?_)
  unfold otherC_vc at h
  refine En.seq ?_
  refine En.region ?_
  refine WL.run ht hn 1 ⟨[(0, .sv (.one (I t))), (1, .sv (.one (.ptr 0 0)))], [.box [I s] 3 true]⟩ (by kernel_rfl) ?_
  refine WL.nil ?_
  refine En.seq ?_
  refine En.region ?_
  refine WL.run ht hn 5 ⟨[(3, .sv (.one (B ((bitsI .andNot .i64 t s) == 0))))], [.gone]⟩ (by kernel_rfl) ?_
  refine WL.nil ?_
  refine En.ret ?_
  exact En.back ht ((bitsI .andNot .i64 t s) == 0) h (by kernel_rfl) rfl
theorem en81 : ∀ args w, (callFunc 81 args).run Try.prog w = .ok (.enter 81 args) w := enters_of Try.func81 (by kernel_rfl) rfl
/-- does s hold all of t? -/
def within (s t : Int) : Bool := (t.toNat ^^^ (t.toNat &&& s.toNat)) == 0
def hitsB (s : Int) (l : List (List Int)) : Bool := !(l.any (fun l => !(l.any fun p => hasB s p)))
def setsTo (l : List (List Int)) : Nat → List Int
  | 0 => []
  | k + 1 => if hitsB (k : Int) l && !((setsTo l k).any (fun t => within (k : Int) t)) then setsTo l k ++ [(k : Int)] else setsTo l k
def elemsTo (s : Int) : Nat → List Int
  | 0 => []
  | k + 1 => if hasB s (k : Int) then elemsTo s k ++ [(k : Int)] else elemsTo s k
def choicesOf (n : Nat) (l : List (List Int)) : List (List Int) := (setsTo l (2 ^ n)).map fun s => elemsTo s n
def altOtherF (x : ApiAlter) : ApiAlter := ⟨x.fLetters, x.fStart, x.fNext.map (fun r => r.map (choicesOf x.fNext.length)), x.fMark.map fun m => 1 - m⟩
def altOtherR (x : ApiAlter) : ApiAlter × Int := if altErr x = 0 then (altOtherF x, 0) else (⟨0, 0, [], []⟩, altErr x)
theorem setsTo_in {l : List (List Int)} : ∀ {k : Nat}, ∀ t ∈ setsTo l k, 0 ≤ t ∧ t < (k : Int)
  | 0, t, h => by simp [setsTo] at h
  | k + 1, t, h => by
    rw [setsTo] at h
    split at h
    · rcases List.mem_append.1 h with h | h
      · have := setsTo_in t h; omega
      · simp at h; omega
    · have := setsTo_in t h; omega
theorem setsTo_len {l : List (List Int)} : ∀ {k : Nat}, (setsTo l k).length ≤ k
  | 0 => by simp [setsTo]
  | k + 1 => by
    have := setsTo_len (l := l) (k := k)
    rw [setsTo]
    split
    · simp; omega
    · omega
theorem elemsTo_len {s : Int} : ∀ {k : Nat}, (elemsTo s k).length ≤ k
  | 0 => by simp [elemsTo]
  | k + 1 => by
    have := elemsTo_len (s := s) (k := k)
    rw [elemsTo]
    split
    · simp; omega
    · omega
theorem otherA_ct (l : (List Int)) (s : Int) (hd : ∀ p ∈ l, bitDom s p) : Ct 78 [.sv (.one (LS intT l)), .sv (.one (.ptr 0 0))] [.box [I s] 3 true] (fun (_ : Unit) => True) (fun _ => .sv (.one (B (!(l.any fun p => hasB s p))))) := by
  refine (otherA_walk l s (fun res_ => res_ = (!(l.any fun p => hasB s p))) ?_).fun
  exact fun _ => ⟨hd, rfl⟩
theorem otherC_ct (t : Int) (s : Int) (hd : setDom t ∧ setDom s) : Ct 81 [.sv (.one (I t)), .sv (.one (.ptr 0 0))] [.box [I s] 3 true] (fun (_ : Unit) => True) (fun _ => .sv (.one (B (within s t)))) := by
  refine (otherC_walk t s (fun res_ => res_ = (within s t)) ?_).fun
  obtain ⟨⟨h1, h2⟩, h3, h4⟩ := hd
  obtain ⟨u, rfl⟩ := Int.eq_ofNat_of_zero_le h1
  obtain ⟨v, rfl⟩ := Int.eq_ofNat_of_zero_le h3
  show (bitsI .andNot .i64 (u : Int) (v : Int) == 0) = within (v : Int) (u : Int)
  rw [bandNot (by omega) (by omega)]
  unfold within
  rw [Int.toNat_natCast, Int.toNat_natCast]
  by_cases h : u ^^^ (u &&& v) = 0
  · rw [h]; rfl
  · rw [show (u ^^^ (u &&& v) == 0) = false from beq_eq_false_iff_ne.2 h, beq_eq_false_iff_ne]
    omega
def altOther_vc (x : ApiAlter) (Q : (ApiAlter × Int) → Prop) : Prop :=
  x.fNext.length ≤ 9223372036854775807 →
  x.fMark.length ≤ 9223372036854775807 →
  (IfP ((altErr x) != 0) (Q ((ApiAlter.mk 0 0 [] []), (altErr x))) (∃ (Inv : Int → (List Int) → (List (List (List (List Int)))) → Prop) (mu : Int → (List Int) → (List (List (List (List Int)))) → Nat), Inv 0 ([] : (List Int)) ([] : (List (List (List (List Int))))) ∧
  ∀ (x33 : Int) (l3 : (List Int)) (l14 : (List (List (List (List Int))))) , Inv x33 l3 l14 → (IfP (decide (x33 < (x.fNext.length : Int))) (∃ e, idx x.fNext x33 = some e ∧
  ∃ e_2, idx x.fMark x33 = some e_2 ∧
  capOk l3.length (([(wr (1 - e_2))] : (List Int)) : (List Int)).length 8 ∧
  ∃ (Inv_2 : Int → (List (List (List Int))) → Prop) (mu_2 : Int → (List (List (List Int))) → Nat), Inv_2 0 ([] : (List (List (List Int)))) ∧
  ∀ (x51 : Int) (l24 : (List (List (List Int)))) , Inv_2 x51 l24 → (IfP (decide (x51 < (e.length : Int))) (∃ e_3, idx e x51 = some e_3 ∧
  (0 ≤ (x.fNext.length : Int)) ∧
  ∃ (Inv_3 : Int → (List Int) → Prop) (mu_3 : Int → (List Int) → Nat), Inv_3 0 ([] : (List Int)) ∧
  ∀ (x59 : Int) (l27 : (List Int)) , Inv_3 x59 l27 → (IfP (decide (x59 < (wr (1 * (2 ^ (min ((x.fNext.length : Int)).toNat 64)))))) (∃ J : (List Int) → Prop, ((∀ x_ ∈ e_3, (fun l => ∀ p ∈ l, bitDom x59 p) x_) ∧
  ∃ J_2 : Bool → Prop, (IfP (!(e_3.any (fun l => !(l.any fun p => hasB x59 p)))) ((∀ x_ ∈ l27, (fun t => setDom t ∧ setDom x59) x_) ∧
  J_2 (!(l27.any (fun t => within x59 t)))) (J_2 false)) ∧
  (∀ (x72 : Bool), J_2 x72 → IfP x72 (capOk l27.length (([x59] : (List Int)) : (List Int)).length 8 ∧
  J (l27 ++ ([x59] : (List Int)))) (J l27))) ∧
  (∀ (l27_2 : (List Int)), J l27_2 → (Inv_3 (wr (x59 + 1)) l27_2 ∧ mu_3 (wr (x59 + 1)) l27_2 < mu_3 x59 l27))) (∃ (Inv_4 : Int → (List (List Int)) → Prop) (mu_4 : Int → (List (List Int)) → Nat), Inv_4 0 ([] : (List (List Int))) ∧
  ∀ (x80 : Int) (l31 : (List (List Int))) , Inv_4 x80 l31 → (IfP (decide (x80 < (l27.length : Int))) (∃ e_4, idx l27 x80 = some e_4 ∧
  ∃ (Inv_5 : Int → (List Int) → Prop) (mu_5 : Int → (List Int) → Nat), Inv_5 0 ([] : (List Int)) ∧
  ∀ (x87 : Int) (l33 : (List Int)) , Inv_5 x87 l33 → (IfP (decide (x87 < (x.fNext.length : Int))) (∃ J_3 : (List Int) → Prop, ((0 ≤ x87) ∧
  IfP ((bitsI .and .i64 (Int.fdiv e_4 (2 ^ (min (x87).toNat 64))) 1) == 1) (capOk l33.length (([x87] : (List Int)) : (List Int)).length 8 ∧
  J_3 (l33 ++ ([x87] : (List Int)))) (J_3 l33)) ∧
  (∀ (l33_2 : (List Int)), J_3 l33_2 → (Inv_5 (wr (x87 + 1)) l33_2 ∧ mu_5 (wr (x87 + 1)) l33_2 < mu_5 x87 l33))) (capOk l31.length (([l33] : (List (List Int))) : (List (List Int))).length 24 ∧
  (Inv_4 (wr (x80 + 1)) (l31 ++ ([l33] : (List (List Int)))) ∧ mu_4 (wr (x80 + 1)) (l31 ++ ([l33] : (List (List Int)))) < mu_4 x80 l31)))) (capOk l24.length (([l31] : (List (List (List Int)))) : (List (List (List Int)))).length 24 ∧
  (Inv_2 (wr (x51 + 1)) (l24 ++ ([l31] : (List (List (List Int))))) ∧ mu_2 (wr (x51 + 1)) (l24 ++ ([l31] : (List (List (List Int))))) < mu_2 x51 l24)))))) (capOk l14.length (([l24] : (List (List (List (List Int))))) : (List (List (List (List Int))))).length 24 ∧
  (Inv (wr (x33 + 1)) (l3 ++ ([(wr (1 - e_2))] : (List Int))) (l14 ++ ([l24] : (List (List (List (List Int)))))) ∧ mu (wr (x33 + 1)) (l3 ++ ([(wr (1 - e_2))] : (List Int))) (l14 ++ ([l24] : (List (List (List (List Int)))))) < mu x33 l3 l14)))) (Q ((ApiAlter.mk x.fLetters x.fStart l14 l3), 0)))))
theorem altOther_walk (x : ApiAlter) (Q : (ApiAlter × Int) → Prop) (h : altOther_vc x Q) : Ct 33 [.sv (.agg [I x.fLetters, I x.fStart, LS (lsT (lsT (lsT intT))) x.fNext, LS intT x.fMark])] [] Q (fun (r : (ApiAlter × Int)) => .tup [.agg [I r.1.fLetters, I r.1.fStart, LS (lsT (lsT (lsT intT))) r.1.fNext, LS intT r.1.fMark], .one (I r.2)]) := by
  have ht := tab_ok
  refine Ct.body Try.func33 rfl rfl rfl rfl (fun c hn => ?_)
  unfold altOther_vc at h
  refine En.lenA 0 2 (by rfl) (by rfl) (fun hl => ?_)
  replace h := h hl
  clear hl
  refine En.lenA 0 3 (by rfl) (by rfl) (fun hl => ?_)
  replace h := h hl
  clear hl
  refine En.seq ?_
  refine En.region ?_
  refine WL.run ht hn 3 ⟨[(1, .sv (.one (.ptr 0 0))), (2, .sv (.one (.ptr 1 0)))], [.box [I x.fLetters, I x.fStart, LS (lsT (lsT (lsT intT))) x.fNext, LS intT x.fMark] 77 false, .box [I 0, I 0, .v (.slice none 0 0), .v (.slice none 0 0)] 77 false]⟩ (by kernel_rfl) ?_
  refine WL.nil ?_
  refine En.seq ?_
  refine En.seq ?_
  refine En.region ?_
  refine WL.run ht hn 1 ⟨[(1, .sv (.one (.ptr 0 0))), (2, .sv (.one (.ptr 1 0))), (19, .sv (.agg [I x.fLetters, I x.fStart, LS (lsT (lsT (lsT intT))) x.fNext, LS intT x.fMark]))], [.box [I x.fLetters, I x.fStart, LS (lsT (lsT (lsT intT))) x.fNext, LS intT x.fMark] 77 false, .box [I 0, I 0, .v (.slice none 0 0), .v (.slice none 0 0)] 77 false]⟩ (by kernel_rfl) ?_
  refine WL.mt0 (K := []) (p := none) hn (by rfl) (mt_call (altCheck_ct x) en70 (caps := []) [] rfl (by rfl) (by kernel_rfl) (by kernel_rfl) (by rfl) (by rfl) (by rfl)) (by rfl) (by rfl) (by rfl) ?_
  refine WL.run ht hn 1 ⟨[(1, .sv (.one (.ptr 0 0))), (2, .sv (.one (.ptr 1 0))), (4, .sv (.one (I (altErr x))))], [.box [I x.fLetters, I x.fStart, LS (lsT (lsT (lsT intT))) x.fNext, LS intT x.fMark] 77 false, .box [I 0, I 0, .v (.slice none 0 0), .v (.slice none 0 0)] 77 false]⟩ (by kernel_rfl) ?_
  refine WL.nil ?_
  refine En.seq ?_
  refine En.region ?_
  refine WL.run ht hn 2 ⟨[(1, .sv (.one (.ptr 0 0))), (2, .sv (.one (.ptr 1 0))), (4, .sv (.one (I (altErr x)))), (22, .sv (.one (B ((altErr x) != 0))))], [.box [I x.fLetters, I x.fStart, LS (lsT (lsT (lsT intT))) x.fNext, LS intT x.fMark] 77 false, .box [I 0, I 0, .v (.slice none 0 0), .v (.slice none 0 0)] 77 false]⟩ (by kernel_rfl) ?_
  refine WL.nil ?_
  refine En.cond (b := ((altErr x) != 0)) (by kernel_rfl) (fun hb => ?_) (fun hb => ?_)
  · replace h := h.1 hb
    refine En.seq ?_
    refine En.region ?_
    refine WL.run ht hn 4 ⟨[(2, .sv (.one (.ptr 1 0))), (3, .sv (.one (I (altErr x))))], [.gone, .box [I 0, I 0, .v (.slice none 0 0), .v (.slice none 0 0)] 77 false]⟩ (by kernel_rfl) ?_
    refine WL.nil ?_
    refine En.ret ?_
    refine En.nilBox (T := (lsT (lsT (lsT intT)))) 1 2 (by rfl) (by rfl) ?_
    refine En.nilBox (T := intT) 1 3 (by rfl) (by rfl) ?_
    exact En.back ht ((ApiAlter.mk 0 0 [] []), (altErr x)) h (by kernel_rfl) rfl
  · replace h := h.2 hb
    refine En.skip ?_
    refine En.seq ?_
    refine En.region ?_
    refine WL.run ht hn 7 ⟨[(1, .sv (.one (.ptr 0 0))), (2, .sv (.one (.ptr 1 0))), (5, .sv (.one (.ptr 2 0)))], [.box [I x.fLetters, I x.fStart, LS (lsT (lsT (lsT intT))) x.fNext, LS intT x.fMark] 77 false, .box [I 0, I 0, .v (.slice none 0 0), .v (.slice none 0 0)] 77 false, .box [I x.fLetters, I x.fStart, .v (.slice none 0 0), .v (.slice none 0 0)] 77 false]⟩ (by kernel_rfl) ?_
    refine WL.nil ?_
    refine En.seq ?_
    refine En.seq ?_
    refine En.region ?_
    refine WL.run ht hn 4 ⟨[(1, .sv (.one (.ptr 0 0))), (2, .sv (.one (.ptr 1 0))), (5, .sv (.one (.ptr 2 0))), (31, .sv (.one (LS (lsT (lsT (lsT intT))) x.fNext))), (32, .sv (.one (I (x.fNext.length : Int)))), (33, .sv (.one (I 0)))], [.box [I x.fLetters, I x.fStart, LS (lsT (lsT (lsT intT))) x.fNext, LS intT x.fMark] 77 false, .box [I 0, I 0, .v (.slice none 0 0), .v (.slice none 0 0)] 77 false, .box [I x.fLetters, I x.fStart, .v (.slice none 0 0), .v (.slice none 0 0)] 77 false]⟩ (by kernel_rfl) ?_
    refine WL.nil ?_
    refine En.block ?_
    refine En.nilBoxO (T := (lsT (lsT (lsT intT)))) 2 2 14 78 (by rfl) (by rfl) (by rfl) (by rfl) ?_
    refine En.nilBoxO (T := intT) 2 3 3 3 (by rfl) (by rfl) (by rfl) (by rfl) ?_
    obtain ⟨Inv, mu, h0_5, hI_5⟩ := h
    refine En.loop (σ := Int × (List Int) × (List (List (List (List Int))))) (fun zz => Inv zz.1 zz.2.1 zz.2.2) (fun zz => mu zz.1 zz.2.1 zz.2.2) (fun zz => ⟨[(1, .sv (.one (.ptr 0 0))), (2, .sv (.one (.ptr 1 0))), (5, .sv (.one (.ptr 2 0))), (31, .sv (.one (LS (lsT (lsT (lsT intT))) x.fNext))), (32, .sv (.one (I (x.fNext.length : Int)))), (33, .sv (.one (I zz.1)))], [.box [I x.fLetters, I x.fStart, LS (lsT (lsT (lsT intT))) x.fNext, LS intT x.fMark] 77 false, .box [I 0, I 0, .v (.slice none 0 0), .v (.slice none 0 0)] 77 false, .box [I x.fLetters, I x.fStart, .own 14, .own 3] 77 false, rowI 3 intT zz.2.1, .gone, .gone, .gone, .gone, .gone, .gone, .gone, .gone, .gone, .gone, rowI 78 (lsT (lsT (lsT intT))) zz.2.2]⟩) (0, ([] : (List Int)), ([] : (List (List (List (List Int)))))) h0_5 (sub_ok (by kernel_rfl)) ?_
    rintro ⟨x33, l3, l14⟩ h
    replace h := hI_5 _ _ _ h
    show En c ⟨[(1, .sv (.one (.ptr 0 0))), (2, .sv (.one (.ptr 1 0))), (5, .sv (.one (.ptr 2 0))), (31, .sv (.one (LS (lsT (lsT (lsT intT))) x.fNext))), (32, .sv (.one (I (x.fNext.length : Int)))), (33, .sv (.one (I x33)))], [.box [I x.fLetters, I x.fStart, LS (lsT (lsT (lsT intT))) x.fNext, LS intT x.fMark] 77 false, .box [I 0, I 0, .v (.slice none 0 0), .v (.slice none 0 0)] 77 false, .box [I x.fLetters, I x.fStart, .own 14, .own 3] 77 false, rowI 3 intT l3, .gone, .gone, .gone, .gone, .gone, .gone, .gone, .gone, .gone, .gone, rowI 78 (lsT (lsT (lsT intT))) l14]⟩ _
    refine En.seq ?_
    refine En.region ?_
    refine WL.run ht hn 1 ⟨[(1, .sv (.one (.ptr 0 0))), (2, .sv (.one (.ptr 1 0))), (5, .sv (.one (.ptr 2 0))), (31, .sv (.one (LS (lsT (lsT (lsT intT))) x.fNext))), (32, .sv (.one (I (x.fNext.length : Int)))), (33, .sv (.one (I x33))), (34, .sv (.one (B (decide (x33 < (x.fNext.length : Int))))))], [.box [I x.fLetters, I x.fStart, LS (lsT (lsT (lsT intT))) x.fNext, LS intT x.fMark] 77 false, .box [I 0, I 0, .v (.slice none 0 0), .v (.slice none 0 0)] 77 false, .box [I x.fLetters, I x.fStart, .own 14, .own 3] 77 false, rowI 3 intT l3, .gone, .gone, .gone, .gone, .gone, .gone, .gone, .gone, .gone, .gone, rowI 78 (lsT (lsT (lsT intT))) l14]⟩ (by kernel_rfl) ?_
    refine WL.nil ?_
    refine En.seq ?_
    refine En.cond (b := (decide (x33 < (x.fNext.length : Int)))) (by kernel_rfl) (fun hb => ?_) (fun hb => ?_)
    · replace h := h.1 hb
      refine En.skip ?_
      refine En.seq ?_
      refine En.block ?_
      refine En.seq ?_
      refine En.region ?_
      refine WL.run ht hn 1 ⟨[(1, .sv (.one (.ptr 0 0))), (2, .sv (.one (.ptr 1 0))), (5, .sv (.one (.ptr 2 0))), (31, .sv (.one (LS (lsT (lsT (lsT intT))) x.fNext))), (32, .sv (.one (I (x.fNext.length : Int)))), (33, .sv (.one (I x33))), (35, .sv (.one (I x33)))], [.box [I x.fLetters, I x.fStart, LS (lsT (lsT (lsT intT))) x.fNext, LS intT x.fMark] 77 false, .box [I 0, I 0, .v (.slice none 0 0), .v (.slice none 0 0)] 77 false, .box [I x.fLetters, I x.fStart, .own 14, .own 3] 77 false, rowI 3 intT l3, .gone, .gone, .gone, .gone, .gone, .gone, .gone, .gone, .gone, .gone, rowI 78 (lsT (lsT (lsT intT))) l14]⟩ (by kernel_rfl) ?_
      obtain ⟨e, he, h⟩ := h
      refine WL.val hn (by rfl) (val_index (T := (lsT (lsT (lsT intT)))) (l := x.fNext) (i := x33) ht rfl (by rfl) (by rfl) (by rfl) (by rfl) (by rfl) (by rfl) he) (by rfl) ?_
      refine WL.val hn (by rfl) (val_load (s := .one (LS (lsT (lsT intT)) e)) ht rfl (by rfl) (by rfl) (by rfl) (by rfl) (by rfl)) (by rfl) ?_
      refine WL.run ht hn 2 ⟨[(1, .sv (.one (.ptr 0 0))), (2, .sv (.one (.ptr 1 0))), (5, .sv (.one (.ptr 2 0))), (6, .sv (.one (I x33))), (7, .sv (.one (LS (lsT (lsT intT)) e))), (31, .sv (.one (LS (lsT (lsT (lsT intT))) x.fNext))), (32, .sv (.one (I (x.fNext.length : Int)))), (33, .sv (.one (I x33)))], [.box [I x.fLetters, I x.fStart, LS (lsT (lsT (lsT intT))) x.fNext, LS intT x.fMark] 77 false, .box [I 0, I 0, .v (.slice none 0 0), .v (.slice none 0 0)] 77 false, .box [I x.fLetters, I x.fStart, .own 14, .own 3] 77 false, rowI 3 intT l3, .gone, .gone, .gone, .gone, .gone, .gone, .gone, .gone, .gone, .gone, rowI 78 (lsT (lsT (lsT intT))) l14]⟩ (by kernel_rfl) ?_
      refine WL.nil ?_
      refine En.seq ?_
      obtain ⟨e_2, he_2, h⟩ := h
      have hp_2 := h.1
      replace h := h.2
      refine En.regionA ⟨[(1, .sv (.one (.ptr 0 0))), (2, .sv (.one (.ptr 1 0))), (5, .sv (.one (.ptr 2 0))), (6, .sv (.one (I x33))), (7, .sv (.one (LS (lsT (lsT intT)) e))), (31, .sv (.one (LS (lsT (lsT (lsT intT))) x.fNext))), (32, .sv (.one (I (x.fNext.length : Int)))), (33, .sv (.one (I x33)))], [.sv (.one (.ptr 2 3)), .sv (.one (.own 3)), .sv (.one (.ptr 0 3)), .sv (.one (LS intT x.fMark)), .sv (.one (I x33)), .sv (.one (.pe (svR (.one (I e_2))) 1)), .sv (.one (I e_2)), .sv (.one (I (wr (1 - e_2)))), .sv (.one (LS intT ([(wr (1 - e_2))] : (List Int)))), .sv (.one (.own 15)), .sv (.one (.ptr 2 3)), .tup []], [⟨.box [I x.fLetters, I x.fStart, LS (lsT (lsT (lsT intT))) x.fNext, LS intT x.fMark] 77 false, none, none, none⟩, ⟨.box [I 0, I 0, .v (.slice none 0 0), .v (.slice none 0 0)] 77 false, none, none, none⟩, ⟨.box [I x.fLetters, I x.fStart, .own 14, .own 3] 77 false, none, none, some (11, .box [I x.fLetters, I x.fStart, .own 14, .own 15] 77 false)⟩, ⟨rowI 3 intT l3, none, some 9, none⟩, ⟨.gone, none, none, none⟩, ⟨.gone, none, none, none⟩, ⟨.gone, none, none, none⟩, ⟨.gone, none, none, none⟩, ⟨.gone, none, none, none⟩, ⟨.gone, none, none, none⟩, ⟨.gone, none, none, none⟩, ⟨.gone, none, none, none⟩, ⟨.gone, none, none, none⟩, ⟨.gone, none, none, none⟩, ⟨rowI 78 (lsT (lsT (lsT intT))) l14, none, none, none⟩, ⟨rowI 3 intT (l3 ++ ([(wr (1 - e_2))] : (List Int))), some 9, none, none⟩]⟩ ⟨[(1, .sv (.one (.ptr 0 0))), (2, .sv (.one (.ptr 1 0))), (5, .sv (.one (.ptr 2 0))), (7, .sv (.one (LS (lsT (lsT intT)) e))), (31, .sv (.one (LS (lsT (lsT (lsT intT))) x.fNext))), (32, .sv (.one (I (x.fNext.length : Int)))), (33, .sv (.one (I x33)))], [.box [I x.fLetters, I x.fStart, LS (lsT (lsT (lsT intT))) x.fNext, LS intT x.fMark] 77 false, .box [I 0, I 0, .v (.slice none 0 0), .v (.slice none 0 0)] 77 false, .box [I x.fLetters, I x.fStart, .own 14, .own 15] 77 false, .gone, .gone, .gone, .gone, .gone, .gone, .gone, .gone, .gone, .gone, .gone, rowI 78 (lsT (lsT (lsT intT))) l14, rowI 3 intT (l3 ++ ([(wr (1 - e_2))] : (List Int)))]⟩ (by kernel_rfl) hn (by kernel_rfl) (by rfl) (by kernel_rfl) ?_ (by kernel_rfl) ?_
      · exact ⟨.mt ⟨[(5, .sv (.one (.ptr 2 0)))], []⟩ [] none (by kernel_rfl) (by rfl) (mt_ev ht (by kernel_rfl)) rfl rfl rfl rfl,
    .mt ⟨[(38, .sv (.one (.ptr 2 3)))], [.gone, .gone, .box [I x.fLetters, I x.fStart, .own 14, .own 3] 77 false]⟩ [] none (by kernel_rfl) (by rfl) (mt_ev ht (by kernel_rfl)) rfl rfl rfl rfl,
    .mt ⟨[(1, .sv (.one (.ptr 0 0)))], []⟩ [] none (by kernel_rfl) (by rfl) (mt_ev ht (by kernel_rfl)) rfl rfl rfl rfl,
    .mt ⟨[(40, .sv (.one (.ptr 0 3)))], [.box [I x.fLetters, I x.fStart, LS (lsT (lsT (lsT intT))) x.fNext, LS intT x.fMark] 77 false]⟩ [] none (by kernel_rfl) (by rfl) (mt_ev ht (by kernel_rfl)) rfl rfl rfl rfl,
    .mt ⟨[(6, .sv (.one (I x33)))], []⟩ [] none (by kernel_rfl) (by rfl) (mt_ev ht (by kernel_rfl)) rfl rfl rfl rfl,
    .mt ⟨[(41, .sv (.one (LS intT x.fMark))), (42, .sv (.one (I x33)))], []⟩ [] none (by kernel_rfl) (by rfl) (mt_val (val_index (T := intT) (l := x.fMark) (i := x33) ht rfl (by rfl) (by rfl) (by rfl) (by rfl) (by rfl) (by rfl) he_2)) rfl rfl rfl rfl,
    .mt ⟨[(43, .sv (.one (.pe (svR (.one (I e_2))) 1)))], []⟩ [] none (by kernel_rfl) (by rfl) (mt_val (val_load (s := .one (I e_2)) ht rfl (by rfl) (by rfl) (by rfl) (by rfl) (by rfl))) rfl rfl rfl rfl,
    .mt ⟨[(44, .sv (.one (I e_2)))], []⟩ [] none (by kernel_rfl) (by rfl) (mt_ev ht (by kernel_rfl)) rfl rfl rfl rfl,
    .mt ⟨[(45, .sv (.one (I (wr (1 - e_2)))))], []⟩ [] none (by kernel_rfl) (by rfl) (mt_seal (q := 15) (e := 3) (mt_lit (T := intT) ([(wr (1 - e_2))] : (List Int)) (mt_bsl 15 (r := cellsOf intT ([(wr (1 - e_2))] : (List Int))) ht rfl (by rfl) (by rfl) (by rfl) (by kernel_rfl) (by rfl)) (fun _ h => by cases h) (fun _ => rfl) (fun _ => rfl) (by rfl) (Nat.le_of_ble_eq_true rfl))) rfl rfl rfl rfl,
    .mt ⟨[(39, .sv (.one (.own 3))), (46, .sv (.one (LS intT ([(wr (1 - e_2))] : (List Int)))))], [.gone, .gone, .gone, rowI 3 intT l3]⟩ [3] (some 15) (by kernel_rfl) (by rfl) (mt_append (T := intT) (l := l3) (es := ([(wr (1 - e_2))] : (List Int))) (p := 15) ht rfl (by rfl) (by rfl) (by rfl) (by rfl) (by decide) (by rfl) (by rfl) (srcLS (T := intT) (es := ([(wr (1 - e_2))] : (List Int))) (fun _ h => by cases h) (by decide) (by rfl)) (by exact hp_2) (by exact hp_2.le (by decide))) rfl rfl rfl rfl,
    .mt ⟨[(5, .sv (.one (.ptr 2 0)))], []⟩ [] none (by kernel_rfl) (by rfl) (mt_ev ht (by kernel_rfl)) rfl rfl rfl rfl,
    .mu ⟨[(47, .sv (.one (.own 15))), (48, .sv (.one (.ptr 2 3)))], [.gone, .gone, .box [I x.fLetters, I x.fStart, .own 14, .own 3] 77 false]⟩ 2 _ _ rfl rfl (by kernel_rfl) (by rfl) (mu_store2 ht rfl (by rfl) (by rfl) (by rfl) (by rfl) (fun h => by cases h) (by rfl) (by rfl)) rfl rfl rfl rfl rfl rfl rfl,
    trivial⟩
      · refine En.seq ?_
        refine En.region ?_
        refine WL.run ht hn 1 ⟨[(1, .sv (.one (.ptr 0 0))), (2, .sv (.one (.ptr 1 0))), (5, .sv (.one (.ptr 2 0))), (7, .sv (.one (LS (lsT (lsT intT)) e))), (8, .sv (.one (.v (.slice none 0 0)))), (31, .sv (.one (LS (lsT (lsT (lsT intT))) x.fNext))), (32, .sv (.one (I (x.fNext.length : Int)))), (33, .sv (.one (I x33)))], [.box [I x.fLetters, I x.fStart, LS (lsT (lsT (lsT intT))) x.fNext, LS intT x.fMark] 77 false, .box [I 0, I 0, .v (.slice none 0 0), .v (.slice none 0 0)] 77 false, .box [I x.fLetters, I x.fStart, .own 14, .own 15] 77 false, .gone, .gone, .gone, .gone, .gone, .gone, .gone, .gone, .gone, .gone, .gone, rowI 78 (lsT (lsT (lsT intT))) l14, rowI 3 intT (l3 ++ ([(wr (1 - e_2))] : (List Int)))]⟩ (by kernel_rfl) ?_
        refine WL.nil ?_
        refine En.seq ?_
        refine En.seq ?_
        refine En.region ?_
        refine WL.run ht hn 3 ⟨[(1, .sv (.one (.ptr 0 0))), (2, .sv (.one (.ptr 1 0))), (5, .sv (.one (.ptr 2 0))), (8, .sv (.one (.v (.slice none 0 0)))), (31, .sv (.one (LS (lsT (lsT (lsT intT))) x.fNext))), (32, .sv (.one (I (x.fNext.length : Int)))), (33, .sv (.one (I x33))), (49, .sv (.one (LS (lsT (lsT intT)) e))), (50, .sv (.one (I (e.length : Int)))), (51, .sv (.one (I 0)))], [.box [I x.fLetters, I x.fStart, LS (lsT (lsT (lsT intT))) x.fNext, LS intT x.fMark] 77 false, .box [I 0, I 0, .v (.slice none 0 0), .v (.slice none 0 0)] 77 false, .box [I x.fLetters, I x.fStart, .own 14, .own 15] 77 false, .gone, .gone, .gone, .gone, .gone, .gone, .gone, .gone, .gone, .gone, .gone, rowI 78 (lsT (lsT (lsT intT))) l14, rowI 3 intT (l3 ++ ([(wr (1 - e_2))] : (List Int)))]⟩ (by kernel_rfl) ?_
        refine WL.nil ?_
        refine En.block ?_
        refine En.rowNil 8 24 42 (lsT (lsT intT)) (by rfl) (by rfl) ?_
        obtain ⟨Inv_2, mu_2, h0_4, hI_4⟩ := h
        refine En.loop (σ := Int × (List (List (List Int)))) (fun zz => Inv_2 zz.1 zz.2) (fun zz => mu_2 zz.1 zz.2) (fun zz => ⟨[(1, .sv (.one (.ptr 0 0))), (2, .sv (.one (.ptr 1 0))), (5, .sv (.one (.ptr 2 0))), (8, .sv (.one (.own 24))), (31, .sv (.one (LS (lsT (lsT (lsT intT))) x.fNext))), (32, .sv (.one (I (x.fNext.length : Int)))), (33, .sv (.one (I x33))), (49, .sv (.one (LS (lsT (lsT intT)) e))), (50, .sv (.one (I (e.length : Int)))), (51, .sv (.one (I zz.1)))], [.box [I x.fLetters, I x.fStart, LS (lsT (lsT (lsT intT))) x.fNext, LS intT x.fMark] 77 false, .box [I 0, I 0, .v (.slice none 0 0), .v (.slice none 0 0)] 77 false, .box [I x.fLetters, I x.fStart, .own 14, .own 15] 77 false, .gone, .gone, .gone, .gone, .gone, .gone, .gone, .gone, .gone, .gone, .gone, rowI 78 (lsT (lsT (lsT intT))) l14, rowI 3 intT (l3 ++ ([(wr (1 - e_2))] : (List Int))), .gone, .gone, .gone, .gone, .gone, .gone, .gone, .gone, rowI 42 (lsT (lsT intT)) zz.2]⟩) (0, ([] : (List (List (List Int))))) h0_4 (sub_ok (by kernel_rfl)) ?_
        rintro ⟨x51, l24⟩ h
        replace h := hI_4 _ _ h
        show En c ⟨[(1, .sv (.one (.ptr 0 0))), (2, .sv (.one (.ptr 1 0))), (5, .sv (.one (.ptr 2 0))), (8, .sv (.one (.own 24))), (31, .sv (.one (LS (lsT (lsT (lsT intT))) x.fNext))), (32, .sv (.one (I (x.fNext.length : Int)))), (33, .sv (.one (I x33))), (49, .sv (.one (LS (lsT (lsT intT)) e))), (50, .sv (.one (I (e.length : Int)))), (51, .sv (.one (I x51)))], [.box [I x.fLetters, I x.fStart, LS (lsT (lsT (lsT intT))) x.fNext, LS intT x.fMark] 77 false, .box [I 0, I 0, .v (.slice none 0 0), .v (.slice none 0 0)] 77 false, .box [I x.fLetters, I x.fStart, .own 14, .own 15] 77 false, .gone, .gone, .gone, .gone, .gone, .gone, .gone, .gone, .gone, .gone, .gone, rowI 78 (lsT (lsT (lsT intT))) l14, rowI 3 intT (l3 ++ ([(wr (1 - e_2))] : (List Int))), .gone, .gone, .gone, .gone, .gone, .gone, .gone, .gone, rowI 42 (lsT (lsT intT)) l24]⟩ _
        refine En.seq ?_
        refine En.region ?_
        refine WL.run ht hn 1 ⟨[(1, .sv (.one (.ptr 0 0))), (2, .sv (.one (.ptr 1 0))), (5, .sv (.one (.ptr 2 0))), (8, .sv (.one (.own 24))), (31, .sv (.one (LS (lsT (lsT (lsT intT))) x.fNext))), (32, .sv (.one (I (x.fNext.length : Int)))), (33, .sv (.one (I x33))), (49, .sv (.one (LS (lsT (lsT intT)) e))), (50, .sv (.one (I (e.length : Int)))), (51, .sv (.one (I x51))), (52, .sv (.one (B (decide (x51 < (e.length : Int))))))], [.box [I x.fLetters, I x.fStart, LS (lsT (lsT (lsT intT))) x.fNext, LS intT x.fMark] 77 false, .box [I 0, I 0, .v (.slice none 0 0), .v (.slice none 0 0)] 77 false, .box [I x.fLetters, I x.fStart, .own 14, .own 15] 77 false, .gone, .gone, .gone, .gone, .gone, .gone, .gone, .gone, .gone, .gone, .gone, rowI 78 (lsT (lsT (lsT intT))) l14, rowI 3 intT (l3 ++ ([(wr (1 - e_2))] : (List Int))), .gone, .gone, .gone, .gone, .gone, .gone, .gone, .gone, rowI 42 (lsT (lsT intT)) l24]⟩ (by kernel_rfl) ?_
        refine WL.nil ?_
        refine En.seq ?_
        refine En.cond (b := (decide (x51 < (e.length : Int)))) (by kernel_rfl) (fun hb => ?_) (fun hb => ?_)
        · replace h := h.1 hb
          refine En.skip ?_
          refine En.seq ?_
          refine En.block ?_
          refine En.seq ?_
          refine En.region ?_
          obtain ⟨e_3, he_3, h⟩ := h
          refine WL.val hn (by rfl) (val_index (T := (lsT (lsT intT))) (l := e) (i := x51) ht rfl (by rfl) (by rfl) (by rfl) (by rfl) (by rfl) (by rfl) he_3) (by rfl) ?_
          refine WL.val hn (by rfl) (val_load (s := .one (LS (lsT intT) e_3)) ht rfl (by rfl) (by rfl) (by rfl) (by rfl) (by rfl)) (by rfl) ?_
          refine WL.run ht hn 1 ⟨[(1, .sv (.one (.ptr 0 0))), (2, .sv (.one (.ptr 1 0))), (5, .sv (.one (.ptr 2 0))), (8, .sv (.one (.own 24))), (10, .sv (.one (LS (lsT intT) e_3))), (31, .sv (.one (LS (lsT (lsT (lsT intT))) x.fNext))), (32, .sv (.one (I (x.fNext.length : Int)))), (33, .sv (.one (I x33))), (49, .sv (.one (LS (lsT (lsT intT)) e))), (50, .sv (.one (I (e.length : Int)))), (51, .sv (.one (I x51)))], [.box [I x.fLetters, I x.fStart, LS (lsT (lsT (lsT intT))) x.fNext, LS intT x.fMark] 77 false, .box [I 0, I 0, .v (.slice none 0 0), .v (.slice none 0 0)] 77 false, .box [I x.fLetters, I x.fStart, .own 14, .own 15] 77 false, .gone, .gone, .gone, .gone, .gone, .gone, .gone, .gone, .gone, .gone, .gone, rowI 78 (lsT (lsT (lsT intT))) l14, rowI 3 intT (l3 ++ ([(wr (1 - e_2))] : (List Int))), .gone, .gone, .gone, .gone, .gone, .gone, .gone, .gone, rowI 42 (lsT (lsT intT)) l24]⟩ (by kernel_rfl) ?_
          refine WL.nil ?_
          refine En.seq ?_
          refine En.region ?_
          refine WL.run ht hn 1 ⟨[(1, .sv (.one (.ptr 0 0))), (2, .sv (.one (.ptr 1 0))), (5, .sv (.one (.ptr 2 0))), (8, .sv (.one (.own 24))), (10, .sv (.one (LS (lsT intT) e_3))), (11, .sv (.one (.v (.slice none 0 0)))), (31, .sv (.one (LS (lsT (lsT (lsT intT))) x.fNext))), (32, .sv (.one (I (x.fNext.length : Int)))), (33, .sv (.one (I x33))), (49, .sv (.one (LS (lsT (lsT intT)) e))), (50, .sv (.one (I (e.length : Int)))), (51, .sv (.one (I x51)))], [.box [I x.fLetters, I x.fStart, LS (lsT (lsT (lsT intT))) x.fNext, LS intT x.fMark] 77 false, .box [I 0, I 0, .v (.slice none 0 0), .v (.slice none 0 0)] 77 false, .box [I x.fLetters, I x.fStart, .own 14, .own 15] 77 false, .gone, .gone, .gone, .gone, .gone, .gone, .gone, .gone, .gone, .gone, .gone, rowI 78 (lsT (lsT (lsT intT))) l14, rowI 3 intT (l3 ++ ([(wr (1 - e_2))] : (List Int))), .gone, .gone, .gone, .gone, .gone, .gone, .gone, .gone, rowI 42 (lsT (lsT intT)) l24]⟩ (by kernel_rfl) ?_
          refine WL.nil ?_
          refine En.seq ?_
          refine En.seq ?_
          refine En.region ?_
          refine WL.run ht hn 3 ⟨[(1, .sv (.one (.ptr 0 0))), (2, .sv (.one (.ptr 1 0))), (5, .sv (.one (.ptr 2 0))), (8, .sv (.one (.own 24))), (10, .sv (.one (LS (lsT intT) e_3))), (11, .sv (.one (.v (.slice none 0 0)))), (31, .sv (.one (LS (lsT (lsT (lsT intT))) x.fNext))), (32, .sv (.one (I (x.fNext.length : Int)))), (33, .sv (.one (I x33))), (49, .sv (.one (LS (lsT (lsT intT)) e))), (50, .sv (.one (I (e.length : Int)))), (51, .sv (.one (I x51))), (57, .sv (.one (I (x.fNext.length : Int))))], [.box [I x.fLetters, I x.fStart, LS (lsT (lsT (lsT intT))) x.fNext, LS intT x.fMark] 77 false, .box [I 0, I 0, .v (.slice none 0 0), .v (.slice none 0 0)] 77 false, .box [I x.fLetters, I x.fStart, .own 14, .own 15] 77 false, .gone, .gone, .gone, .gone, .gone, .gone, .gone, .gone, .gone, .gone, .gone, rowI 78 (lsT (lsT (lsT intT))) l14, rowI 3 intT (l3 ++ ([(wr (1 - e_2))] : (List Int))), .gone, .gone, .gone, .gone, .gone, .gone, .gone, .gone, rowI 42 (lsT (lsT intT)) l24]⟩ (by kernel_rfl) ?_
          have hz := h.1
          replace h := h.2
          refine WL.val hn (by rfl) (val_shift (u := 1) (v := (x.fNext.length : Int)) rfl (by rfl) (by rfl) hz (.inl ⟨rfl, rfl⟩)) (by rfl) ?_
          refine WL.run ht hn 1 ⟨[(1, .sv (.one (.ptr 0 0))), (2, .sv (.one (.ptr 1 0))), (5, .sv (.one (.ptr 2 0))), (8, .sv (.one (.own 24))), (10, .sv (.one (LS (lsT intT) e_3))), (11, .sv (.one (.v (.slice none 0 0)))), (31, .sv (.one (LS (lsT (lsT (lsT intT))) x.fNext))), (32, .sv (.one (I (x.fNext.length : Int)))), (33, .sv (.one (I x33))), (49, .sv (.one (LS (lsT (lsT intT)) e))), (50, .sv (.one (I (e.length : Int)))), (51, .sv (.one (I x51))), (58, .sv (.one (I (wr (1 * (2 ^ (min ((x.fNext.length : Int)).toNat 64))))))), (59, .sv (.one (I 0)))], [.box [I x.fLetters, I x.fStart, LS (lsT (lsT (lsT intT))) x.fNext, LS intT x.fMark] 77 false, .box [I 0, I 0, .v (.slice none 0 0), .v (.slice none 0 0)] 77 false, .box [I x.fLetters, I x.fStart, .own 14, .own 15] 77 false, .gone, .gone, .gone, .gone, .gone, .gone, .gone, .gone, .gone, .gone, .gone, rowI 78 (lsT (lsT (lsT intT))) l14, rowI 3 intT (l3 ++ ([(wr (1 - e_2))] : (List Int))), .gone, .gone, .gone, .gone, .gone, .gone, .gone, .gone, rowI 42 (lsT (lsT intT)) l24]⟩ (by kernel_rfl) ?_
          refine WL.nil ?_
          refine En.block ?_
          refine En.rowNil 11 27 3 intT (by rfl) (by rfl) ?_
          obtain ⟨Inv_3, mu_3, h0_3, hI_3⟩ := h
          refine En.loop (σ := Int × (List Int)) (fun zz => Inv_3 zz.1 zz.2) (fun zz => mu_3 zz.1 zz.2) (fun zz => ⟨[(1, .sv (.one (.ptr 0 0))), (2, .sv (.one (.ptr 1 0))), (5, .sv (.one (.ptr 2 0))), (8, .sv (.one (.own 24))), (10, .sv (.one (LS (lsT intT) e_3))), (11, .sv (.one (.own 27))), (31, .sv (.one (LS (lsT (lsT (lsT intT))) x.fNext))), (32, .sv (.one (I (x.fNext.length : Int)))), (33, .sv (.one (I x33))), (49, .sv (.one (LS (lsT (lsT intT)) e))), (50, .sv (.one (I (e.length : Int)))), (51, .sv (.one (I x51))), (58, .sv (.one (I (wr (1 * (2 ^ (min ((x.fNext.length : Int)).toNat 64))))))), (59, .sv (.one (I zz.1)))], [.box [I x.fLetters, I x.fStart, LS (lsT (lsT (lsT intT))) x.fNext, LS intT x.fMark] 77 false, .box [I 0, I 0, .v (.slice none 0 0), .v (.slice none 0 0)] 77 false, .box [I x.fLetters, I x.fStart, .own 14, .own 15] 77 false, .gone, .gone, .gone, .gone, .gone, .gone, .gone, .gone, .gone, .gone, .gone, rowI 78 (lsT (lsT (lsT intT))) l14, rowI 3 intT (l3 ++ ([(wr (1 - e_2))] : (List Int))), .gone, .gone, .gone, .gone, .gone, .gone, .gone, .gone, rowI 42 (lsT (lsT intT)) l24, .gone, .gone, rowI 3 intT zz.2]⟩) (0, ([] : (List Int))) h0_3 (sub_ok (by kernel_rfl)) ?_
          rintro ⟨x59, l27⟩ h
          replace h := hI_3 _ _ h
          show En c ⟨[(1, .sv (.one (.ptr 0 0))), (2, .sv (.one (.ptr 1 0))), (5, .sv (.one (.ptr 2 0))), (8, .sv (.one (.own 24))), (10, .sv (.one (LS (lsT intT) e_3))), (11, .sv (.one (.own 27))), (31, .sv (.one (LS (lsT (lsT (lsT intT))) x.fNext))), (32, .sv (.one (I (x.fNext.length : Int)))), (33, .sv (.one (I x33))), (49, .sv (.one (LS (lsT (lsT intT)) e))), (50, .sv (.one (I (e.length : Int)))), (51, .sv (.one (I x51))), (58, .sv (.one (I (wr (1 * (2 ^ (min ((x.fNext.length : Int)).toNat 64))))))), (59, .sv (.one (I x59)))], [.box [I x.fLetters, I x.fStart, LS (lsT (lsT (lsT intT))) x.fNext, LS intT x.fMark] 77 false, .box [I 0, I 0, .v (.slice none 0 0), .v (.slice none 0 0)] 77 false, .box [I x.fLetters, I x.fStart, .own 14, .own 15] 77 false, .gone, .gone, .gone, .gone, .gone, .gone, .gone, .gone, .gone, .gone, .gone, rowI 78 (lsT (lsT (lsT intT))) l14, rowI 3 intT (l3 ++ ([(wr (1 - e_2))] : (List Int))), .gone, .gone, .gone, .gone, .gone, .gone, .gone, .gone, rowI 42 (lsT (lsT intT)) l24, .gone, .gone, rowI 3 intT l27]⟩ _
          refine En.seq ?_
          refine En.region ?_
          refine WL.run ht hn 1 ⟨[(1, .sv (.one (.ptr 0 0))), (2, .sv (.one (.ptr 1 0))), (5, .sv (.one (.ptr 2 0))), (8, .sv (.one (.own 24))), (10, .sv (.one (LS (lsT intT) e_3))), (11, .sv (.one (.own 27))), (31, .sv (.one (LS (lsT (lsT (lsT intT))) x.fNext))), (32, .sv (.one (I (x.fNext.length : Int)))), (33, .sv (.one (I x33))), (49, .sv (.one (LS (lsT (lsT intT)) e))), (50, .sv (.one (I (e.length : Int)))), (51, .sv (.one (I x51))), (58, .sv (.one (I (wr (1 * (2 ^ (min ((x.fNext.length : Int)).toNat 64))))))), (59, .sv (.one (I x59))), (60, .sv (.one (B (decide (x59 < (wr (1 * (2 ^ (min ((x.fNext.length : Int)).toNat 64)))))))))], [.box [I x.fLetters, I x.fStart, LS (lsT (lsT (lsT intT))) x.fNext, LS intT x.fMark] 77 false, .box [I 0, I 0, .v (.slice none 0 0), .v (.slice none 0 0)] 77 false, .box [I x.fLetters, I x.fStart, .own 14, .own 15] 77 false, .gone, .gone, .gone, .gone, .gone, .gone, .gone, .gone, .gone, .gone, .gone, rowI 78 (lsT (lsT (lsT intT))) l14, rowI 3 intT (l3 ++ ([(wr (1 - e_2))] : (List Int))), .gone, .gone, .gone, .gone, .gone, .gone, .gone, .gone, rowI 42 (lsT (lsT intT)) l24, .gone, .gone, rowI 3 intT l27]⟩ (by kernel_rfl) ?_
          refine WL.nil ?_
          refine En.seq ?_
          refine En.cond (b := (decide (x59 < (wr (1 * (2 ^ (min ((x.fNext.length : Int)).toNat 64))))))) (by kernel_rfl) (fun hb => ?_) (fun hb => ?_)
          · replace h := h.1 hb
            refine En.skip ?_
            obtain ⟨J, h, hJ⟩ := h
            refine En.seqJ (σ := (List Int)) (fun zz => J zz) (fun zz => ⟨[(1, .sv (.one (.ptr 0 0))), (2, .sv (.one (.ptr 1 0))), (5, .sv (.one (.ptr 2 0))), (8, .sv (.one (.own 24))), (10, .sv (.one (LS (lsT intT) e_3))), (11, .sv (.one (.own 27))), (31, .sv (.one (LS (lsT (lsT (lsT intT))) x.fNext))), (32, .sv (.one (I (x.fNext.length : Int)))), (33, .sv (.one (I x33))), (49, .sv (.one (LS (lsT (lsT intT)) e))), (50, .sv (.one (I (e.length : Int)))), (51, .sv (.one (I x51))), (58, .sv (.one (I (wr (1 * (2 ^ (min ((x.fNext.length : Int)).toNat 64))))))), (59, .sv (.one (I x59)))], [.box [I x.fLetters, I x.fStart, LS (lsT (lsT (lsT intT))) x.fNext, LS intT x.fMark] 77 false, .box [I 0, I 0, .v (.slice none 0 0), .v (.slice none 0 0)] 77 false, .box [I x.fLetters, I x.fStart, .own 14, .own 15] 77 false, .gone, .gone, .gone, .gone, .gone, .gone, .gone, .gone, .gone, .gone, .gone, rowI 78 (lsT (lsT (lsT intT))) l14, rowI 3 intT (l3 ++ ([(wr (1 - e_2))] : (List Int))), .gone, .gone, .gone, .gone, .gone, .gone, .gone, .gone, rowI 42 (lsT (lsT intT)) l24, .gone, .gone, rowI 3 intT zz, .gone]⟩) ?_ ?_
            · refine En.block ?_
              refine En.seq ?_
              refine En.region ?_
              refine WL.run ht hn 3 ⟨[(1, .sv (.one (.ptr 0 0))), (2, .sv (.one (.ptr 1 0))), (5, .sv (.one (.ptr 2 0))), (8, .sv (.one (.own 24))), (10, .sv (.one (LS (lsT intT) e_3))), (11, .sv (.one (.own 27))), (12, .sv (.one (.ptr 28 0))), (31, .sv (.one (LS (lsT (lsT (lsT intT))) x.fNext))), (32, .sv (.one (I (x.fNext.length : Int)))), (33, .sv (.one (I x33))), (49, .sv (.one (LS (lsT (lsT intT)) e))), (50, .sv (.one (I (e.length : Int)))), (51, .sv (.one (I x51))), (58, .sv (.one (I (wr (1 * (2 ^ (min ((x.fNext.length : Int)).toNat 64))))))), (59, .sv (.one (I x59)))], [.box [I x.fLetters, I x.fStart, LS (lsT (lsT (lsT intT))) x.fNext, LS intT x.fMark] 77 false, .box [I 0, I 0, .v (.slice none 0 0), .v (.slice none 0 0)] 77 false, .box [I x.fLetters, I x.fStart, .own 14, .own 15] 77 false, .gone, .gone, .gone, .gone, .gone, .gone, .gone, .gone, .gone, .gone, .gone, rowI 78 (lsT (lsT (lsT intT))) l14, rowI 3 intT (l3 ++ ([(wr (1 - e_2))] : (List Int))), .gone, .gone, .gone, .gone, .gone, .gone, .gone, .gone, rowI 42 (lsT (lsT intT)) l24, .gone, .gone, rowI 3 intT l27, .box [I x59] 3 false]⟩ (by kernel_rfl) ?_
              refine WL.nil ?_
              refine En.seq ?_
              refine En.region ?_
              refine WL.run ht hn 2 ⟨[(1, .sv (.one (.ptr 0 0))), (2, .sv (.one (.ptr 1 0))), (5, .sv (.one (.ptr 2 0))), (8, .sv (.one (.own 24))), (10, .sv (.one (LS (lsT intT) e_3))), (11, .sv (.one (.own 27))), (12, .sv (.one (.ptr 28 0))), (31, .sv (.one (LS (lsT (lsT (lsT intT))) x.fNext))), (32, .sv (.one (I (x.fNext.length : Int)))), (33, .sv (.one (I x33))), (49, .sv (.one (LS (lsT (lsT intT)) e))), (50, .sv (.one (I (e.length : Int)))), (51, .sv (.one (I x51))), (58, .sv (.one (I (wr (1 * (2 ^ (min ((x.fNext.length : Int)).toNat 64))))))), (59, .sv (.one (I x59))), (62, .sv (.one (LS (lsT intT) e_3))), (63, .sv (.one (.fn 78 [28])))], [.box [I x.fLetters, I x.fStart, LS (lsT (lsT (lsT intT))) x.fNext, LS intT x.fMark] 77 false, .box [I 0, I 0, .v (.slice none 0 0), .v (.slice none 0 0)] 77 false, .box [I x.fLetters, I x.fStart, .own 14, .own 15] 77 false, .gone, .gone, .gone, .gone, .gone, .gone, .gone, .gone, .gone, .gone, .gone, rowI 78 (lsT (lsT (lsT intT))) l14, rowI 3 intT (l3 ++ ([(wr (1 - e_2))] : (List Int))), .gone, .gone, .gone, .gone, .gone, .gone, .gone, .gone, rowI 42 (lsT (lsT intT)) l24, .gone, .gone, rowI 3 intT l27, .box [I x59] 3 false]⟩ (by kernel_rfl) ?_
              have hp := h.1
              replace h := h.2
              refine WL.mt0 (K := []) (p := none) hn (by rfl) (mt_lendF [28] (by rfl) (by rfl) (mt_ghost 63 (.sv (.one (.rd (fvR (fun (x_ : (List Int)) => [.sv (.one (LS intT x_))]) (fun (r : Bool) => .sv (.one (B r))) (fun l => ∀ p ∈ l, bitDom x59 p) (fun l => !(l.any fun p => hasB x59 p)))))) (by rfl) (fv_of (M := [.box [I x59] 3 true]) (caps := [28]) (fun x_ hx => otherA_ct x_ x59 hx) en78 rfl (by kernel_rfl) (by rfl) (fun _ => rfl)) (mt_call (anyLInt_ct e_3 (fun l => ∀ p ∈ l, bitDom x59 p) (fun l => !(l.any fun p => hasB x59 p)) hp) en77 (caps := []) [] rfl (by rfl) (by kernel_rfl) (by kernel_rfl) (by rfl) (by rfl) (by rfl)))) (by rfl) (by rfl) (by rfl) ?_
              refine WL.run ht hn 2 ⟨[(1, .sv (.one (.ptr 0 0))), (2, .sv (.one (.ptr 1 0))), (5, .sv (.one (.ptr 2 0))), (8, .sv (.one (.own 24))), (10, .sv (.one (LS (lsT intT) e_3))), (11, .sv (.one (.own 27))), (12, .sv (.one (.ptr 28 0))), (13, .sv (.one (B (!(e_3.any (fun l => !(l.any fun p => hasB x59 p))))))), (31, .sv (.one (LS (lsT (lsT (lsT intT))) x.fNext))), (32, .sv (.one (I (x.fNext.length : Int)))), (33, .sv (.one (I x33))), (49, .sv (.one (LS (lsT (lsT intT)) e))), (50, .sv (.one (I (e.length : Int)))), (51, .sv (.one (I x51))), (58, .sv (.one (I (wr (1 * (2 ^ (min ((x.fNext.length : Int)).toNat 64))))))), (59, .sv (.one (I x59)))], [.box [I x.fLetters, I x.fStart, LS (lsT (lsT (lsT intT))) x.fNext, LS intT x.fMark] 77 false, .box [I 0, I 0, .v (.slice none 0 0), .v (.slice none 0 0)] 77 false, .box [I x.fLetters, I x.fStart, .own 14, .own 15] 77 false, .gone, .gone, .gone, .gone, .gone, .gone, .gone, .gone, .gone, .gone, .gone, rowI 78 (lsT (lsT (lsT intT))) l14, rowI 3 intT (l3 ++ ([(wr (1 - e_2))] : (List Int))), .gone, .gone, .gone, .gone, .gone, .gone, .gone, .gone, rowI 42 (lsT (lsT intT)) l24, .gone, .gone, rowI 3 intT l27, .box [I x59] 3 false]⟩ (by kernel_rfl) ?_
              refine WL.nil ?_
              obtain ⟨J_2, h, hJ_2⟩ := h
              refine En.seqJ (σ := Bool) (fun zz => J_2 zz) (fun zz => ⟨[(1, .sv (.one (.ptr 0 0))), (2, .sv (.one (.ptr 1 0))), (5, .sv (.one (.ptr 2 0))), (8, .sv (.one (.own 24))), (10, .sv (.one (LS (lsT intT) e_3))), (11, .sv (.one (.own 27))), (12, .sv (.one (.ptr 28 0))), (31, .sv (.one (LS (lsT (lsT (lsT intT))) x.fNext))), (32, .sv (.one (I (x.fNext.length : Int)))), (33, .sv (.one (I x33))), (49, .sv (.one (LS (lsT (lsT intT)) e))), (50, .sv (.one (I (e.length : Int)))), (51, .sv (.one (I x51))), (58, .sv (.one (I (wr (1 * (2 ^ (min ((x.fNext.length : Int)).toNat 64))))))), (59, .sv (.one (I x59))), (72, .sv (.one (B zz)))], [.box [I x.fLetters, I x.fStart, LS (lsT (lsT (lsT intT))) x.fNext, LS intT x.fMark] 77 false, .box [I 0, I 0, .v (.slice none 0 0), .v (.slice none 0 0)] 77 false, .box [I x.fLetters, I x.fStart, .own 14, .own 15] 77 false, .gone, .gone, .gone, .gone, .gone, .gone, .gone, .gone, .gone, .gone, .gone, rowI 78 (lsT (lsT (lsT intT))) l14, rowI 3 intT (l3 ++ ([(wr (1 - e_2))] : (List Int))), .gone, .gone, .gone, .gone, .gone, .gone, .gone, .gone, rowI 42 (lsT (lsT intT)) l24, .gone, .gone, rowI 3 intT l27, .box [I x59] 3 false]⟩) ?_ ?_
              · refine En.region ?_
                refine WL.run ht hn 2 ⟨[(1, .sv (.one (.ptr 0 0))), (2, .sv (.one (.ptr 1 0))), (5, .sv (.one (.ptr 2 0))), (8, .sv (.one (.own 24))), (10, .sv (.one (LS (lsT intT) e_3))), (11, .sv (.one (.own 27))), (12, .sv (.one (.ptr 28 0))), (31, .sv (.one (LS (lsT (lsT (lsT intT))) x.fNext))), (32, .sv (.one (I (x.fNext.length : Int)))), (33, .sv (.one (I x33))), (49, .sv (.one (LS (lsT (lsT intT)) e))), (50, .sv (.one (I (e.length : Int)))), (51, .sv (.one (I x51))), (58, .sv (.one (I (wr (1 * (2 ^ (min ((x.fNext.length : Int)).toNat 64))))))), (59, .sv (.one (I x59))), (67, .sv (.one (B (!(e_3.any (fun l => !(l.any fun p => hasB x59 p)))))))], [.box [I x.fLetters, I x.fStart, LS (lsT (lsT (lsT intT))) x.fNext, LS intT x.fMark] 77 false, .box [I 0, I 0, .v (.slice none 0 0), .v (.slice none 0 0)] 77 false, .box [I x.fLetters, I x.fStart, .own 14, .own 15] 77 false, .gone, .gone, .gone, .gone, .gone, .gone, .gone, .gone, .gone, .gone, .gone, rowI 78 (lsT (lsT (lsT intT))) l14, rowI 3 intT (l3 ++ ([(wr (1 - e_2))] : (List Int))), .gone, .gone, .gone, .gone, .gone, .gone, .gone, .gone, rowI 42 (lsT (lsT intT)) l24, .gone, .gone, rowI 3 intT l27, .box [I x59] 3 false]⟩ (by kernel_rfl) ?_
                refine splitB (!(e_3.any (fun l => !(l.any fun p => hasB x59 p)))) (fun hb => ?_) (fun hb => ?_)
                · replace h := h.1 hb
                  refine WL.setB 67 hb (by kernel_rfl) ?_
                  refine WL.run ht hn 2 ⟨[(1, .sv (.one (.ptr 0 0))), (2, .sv (.one (.ptr 1 0))), (5, .sv (.one (.ptr 2 0))), (8, .sv (.one (.own 24))), (10, .sv (.one (LS (lsT intT) e_3))), (11, .sv (.one (.own 27))), (12, .sv (.one (.ptr 28 0))), (31, .sv (.one (LS (lsT (lsT (lsT intT))) x.fNext))), (32, .sv (.one (I (x.fNext.length : Int)))), (33, .sv (.one (I x33))), (49, .sv (.one (LS (lsT (lsT intT)) e))), (50, .sv (.one (I (e.length : Int)))), (51, .sv (.one (I x51))), (58, .sv (.one (I (wr (1 * (2 ^ (min ((x.fNext.length : Int)).toNat 64))))))), (59, .sv (.one (I x59))), (67, .sv (.one (B true))), (68, .sv (.one (.own 27))), (69, .sv (.one (.fn 81 [28])))], [.box [I x.fLetters, I x.fStart, LS (lsT (lsT (lsT intT))) x.fNext, LS intT x.fMark] 77 false, .box [I 0, I 0, .v (.slice none 0 0), .v (.slice none 0 0)] 77 false, .box [I x.fLetters, I x.fStart, .own 14, .own 15] 77 false, .gone, .gone, .gone, .gone, .gone, .gone, .gone, .gone, .gone, .gone, .gone, rowI 78 (lsT (lsT (lsT intT))) l14, rowI 3 intT (l3 ++ ([(wr (1 - e_2))] : (List Int))), .gone, .gone, .gone, .gone, .gone, .gone, .gone, .gone, rowI 42 (lsT (lsT intT)) l24, .gone, .gone, rowI 3 intT l27, .box [I x59] 3 false]⟩ (by kernel_rfl) ?_
                  have hp := h.1
                  replace h := h.2
                  refine WL.mt0 (K := []) (p := none) hn (by rfl) (mt_lend (T := intT) (l := l27) 27 (by rfl) (by rfl) (mt_lendF [28] (by rfl) (by rfl) (mt_ghost 69 (.sv (.one (.rd (fvR (fun (x_ : Int) => [.sv (.one (I x_))]) (fun (r : Bool) => .sv (.one (B r))) (fun t => setDom t ∧ setDom x59) (fun t => within x59 t))))) (by rfl) (fv_of (M := [.box [I x59] 3 true]) (caps := [28]) (fun x_ hx => otherC_ct x_ x59 hx) en81 rfl (by kernel_rfl) (by rfl) (fun _ => rfl)) (mt_call (anyInt_ct l27 (fun t => setDom t ∧ setDom x59) (fun t => within x59 t) hp) en79 (caps := []) [] rfl (by rfl) (by kernel_rfl) (by kernel_rfl) (by rfl) (by rfl) (by rfl))))) (by rfl) (by rfl) (by rfl) ?_
                  refine WL.run ht hn 2 ⟨[(1, .sv (.one (.ptr 0 0))), (2, .sv (.one (.ptr 1 0))), (5, .sv (.one (.ptr 2 0))), (8, .sv (.one (.own 24))), (10, .sv (.one (LS (lsT intT) e_3))), (11, .sv (.one (.own 27))), (12, .sv (.one (.ptr 28 0))), (31, .sv (.one (LS (lsT (lsT (lsT intT))) x.fNext))), (32, .sv (.one (I (x.fNext.length : Int)))), (33, .sv (.one (I x33))), (49, .sv (.one (LS (lsT (lsT intT)) e))), (50, .sv (.one (I (e.length : Int)))), (51, .sv (.one (I x51))), (58, .sv (.one (I (wr (1 * (2 ^ (min ((x.fNext.length : Int)).toNat 64))))))), (59, .sv (.one (I x59))), (72, .sv (.one (B (!(l27.any (fun t => within x59 t))))))], [.box [I x.fLetters, I x.fStart, LS (lsT (lsT (lsT intT))) x.fNext, LS intT x.fMark] 77 false, .box [I 0, I 0, .v (.slice none 0 0), .v (.slice none 0 0)] 77 false, .box [I x.fLetters, I x.fStart, .own 14, .own 15] 77 false, .gone, .gone, .gone, .gone, .gone, .gone, .gone, .gone, .gone, .gone, .gone, rowI 78 (lsT (lsT (lsT intT))) l14, rowI 3 intT (l3 ++ ([(wr (1 - e_2))] : (List Int))), .gone, .gone, .gone, .gone, .gone, .gone, .gone, .gone, rowI 42 (lsT (lsT intT)) l24, .gone, .gone, rowI 3 intT l27, .box [I x59] 3 false]⟩ (by kernel_rfl) ?_
                  refine WL.nil ?_
                  exact En.at (I := fun zz => J_2 zz) (T := fun zz => ⟨[(1, .sv (.one (.ptr 0 0))), (2, .sv (.one (.ptr 1 0))), (5, .sv (.one (.ptr 2 0))), (8, .sv (.one (.own 24))), (10, .sv (.one (LS (lsT intT) e_3))), (11, .sv (.one (.own 27))), (12, .sv (.one (.ptr 28 0))), (31, .sv (.one (LS (lsT (lsT (lsT intT))) x.fNext))), (32, .sv (.one (I (x.fNext.length : Int)))), (33, .sv (.one (I x33))), (49, .sv (.one (LS (lsT (lsT intT)) e))), (50, .sv (.one (I (e.length : Int)))), (51, .sv (.one (I x51))), (58, .sv (.one (I (wr (1 * (2 ^ (min ((x.fNext.length : Int)).toNat 64))))))), (59, .sv (.one (I x59))), (72, .sv (.one (B zz)))], [.box [I x.fLetters, I x.fStart, LS (lsT (lsT (lsT intT))) x.fNext, LS intT x.fMark] 77 false, .box [I 0, I 0, .v (.slice none 0 0), .v (.slice none 0 0)] 77 false, .box [I x.fLetters, I x.fStart, .own 14, .own 15] 77 false, .gone, .gone, .gone, .gone, .gone, .gone, .gone, .gone, .gone, .gone, .gone, rowI 78 (lsT (lsT (lsT intT))) l14, rowI 3 intT (l3 ++ ([(wr (1 - e_2))] : (List Int))), .gone, .gone, .gone, .gone, .gone, .gone, .gone, .gone, rowI 42 (lsT (lsT intT)) l24, .gone, .gone, rowI 3 intT l27, .box [I x59] 3 false]⟩) (!(l27.any (fun t => within x59 t))) h (by kernel_rfl)
                · replace h := h.2 hb
                  refine WL.setB 67 hb (by kernel_rfl) ?_
                  refine WL.run ht hn 5 ⟨[(1, .sv (.one (.ptr 0 0))), (2, .sv (.one (.ptr 1 0))), (5, .sv (.one (.ptr 2 0))), (8, .sv (.one (.own 24))), (10, .sv (.one (LS (lsT intT) e_3))), (11, .sv (.one (.own 27))), (12, .sv (.one (.ptr 28 0))), (31, .sv (.one (LS (lsT (lsT (lsT intT))) x.fNext))), (32, .sv (.one (I (x.fNext.length : Int)))), (33, .sv (.one (I x33))), (49, .sv (.one (LS (lsT (lsT intT)) e))), (50, .sv (.one (I (e.length : Int)))), (51, .sv (.one (I x51))), (58, .sv (.one (I (wr (1 * (2 ^ (min ((x.fNext.length : Int)).toNat 64))))))), (59, .sv (.one (I x59))), (72, .sv (.one (B false)))], [.box [I x.fLetters, I x.fStart, LS (lsT (lsT (lsT intT))) x.fNext, LS intT x.fMark] 77 false, .box [I 0, I 0, .v (.slice none 0 0), .v (.slice none 0 0)] 77 false, .box [I x.fLetters, I x.fStart, .own 14, .own 15] 77 false, .gone, .gone, .gone, .gone, .gone, .gone, .gone, .gone, .gone, .gone, .gone, rowI 78 (lsT (lsT (lsT intT))) l14, rowI 3 intT (l3 ++ ([(wr (1 - e_2))] : (List Int))), .gone, .gone, .gone, .gone, .gone, .gone, .gone, .gone, rowI 42 (lsT (lsT intT)) l24, .gone, .gone, rowI 3 intT l27, .box [I x59] 3 false]⟩ (by kernel_rfl) ?_
                  refine WL.nil ?_
                  exact En.at (I := fun zz => J_2 zz) (T := fun zz => ⟨[(1, .sv (.one (.ptr 0 0))), (2, .sv (.one (.ptr 1 0))), (5, .sv (.one (.ptr 2 0))), (8, .sv (.one (.own 24))), (10, .sv (.one (LS (lsT intT) e_3))), (11, .sv (.one (.own 27))), (12, .sv (.one (.ptr 28 0))), (31, .sv (.one (LS (lsT (lsT (lsT intT))) x.fNext))), (32, .sv (.one (I (x.fNext.length : Int)))), (33, .sv (.one (I x33))), (49, .sv (.one (LS (lsT (lsT intT)) e))), (50, .sv (.one (I (e.length : Int)))), (51, .sv (.one (I x51))), (58, .sv (.one (I (wr (1 * (2 ^ (min ((x.fNext.length : Int)).toNat 64))))))), (59, .sv (.one (I x59))), (72, .sv (.one (B zz)))], [.box [I x.fLetters, I x.fStart, LS (lsT (lsT (lsT intT))) x.fNext, LS intT x.fMark] 77 false, .box [I 0, I 0, .v (.slice none 0 0), .v (.slice none 0 0)] 77 false, .box [I x.fLetters, I x.fStart, .own 14, .own 15] 77 false, .gone, .gone, .gone, .gone, .gone, .gone, .gone, .gone, .gone, .gone, .gone, rowI 78 (lsT (lsT (lsT intT))) l14, rowI 3 intT (l3 ++ ([(wr (1 - e_2))] : (List Int))), .gone, .gone, .gone, .gone, .gone, .gone, .gone, .gone, rowI 42 (lsT (lsT intT)) l24, .gone, .gone, rowI 3 intT l27, .box [I x59] 3 false]⟩) false h (by kernel_rfl)
              · intro x72 h
                replace h := hJ_2 _ h
                show En c ⟨[(1, .sv (.one (.ptr 0 0))), (2, .sv (.one (.ptr 1 0))), (5, .sv (.one (.ptr 2 0))), (8, .sv (.one (.own 24))), (10, .sv (.one (LS (lsT intT) e_3))), (11, .sv (.one (.own 27))), (12, .sv (.one (.ptr 28 0))), (31, .sv (.one (LS (lsT (lsT (lsT intT))) x.fNext))), (32, .sv (.one (I (x.fNext.length : Int)))), (33, .sv (.one (I x33))), (49, .sv (.one (LS (lsT (lsT intT)) e))), (50, .sv (.one (I (e.length : Int)))), (51, .sv (.one (I x51))), (58, .sv (.one (I (wr (1 * (2 ^ (min ((x.fNext.length : Int)).toNat 64))))))), (59, .sv (.one (I x59))), (72, .sv (.one (B x72)))], [.box [I x.fLetters, I x.fStart, LS (lsT (lsT (lsT intT))) x.fNext, LS intT x.fMark] 77 false, .box [I 0, I 0, .v (.slice none 0 0), .v (.slice none 0 0)] 77 false, .box [I x.fLetters, I x.fStart, .own 14, .own 15] 77 false, .gone, .gone, .gone, .gone, .gone, .gone, .gone, .gone, .gone, .gone, .gone, rowI 78 (lsT (lsT (lsT intT))) l14, rowI 3 intT (l3 ++ ([(wr (1 - e_2))] : (List Int))), .gone, .gone, .gone, .gone, .gone, .gone, .gone, .gone, rowI 42 (lsT (lsT intT)) l24, .gone, .gone, rowI 3 intT l27, .box [I x59] 3 false]⟩ _
                refine En.cond (b := x72) (by kernel_rfl) (fun hb => ?_) (fun hb => ?_)
                · replace h := h.1 hb
                  refine En.region ?_
                  refine WL.run ht hn 2 ⟨[(1, .sv (.one (.ptr 0 0))), (2, .sv (.one (.ptr 1 0))), (5, .sv (.one (.ptr 2 0))), (8, .sv (.one (.own 24))), (10, .sv (.one (LS (lsT intT) e_3))), (31, .sv (.one (LS (lsT (lsT (lsT intT))) x.fNext))), (32, .sv (.one (I (x.fNext.length : Int)))), (33, .sv (.one (I x33))), (49, .sv (.one (LS (lsT (lsT intT)) e))), (50, .sv (.one (I (e.length : Int)))), (51, .sv (.one (I x51))), (58, .sv (.one (I (wr (1 * (2 ^ (min ((x.fNext.length : Int)).toNat 64))))))), (59, .sv (.one (I x59))), (73, .sv (.one (.own 27))), (74, .sv (.one (I x59)))], [.box [I x.fLetters, I x.fStart, LS (lsT (lsT (lsT intT))) x.fNext, LS intT x.fMark] 77 false, .box [I 0, I 0, .v (.slice none 0 0), .v (.slice none 0 0)] 77 false, .box [I x.fLetters, I x.fStart, .own 14, .own 15] 77 false, .gone, .gone, .gone, .gone, .gone, .gone, .gone, .gone, .gone, .gone, .gone, rowI 78 (lsT (lsT (lsT intT))) l14, rowI 3 intT (l3 ++ ([(wr (1 - e_2))] : (List Int))), .gone, .gone, .gone, .gone, .gone, .gone, .gone, .gone, rowI 42 (lsT (lsT intT)) l24, .gone, .gone, rowI 3 intT l27, .gone]⟩ (by kernel_rfl) ?_
                  refine WL.mt0 (K := []) (p := some (29, rowI 3 intT ([x59] : (List Int)))) hn (by rfl) (mt_lit (T := intT) ([x59] : (List Int)) (mt_bsl 29 (r := cellsOf intT ([x59] : (List Int))) ht rfl (by rfl) (by rfl) (by rfl) (by kernel_rfl) (by rfl)) (fun _ h => by cases h) (fun _ => rfl) (fun _ => rfl) (by rfl) (Nat.le_of_ble_eq_true rfl)) (by rfl) (by rfl) (by rfl) ?_
                  refine WL.seal 29 (by rfl) ?_
                  have hp := h.1
                  replace h := h.2
                  refine WL.mt (S2 := ⟨[(1, .sv (.one (.ptr 0 0))), (2, .sv (.one (.ptr 1 0))), (5, .sv (.one (.ptr 2 0))), (8, .sv (.one (.own 24))), (10, .sv (.one (LS (lsT intT) e_3))), (31, .sv (.one (LS (lsT (lsT (lsT intT))) x.fNext))), (32, .sv (.one (I (x.fNext.length : Int)))), (33, .sv (.one (I x33))), (49, .sv (.one (LS (lsT (lsT intT)) e))), (50, .sv (.one (I (e.length : Int)))), (51, .sv (.one (I x51))), (58, .sv (.one (I (wr (1 * (2 ^ (min ((x.fNext.length : Int)).toNat 64))))))), (59, .sv (.one (I x59))), (74, .sv (.one (I x59))), (75, .sv (.one (LS intT ([x59] : (List Int)))))], [.box [I x.fLetters, I x.fStart, LS (lsT (lsT (lsT intT))) x.fNext, LS intT x.fMark] 77 false, .box [I 0, I 0, .v (.slice none 0 0), .v (.slice none 0 0)] 77 false, .box [I x.fLetters, I x.fStart, .own 14, .own 15] 77 false, .gone, .gone, .gone, .gone, .gone, .gone, .gone, .gone, .gone, .gone, .gone, rowI 78 (lsT (lsT (lsT intT))) l14, rowI 3 intT (l3 ++ ([(wr (1 - e_2))] : (List Int))), .gone, .gone, .gone, .gone, .gone, .gone, .gone, .gone, rowI 42 (lsT (lsT intT)) l24, .gone, .gone, rowI 3 intT l27, .gone, .gone]⟩) (K := [27]) (p := some (27, rowI 3 intT (l27 ++ ([x59] : (List Int))))) hn (by rfl) (mt_append (T := intT) (l := l27) (es := ([x59] : (List Int))) ht rfl (by rfl) (by rfl) (by rfl) (by rfl) (by decide) (by rfl) (by rfl) (srcLS (T := intT) (es := ([x59] : (List Int))) (fun _ h => by cases h) (by decide) (by rfl)) (by exact hp) (by exact hp.le (by decide))) (by kernel_rfl) (by rfl) (by rfl) (by rfl) ?_
                  refine WL.run ht hn 1 ⟨[(1, .sv (.one (.ptr 0 0))), (2, .sv (.one (.ptr 1 0))), (5, .sv (.one (.ptr 2 0))), (8, .sv (.one (.own 24))), (10, .sv (.one (LS (lsT intT) e_3))), (11, .sv (.one (.own 27))), (31, .sv (.one (LS (lsT (lsT (lsT intT))) x.fNext))), (32, .sv (.one (I (x.fNext.length : Int)))), (33, .sv (.one (I x33))), (49, .sv (.one (LS (lsT (lsT intT)) e))), (50, .sv (.one (I (e.length : Int)))), (51, .sv (.one (I x51))), (58, .sv (.one (I (wr (1 * (2 ^ (min ((x.fNext.length : Int)).toNat 64))))))), (59, .sv (.one (I x59)))], [.box [I x.fLetters, I x.fStart, LS (lsT (lsT (lsT intT))) x.fNext, LS intT x.fMark] 77 false, .box [I 0, I 0, .v (.slice none 0 0), .v (.slice none 0 0)] 77 false, .box [I x.fLetters, I x.fStart, .own 14, .own 15] 77 false, .gone, .gone, .gone, .gone, .gone, .gone, .gone, .gone, .gone, .gone, .gone, rowI 78 (lsT (lsT (lsT intT))) l14, rowI 3 intT (l3 ++ ([(wr (1 - e_2))] : (List Int))), .gone, .gone, .gone, .gone, .gone, .gone, .gone, .gone, rowI 42 (lsT (lsT intT)) l24, .gone, .gone, rowI 3 intT (l27 ++ ([x59] : (List Int))), .gone, .gone]⟩ (by kernel_rfl) ?_
                  refine WL.nil ?_
                  exact En.at (I := fun zz => J zz) (T := fun zz => ⟨[(1, .sv (.one (.ptr 0 0))), (2, .sv (.one (.ptr 1 0))), (5, .sv (.one (.ptr 2 0))), (8, .sv (.one (.own 24))), (10, .sv (.one (LS (lsT intT) e_3))), (11, .sv (.one (.own 27))), (31, .sv (.one (LS (lsT (lsT (lsT intT))) x.fNext))), (32, .sv (.one (I (x.fNext.length : Int)))), (33, .sv (.one (I x33))), (49, .sv (.one (LS (lsT (lsT intT)) e))), (50, .sv (.one (I (e.length : Int)))), (51, .sv (.one (I x51))), (58, .sv (.one (I (wr (1 * (2 ^ (min ((x.fNext.length : Int)).toNat 64))))))), (59, .sv (.one (I x59)))], [.box [I x.fLetters, I x.fStart, LS (lsT (lsT (lsT intT))) x.fNext, LS intT x.fMark] 77 false, .box [I 0, I 0, .v (.slice none 0 0), .v (.slice none 0 0)] 77 false, .box [I x.fLetters, I x.fStart, .own 14, .own 15] 77 false, .gone, .gone, .gone, .gone, .gone, .gone, .gone, .gone, .gone, .gone, .gone, rowI 78 (lsT (lsT (lsT intT))) l14, rowI 3 intT (l3 ++ ([(wr (1 - e_2))] : (List Int))), .gone, .gone, .gone, .gone, .gone, .gone, .gone, .gone, rowI 42 (lsT (lsT intT)) l24, .gone, .gone, rowI 3 intT zz, .gone]⟩) (l27 ++ ([x59] : (List Int))) h (by kernel_rfl)
                · replace h := h.2 hb
                  refine En.skip ?_
                  exact En.at (I := fun zz => J zz) (T := fun zz => ⟨[(1, .sv (.one (.ptr 0 0))), (2, .sv (.one (.ptr 1 0))), (5, .sv (.one (.ptr 2 0))), (8, .sv (.one (.own 24))), (10, .sv (.one (LS (lsT intT) e_3))), (11, .sv (.one (.own 27))), (31, .sv (.one (LS (lsT (lsT (lsT intT))) x.fNext))), (32, .sv (.one (I (x.fNext.length : Int)))), (33, .sv (.one (I x33))), (49, .sv (.one (LS (lsT (lsT intT)) e))), (50, .sv (.one (I (e.length : Int)))), (51, .sv (.one (I x51))), (58, .sv (.one (I (wr (1 * (2 ^ (min ((x.fNext.length : Int)).toNat 64))))))), (59, .sv (.one (I x59)))], [.box [I x.fLetters, I x.fStart, LS (lsT (lsT (lsT intT))) x.fNext, LS intT x.fMark] 77 false, .box [I 0, I 0, .v (.slice none 0 0), .v (.slice none 0 0)] 77 false, .box [I x.fLetters, I x.fStart, .own 14, .own 15] 77 false, .gone, .gone, .gone, .gone, .gone, .gone, .gone, .gone, .gone, .gone, .gone, rowI 78 (lsT (lsT (lsT intT))) l14, rowI 3 intT (l3 ++ ([(wr (1 - e_2))] : (List Int))), .gone, .gone, .gone, .gone, .gone, .gone, .gone, .gone, rowI 42 (lsT (lsT intT)) l24, .gone, .gone, rowI 3 intT zz, .gone]⟩) l27 h (by kernel_rfl)
            · intro l27_2 h
              replace h := hJ _ h
              show En c ⟨[(1, .sv (.one (.ptr 0 0))), (2, .sv (.one (.ptr 1 0))), (5, .sv (.one (.ptr 2 0))), (8, .sv (.one (.own 24))), (10, .sv (.one (LS (lsT intT) e_3))), (11, .sv (.one (.own 27))), (31, .sv (.one (LS (lsT (lsT (lsT intT))) x.fNext))), (32, .sv (.one (I (x.fNext.length : Int)))), (33, .sv (.one (I x33))), (49, .sv (.one (LS (lsT (lsT intT)) e))), (50, .sv (.one (I (e.length : Int)))), (51, .sv (.one (I x51))), (58, .sv (.one (I (wr (1 * (2 ^ (min ((x.fNext.length : Int)).toNat 64))))))), (59, .sv (.one (I x59)))], [.box [I x.fLetters, I x.fStart, LS (lsT (lsT (lsT intT))) x.fNext, LS intT x.fMark] 77 false, .box [I 0, I 0, .v (.slice none 0 0), .v (.slice none 0 0)] 77 false, .box [I x.fLetters, I x.fStart, .own 14, .own 15] 77 false, .gone, .gone, .gone, .gone, .gone, .gone, .gone, .gone, .gone, .gone, .gone, rowI 78 (lsT (lsT (lsT intT))) l14, rowI 3 intT (l3 ++ ([(wr (1 - e_2))] : (List Int))), .gone, .gone, .gone, .gone, .gone, .gone, .gone, .gone, rowI 42 (lsT (lsT intT)) l24, .gone, .gone, rowI 3 intT l27_2, .gone]⟩ _
              refine En.region ?_
              refine WL.run ht hn 2 ⟨[(1, .sv (.one (.ptr 0 0))), (2, .sv (.one (.ptr 1 0))), (5, .sv (.one (.ptr 2 0))), (8, .sv (.one (.own 24))), (10, .sv (.one (LS (lsT intT) e_3))), (11, .sv (.one (.own 27))), (31, .sv (.one (LS (lsT (lsT (lsT intT))) x.fNext))), (32, .sv (.one (I (x.fNext.length : Int)))), (33, .sv (.one (I x33))), (49, .sv (.one (LS (lsT (lsT intT)) e))), (50, .sv (.one (I (e.length : Int)))), (51, .sv (.one (I x51))), (58, .sv (.one (I (wr (1 * (2 ^ (min ((x.fNext.length : Int)).toNat 64))))))), (59, .sv (.one (I (wr (x59 + 1)))))], [.box [I x.fLetters, I x.fStart, LS (lsT (lsT (lsT intT))) x.fNext, LS intT x.fMark] 77 false, .box [I 0, I 0, .v (.slice none 0 0), .v (.slice none 0 0)] 77 false, .box [I x.fLetters, I x.fStart, .own 14, .own 15] 77 false, .gone, .gone, .gone, .gone, .gone, .gone, .gone, .gone, .gone, .gone, .gone, rowI 78 (lsT (lsT (lsT intT))) l14, rowI 3 intT (l3 ++ ([(wr (1 - e_2))] : (List Int))), .gone, .gone, .gone, .gone, .gone, .gone, .gone, .gone, rowI 42 (lsT (lsT intT)) l24, .gone, .gone, rowI 3 intT l27_2, .gone]⟩ (by kernel_rfl) ?_
              refine WL.nil ?_
              exact En.at (I := fun zz => Inv_3 zz.1 zz.2 ∧ mu_3 zz.1 zz.2 < mu_3 x59 l27) (T := fun zz => ⟨[(1, .sv (.one (.ptr 0 0))), (2, .sv (.one (.ptr 1 0))), (5, .sv (.one (.ptr 2 0))), (8, .sv (.one (.own 24))), (10, .sv (.one (LS (lsT intT) e_3))), (11, .sv (.one (.own 27))), (31, .sv (.one (LS (lsT (lsT (lsT intT))) x.fNext))), (32, .sv (.one (I (x.fNext.length : Int)))), (33, .sv (.one (I x33))), (49, .sv (.one (LS (lsT (lsT intT)) e))), (50, .sv (.one (I (e.length : Int)))), (51, .sv (.one (I x51))), (58, .sv (.one (I (wr (1 * (2 ^ (min ((x.fNext.length : Int)).toNat 64))))))), (59, .sv (.one (I zz.1)))], [.box [I x.fLetters, I x.fStart, LS (lsT (lsT (lsT intT))) x.fNext, LS intT x.fMark] 77 false, .box [I 0, I 0, .v (.slice none 0 0), .v (.slice none 0 0)] 77 false, .box [I x.fLetters, I x.fStart, .own 14, .own 15] 77 false, .gone, .gone, .gone, .gone, .gone, .gone, .gone, .gone, .gone, .gone, .gone, rowI 78 (lsT (lsT (lsT intT))) l14, rowI 3 intT (l3 ++ ([(wr (1 - e_2))] : (List Int))), .gone, .gone, .gone, .gone, .gone, .gone, .gone, .gone, rowI 42 (lsT (lsT intT)) l24, .gone, .gone, rowI 3 intT zz.2]⟩) ((wr (x59 + 1)), l27_2) h (by kernel_rfl)
          · replace h := h.2 hb
            refine En.exit rfl ?_
            refine En.seq ?_
            refine En.region ?_
            refine WL.run ht hn 1 ⟨[(1, .sv (.one (.ptr 0 0))), (2, .sv (.one (.ptr 1 0))), (5, .sv (.one (.ptr 2 0))), (8, .sv (.one (.own 24))), (11, .sv (.one (.own 27))), (14, .sv (.one (.v (.slice none 0 0)))), (31, .sv (.one (LS (lsT (lsT (lsT intT))) x.fNext))), (32, .sv (.one (I (x.fNext.length : Int)))), (33, .sv (.one (I x33))), (49, .sv (.one (LS (lsT (lsT intT)) e))), (50, .sv (.one (I (e.length : Int)))), (51, .sv (.one (I x51)))], [.box [I x.fLetters, I x.fStart, LS (lsT (lsT (lsT intT))) x.fNext, LS intT x.fMark] 77 false, .box [I 0, I 0, .v (.slice none 0 0), .v (.slice none 0 0)] 77 false, .box [I x.fLetters, I x.fStart, .own 14, .own 15] 77 false, .gone, .gone, .gone, .gone, .gone, .gone, .gone, .gone, .gone, .gone, .gone, rowI 78 (lsT (lsT (lsT intT))) l14, rowI 3 intT (l3 ++ ([(wr (1 - e_2))] : (List Int))), .gone, .gone, .gone, .gone, .gone, .gone, .gone, .gone, rowI 42 (lsT (lsT intT)) l24, .gone, .gone, rowI 3 intT l27]⟩ (by kernel_rfl) ?_
            refine WL.nil ?_
            refine En.seq ?_
            refine En.seq ?_
            refine En.region ?_
            refine WL.run ht hn 3 ⟨[(1, .sv (.one (.ptr 0 0))), (2, .sv (.one (.ptr 1 0))), (5, .sv (.one (.ptr 2 0))), (8, .sv (.one (.own 24))), (14, .sv (.one (.v (.slice none 0 0)))), (31, .sv (.one (LS (lsT (lsT (lsT intT))) x.fNext))), (32, .sv (.one (I (x.fNext.length : Int)))), (33, .sv (.one (I x33))), (49, .sv (.one (LS (lsT (lsT intT)) e))), (50, .sv (.one (I (e.length : Int)))), (51, .sv (.one (I x51))), (78, .sv (.one (.own 27))), (79, .sv (.one (I (l27.length : Int)))), (80, .sv (.one (I 0)))], [.box [I x.fLetters, I x.fStart, LS (lsT (lsT (lsT intT))) x.fNext, LS intT x.fMark] 77 false, .box [I 0, I 0, .v (.slice none 0 0), .v (.slice none 0 0)] 77 false, .box [I x.fLetters, I x.fStart, .own 14, .own 15] 77 false, .gone, .gone, .gone, .gone, .gone, .gone, .gone, .gone, .gone, .gone, .gone, rowI 78 (lsT (lsT (lsT intT))) l14, rowI 3 intT (l3 ++ ([(wr (1 - e_2))] : (List Int))), .gone, .gone, .gone, .gone, .gone, .gone, .gone, .gone, rowI 42 (lsT (lsT intT)) l24, .gone, .gone, rowI 3 intT l27]⟩ (by kernel_rfl) ?_
            refine WL.nil ?_
            refine En.block ?_
            refine En.rowNil 14 31 22 (lsT intT) (by rfl) (by rfl) ?_
            obtain ⟨Inv_4, mu_4, h0_2, hI_2⟩ := h
            refine En.loop (σ := Int × (List (List Int))) (fun zz => Inv_4 zz.1 zz.2) (fun zz => mu_4 zz.1 zz.2) (fun zz => ⟨[(1, .sv (.one (.ptr 0 0))), (2, .sv (.one (.ptr 1 0))), (5, .sv (.one (.ptr 2 0))), (8, .sv (.one (.own 24))), (14, .sv (.one (.own 31))), (31, .sv (.one (LS (lsT (lsT (lsT intT))) x.fNext))), (32, .sv (.one (I (x.fNext.length : Int)))), (33, .sv (.one (I x33))), (49, .sv (.one (LS (lsT (lsT intT)) e))), (50, .sv (.one (I (e.length : Int)))), (51, .sv (.one (I x51))), (78, .sv (.one (.own 27))), (79, .sv (.one (I (l27.length : Int)))), (80, .sv (.one (I zz.1)))], [.box [I x.fLetters, I x.fStart, LS (lsT (lsT (lsT intT))) x.fNext, LS intT x.fMark] 77 false, .box [I 0, I 0, .v (.slice none 0 0), .v (.slice none 0 0)] 77 false, .box [I x.fLetters, I x.fStart, .own 14, .own 15] 77 false, .gone, .gone, .gone, .gone, .gone, .gone, .gone, .gone, .gone, .gone, .gone, rowI 78 (lsT (lsT (lsT intT))) l14, rowI 3 intT (l3 ++ ([(wr (1 - e_2))] : (List Int))), .gone, .gone, .gone, .gone, .gone, .gone, .gone, .gone, rowI 42 (lsT (lsT intT)) l24, .gone, .gone, rowI 3 intT l27, .gone, .gone, .gone, rowI 22 (lsT intT) zz.2]⟩) (0, ([] : (List (List Int)))) h0_2 (sub_ok (by kernel_rfl)) ?_
            rintro ⟨x80, l31⟩ h
            replace h := hI_2 _ _ h
            show En c ⟨[(1, .sv (.one (.ptr 0 0))), (2, .sv (.one (.ptr 1 0))), (5, .sv (.one (.ptr 2 0))), (8, .sv (.one (.own 24))), (14, .sv (.one (.own 31))), (31, .sv (.one (LS (lsT (lsT (lsT intT))) x.fNext))), (32, .sv (.one (I (x.fNext.length : Int)))), (33, .sv (.one (I x33))), (49, .sv (.one (LS (lsT (lsT intT)) e))), (50, .sv (.one (I (e.length : Int)))), (51, .sv (.one (I x51))), (78, .sv (.one (.own 27))), (79, .sv (.one (I (l27.length : Int)))), (80, .sv (.one (I x80)))], [.box [I x.fLetters, I x.fStart, LS (lsT (lsT (lsT intT))) x.fNext, LS intT x.fMark] 77 false, .box [I 0, I 0, .v (.slice none 0 0), .v (.slice none 0 0)] 77 false, .box [I x.fLetters, I x.fStart, .own 14, .own 15] 77 false, .gone, .gone, .gone, .gone, .gone, .gone, .gone, .gone, .gone, .gone, .gone, rowI 78 (lsT (lsT (lsT intT))) l14, rowI 3 intT (l3 ++ ([(wr (1 - e_2))] : (List Int))), .gone, .gone, .gone, .gone, .gone, .gone, .gone, .gone, rowI 42 (lsT (lsT intT)) l24, .gone, .gone, rowI 3 intT l27, .gone, .gone, .gone, rowI 22 (lsT intT) l31]⟩ _
            refine En.seq ?_
            refine En.region ?_
            refine WL.run ht hn 1 ⟨[(1, .sv (.one (.ptr 0 0))), (2, .sv (.one (.ptr 1 0))), (5, .sv (.one (.ptr 2 0))), (8, .sv (.one (.own 24))), (14, .sv (.one (.own 31))), (31, .sv (.one (LS (lsT (lsT (lsT intT))) x.fNext))), (32, .sv (.one (I (x.fNext.length : Int)))), (33, .sv (.one (I x33))), (49, .sv (.one (LS (lsT (lsT intT)) e))), (50, .sv (.one (I (e.length : Int)))), (51, .sv (.one (I x51))), (78, .sv (.one (.own 27))), (79, .sv (.one (I (l27.length : Int)))), (80, .sv (.one (I x80))), (81, .sv (.one (B (decide (x80 < (l27.length : Int))))))], [.box [I x.fLetters, I x.fStart, LS (lsT (lsT (lsT intT))) x.fNext, LS intT x.fMark] 77 false, .box [I 0, I 0, .v (.slice none 0 0), .v (.slice none 0 0)] 77 false, .box [I x.fLetters, I x.fStart, .own 14, .own 15] 77 false, .gone, .gone, .gone, .gone, .gone, .gone, .gone, .gone, .gone, .gone, .gone, rowI 78 (lsT (lsT (lsT intT))) l14, rowI 3 intT (l3 ++ ([(wr (1 - e_2))] : (List Int))), .gone, .gone, .gone, .gone, .gone, .gone, .gone, .gone, rowI 42 (lsT (lsT intT)) l24, .gone, .gone, rowI 3 intT l27, .gone, .gone, .gone, rowI 22 (lsT intT) l31]⟩ (by kernel_rfl) ?_
            refine WL.nil ?_
            refine En.seq ?_
            refine En.cond (b := (decide (x80 < (l27.length : Int)))) (by kernel_rfl) (fun hb => ?_) (fun hb => ?_)
            · replace h := h.1 hb
              refine En.skip ?_
              refine En.seq ?_
              refine En.block ?_
              refine En.seq ?_
              refine En.region ?_
              obtain ⟨e_4, he_4, h⟩ := h
              refine WL.val hn (by rfl) (val_indexO (T := intT) (l := l27) (k := x80) ht rfl (by rfl) (by rfl) (by rfl) (by rfl) (by decide) (by rfl) (by rfl) (by rfl) he_4) (by rfl) ?_
              refine WL.val hn (by rfl) (val_loadO (T := intT) (l := l27) (y := e_4) ht rfl (by rfl) (by rfl) (by rfl) (by rfl) (by rfl) (idx_some he_4).2.2 (by rfl)) (by rfl) ?_
              refine WL.run ht hn 1 ⟨[(1, .sv (.one (.ptr 0 0))), (2, .sv (.one (.ptr 1 0))), (5, .sv (.one (.ptr 2 0))), (8, .sv (.one (.own 24))), (14, .sv (.one (.own 31))), (16, .sv (.one (I e_4))), (31, .sv (.one (LS (lsT (lsT (lsT intT))) x.fNext))), (32, .sv (.one (I (x.fNext.length : Int)))), (33, .sv (.one (I x33))), (49, .sv (.one (LS (lsT (lsT intT)) e))), (50, .sv (.one (I (e.length : Int)))), (51, .sv (.one (I x51))), (78, .sv (.one (.own 27))), (79, .sv (.one (I (l27.length : Int)))), (80, .sv (.one (I x80)))], [.box [I x.fLetters, I x.fStart, LS (lsT (lsT (lsT intT))) x.fNext, LS intT x.fMark] 77 false, .box [I 0, I 0, .v (.slice none 0 0), .v (.slice none 0 0)] 77 false, .box [I x.fLetters, I x.fStart, .own 14, .own 15] 77 false, .gone, .gone, .gone, .gone, .gone, .gone, .gone, .gone, .gone, .gone, .gone, rowI 78 (lsT (lsT (lsT intT))) l14, rowI 3 intT (l3 ++ ([(wr (1 - e_2))] : (List Int))), .gone, .gone, .gone, .gone, .gone, .gone, .gone, .gone, rowI 42 (lsT (lsT intT)) l24, .gone, .gone, rowI 3 intT l27, .gone, .gone, .gone, rowI 22 (lsT intT) l31]⟩ (by kernel_rfl) ?_
              refine WL.nil ?_
              refine En.seq ?_
              refine En.region ?_
              refine WL.run ht hn 1 ⟨[(1, .sv (.one (.ptr 0 0))), (2, .sv (.one (.ptr 1 0))), (5, .sv (.one (.ptr 2 0))), (8, .sv (.one (.own 24))), (14, .sv (.one (.own 31))), (16, .sv (.one (I e_4))), (17, .sv (.one (.v (.slice none 0 0)))), (31, .sv (.one (LS (lsT (lsT (lsT intT))) x.fNext))), (32, .sv (.one (I (x.fNext.length : Int)))), (33, .sv (.one (I x33))), (49, .sv (.one (LS (lsT (lsT intT)) e))), (50, .sv (.one (I (e.length : Int)))), (51, .sv (.one (I x51))), (78, .sv (.one (.own 27))), (79, .sv (.one (I (l27.length : Int)))), (80, .sv (.one (I x80)))], [.box [I x.fLetters, I x.fStart, LS (lsT (lsT (lsT intT))) x.fNext, LS intT x.fMark] 77 false, .box [I 0, I 0, .v (.slice none 0 0), .v (.slice none 0 0)] 77 false, .box [I x.fLetters, I x.fStart, .own 14, .own 15] 77 false, .gone, .gone, .gone, .gone, .gone, .gone, .gone, .gone, .gone, .gone, .gone, rowI 78 (lsT (lsT (lsT intT))) l14, rowI 3 intT (l3 ++ ([(wr (1 - e_2))] : (List Int))), .gone, .gone, .gone, .gone, .gone, .gone, .gone, .gone, rowI 42 (lsT (lsT intT)) l24, .gone, .gone, rowI 3 intT l27, .gone, .gone, .gone, rowI 22 (lsT intT) l31]⟩ (by kernel_rfl) ?_
              refine WL.nil ?_
              refine En.seq ?_
              refine En.seq ?_
              refine En.region ?_
              refine WL.run ht hn 4 ⟨[(1, .sv (.one (.ptr 0 0))), (2, .sv (.one (.ptr 1 0))), (5, .sv (.one (.ptr 2 0))), (8, .sv (.one (.own 24))), (14, .sv (.one (.own 31))), (16, .sv (.one (I e_4))), (17, .sv (.one (.v (.slice none 0 0)))), (31, .sv (.one (LS (lsT (lsT (lsT intT))) x.fNext))), (32, .sv (.one (I (x.fNext.length : Int)))), (33, .sv (.one (I x33))), (49, .sv (.one (LS (lsT (lsT intT)) e))), (50, .sv (.one (I (e.length : Int)))), (51, .sv (.one (I x51))), (78, .sv (.one (.own 27))), (79, .sv (.one (I (l27.length : Int)))), (80, .sv (.one (I x80))), (86, .sv (.one (I (x.fNext.length : Int)))), (87, .sv (.one (I 0)))], [.box [I x.fLetters, I x.fStart, LS (lsT (lsT (lsT intT))) x.fNext, LS intT x.fMark] 77 false, .box [I 0, I 0, .v (.slice none 0 0), .v (.slice none 0 0)] 77 false, .box [I x.fLetters, I x.fStart, .own 14, .own 15] 77 false, .gone, .gone, .gone, .gone, .gone, .gone, .gone, .gone, .gone, .gone, .gone, rowI 78 (lsT (lsT (lsT intT))) l14, rowI 3 intT (l3 ++ ([(wr (1 - e_2))] : (List Int))), .gone, .gone, .gone, .gone, .gone, .gone, .gone, .gone, rowI 42 (lsT (lsT intT)) l24, .gone, .gone, rowI 3 intT l27, .gone, .gone, .gone, rowI 22 (lsT intT) l31]⟩ (by kernel_rfl) ?_
              refine WL.nil ?_
              refine En.block ?_
              refine En.rowNil 17 33 3 intT (by rfl) (by rfl) ?_
              obtain ⟨Inv_5, mu_5, h0, hI⟩ := h
              refine En.loop (σ := Int × (List Int)) (fun zz => Inv_5 zz.1 zz.2) (fun zz => mu_5 zz.1 zz.2) (fun zz => ⟨[(1, .sv (.one (.ptr 0 0))), (2, .sv (.one (.ptr 1 0))), (5, .sv (.one (.ptr 2 0))), (8, .sv (.one (.own 24))), (14, .sv (.one (.own 31))), (16, .sv (.one (I e_4))), (17, .sv (.one (.own 33))), (31, .sv (.one (LS (lsT (lsT (lsT intT))) x.fNext))), (32, .sv (.one (I (x.fNext.length : Int)))), (33, .sv (.one (I x33))), (49, .sv (.one (LS (lsT (lsT intT)) e))), (50, .sv (.one (I (e.length : Int)))), (51, .sv (.one (I x51))), (78, .sv (.one (.own 27))), (79, .sv (.one (I (l27.length : Int)))), (80, .sv (.one (I x80))), (86, .sv (.one (I (x.fNext.length : Int)))), (87, .sv (.one (I zz.1)))], [.box [I x.fLetters, I x.fStart, LS (lsT (lsT (lsT intT))) x.fNext, LS intT x.fMark] 77 false, .box [I 0, I 0, .v (.slice none 0 0), .v (.slice none 0 0)] 77 false, .box [I x.fLetters, I x.fStart, .own 14, .own 15] 77 false, .gone, .gone, .gone, .gone, .gone, .gone, .gone, .gone, .gone, .gone, .gone, rowI 78 (lsT (lsT (lsT intT))) l14, rowI 3 intT (l3 ++ ([(wr (1 - e_2))] : (List Int))), .gone, .gone, .gone, .gone, .gone, .gone, .gone, .gone, rowI 42 (lsT (lsT intT)) l24, .gone, .gone, rowI 3 intT l27, .gone, .gone, .gone, rowI 22 (lsT intT) l31, .gone, rowI 3 intT zz.2]⟩) (0, ([] : (List Int))) h0 (sub_ok (by kernel_rfl)) ?_
              rintro ⟨x87, l33⟩ h
              replace h := hI _ _ h
              show En c ⟨[(1, .sv (.one (.ptr 0 0))), (2, .sv (.one (.ptr 1 0))), (5, .sv (.one (.ptr 2 0))), (8, .sv (.one (.own 24))), (14, .sv (.one (.own 31))), (16, .sv (.one (I e_4))), (17, .sv (.one (.own 33))), (31, .sv (.one (LS (lsT (lsT (lsT intT))) x.fNext))), (32, .sv (.one (I (x.fNext.length : Int)))), (33, .sv (.one (I x33))), (49, .sv (.one (LS (lsT (lsT intT)) e))), (50, .sv (.one (I (e.length : Int)))), (51, .sv (.one (I x51))), (78, .sv (.one (.own 27))), (79, .sv (.one (I (l27.length : Int)))), (80, .sv (.one (I x80))), (86, .sv (.one (I (x.fNext.length : Int)))), (87, .sv (.one (I x87)))], [.box [I x.fLetters, I x.fStart, LS (lsT (lsT (lsT intT))) x.fNext, LS intT x.fMark] 77 false, .box [I 0, I 0, .v (.slice none 0 0), .v (.slice none 0 0)] 77 false, .box [I x.fLetters, I x.fStart, .own 14, .own 15] 77 false, .gone, .gone, .gone, .gone, .gone, .gone, .gone, .gone, .gone, .gone, .gone, rowI 78 (lsT (lsT (lsT intT))) l14, rowI 3 intT (l3 ++ ([(wr (1 - e_2))] : (List Int))), .gone, .gone, .gone, .gone, .gone, .gone, .gone, .gone, rowI 42 (lsT (lsT intT)) l24, .gone, .gone, rowI 3 intT l27, .gone, .gone, .gone, rowI 22 (lsT intT) l31, .gone, rowI 3 intT l33]⟩ _
              refine En.seq ?_
              refine En.region ?_
              refine WL.run ht hn 1 ⟨[(1, .sv (.one (.ptr 0 0))), (2, .sv (.one (.ptr 1 0))), (5, .sv (.one (.ptr 2 0))), (8, .sv (.one (.own 24))), (14, .sv (.one (.own 31))), (16, .sv (.one (I e_4))), (17, .sv (.one (.own 33))), (31, .sv (.one (LS (lsT (lsT (lsT intT))) x.fNext))), (32, .sv (.one (I (x.fNext.length : Int)))), (33, .sv (.one (I x33))), (49, .sv (.one (LS (lsT (lsT intT)) e))), (50, .sv (.one (I (e.length : Int)))), (51, .sv (.one (I x51))), (78, .sv (.one (.own 27))), (79, .sv (.one (I (l27.length : Int)))), (80, .sv (.one (I x80))), (86, .sv (.one (I (x.fNext.length : Int)))), (87, .sv (.one (I x87))), (88, .sv (.one (B (decide (x87 < (x.fNext.length : Int))))))], [.box [I x.fLetters, I x.fStart, LS (lsT (lsT (lsT intT))) x.fNext, LS intT x.fMark] 77 false, .box [I 0, I 0, .v (.slice none 0 0), .v (.slice none 0 0)] 77 false, .box [I x.fLetters, I x.fStart, .own 14, .own 15] 77 false, .gone, .gone, .gone, .gone, .gone, .gone, .gone, .gone, .gone, .gone, .gone, rowI 78 (lsT (lsT (lsT intT))) l14, rowI 3 intT (l3 ++ ([(wr (1 - e_2))] : (List Int))), .gone, .gone, .gone, .gone, .gone, .gone, .gone, .gone, rowI 42 (lsT (lsT intT)) l24, .gone, .gone, rowI 3 intT l27, .gone, .gone, .gone, rowI 22 (lsT intT) l31, .gone, rowI 3 intT l33]⟩ (by kernel_rfl) ?_
              refine WL.nil ?_
              refine En.seq ?_
              refine En.cond (b := (decide (x87 < (x.fNext.length : Int)))) (by kernel_rfl) (fun hb => ?_) (fun hb => ?_)
              · replace h := h.1 hb
                refine En.skip ?_
                obtain ⟨J_3, h, hJ_3⟩ := h
                refine En.seqJ (σ := (List Int)) (fun zz => J_3 zz) (fun zz => ⟨[(1, .sv (.one (.ptr 0 0))), (2, .sv (.one (.ptr 1 0))), (5, .sv (.one (.ptr 2 0))), (8, .sv (.one (.own 24))), (14, .sv (.one (.own 31))), (16, .sv (.one (I e_4))), (17, .sv (.one (.own 33))), (31, .sv (.one (LS (lsT (lsT (lsT intT))) x.fNext))), (32, .sv (.one (I (x.fNext.length : Int)))), (33, .sv (.one (I x33))), (49, .sv (.one (LS (lsT (lsT intT)) e))), (50, .sv (.one (I (e.length : Int)))), (51, .sv (.one (I x51))), (78, .sv (.one (.own 27))), (79, .sv (.one (I (l27.length : Int)))), (80, .sv (.one (I x80))), (86, .sv (.one (I (x.fNext.length : Int)))), (87, .sv (.one (I x87)))], [.box [I x.fLetters, I x.fStart, LS (lsT (lsT (lsT intT))) x.fNext, LS intT x.fMark] 77 false, .box [I 0, I 0, .v (.slice none 0 0), .v (.slice none 0 0)] 77 false, .box [I x.fLetters, I x.fStart, .own 14, .own 15] 77 false, .gone, .gone, .gone, .gone, .gone, .gone, .gone, .gone, .gone, .gone, .gone, rowI 78 (lsT (lsT (lsT intT))) l14, rowI 3 intT (l3 ++ ([(wr (1 - e_2))] : (List Int))), .gone, .gone, .gone, .gone, .gone, .gone, .gone, .gone, rowI 42 (lsT (lsT intT)) l24, .gone, .gone, rowI 3 intT l27, .gone, .gone, .gone, rowI 22 (lsT intT) l31, .gone, rowI 3 intT zz]⟩) ?_ ?_
                · refine En.block ?_
                  refine En.seq ?_
                  refine En.region ?_
                  refine WL.run ht hn 2 ⟨[(1, .sv (.one (.ptr 0 0))), (2, .sv (.one (.ptr 1 0))), (5, .sv (.one (.ptr 2 0))), (8, .sv (.one (.own 24))), (14, .sv (.one (.own 31))), (16, .sv (.one (I e_4))), (17, .sv (.one (.own 33))), (18, .sv (.one (I x87))), (31, .sv (.one (LS (lsT (lsT (lsT intT))) x.fNext))), (32, .sv (.one (I (x.fNext.length : Int)))), (33, .sv (.one (I x33))), (49, .sv (.one (LS (lsT (lsT intT)) e))), (50, .sv (.one (I (e.length : Int)))), (51, .sv (.one (I x51))), (78, .sv (.one (.own 27))), (79, .sv (.one (I (l27.length : Int)))), (80, .sv (.one (I x80))), (86, .sv (.one (I (x.fNext.length : Int)))), (87, .sv (.one (I x87)))], [.box [I x.fLetters, I x.fStart, LS (lsT (lsT (lsT intT))) x.fNext, LS intT x.fMark] 77 false, .box [I 0, I 0, .v (.slice none 0 0), .v (.slice none 0 0)] 77 false, .box [I x.fLetters, I x.fStart, .own 14, .own 15] 77 false, .gone, .gone, .gone, .gone, .gone, .gone, .gone, .gone, .gone, .gone, .gone, rowI 78 (lsT (lsT (lsT intT))) l14, rowI 3 intT (l3 ++ ([(wr (1 - e_2))] : (List Int))), .gone, .gone, .gone, .gone, .gone, .gone, .gone, .gone, rowI 42 (lsT (lsT intT)) l24, .gone, .gone, rowI 3 intT l27, .gone, .gone, .gone, rowI 22 (lsT intT) l31, .gone, rowI 3 intT l33]⟩ (by kernel_rfl) ?_
                  refine WL.nil ?_
                  refine En.seq ?_
                  refine En.region ?_
                  refine WL.run ht hn 2 ⟨[(1, .sv (.one (.ptr 0 0))), (2, .sv (.one (.ptr 1 0))), (5, .sv (.one (.ptr 2 0))), (8, .sv (.one (.own 24))), (14, .sv (.one (.own 31))), (16, .sv (.one (I e_4))), (17, .sv (.one (.own 33))), (18, .sv (.one (I x87))), (31, .sv (.one (LS (lsT (lsT (lsT intT))) x.fNext))), (32, .sv (.one (I (x.fNext.length : Int)))), (33, .sv (.one (I x33))), (49, .sv (.one (LS (lsT (lsT intT)) e))), (50, .sv (.one (I (e.length : Int)))), (51, .sv (.one (I x51))), (78, .sv (.one (.own 27))), (79, .sv (.one (I (l27.length : Int)))), (80, .sv (.one (I x80))), (86, .sv (.one (I (x.fNext.length : Int)))), (87, .sv (.one (I x87))), (90, .sv (.one (I e_4))), (91, .sv (.one (I x87)))], [.box [I x.fLetters, I x.fStart, LS (lsT (lsT (lsT intT))) x.fNext, LS intT x.fMark] 77 false, .box [I 0, I 0, .v (.slice none 0 0), .v (.slice none 0 0)] 77 false, .box [I x.fLetters, I x.fStart, .own 14, .own 15] 77 false, .gone, .gone, .gone, .gone, .gone, .gone, .gone, .gone, .gone, .gone, .gone, rowI 78 (lsT (lsT (lsT intT))) l14, rowI 3 intT (l3 ++ ([(wr (1 - e_2))] : (List Int))), .gone, .gone, .gone, .gone, .gone, .gone, .gone, .gone, rowI 42 (lsT (lsT intT)) l24, .gone, .gone, rowI 3 intT l27, .gone, .gone, .gone, rowI 22 (lsT intT) l31, .gone, rowI 3 intT l33]⟩ (by kernel_rfl) ?_
                  have hz_2 := h.1
                  replace h := h.2
                  refine WL.val hn (by rfl) (val_shift (u := e_4) (v := x87) rfl (by rfl) (by rfl) hz_2 (.inr ⟨rfl, rfl⟩)) (by rfl) ?_
                  refine WL.run ht hn 2 ⟨[(1, .sv (.one (.ptr 0 0))), (2, .sv (.one (.ptr 1 0))), (5, .sv (.one (.ptr 2 0))), (8, .sv (.one (.own 24))), (14, .sv (.one (.own 31))), (16, .sv (.one (I e_4))), (17, .sv (.one (.own 33))), (18, .sv (.one (I x87))), (31, .sv (.one (LS (lsT (lsT (lsT intT))) x.fNext))), (32, .sv (.one (I (x.fNext.length : Int)))), (33, .sv (.one (I x33))), (49, .sv (.one (LS (lsT (lsT intT)) e))), (50, .sv (.one (I (e.length : Int)))), (51, .sv (.one (I x51))), (78, .sv (.one (.own 27))), (79, .sv (.one (I (l27.length : Int)))), (80, .sv (.one (I x80))), (86, .sv (.one (I (x.fNext.length : Int)))), (87, .sv (.one (I x87))), (94, .sv (.one (B ((bitsI .and .i64 (Int.fdiv e_4 (2 ^ (min (x87).toNat 64))) 1) == 1))))], [.box [I x.fLetters, I x.fStart, LS (lsT (lsT (lsT intT))) x.fNext, LS intT x.fMark] 77 false, .box [I 0, I 0, .v (.slice none 0 0), .v (.slice none 0 0)] 77 false, .box [I x.fLetters, I x.fStart, .own 14, .own 15] 77 false, .gone, .gone, .gone, .gone, .gone, .gone, .gone, .gone, .gone, .gone, .gone, rowI 78 (lsT (lsT (lsT intT))) l14, rowI 3 intT (l3 ++ ([(wr (1 - e_2))] : (List Int))), .gone, .gone, .gone, .gone, .gone, .gone, .gone, .gone, rowI 42 (lsT (lsT intT)) l24, .gone, .gone, rowI 3 intT l27, .gone, .gone, .gone, rowI 22 (lsT intT) l31, .gone, rowI 3 intT l33]⟩ (by kernel_rfl) ?_
                  refine WL.nil ?_
                  refine En.cond (b := ((bitsI .and .i64 (Int.fdiv e_4 (2 ^ (min (x87).toNat 64))) 1) == 1)) (by kernel_rfl) (fun hb => ?_) (fun hb => ?_)
                  · replace h := h.1 hb
                    refine En.region ?_
                    refine WL.run ht hn 2 ⟨[(1, .sv (.one (.ptr 0 0))), (2, .sv (.one (.ptr 1 0))), (5, .sv (.one (.ptr 2 0))), (8, .sv (.one (.own 24))), (14, .sv (.one (.own 31))), (16, .sv (.one (I e_4))), (31, .sv (.one (LS (lsT (lsT (lsT intT))) x.fNext))), (32, .sv (.one (I (x.fNext.length : Int)))), (33, .sv (.one (I x33))), (49, .sv (.one (LS (lsT (lsT intT)) e))), (50, .sv (.one (I (e.length : Int)))), (51, .sv (.one (I x51))), (78, .sv (.one (.own 27))), (79, .sv (.one (I (l27.length : Int)))), (80, .sv (.one (I x80))), (86, .sv (.one (I (x.fNext.length : Int)))), (87, .sv (.one (I x87))), (95, .sv (.one (.own 33))), (96, .sv (.one (I x87)))], [.box [I x.fLetters, I x.fStart, LS (lsT (lsT (lsT intT))) x.fNext, LS intT x.fMark] 77 false, .box [I 0, I 0, .v (.slice none 0 0), .v (.slice none 0 0)] 77 false, .box [I x.fLetters, I x.fStart, .own 14, .own 15] 77 false, .gone, .gone, .gone, .gone, .gone, .gone, .gone, .gone, .gone, .gone, .gone, rowI 78 (lsT (lsT (lsT intT))) l14, rowI 3 intT (l3 ++ ([(wr (1 - e_2))] : (List Int))), .gone, .gone, .gone, .gone, .gone, .gone, .gone, .gone, rowI 42 (lsT (lsT intT)) l24, .gone, .gone, rowI 3 intT l27, .gone, .gone, .gone, rowI 22 (lsT intT) l31, .gone, rowI 3 intT l33]⟩ (by kernel_rfl) ?_
                    refine WL.mt0 (K := []) (p := some (34, rowI 3 intT ([x87] : (List Int)))) hn (by rfl) (mt_lit (T := intT) ([x87] : (List Int)) (mt_bsl 34 (r := cellsOf intT ([x87] : (List Int))) ht rfl (by rfl) (by rfl) (by rfl) (by kernel_rfl) (by rfl)) (fun _ h => by cases h) (fun _ => rfl) (fun _ => rfl) (by rfl) (Nat.le_of_ble_eq_true rfl)) (by rfl) (by rfl) (by rfl) ?_
                    refine WL.seal 34 (by rfl) ?_
                    have hp := h.1
                    replace h := h.2
                    refine WL.mt (S2 := ⟨[(1, .sv (.one (.ptr 0 0))), (2, .sv (.one (.ptr 1 0))), (5, .sv (.one (.ptr 2 0))), (8, .sv (.one (.own 24))), (14, .sv (.one (.own 31))), (16, .sv (.one (I e_4))), (31, .sv (.one (LS (lsT (lsT (lsT intT))) x.fNext))), (32, .sv (.one (I (x.fNext.length : Int)))), (33, .sv (.one (I x33))), (49, .sv (.one (LS (lsT (lsT intT)) e))), (50, .sv (.one (I (e.length : Int)))), (51, .sv (.one (I x51))), (78, .sv (.one (.own 27))), (79, .sv (.one (I (l27.length : Int)))), (80, .sv (.one (I x80))), (86, .sv (.one (I (x.fNext.length : Int)))), (87, .sv (.one (I x87))), (96, .sv (.one (I x87))), (97, .sv (.one (LS intT ([x87] : (List Int)))))], [.box [I x.fLetters, I x.fStart, LS (lsT (lsT (lsT intT))) x.fNext, LS intT x.fMark] 77 false, .box [I 0, I 0, .v (.slice none 0 0), .v (.slice none 0 0)] 77 false, .box [I x.fLetters, I x.fStart, .own 14, .own 15] 77 false, .gone, .gone, .gone, .gone, .gone, .gone, .gone, .gone, .gone, .gone, .gone, rowI 78 (lsT (lsT (lsT intT))) l14, rowI 3 intT (l3 ++ ([(wr (1 - e_2))] : (List Int))), .gone, .gone, .gone, .gone, .gone, .gone, .gone, .gone, rowI 42 (lsT (lsT intT)) l24, .gone, .gone, rowI 3 intT l27, .gone, .gone, .gone, rowI 22 (lsT intT) l31, .gone, rowI 3 intT l33, .gone]⟩) (K := [33]) (p := some (33, rowI 3 intT (l33 ++ ([x87] : (List Int))))) hn (by rfl) (mt_append (T := intT) (l := l33) (es := ([x87] : (List Int))) ht rfl (by rfl) (by rfl) (by rfl) (by rfl) (by decide) (by rfl) (by rfl) (srcLS (T := intT) (es := ([x87] : (List Int))) (fun _ h => by cases h) (by decide) (by rfl)) (by exact hp) (by exact hp.le (by decide))) (by kernel_rfl) (by rfl) (by rfl) (by rfl) ?_
                    refine WL.run ht hn 1 ⟨[(1, .sv (.one (.ptr 0 0))), (2, .sv (.one (.ptr 1 0))), (5, .sv (.one (.ptr 2 0))), (8, .sv (.one (.own 24))), (14, .sv (.one (.own 31))), (16, .sv (.one (I e_4))), (17, .sv (.one (.own 33))), (31, .sv (.one (LS (lsT (lsT (lsT intT))) x.fNext))), (32, .sv (.one (I (x.fNext.length : Int)))), (33, .sv (.one (I x33))), (49, .sv (.one (LS (lsT (lsT intT)) e))), (50, .sv (.one (I (e.length : Int)))), (51, .sv (.one (I x51))), (78, .sv (.one (.own 27))), (79, .sv (.one (I (l27.length : Int)))), (80, .sv (.one (I x80))), (86, .sv (.one (I (x.fNext.length : Int)))), (87, .sv (.one (I x87)))], [.box [I x.fLetters, I x.fStart, LS (lsT (lsT (lsT intT))) x.fNext, LS intT x.fMark] 77 false, .box [I 0, I 0, .v (.slice none 0 0), .v (.slice none 0 0)] 77 false, .box [I x.fLetters, I x.fStart, .own 14, .own 15] 77 false, .gone, .gone, .gone, .gone, .gone, .gone, .gone, .gone, .gone, .gone, .gone, rowI 78 (lsT (lsT (lsT intT))) l14, rowI 3 intT (l3 ++ ([(wr (1 - e_2))] : (List Int))), .gone, .gone, .gone, .gone, .gone, .gone, .gone, .gone, rowI 42 (lsT (lsT intT)) l24, .gone, .gone, rowI 3 intT l27, .gone, .gone, .gone, rowI 22 (lsT intT) l31, .gone, rowI 3 intT (l33 ++ ([x87] : (List Int))), .gone]⟩ (by kernel_rfl) ?_
                    refine WL.nil ?_
                    exact En.at (I := fun zz => J_3 zz) (T := fun zz => ⟨[(1, .sv (.one (.ptr 0 0))), (2, .sv (.one (.ptr 1 0))), (5, .sv (.one (.ptr 2 0))), (8, .sv (.one (.own 24))), (14, .sv (.one (.own 31))), (16, .sv (.one (I e_4))), (17, .sv (.one (.own 33))), (31, .sv (.one (LS (lsT (lsT (lsT intT))) x.fNext))), (32, .sv (.one (I (x.fNext.length : Int)))), (33, .sv (.one (I x33))), (49, .sv (.one (LS (lsT (lsT intT)) e))), (50, .sv (.one (I (e.length : Int)))), (51, .sv (.one (I x51))), (78, .sv (.one (.own 27))), (79, .sv (.one (I (l27.length : Int)))), (80, .sv (.one (I x80))), (86, .sv (.one (I (x.fNext.length : Int)))), (87, .sv (.one (I x87)))], [.box [I x.fLetters, I x.fStart, LS (lsT (lsT (lsT intT))) x.fNext, LS intT x.fMark] 77 false, .box [I 0, I 0, .v (.slice none 0 0), .v (.slice none 0 0)] 77 false, .box [I x.fLetters, I x.fStart, .own 14, .own 15] 77 false, .gone, .gone, .gone, .gone, .gone, .gone, .gone, .gone, .gone, .gone, .gone, rowI 78 (lsT (lsT (lsT intT))) l14, rowI 3 intT (l3 ++ ([(wr (1 - e_2))] : (List Int))), .gone, .gone, .gone, .gone, .gone, .gone, .gone, .gone, rowI 42 (lsT (lsT intT)) l24, .gone, .gone, rowI 3 intT l27, .gone, .gone, .gone, rowI 22 (lsT intT) l31, .gone, rowI 3 intT zz]⟩) (l33 ++ ([x87] : (List Int))) h (by kernel_rfl)
                  · replace h := h.2 hb
                    refine En.skip ?_
                    exact En.at (I := fun zz => J_3 zz) (T := fun zz => ⟨[(1, .sv (.one (.ptr 0 0))), (2, .sv (.one (.ptr 1 0))), (5, .sv (.one (.ptr 2 0))), (8, .sv (.one (.own 24))), (14, .sv (.one (.own 31))), (16, .sv (.one (I e_4))), (17, .sv (.one (.own 33))), (31, .sv (.one (LS (lsT (lsT (lsT intT))) x.fNext))), (32, .sv (.one (I (x.fNext.length : Int)))), (33, .sv (.one (I x33))), (49, .sv (.one (LS (lsT (lsT intT)) e))), (50, .sv (.one (I (e.length : Int)))), (51, .sv (.one (I x51))), (78, .sv (.one (.own 27))), (79, .sv (.one (I (l27.length : Int)))), (80, .sv (.one (I x80))), (86, .sv (.one (I (x.fNext.length : Int)))), (87, .sv (.one (I x87)))], [.box [I x.fLetters, I x.fStart, LS (lsT (lsT (lsT intT))) x.fNext, LS intT x.fMark] 77 false, .box [I 0, I 0, .v (.slice none 0 0), .v (.slice none 0 0)] 77 false, .box [I x.fLetters, I x.fStart, .own 14, .own 15] 77 false, .gone, .gone, .gone, .gone, .gone, .gone, .gone, .gone, .gone, .gone, .gone, rowI 78 (lsT (lsT (lsT intT))) l14, rowI 3 intT (l3 ++ ([(wr (1 - e_2))] : (List Int))), .gone, .gone, .gone, .gone, .gone, .gone, .gone, .gone, rowI 42 (lsT (lsT intT)) l24, .gone, .gone, rowI 3 intT l27, .gone, .gone, .gone, rowI 22 (lsT intT) l31, .gone, rowI 3 intT zz]⟩) l33 h (by kernel_rfl)
                · intro l33_2 h
                  replace h := hJ_3 _ h
                  show En c ⟨[(1, .sv (.one (.ptr 0 0))), (2, .sv (.one (.ptr 1 0))), (5, .sv (.one (.ptr 2 0))), (8, .sv (.one (.own 24))), (14, .sv (.one (.own 31))), (16, .sv (.one (I e_4))), (17, .sv (.one (.own 33))), (31, .sv (.one (LS (lsT (lsT (lsT intT))) x.fNext))), (32, .sv (.one (I (x.fNext.length : Int)))), (33, .sv (.one (I x33))), (49, .sv (.one (LS (lsT (lsT intT)) e))), (50, .sv (.one (I (e.length : Int)))), (51, .sv (.one (I x51))), (78, .sv (.one (.own 27))), (79, .sv (.one (I (l27.length : Int)))), (80, .sv (.one (I x80))), (86, .sv (.one (I (x.fNext.length : Int)))), (87, .sv (.one (I x87)))], [.box [I x.fLetters, I x.fStart, LS (lsT (lsT (lsT intT))) x.fNext, LS intT x.fMark] 77 false, .box [I 0, I 0, .v (.slice none 0 0), .v (.slice none 0 0)] 77 false, .box [I x.fLetters, I x.fStart, .own 14, .own 15] 77 false, .gone, .gone, .gone, .gone, .gone, .gone, .gone, .gone, .gone, .gone, .gone, rowI 78 (lsT (lsT (lsT intT))) l14, rowI 3 intT (l3 ++ ([(wr (1 - e_2))] : (List Int))), .gone, .gone, .gone, .gone, .gone, .gone, .gone, .gone, rowI 42 (lsT (lsT intT)) l24, .gone, .gone, rowI 3 intT l27, .gone, .gone, .gone, rowI 22 (lsT intT) l31, .gone, rowI 3 intT l33_2]⟩ _
                  refine En.region ?_
                  refine WL.run ht hn 2 ⟨[(1, .sv (.one (.ptr 0 0))), (2, .sv (.one (.ptr 1 0))), (5, .sv (.one (.ptr 2 0))), (8, .sv (.one (.own 24))), (14, .sv (.one (.own 31))), (16, .sv (.one (I e_4))), (17, .sv (.one (.own 33))), (31, .sv (.one (LS (lsT (lsT (lsT intT))) x.fNext))), (32, .sv (.one (I (x.fNext.length : Int)))), (33, .sv (.one (I x33))), (49, .sv (.one (LS (lsT (lsT intT)) e))), (50, .sv (.one (I (e.length : Int)))), (51, .sv (.one (I x51))), (78, .sv (.one (.own 27))), (79, .sv (.one (I (l27.length : Int)))), (80, .sv (.one (I x80))), (86, .sv (.one (I (x.fNext.length : Int)))), (87, .sv (.one (I (wr (x87 + 1)))))], [.box [I x.fLetters, I x.fStart, LS (lsT (lsT (lsT intT))) x.fNext, LS intT x.fMark] 77 false, .box [I 0, I 0, .v (.slice none 0 0), .v (.slice none 0 0)] 77 false, .box [I x.fLetters, I x.fStart, .own 14, .own 15] 77 false, .gone, .gone, .gone, .gone, .gone, .gone, .gone, .gone, .gone, .gone, .gone, rowI 78 (lsT (lsT (lsT intT))) l14, rowI 3 intT (l3 ++ ([(wr (1 - e_2))] : (List Int))), .gone, .gone, .gone, .gone, .gone, .gone, .gone, .gone, rowI 42 (lsT (lsT intT)) l24, .gone, .gone, rowI 3 intT l27, .gone, .gone, .gone, rowI 22 (lsT intT) l31, .gone, rowI 3 intT l33_2]⟩ (by kernel_rfl) ?_
                  refine WL.nil ?_
                  exact En.at (I := fun zz => Inv_5 zz.1 zz.2 ∧ mu_5 zz.1 zz.2 < mu_5 x87 l33) (T := fun zz => ⟨[(1, .sv (.one (.ptr 0 0))), (2, .sv (.one (.ptr 1 0))), (5, .sv (.one (.ptr 2 0))), (8, .sv (.one (.own 24))), (14, .sv (.one (.own 31))), (16, .sv (.one (I e_4))), (17, .sv (.one (.own 33))), (31, .sv (.one (LS (lsT (lsT (lsT intT))) x.fNext))), (32, .sv (.one (I (x.fNext.length : Int)))), (33, .sv (.one (I x33))), (49, .sv (.one (LS (lsT (lsT intT)) e))), (50, .sv (.one (I (e.length : Int)))), (51, .sv (.one (I x51))), (78, .sv (.one (.own 27))), (79, .sv (.one (I (l27.length : Int)))), (80, .sv (.one (I x80))), (86, .sv (.one (I (x.fNext.length : Int)))), (87, .sv (.one (I zz.1)))], [.box [I x.fLetters, I x.fStart, LS (lsT (lsT (lsT intT))) x.fNext, LS intT x.fMark] 77 false, .box [I 0, I 0, .v (.slice none 0 0), .v (.slice none 0 0)] 77 false, .box [I x.fLetters, I x.fStart, .own 14, .own 15] 77 false, .gone, .gone, .gone, .gone, .gone, .gone, .gone, .gone, .gone, .gone, .gone, rowI 78 (lsT (lsT (lsT intT))) l14, rowI 3 intT (l3 ++ ([(wr (1 - e_2))] : (List Int))), .gone, .gone, .gone, .gone, .gone, .gone, .gone, .gone, rowI 42 (lsT (lsT intT)) l24, .gone, .gone, rowI 3 intT l27, .gone, .gone, .gone, rowI 22 (lsT intT) l31, .gone, rowI 3 intT zz.2]⟩) ((wr (x87 + 1)), l33_2) h (by kernel_rfl)
              · replace h := h.2 hb
                refine En.exit rfl ?_
                refine En.region ?_
                refine WL.run ht hn 2 ⟨[(1, .sv (.one (.ptr 0 0))), (2, .sv (.one (.ptr 1 0))), (5, .sv (.one (.ptr 2 0))), (8, .sv (.one (.own 24))), (31, .sv (.one (LS (lsT (lsT (lsT intT))) x.fNext))), (32, .sv (.one (I (x.fNext.length : Int)))), (33, .sv (.one (I x33))), (49, .sv (.one (LS (lsT (lsT intT)) e))), (50, .sv (.one (I (e.length : Int)))), (51, .sv (.one (I x51))), (78, .sv (.one (.own 27))), (79, .sv (.one (I (l27.length : Int)))), (80, .sv (.one (I x80))), (100, .sv (.one (.own 31))), (101, .sv (.one (.own 33)))], [.box [I x.fLetters, I x.fStart, LS (lsT (lsT (lsT intT))) x.fNext, LS intT x.fMark] 77 false, .box [I 0, I 0, .v (.slice none 0 0), .v (.slice none 0 0)] 77 false, .box [I x.fLetters, I x.fStart, .own 14, .own 15] 77 false, .gone, .gone, .gone, .gone, .gone, .gone, .gone, .gone, .gone, .gone, .gone, rowI 78 (lsT (lsT (lsT intT))) l14, rowI 3 intT (l3 ++ ([(wr (1 - e_2))] : (List Int))), .gone, .gone, .gone, .gone, .gone, .gone, .gone, .gone, rowI 42 (lsT (lsT intT)) l24, .gone, .gone, rowI 3 intT l27, .gone, .gone, .gone, rowI 22 (lsT intT) l31, .gone, rowI 3 intT l33]⟩ (by kernel_rfl) ?_
                refine WL.seal 33 (by rfl) ?_
                refine WL.mt0 (K := []) (p := some (34, rowI 22 (lsT intT) ([l33] : (List (List Int))))) hn (by rfl) (mt_lit (T := (lsT intT)) ([l33] : (List (List Int))) (mt_bsl 34 (r := cellsOf (lsT intT) ([l33] : (List (List Int)))) ht rfl (by rfl) (by rfl) (by rfl) (by kernel_rfl) (by rfl)) (fun _ h => by cases h) (fun _ => rfl) (fun _ => rfl) (by rfl) (Nat.le_of_ble_eq_true rfl)) (by rfl) (by rfl) (by rfl) ?_
                refine WL.seal 34 (by rfl) ?_
                have hp := h.1
                replace h := h.2
                refine WL.mt (S2 := ⟨[(1, .sv (.one (.ptr 0 0))), (2, .sv (.one (.ptr 1 0))), (5, .sv (.one (.ptr 2 0))), (8, .sv (.one (.own 24))), (31, .sv (.one (LS (lsT (lsT (lsT intT))) x.fNext))), (32, .sv (.one (I (x.fNext.length : Int)))), (33, .sv (.one (I x33))), (49, .sv (.one (LS (lsT (lsT intT)) e))), (50, .sv (.one (I (e.length : Int)))), (51, .sv (.one (I x51))), (78, .sv (.one (.own 27))), (79, .sv (.one (I (l27.length : Int)))), (80, .sv (.one (I x80))), (101, .sv (.one (LS intT l33))), (102, .sv (.one (LS (lsT intT) ([l33] : (List (List Int))))))], [.box [I x.fLetters, I x.fStart, LS (lsT (lsT (lsT intT))) x.fNext, LS intT x.fMark] 77 false, .box [I 0, I 0, .v (.slice none 0 0), .v (.slice none 0 0)] 77 false, .box [I x.fLetters, I x.fStart, .own 14, .own 15] 77 false, .gone, .gone, .gone, .gone, .gone, .gone, .gone, .gone, .gone, .gone, .gone, rowI 78 (lsT (lsT (lsT intT))) l14, rowI 3 intT (l3 ++ ([(wr (1 - e_2))] : (List Int))), .gone, .gone, .gone, .gone, .gone, .gone, .gone, .gone, rowI 42 (lsT (lsT intT)) l24, .gone, .gone, rowI 3 intT l27, .gone, .gone, .gone, rowI 22 (lsT intT) l31, .gone, .gone, .gone]⟩) (K := [31]) (p := some (31, rowI 22 (lsT intT) (l31 ++ ([l33] : (List (List Int)))))) hn (by rfl) (mt_append (T := (lsT intT)) (l := l31) (es := ([l33] : (List (List Int)))) ht rfl (by rfl) (by rfl) (by rfl) (by rfl) (by decide) (by rfl) (by rfl) (srcLS (T := (lsT intT)) (es := ([l33] : (List (List Int)))) (fun _ h => by cases h) (by decide) (by rfl)) (by exact hp) (by exact hp.le (by decide))) (by kernel_rfl) (by rfl) (by rfl) (by rfl) ?_
                refine WL.run ht hn 1 ⟨[(1, .sv (.one (.ptr 0 0))), (2, .sv (.one (.ptr 1 0))), (5, .sv (.one (.ptr 2 0))), (8, .sv (.one (.own 24))), (14, .sv (.one (.own 31))), (31, .sv (.one (LS (lsT (lsT (lsT intT))) x.fNext))), (32, .sv (.one (I (x.fNext.length : Int)))), (33, .sv (.one (I x33))), (49, .sv (.one (LS (lsT (lsT intT)) e))), (50, .sv (.one (I (e.length : Int)))), (51, .sv (.one (I x51))), (78, .sv (.one (.own 27))), (79, .sv (.one (I (l27.length : Int)))), (80, .sv (.one (I x80)))], [.box [I x.fLetters, I x.fStart, LS (lsT (lsT (lsT intT))) x.fNext, LS intT x.fMark] 77 false, .box [I 0, I 0, .v (.slice none 0 0), .v (.slice none 0 0)] 77 false, .box [I x.fLetters, I x.fStart, .own 14, .own 15] 77 false, .gone, .gone, .gone, .gone, .gone, .gone, .gone, .gone, .gone, .gone, .gone, rowI 78 (lsT (lsT (lsT intT))) l14, rowI 3 intT (l3 ++ ([(wr (1 - e_2))] : (List Int))), .gone, .gone, .gone, .gone, .gone, .gone, .gone, .gone, rowI 42 (lsT (lsT intT)) l24, .gone, .gone, rowI 3 intT l27, .gone, .gone, .gone, rowI 22 (lsT intT) (l31 ++ ([l33] : (List (List Int)))), .gone, .gone, .gone]⟩ (by kernel_rfl) ?_
                refine WL.nil ?_
                refine En.region ?_
                refine WL.run ht hn 2 ⟨[(1, .sv (.one (.ptr 0 0))), (2, .sv (.one (.ptr 1 0))), (5, .sv (.one (.ptr 2 0))), (8, .sv (.one (.own 24))), (14, .sv (.one (.own 31))), (31, .sv (.one (LS (lsT (lsT (lsT intT))) x.fNext))), (32, .sv (.one (I (x.fNext.length : Int)))), (33, .sv (.one (I x33))), (49, .sv (.one (LS (lsT (lsT intT)) e))), (50, .sv (.one (I (e.length : Int)))), (51, .sv (.one (I x51))), (78, .sv (.one (.own 27))), (79, .sv (.one (I (l27.length : Int)))), (80, .sv (.one (I (wr (x80 + 1)))))], [.box [I x.fLetters, I x.fStart, LS (lsT (lsT (lsT intT))) x.fNext, LS intT x.fMark] 77 false, .box [I 0, I 0, .v (.slice none 0 0), .v (.slice none 0 0)] 77 false, .box [I x.fLetters, I x.fStart, .own 14, .own 15] 77 false, .gone, .gone, .gone, .gone, .gone, .gone, .gone, .gone, .gone, .gone, .gone, rowI 78 (lsT (lsT (lsT intT))) l14, rowI 3 intT (l3 ++ ([(wr (1 - e_2))] : (List Int))), .gone, .gone, .gone, .gone, .gone, .gone, .gone, .gone, rowI 42 (lsT (lsT intT)) l24, .gone, .gone, rowI 3 intT l27, .gone, .gone, .gone, rowI 22 (lsT intT) (l31 ++ ([l33] : (List (List Int)))), .gone, .gone, .gone]⟩ (by kernel_rfl) ?_
                refine WL.nil ?_
                exact En.at (I := fun zz => Inv_4 zz.1 zz.2 ∧ mu_4 zz.1 zz.2 < mu_4 x80 l31) (T := fun zz => ⟨[(1, .sv (.one (.ptr 0 0))), (2, .sv (.one (.ptr 1 0))), (5, .sv (.one (.ptr 2 0))), (8, .sv (.one (.own 24))), (14, .sv (.one (.own 31))), (31, .sv (.one (LS (lsT (lsT (lsT intT))) x.fNext))), (32, .sv (.one (I (x.fNext.length : Int)))), (33, .sv (.one (I x33))), (49, .sv (.one (LS (lsT (lsT intT)) e))), (50, .sv (.one (I (e.length : Int)))), (51, .sv (.one (I x51))), (78, .sv (.one (.own 27))), (79, .sv (.one (I (l27.length : Int)))), (80, .sv (.one (I zz.1)))], [.box [I x.fLetters, I x.fStart, LS (lsT (lsT (lsT intT))) x.fNext, LS intT x.fMark] 77 false, .box [I 0, I 0, .v (.slice none 0 0), .v (.slice none 0 0)] 77 false, .box [I x.fLetters, I x.fStart, .own 14, .own 15] 77 false, .gone, .gone, .gone, .gone, .gone, .gone, .gone, .gone, .gone, .gone, .gone, rowI 78 (lsT (lsT (lsT intT))) l14, rowI 3 intT (l3 ++ ([(wr (1 - e_2))] : (List Int))), .gone, .gone, .gone, .gone, .gone, .gone, .gone, .gone, rowI 42 (lsT (lsT intT)) l24, .gone, .gone, rowI 3 intT l27, .gone, .gone, .gone, rowI 22 (lsT intT) zz.2]⟩) ((wr (x80 + 1)), (l31 ++ ([l33] : (List (List Int))))) h (by kernel_rfl)
            · replace h := h.2 hb
              refine En.exit rfl ?_
              refine En.region ?_
              refine WL.run ht hn 2 ⟨[(1, .sv (.one (.ptr 0 0))), (2, .sv (.one (.ptr 1 0))), (5, .sv (.one (.ptr 2 0))), (31, .sv (.one (LS (lsT (lsT (lsT intT))) x.fNext))), (32, .sv (.one (I (x.fNext.length : Int)))), (33, .sv (.one (I x33))), (49, .sv (.one (LS (lsT (lsT intT)) e))), (50, .sv (.one (I (e.length : Int)))), (51, .sv (.one (I x51))), (105, .sv (.one (.own 24))), (106, .sv (.one (.own 31)))], [.box [I x.fLetters, I x.fStart, LS (lsT (lsT (lsT intT))) x.fNext, LS intT x.fMark] 77 false, .box [I 0, I 0, .v (.slice none 0 0), .v (.slice none 0 0)] 77 false, .box [I x.fLetters, I x.fStart, .own 14, .own 15] 77 false, .gone, .gone, .gone, .gone, .gone, .gone, .gone, .gone, .gone, .gone, .gone, rowI 78 (lsT (lsT (lsT intT))) l14, rowI 3 intT (l3 ++ ([(wr (1 - e_2))] : (List Int))), .gone, .gone, .gone, .gone, .gone, .gone, .gone, .gone, rowI 42 (lsT (lsT intT)) l24, .gone, .gone, .gone, .gone, .gone, .gone, rowI 22 (lsT intT) l31]⟩ (by kernel_rfl) ?_
              refine WL.seal 31 (by rfl) ?_
              refine WL.mt0 (K := []) (p := some (32, rowI 42 (lsT (lsT intT)) ([l31] : (List (List (List Int)))))) hn (by rfl) (mt_lit (T := (lsT (lsT intT))) ([l31] : (List (List (List Int)))) (mt_bsl 32 (r := cellsOf (lsT (lsT intT)) ([l31] : (List (List (List Int))))) ht rfl (by rfl) (by rfl) (by rfl) (by kernel_rfl) (by rfl)) (fun _ h => by cases h) (fun _ => rfl) (fun _ => rfl) (by rfl) (Nat.le_of_ble_eq_true rfl)) (by rfl) (by rfl) (by rfl) ?_
              refine WL.seal 32 (by rfl) ?_
              have hp := h.1
              replace h := h.2
              refine WL.mt (S2 := ⟨[(1, .sv (.one (.ptr 0 0))), (2, .sv (.one (.ptr 1 0))), (5, .sv (.one (.ptr 2 0))), (31, .sv (.one (LS (lsT (lsT (lsT intT))) x.fNext))), (32, .sv (.one (I (x.fNext.length : Int)))), (33, .sv (.one (I x33))), (49, .sv (.one (LS (lsT (lsT intT)) e))), (50, .sv (.one (I (e.length : Int)))), (51, .sv (.one (I x51))), (106, .sv (.one (LS (lsT intT) l31))), (107, .sv (.one (LS (lsT (lsT intT)) ([l31] : (List (List (List Int)))))))], [.box [I x.fLetters, I x.fStart, LS (lsT (lsT (lsT intT))) x.fNext, LS intT x.fMark] 77 false, .box [I 0, I 0, .v (.slice none 0 0), .v (.slice none 0 0)] 77 false, .box [I x.fLetters, I x.fStart, .own 14, .own 15] 77 false, .gone, .gone, .gone, .gone, .gone, .gone, .gone, .gone, .gone, .gone, .gone, rowI 78 (lsT (lsT (lsT intT))) l14, rowI 3 intT (l3 ++ ([(wr (1 - e_2))] : (List Int))), .gone, .gone, .gone, .gone, .gone, .gone, .gone, .gone, rowI 42 (lsT (lsT intT)) l24, .gone, .gone, .gone, .gone, .gone, .gone, .gone, .gone]⟩) (K := [24]) (p := some (24, rowI 42 (lsT (lsT intT)) (l24 ++ ([l31] : (List (List (List Int))))))) hn (by rfl) (mt_append (T := (lsT (lsT intT))) (l := l24) (es := ([l31] : (List (List (List Int))))) ht rfl (by rfl) (by rfl) (by rfl) (by rfl) (by decide) (by rfl) (by rfl) (srcLS (T := (lsT (lsT intT))) (es := ([l31] : (List (List (List Int))))) (fun _ h => by cases h) (by decide) (by rfl)) (by exact hp) (by exact hp.le (by decide))) (by kernel_rfl) (by rfl) (by rfl) (by rfl) ?_
              refine WL.run ht hn 1 ⟨[(1, .sv (.one (.ptr 0 0))), (2, .sv (.one (.ptr 1 0))), (5, .sv (.one (.ptr 2 0))), (8, .sv (.one (.own 24))), (31, .sv (.one (LS (lsT (lsT (lsT intT))) x.fNext))), (32, .sv (.one (I (x.fNext.length : Int)))), (33, .sv (.one (I x33))), (49, .sv (.one (LS (lsT (lsT intT)) e))), (50, .sv (.one (I (e.length : Int)))), (51, .sv (.one (I x51)))], [.box [I x.fLetters, I x.fStart, LS (lsT (lsT (lsT intT))) x.fNext, LS intT x.fMark] 77 false, .box [I 0, I 0, .v (.slice none 0 0), .v (.slice none 0 0)] 77 false, .box [I x.fLetters, I x.fStart, .own 14, .own 15] 77 false, .gone, .gone, .gone, .gone, .gone, .gone, .gone, .gone, .gone, .gone, .gone, rowI 78 (lsT (lsT (lsT intT))) l14, rowI 3 intT (l3 ++ ([(wr (1 - e_2))] : (List Int))), .gone, .gone, .gone, .gone, .gone, .gone, .gone, .gone, rowI 42 (lsT (lsT intT)) (l24 ++ ([l31] : (List (List (List Int))))), .gone, .gone, .gone, .gone, .gone, .gone, .gone, .gone]⟩ (by kernel_rfl) ?_
              refine WL.nil ?_
              refine En.region ?_
              refine WL.run ht hn 2 ⟨[(1, .sv (.one (.ptr 0 0))), (2, .sv (.one (.ptr 1 0))), (5, .sv (.one (.ptr 2 0))), (8, .sv (.one (.own 24))), (31, .sv (.one (LS (lsT (lsT (lsT intT))) x.fNext))), (32, .sv (.one (I (x.fNext.length : Int)))), (33, .sv (.one (I x33))), (49, .sv (.one (LS (lsT (lsT intT)) e))), (50, .sv (.one (I (e.length : Int)))), (51, .sv (.one (I (wr (x51 + 1)))))], [.box [I x.fLetters, I x.fStart, LS (lsT (lsT (lsT intT))) x.fNext, LS intT x.fMark] 77 false, .box [I 0, I 0, .v (.slice none 0 0), .v (.slice none 0 0)] 77 false, .box [I x.fLetters, I x.fStart, .own 14, .own 15] 77 false, .gone, .gone, .gone, .gone, .gone, .gone, .gone, .gone, .gone, .gone, .gone, rowI 78 (lsT (lsT (lsT intT))) l14, rowI 3 intT (l3 ++ ([(wr (1 - e_2))] : (List Int))), .gone, .gone, .gone, .gone, .gone, .gone, .gone, .gone, rowI 42 (lsT (lsT intT)) (l24 ++ ([l31] : (List (List (List Int))))), .gone, .gone, .gone, .gone, .gone, .gone, .gone, .gone]⟩ (by kernel_rfl) ?_
              refine WL.nil ?_
              exact En.at (I := fun zz => Inv_2 zz.1 zz.2 ∧ mu_2 zz.1 zz.2 < mu_2 x51 l24) (T := fun zz => ⟨[(1, .sv (.one (.ptr 0 0))), (2, .sv (.one (.ptr 1 0))), (5, .sv (.one (.ptr 2 0))), (8, .sv (.one (.own 24))), (31, .sv (.one (LS (lsT (lsT (lsT intT))) x.fNext))), (32, .sv (.one (I (x.fNext.length : Int)))), (33, .sv (.one (I x33))), (49, .sv (.one (LS (lsT (lsT intT)) e))), (50, .sv (.one (I (e.length : Int)))), (51, .sv (.one (I zz.1)))], [.box [I x.fLetters, I x.fStart, LS (lsT (lsT (lsT intT))) x.fNext, LS intT x.fMark] 77 false, .box [I 0, I 0, .v (.slice none 0 0), .v (.slice none 0 0)] 77 false, .box [I x.fLetters, I x.fStart, .own 14, .own 15] 77 false, .gone, .gone, .gone, .gone, .gone, .gone, .gone, .gone, .gone, .gone, .gone, rowI 78 (lsT (lsT (lsT intT))) l14, rowI 3 intT (l3 ++ ([(wr (1 - e_2))] : (List Int))), .gone, .gone, .gone, .gone, .gone, .gone, .gone, .gone, rowI 42 (lsT (lsT intT)) zz.2]⟩) ((wr (x51 + 1)), (l24 ++ ([l31] : (List (List (List Int)))))) h (by kernel_rfl)
        · replace h := h.2 hb
          refine En.exit rfl ?_
          refine En.region ?_
          refine WL.run ht hn 3 ⟨[(1, .sv (.one (.ptr 0 0))), (2, .sv (.one (.ptr 1 0))), (5, .sv (.one (.ptr 2 0))), (31, .sv (.one (LS (lsT (lsT (lsT intT))) x.fNext))), (32, .sv (.one (I (x.fNext.length : Int)))), (33, .sv (.one (I x33))), (111, .sv (.one (.own 14))), (112, .sv (.one (.own 24)))], [.box [I x.fLetters, I x.fStart, LS (lsT (lsT (lsT intT))) x.fNext, LS intT x.fMark] 77 false, .box [I 0, I 0, .v (.slice none 0 0), .v (.slice none 0 0)] 77 false, .box [I x.fLetters, I x.fStart, .own 14, .own 15] 77 false, .gone, .gone, .gone, .gone, .gone, .gone, .gone, .gone, .gone, .gone, .gone, rowI 78 (lsT (lsT (lsT intT))) l14, rowI 3 intT (l3 ++ ([(wr (1 - e_2))] : (List Int))), .gone, .gone, .gone, .gone, .gone, .gone, .gone, .gone, rowI 42 (lsT (lsT intT)) l24]⟩ (by kernel_rfl) ?_
          refine WL.seal 24 (by rfl) ?_
          refine WL.mt0 (K := []) (p := some (25, rowI 78 (lsT (lsT (lsT intT))) ([l24] : (List (List (List (List Int))))))) hn (by rfl) (mt_lit (T := (lsT (lsT (lsT intT)))) ([l24] : (List (List (List (List Int))))) (mt_bsl 25 (r := cellsOf (lsT (lsT (lsT intT))) ([l24] : (List (List (List (List Int)))))) ht rfl (by rfl) (by rfl) (by rfl) (by kernel_rfl) (by rfl)) (fun _ h => by cases h) (fun _ => rfl) (fun _ => rfl) (by rfl) (Nat.le_of_ble_eq_true rfl)) (by rfl) (by rfl) (by rfl) ?_
          refine WL.seal 25 (by rfl) ?_
          refine WL.junk 2 2 (by rfl) ?_
          have hp := h.1
          replace h := h.2
          refine WL.mt (S2 := ⟨[(1, .sv (.one (.ptr 0 0))), (2, .sv (.one (.ptr 1 0))), (5, .sv (.one (.ptr 2 0))), (31, .sv (.one (LS (lsT (lsT (lsT intT))) x.fNext))), (32, .sv (.one (I (x.fNext.length : Int)))), (33, .sv (.one (I x33))), (112, .sv (.one (LS (lsT (lsT intT)) l24))), (113, .sv (.one (LS (lsT (lsT (lsT intT))) ([l24] : (List (List (List (List Int))))))))], [.box [I x.fLetters, I x.fStart, LS (lsT (lsT (lsT intT))) x.fNext, LS intT x.fMark] 77 false, .box [I 0, I 0, .v (.slice none 0 0), .v (.slice none 0 0)] 77 false, .box [I x.fLetters, I x.fStart, .junk, .own 15] 77 false, .gone, .gone, .gone, .gone, .gone, .gone, .gone, .gone, .gone, .gone, .gone, rowI 78 (lsT (lsT (lsT intT))) l14, rowI 3 intT (l3 ++ ([(wr (1 - e_2))] : (List Int))), .gone, .gone, .gone, .gone, .gone, .gone, .gone, .gone, .gone, .gone]⟩) (K := [14]) (p := some (14, rowI 78 (lsT (lsT (lsT intT))) (l14 ++ ([l24] : (List (List (List (List Int)))))))) hn (by rfl) (mt_append (T := (lsT (lsT (lsT intT)))) (l := l14) (es := ([l24] : (List (List (List (List Int)))))) ht rfl (by rfl) (by rfl) (by rfl) (by rfl) (by decide) (by rfl) (by rfl) (srcLS (T := (lsT (lsT (lsT intT)))) (es := ([l24] : (List (List (List (List Int)))))) (fun _ h => by cases h) (by decide) (by rfl)) (by exact hp) (by exact hp.le (by decide))) (by kernel_rfl) (by rfl) (by rfl) (by rfl) ?_
          refine WL.run ht hn 2 ⟨[(1, .sv (.one (.ptr 0 0))), (2, .sv (.one (.ptr 1 0))), (5, .sv (.one (.ptr 2 0))), (31, .sv (.one (LS (lsT (lsT (lsT intT))) x.fNext))), (32, .sv (.one (I (x.fNext.length : Int)))), (33, .sv (.one (I x33)))], [.box [I x.fLetters, I x.fStart, LS (lsT (lsT (lsT intT))) x.fNext, LS intT x.fMark] 77 false, .box [I 0, I 0, .v (.slice none 0 0), .v (.slice none 0 0)] 77 false, .box [I x.fLetters, I x.fStart, .own 14, .own 15] 77 false, .gone, .gone, .gone, .gone, .gone, .gone, .gone, .gone, .gone, .gone, .gone, rowI 78 (lsT (lsT (lsT intT))) (l14 ++ ([l24] : (List (List (List (List Int)))))), rowI 3 intT (l3 ++ ([(wr (1 - e_2))] : (List Int))), .gone, .gone, .gone, .gone, .gone, .gone, .gone, .gone, .gone, .gone]⟩ (by kernel_rfl) ?_
          refine WL.nil ?_
          refine En.region ?_
          refine WL.run ht hn 2 ⟨[(1, .sv (.one (.ptr 0 0))), (2, .sv (.one (.ptr 1 0))), (5, .sv (.one (.ptr 2 0))), (31, .sv (.one (LS (lsT (lsT (lsT intT))) x.fNext))), (32, .sv (.one (I (x.fNext.length : Int)))), (33, .sv (.one (I (wr (x33 + 1)))))], [.box [I x.fLetters, I x.fStart, LS (lsT (lsT (lsT intT))) x.fNext, LS intT x.fMark] 77 false, .box [I 0, I 0, .v (.slice none 0 0), .v (.slice none 0 0)] 77 false, .box [I x.fLetters, I x.fStart, .own 14, .own 15] 77 false, .gone, .gone, .gone, .gone, .gone, .gone, .gone, .gone, .gone, .gone, .gone, rowI 78 (lsT (lsT (lsT intT))) (l14 ++ ([l24] : (List (List (List (List Int)))))), rowI 3 intT (l3 ++ ([(wr (1 - e_2))] : (List Int))), .gone, .gone, .gone, .gone, .gone, .gone, .gone, .gone, .gone, .gone]⟩ (by kernel_rfl) ?_
          refine WL.nil ?_
          refine En.move 15 3 (by rfl) (by rfl) ?_
          exact En.at (I := fun zz => Inv zz.1 zz.2.1 zz.2.2 ∧ mu zz.1 zz.2.1 zz.2.2 < mu x33 l3 l14) (T := fun zz => ⟨[(1, .sv (.one (.ptr 0 0))), (2, .sv (.one (.ptr 1 0))), (5, .sv (.one (.ptr 2 0))), (31, .sv (.one (LS (lsT (lsT (lsT intT))) x.fNext))), (32, .sv (.one (I (x.fNext.length : Int)))), (33, .sv (.one (I zz.1)))], [.box [I x.fLetters, I x.fStart, LS (lsT (lsT (lsT intT))) x.fNext, LS intT x.fMark] 77 false, .box [I 0, I 0, .v (.slice none 0 0), .v (.slice none 0 0)] 77 false, .box [I x.fLetters, I x.fStart, .own 14, .own 3] 77 false, rowI 3 intT zz.2.1, .gone, .gone, .gone, .gone, .gone, .gone, .gone, .gone, .gone, .gone, rowI 78 (lsT (lsT (lsT intT))) zz.2.2]⟩) ((wr (x33 + 1)), (l3 ++ ([(wr (1 - e_2))] : (List Int))), (l14 ++ ([l24] : (List (List (List (List Int))))))) h (by kernel_rfl)
    · replace h := h.2 hb
      refine En.exit rfl ?_
      refine En.seq ?_
      refine En.region ?_
      refine WL.run ht hn 3 ⟨[(2, .sv (.one (.ptr 1 0))), (3, .sv (.one (I 0)))], [.gone, .box [I x.fLetters, I x.fStart, .own 14, .own 3] 77 false, .gone, rowI 3 intT l3, .gone, .gone, .gone, .gone, .gone, .gone, .gone, .gone, .gone, .gone, rowI 78 (lsT (lsT (lsT intT))) l14]⟩ (by kernel_rfl) ?_
      refine WL.nil ?_
      refine En.ret ?_
      refine En.seal 14 (by rfl) ?_
      refine En.seal 3 (by rfl) ?_
      exact En.back ht ((ApiAlter.mk x.fLetters x.fStart l14 l3), 0) h (by kernel_rfl) rfl
theorem en33 : ∀ args w, (callFunc 33 args).run Try.prog w = .ok (.enter 33 args) w := enters_of Try.func33 (by kernel_rfl) rfl
theorem altOther_ct (x : ApiAlter)  : Ct 33 [.sv (.agg [I x.fLetters, I x.fStart, LS (lsT (lsT (lsT intT))) x.fNext, LS intT x.fMark])] [] (fun (_ : Unit) => True) (fun _ => .tup [.agg [I (altOtherR x).1.fLetters, I (altOtherR x).1.fStart, LS (lsT (lsT (lsT intT))) (altOtherR x).1.fNext, LS intT (altOtherR x).1.fMark], .one (I (altOtherR x).2)]) := by
  refine (altOther_walk x (fun res_ => res_ = (altOtherR x)) ?_).fun
  intro _ _
  refine ⟨fun he => ?_, fun he => ?_⟩
  · show _ = altOtherR x
    unfold altOtherR
    rw [if_neg (by simpa using he)]
  have he : altErr x = 0 := by simpa using he
  have hx := (altErr_iff x).1 he
  have hlet := hx.letters
  have hn := hx.size
  have hmk := hx.marks
  have h2n : 2 ^ x.fNext.length ≤ 2 ^ 4 := Nat.pow_le_pow_right (by decide) hn.2
  refine ⟨fun i lm ln => ∃ k : Nat, i = k ∧ k ≤ x.fNext.length ∧ lm = (x.fMark.take k).map (fun m => 1 - m) ∧ ln = (x.fNext.take k).map (fun r => r.map (choicesOf x.fNext.length)), fun i _ _ => x.fNext.length - i.toNat, ⟨0, rfl, Nat.zero_le _, by simp, by simp⟩, ?_⟩
  rintro i lm ln ⟨k, rfl, hk, rfl, rfl⟩
  refine ⟨fun hb => ?_, fun hb => ?_⟩
  · have hlt := dlt hb
    have hlt' : k < x.fMark.length := by omega
    have hmem : x.fNext[k] ∈ x.fNext := List.getElem_mem hlt
    have hrow := hx.rows _ hmem
    refine ⟨_, idx_at hlt, _, idx_at hlt', capOk_of (by simp; omega), fun i lr => ∃ j : Nat, i = j ∧ j ≤ x.fNext[k].length ∧ lr = (x.fNext[k].take j).map (choicesOf x.fNext.length), fun i _ => x.fNext[k].length - i.toNat, ⟨0, rfl, Nat.zero_le _, by simp⟩, ?_⟩
    rintro i lr ⟨j, rfl, hj, rfl⟩
    refine ⟨fun hb2 => ?_, fun hb2 => ?_⟩
    · have hlt2 := dlt hb2
      have hlm : x.fNext[k][j] ∈ x.fNext[k] := List.getElem_mem hlt2
      refine ⟨_, idx_at hlt2, by omega, fun i ls => ∃ s : Nat, i = s ∧ s ≤ 2 ^ x.fNext.length ∧ ls = setsTo x.fNext[k][j] s, fun i _ => 2 ^ x.fNext.length - i.toNat, ⟨0, rfl, Nat.zero_le _, rfl⟩, ?_⟩
      rintro i ls ⟨s, rfl, hs, rfl⟩
      rw [Int.toNat_natCast, bshl (by omega)]
      refine ⟨fun hb3 => ?_, fun hb3 => ?_⟩
      · have hlt3 := dlt hb3
        refine ⟨fun ls => ls = setsTo x.fNext[k][j] (s + 1), ⟨fun c hc p hp => ⟨by unfold setDom; omega, ?_⟩, fun b => b = (hitsB (s : Int) x.fNext[k][j] && !((setsTo x.fNext[k][j] s).any (fun t => within (s : Int) t))), ⟨fun h => ⟨fun t ht => ⟨?_, by unfold setDom; omega⟩, ?_⟩, fun h => ?_⟩, ?_⟩, ?_⟩
        · have := hx.in_ _ hmem _ hlm _ hc p hp
          omega
        · have := setsTo_in t ht
          unfold setDom
          omega
        · show _ = (hitsB (s : Int) _ && _)
          unfold hitsB
          rw [h]
          rfl
        · show _ = (hitsB (s : Int) _ && _)
          unfold hitsB
          rw [h]
          rfl
        · rintro b rfl
          refine ⟨fun h => ⟨capOk_of ?_, ?_⟩, fun h => ?_⟩
          · have := setsTo_len (l := x.fNext[k][j]) (k := s)
            simp
            omega
          · rw [setsTo, if_pos h]
          · rw [setsTo, if_neg (by rw [h]; decide)]
        · rintro ls rfl
          exact ⟨⟨s + 1, wsucc (by omega), hlt3, rfl⟩, mu_up hlt3 (by omega)⟩
      · have : s = 2 ^ x.fNext.length := by have := dge hb3; omega
        subst this
        refine ⟨fun i lc => ∃ c : Nat, i = c ∧ c ≤ (setsTo x.fNext[k][j] (2 ^ x.fNext.length)).length ∧ lc = ((setsTo x.fNext[k][j] (2 ^ x.fNext.length)).take c).map (fun s => elemsTo s x.fNext.length), fun i _ => (setsTo x.fNext[k][j] (2 ^ x.fNext.length)).length - i.toNat, ⟨0, rfl, Nat.zero_le _, by simp⟩, ?_⟩
        have hsl := setsTo_len (l := x.fNext[k][j]) (k := 2 ^ x.fNext.length)
        have hsin := setsTo_in (l := x.fNext[k][j]) (k := 2 ^ x.fNext.length)
        have hch : choicesOf x.fNext.length x.fNext[k][j] = (setsTo x.fNext[k][j] (2 ^ x.fNext.length)).map (fun s => elemsTo s x.fNext.length) := rfl
        generalize setsTo x.fNext[k][j] (2 ^ x.fNext.length) = ST at hsl hsin hch
        rintro i lc ⟨c, rfl, hc, rfl⟩
        refine ⟨fun hb4 => ?_, fun hb4 => ?_⟩
        · have hlt4 := dlt hb4
          have hin := hsin _ (List.getElem_mem hlt4)
          refine ⟨_, idx_at hlt4, fun i le => ∃ p : Nat, i = p ∧ p ≤ x.fNext.length ∧ le = elemsTo ST[c] p, fun i _ => x.fNext.length - i.toNat, ⟨0, rfl, Nat.zero_le _, rfl⟩, ?_⟩
          rintro i le ⟨p, rfl, hp, rfl⟩
          refine ⟨fun hb5 => ?_, fun hb5 => ?_⟩
          · have hlt5 := dlt hb5
            have hbit := btestI (s := ST[c]) (p := (p : Int)) (by omega) (by omega)
            refine ⟨fun le => le = elemsTo ST[c] (p + 1), ⟨by omega, fun h => ⟨capOk_of ?_, ?_⟩, fun h => ?_⟩, ?_⟩
            · have := elemsTo_len (s := ST[c]) (k := p)
              simp
              omega
            · rw [hbit] at h
              rw [elemsTo, if_pos (by cases hh : hasB ST[c] (p : Int) <;> simp [hh] at h ⊢)]
            · rw [hbit] at h
              rw [elemsTo, if_neg (by cases hh : hasB ST[c] (p : Int) <;> simp [hh] at h ⊢)]
            · rintro le rfl
              exact ⟨⟨p + 1, wsucc (by omega), hlt5, rfl⟩, mu_up hlt5 (by omega)⟩
          · have : p = x.fNext.length := by have := dge hb5; omega
            subst this
            refine ⟨capOk_of (by simp; omega), ⟨c + 1, wsucc (by omega), hlt4, ?_⟩, mu_up hlt4 (by omega)⟩
            rw [take_map hlt4]
        · have hce := dge hb4
          refine ⟨capOk_of (by simp; omega), ⟨j + 1, wsucc (by omega), hlt2, ?_⟩, mu_up hlt2 (by omega)⟩
          rw [take_map hlt2, hch, List.take_of_length_le hce]
    · have hge := dge hb2
      refine ⟨capOk_of (by simp; omega), ⟨k + 1, wsucc (by omega), hlt, ?_, ?_⟩, mu_up hlt (by omega)⟩
      · rw [take_map hlt', wr_in ?_ ?_]
        · rcases hx.mark _ (List.getElem_mem hlt') with h | h <;> omega
        · rcases hx.mark _ (List.getElem_mem hlt') with h | h <;> omega
      · rw [take_map hlt, List.take_of_length_le hge]
  · have hge := dge hb
    show _ = altOtherR x
    unfold altOtherR altOtherF
    rw [if_pos he, List.take_of_length_le hge, List.take_of_length_le (by omega)]
end Go.Proofs.Ytfpdnigihjmohaa

/- The plain law of automata that accept by some and all: the opposite accepts just the others. No condition. -/
namespace Go.Proofs.Ytfpdnigihjmohaa
open Go.RowKit Go.MapKept
set_option linter.unusedSimpArgs false
set_option linter.unusedVariables false
set_option maxRecDepth 100000
set_option linter.unusedSectionVars false

theorem canon_marks {L : Nat} {r : Lang} : ∀ m ∈ (canon L r).fMark, ∃ u, m = r u := fun m hm => by
  unfold canon explD detOf at hm
  obtain ⟨k, hk, rfl⟩ := List.mem_map.1 hm
  obtain ⟨u, rfl⟩ := explL_in (P := fun s : Lang => ∃ u : List Nat, s = rs L (fun w => r (u ++ w))) ⟨[], rfl⟩ (by
    rintro k a ⟨u, rfl⟩ ha
    refine ⟨u ++ [a], ?_⟩
    rw [der_rs ha]
    refine rs_congr fun w _ => ?_
    show r (u ++ a :: w) = _
    rw [List.append_assoc]
    rfl) hk
  refine ⟨u, ?_⟩
  simp [rs]
section
variable {x : ApiAlter}
def altFold (x : ApiAlter) (w : List Nat) : Int := w.foldr (fun (a : Nat) s => altAhead x s (a : Int)) (altEnd x)
def altLang (x : ApiAlter) : Lang := fun w => if hasB (altFold x w) x.fStart then 1 else 0
theorem altFold_in (h : AltOk x) : ∀ w, setDom (altFold x w)
  | [] => altEnd_in h
  | _ :: _ => altAhead_in h _ _
theorem altGo_has {g a T : Int} (hT : setDom T) : hasB (altGo x g a) T = hasB g (altAhead x T a) := by
  unfold setDom at hT
  unfold altGo
  rw [hasB_mask hT.1, show decide (T < ((16 : Nat) : Int)) = true by simp; omega, Int.toNat_of_nonneg hT.1]
  rfl
theorem langK_alt (h : AltOk x) : ∀ (w : List Nat) (k : Int), langK (fun k (a : Nat) => altGo x k (a : Int)) (altMk (altEnd x)) k w = if hasB k (altFold x w) then 1 else 0
  | [], k => rfl
  | a :: w, k => by
    show langK (fun k (a : Nat) => altGo x k (a : Int)) (altMk (altEnd x)) (altGo x k a) w = _
    rw [langK_alt h w, altGo_has (altFold_in h w)]
    rfl
theorem altFirst_has {T : Int} (hT : setDom T) : hasB (altFirst x) T = hasB T x.fStart := by
  unfold setDom at hT
  unfold altFirst
  rw [hasB_mask hT.1, show decide (T < ((16 : Nat) : Int)) = true by simp; omega, Int.toNat_of_nonneg hT.1]
  rfl
theorem altDetC_eq (h : AltOk x) : altDetC x = canon x.fLetters.toNat (altLang x) := canon_congr fun w _ => by
  rw [langK_alt h, altFirst_has (altFold_in h w)]
  rfl
/-- those below n that are not in s -/
def compl (n : Nat) (s : Int) : Int := (maskOf (fun p => !(hasB s (p : Int))) n : Int)
theorem compl_has {n : Nat} {s p : Int} (hp : 0 ≤ p ∧ p < (n : Int)) : hasB (compl n s) p = !(hasB s p) := by
  unfold compl
  rw [hasB_mask hp.1, decide_eq_true hp.2, Int.toNat_of_nonneg hp.1]
  rfl
theorem mask_of_has {n : Nat} {s : Int} (hs : 0 ≤ s ∧ s < 2 ^ n) : (maskOf (fun p => hasB s (p : Int)) n : Int) = s := by
  obtain ⟨a, rfl⟩ := Int.eq_ofNat_of_zero_le hs.1
  have ha : a < 2 ^ n := by exact_mod_cast hs.2
  congr 1
  refine Nat.eq_of_testBit_eq fun i => ?_
  rw [maskOf_test]
  unfold hasB
  rw [Int.toNat_natCast, Int.toNat_natCast]
  by_cases h : i < n
  · simp [h]
  · have : a.testBit i = false := Nat.testBit_lt_two_pow (Nat.lt_of_lt_of_le ha (Nat.pow_le_pow_right (by decide) (by omega)))
    simp [h, this]
theorem compl_compl {n : Nat} {s : Int} (hs : 0 ≤ s ∧ s < 2 ^ n) : compl n (compl n s) = s := by
  refine Eq.trans ?_ (mask_of_has hs)
  show ((maskOf (fun p => !(hasB (compl n s) (p : Int))) n : Nat) : Int) = _
  congr 1
  exact maskOf_congr fun i hi => by
    rw [compl_has ⟨by omega, by omega⟩]
    simp
theorem mask_pow (f : Nat → Bool) (n : Nat) : 0 ≤ (maskOf f n : Int) ∧ (maskOf f n : Int) < 2 ^ n := ⟨by omega, by exact_mod_cast maskOf_lt f n⟩
theorem altFold_pow : ∀ w, 0 ≤ altFold x w ∧ altFold x w < 2 ^ x.fNext.length
  | [] => mask_pow _ _
  | _ :: _ => mask_pow _ _
theorem within_iff {s t : Int} : within s t = true ↔ ∀ i, t.toNat.testBit i = true → s.toNat.testBit i = true := by
  unfold within
  rw [beq_iff_eq]
  constructor
  · intro h i hi
    have := congrArg (·.testBit i) h
    simp only [Nat.testBit_xor, Nat.testBit_and, hi, Nat.zero_testBit] at this
    simpa using this
  · intro h
    refine Nat.eq_of_testBit_eq fun i => ?_
    rw [Nat.testBit_xor, Nat.testBit_and, Nat.zero_testBit]
    cases hi : t.toNat.testBit i with
    | false => rfl
    | true => rw [h i hi]; rfl
theorem setsTo_hits {l : List (List Int)} : ∀ {k : Nat}, ∀ s ∈ setsTo l k, hitsB s l = true
  | 0, s, h => by simp [setsTo] at h
  | k + 1, s, h => by
    rw [setsTo] at h
    split at h
    · rename_i hc
      rcases List.mem_append.1 h with h | h
      · exact setsTo_hits s h
      · simp at h
        subst h
        exact (Bool.and_eq_true _ _ ▸ hc).1
    · exact setsTo_hits s h
theorem setsTo_all {l : List (List Int)} : ∀ {k T : Nat}, T < k → hitsB (T : Int) l = true → ∃ s ∈ setsTo l k, within (T : Int) s = true
  | 0, T, h, _ => by omega
  | k + 1, T, h, hh => by
    rw [setsTo]
    by_cases e : T = k
    · subst e
      split
      · exact ⟨(T : Int), by simp, within_iff.2 fun i hi => hi⟩
      · rename_i hc
        rw [hh, Bool.true_and] at hc
        have hc : (setsTo l T).any (fun t => within (T : Int) t) = true := by
          cases hx : (setsTo l T).any (fun t => within (T : Int) t) with
          | true => rfl
          | false => rw [hx] at hc; exact absurd rfl hc
        obtain ⟨t, ht, hw⟩ := List.any_eq_true.1 hc
        exact ⟨t, ht, hw⟩
    · obtain ⟨s, hs, hw⟩ := setsTo_all (l := l) (k := k) (T := T) (by omega) hh
      split
      · exact ⟨s, List.mem_append_left _ hs, hw⟩
      · exact ⟨s, hs, hw⟩
theorem elemsTo_mem {s p : Int} : ∀ {n : Nat}, p ∈ elemsTo s n ↔ 0 ≤ p ∧ p < (n : Int) ∧ hasB s p = true
  | 0 => by simp [elemsTo]; omega
  | n + 1 => by
    have ih := elemsTo_mem (s := s) (p := p) (n := n)
    rw [elemsTo]
    split
    · rename_i h
      rw [List.mem_append, ih, List.mem_singleton]
      constructor
      · rintro (⟨h1, h2, h3⟩ | rfl)
        · exact ⟨h1, by omega, h3⟩
        · exact ⟨by omega, by omega, h⟩
      · rintro ⟨h1, h2, h3⟩
        by_cases e : p = (n : Int)
        · exact .inr e
        · exact .inl ⟨h1, by omega, h3⟩
    · rename_i h
      rw [ih]
      constructor
      · rintro ⟨h1, h2, h3⟩
        exact ⟨h1, by omega, h3⟩
      · rintro ⟨h1, h2, h3⟩
        refine ⟨h1, ?_, h3⟩
        by_cases e : p = (n : Int)
        · subst e; exact absurd h3 h
        · omega
theorem hitsB_iff {s : Int} {l : List (List Int)} : hitsB s l = true ↔ ∀ c ∈ l, ∃ p ∈ c, hasB s p = true := by
  unfold hitsB
  rw [Bool.not_eq_true', List.any_eq_false]
  refine forall_congr' fun c => forall_congr' fun _ => ?_
  rw [Bool.not_eq_true, Bool.not_eq_false', List.any_eq_true]
theorem choices_acc {n : Nat} {l : List (List Int)} (hl : ∀ c ∈ l, ∀ p ∈ c, 0 ≤ p ∧ p < (n : Int)) {T : Int} (hT : 0 ≤ T ∧ T < 2 ^ n) : ((choicesOf n l).any fun c => !(c.any fun p => !(hasB T p))) = hitsB T l := by
  obtain ⟨t, rfl⟩ := Int.eq_ofNat_of_zero_le hT.1
  have ht : t < 2 ^ n := by exact_mod_cast hT.2
  have key : ((choicesOf n l).any fun c => !(c.any fun p => !(hasB (t : Int) p))) = true ↔ hitsB (t : Int) l = true := by
    rw [List.any_eq_true]
    constructor
    · rintro ⟨c, hc, hcc⟩
      obtain ⟨s, hs, rfl⟩ := List.mem_map.1 hc
      rw [Bool.not_eq_true', List.any_eq_false] at hcc
      have hh := hitsB_iff.1 (setsTo_hits s hs)
      refine hitsB_iff.2 fun d hd => ?_
      obtain ⟨p, hp, hps⟩ := hh d hd
      have hpn := hl d hd p hp
      refine ⟨p, hp, ?_⟩
      have := hcc p (elemsTo_mem.2 ⟨hpn.1, hpn.2, hps⟩)
      simpa using this
    · intro h
      obtain ⟨s, hs, hw⟩ := setsTo_all ht h
      refine ⟨elemsTo s n, List.mem_map.2 ⟨s, hs, rfl⟩, ?_⟩
      rw [Bool.not_eq_true', List.any_eq_false]
      intro p hp
      obtain ⟨_, _, h3⟩ := elemsTo_mem.1 hp
      have := within_iff.1 hw p.toNat h3
      simp only [Bool.not_eq_true, Bool.not_eq_false']
      exact this
  cases hA : ((choicesOf n l).any fun c => !(c.any fun p => !(hasB (t : Int) p))) <;> cases hB : hitsB (t : Int) l
  · rfl
  · rw [key.2 hB] at hA; cases hA
  · rw [key.1 hA] at hB; cases hB
  · rfl
theorem any_same {α : Type} {f g : α → Bool} : ∀ {l : List α}, (∀ x ∈ l, f x = g x) → l.any f = l.any g
  | [], _ => rfl
  | x :: l, h => by rw [List.any_cons, List.any_cons, h x List.mem_cons_self, any_same fun y hy => h y (List.mem_cons_of_mem _ hy)]
theorem acc_compl {n : Nat} {l : List (List Int)} (hl : ∀ c ∈ l, ∀ p ∈ c, 0 ≤ p ∧ p < (n : Int)) {T : Int} : (l.any fun l => !(l.any fun p => !(hasB (compl n T) p))) = !(hitsB T l) := by
  unfold hitsB
  rw [Bool.not_not]
  refine any_same fun c hc => ?_
  congr 1
  exact any_same fun p hp => by rw [compl_has (hl c hc p hp), Bool.not_not]
theorem row_at (h : AltOk x) {q : Nat} (hq : q < x.fNext.length) {a : Int} (ha : 0 ≤ a ∧ a < x.fLetters) : ∃ l, (x.fNext.getD q []).getD a.toNat [] = l ∧ l ∈ x.fNext.getD q [] ∧ x.fNext.getD q [] ∈ x.fNext ∧ ((altOtherF x).fNext.getD q []).getD a.toNat [] = choicesOf x.fNext.length l := by
  have hm : x.fNext.getD q [] ∈ x.fNext := getD_mem hq
  have hr := h.rows _ hm
  have hl : a.toNat < (x.fNext.getD q []).length := by omega
  refine ⟨_, rfl, getD_mem hl, hm, ?_⟩
  have h1 : (altOtherF x).fNext.getD q [] = (x.fNext.getD q []).map (choicesOf x.fNext.length) := by
    show (x.fNext.map _).getD q [] = _
    rw [List.getD_eq_getElem?_getD, List.getElem?_map, getD_some (z := []) hq]
    rfl
  rw [h1, List.getD_eq_getElem?_getD, List.getElem?_map, getD_some (z := []) hl]
  rfl
theorem acc_other (h : AltOk x) {q : Nat} (hq : q < x.fNext.length) {a : Int} (ha : 0 ≤ a ∧ a < x.fLetters) {T : Int} (hT : 0 ≤ T ∧ T < 2 ^ x.fNext.length) : accB (altOtherF x) T a q = !(accB x (compl x.fNext.length T) a q) := by
  obtain ⟨l, h1, h2, h3, h4⟩ := row_at h hq ha
  have hl : ∀ c ∈ l, ∀ p ∈ c, 0 ≤ p ∧ p < (x.fNext.length : Int) := fun c hc p hp => h.in_ _ h3 _ h2 c hc p hp
  unfold accB
  rw [h4, h1, choices_acc hl hT, acc_compl hl, Bool.not_not]
theorem other_len : (altOtherF x).fNext.length = x.fNext.length := by simp [altOtherF]
theorem altAhead_other (h : AltOk x) {a : Int} (ha : 0 ≤ a ∧ a < x.fLetters) {T : Int} (hT : 0 ≤ T ∧ T < 2 ^ x.fNext.length) : altAhead (altOtherF x) T a = compl x.fNext.length (altAhead x (compl x.fNext.length T) a) := by
  show ((maskOf (accB (altOtherF x) T a) (altOtherF x).fNext.length : Nat) : Int) = ((maskOf (fun p => !(hasB (altAhead x (compl x.fNext.length T) a) (p : Int))) x.fNext.length : Nat) : Int)
  rw [other_len]
  congr 1
  refine maskOf_congr fun i hi => ?_
  rw [acc_other h hi ha hT]
  unfold altAhead
  rw [hasB_mask (by omega), Int.toNat_natCast, decide_eq_true (by omega), Bool.true_and]
theorem altEnd_other (h : AltOk x) : altEnd (altOtherF x) = compl x.fNext.length (altEnd x) := by
  show ((maskOf (fun q => (x.fMark.map fun m => 1 - m).getD q 0 == 1) (altOtherF x).fNext.length : Nat) : Int) = ((maskOf (fun p => !(hasB (altEnd x) (p : Int))) x.fNext.length : Nat) : Int)
  rw [other_len]
  congr 1
  refine maskOf_congr fun i hi => ?_
  unfold altEnd
  rw [hasB_mask (by omega), Int.toNat_natCast, decide_eq_true (by omega), Bool.true_and]
  have hi' : i < x.fMark.length := by rw [h.marks]; exact hi
  have hm := h.mark _ (getD_mem (z := 0) hi')
  rw [List.getD_eq_getElem?_getD, List.getElem?_map, getD_some (z := 0) hi']
  rcases hm with e | e <;> rw [e] <;> rfl
theorem altFold_other (h : AltOk x) : ∀ (w : List Nat), (∀ a ∈ w, a < x.fLetters.toNat) → altFold (altOtherF x) w = compl x.fNext.length (altFold x w)
  | [], _ => altEnd_other h
  | a :: w, hw => by
    have ha := hw a List.mem_cons_self
    show altAhead (altOtherF x) (altFold (altOtherF x) w) (a : Int) = compl _ (altAhead x (altFold x w) (a : Int))
    rw [altFold_other h w fun b hb => hw b (List.mem_cons_of_mem _ hb), altAhead_other h (T := compl x.fNext.length (altFold x w)) ⟨by omega, by omega⟩ (mask_pow _ _), compl_compl (altFold_pow w)]
theorem altLang_other (h : AltOk x) {w : List Nat} (hw : ∀ a ∈ w, a < x.fLetters.toNat) : altLang (altOtherF x) w = 1 - altLang x w := by
  show (if hasB (altFold (altOtherF x) w) x.fStart then (1 : Int) else 0) = 1 - if hasB (altFold x w) x.fStart then (1 : Int) else 0
  rw [altFold_other h w hw, compl_has h.start]
  cases hasB (altFold x w) x.fStart <;> rfl
theorem other_ok (h : AltOk x) : AltOk (altOtherF x) := by
  have hn := h.size
  have h2n : 2 ^ x.fNext.length ≤ 2 ^ 4 := Nat.pow_le_pow_right (by decide) hn.2
  refine ⟨h.letters, by rw [other_len]; exact hn, ?_, fun r hr => ?_, fun r hr l hl => ?_, fun r hr l hl c hc => ?_, fun r hr l hl c hc p hp => ?_, by rw [other_len]; exact h.start, fun m hm => ?_⟩
  · rw [other_len]
    simp [altOtherF, h.marks]
  · obtain ⟨s, hs, rfl⟩ := List.mem_map.1 hr
    have := h.rows s hs
    rw [List.length_map]
    exact this
  · obtain ⟨s, hs, rfl⟩ := List.mem_map.1 hr
    obtain ⟨k, hk, rfl⟩ := List.mem_map.1 hl
    unfold choicesOf
    rw [List.length_map]
    have := setsTo_len (l := k) (k := 2 ^ x.fNext.length)
    omega
  · obtain ⟨s, hs, rfl⟩ := List.mem_map.1 hr
    obtain ⟨k, hk, rfl⟩ := List.mem_map.1 hl
    obtain ⟨t, _, rfl⟩ := List.mem_map.1 hc
    have := elemsTo_len (s := t) (k := x.fNext.length)
    omega
  · obtain ⟨s, hs, rfl⟩ := List.mem_map.1 hr
    obtain ⟨k, hk, rfl⟩ := List.mem_map.1 hl
    obtain ⟨t, _, rfl⟩ := List.mem_map.1 hc
    obtain ⟨h1, h2, _⟩ := elemsTo_mem.1 hp
    rw [other_len]
    exact ⟨h1, h2⟩
  · obtain ⟨k, hk, rfl⟩ := List.mem_map.1 hm
    have := h.mark k hk
    omega
theorem altLang_01 (w : List Nat) : altLang x w = 0 ∨ altLang x w = 1 := by
  unfold altLang
  cases hasB (altFold x w) x.fStart
  · exact .inl rfl
  · exact .inr rfl
/-- the opposite's automaton: the same, with marks turned -/
theorem altDetC_other (h : AltOk x) : altDetC (altOtherF x) = { altDetC x with fMark := (altDetC x).fMark.map fun m => 1 - m } := by
  rw [altDetC_eq (other_ok h), altDetC_eq h, ← canon_turn (fun m => 1 - m) (fun a b _ _ e => by omega)]
  exact canon_congr fun w hw => altLang_other h hw
theorem altDetC_twice (h : AltOk x) : altDetC (altOtherF (altOtherF x)) = altDetC x := by
  rw [altDetC_eq (other_ok (other_ok h)), altDetC_eq h]
  exact canon_congr fun w hw => by
    rw [altLang_other (other_ok h) hw, altLang_other h hw]
    omega
theorem altDetC_01 (h : AltOk x) : ∀ m ∈ (altDetC x).fMark, m = 0 ∨ m = 1 := fun m hm => by
  rw [altDetC_eq h] at hm
  obtain ⟨u, rfl⟩ := canon_marks m hm
  exact altLang_01 u
def altTiny : ApiAlter := ⟨1, 0, [[[[]]]], [1]⟩
theorem tiny_ok : AltOk altTiny := (altErr_iff _).1 (by decide)
theorem tiny_fold : ∀ w : List Nat, (∀ a ∈ w, a < 1) → altFold altTiny w = 1
  | [], _ => by decide
  | a :: w, hw => by
    have ha : a = 0 := by have := hw a List.mem_cons_self; omega
    subst ha
    show altAhead altTiny (altFold altTiny w) ((0 : Nat) : Int) = 1
    rw [tiny_fold w fun b hb => hw b (List.mem_cons_of_mem _ hb)]
    decide
theorem tiny_det : altDetR altTiny = (⟨1, 0, [[0]], [1]⟩, 0) := by
  have h : altDetC altTiny = ⟨1, 0, [[0]], [1]⟩ := by
    rw [altDetC_eq tiny_ok]
    refine (canon_congr (s := fun _ => 1) fun w hw => ?_).trans canon_const
    unfold altLang
    rw [tiny_fold w hw]
    decide
  unfold altDetR
  rw [if_pos ((altErr_iff _).2 tiny_ok), h]
  rfl
end
end Go.Proofs.Ytfpdnigihjmohaa

