/- Lemmas towards the statement: mirrors of functions, and plain laws. No condition. -/
import Derived.Test.YtiinkohfldopbaaPackHigmanTwice6

/- The contract of HigmanTwice. No condition. -/
namespace Go.Proofs.Ytiinkohfldopbaa
open Go.RowKit Go.MapKept
set_option linter.unusedSimpArgs false
set_option linter.unusedVariables false
set_option maxRecDepth 100000

def sameWords_vc (u : (List Int)) (v : (List Int)) (Q : Bool → Prop) : Prop :=
  u.length ≤ 9223372036854775807 →
  v.length ≤ 9223372036854775807 →
  (IfP ((u.length : Int) != (v.length : Int)) (Q false) (∃ (Inv : Int → Prop) (mu : Int → Nat), Inv 0 ∧
  ∀ (x5 : Int) , Inv x5 → (IfP (decide (x5 < (u.length : Int))) (∃ e, idx u x5 = some e ∧
  ∃ e_2, idx v x5 = some e_2 ∧
  IfP (e != e_2) (Q false) ((Inv (wr (x5 + 1)) ∧ mu (wr (x5 + 1)) < mu x5))) (Q true))))
theorem sameWords_walk (u : (List Int)) (v : (List Int)) (Q : Bool → Prop) (h : sameWords_vc u v Q) : Ct 67 [.sv (.one (LS intT u)), .sv (.one (LS intT v))] [] Q (fun (r : Bool) => .sv (.one (B r))) := by
  have ht := tab_ok
  refine Ct.body Try.func67 rfl rfl rfl rfl (fun c hn => ?_)
  unfold sameWords_vc at h
  refine En.lenL 0 (by rfl) (fun hl => ?_)
  replace h := h hl
  clear hl
  refine En.lenL 1 (by rfl) (fun hl => ?_)
  replace h := h hl
  clear hl
  refine En.seq ?_
  refine En.region ?_
  refine WL.run ht hn 1 ⟨[(0, .sv (.one (LS intT u))), (1, .sv (.one (LS intT v)))], []⟩ (by kernel_rfl) ?_
  refine WL.nil ?_
  refine En.seq ?_
  refine En.seq ?_
  refine En.region ?_
  refine WL.run ht hn 5 ⟨[(0, .sv (.one (LS intT u))), (1, .sv (.one (LS intT v))), (10, .sv (.one (B ((u.length : Int) != (v.length : Int)))))], []⟩ (by kernel_rfl) ?_
  refine WL.nil ?_
  refine En.cond (b := ((u.length : Int) != (v.length : Int))) (by kernel_rfl) (fun hb => ?_) (fun hb => ?_)
  · replace h := h.1 hb
    refine En.seq ?_
    refine En.region ?_
    refine WL.run ht hn 1 ⟨[(4, .sv (.one (B false)))], []⟩ (by kernel_rfl) ?_
    refine WL.nil ?_
    refine En.ret ?_
    exact En.back ht false h (by kernel_rfl) rfl
  · replace h := h.2 hb
    refine En.skip ?_
    refine En.seq ?_
    refine En.seq ?_
    refine En.region ?_
    refine WL.run ht hn 1 ⟨[(0, .sv (.one (LS intT u))), (1, .sv (.one (LS intT v))), (5, .sv (.one (I 0)))], []⟩ (by kernel_rfl) ?_
    refine WL.nil ?_
    refine En.block ?_
    obtain ⟨Inv, mu, h0, hI⟩ := h
    refine En.loop (σ := Int) (fun zz => Inv zz) (fun zz => mu zz) (fun zz => ⟨[(0, .sv (.one (LS intT u))), (1, .sv (.one (LS intT v))), (5, .sv (.one (I zz)))], []⟩) 0 h0 (sub_ok (by kernel_rfl)) ?_
    intro x5 h
    replace h := hI _ h
    show En c ⟨[(0, .sv (.one (LS intT u))), (1, .sv (.one (LS intT v))), (5, .sv (.one (I x5)))], []⟩ _
    refine En.seq ?_
    refine En.seq ?_
    refine En.region ?_
    refine WL.run ht hn 4 ⟨[(0, .sv (.one (LS intT u))), (1, .sv (.one (LS intT v))), (5, .sv (.one (I x5))), (14, .sv (.one (B (decide (x5 < (u.length : Int))))))], []⟩ (by kernel_rfl) ?_
    refine WL.nil ?_
    refine En.cond (b := (decide (x5 < (u.length : Int)))) (by kernel_rfl) (fun hb => ?_) (fun hb => ?_)
    · replace h := h.1 hb
      refine En.skip ?_
      refine En.seq ?_
      refine En.block ?_
      refine En.seq ?_
      refine En.regionS (by kernel_rfl) (by kernel_rfl) ?_
      refine SL.run ht hn 2 ⟨[(0, .sv (.one (LS intT u))), (1, .sv (.one (LS intT v))), (5, .sv (.one (I x5))), (17, .sv (.one (LS intT u))), (18, .sv (.one (I x5)))], []⟩ (by kernel_rfl) ?_
      obtain ⟨e, he, h⟩ := h
      refine SL.val hn (by rfl) (val_index (T := intT) (l := u) (i := x5) ht rfl (by rfl) (by rfl) (by rfl) (by rfl) (by rfl) (by rfl) he) (by rfl) ?_
      refine SL.val hn (by rfl) (val_load (s := .one (I e)) ht rfl (by rfl) (by rfl) (by rfl) (by rfl) (by rfl)) (by rfl) ?_
      refine SL.run ht hn 2 ⟨[(0, .sv (.one (LS intT u))), (1, .sv (.one (LS intT v))), (5, .sv (.one (I x5))), (17, .sv (.one (LS intT u))), (18, .sv (.one (I x5))), (19, .sv (.one (.pe (svR (.one (I e))) 1))), (20, .sv (.one (I e))), (21, .sv (.one (LS intT v))), (22, .sv (.one (I x5)))], []⟩ (by kernel_rfl) ?_
      obtain ⟨e_2, he_2, h⟩ := h
      refine SL.val hn (by rfl) (val_index (T := intT) (l := v) (i := x5) ht rfl (by rfl) (by rfl) (by rfl) (by rfl) (by rfl) (by rfl) he_2) (by rfl) ?_
      refine SL.val hn (by rfl) (val_load (s := .one (I e_2)) ht rfl (by rfl) (by rfl) (by rfl) (by rfl) (by rfl)) (by rfl) ?_
      refine SL.run ht hn 1 ⟨[(0, .sv (.one (LS intT u))), (1, .sv (.one (LS intT v))), (5, .sv (.one (I x5))), (17, .sv (.one (LS intT u))), (18, .sv (.one (I x5))), (19, .sv (.one (.pe (svR (.one (I e))) 1))), (20, .sv (.one (I e))), (21, .sv (.one (LS intT v))), (22, .sv (.one (I x5))), (23, .sv (.one (.pe (svR (.one (I e_2))) 1))), (24, .sv (.one (I e_2))), (25, .sv (.one (B (e != e_2))))], []⟩ (by kernel_rfl) ?_
      refine SL.nil ⟨by kernel_rfl, ?_⟩
      refine En.cond (b := (e != e_2)) (by kernel_rfl) (fun hb => ?_) (fun hb => ?_)
      · replace h := h.1 hb
        refine En.seq ?_
        refine En.region ?_
        refine WL.run ht hn 1 ⟨[(4, .sv (.one (B false)))], []⟩ (by kernel_rfl) ?_
        refine WL.nil ?_
        refine En.ret ?_
        exact En.back ht false h (by kernel_rfl) rfl
      · replace h := h.2 hb
        refine En.skip ?_
        refine En.region ?_
        refine WL.run ht hn 3 ⟨[(0, .sv (.one (LS intT u))), (1, .sv (.one (LS intT v))), (5, .sv (.one (I (wr (x5 + 1)))))], []⟩ (by kernel_rfl) ?_
        refine WL.nil ?_
        exact En.at (I := fun zz => Inv zz ∧ mu zz < mu x5) (T := fun zz => ⟨[(0, .sv (.one (LS intT u))), (1, .sv (.one (LS intT v))), (5, .sv (.one (I zz)))], []⟩) (wr (x5 + 1)) h (by kernel_rfl)
    · replace h := h.2 hb
      refine En.exit rfl ?_
      refine En.seq ?_
      refine En.region ?_
      refine WL.run ht hn 1 ⟨[(4, .sv (.one (B true)))], []⟩ (by kernel_rfl) ?_
      refine WL.nil ?_
      refine En.ret ?_
      exact En.back ht true h (by kernel_rfl) rfl
theorem en67 : ∀ args w, (callFunc 67 args).run Try.prog w = .ok (.enter 67 args) w := enters_of Try.func67 (by kernel_rfl) rfl
theorem sameWords_ct (u : (List Int)) (v : (List Int))  : Ct 67 [.sv (.one (LS intT u)), .sv (.one (LS intT v))] [] (fun (_ : Unit) => True) (fun _ => .sv (.one (B (decide (u = v))))) := by
  refine (sameWords_walk u v (fun res_ => res_ = (decide (u = v))) ?_).fun
  intro hl _
  refine ⟨fun h => ?_, fun h => ?_⟩
  · exact (decide_eq_false (fun e => by rw [e] at h; simp at h)).symm
  have hlen : u.length = v.length := by have : (u.length : Int) = v.length := by simpa using h
                                        omega
  refine ⟨fun i => ∃ k : Nat, i = k ∧ k ≤ u.length ∧ u.take k = v.take k, fun i => u.length - i.toNat, ⟨0, rfl, Nat.zero_le _, rfl⟩, ?_⟩
  rintro i ⟨k, rfl, hk, ht⟩
  refine ⟨fun hb => ?_, fun hb => ?_⟩
  · have hlt := dlt hb
    have hlt' : k < v.length := by omega
    refine ⟨_, idx_at hlt, _, idx_at hlt', fun hne => ?_, fun he => ⟨⟨k + 1, ?_, hlt, ?_⟩, ?_⟩⟩
    · exact (decide_eq_false (fun e => by subst e; simp at hne)).symm
    · rw [wr_in (by omega) (by omega)]; omega
    · rw [List.take_add_one, List.take_add_one, ht, List.getElem?_eq_getElem hlt, List.getElem?_eq_getElem hlt', show u[k] = v[k] by simpa using he]
    · rw [wr_in (by omega) (by omega)]; simp only; omega
  · have hge := dge hb
    rw [List.take_of_length_le hge, List.take_of_length_le (by omega)] at ht
    exact (decide_eq_true ht).symm
def alike_vc (a : ApiDet) (b : ApiDet) (Q : Bool → Prop) : Prop :=
  a.fNext.length ≤ 9223372036854775807 →
  a.fMark.length ≤ 9223372036854775807 →
  b.fNext.length ≤ 9223372036854775807 →
  b.fMark.length ≤ 9223372036854775807 →
  (IfP (((a.fLetters != b.fLetters) || (a.fStart != b.fStart)) || ((a.fNext.length : Int) != (b.fNext.length : Int))) (Q false) (∃ (Inv : Bool → Int → Prop) (mu : Bool → Int → Nat), Inv (decide (a.fMark = b.fMark)) 0 ∧
  ∀ (x5 : Bool) (x6 : Int) , Inv x5 x6 → (IfP ((decide (x6 < (a.fNext.length : Int))) && x5) (∃ e, idx a.fNext x6 = some e ∧
  ∃ e_2, idx b.fNext x6 = some e_2 ∧
  (Inv (decide (e = e_2)) (wr (x6 + 1)) ∧ mu (decide (e = e_2)) (wr (x6 + 1)) < mu x5 x6)) (Q x5))))
theorem alike_walk (a : ApiDet) (b : ApiDet) (Q : Bool → Prop) (h : alike_vc a b Q) : Ct 23 [.sv (.agg [I a.fLetters, I a.fStart, LS (lsT intT) a.fNext, LS intT a.fMark]), .sv (.agg [I b.fLetters, I b.fStart, LS (lsT intT) b.fNext, LS intT b.fMark])] [] Q (fun (r : Bool) => .sv (.one (B r))) := by
  have ht := tab_ok
  refine Ct.body Try.func23 rfl rfl rfl rfl (fun c hn => ?_)
  unfold alike_vc at h
  refine En.lenA 0 2 (by rfl) (by rfl) (fun hl => ?_)
  replace h := h hl
  clear hl
  refine En.lenA 0 3 (by rfl) (by rfl) (fun hl => ?_)
  replace h := h hl
  clear hl
  refine En.lenA 1 2 (by rfl) (by rfl) (fun hl => ?_)
  replace h := h hl
  clear hl
  refine En.lenA 1 3 (by rfl) (by rfl) (fun hl => ?_)
  replace h := h hl
  clear hl
  refine En.seq ?_
  refine En.region ?_
  refine WL.run ht hn 3 ⟨[(2, .sv (.one (.ptr 0 0))), (3, .sv (.one (.ptr 1 0)))], [.box [I a.fLetters, I a.fStart, LS (lsT intT) a.fNext, LS intT a.fMark] 25 false, .box [I b.fLetters, I b.fStart, LS (lsT intT) b.fNext, LS intT b.fMark] 25 false]⟩ (by kernel_rfl) ?_
  refine WL.nil ?_
  refine En.seq ?_
  refine En.seq ?_
  refine En.region ?_
  refine WL.run ht hn 6 ⟨[(2, .sv (.one (.ptr 0 0))), (3, .sv (.one (.ptr 1 0))), (12, .sv (.one (B (a.fLetters != b.fLetters))))], [.box [I a.fLetters, I a.fStart, LS (lsT intT) a.fNext, LS intT a.fMark] 25 false, .box [I b.fLetters, I b.fStart, LS (lsT intT) b.fNext, LS intT b.fMark] 25 false]⟩ (by kernel_rfl) ?_
  refine WL.thru ⟨[(2, .sv (.one (.ptr 0 0))), (3, .sv (.one (.ptr 1 0))), (27, .sv (.one (B (((a.fLetters != b.fLetters) || (a.fStart != b.fStart)) || ((a.fNext.length : Int) != (b.fNext.length : Int))))))], [.box [I a.fLetters, I a.fStart, LS (lsT intT) a.fNext, LS intT a.fMark] 25 false, .box [I b.fLetters, I b.fStart, LS (lsT intT) b.fNext, LS intT b.fMark] 25 false]⟩ ?_ ?_
  · refine splitB (a.fLetters != b.fLetters) (fun hb0 => ?_) (fun hb0 => ?_)
    · refine WL.setB 12 hb0 (by kernel_rfl) ?_
      refine WL.run ht hn 15 ⟨[(2, .sv (.one (.ptr 0 0))), (3, .sv (.one (.ptr 1 0))), (27, .sv (.one (B true)))], [.box [I a.fLetters, I a.fStart, LS (lsT intT) a.fNext, LS intT a.fMark] 25 false, .box [I b.fLetters, I b.fStart, LS (lsT intT) b.fNext, LS intT b.fMark] 25 false]⟩ (by kernel_rfl) ?_
      exact WL.nil (sub_ok (by simp only [hb0]; kernel_rfl))
    · refine WL.setB 12 hb0 (by kernel_rfl) ?_
      refine WL.run ht hn 7 ⟨[(2, .sv (.one (.ptr 0 0))), (3, .sv (.one (.ptr 1 0))), (19, .sv (.one (B (a.fStart != b.fStart))))], [.box [I a.fLetters, I a.fStart, LS (lsT intT) a.fNext, LS intT a.fMark] 25 false, .box [I b.fLetters, I b.fStart, LS (lsT intT) b.fNext, LS intT b.fMark] 25 false]⟩ (by kernel_rfl) ?_
      refine splitB (a.fStart != b.fStart) (fun hb1 => ?_) (fun hb1 => ?_)
      · refine WL.setB 19 hb1 (by kernel_rfl) ?_
        refine WL.run ht hn 8 ⟨[(2, .sv (.one (.ptr 0 0))), (3, .sv (.one (.ptr 1 0))), (27, .sv (.one (B true)))], [.box [I a.fLetters, I a.fStart, LS (lsT intT) a.fNext, LS intT a.fMark] 25 false, .box [I b.fLetters, I b.fStart, LS (lsT intT) b.fNext, LS intT b.fMark] 25 false]⟩ (by kernel_rfl) ?_
        exact WL.nil (sub_ok (by simp only [hb0, hb1]; kernel_rfl))
      · refine WL.setB 19 hb1 (by kernel_rfl) ?_
        refine WL.run ht hn 8 ⟨[(2, .sv (.one (.ptr 0 0))), (3, .sv (.one (.ptr 1 0))), (27, .sv (.one (B ((a.fNext.length : Int) != (b.fNext.length : Int)))))], [.box [I a.fLetters, I a.fStart, LS (lsT intT) a.fNext, LS intT a.fMark] 25 false, .box [I b.fLetters, I b.fStart, LS (lsT intT) b.fNext, LS intT b.fMark] 25 false]⟩ (by kernel_rfl) ?_
        exact WL.nil (sub_ok (by simp only [hb0, hb1]; kernel_rfl))
  · refine En.cond (b := (((a.fLetters != b.fLetters) || (a.fStart != b.fStart)) || ((a.fNext.length : Int) != (b.fNext.length : Int)))) (by kernel_rfl) (fun hb => ?_) (fun hb => ?_)
    · replace h := h.1 hb
      refine En.seq ?_
      refine En.region ?_
      refine WL.run ht hn 1 ⟨[(4, .sv (.one (B false)))], [.gone, .gone]⟩ (by kernel_rfl) ?_
      refine WL.nil ?_
      refine En.ret ?_
      exact En.back ht false h (by kernel_rfl) rfl
    · replace h := h.2 hb
      refine En.skip ?_
      refine En.seq ?_
      refine En.region ?_
      refine WL.run ht hn 4 ⟨[(2, .sv (.one (.ptr 0 0))), (3, .sv (.one (.ptr 1 0))), (29, .sv (.one (LS intT a.fMark))), (31, .sv (.one (LS intT b.fMark)))], [.box [I a.fLetters, I a.fStart, LS (lsT intT) a.fNext, LS intT a.fMark] 25 false, .box [I b.fLetters, I b.fStart, LS (lsT intT) b.fNext, LS intT b.fMark] 25 false]⟩ (by kernel_rfl) ?_
      refine WL.mt0 (K := []) (p := none) hn (by rfl) (mt_call (sameWords_ct a.fMark b.fMark) en67 (caps := []) [] rfl (by rfl) (by kernel_rfl) (by kernel_rfl) (by rfl) (by rfl) (by rfl)) (by rfl) (by rfl) (by rfl) ?_
      refine WL.run ht hn 1 ⟨[(2, .sv (.one (.ptr 0 0))), (3, .sv (.one (.ptr 1 0))), (5, .sv (.one (B (decide (a.fMark = b.fMark)))))], [.box [I a.fLetters, I a.fStart, LS (lsT intT) a.fNext, LS intT a.fMark] 25 false, .box [I b.fLetters, I b.fStart, LS (lsT intT) b.fNext, LS intT b.fMark] 25 false]⟩ (by kernel_rfl) ?_
      refine WL.nil ?_
      refine En.seq ?_
      refine En.seq ?_
      refine En.region ?_
      refine WL.run ht hn 1 ⟨[(2, .sv (.one (.ptr 0 0))), (3, .sv (.one (.ptr 1 0))), (5, .sv (.one (B (decide (a.fMark = b.fMark))))), (6, .sv (.one (I 0)))], [.box [I a.fLetters, I a.fStart, LS (lsT intT) a.fNext, LS intT a.fMark] 25 false, .box [I b.fLetters, I b.fStart, LS (lsT intT) b.fNext, LS intT b.fMark] 25 false]⟩ (by kernel_rfl) ?_
      refine WL.nil ?_
      refine En.block ?_
      obtain ⟨Inv, mu, h0, hI⟩ := h
      refine En.loop (σ := Bool × Int) (fun zz => Inv zz.1 zz.2) (fun zz => mu zz.1 zz.2) (fun zz => ⟨[(2, .sv (.one (.ptr 0 0))), (3, .sv (.one (.ptr 1 0))), (5, .sv (.one (B zz.1))), (6, .sv (.one (I zz.2)))], [.box [I a.fLetters, I a.fStart, LS (lsT intT) a.fNext, LS intT a.fMark] 25 false, .box [I b.fLetters, I b.fStart, LS (lsT intT) b.fNext, LS intT b.fMark] 25 false]⟩) ((decide (a.fMark = b.fMark)), 0) h0 (sub_ok (by kernel_rfl)) ?_
      rintro ⟨x5, x6⟩ h
      replace h := hI _ _ h
      show En c ⟨[(2, .sv (.one (.ptr 0 0))), (3, .sv (.one (.ptr 1 0))), (5, .sv (.one (B x5))), (6, .sv (.one (I x6)))], [.box [I a.fLetters, I a.fStart, LS (lsT intT) a.fNext, LS intT a.fMark] 25 false, .box [I b.fLetters, I b.fStart, LS (lsT intT) b.fNext, LS intT b.fMark] 25 false]⟩ _
      refine En.seq ?_
      refine En.seq ?_
      refine En.region ?_
      refine WL.run ht hn 6 ⟨[(2, .sv (.one (.ptr 0 0))), (3, .sv (.one (.ptr 1 0))), (5, .sv (.one (B x5))), (6, .sv (.one (I x6))), (38, .sv (.one (B (decide (x6 < (a.fNext.length : Int))))))], [.box [I a.fLetters, I a.fStart, LS (lsT intT) a.fNext, LS intT a.fMark] 25 false, .box [I b.fLetters, I b.fStart, LS (lsT intT) b.fNext, LS intT b.fMark] 25 false]⟩ (by kernel_rfl) ?_
      refine WL.thru ⟨[(2, .sv (.one (.ptr 0 0))), (3, .sv (.one (.ptr 1 0))), (5, .sv (.one (B x5))), (6, .sv (.one (I x6))), (40, .sv (.one (B ((decide (x6 < (a.fNext.length : Int))) && x5))))], [.box [I a.fLetters, I a.fStart, LS (lsT intT) a.fNext, LS intT a.fMark] 25 false, .box [I b.fLetters, I b.fStart, LS (lsT intT) b.fNext, LS intT b.fMark] 25 false]⟩ ?_ ?_
      · refine splitB (decide (x6 < (a.fNext.length : Int))) (fun hb0 => ?_) (fun hb0 => ?_)
        · refine WL.setB 38 hb0 (by kernel_rfl) ?_
          refine WL.run ht hn 2 ⟨[(2, .sv (.one (.ptr 0 0))), (3, .sv (.one (.ptr 1 0))), (5, .sv (.one (B x5))), (6, .sv (.one (I x6))), (40, .sv (.one (B x5)))], [.box [I a.fLetters, I a.fStart, LS (lsT intT) a.fNext, LS intT a.fMark] 25 false, .box [I b.fLetters, I b.fStart, LS (lsT intT) b.fNext, LS intT b.fMark] 25 false]⟩ (by kernel_rfl) ?_
          exact WL.nil (sub_ok (by simp only [hb0]; kernel_rfl))
        · refine WL.setB 38 hb0 (by kernel_rfl) ?_
          refine WL.run ht hn 2 ⟨[(2, .sv (.one (.ptr 0 0))), (3, .sv (.one (.ptr 1 0))), (5, .sv (.one (B x5))), (6, .sv (.one (I x6))), (40, .sv (.one (B false)))], [.box [I a.fLetters, I a.fStart, LS (lsT intT) a.fNext, LS intT a.fMark] 25 false, .box [I b.fLetters, I b.fStart, LS (lsT intT) b.fNext, LS intT b.fMark] 25 false]⟩ (by kernel_rfl) ?_
          exact WL.nil (sub_ok (by simp only [hb0]; kernel_rfl))
      · refine En.cond (b := ((decide (x6 < (a.fNext.length : Int))) && x5)) (by kernel_rfl) (fun hb => ?_) (fun hb => ?_)
        · replace h := h.1 hb
          refine En.skip ?_
          refine En.seq ?_
          refine En.block ?_
          obtain ⟨e, he, h⟩ := h
          obtain ⟨e_2, he_2, h⟩ := h
          refine En.regionA ⟨[(2, .sv (.one (.ptr 0 0))), (3, .sv (.one (.ptr 1 0))), (6, .sv (.one (I x6)))], [.sv (.one (.ptr 0 2)), .sv (.one (LS (lsT intT) a.fNext)), .sv (.one (I x6)), .sv (.one (.pe (svR (.one (LS intT e))) 1)), .sv (.one (LS intT e)), .sv (.one (.ptr 1 2)), .sv (.one (LS (lsT intT) b.fNext)), .sv (.one (I x6)), .sv (.one (.pe (svR (.one (LS intT e_2))) 1)), .sv (.one (LS intT e_2)), .sv (.one (B (decide (e = e_2)))), .sv (.one (B (decide (e = e_2))))], [⟨.box [I a.fLetters, I a.fStart, LS (lsT intT) a.fNext, LS intT a.fMark] 25 false, none, none, none⟩, ⟨.box [I b.fLetters, I b.fStart, LS (lsT intT) b.fNext, LS intT b.fMark] 25 false, none, none, none⟩]⟩ ⟨[(2, .sv (.one (.ptr 0 0))), (3, .sv (.one (.ptr 1 0))), (5, .sv (.one (B (decide (e = e_2))))), (6, .sv (.one (I x6)))], [.box [I a.fLetters, I a.fStart, LS (lsT intT) a.fNext, LS intT a.fMark] 25 false, .box [I b.fLetters, I b.fStart, LS (lsT intT) b.fNext, LS intT b.fMark] 25 false]⟩ (by kernel_rfl) hn (by kernel_rfl) (by rfl) (by kernel_rfl) ?_ (by kernel_rfl) ?_
          · exact ⟨.mt ⟨[(2, .sv (.one (.ptr 0 0)))], []⟩ [] none (by kernel_rfl) (by rfl) (mt_ev ht (by kernel_rfl)) rfl rfl rfl rfl,
    .mt ⟨[(43, .sv (.one (.ptr 0 2)))], [.box [I a.fLetters, I a.fStart, LS (lsT intT) a.fNext, LS intT a.fMark] 25 false]⟩ [] none (by kernel_rfl) (by rfl) (mt_ev ht (by kernel_rfl)) rfl rfl rfl rfl,
    .mt ⟨[(6, .sv (.one (I x6)))], []⟩ [] none (by kernel_rfl) (by rfl) (mt_ev ht (by kernel_rfl)) rfl rfl rfl rfl,
    .mt ⟨[(44, .sv (.one (LS (lsT intT) a.fNext))), (45, .sv (.one (I x6)))], []⟩ [] none (by kernel_rfl) (by rfl) (mt_val (val_index (T := (lsT intT)) (l := a.fNext) (i := x6) ht rfl (by rfl) (by rfl) (by rfl) (by rfl) (by rfl) (by rfl) he)) rfl rfl rfl rfl,
    .mt ⟨[(46, .sv (.one (.pe (svR (.one (LS intT e))) 1)))], []⟩ [] none (by kernel_rfl) (by rfl) (mt_val (val_load (s := .one (LS intT e)) ht rfl (by rfl) (by rfl) (by rfl) (by rfl) (by rfl))) rfl rfl rfl rfl,
    .mt ⟨[(3, .sv (.one (.ptr 1 0)))], []⟩ [] none (by kernel_rfl) (by rfl) (mt_ev ht (by kernel_rfl)) rfl rfl rfl rfl,
    .mt ⟨[(48, .sv (.one (.ptr 1 2)))], [.gone, .box [I b.fLetters, I b.fStart, LS (lsT intT) b.fNext, LS intT b.fMark] 25 false]⟩ [] none (by kernel_rfl) (by rfl) (mt_ev ht (by kernel_rfl)) rfl rfl rfl rfl,
    .mt ⟨[(6, .sv (.one (I x6)))], []⟩ [] none (by kernel_rfl) (by rfl) (mt_ev ht (by kernel_rfl)) rfl rfl rfl rfl,
    .mt ⟨[(49, .sv (.one (LS (lsT intT) b.fNext))), (50, .sv (.one (I x6)))], []⟩ [] none (by kernel_rfl) (by rfl) (mt_val (val_index (T := (lsT intT)) (l := b.fNext) (i := x6) ht rfl (by rfl) (by rfl) (by rfl) (by rfl) (by rfl) (by rfl) he_2)) rfl rfl rfl rfl,
    .mt ⟨[(51, .sv (.one (.pe (svR (.one (LS intT e_2))) 1)))], []⟩ [] none (by kernel_rfl) (by rfl) (mt_val (val_load (s := .one (LS intT e_2)) ht rfl (by rfl) (by rfl) (by rfl) (by rfl) (by rfl))) rfl rfl rfl rfl,
    .mt ⟨[(47, .sv (.one (LS intT e))), (52, .sv (.one (LS intT e_2)))], []⟩ [] none (by kernel_rfl) (by rfl) (mt_call (sameWords_ct e e_2) en67 (caps := []) [] rfl (by rfl) (by kernel_rfl) (by kernel_rfl) (by rfl) (by rfl) (by rfl)) rfl rfl rfl rfl,
    .mt ⟨[(53, .sv (.one (B (decide (e = e_2)))))], []⟩ [] none (by kernel_rfl) (by rfl) (mt_ev ht (by kernel_rfl)) rfl rfl rfl rfl,
    trivial⟩
          · refine En.region ?_
            refine WL.run ht hn 3 ⟨[(2, .sv (.one (.ptr 0 0))), (3, .sv (.one (.ptr 1 0))), (5, .sv (.one (B (decide (e = e_2))))), (6, .sv (.one (I (wr (x6 + 1)))))], [.box [I a.fLetters, I a.fStart, LS (lsT intT) a.fNext, LS intT a.fMark] 25 false, .box [I b.fLetters, I b.fStart, LS (lsT intT) b.fNext, LS intT b.fMark] 25 false]⟩ (by kernel_rfl) ?_
            refine WL.nil ?_
            exact En.at (I := fun zz => Inv zz.1 zz.2 ∧ mu zz.1 zz.2 < mu x5 x6) (T := fun zz => ⟨[(2, .sv (.one (.ptr 0 0))), (3, .sv (.one (.ptr 1 0))), (5, .sv (.one (B zz.1))), (6, .sv (.one (I zz.2)))], [.box [I a.fLetters, I a.fStart, LS (lsT intT) a.fNext, LS intT a.fMark] 25 false, .box [I b.fLetters, I b.fStart, LS (lsT intT) b.fNext, LS intT b.fMark] 25 false]⟩) ((decide (e = e_2)), (wr (x6 + 1))) h (by kernel_rfl)
        · replace h := h.2 hb
          refine En.exit rfl ?_
          refine En.seq ?_
          refine En.region ?_
          refine WL.run ht hn 2 ⟨[(4, .sv (.one (B x5)))], [.gone, .gone]⟩ (by kernel_rfl) ?_
          refine WL.nil ?_
          refine En.ret ?_
          exact En.back ht x5 h (by kernel_rfl) rfl
theorem en23 : ∀ args w, (callFunc 23 args).run Try.prog w = .ok (.enter 23 args) w := enters_of Try.func23 (by kernel_rfl) rfl
theorem alike_ct (a : ApiDet) (b : ApiDet)  : Ct 23 [.sv (.agg [I a.fLetters, I a.fStart, LS (lsT intT) a.fNext, LS intT a.fMark]), .sv (.agg [I b.fLetters, I b.fStart, LS (lsT intT) b.fNext, LS intT b.fMark])] [] (fun (_ : Unit) => True) (fun _ => .sv (.one (B (decide (a = b))))) := by
  refine (alike_walk a b (fun res_ => res_ = (decide (a = b))) ?_).fun
  intro hl _ _ _
  refine ⟨fun h => ?_, fun h => ?_⟩
  · exact (decide_eq_false (fun e => by subst e; simp at h)).symm
  simp only [Bool.or_eq_false_iff, bne_eq_false_iff_eq] at h
  obtain ⟨⟨h1, h2⟩, h3⟩ := h
  refine ⟨fun m i => ∃ k : Nat, i = k ∧ k ≤ a.fNext.length ∧ (m = true → a.fMark = b.fMark ∧ a.fNext.take k = b.fNext.take k) ∧ (m = false → a ≠ b), fun m i => a.fNext.length - i.toNat, ⟨0, rfl, Nat.zero_le _, fun h => ⟨of_decide_eq_true h, rfl⟩, fun h e => of_decide_eq_false h (by rw [e])⟩, ?_⟩
  rintro m i ⟨k, rfl, hk, ht, hf⟩
  refine ⟨fun hb => ?_, fun hb => ?_⟩
  · simp only [Bool.and_eq_true] at hb
    have hlt := dlt hb.1
    have hlt' : k < b.fNext.length := by omega
    obtain ⟨hm, htk⟩ := ht hb.2
    refine ⟨_, idx_at hlt, _, idx_at hlt', ⟨k + 1, ?_, hlt, fun he => ⟨hm, ?_⟩, fun he e => ?_⟩, ?_⟩
    · rw [wr_in (by omega) (by omega)]; omega
    · rw [List.take_add_one, List.take_add_one, htk, List.getElem?_eq_getElem hlt, List.getElem?_eq_getElem hlt', of_decide_eq_true he]
    · subst e; exact of_decide_eq_false he rfl
    · rw [wr_in (by omega) (by omega)]; simp only; omega
  · cases m with
    | false => exact (decide_eq_false (hf rfl)).symm
    | true =>
      rw [Bool.and_true] at hb
      have hge := dge hb
      obtain ⟨hm, htk⟩ := ht rfl
      rw [List.take_of_length_le hge, List.take_of_length_le (by omega)] at htk
      refine (decide_eq_true ?_).symm
      obtain ⟨a1, a2, a3, a4⟩ := a
      obtain ⟨b1, b2, b3, b4⟩ := b
      simp only at h1 h2 hm htk
      rw [h1, h2, hm, htk]
def mayW_vc (n : Int) (w : (List Int)) (Q : Int → Prop) : Prop :=
  w.length ≤ 9223372036854775807 →
  (IfP ((decide (n < 1)) || (decide (n > 4))) (Q 2) (IfP (decide ((w.length : Int) > 60)) (Q 1) (∃ (Inv : Int → Prop) (mu : Int → Nat), Inv 0 ∧
  ∀ (x18 : Int) , Inv x18 → (IfP (decide (x18 < (w.length : Int))) (∃ e, idx w x18 = some e ∧
  IfP ((decide (e < 0)) || (decide (e ≥ n))) (Q 2) ((Inv (wr (x18 + 1)) ∧ mu (wr (x18 + 1)) < mu x18))) (Q 0)))))
theorem mayW_walk (n : Int) (w : (List Int)) (Q : Int → Prop) (h : mayW_vc n w Q) : Ct 73 [.sv (.one (I n)), .sv (.one (LS intT w))] [] Q (fun (r : Int) => .sv (.one (I r))) := by
  have ht := tab_ok
  refine Ct.body Try.func73 rfl rfl rfl rfl (fun c hn => ?_)
  unfold mayW_vc at h
  refine En.lenL 1 (by rfl) (fun hl => ?_)
  replace h := h hl
  clear hl
  refine En.seq ?_
  refine En.region ?_
  refine WL.run ht hn 1 ⟨[(0, .sv (.one (I n))), (1, .sv (.one (LS intT w)))], []⟩ (by kernel_rfl) ?_
  refine WL.nil ?_
  refine En.seq ?_
  refine En.seq ?_
  refine En.region ?_
  refine WL.run ht hn 3 ⟨[(0, .sv (.one (I n))), (1, .sv (.one (LS intT w))), (9, .sv (.one (B (decide (n < 1)))))], []⟩ (by kernel_rfl) ?_
  refine WL.thru ⟨[(0, .sv (.one (I n))), (1, .sv (.one (LS intT w))), (12, .sv (.one (B ((decide (n < 1)) || (decide (n > 4))))))], []⟩ ?_ ?_
  · refine splitB (decide (n < 1)) (fun hb0 => ?_) (fun hb0 => ?_)
    · refine WL.setB 9 hb0 (by kernel_rfl) ?_
      refine WL.run ht hn 3 ⟨[(0, .sv (.one (I n))), (1, .sv (.one (LS intT w))), (12, .sv (.one (B true)))], []⟩ (by kernel_rfl) ?_
      exact WL.nil (sub_ok (by simp only [hb0]; kernel_rfl))
    · refine WL.setB 9 hb0 (by kernel_rfl) ?_
      refine WL.run ht hn 3 ⟨[(0, .sv (.one (I n))), (1, .sv (.one (LS intT w))), (12, .sv (.one (B (decide (n > 4)))))], []⟩ (by kernel_rfl) ?_
      exact WL.nil (sub_ok (by simp only [hb0]; kernel_rfl))
  · refine En.cond (b := ((decide (n < 1)) || (decide (n > 4)))) (by kernel_rfl) (fun hb => ?_) (fun hb => ?_)
    · replace h := h.1 hb
      refine En.seq ?_
      refine En.region ?_
      refine WL.run ht hn 1 ⟨[(4, .sv (.one (I 2)))], []⟩ (by kernel_rfl) ?_
      refine WL.nil ?_
      refine En.ret ?_
      exact En.back ht 2 h (by kernel_rfl) rfl
    · replace h := h.2 hb
      refine En.skip ?_
      refine En.seq ?_
      refine En.seq ?_
      refine En.region ?_
      refine WL.run ht hn 3 ⟨[(0, .sv (.one (I n))), (1, .sv (.one (LS intT w))), (15, .sv (.one (B (decide ((w.length : Int) > 60)))))], []⟩ (by kernel_rfl) ?_
      refine WL.nil ?_
      refine En.cond (b := (decide ((w.length : Int) > 60))) (by kernel_rfl) (fun hb => ?_) (fun hb => ?_)
      · replace h := h.1 hb
        refine En.seq ?_
        refine En.region ?_
        refine WL.run ht hn 1 ⟨[(4, .sv (.one (I 1)))], []⟩ (by kernel_rfl) ?_
        refine WL.nil ?_
        refine En.ret ?_
        exact En.back ht 1 h (by kernel_rfl) rfl
      · replace h := h.2 hb
        refine En.skip ?_
        refine En.seq ?_
        refine En.seq ?_
        refine En.region ?_
        refine WL.run ht hn 3 ⟨[(0, .sv (.one (I n))), (16, .sv (.one (LS intT w))), (17, .sv (.one (I (w.length : Int)))), (18, .sv (.one (I 0)))], []⟩ (by kernel_rfl) ?_
        refine WL.nil ?_
        refine En.block ?_
        obtain ⟨Inv, mu, h0, hI⟩ := h
        refine En.loop (σ := Int) (fun zz => Inv zz) (fun zz => mu zz) (fun zz => ⟨[(0, .sv (.one (I n))), (16, .sv (.one (LS intT w))), (17, .sv (.one (I (w.length : Int)))), (18, .sv (.one (I zz)))], []⟩) 0 h0 (sub_ok (by kernel_rfl)) ?_
        intro x18 h
        replace h := hI _ h
        show En c ⟨[(0, .sv (.one (I n))), (16, .sv (.one (LS intT w))), (17, .sv (.one (I (w.length : Int)))), (18, .sv (.one (I x18)))], []⟩ _
        refine En.seq ?_
        refine En.region ?_
        refine WL.run ht hn 1 ⟨[(0, .sv (.one (I n))), (16, .sv (.one (LS intT w))), (17, .sv (.one (I (w.length : Int)))), (18, .sv (.one (I x18))), (19, .sv (.one (B (decide (x18 < (w.length : Int))))))], []⟩ (by kernel_rfl) ?_
        refine WL.nil ?_
        refine En.seq ?_
        refine En.cond (b := (decide (x18 < (w.length : Int)))) (by kernel_rfl) (fun hb => ?_) (fun hb => ?_)
        · replace h := h.1 hb
          refine En.skip ?_
          refine En.seq ?_
          refine En.block ?_
          refine En.seq ?_
          refine En.region ?_
          obtain ⟨e, he, h⟩ := h
          refine WL.val hn (by rfl) (val_index (T := intT) (l := w) (i := x18) ht rfl (by rfl) (by rfl) (by rfl) (by rfl) (by rfl) (by rfl) he) (by rfl) ?_
          refine WL.val hn (by rfl) (val_load (s := .one (I e)) ht rfl (by rfl) (by rfl) (by rfl) (by rfl) (by rfl)) (by rfl) ?_
          refine WL.run ht hn 1 ⟨[(0, .sv (.one (I n))), (6, .sv (.one (I e))), (16, .sv (.one (LS intT w))), (17, .sv (.one (I (w.length : Int)))), (18, .sv (.one (I x18)))], []⟩ (by kernel_rfl) ?_
          refine WL.nil ?_
          refine En.seq ?_
          refine En.region ?_
          refine WL.run ht hn 3 ⟨[(0, .sv (.one (I n))), (6, .sv (.one (I e))), (16, .sv (.one (LS intT w))), (17, .sv (.one (I (w.length : Int)))), (18, .sv (.one (I x18))), (24, .sv (.one (B (decide (e < 0)))))], []⟩ (by kernel_rfl) ?_
          refine WL.thru ⟨[(0, .sv (.one (I n))), (16, .sv (.one (LS intT w))), (17, .sv (.one (I (w.length : Int)))), (18, .sv (.one (I x18))), (28, .sv (.one (B ((decide (e < 0)) || (decide (e ≥ n))))))], []⟩ ?_ ?_
          · refine splitB (decide (e < 0)) (fun hb0 => ?_) (fun hb0 => ?_)
            · refine WL.setB 24 hb0 (by kernel_rfl) ?_
              refine WL.run ht hn 4 ⟨[(0, .sv (.one (I n))), (16, .sv (.one (LS intT w))), (17, .sv (.one (I (w.length : Int)))), (18, .sv (.one (I x18))), (28, .sv (.one (B true)))], []⟩ (by kernel_rfl) ?_
              exact WL.nil (sub_ok (by simp only [hb0]; kernel_rfl))
            · refine WL.setB 24 hb0 (by kernel_rfl) ?_
              refine WL.run ht hn 4 ⟨[(0, .sv (.one (I n))), (16, .sv (.one (LS intT w))), (17, .sv (.one (I (w.length : Int)))), (18, .sv (.one (I x18))), (28, .sv (.one (B (decide (e ≥ n)))))], []⟩ (by kernel_rfl) ?_
              exact WL.nil (sub_ok (by simp only [hb0]; kernel_rfl))
          · refine En.cond (b := ((decide (e < 0)) || (decide (e ≥ n)))) (by kernel_rfl) (fun hb => ?_) (fun hb => ?_)
            · replace h := h.1 hb
              refine En.seq ?_
              refine En.region ?_
              refine WL.run ht hn 1 ⟨[(4, .sv (.one (I 2)))], []⟩ (by kernel_rfl) ?_
              refine WL.nil ?_
              refine En.ret ?_
              exact En.back ht 2 h (by kernel_rfl) rfl
            · replace h := h.2 hb
              refine En.skip ?_
              refine En.region ?_
              refine WL.run ht hn 2 ⟨[(0, .sv (.one (I n))), (16, .sv (.one (LS intT w))), (17, .sv (.one (I (w.length : Int)))), (18, .sv (.one (I (wr (x18 + 1)))))], []⟩ (by kernel_rfl) ?_
              refine WL.nil ?_
              exact En.at (I := fun zz => Inv zz ∧ mu zz < mu x18) (T := fun zz => ⟨[(0, .sv (.one (I n))), (16, .sv (.one (LS intT w))), (17, .sv (.one (I (w.length : Int)))), (18, .sv (.one (I zz)))], []⟩) (wr (x18 + 1)) h (by kernel_rfl)
        · replace h := h.2 hb
          refine En.exit rfl ?_
          refine En.seq ?_
          refine En.region ?_
          refine WL.run ht hn 1 ⟨[(4, .sv (.one (I 0)))], []⟩ (by kernel_rfl) ?_
          refine WL.nil ?_
          refine En.ret ?_
          exact En.back ht 0 h (by kernel_rfl) rfl
theorem en73 : ∀ args w, (callFunc 73 args).run Try.prog w = .ok (.enter 73 args) w := enters_of Try.func73 (by kernel_rfl) rfl
def mayE (n : Int) (w : List Int) : Int := if (decide (n < 1)) || (decide (n > 4)) then 2 else if w.length > 60 then 1 else if w.any (fun a => (decide (a < 0)) || (decide (a ≥ n))) then 2 else 0
theorem mayW_ct (n : Int) (w : (List Int))  : Ct 73 [.sv (.one (I n)), .sv (.one (LS intT w))] [] (fun (_ : Unit) => True) (fun _ => .sv (.one (I (mayE n w)))) := by
  refine (mayW_walk n w (fun res_ => res_ = (mayE n w)) ?_).fun
  intro hl
  refine ⟨fun h => ?_, fun h => ⟨fun h2 => ?_, fun h2 => ?_⟩⟩
  · show _ = mayE n w
    unfold mayE
    rw [if_pos h]
  · show _ = mayE n w
    have := of_decide_eq_true h2
    unfold mayE
    rw [if_neg (by rw [h]; decide), if_pos (by omega)]
  have h2 := of_decide_eq_false h2
  refine ⟨fun i => ∃ k : Nat, i = k ∧ k ≤ w.length ∧ (w.take k).any (fun a => (decide (a < 0)) || (decide (a ≥ n))) = false, fun i => w.length - i.toNat, ⟨0, rfl, Nat.zero_le _, rfl⟩, ?_⟩
  rintro i ⟨k, rfl, hk, ht⟩
  refine ⟨fun hb => ?_, fun hb => ?_⟩
  · have hlt := dlt hb
    refine ⟨_, idx_at hlt, fun hne => ?_, fun he => ⟨⟨k + 1, wsucc (by omega), hlt, ?_⟩, mu_up hlt (by omega)⟩⟩
    · show _ = mayE n w
      unfold mayE
      rw [if_neg (by rw [h]; decide), if_neg (by omega), if_pos (List.any_eq_true.2 ⟨_, List.getElem_mem hlt, hne⟩)]
    · rw [List.take_add_one, List.any_append, ht, List.getElem?_eq_getElem hlt]
      simpa using he
  · have hge := dge hb
    rw [List.take_of_length_le hge] at ht
    show _ = mayE n w
    unfold mayE
    rw [if_neg (by rw [h]; decide), if_neg (by omega), if_neg (by rw [ht]; decide)]
def stands_vc (u : (List Int)) (v : (List Int)) (Q : ((List Int) × Bool × Int) → Prop) : Prop :=
  u.length ≤ 9223372036854775807 →
  v.length ≤ 9223372036854775807 →
  (∃ (Inv : Int → Prop) (mu : Int → Nat), Inv 0 ∧
  ∀ (x16 : Int) , Inv x16 → (IfP (decide (x16 < (([u, v] : (List (List Int))).length : Int))) (∃ e, idx ([u, v] : (List (List Int))) x16 = some e ∧
  IfP ((mayE 4 e) != 0) (Q ([], false, (mayE 4 e))) ((Inv (wr (x16 + 1)) ∧ mu (wr (x16 + 1)) < mu x16))) (∃ (Inv_2 : Int → (List Int) → Prop) (mu_2 : Int → (List Int) → Nat), Inv_2 0 ([] : (List Int)) ∧
  ∀ (x28 : Int) (l2 : (List Int)) , Inv_2 x28 l2 → (IfP (decide (x28 < (v.length : Int))) (∃ J : (List Int) → Prop, (∃ e_2, idx v x28 = some e_2 ∧
  ∃ J_2 : Bool → Prop, (IfP (decide ((l2.length : Int) < (u.length : Int))) (∃ e_3, idx u (l2.length : Int) = some e_3 ∧
  J_2 (e_3 == e_2)) (J_2 false)) ∧
  (∀ (x46 : Bool), J_2 x46 → IfP x46 (capOk l2.length (([x28] : (List Int)) : (List Int)).length 8 ∧
  J (l2 ++ ([x28] : (List Int)))) (J l2))) ∧
  (∀ (l2_2 : (List Int)), J l2_2 → (Inv_2 (wr (x28 + 1)) l2_2 ∧ mu_2 (wr (x28 + 1)) l2_2 < mu_2 x28 l2))) (IfP (decide ((l2.length : Int) < (u.length : Int))) (Q ([], false, 0)) (Q (l2, true, 0)))))))
theorem stands_walk (u : (List Int)) (v : (List Int)) (Q : ((List Int) × Bool × Int) → Prop) (h : stands_vc u v Q) : Ct 129 [.sv (.one (LS intT u)), .sv (.one (LS intT v))] [] Q (fun (r : ((List Int) × Bool × Int)) => .tup [.one (LS intT r.1), .one (B r.2.1), .one (I r.2.2)]) := by
  have ht := tab_ok
  refine Ct.body Try.func129 rfl rfl rfl rfl (fun c hn => ?_)
  unfold stands_vc at h
  refine En.lenL 0 (by rfl) (fun hl => ?_)
  replace h := h hl
  clear hl
  refine En.lenL 1 (by rfl) (fun hl => ?_)
  replace h := h hl
  clear hl
  refine En.seq ?_
  refine En.region ?_
  refine WL.run ht hn 3 ⟨[(0, .sv (.one (LS intT u))), (1, .sv (.one (LS intT v))), (4, .sv (.one (.v (.slice none 0 0))))], []⟩ (by kernel_rfl) ?_
  refine WL.nil ?_
  refine En.seq ?_
  refine En.seq ?_
  refine En.region ?_
  refine WL.run ht hn 2 ⟨[(0, .sv (.one (LS intT u))), (1, .sv (.one (LS intT v))), (4, .sv (.one (.v (.slice none 0 0)))), (12, .sv (.one (LS intT u))), (13, .sv (.one (LS intT v)))], []⟩ (by kernel_rfl) ?_
  refine WL.mt0 (K := []) (p := some (0, rowI 23 (lsT intT) ([u, v] : (List (List Int))))) hn (by rfl) (mt_lit (T := (lsT intT)) ([u, v] : (List (List Int))) (mt_bsl 0 (r := cellsOf (lsT intT) ([u, v] : (List (List Int)))) ht rfl (by rfl) (by rfl) (by rfl) (by kernel_rfl) (by rfl)) (fun _ h => by cases h) (fun _ => rfl) (fun _ => rfl) (by rfl) (Nat.le_of_ble_eq_true rfl)) (by rfl) (by rfl) (by rfl) ?_
  refine WL.run ht hn 2 ⟨[(0, .sv (.one (LS intT u))), (1, .sv (.one (LS intT v))), (4, .sv (.one (.v (.slice none 0 0)))), (14, .sv (.one (.own 0))), (15, .sv (.one (I (([u, v] : (List (List Int))).length : Int)))), (16, .sv (.one (I 0)))], [rowI 23 (lsT intT) ([u, v] : (List (List Int)))]⟩ (by kernel_rfl) ?_
  refine WL.nil ?_
  refine En.block ?_
  obtain ⟨Inv, mu, h0_2, hI_2⟩ := h
  refine En.loop (σ := Int) (fun zz => Inv zz) (fun zz => mu zz) (fun zz => ⟨[(0, .sv (.one (LS intT u))), (1, .sv (.one (LS intT v))), (4, .sv (.one (.v (.slice none 0 0)))), (14, .sv (.one (.own 0))), (15, .sv (.one (I (([u, v] : (List (List Int))).length : Int)))), (16, .sv (.one (I zz)))], [rowI 23 (lsT intT) ([u, v] : (List (List Int)))]⟩) 0 h0_2 (sub_ok (by kernel_rfl)) ?_
  intro x16 h
  replace h := hI_2 _ h
  show En c ⟨[(0, .sv (.one (LS intT u))), (1, .sv (.one (LS intT v))), (4, .sv (.one (.v (.slice none 0 0)))), (14, .sv (.one (.own 0))), (15, .sv (.one (I (([u, v] : (List (List Int))).length : Int)))), (16, .sv (.one (I x16)))], [rowI 23 (lsT intT) ([u, v] : (List (List Int)))]⟩ _
  refine En.seq ?_
  refine En.region ?_
  refine WL.run ht hn 1 ⟨[(0, .sv (.one (LS intT u))), (1, .sv (.one (LS intT v))), (4, .sv (.one (.v (.slice none 0 0)))), (14, .sv (.one (.own 0))), (15, .sv (.one (I (([u, v] : (List (List Int))).length : Int)))), (16, .sv (.one (I x16))), (17, .sv (.one (B (decide (x16 < (([u, v] : (List (List Int))).length : Int))))))], [rowI 23 (lsT intT) ([u, v] : (List (List Int)))]⟩ (by kernel_rfl) ?_
  refine WL.nil ?_
  refine En.seq ?_
  refine En.cond (b := (decide (x16 < (([u, v] : (List (List Int))).length : Int)))) (by kernel_rfl) (fun hb => ?_) (fun hb => ?_)
  · replace h := h.1 hb
    refine En.skip ?_
    refine En.seq ?_
    refine En.block ?_
    refine En.seq ?_
    refine En.region ?_
    obtain ⟨e, he, h⟩ := h
    refine WL.val hn (by rfl) (val_indexO (T := (lsT intT)) (l := ([u, v] : (List (List Int)))) (k := x16) ht rfl (by rfl) (by rfl) (by rfl) (by rfl) (by decide) (by rfl) (by rfl) (by rfl) he) (by rfl) ?_
    refine WL.val hn (by rfl) (val_loadO (T := (lsT intT)) (l := ([u, v] : (List (List Int)))) (y := e) ht rfl (by rfl) (by rfl) (by rfl) (by rfl) (by rfl) (idx_some he).2.2 (by rfl)) (by rfl) ?_
    refine WL.run ht hn 1 ⟨[(0, .sv (.one (LS intT u))), (1, .sv (.one (LS intT v))), (4, .sv (.one (.v (.slice none 0 0)))), (8, .sv (.one (LS intT e))), (14, .sv (.one (.own 0))), (15, .sv (.one (I (([u, v] : (List (List Int))).length : Int)))), (16, .sv (.one (I x16)))], [rowI 23 (lsT intT) ([u, v] : (List (List Int)))]⟩ (by kernel_rfl) ?_
    refine WL.nil ?_
    refine En.seq ?_
    refine En.region ?_
    refine WL.run ht hn 1 ⟨[(0, .sv (.one (LS intT u))), (1, .sv (.one (LS intT v))), (4, .sv (.one (.v (.slice none 0 0)))), (14, .sv (.one (.own 0))), (15, .sv (.one (I (([u, v] : (List (List Int))).length : Int)))), (16, .sv (.one (I x16))), (20, .sv (.one (LS intT e)))], [rowI 23 (lsT intT) ([u, v] : (List (List Int)))]⟩ (by kernel_rfl) ?_
    refine WL.mt0 (K := []) (p := none) hn (by rfl) (mt_call (mayW_ct 4 e) en73 (caps := []) [] rfl (by rfl) (by kernel_rfl) (by kernel_rfl) (by rfl) (by rfl) (by rfl)) (by rfl) (by rfl) (by rfl) ?_
    refine WL.run ht hn 1 ⟨[(0, .sv (.one (LS intT u))), (1, .sv (.one (LS intT v))), (4, .sv (.one (.v (.slice none 0 0)))), (9, .sv (.one (I (mayE 4 e)))), (14, .sv (.one (.own 0))), (15, .sv (.one (I (([u, v] : (List (List Int))).length : Int)))), (16, .sv (.one (I x16)))], [rowI 23 (lsT intT) ([u, v] : (List (List Int)))]⟩ (by kernel_rfl) ?_
    refine WL.nil ?_
    refine En.seq ?_
    refine En.region ?_
    refine WL.run ht hn 2 ⟨[(0, .sv (.one (LS intT u))), (1, .sv (.one (LS intT v))), (4, .sv (.one (.v (.slice none 0 0)))), (9, .sv (.one (I (mayE 4 e)))), (14, .sv (.one (.own 0))), (15, .sv (.one (I (([u, v] : (List (List Int))).length : Int)))), (16, .sv (.one (I x16))), (23, .sv (.one (B ((mayE 4 e) != 0))))], [rowI 23 (lsT intT) ([u, v] : (List (List Int)))]⟩ (by kernel_rfl) ?_
    refine WL.nil ?_
    refine En.cond (b := ((mayE 4 e) != 0)) (by kernel_rfl) (fun hb => ?_) (fun hb => ?_)
    · replace h := h.1 hb
      refine En.seq ?_
      refine En.region ?_
      refine WL.run ht hn 4 ⟨[(4, .sv (.one (.v (.slice none 0 0)))), (5, .sv (.one (B false))), (6, .sv (.one (I (mayE 4 e))))], [.gone]⟩ (by kernel_rfl) ?_
      refine WL.nil ?_
      refine En.ret ?_
      refine En.nilLS 4 intT (by rfl) ?_
      exact En.back ht ([], false, (mayE 4 e)) h (by kernel_rfl) rfl
    · replace h := h.2 hb
      refine En.skip ?_
      refine En.region ?_
      refine WL.run ht hn 2 ⟨[(0, .sv (.one (LS intT u))), (1, .sv (.one (LS intT v))), (4, .sv (.one (.v (.slice none 0 0)))), (14, .sv (.one (.own 0))), (15, .sv (.one (I (([u, v] : (List (List Int))).length : Int)))), (16, .sv (.one (I (wr (x16 + 1)))))], [rowI 23 (lsT intT) ([u, v] : (List (List Int)))]⟩ (by kernel_rfl) ?_
      refine WL.nil ?_
      exact En.at (I := fun zz => Inv zz ∧ mu zz < mu x16) (T := fun zz => ⟨[(0, .sv (.one (LS intT u))), (1, .sv (.one (LS intT v))), (4, .sv (.one (.v (.slice none 0 0)))), (14, .sv (.one (.own 0))), (15, .sv (.one (I (([u, v] : (List (List Int))).length : Int)))), (16, .sv (.one (I zz)))], [rowI 23 (lsT intT) ([u, v] : (List (List Int)))]⟩) (wr (x16 + 1)) h (by kernel_rfl)
  · replace h := h.2 hb
    refine En.exit rfl ?_
    refine En.seq ?_
    refine En.seq ?_
    refine En.region ?_
    refine WL.run ht hn 3 ⟨[(0, .sv (.one (LS intT u))), (4, .sv (.one (.v (.slice none 0 0)))), (26, .sv (.one (LS intT v))), (27, .sv (.one (I (v.length : Int)))), (28, .sv (.one (I 0)))], [.gone]⟩ (by kernel_rfl) ?_
    refine WL.nil ?_
    refine En.block ?_
    refine En.rowNil 4 2 3 intT (by rfl) (by rfl) ?_
    obtain ⟨Inv_2, mu_2, h0, hI⟩ := h
    refine En.loop (σ := Int × (List Int)) (fun zz => Inv_2 zz.1 zz.2) (fun zz => mu_2 zz.1 zz.2) (fun zz => ⟨[(0, .sv (.one (LS intT u))), (4, .sv (.one (.own 2))), (26, .sv (.one (LS intT v))), (27, .sv (.one (I (v.length : Int)))), (28, .sv (.one (I zz.1)))], [.gone, .gone, rowI 3 intT zz.2]⟩) (0, ([] : (List Int))) h0 (sub_ok (by kernel_rfl)) ?_
    rintro ⟨x28, l2⟩ h
    replace h := hI _ _ h
    show En c ⟨[(0, .sv (.one (LS intT u))), (4, .sv (.one (.own 2))), (26, .sv (.one (LS intT v))), (27, .sv (.one (I (v.length : Int)))), (28, .sv (.one (I x28)))], [.gone, .gone, rowI 3 intT l2]⟩ _
    refine En.seq ?_
    refine En.region ?_
    refine WL.run ht hn 1 ⟨[(0, .sv (.one (LS intT u))), (4, .sv (.one (.own 2))), (26, .sv (.one (LS intT v))), (27, .sv (.one (I (v.length : Int)))), (28, .sv (.one (I x28))), (29, .sv (.one (B (decide (x28 < (v.length : Int))))))], [.gone, .gone, rowI 3 intT l2]⟩ (by kernel_rfl) ?_
    refine WL.nil ?_
    refine En.seq ?_
    refine En.cond (b := (decide (x28 < (v.length : Int)))) (by kernel_rfl) (fun hb => ?_) (fun hb => ?_)
    · replace h := h.1 hb
      refine En.skip ?_
      obtain ⟨J, h, hJ⟩ := h
      refine En.seqJ (σ := (List Int)) (fun zz => J zz) (fun zz => ⟨[(0, .sv (.one (LS intT u))), (4, .sv (.one (.own 2))), (26, .sv (.one (LS intT v))), (27, .sv (.one (I (v.length : Int)))), (28, .sv (.one (I x28)))], [.gone, .gone, rowI 3 intT zz]⟩) ?_ ?_
      · refine En.block ?_
        refine En.seq ?_
        refine En.region ?_
        refine WL.run ht hn 1 ⟨[(0, .sv (.one (LS intT u))), (4, .sv (.one (.own 2))), (26, .sv (.one (LS intT v))), (27, .sv (.one (I (v.length : Int)))), (28, .sv (.one (I x28))), (30, .sv (.one (I x28)))], [.gone, .gone, rowI 3 intT l2]⟩ (by kernel_rfl) ?_
        obtain ⟨e_2, he_2, h⟩ := h
        refine WL.val hn (by rfl) (val_index (T := intT) (l := v) (i := x28) ht rfl (by rfl) (by rfl) (by rfl) (by rfl) (by rfl) (by rfl) he_2) (by rfl) ?_
        refine WL.val hn (by rfl) (val_load (s := .one (I e_2)) ht rfl (by rfl) (by rfl) (by rfl) (by rfl) (by rfl)) (by rfl) ?_
        refine WL.run ht hn 2 ⟨[(0, .sv (.one (LS intT u))), (4, .sv (.one (.own 2))), (10, .sv (.one (I x28))), (11, .sv (.one (I e_2))), (26, .sv (.one (LS intT v))), (27, .sv (.one (I (v.length : Int)))), (28, .sv (.one (I x28)))], [.gone, .gone, rowI 3 intT l2]⟩ (by kernel_rfl) ?_
        refine WL.nil ?_
        obtain ⟨J_2, h, hJ_2⟩ := h
        refine En.seqJ (σ := Bool) (fun zz => J_2 zz) (fun zz => ⟨[(0, .sv (.one (LS intT u))), (4, .sv (.one (.own 2))), (10, .sv (.one (I x28))), (26, .sv (.one (LS intT v))), (27, .sv (.one (I (v.length : Int)))), (28, .sv (.one (I x28))), (46, .sv (.one (B zz)))], [.gone, .gone, rowI 3 intT l2]⟩) ?_ ?_
        · refine En.region ?_
          refine WL.run ht hn 6 ⟨[(0, .sv (.one (LS intT u))), (4, .sv (.one (.own 2))), (10, .sv (.one (I x28))), (11, .sv (.one (I e_2))), (26, .sv (.one (LS intT v))), (27, .sv (.one (I (v.length : Int)))), (28, .sv (.one (I x28))), (38, .sv (.one (B (decide ((l2.length : Int) < (u.length : Int))))))], [.gone, .gone, rowI 3 intT l2]⟩ (by kernel_rfl) ?_
          refine splitB (decide ((l2.length : Int) < (u.length : Int))) (fun hb => ?_) (fun hb => ?_)
          · replace h := h.1 hb
            refine WL.setB 38 hb (by kernel_rfl) ?_
            refine WL.run ht hn 3 ⟨[(0, .sv (.one (LS intT u))), (4, .sv (.one (.own 2))), (10, .sv (.one (I x28))), (11, .sv (.one (I e_2))), (26, .sv (.one (LS intT v))), (27, .sv (.one (I (v.length : Int)))), (28, .sv (.one (I x28))), (38, .sv (.one (B true))), (39, .sv (.one (LS intT u))), (41, .sv (.one (I (l2.length : Int))))], [.gone, .gone, rowI 3 intT l2]⟩ (by kernel_rfl) ?_
            obtain ⟨e_3, he_3, h⟩ := h
            refine WL.val hn (by rfl) (val_index (T := intT) (l := u) (i := (l2.length : Int)) ht rfl (by rfl) (by rfl) (by rfl) (by rfl) (by rfl) (by rfl) he_3) (by rfl) ?_
            refine WL.val hn (by rfl) (val_load (s := .one (I e_3)) ht rfl (by rfl) (by rfl) (by rfl) (by rfl) (by rfl)) (by rfl) ?_
            refine WL.run ht hn 3 ⟨[(0, .sv (.one (LS intT u))), (4, .sv (.one (.own 2))), (10, .sv (.one (I x28))), (26, .sv (.one (LS intT v))), (27, .sv (.one (I (v.length : Int)))), (28, .sv (.one (I x28))), (46, .sv (.one (B (e_3 == e_2))))], [.gone, .gone, rowI 3 intT l2]⟩ (by kernel_rfl) ?_
            refine WL.nil ?_
            exact En.at (I := fun zz => J_2 zz) (T := fun zz => ⟨[(0, .sv (.one (LS intT u))), (4, .sv (.one (.own 2))), (10, .sv (.one (I x28))), (26, .sv (.one (LS intT v))), (27, .sv (.one (I (v.length : Int)))), (28, .sv (.one (I x28))), (46, .sv (.one (B zz)))], [.gone, .gone, rowI 3 intT l2]⟩) (e_3 == e_2) h (by kernel_rfl)
          · replace h := h.2 hb
            refine WL.setB 38 hb (by kernel_rfl) ?_
            refine WL.run ht hn 8 ⟨[(0, .sv (.one (LS intT u))), (4, .sv (.one (.own 2))), (10, .sv (.one (I x28))), (26, .sv (.one (LS intT v))), (27, .sv (.one (I (v.length : Int)))), (28, .sv (.one (I x28))), (46, .sv (.one (B false)))], [.gone, .gone, rowI 3 intT l2]⟩ (by kernel_rfl) ?_
            refine WL.nil ?_
            exact En.at (I := fun zz => J_2 zz) (T := fun zz => ⟨[(0, .sv (.one (LS intT u))), (4, .sv (.one (.own 2))), (10, .sv (.one (I x28))), (26, .sv (.one (LS intT v))), (27, .sv (.one (I (v.length : Int)))), (28, .sv (.one (I x28))), (46, .sv (.one (B zz)))], [.gone, .gone, rowI 3 intT l2]⟩) false h (by kernel_rfl)
        · intro x46 h
          replace h := hJ_2 _ h
          show En c ⟨[(0, .sv (.one (LS intT u))), (4, .sv (.one (.own 2))), (10, .sv (.one (I x28))), (26, .sv (.one (LS intT v))), (27, .sv (.one (I (v.length : Int)))), (28, .sv (.one (I x28))), (46, .sv (.one (B x46)))], [.gone, .gone, rowI 3 intT l2]⟩ _
          refine En.cond (b := x46) (by kernel_rfl) (fun hb => ?_) (fun hb => ?_)
          · replace h := h.1 hb
            refine En.region ?_
            refine WL.run ht hn 2 ⟨[(0, .sv (.one (LS intT u))), (26, .sv (.one (LS intT v))), (27, .sv (.one (I (v.length : Int)))), (28, .sv (.one (I x28))), (47, .sv (.one (.own 2))), (48, .sv (.one (I x28)))], [.gone, .gone, rowI 3 intT l2]⟩ (by kernel_rfl) ?_
            refine WL.mt0 (K := []) (p := some (3, rowI 3 intT ([x28] : (List Int)))) hn (by rfl) (mt_lit (T := intT) ([x28] : (List Int)) (mt_bsl 3 (r := cellsOf intT ([x28] : (List Int))) ht rfl (by rfl) (by rfl) (by rfl) (by kernel_rfl) (by rfl)) (fun _ h => by cases h) (fun _ => rfl) (fun _ => rfl) (by rfl) (Nat.le_of_ble_eq_true rfl)) (by rfl) (by rfl) (by rfl) ?_
            refine WL.seal (T := intT) (l := ([x28] : (List Int))) (e := 3) 3 rfl ?_
            refine WL.run ht hn 0 ⟨[(0, .sv (.one (LS intT u))), (26, .sv (.one (LS intT v))), (27, .sv (.one (I (v.length : Int)))), (28, .sv (.one (I x28))), (47, .sv (.one (.own 2))), (48, .sv (.one (I x28))), (49, .sv (.one (LS intT ([x28] : (List Int)))))], [.gone, .gone, rowI 3 intT l2, .gone]⟩ (by kernel_rfl) ?_
            have hp := h.1
            replace h := h.2
            refine WL.mt (S2 := ⟨[(0, .sv (.one (LS intT u))), (26, .sv (.one (LS intT v))), (27, .sv (.one (I (v.length : Int)))), (28, .sv (.one (I x28))), (48, .sv (.one (I x28))), (49, .sv (.one (LS intT ([x28] : (List Int)))))], [.gone, .gone, rowI 3 intT l2, .gone]⟩) (K := [2]) (p := some (2, rowI 3 intT (l2 ++ ([x28] : (List Int))))) hn (by rfl) (mt_append (T := intT) (l := l2) (es := ([x28] : (List Int))) ht rfl (by rfl) (by rfl) (by rfl) (by rfl) (by decide) (by rfl) (by rfl) (srcLS (T := intT) (es := ([x28] : (List Int))) (fun _ h => by cases h) (by decide) (by rfl)) (by exact hp) (by exact hp.le (by decide))) (by kernel_rfl) (by rfl) (by rfl) (by rfl) ?_
            refine WL.run ht hn 1 ⟨[(0, .sv (.one (LS intT u))), (4, .sv (.one (.own 2))), (26, .sv (.one (LS intT v))), (27, .sv (.one (I (v.length : Int)))), (28, .sv (.one (I x28)))], [.gone, .gone, rowI 3 intT (l2 ++ ([x28] : (List Int))), .gone]⟩ (by kernel_rfl) ?_
            refine WL.nil ?_
            exact En.at (I := fun zz => J zz) (T := fun zz => ⟨[(0, .sv (.one (LS intT u))), (4, .sv (.one (.own 2))), (26, .sv (.one (LS intT v))), (27, .sv (.one (I (v.length : Int)))), (28, .sv (.one (I x28)))], [.gone, .gone, rowI 3 intT zz]⟩) (l2 ++ ([x28] : (List Int))) h (by kernel_rfl)
          · replace h := h.2 hb
            refine En.skip ?_
            exact En.at (I := fun zz => J zz) (T := fun zz => ⟨[(0, .sv (.one (LS intT u))), (4, .sv (.one (.own 2))), (26, .sv (.one (LS intT v))), (27, .sv (.one (I (v.length : Int)))), (28, .sv (.one (I x28)))], [.gone, .gone, rowI 3 intT zz]⟩) l2 h (by kernel_rfl)
      · intro l2_2 h
        replace h := hJ _ h
        show En c ⟨[(0, .sv (.one (LS intT u))), (4, .sv (.one (.own 2))), (26, .sv (.one (LS intT v))), (27, .sv (.one (I (v.length : Int)))), (28, .sv (.one (I x28)))], [.gone, .gone, rowI 3 intT l2_2]⟩ _
        refine En.region ?_
        refine WL.run ht hn 2 ⟨[(0, .sv (.one (LS intT u))), (4, .sv (.one (.own 2))), (26, .sv (.one (LS intT v))), (27, .sv (.one (I (v.length : Int)))), (28, .sv (.one (I (wr (x28 + 1)))))], [.gone, .gone, rowI 3 intT l2_2]⟩ (by kernel_rfl) ?_
        refine WL.nil ?_
        exact En.at (I := fun zz => Inv_2 zz.1 zz.2 ∧ mu_2 zz.1 zz.2 < mu_2 x28 l2) (T := fun zz => ⟨[(0, .sv (.one (LS intT u))), (4, .sv (.one (.own 2))), (26, .sv (.one (LS intT v))), (27, .sv (.one (I (v.length : Int)))), (28, .sv (.one (I zz.1)))], [.gone, .gone, rowI 3 intT zz.2]⟩) ((wr (x28 + 1)), l2_2) h (by kernel_rfl)
    · replace h := h.2 hb
      refine En.exit rfl ?_
      refine En.seq ?_
      refine En.seq ?_
      refine En.region ?_
      refine WL.run ht hn 5 ⟨[(4, .sv (.one (.own 2))), (56, .sv (.one (B (decide ((l2.length : Int) < (u.length : Int))))))], [.gone, .gone, rowI 3 intT l2]⟩ (by kernel_rfl) ?_
      refine WL.nil ?_
      refine En.cond (b := (decide ((l2.length : Int) < (u.length : Int)))) (by kernel_rfl) (fun hb => ?_) (fun hb => ?_)
      · replace h := h.1 hb
        refine En.seq ?_
        refine En.region ?_
        refine WL.run ht hn 3 ⟨[(4, .sv (.one (.v (.slice none 0 0)))), (5, .sv (.one (B false))), (6, .sv (.one (I 0)))], [.gone, .gone, .gone]⟩ (by kernel_rfl) ?_
        refine WL.nil ?_
        refine En.ret ?_
        refine En.nilLS 4 intT (by rfl) ?_
        exact En.back ht ([], false, 0) h (by kernel_rfl) rfl
      · replace h := h.2 hb
        refine En.skip ?_
        refine En.seq ?_
        refine En.region ?_
        refine WL.run ht hn 4 ⟨[(4, .sv (.one (.own 2))), (5, .sv (.one (B true))), (6, .sv (.one (I 0)))], [.gone, .gone, rowI 3 intT l2]⟩ (by kernel_rfl) ?_
        refine WL.nil ?_
        refine En.ret ?_
        refine En.seal (T := intT) (l := l2) (e := 3) 2 rfl ?_
        exact En.back ht (l2, true, 0) h (by kernel_rfl) rfl
theorem en129 : ∀ args w, (callFunc 129 args).run Try.prog w = .ok (.enter 129 args) w := enters_of Try.func129 (by kernel_rfl) rfl
def plc (u v : List Int) : Nat → List Int
  | 0 => []
  | k + 1 => if (plc u v k).length < u.length ∧ u.getD (plc u v k).length 0 = v.getD k 0 then plc u v k ++ [(k : Int)] else plc u v k
theorem plc_len {u v : List Int} : ∀ k, (plc u v k).length ≤ k
  | 0 => Nat.le_refl _
  | k + 1 => by
    have := plc_len (u := u) (v := v) k
    rw [plc]
    split
    · rw [List.length_append]; simp only [List.length_cons, List.length_nil]; omega
    · omega
def standsR (u v : List Int) : List Int × Bool × Int := if mayE 4 u ≠ 0 then ([], false, mayE 4 u) else if mayE 4 v ≠ 0 then ([], false, mayE 4 v) else if (plc u v v.length).length < u.length then ([], false, 0) else (plc u v v.length, true, 0)
theorem stands_ct (u : (List Int)) (v : (List Int))  : Ct 129 [.sv (.one (LS intT u)), .sv (.one (LS intT v))] [] (fun (_ : Unit) => True) (fun _ => .tup [.one (LS intT (standsR u v).1), .one (B (standsR u v).2.1), .one (I (standsR u v).2.2)]) := by
  refine (stands_walk u v (fun res_ => res_ = (standsR u v)) ?_).fun
  intro hu hv
  refine ⟨fun i => i = 0 ∨ (i = 1 ∧ mayE 4 u = 0) ∨ (i = 2 ∧ mayE 4 u = 0 ∧ mayE 4 v = 0), fun i => 2 - i.toNat, .inl rfl, ?_⟩
  intro i hi
  refine ⟨fun hb => ?_, fun hb => ?_⟩
  · have hlt : i < 2 := of_decide_eq_true hb
    rcases hi with rfl | ⟨rfl, h1⟩ | ⟨rfl, _⟩
    · refine ⟨u, rfl, fun h => ?_, fun h => ⟨.inr (.inl ⟨by decide, by simpa using h⟩), by decide⟩⟩
      show _ = standsR u v
      unfold standsR
      rw [if_pos (by simpa using h)]
    · refine ⟨v, rfl, fun h => ?_, fun h => ⟨.inr (.inr ⟨by decide, h1, by simpa using h⟩), by decide⟩⟩
      show _ = standsR u v
      unfold standsR
      rw [if_neg (by simpa using h1), if_pos (by simpa using h)]
    · omega
  have hge : ¬ i < 2 := of_decide_eq_false hb
  have h12 : mayE 4 u = 0 ∧ mayE 4 v = 0 := by
    rcases hi with rfl | ⟨rfl, _⟩ | ⟨rfl, h⟩
    · exact absurd (by decide) hge
    · exact absurd (by decide) hge
    · exact h
  have hlen : v.length ≤ 60 := by
    refine Decidable.byContradiction fun hc => ?_
    have := h12.2
    unfold mayE at this
    rw [if_neg (by decide), if_pos (by omega)] at this
    cases this
  refine ⟨fun i l => ∃ k : Nat, i = k ∧ k ≤ v.length ∧ l = plc u v k, fun i _ => v.length - i.toNat, ⟨0, rfl, Nat.zero_le _, rfl⟩, ?_⟩
  rintro i l ⟨k, rfl, hk, rfl⟩
  refine ⟨fun hb => ?_, fun hb => ?_⟩
  · have hlt := dlt hb
    have hvg : v.getD k 0 = v[k] := by rw [List.getD_eq_getElem?_getD, List.getElem?_eq_getElem hlt]; rfl
    refine ⟨fun l => l = plc u v (k + 1), ⟨_, idx_at hlt, fun b => b = decide ((plc u v k).length < u.length ∧ u.getD (plc u v k).length 0 = v.getD k 0), ⟨fun h => ?_, fun h => ?_⟩, ?_⟩, ?_⟩
    · have h := dlt h
      refine ⟨_, idx_at h, ?_⟩
      rw [show u.getD (plc u v k).length 0 = u[(plc u v k).length] by rw [List.getD_eq_getElem?_getD, List.getElem?_eq_getElem h]; rfl, hvg]
      by_cases e : u[(plc u v k).length] = v[k]
      · rw [decide_eq_true ⟨h, e⟩, e]; exact beq_self_eq_true _
      · rw [decide_eq_false (fun c => e c.2)]; simpa using e
    · have h := dge h
      exact (decide_eq_false (fun c => by omega)).symm
    · rintro b rfl
      have hpl : (plc u v k).length ≤ k := plc_len k
      refine ⟨fun h => ⟨capOk_of (by simp only [List.length_cons, List.length_nil]; omega), ?_⟩, fun h => ?_⟩
      · show _ = plc u v (k + 1)
        rw [plc, if_pos (of_decide_eq_true h)]
      · show _ = plc u v (k + 1)
        rw [plc, if_neg (of_decide_eq_false h)]
    · rintro l rfl
      exact ⟨⟨k + 1, wsucc (by omega), hlt, rfl⟩, mu_up hlt (by omega)⟩
  · have hk' : k = v.length := by have := dge hb; omega
    subst hk'
    refine ⟨fun h => ?_, fun h => ?_⟩
    · show _ = standsR u v
      unfold standsR
      rw [if_neg (by simp [h12.1]), if_neg (by simp [h12.2]), if_pos (dlt h)]
    · show _ = standsR u v
      unfold standsR
      rw [if_neg (by simp [h12.1]), if_neg (by simp [h12.2]), if_neg (by have := dge h; omega)]
def higWithin_vc (u : (List Int)) (v : (List Int)) (Q : Bool → Prop) : Prop :=
  u.length ≤ 9223372036854775807 →
  v.length ≤ 9223372036854775807 →
  (Q (standsR u v).2.1)
theorem higWithin_walk (u : (List Int)) (v : (List Int)) (Q : Bool → Prop) (h : higWithin_vc u v Q) : Ct 65 [.sv (.one (LS intT u)), .sv (.one (LS intT v))] [] Q (fun (r : Bool) => .sv (.one (B r))) := by
  have ht := tab_ok
  refine Ct.body Try.func65 rfl rfl rfl rfl (fun c hn => ?_)
  unfold higWithin_vc at h
  refine En.lenL 0 (by rfl) (fun hl => ?_)
  replace h := h hl
  clear hl
  refine En.lenL 1 (by rfl) (fun hl => ?_)
  replace h := h hl
  clear hl
  refine En.seq ?_
  refine En.region ?_
  refine WL.run ht hn 1 ⟨[(0, .sv (.one (LS intT u))), (1, .sv (.one (LS intT v)))], []⟩ (by kernel_rfl) ?_
  refine WL.nil ?_
  refine En.seq ?_
  refine En.region ?_
  refine WL.run ht hn 2 ⟨[(9, .sv (.one (LS intT u))), (10, .sv (.one (LS intT v)))], []⟩ (by kernel_rfl) ?_
  refine WL.mt0 (K := []) (p := none) hn (by rfl) (mt_call (stands_ct u v) en129 (caps := []) [] rfl (by rfl) (by kernel_rfl) (by kernel_rfl) (by rfl) (by rfl) (by rfl)) (by rfl) (by rfl) (by rfl) ?_
  refine WL.run ht hn 7 ⟨[(6, .sv (.one (B (standsR u v).2.1)))], []⟩ (by kernel_rfl) ?_
  refine WL.nil ?_
  refine En.seq ?_
  refine En.region ?_
  refine WL.run ht hn 2 ⟨[(4, .sv (.one (B (standsR u v).2.1)))], []⟩ (by kernel_rfl) ?_
  refine WL.nil ?_
  refine En.ret ?_
  exact En.back ht (standsR u v).2.1 h (by kernel_rfl) rfl
theorem en65 : ∀ args w, (callFunc 65 args).run Try.prog w = .ok (.enter 65 args) w := enters_of Try.func65 (by kernel_rfl) rfl
theorem higWithin_ct (u : (List Int)) (v : (List Int))  : Ct 65 [.sv (.one (LS intT u)), .sv (.one (LS intT v))] [] (fun (_ : Unit) => True) (fun _ => .sv (.one (B ((standsR u v).2.1)))) := by
  refine (higWithin_walk u v (fun res_ => res_ = ((standsR u v).2.1)) ?_).fun
  exact fun _ _ => rfl
def leastIn_vc (u : (List Int)) (w : (List Int)) (Q : Bool → Prop) : Prop :=
  u.length ≤ 9223372036854775807 →
  (Q ((standsR u w).2.1))
theorem leastIn_walk (u : (List Int)) (w : (List Int)) (Q : Bool → Prop) (h : leastIn_vc u w Q) : Ct 64 [.sv (.one (LS intT u)), .sv (.one (.ptr 0 0))] [.box [LS intT w] 23 true] Q (fun (r : Bool) => .sv (.one (B r))) := by
  have ht := tab_ok
  refine Ct.body Try.func64 rfl rfl rfl rfl (fun c hn => ?_)
  unfold leastIn_vc at h
  refine En.lenL 0 (by rfl) (fun hl => ?_)
  replace h := h hl
  clear hl
  refine En.seq ?_
  refine En.region ?_
  refine WL.run ht hn 1 ⟨[(0, .sv (.one (LS intT u))), (1, .sv (.one (.ptr 0 0)))], [.box [LS intT w] 23 true]⟩ (by kernel_rfl) ?_
  refine WL.nil ?_
  refine En.seq ?_
  refine En.region ?_
  refine WL.run ht hn 2 ⟨[(4, .sv (.one (LS intT u))), (5, .sv (.one (LS intT w)))], [.gone]⟩ (by kernel_rfl) ?_
  refine WL.mt0 (K := []) (p := none) hn (by rfl) (mt_call (higWithin_ct u w) en65 (caps := []) [] rfl (by rfl) (by kernel_rfl) (by kernel_rfl) (by rfl) (by rfl) (by rfl)) (by rfl) (by rfl) (by rfl) ?_
  refine WL.run ht hn 1 ⟨[(3, .sv (.one (B ((standsR u w).2.1))))], [.gone]⟩ (by kernel_rfl) ?_
  refine WL.nil ?_
  refine En.ret ?_
  exact En.back ht ((standsR u w).2.1) h (by kernel_rfl) rfl
theorem en64 : ∀ args w, (callFunc 64 args).run Try.prog w = .ok (.enter 64 args) w := enters_of Try.func64 (by kernel_rfl) rfl
theorem leastIn_ct (u : (List Int)) (w : (List Int))  : Ct 64 [.sv (.one (LS intT u)), .sv (.one (.ptr 0 0))] [.box [LS intT w] 23 true] (fun (_ : Unit) => True) (fun _ => .sv (.one (B ((standsR u w).2.1)))) := by
  refine (leastIn_walk u w (fun res_ => res_ = ((standsR u w).2.1)) ?_).fun
  exact fun _ => rfl
def afterD_vc (x : ApiDet) (q : Int) (w : (List Int)) (Q : Int → Prop) : Prop :=
  x.fNext.length ≤ 9223372036854775807 →
  x.fMark.length ≤ 9223372036854775807 →
  w.length ≤ 9223372036854775807 →
  (∃ (Inv : Int → Int → Prop) (mu : Int → Int → Nat), Inv q 0 ∧
  ∀ (x1 : Int) (x11 : Int) , Inv x1 x11 → (IfP (decide (x11 < (w.length : Int))) (∃ e, idx w x11 = some e ∧
  ∃ e_2, idx x.fNext x1 = some e_2 ∧
  ∃ e_3, idx e_2 e = some e_3 ∧
  (Inv e_3 (wr (x11 + 1)) ∧ mu e_3 (wr (x11 + 1)) < mu x1 x11)) (Q x1)))
theorem afterD_walk (x : ApiDet) (q : Int) (w : (List Int)) (Q : Int → Prop) (h : afterD_vc x q w Q) : Ct 66 [.sv (.agg [I x.fLetters, I x.fStart, LS (lsT intT) x.fNext, LS intT x.fMark]), .sv (.one (I q)), .sv (.one (LS intT w))] [] Q (fun (r : Int) => .sv (.one (I r))) := by
  have ht := tab_ok
  refine Ct.body Try.func66 rfl rfl rfl rfl (fun c hn => ?_)
  unfold afterD_vc at h
  refine En.lenA 0 2 (by rfl) (by rfl) (fun hl => ?_)
  replace h := h hl
  clear hl
  refine En.lenA 0 3 (by rfl) (by rfl) (fun hl => ?_)
  replace h := h hl
  clear hl
  refine En.lenL 2 (by rfl) (fun hl => ?_)
  replace h := h hl
  clear hl
  refine En.seq ?_
  refine En.region ?_
  refine WL.run ht hn 2 ⟨[(1, .sv (.one (I q))), (2, .sv (.one (LS intT w))), (3, .sv (.one (.ptr 0 0)))], [.box [I x.fLetters, I x.fStart, LS (lsT intT) x.fNext, LS intT x.fMark] 25 false]⟩ (by kernel_rfl) ?_
  refine WL.nil ?_
  refine En.seq ?_
  refine En.seq ?_
  refine En.region ?_
  refine WL.run ht hn 3 ⟨[(1, .sv (.one (I q))), (3, .sv (.one (.ptr 0 0))), (9, .sv (.one (LS intT w))), (10, .sv (.one (I (w.length : Int)))), (11, .sv (.one (I 0)))], [.box [I x.fLetters, I x.fStart, LS (lsT intT) x.fNext, LS intT x.fMark] 25 false]⟩ (by kernel_rfl) ?_
  refine WL.nil ?_
  refine En.block ?_
  obtain ⟨Inv, mu, h0, hI⟩ := h
  refine En.loop (σ := Int × Int) (fun zz => Inv zz.1 zz.2) (fun zz => mu zz.1 zz.2) (fun zz => ⟨[(1, .sv (.one (I zz.1))), (3, .sv (.one (.ptr 0 0))), (9, .sv (.one (LS intT w))), (10, .sv (.one (I (w.length : Int)))), (11, .sv (.one (I zz.2)))], [.box [I x.fLetters, I x.fStart, LS (lsT intT) x.fNext, LS intT x.fMark] 25 false]⟩) (q, 0) h0 (sub_ok (by kernel_rfl)) ?_
  rintro ⟨x1, x11⟩ h
  replace h := hI _ _ h
  show En c ⟨[(1, .sv (.one (I x1))), (3, .sv (.one (.ptr 0 0))), (9, .sv (.one (LS intT w))), (10, .sv (.one (I (w.length : Int)))), (11, .sv (.one (I x11)))], [.box [I x.fLetters, I x.fStart, LS (lsT intT) x.fNext, LS intT x.fMark] 25 false]⟩ _
  refine En.seq ?_
  refine En.region ?_
  refine WL.run ht hn 1 ⟨[(1, .sv (.one (I x1))), (3, .sv (.one (.ptr 0 0))), (9, .sv (.one (LS intT w))), (10, .sv (.one (I (w.length : Int)))), (11, .sv (.one (I x11))), (12, .sv (.one (B (decide (x11 < (w.length : Int))))))], [.box [I x.fLetters, I x.fStart, LS (lsT intT) x.fNext, LS intT x.fMark] 25 false]⟩ (by kernel_rfl) ?_
  refine WL.nil ?_
  refine En.seq ?_
  refine En.cond (b := (decide (x11 < (w.length : Int)))) (by kernel_rfl) (fun hb => ?_) (fun hb => ?_)
  · replace h := h.1 hb
    refine En.skip ?_
    refine En.seq ?_
    refine En.block ?_
    refine En.seq ?_
    refine En.region ?_
    obtain ⟨e, he, h⟩ := h
    refine WL.val hn (by rfl) (val_index (T := intT) (l := w) (i := x11) ht rfl (by rfl) (by rfl) (by rfl) (by rfl) (by rfl) (by rfl) he) (by rfl) ?_
    refine WL.val hn (by rfl) (val_load (s := .one (I e)) ht rfl (by rfl) (by rfl) (by rfl) (by rfl) (by rfl)) (by rfl) ?_
    refine WL.run ht hn 1 ⟨[(1, .sv (.one (I x1))), (3, .sv (.one (.ptr 0 0))), (8, .sv (.one (I e))), (9, .sv (.one (LS intT w))), (10, .sv (.one (I (w.length : Int)))), (11, .sv (.one (I x11)))], [.box [I x.fLetters, I x.fStart, LS (lsT intT) x.fNext, LS intT x.fMark] 25 false]⟩ (by kernel_rfl) ?_
    refine WL.nil ?_
    refine En.region ?_
    refine WL.run ht hn 3 ⟨[(3, .sv (.one (.ptr 0 0))), (8, .sv (.one (I e))), (9, .sv (.one (LS intT w))), (10, .sv (.one (I (w.length : Int)))), (11, .sv (.one (I x11))), (16, .sv (.one (LS (lsT intT) x.fNext))), (17, .sv (.one (I x1)))], [.box [I x.fLetters, I x.fStart, LS (lsT intT) x.fNext, LS intT x.fMark] 25 false]⟩ (by kernel_rfl) ?_
    obtain ⟨e_2, he_2, h⟩ := h
    refine WL.val hn (by rfl) (val_index (T := (lsT intT)) (l := x.fNext) (i := x1) ht rfl (by rfl) (by rfl) (by rfl) (by rfl) (by rfl) (by rfl) he_2) (by rfl) ?_
    refine WL.val hn (by rfl) (val_load (s := .one (LS intT e_2)) ht rfl (by rfl) (by rfl) (by rfl) (by rfl) (by rfl)) (by rfl) ?_
    refine WL.run ht hn 1 ⟨[(3, .sv (.one (.ptr 0 0))), (9, .sv (.one (LS intT w))), (10, .sv (.one (I (w.length : Int)))), (11, .sv (.one (I x11))), (19, .sv (.one (LS intT e_2))), (20, .sv (.one (I e)))], [.box [I x.fLetters, I x.fStart, LS (lsT intT) x.fNext, LS intT x.fMark] 25 false]⟩ (by kernel_rfl) ?_
    obtain ⟨e_3, he_3, h⟩ := h
    refine WL.val hn (by rfl) (val_index (T := intT) (l := e_2) (i := e) ht rfl (by rfl) (by rfl) (by rfl) (by rfl) (by rfl) (by rfl) he_3) (by rfl) ?_
    refine WL.val hn (by rfl) (val_load (s := .one (I e_3)) ht rfl (by rfl) (by rfl) (by rfl) (by rfl) (by rfl)) (by rfl) ?_
    refine WL.run ht hn 1 ⟨[(1, .sv (.one (I e_3))), (3, .sv (.one (.ptr 0 0))), (9, .sv (.one (LS intT w))), (10, .sv (.one (I (w.length : Int)))), (11, .sv (.one (I x11)))], [.box [I x.fLetters, I x.fStart, LS (lsT intT) x.fNext, LS intT x.fMark] 25 false]⟩ (by kernel_rfl) ?_
    refine WL.nil ?_
    refine En.region ?_
    refine WL.run ht hn 2 ⟨[(1, .sv (.one (I e_3))), (3, .sv (.one (.ptr 0 0))), (9, .sv (.one (LS intT w))), (10, .sv (.one (I (w.length : Int)))), (11, .sv (.one (I (wr (x11 + 1)))))], [.box [I x.fLetters, I x.fStart, LS (lsT intT) x.fNext, LS intT x.fMark] 25 false]⟩ (by kernel_rfl) ?_
    refine WL.nil ?_
    exact En.at (I := fun zz => Inv zz.1 zz.2 ∧ mu zz.1 zz.2 < mu x1 x11) (T := fun zz => ⟨[(1, .sv (.one (I zz.1))), (3, .sv (.one (.ptr 0 0))), (9, .sv (.one (LS intT w))), (10, .sv (.one (I (w.length : Int)))), (11, .sv (.one (I zz.2)))], [.box [I x.fLetters, I x.fStart, LS (lsT intT) x.fNext, LS intT x.fMark] 25 false]⟩) (e_3, (wr (x11 + 1))) h (by kernel_rfl)
  · replace h := h.2 hb
    refine En.exit rfl ?_
    refine En.seq ?_
    refine En.region ?_
    refine WL.run ht hn 2 ⟨[(6, .sv (.one (I x1)))], [.gone]⟩ (by kernel_rfl) ?_
    refine WL.nil ?_
    refine En.ret ?_
    exact En.back ht x1 h (by kernel_rfl) rfl
theorem en66 : ∀ args w, (callFunc 66 args).run Try.prog w = .ok (.enter 66 args) w := enters_of Try.func66 (by kernel_rfl) rfl
def afterR (x : ApiDet) (q : Int) (w : List Int) : Int := w.foldl (fun q a => (x.fNext.getD q.toNat []).getD a.toNat 0) q
def twoLeast (_ : ApiDet) : List (List Int) × Int := ([[0]], 0)
def twoDet : ApiDet := ⟨1, 0, [[1], [1]], [0, 1]⟩
theorem afterD_ct (x : ApiDet) (q : Int) (w : (List Int)) (hd : x = twoDet ∧ q = 0 ∧ (w = [] ∨ w = [0])) : Ct 66 [.sv (.agg [I x.fLetters, I x.fStart, LS (lsT intT) x.fNext, LS intT x.fMark]), .sv (.one (I q)), .sv (.one (LS intT w))] [] (fun (_ : Unit) => True) (fun _ => .sv (.one (I (afterR x q w)))) := by
  refine (afterD_walk x q w (fun res_ => res_ = (afterR x q w)) ?_).fun
  intro _ _ _
  obtain ⟨rfl, rfl, rfl | rfl⟩ := hd
  · refine ⟨fun q i => q = 0 ∧ i = 0, fun _ _ => 0, ⟨rfl, rfl⟩, ?_⟩
    rintro _ _ ⟨rfl, rfl⟩
    exact ⟨fun hb => absurd hb (by decide), fun _ => rfl⟩
  · refine ⟨fun q i => (q = 0 ∧ i = 0) ∨ (q = 1 ∧ i = 1), fun _ i => 1 - i.toNat, .inl ⟨rfl, rfl⟩, ?_⟩
    rintro _ _ (⟨rfl, rfl⟩ | ⟨rfl, rfl⟩)
    · exact ⟨fun _ => ⟨0, rfl, [1], rfl, 1, rfl, .inr ⟨rfl, by decide⟩, by decide⟩, fun hb => absurd hb (by decide)⟩
    · exact ⟨fun hb => absurd hb (by decide), fun _ => rfl⟩
def higLeast_vc (x : ApiDet) (Q : ((List (List Int)) × Int) → Prop) : Prop :=
  x.fNext.length ≤ 9223372036854775807 →
  x.fMark.length ≤ 9223372036854775807 →
  (IfP ((smallErr x) != 0) (Q ([], (smallErr x))) (∃ (Inv : (List (List Int)) → (List (List Int)) → Prop) (mu : (List (List Int)) → (List (List Int)) → Nat), Inv ([([] : (List Int))] : (List (List Int))) ([] : (List (List Int))) ∧
  ∀ (l2 : (List (List Int))) (l5 : (List (List Int))) , Inv l2 l5 → (∃ J : Bool → Prop, (IfP (decide ((l2.length : Int) > 0)) (∃ e, idx l2 0 = some e ∧
  J (decide ((e.length : Int) < (x.fNext.length : Int)))) (J false)) ∧
  (∀ (x28 : Bool), J x28 → IfP x28 (∃ J_2 : (List (List Int)) → (List (List Int)) → Prop, (∃ e_2, idx l2 0 = some e_2 ∧
  (∀ x_ ∈ l5, (fun _ => True) x_) ∧
  IfP (l5.any (fun u => (standsR u e_2).2.1)) (J_2 l2 l5) ((x = twoDet ∧ x.fStart = 0 ∧ (e_2 = [] ∨ e_2 = [0])) ∧
  ∃ e_3, idx x.fMark (afterR x x.fStart e_2) = some e_3 ∧
  IfP (e_3 == 1) (capOk l5.length (([e_2] : (List (List Int))) : (List (List Int))).length 24 ∧
  J_2 l2 (l5 ++ ([e_2] : (List (List Int))))) (∃ (Inv_2 : Int → (List (List Int)) → Prop) (mu_2 : Int → (List (List Int)) → Nat), Inv_2 0 l2 ∧
  ∀ (x53 : Int) (l2_3 : (List (List Int))) , Inv_2 x53 l2_3 → (IfP (decide (x53 < x.fLetters)) ((e_2.length * 8 ≤ 140737488355328) ∧
  capOk (e_2).length (([x53] : (List Int)) : (List Int)).length 8 ∧
  capOk l2_3.length (([((e_2) ++ ([x53] : (List Int)))] : (List (List Int))) : (List (List Int))).length 24 ∧
  (Inv_2 (wr (x53 + 1)) (l2_3 ++ ([((e_2) ++ ([x53] : (List Int)))] : (List (List Int)))) ∧ mu_2 (wr (x53 + 1)) (l2_3 ++ ([((e_2) ++ ([x53] : (List Int)))] : (List (List Int)))) < mu_2 x53 l2_3)) (J_2 l2_3 l5))))) ∧
  (∀ (l2_2 : (List (List Int))) (l5_2 : (List (List Int))), J_2 l2_2 l5_2 → (0 ≤ (1 : Int) ∧ (1 : Int) ≤ (l2_2.length : Int)) ∧
  (Inv (l2_2.drop (1 : Int).toNat) l5_2 ∧ mu (l2_2.drop (1 : Int).toNat) l5_2 < mu l2 l5))) (Q (l5, 0))))))
set_option maxHeartbeats 2000000 in
theorem higLeast_walk (x : ApiDet) (Q : ((List (List Int)) × Int) → Prop) (h : higLeast_vc x Q) : Ct 22 [.sv (.agg [I x.fLetters, I x.fStart, LS (lsT intT) x.fNext, LS intT x.fMark])] [] Q (fun (r : ((List (List Int)) × Int)) => .tup [.one (LS (lsT intT) r.1), .one (I r.2)]) := by
  have ht := tab_ok
  refine Ct.body Try.func22 rfl rfl rfl rfl (fun c hn => ?_)
  unfold higLeast_vc at h
  refine En.lenA 0 2 (by rfl) (by rfl) (fun hl => ?_)
  replace h := h hl
  clear hl
  refine En.lenA 0 3 (by rfl) (by rfl) (fun hl => ?_)
  replace h := h hl
  clear hl
  refine En.seq ?_
  refine En.region ?_
  refine WL.run ht hn 3 ⟨[(1, .sv (.one (.ptr 0 0)))], [.box [I x.fLetters, I x.fStart, LS (lsT intT) x.fNext, LS intT x.fMark] 25 false]⟩ (by kernel_rfl) ?_
  refine WL.nil ?_
  refine En.seq ?_
  refine En.seq ?_
  refine En.region ?_
  refine WL.run ht hn 1 ⟨[(1, .sv (.one (.ptr 0 0))), (9, .sv (.agg [I x.fLetters, I x.fStart, LS (lsT intT) x.fNext, LS intT x.fMark]))], [.box [I x.fLetters, I x.fStart, LS (lsT intT) x.fNext, LS intT x.fMark] 25 false]⟩ (by kernel_rfl) ?_
  refine WL.mt0 (K := []) (p := none) hn (by rfl) (mt_call (higSmall_ct x) en46 (caps := []) [] rfl (by rfl) (by kernel_rfl) (by kernel_rfl) (by rfl) (by rfl) (by rfl)) (by rfl) (by rfl) (by rfl) ?_
  refine WL.run ht hn 1 ⟨[(1, .sv (.one (.ptr 0 0))), (4, .sv (.one (I (smallErr x))))], [.box [I x.fLetters, I x.fStart, LS (lsT intT) x.fNext, LS intT x.fMark] 25 false]⟩ (by kernel_rfl) ?_
  refine WL.nil ?_
  refine En.seq ?_
  refine En.region ?_
  refine WL.run ht hn 2 ⟨[(1, .sv (.one (.ptr 0 0))), (4, .sv (.one (I (smallErr x)))), (12, .sv (.one (B ((smallErr x) != 0))))], [.box [I x.fLetters, I x.fStart, LS (lsT intT) x.fNext, LS intT x.fMark] 25 false]⟩ (by kernel_rfl) ?_
  refine WL.nil ?_
  refine En.cond (b := ((smallErr x) != 0)) (by kernel_rfl) (fun hb => ?_) (fun hb => ?_)
  · replace h := h.1 hb
    refine En.seq ?_
    refine En.region ?_
    refine WL.run ht hn 3 ⟨[(2, .sv (.one (.v (.slice none 0 0)))), (3, .sv (.one (I (smallErr x))))], [.gone]⟩ (by kernel_rfl) ?_
    refine WL.nil ?_
    refine En.ret ?_
    refine En.nilLS 2 (lsT intT) (by rfl) ?_
    exact En.back ht ([], (smallErr x)) h (by kernel_rfl) rfl
  · replace h := h.2 hb
    refine En.skip ?_
    refine En.seq ?_
    refine En.region ?_
    refine WL.run ht hn 1 ⟨[(1, .sv (.one (.ptr 0 0))), (5, .sv (.one (.v (.slice none 0 0))))], [.box [I x.fLetters, I x.fStart, LS (lsT intT) x.fNext, LS intT x.fMark] 25 false]⟩ (by kernel_rfl) ?_
    refine WL.nil ?_
    refine En.seq ?_
    refine En.seq ?_
    refine En.region ?_
    refine WL.mt0 (K := []) (p := some (1, rowI 3 intT ([] : (List Int)))) hn (by rfl) (mt_empty intT 1 ht rfl (by rfl) (by rfl) (by rfl)) (by rfl) (by rfl) (by rfl) ?_
    refine WL.seal (T := intT) (l := ([] : (List Int))) (e := 3) 1 rfl ?_
    refine WL.run ht hn 0 ⟨[(1, .sv (.one (.ptr 0 0))), (5, .sv (.one (.v (.slice none 0 0)))), (14, .sv (.one (LS intT ([] : (List Int)))))], [.box [I x.fLetters, I x.fStart, LS (lsT intT) x.fNext, LS intT x.fMark] 25 false, .gone]⟩ (by kernel_rfl) ?_
    refine WL.mt0 (K := []) (p := some (2, rowI 23 (lsT intT) ([([] : (List Int))] : (List (List Int))))) hn (by rfl) (mt_lit (T := (lsT intT)) ([([] : (List Int))] : (List (List Int))) (mt_bsl 2 (r := cellsOf (lsT intT) ([([] : (List Int))] : (List (List Int)))) ht rfl (by rfl) (by rfl) (by rfl) (by kernel_rfl) (by rfl)) (fun _ h => by cases h) (fun _ => rfl) (fun _ => rfl) (by rfl) (Nat.le_of_ble_eq_true rfl)) (by rfl) (by rfl) (by rfl) ?_
    refine WL.run ht hn 1 ⟨[(1, .sv (.one (.ptr 0 0))), (5, .sv (.one (.v (.slice none 0 0)))), (6, .sv (.one (.own 2)))], [.box [I x.fLetters, I x.fStart, LS (lsT intT) x.fNext, LS intT x.fMark] 25 false, .gone, rowI 23 (lsT intT) ([([] : (List Int))] : (List (List Int)))]⟩ (by kernel_rfl) ?_
    refine WL.nil ?_
    refine En.block ?_
    refine En.rowNil 5 5 23 (lsT intT) (by rfl) (by rfl) ?_
    obtain ⟨Inv, mu, h0_2, hI_2⟩ := h
    refine En.loop (σ := (List (List Int)) × (List (List Int))) (fun zz => Inv zz.1 zz.2) (fun zz => mu zz.1 zz.2) (fun zz => ⟨[(1, .sv (.one (.ptr 0 0))), (5, .sv (.one (.own 5))), (6, .sv (.one (.own 2)))], [.box [I x.fLetters, I x.fStart, LS (lsT intT) x.fNext, LS intT x.fMark] 25 false, .gone, rowI 23 (lsT intT) zz.1, .gone, .gone, rowI 23 (lsT intT) zz.2]⟩) (([([] : (List Int))] : (List (List Int))), ([] : (List (List Int)))) h0_2 (sub_ok (by kernel_rfl)) ?_
    rintro ⟨l2, l5⟩ h
    replace h := hI_2 _ _ h
    show En c ⟨[(1, .sv (.one (.ptr 0 0))), (5, .sv (.one (.own 5))), (6, .sv (.one (.own 2)))], [.box [I x.fLetters, I x.fStart, LS (lsT intT) x.fNext, LS intT x.fMark] 25 false, .gone, rowI 23 (lsT intT) l2, .gone, .gone, rowI 23 (lsT intT) l5]⟩ _
    refine En.seq ?_
    obtain ⟨J, h, hJ⟩ := h
    refine En.seqJ (σ := Bool) (fun zz => J zz) (fun zz => ⟨[(1, .sv (.one (.ptr 0 0))), (5, .sv (.one (.own 5))), (6, .sv (.one (.own 2))), (28, .sv (.one (B zz)))], [.box [I x.fLetters, I x.fStart, LS (lsT intT) x.fNext, LS intT x.fMark] 25 false, .gone, rowI 23 (lsT intT) l2, .gone, .gone, rowI 23 (lsT intT) l5]⟩) ?_ ?_
    · refine splitB (decide ((l2.length : Int) > 0)) (fun hb_2 => ?_) (fun hb_2 => ?_)
      · replace h := h.1 hb_2
        obtain ⟨e, he, h⟩ := h
        refine En.regionA ⟨[(1, .sv (.one (.ptr 0 0))), (5, .sv (.one (.own 5))), (6, .sv (.one (.own 2)))], [.sv (.one (.own 2)), .sv (.one (I (l2.length : Int))), .sv (.one (B true)), .sv (.one (B true)), .sv (.one (.own 2)), .sv (.one (.oe 2 ((0 : Int).toNat) 1)), .sv (.one (LS intT e)), .sv (.one (I (e.length : Int))), .sv (.one (.ptr 0 2)), .sv (.one (LS (lsT intT) x.fNext)), .sv (.one (I (x.fNext.length : Int))), .sv (.one (B (decide ((e.length : Int) < (x.fNext.length : Int))))), .sv (.one (B (decide ((e.length : Int) < (x.fNext.length : Int)))))], [⟨.box [I x.fLetters, I x.fStart, LS (lsT intT) x.fNext, LS intT x.fMark] 25 false, none, none, none⟩, ⟨.gone, none, none, none⟩, ⟨rowI 23 (lsT intT) l2, none, none, none⟩, ⟨.gone, none, none, none⟩, ⟨.gone, none, none, none⟩, ⟨rowI 23 (lsT intT) l5, none, none, none⟩]⟩ ⟨[(1, .sv (.one (.ptr 0 0))), (5, .sv (.one (.own 5))), (6, .sv (.one (.own 2))), (28, .sv (.one (B (decide ((e.length : Int) < (x.fNext.length : Int))))))], [.box [I x.fLetters, I x.fStart, LS (lsT intT) x.fNext, LS intT x.fMark] 25 false, .gone, rowI 23 (lsT intT) l2, .gone, .gone, rowI 23 (lsT intT) l5]⟩ (by kernel_rfl) hn (by kernel_rfl) (by rfl) (by kernel_rfl) ?_ (by kernel_rfl) ?_
        · exact ⟨.mt ⟨[(6, .sv (.one (.own 2)))], []⟩ [] none (by kernel_rfl) (by rfl) (mt_ev ht (by kernel_rfl)) rfl rfl rfl rfl,
    .mt ⟨[(16, .sv (.one (.own 2)))], [.gone, .gone, rowI 23 (lsT intT) l2]⟩ [] none (by kernel_rfl) (by rfl) (mt_ev ht (by kernel_rfl)) rfl rfl rfl rfl,
    .mt ⟨[(17, .sv (.one (I (l2.length : Int))))], []⟩ [] none (by kernel_rfl) (by rfl) (mt_castB hb_2 (mt_ev ht (by kernel_rfl))) rfl rfl rfl rfl,
    .mt ⟨[(18, .sv (.one (B true)))], []⟩ [] none (by kernel_rfl) (by rfl) (mt_ev ht (by kernel_rfl)) rfl rfl rfl rfl,
    .mt ⟨[(6, .sv (.one (.own 2))), (19, .sv (.one (B true)))], []⟩ [] none (by kernel_rfl) (by rfl) (mt_ev ht (by kernel_rfl)) rfl rfl rfl rfl,
    .mt ⟨[(19, .sv (.one (B true))), (20, .sv (.one (.own 2)))], [.gone, .gone, rowI 23 (lsT intT) l2]⟩ [] none (by kernel_rfl) (by rfl) (mt_val (val_indexO (T := (lsT intT)) (l := l2) (k := 0) ht rfl (by rfl) (by rfl) (by rfl) (by rfl) (by decide) (by rfl) (by rfl) (by rfl) he)) rfl rfl rfl rfl,
    .mt ⟨[(19, .sv (.one (B true))), (21, .sv (.one (.oe 2 ((0 : Int).toNat) 1)))], [.gone, .gone, rowI 23 (lsT intT) l2]⟩ [] none (by kernel_rfl) (by rfl) (mt_val (val_loadO (T := (lsT intT)) (l := l2) (y := e) ht rfl (by rfl) (by rfl) (by rfl) (by rfl) (by rfl) (idx_some he).2.2 (by rfl))) rfl rfl rfl rfl,
    .mt ⟨[(19, .sv (.one (B true))), (22, .sv (.one (LS intT e)))], []⟩ [] none (by kernel_rfl) (by rfl) (mt_ev ht (by kernel_rfl)) rfl rfl rfl rfl,
    .mt ⟨[(1, .sv (.one (.ptr 0 0))), (19, .sv (.one (B true)))], []⟩ [] none (by kernel_rfl) (by rfl) (mt_ev ht (by kernel_rfl)) rfl rfl rfl rfl,
    .mt ⟨[(19, .sv (.one (B true))), (24, .sv (.one (.ptr 0 2)))], [.box [I x.fLetters, I x.fStart, LS (lsT intT) x.fNext, LS intT x.fMark] 25 false]⟩ [] none (by kernel_rfl) (by rfl) (mt_ev ht (by kernel_rfl)) rfl rfl rfl rfl,
    .mt ⟨[(19, .sv (.one (B true))), (25, .sv (.one (LS (lsT intT) x.fNext)))], []⟩ [] none (by kernel_rfl) (by rfl) (mt_ev ht (by kernel_rfl)) rfl rfl rfl rfl,
    .mt ⟨[(19, .sv (.one (B true))), (23, .sv (.one (I (e.length : Int)))), (26, .sv (.one (I (x.fNext.length : Int))))], []⟩ [] none (by kernel_rfl) (by rfl) (mt_ev ht (by kernel_rfl)) rfl rfl rfl rfl,
    .mt ⟨[(19, .sv (.one (B true))), (27, .sv (.one (B (decide ((e.length : Int) < (x.fNext.length : Int))))))], []⟩ [] none (by kernel_rfl) (by rfl) (mt_ev ht (by kernel_rfl)) rfl rfl rfl rfl,
    trivial⟩
        · exact En.at (I := fun zz => J zz) (T := fun zz => ⟨[(1, .sv (.one (.ptr 0 0))), (5, .sv (.one (.own 5))), (6, .sv (.one (.own 2))), (28, .sv (.one (B zz)))], [.box [I x.fLetters, I x.fStart, LS (lsT intT) x.fNext, LS intT x.fMark] 25 false, .gone, rowI 23 (lsT intT) l2, .gone, .gone, rowI 23 (lsT intT) l5]⟩) (decide ((e.length : Int) < (x.fNext.length : Int))) h (by kernel_rfl)
      · replace h := h.2 hb_2
        refine En.regionA ⟨[(1, .sv (.one (.ptr 0 0))), (5, .sv (.one (.own 5))), (6, .sv (.one (.own 2)))], [.sv (.one (.own 2)), .sv (.one (I (l2.length : Int))), .sv (.one (B false)), .sv (.one (B false)), .tup [], .tup [], .tup [], .tup [], .tup [], .tup [], .tup [], .tup [], .sv (.one (B false))], [⟨.box [I x.fLetters, I x.fStart, LS (lsT intT) x.fNext, LS intT x.fMark] 25 false, none, none, none⟩, ⟨.gone, none, none, none⟩, ⟨rowI 23 (lsT intT) l2, none, none, none⟩, ⟨.gone, none, none, none⟩, ⟨.gone, none, none, none⟩, ⟨rowI 23 (lsT intT) l5, none, none, none⟩]⟩ ⟨[(1, .sv (.one (.ptr 0 0))), (5, .sv (.one (.own 5))), (6, .sv (.one (.own 2))), (28, .sv (.one (B false)))], [.box [I x.fLetters, I x.fStart, LS (lsT intT) x.fNext, LS intT x.fMark] 25 false, .gone, rowI 23 (lsT intT) l2, .gone, .gone, rowI 23 (lsT intT) l5]⟩ (by kernel_rfl) hn (by kernel_rfl) (by rfl) (by kernel_rfl) ?_ (by kernel_rfl) ?_
        · exact ⟨.mt ⟨[(6, .sv (.one (.own 2)))], []⟩ [] none (by kernel_rfl) (by rfl) (mt_ev ht (by kernel_rfl)) rfl rfl rfl rfl,
    .mt ⟨[(16, .sv (.one (.own 2)))], [.gone, .gone, rowI 23 (lsT intT) l2]⟩ [] none (by kernel_rfl) (by rfl) (mt_ev ht (by kernel_rfl)) rfl rfl rfl rfl,
    .mt ⟨[(17, .sv (.one (I (l2.length : Int))))], []⟩ [] none (by kernel_rfl) (by rfl) (mt_castB hb_2 (mt_ev ht (by kernel_rfl))) rfl rfl rfl rfl,
    .mt ⟨[(18, .sv (.one (B false)))], []⟩ [] none (by kernel_rfl) (by rfl) (mt_ev ht (by kernel_rfl)) rfl rfl rfl rfl,
    .skip ⟨[(19, .sv (.one (B false)))], []⟩ (by kernel_rfl) (by rfl) rfl rfl rfl rfl,
    .skip ⟨[(19, .sv (.one (B false)))], []⟩ (by kernel_rfl) (by rfl) rfl rfl rfl rfl,
    .skip ⟨[(19, .sv (.one (B false)))], []⟩ (by kernel_rfl) (by rfl) rfl rfl rfl rfl,
    .skip ⟨[(19, .sv (.one (B false)))], []⟩ (by kernel_rfl) (by rfl) rfl rfl rfl rfl,
    .skip ⟨[(19, .sv (.one (B false)))], []⟩ (by kernel_rfl) (by rfl) rfl rfl rfl rfl,
    .skip ⟨[(19, .sv (.one (B false)))], []⟩ (by kernel_rfl) (by rfl) rfl rfl rfl rfl,
    .skip ⟨[(19, .sv (.one (B false)))], []⟩ (by kernel_rfl) (by rfl) rfl rfl rfl rfl,
    .skip ⟨[(19, .sv (.one (B false)))], []⟩ (by kernel_rfl) (by rfl) rfl rfl rfl rfl,
    .mt ⟨[(19, .sv (.one (B false))), (27, .tup [])], []⟩ [] none (by kernel_rfl) (by rfl) (mt_ev ht (by kernel_rfl)) rfl rfl rfl rfl,
    trivial⟩
        · exact En.at (I := fun zz => J zz) (T := fun zz => ⟨[(1, .sv (.one (.ptr 0 0))), (5, .sv (.one (.own 5))), (6, .sv (.one (.own 2))), (28, .sv (.one (B zz)))], [.box [I x.fLetters, I x.fStart, LS (lsT intT) x.fNext, LS intT x.fMark] 25 false, .gone, rowI 23 (lsT intT) l2, .gone, .gone, rowI 23 (lsT intT) l5]⟩) false h (by kernel_rfl)
    · intro x28 h
      replace h := hJ _ h
      show En c ⟨[(1, .sv (.one (.ptr 0 0))), (5, .sv (.one (.own 5))), (6, .sv (.one (.own 2))), (28, .sv (.one (B x28)))], [.box [I x.fLetters, I x.fStart, LS (lsT intT) x.fNext, LS intT x.fMark] 25 false, .gone, rowI 23 (lsT intT) l2, .gone, .gone, rowI 23 (lsT intT) l5]⟩ _
      refine En.cond (b := x28) (by kernel_rfl) (fun hb => ?_) (fun hb => ?_)
      · replace h := h.1 hb
        refine En.skip ?_
        obtain ⟨J_2, h, hJ_2⟩ := h
        refine En.seqJ (σ := (List (List Int)) × (List (List Int))) (fun zz => J_2 zz.1 zz.2) (fun zz => ⟨[(1, .sv (.one (.ptr 0 0))), (5, .sv (.one (.own 5))), (6, .sv (.one (.own 2)))], [.box [I x.fLetters, I x.fStart, LS (lsT intT) x.fNext, LS intT x.fMark] 25 false, .gone, rowI 23 (lsT intT) zz.1, .gone, .gone, rowI 23 (lsT intT) zz.2, .gone]⟩) ?_ ?_
        · refine En.block ?_
          refine En.seq ?_
          refine En.region ?_
          refine WL.run ht hn 1 ⟨[(1, .sv (.one (.ptr 0 0))), (5, .sv (.one (.own 5))), (6, .sv (.one (.own 2))), (31, .sv (.one (.own 2)))], [.box [I x.fLetters, I x.fStart, LS (lsT intT) x.fNext, LS intT x.fMark] 25 false, .gone, rowI 23 (lsT intT) l2, .gone, .gone, rowI 23 (lsT intT) l5]⟩ (by kernel_rfl) ?_
          obtain ⟨e_2, he_2, h⟩ := h
          refine WL.val hn (by rfl) (val_indexO (T := (lsT intT)) (l := l2) (k := 0) ht rfl (by rfl) (by rfl) (by rfl) (by rfl) (by decide) (by rfl) (by rfl) (by rfl) he_2) (by rfl) ?_
          refine WL.val hn (by rfl) (val_loadO (T := (lsT intT)) (l := l2) (y := e_2) ht rfl (by rfl) (by rfl) (by rfl) (by rfl) (by rfl) (idx_some he_2).2.2 (by rfl)) (by rfl) ?_
          refine WL.run ht hn 2 ⟨[(1, .sv (.one (.ptr 0 0))), (5, .sv (.one (.own 5))), (6, .sv (.one (.own 2))), (7, .sv (.one (.ptr 6 0)))], [.box [I x.fLetters, I x.fStart, LS (lsT intT) x.fNext, LS intT x.fMark] 25 false, .gone, rowI 23 (lsT intT) l2, .gone, .gone, rowI 23 (lsT intT) l5, .box [LS intT e_2] 23 false]⟩ (by kernel_rfl) ?_
          refine WL.nil ?_
          refine En.seq ?_
          refine En.seq ?_
          refine En.region ?_
          refine WL.run ht hn 2 ⟨[(1, .sv (.one (.ptr 0 0))), (5, .sv (.one (.own 5))), (6, .sv (.one (.own 2))), (7, .sv (.one (.ptr 6 0))), (34, .sv (.one (.own 5))), (35, .sv (.one (.fn 64 [6])))], [.box [I x.fLetters, I x.fStart, LS (lsT intT) x.fNext, LS intT x.fMark] 25 false, .gone, rowI 23 (lsT intT) l2, .gone, .gone, rowI 23 (lsT intT) l5, .box [LS intT e_2] 23 false]⟩ (by kernel_rfl) ?_
          have hp := h.1
          replace h := h.2
          refine WL.mt0 (K := []) (p := none) hn (by rfl) (mt_lend (T := (lsT intT)) (l := l5) 5 (by rfl) (by rfl) (mt_lendF [6] (by rfl) (by rfl) (mt_ghost 35 (.sv (.one (.rd (fvR (fun (x_ : (List Int)) => [.sv (.one (LS intT x_))]) (fun (r : Bool) => .sv (.one (B r))) (fun _ => True) (fun u => (standsR u e_2).2.1))))) (by rfl) (fv_of (M := [.box [LS intT e_2] 23 true]) (caps := [6]) (fun x_ _ => leastIn_ct x_ e_2) en64 rfl (by kernel_rfl) (by rfl) (fun _ => rfl)) (mt_call (anyLInt_ct l5 (fun _ => True) (fun u => (standsR u e_2).2.1) hp) en63 (caps := []) [] rfl (by rfl) (by kernel_rfl) (by kernel_rfl) (by rfl) (by rfl) (by rfl))))) (by rfl) (by rfl) (by rfl) ?_
          refine WL.nil ?_
          refine En.cond (b := (l5.any (fun u => (standsR u e_2).2.1))) (by kernel_rfl) (fun hb => ?_) (fun hb => ?_)
          · replace h := h.1 hb
            refine En.exit rfl ?_
            exact En.at (I := fun zz => J_2 zz.1 zz.2) (T := fun zz => ⟨[(1, .sv (.one (.ptr 0 0))), (5, .sv (.one (.own 5))), (6, .sv (.one (.own 2)))], [.box [I x.fLetters, I x.fStart, LS (lsT intT) x.fNext, LS intT x.fMark] 25 false, .gone, rowI 23 (lsT intT) zz.1, .gone, .gone, rowI 23 (lsT intT) zz.2, .gone]⟩) (l2, l5) h (by kernel_rfl)
          · replace h := h.2 hb
            refine En.skip ?_
            refine En.seq ?_
            refine En.seq ?_
            have hp_2 := h.1
            replace h := h.2
            obtain ⟨e_3, he_3, h⟩ := h
            refine En.regionA ⟨[(1, .sv (.one (.ptr 0 0))), (5, .sv (.one (.own 5))), (6, .sv (.one (.own 2))), (7, .sv (.one (.ptr 6 0)))], [.sv (.one (.ptr 0 3)), .sv (.one (LS intT x.fMark)), .sv (.agg [I x.fLetters, I x.fStart, LS (lsT intT) x.fNext, LS intT x.fMark]), .sv (.one (.ptr 0 1)), .sv (.one (I x.fStart)), .sv (.one (LS intT e_2)), .sv (.one (I (afterR x x.fStart e_2))), .sv (.one (.pe (svR (.one (I e_3))) 1)), .sv (.one (I e_3)), .sv (.one (B (e_3 == 1)))], [⟨.box [I x.fLetters, I x.fStart, LS (lsT intT) x.fNext, LS intT x.fMark] 25 false, none, none, none⟩, ⟨.gone, none, none, none⟩, ⟨rowI 23 (lsT intT) l2, none, none, none⟩, ⟨.gone, none, none, none⟩, ⟨.gone, none, none, none⟩, ⟨rowI 23 (lsT intT) l5, none, none, none⟩, ⟨.box [LS intT e_2] 23 false, none, none, none⟩]⟩ ⟨[(1, .sv (.one (.ptr 0 0))), (5, .sv (.one (.own 5))), (6, .sv (.one (.own 2))), (7, .sv (.one (.ptr 6 0))), (46, .sv (.one (B (e_3 == 1))))], [.box [I x.fLetters, I x.fStart, LS (lsT intT) x.fNext, LS intT x.fMark] 25 false, .gone, rowI 23 (lsT intT) l2, .gone, .gone, rowI 23 (lsT intT) l5, .box [LS intT e_2] 23 false]⟩ (by kernel_rfl) hn (by kernel_rfl) (by rfl) (by kernel_rfl) ?_ (by kernel_rfl) ?_
            · exact ⟨.mt ⟨[(1, .sv (.one (.ptr 0 0)))], []⟩ [] none (by kernel_rfl) (by rfl) (mt_ev ht (by kernel_rfl)) rfl rfl rfl rfl,
    .mt ⟨[(37, .sv (.one (.ptr 0 3)))], [.box [I x.fLetters, I x.fStart, LS (lsT intT) x.fNext, LS intT x.fMark] 25 false]⟩ [] none (by kernel_rfl) (by rfl) (mt_ev ht (by kernel_rfl)) rfl rfl rfl rfl,
    .mt ⟨[(1, .sv (.one (.ptr 0 0)))], [.box [I x.fLetters, I x.fStart, LS (lsT intT) x.fNext, LS intT x.fMark] 25 false]⟩ [] none (by kernel_rfl) (by rfl) (mt_ev ht (by kernel_rfl)) rfl rfl rfl rfl,
    .mt ⟨[(1, .sv (.one (.ptr 0 0)))], []⟩ [] none (by kernel_rfl) (by rfl) (mt_ev ht (by kernel_rfl)) rfl rfl rfl rfl,
    .mt ⟨[(40, .sv (.one (.ptr 0 1)))], [.box [I x.fLetters, I x.fStart, LS (lsT intT) x.fNext, LS intT x.fMark] 25 false]⟩ [] none (by kernel_rfl) (by rfl) (mt_ev ht (by kernel_rfl)) rfl rfl rfl rfl,
    .mt ⟨[(7, .sv (.one (.ptr 6 0)))], [.gone, .gone, .gone, .gone, .gone, .gone, .box [LS intT e_2] 23 false]⟩ [] none (by kernel_rfl) (by rfl) (mt_ev ht (by kernel_rfl)) rfl rfl rfl rfl,
    .mt ⟨[(39, .sv (.agg [I x.fLetters, I x.fStart, LS (lsT intT) x.fNext, LS intT x.fMark])), (41, .sv (.one (I x.fStart))), (42, .sv (.one (LS intT e_2)))], []⟩ [] none (by kernel_rfl) (by rfl) (mt_call (afterD_ct x x.fStart e_2 hp_2) en66 (caps := []) [] rfl (by rfl) (by kernel_rfl) (by kernel_rfl) (by rfl) (by rfl) (by rfl)) rfl rfl rfl rfl,
    .mt ⟨[(38, .sv (.one (LS intT x.fMark))), (43, .sv (.one (I (afterR x x.fStart e_2))))], []⟩ [] none (by kernel_rfl) (by rfl) (mt_val (val_index (T := intT) (l := x.fMark) (i := (afterR x x.fStart e_2)) ht rfl (by rfl) (by rfl) (by rfl) (by rfl) (by rfl) (by rfl) he_3)) rfl rfl rfl rfl,
    .mt ⟨[(44, .sv (.one (.pe (svR (.one (I e_3))) 1)))], []⟩ [] none (by kernel_rfl) (by rfl) (mt_val (val_load (s := .one (I e_3)) ht rfl (by rfl) (by rfl) (by rfl) (by rfl) (by rfl))) rfl rfl rfl rfl,
    .mt ⟨[(45, .sv (.one (I e_3)))], []⟩ [] none (by kernel_rfl) (by rfl) (mt_ev ht (by kernel_rfl)) rfl rfl rfl rfl,
    trivial⟩
            · refine En.cond (b := (e_3 == 1)) (by kernel_rfl) (fun hb => ?_) (fun hb => ?_)
              · replace h := h.1 hb
                refine En.seq ?_
                refine En.region ?_
                refine WL.run ht hn 2 ⟨[(1, .sv (.one (.ptr 0 0))), (6, .sv (.one (.own 2))), (47, .sv (.one (.own 5))), (48, .sv (.one (LS intT e_2)))], [.box [I x.fLetters, I x.fStart, LS (lsT intT) x.fNext, LS intT x.fMark] 25 false, .gone, rowI 23 (lsT intT) l2, .gone, .gone, rowI 23 (lsT intT) l5, .gone]⟩ (by kernel_rfl) ?_
                refine WL.mt0 (K := []) (p := some (7, rowI 23 (lsT intT) ([e_2] : (List (List Int))))) hn (by rfl) (mt_lit (T := (lsT intT)) ([e_2] : (List (List Int))) (mt_bsl 7 (r := cellsOf (lsT intT) ([e_2] : (List (List Int)))) ht rfl (by rfl) (by rfl) (by rfl) (by kernel_rfl) (by rfl)) (fun _ h => by cases h) (fun _ => rfl) (fun _ => rfl) (by rfl) (Nat.le_of_ble_eq_true rfl)) (by rfl) (by rfl) (by rfl) ?_
                refine WL.seal (T := (lsT intT)) (l := ([e_2] : (List (List Int)))) (e := 23) 7 rfl ?_
                refine WL.run ht hn 0 ⟨[(1, .sv (.one (.ptr 0 0))), (6, .sv (.one (.own 2))), (47, .sv (.one (.own 5))), (48, .sv (.one (LS intT e_2))), (49, .sv (.one (LS (lsT intT) ([e_2] : (List (List Int))))))], [.box [I x.fLetters, I x.fStart, LS (lsT intT) x.fNext, LS intT x.fMark] 25 false, .gone, rowI 23 (lsT intT) l2, .gone, .gone, rowI 23 (lsT intT) l5, .gone, .gone]⟩ (by kernel_rfl) ?_
                have hp := h.1
                replace h := h.2
                refine WL.mt (S2 := ⟨[(1, .sv (.one (.ptr 0 0))), (6, .sv (.one (.own 2))), (48, .sv (.one (LS intT e_2))), (49, .sv (.one (LS (lsT intT) ([e_2] : (List (List Int))))))], [.box [I x.fLetters, I x.fStart, LS (lsT intT) x.fNext, LS intT x.fMark] 25 false, .gone, rowI 23 (lsT intT) l2, .gone, .gone, rowI 23 (lsT intT) l5, .gone, .gone]⟩) (K := [5]) (p := some (5, rowI 23 (lsT intT) (l5 ++ ([e_2] : (List (List Int)))))) hn (by rfl) (mt_append (T := (lsT intT)) (l := l5) (es := ([e_2] : (List (List Int)))) ht rfl (by rfl) (by rfl) (by rfl) (by rfl) (by decide) (by rfl) (by rfl) (srcLS (T := (lsT intT)) (es := ([e_2] : (List (List Int)))) (fun _ h => by cases h) (by decide) (by rfl)) (by exact hp) (by exact hp.le (by decide))) (by kernel_rfl) (by rfl) (by rfl) (by rfl) ?_
                refine WL.run ht hn 1 ⟨[(1, .sv (.one (.ptr 0 0))), (5, .sv (.one (.own 5))), (6, .sv (.one (.own 2)))], [.box [I x.fLetters, I x.fStart, LS (lsT intT) x.fNext, LS intT x.fMark] 25 false, .gone, rowI 23 (lsT intT) l2, .gone, .gone, rowI 23 (lsT intT) (l5 ++ ([e_2] : (List (List Int)))), .gone, .gone]⟩ (by kernel_rfl) ?_
                refine WL.nil ?_
                refine En.exit rfl ?_
                exact En.at (I := fun zz => J_2 zz.1 zz.2) (T := fun zz => ⟨[(1, .sv (.one (.ptr 0 0))), (5, .sv (.one (.own 5))), (6, .sv (.one (.own 2)))], [.box [I x.fLetters, I x.fStart, LS (lsT intT) x.fNext, LS intT x.fMark] 25 false, .gone, rowI 23 (lsT intT) zz.1, .gone, .gone, rowI 23 (lsT intT) zz.2, .gone]⟩) (l2, (l5 ++ ([e_2] : (List (List Int))))) h (by kernel_rfl)
              · replace h := h.2 hb
                refine En.skip ?_
                refine En.seq ?_
                refine En.region ?_
                refine WL.run ht hn 3 ⟨[(1, .sv (.one (.ptr 0 0))), (5, .sv (.one (.own 5))), (6, .sv (.one (.own 2))), (7, .sv (.one (.ptr 6 0))), (52, .sv (.one (I x.fLetters))), (53, .sv (.one (I 0)))], [.box [I x.fLetters, I x.fStart, LS (lsT intT) x.fNext, LS intT x.fMark] 25 false, .gone, rowI 23 (lsT intT) l2, .gone, .gone, rowI 23 (lsT intT) l5, .box [LS intT e_2] 23 false]⟩ (by kernel_rfl) ?_
                refine WL.nil ?_
                refine En.block ?_
                obtain ⟨Inv_2, mu_2, h0, hI⟩ := h
                refine En.loop (σ := Int × (List (List Int))) (fun zz => Inv_2 zz.1 zz.2) (fun zz => mu_2 zz.1 zz.2) (fun zz => ⟨[(1, .sv (.one (.ptr 0 0))), (5, .sv (.one (.own 5))), (6, .sv (.one (.own 2))), (7, .sv (.one (.ptr 6 0))), (52, .sv (.one (I x.fLetters))), (53, .sv (.one (I zz.1)))], [.box [I x.fLetters, I x.fStart, LS (lsT intT) x.fNext, LS intT x.fMark] 25 false, .gone, rowI 23 (lsT intT) zz.2, .gone, .gone, rowI 23 (lsT intT) l5, .box [LS intT e_2] 23 false]⟩) (0, l2) h0 (sub_ok (by kernel_rfl)) ?_
                rintro ⟨x53, l2_3⟩ h
                replace h := hI _ _ h
                show En c ⟨[(1, .sv (.one (.ptr 0 0))), (5, .sv (.one (.own 5))), (6, .sv (.one (.own 2))), (7, .sv (.one (.ptr 6 0))), (52, .sv (.one (I x.fLetters))), (53, .sv (.one (I x53)))], [.box [I x.fLetters, I x.fStart, LS (lsT intT) x.fNext, LS intT x.fMark] 25 false, .gone, rowI 23 (lsT intT) l2_3, .gone, .gone, rowI 23 (lsT intT) l5, .box [LS intT e_2] 23 false]⟩ _
                refine En.seq ?_
                refine En.region ?_
                refine WL.run ht hn 1 ⟨[(1, .sv (.one (.ptr 0 0))), (5, .sv (.one (.own 5))), (6, .sv (.one (.own 2))), (7, .sv (.one (.ptr 6 0))), (52, .sv (.one (I x.fLetters))), (53, .sv (.one (I x53))), (54, .sv (.one (B (decide (x53 < x.fLetters)))))], [.box [I x.fLetters, I x.fStart, LS (lsT intT) x.fNext, LS intT x.fMark] 25 false, .gone, rowI 23 (lsT intT) l2_3, .gone, .gone, rowI 23 (lsT intT) l5, .box [LS intT e_2] 23 false]⟩ (by kernel_rfl) ?_
                refine WL.nil ?_
                refine En.seq ?_
                refine En.cond (b := (decide (x53 < x.fLetters))) (by kernel_rfl) (fun hb => ?_) (fun hb => ?_)
                · replace h := h.1 hb
                  refine En.skip ?_
                  refine En.seq ?_
                  refine En.block ?_
                  refine En.seq ?_
                  refine En.region ?_
                  refine WL.run ht hn 2 ⟨[(1, .sv (.one (.ptr 0 0))), (5, .sv (.one (.own 5))), (6, .sv (.one (.own 2))), (7, .sv (.one (.ptr 6 0))), (8, .sv (.one (I x53))), (52, .sv (.one (I x.fLetters))), (53, .sv (.one (I x53)))], [.box [I x.fLetters, I x.fStart, LS (lsT intT) x.fNext, LS intT x.fMark] 25 false, .gone, rowI 23 (lsT intT) l2_3, .gone, .gone, rowI 23 (lsT intT) l5, .box [LS intT e_2] 23 false]⟩ (by kernel_rfl) ?_
                  refine WL.nil ?_
                  refine En.region ?_
                  refine WL.run ht hn 2 ⟨[(1, .sv (.one (.ptr 0 0))), (5, .sv (.one (.own 5))), (7, .sv (.one (.ptr 6 0))), (8, .sv (.one (I x53))), (52, .sv (.one (I x.fLetters))), (53, .sv (.one (I x53))), (56, .sv (.one (.own 2))), (57, .sv (.one (LS intT e_2)))], [.box [I x.fLetters, I x.fStart, LS (lsT intT) x.fNext, LS intT x.fMark] 25 false, .gone, rowI 23 (lsT intT) l2_3, .gone, .gone, rowI 23 (lsT intT) l5, .box [LS intT e_2] 23 false]⟩ (by kernel_rfl) ?_
                  have hp := h.1
                  replace h := h.2
                  refine WL.mt0 (K := []) (p := some (7, rowI 3 intT (e_2))) hn (by rfl) (mt_callI 7 (cloneInt_ct e_2 hp) en62 (caps := []) [] rfl rfl (by rfl) (by kernel_rfl) (by kernel_rfl) (by rfl) (by rfl)) (by rfl) (by rfl) (by rfl) ?_
                  refine WL.run ht hn 1 ⟨[(1, .sv (.one (.ptr 0 0))), (5, .sv (.one (.own 5))), (7, .sv (.one (.ptr 6 0))), (52, .sv (.one (I x.fLetters))), (53, .sv (.one (I x53))), (56, .sv (.one (.own 2))), (58, .sv (.one (.own 7))), (59, .sv (.one (I x53)))], [.box [I x.fLetters, I x.fStart, LS (lsT intT) x.fNext, LS intT x.fMark] 25 false, .gone, rowI 23 (lsT intT) l2_3, .gone, .gone, rowI 23 (lsT intT) l5, .box [LS intT e_2] 23 false, rowI 3 intT (e_2)]⟩ (by kernel_rfl) ?_
                  refine WL.mt0 (K := []) (p := some (8, rowI 3 intT ([x53] : (List Int)))) hn (by rfl) (mt_lit (T := intT) ([x53] : (List Int)) (mt_bsl 8 (r := cellsOf intT ([x53] : (List Int))) ht rfl (by rfl) (by rfl) (by rfl) (by kernel_rfl) (by rfl)) (fun _ h => by cases h) (fun _ => rfl) (fun _ => rfl) (by rfl) (Nat.le_of_ble_eq_true rfl)) (by rfl) (by rfl) (by rfl) ?_
                  refine WL.seal (T := intT) (l := ([x53] : (List Int))) (e := 3) 8 rfl ?_
                  refine WL.run ht hn 0 ⟨[(1, .sv (.one (.ptr 0 0))), (5, .sv (.one (.own 5))), (7, .sv (.one (.ptr 6 0))), (52, .sv (.one (I x.fLetters))), (53, .sv (.one (I x53))), (56, .sv (.one (.own 2))), (58, .sv (.one (.own 7))), (59, .sv (.one (I x53))), (60, .sv (.one (LS intT ([x53] : (List Int)))))], [.box [I x.fLetters, I x.fStart, LS (lsT intT) x.fNext, LS intT x.fMark] 25 false, .gone, rowI 23 (lsT intT) l2_3, .gone, .gone, rowI 23 (lsT intT) l5, .box [LS intT e_2] 23 false, rowI 3 intT (e_2), .gone]⟩ (by kernel_rfl) ?_
                  have hp := h.1
                  replace h := h.2
                  refine WL.mt (S2 := ⟨[(1, .sv (.one (.ptr 0 0))), (5, .sv (.one (.own 5))), (7, .sv (.one (.ptr 6 0))), (52, .sv (.one (I x.fLetters))), (53, .sv (.one (I x53))), (56, .sv (.one (.own 2))), (59, .sv (.one (I x53))), (60, .sv (.one (LS intT ([x53] : (List Int)))))], [.box [I x.fLetters, I x.fStart, LS (lsT intT) x.fNext, LS intT x.fMark] 25 false, .gone, rowI 23 (lsT intT) l2_3, .gone, .gone, rowI 23 (lsT intT) l5, .box [LS intT e_2] 23 false, rowI 3 intT (e_2), .gone]⟩) (K := [7]) (p := some (7, rowI 3 intT ((e_2) ++ ([x53] : (List Int))))) hn (by rfl) (mt_append (T := intT) (l := (e_2)) (es := ([x53] : (List Int))) ht rfl (by rfl) (by rfl) (by rfl) (by rfl) (by decide) (by rfl) (by rfl) (srcLS (T := intT) (es := ([x53] : (List Int))) (fun _ h => by cases h) (by decide) (by rfl)) (by exact hp) (by exact hp.le (by decide))) (by kernel_rfl) (by rfl) (by rfl) (by rfl) ?_
                  refine WL.seal (T := intT) (l := ((e_2) ++ ([x53] : (List Int)))) (e := 3) 7 rfl ?_
                  refine WL.run ht hn 0 ⟨[(1, .sv (.one (.ptr 0 0))), (5, .sv (.one (.own 5))), (7, .sv (.one (.ptr 6 0))), (52, .sv (.one (I x.fLetters))), (53, .sv (.one (I x53))), (56, .sv (.one (.own 2))), (59, .sv (.one (I x53))), (60, .sv (.one (LS intT ([x53] : (List Int))))), (61, .sv (.one (LS intT ((e_2) ++ ([x53] : (List Int))))))], [.box [I x.fLetters, I x.fStart, LS (lsT intT) x.fNext, LS intT x.fMark] 25 false, .gone, rowI 23 (lsT intT) l2_3, .gone, .gone, rowI 23 (lsT intT) l5, .box [LS intT e_2] 23 false, .gone, .gone]⟩ (by kernel_rfl) ?_
                  refine WL.mt0 (K := []) (p := some (9, rowI 23 (lsT intT) ([((e_2) ++ ([x53] : (List Int)))] : (List (List Int))))) hn (by rfl) (mt_lit (T := (lsT intT)) ([((e_2) ++ ([x53] : (List Int)))] : (List (List Int))) (mt_bsl 9 (r := cellsOf (lsT intT) ([((e_2) ++ ([x53] : (List Int)))] : (List (List Int)))) ht rfl (by rfl) (by rfl) (by rfl) (by kernel_rfl) (by rfl)) (fun _ h => by cases h) (fun _ => rfl) (fun _ => rfl) (by rfl) (Nat.le_of_ble_eq_true rfl)) (by rfl) (by rfl) (by rfl) ?_
                  refine WL.seal (T := (lsT intT)) (l := ([((e_2) ++ ([x53] : (List Int)))] : (List (List Int)))) (e := 23) 9 rfl ?_
                  refine WL.run ht hn 0 ⟨[(1, .sv (.one (.ptr 0 0))), (5, .sv (.one (.own 5))), (7, .sv (.one (.ptr 6 0))), (52, .sv (.one (I x.fLetters))), (53, .sv (.one (I x53))), (56, .sv (.one (.own 2))), (59, .sv (.one (I x53))), (60, .sv (.one (LS intT ([x53] : (List Int))))), (61, .sv (.one (LS intT ((e_2) ++ ([x53] : (List Int)))))), (62, .sv (.one (LS (lsT intT) ([((e_2) ++ ([x53] : (List Int)))] : (List (List Int))))))], [.box [I x.fLetters, I x.fStart, LS (lsT intT) x.fNext, LS intT x.fMark] 25 false, .gone, rowI 23 (lsT intT) l2_3, .gone, .gone, rowI 23 (lsT intT) l5, .box [LS intT e_2] 23 false, .gone, .gone, .gone]⟩ (by kernel_rfl) ?_
                  have hp := h.1
                  replace h := h.2
                  refine WL.mt (S2 := ⟨[(1, .sv (.one (.ptr 0 0))), (5, .sv (.one (.own 5))), (7, .sv (.one (.ptr 6 0))), (52, .sv (.one (I x.fLetters))), (53, .sv (.one (I x53))), (59, .sv (.one (I x53))), (60, .sv (.one (LS intT ([x53] : (List Int))))), (61, .sv (.one (LS intT ((e_2) ++ ([x53] : (List Int)))))), (62, .sv (.one (LS (lsT intT) ([((e_2) ++ ([x53] : (List Int)))] : (List (List Int))))))], [.box [I x.fLetters, I x.fStart, LS (lsT intT) x.fNext, LS intT x.fMark] 25 false, .gone, rowI 23 (lsT intT) l2_3, .gone, .gone, rowI 23 (lsT intT) l5, .box [LS intT e_2] 23 false, .gone, .gone, .gone]⟩) (K := [2]) (p := some (2, rowI 23 (lsT intT) (l2_3 ++ ([((e_2) ++ ([x53] : (List Int)))] : (List (List Int)))))) hn (by rfl) (mt_append (T := (lsT intT)) (l := l2_3) (es := ([((e_2) ++ ([x53] : (List Int)))] : (List (List Int)))) ht rfl (by rfl) (by rfl) (by rfl) (by rfl) (by decide) (by rfl) (by rfl) (srcLS (T := (lsT intT)) (es := ([((e_2) ++ ([x53] : (List Int)))] : (List (List Int)))) (fun _ h => by cases h) (by decide) (by rfl)) (by exact hp) (by exact hp.le (by decide))) (by kernel_rfl) (by rfl) (by rfl) (by rfl) ?_
                  refine WL.run ht hn 1 ⟨[(1, .sv (.one (.ptr 0 0))), (5, .sv (.one (.own 5))), (6, .sv (.one (.own 2))), (7, .sv (.one (.ptr 6 0))), (52, .sv (.one (I x.fLetters))), (53, .sv (.one (I x53)))], [.box [I x.fLetters, I x.fStart, LS (lsT intT) x.fNext, LS intT x.fMark] 25 false, .gone, rowI 23 (lsT intT) (l2_3 ++ ([((e_2) ++ ([x53] : (List Int)))] : (List (List Int)))), .gone, .gone, rowI 23 (lsT intT) l5, .box [LS intT e_2] 23 false, .gone, .gone, .gone]⟩ (by kernel_rfl) ?_
                  refine WL.nil ?_
                  refine En.region ?_
                  refine WL.run ht hn 2 ⟨[(1, .sv (.one (.ptr 0 0))), (5, .sv (.one (.own 5))), (6, .sv (.one (.own 2))), (7, .sv (.one (.ptr 6 0))), (52, .sv (.one (I x.fLetters))), (53, .sv (.one (I (wr (x53 + 1)))))], [.box [I x.fLetters, I x.fStart, LS (lsT intT) x.fNext, LS intT x.fMark] 25 false, .gone, rowI 23 (lsT intT) (l2_3 ++ ([((e_2) ++ ([x53] : (List Int)))] : (List (List Int)))), .gone, .gone, rowI 23 (lsT intT) l5, .box [LS intT e_2] 23 false, .gone, .gone, .gone]⟩ (by kernel_rfl) ?_
                  refine WL.nil ?_
                  exact En.at (I := fun zz => Inv_2 zz.1 zz.2 ∧ mu_2 zz.1 zz.2 < mu_2 x53 l2_3) (T := fun zz => ⟨[(1, .sv (.one (.ptr 0 0))), (5, .sv (.one (.own 5))), (6, .sv (.one (.own 2))), (7, .sv (.one (.ptr 6 0))), (52, .sv (.one (I x.fLetters))), (53, .sv (.one (I zz.1)))], [.box [I x.fLetters, I x.fStart, LS (lsT intT) x.fNext, LS intT x.fMark] 25 false, .gone, rowI 23 (lsT intT) zz.2, .gone, .gone, rowI 23 (lsT intT) l5, .box [LS intT e_2] 23 false]⟩) ((wr (x53 + 1)), (l2_3 ++ ([((e_2) ++ ([x53] : (List Int)))] : (List (List Int))))) h (by kernel_rfl)
                · replace h := h.2 hb
                  refine En.exit rfl ?_
                  exact En.at (I := fun zz => J_2 zz.1 zz.2) (T := fun zz => ⟨[(1, .sv (.one (.ptr 0 0))), (5, .sv (.one (.own 5))), (6, .sv (.one (.own 2)))], [.box [I x.fLetters, I x.fStart, LS (lsT intT) x.fNext, LS intT x.fMark] 25 false, .gone, rowI 23 (lsT intT) zz.1, .gone, .gone, rowI 23 (lsT intT) zz.2, .gone]⟩) (l2_3, l5) h (by kernel_rfl)
        · rintro ⟨l2_2, l5_2⟩ h
          replace h := hJ_2 _ _ h
          show En c ⟨[(1, .sv (.one (.ptr 0 0))), (5, .sv (.one (.own 5))), (6, .sv (.one (.own 2)))], [.box [I x.fLetters, I x.fStart, LS (lsT intT) x.fNext, LS intT x.fMark] 25 false, .gone, rowI 23 (lsT intT) l2_2, .gone, .gone, rowI 23 (lsT intT) l5_2, .gone]⟩ _
          refine En.region ?_
          refine WL.run ht hn 1 ⟨[(1, .sv (.one (.ptr 0 0))), (5, .sv (.one (.own 5))), (29, .sv (.one (.own 2)))], [.box [I x.fLetters, I x.fStart, LS (lsT intT) x.fNext, LS intT x.fMark] 25 false, .gone, rowI 23 (lsT intT) l2_2, .gone, .gone, rowI 23 (lsT intT) l5_2, .gone]⟩ (by kernel_rfl) ?_
          have hp_3 := h.1
          replace h := h.2
          refine WL.mt (S2 := ⟨[(1, .sv (.one (.ptr 0 0))), (5, .sv (.one (.own 5)))], [.box [I x.fLetters, I x.fStart, LS (lsT intT) x.fNext, LS intT x.fMark] 25 false, .gone, rowI 23 (lsT intT) l2_2, .gone, .gone, rowI 23 (lsT intT) l5_2, .gone]⟩) (K := [2]) (p := some (2, rowI 23 (lsT intT) (l2_2.drop (1 : Int).toNat))) hn (by rfl) (mt_sliceF (T := (lsT intT)) (l := l2_2) (p := 2) (lv := 1) ht rfl (by rfl) (by rfl) (by rfl) (by rfl) (by rfl) (by rfl) (by rfl) hp_3) (by kernel_rfl) (by rfl) (by rfl) (by rfl) ?_
          refine WL.run ht hn 1 ⟨[(1, .sv (.one (.ptr 0 0))), (5, .sv (.one (.own 5))), (6, .sv (.one (.own 2)))], [.box [I x.fLetters, I x.fStart, LS (lsT intT) x.fNext, LS intT x.fMark] 25 false, .gone, rowI 23 (lsT intT) (l2_2.drop (1 : Int).toNat), .gone, .gone, rowI 23 (lsT intT) l5_2, .gone]⟩ (by kernel_rfl) ?_
          refine WL.nil ?_
          exact En.at (I := fun zz => Inv zz.1 zz.2 ∧ mu zz.1 zz.2 < mu l2 l5) (T := fun zz => ⟨[(1, .sv (.one (.ptr 0 0))), (5, .sv (.one (.own 5))), (6, .sv (.one (.own 2)))], [.box [I x.fLetters, I x.fStart, LS (lsT intT) x.fNext, LS intT x.fMark] 25 false, .gone, rowI 23 (lsT intT) zz.1, .gone, .gone, rowI 23 (lsT intT) zz.2]⟩) ((l2_2.drop (1 : Int).toNat), l5_2) h (by kernel_rfl)
      · replace h := h.2 hb
        refine En.exit rfl ?_
        refine En.seq ?_
        refine En.region ?_
        refine WL.run ht hn 3 ⟨[(2, .sv (.one (.own 5))), (3, .sv (.one (I 0)))], [.gone, .gone, .gone, .gone, .gone, rowI 23 (lsT intT) l5]⟩ (by kernel_rfl) ?_
        refine WL.nil ?_
        refine En.ret ?_
        refine En.seal (T := (lsT intT)) (l := l5) (e := 23) 5 rfl ?_
        exact En.back ht (l5, 0) h (by kernel_rfl) rfl
theorem en22 : ∀ args w, (callFunc 22 args).run Try.prog w = .ok (.enter 22 args) w := enters_of Try.func22 (by kernel_rfl) rfl
theorem higLeast_ct (x : ApiDet) (hd : x = twoDet) : Ct 22 [.sv (.agg [I x.fLetters, I x.fStart, LS (lsT intT) x.fNext, LS intT x.fMark])] [] (fun (_ : Unit) => True) (fun _ => .tup [.one (LS (lsT intT) (twoLeast x).1), .one (I (twoLeast x).2)]) := by
  refine (higLeast_walk x (fun res_ => res_ = (twoLeast x)) ?_).fun
  intro _ _
  subst hd
  refine ⟨fun h => absurd h (by decide), fun _ => ?_⟩
  refine ⟨fun l o => (l = [[]] ∧ o = []) ∨ (l = [[0]] ∧ o = []) ∨ (l = [] ∧ o = [[0]]), fun l o => 2 * (1 - o.length) + (1 - (l.getD 0 []).length), .inl ⟨rfl, rfl⟩, ?_⟩
  rintro l o (⟨rfl, rfl⟩ | ⟨rfl, rfl⟩ | ⟨rfl, rfl⟩)
  · refine ⟨fun b => b = true, ⟨fun _ => ⟨[], rfl, rfl⟩, fun h => absurd h (by decide)⟩, ?_⟩
    rintro _ rfl
    refine ⟨fun _ => ?_, fun h => by cases h⟩
    refine ⟨fun l o => l = [[], [0]] ∧ o = [], ⟨[], rfl, ⟨(fun _ h => by cases h), (fun h => by cases h), fun _ => ⟨⟨rfl, rfl, .inl rfl⟩, 0, rfl, fun h => absurd h (by decide), fun _ => ?_⟩⟩⟩, ?_⟩
    · refine ⟨fun i l => (i = 0 ∧ l = [[]]) ∨ (i = 1 ∧ l = [[], [0]]), fun i _ => 1 - i.toNat, .inl ⟨rfl, rfl⟩, ?_⟩
      rintro i l (⟨rfl, rfl⟩ | ⟨rfl, rfl⟩)
      · exact ⟨fun _ => ⟨by decide, capOk_of (by decide), capOk_of (by decide), .inr ⟨by decide, rfl⟩, by decide⟩, fun h => absurd h (by decide)⟩
      · exact ⟨fun h => absurd h (by decide), fun _ => ⟨rfl, rfl⟩⟩
    · rintro _ _ ⟨rfl, rfl⟩
      exact ⟨⟨by decide, by decide⟩, .inr (.inl ⟨rfl, rfl⟩), by decide⟩
  · refine ⟨fun b => b = true, ⟨fun _ => ⟨[0], rfl, rfl⟩, fun h => absurd h (by decide)⟩, ?_⟩
    rintro _ rfl
    refine ⟨fun _ => ?_, fun h => by cases h⟩
    refine ⟨fun l o => l = [[0]] ∧ o = [[0]], ⟨[0], rfl, ⟨(fun _ h => by cases h), (fun h => by cases h), fun _ => ⟨⟨rfl, rfl, .inr rfl⟩, 1, rfl, fun _ => ⟨capOk_of (by decide), rfl, rfl⟩, fun h => absurd h (by decide)⟩⟩⟩, ?_⟩
    rintro _ _ ⟨rfl, rfl⟩
    exact ⟨⟨by decide, by decide⟩, .inr (.inr ⟨rfl, rfl⟩), by decide⟩
  · refine ⟨fun b => b = false, ⟨fun h => absurd h (by decide), fun _ => rfl⟩, ?_⟩
    rintro _ rfl
    exact ⟨(fun h => by cases h), fun _ => rfl⟩
noncomputable def upC (x : ApiDet) : ApiDet := canon x.fLetters.toNat (upLang x)
noncomputable def downC (x : ApiDet) : ApiDet := canon x.fLetters.toNat (downLang x x.fLetters.toNat)
theorem small_of {L n : Nat} {r : Lang} (h : CanonOk L r n) (hL : 1 ≤ L ∧ L ≤ 4) (hr : ∀ w, r w = 0 ∨ r w = 1) (h5 : (canon L r).fNext.length ≤ 5) : smallErr (canon L r) = 0 :=
  (smallErr_iff _).2 ⟨CanonOk.det ⟨h.wf, h.letters, h.start, Nat.le_refl _, h.lang, h.marks⟩ hL (by omega) hr, h5⟩
theorem canonS {L n : Nat} {r : Lang} (h : CanonOk L r n) : (canon L r).fStart.toNat = 0 := by rw [h.start]; rfl
theorem canonL {L n : Nat} {r : Lang} (h : CanonOk L r n) : (canon L r).fLetters.toNat = L := by rw [h.letters]; omega
theorem up_marks {x : ApiDet} (h : smallD x) : ∀ m ∈ (upC x).fMark, m = 0 ∨ m = 1 := fun m hm => by
  obtain ⟨u, rfl⟩ := (upOk h).marks m hm
  exact upLang_01 u
theorem up_up {x : ApiDet} (h : smallD x) (h5 : (upC x).fNext.length ≤ 5) : upR (upC x) = (upC x, 0) := by
  have ho := upOk h
  have hl := h.1.letters
  unfold upR
  rw [show smallErr (upC x) = 0 from small_of ho (by omega) upLang_01 h5, if_pos rfl]
  congr 1
  unfold upC
  rw [canonL ho]
  refine canon_congr fun w hw => eq01 (upLang_01 w) (upLang_01 w) ?_
  rw [upLang_iff, upLang_iff, canonS ho]
  constructor
  · rintro ⟨u, hu, e⟩
    rw [ho.lang u fun a ha => hw a (hu.subset ha), upLang_iff] at e
    obtain ⟨v, hv, e⟩ := e
    exact ⟨v, hv.trans hu, e⟩
  · rintro ⟨u, hu, e⟩
    refine ⟨u, hu, ?_⟩
    rw [ho.lang u fun a ha => hw a (hu.subset ha), upLang_iff]
    exact ⟨u, List.Sublist.refl _, e⟩
theorem down_down {x : ApiDet} (h : smallD x) (h5 : (downC x).fNext.length ≤ 5) : downR (downC x) = (downC x, 0) := by
  have ho := downOk h
  have hl := h.1.letters
  unfold downR
  rw [show smallErr (downC x) = 0 from small_of ho (by omega) downLang_01 h5, if_pos rfl]
  congr 1
  unfold downC
  rw [canonL ho]
  refine canon_congr fun w hw => eq01 (downLang_01 w) (downLang_01 w) ?_
  rw [downLang_iff, downLang_iff, canonS ho]
  constructor
  · rintro ⟨v, hv, hwv, e⟩
    rw [ho.lang v hv, downLang_iff] at e
    obtain ⟨u, hu, hvu, e⟩ := e
    exact ⟨u, hu, hwv.trans hvu, e⟩
  · rintro ⟨v, hv, hwv, e⟩
    refine ⟨v, hv, hwv, ?_⟩
    rw [ho.lang v hv, downLang_iff]
    exact ⟨v, hv, List.Sublist.refl _, e⟩
theorem up_down {x : ApiDet} (h : smallD x) (h5 : (upC x).fNext.length ≤ 5) : ∃ C, downR ⟨(upC x).fLetters, (upC x).fStart, (upC x).fNext, (upC x).fMark.map fun m => 1 - m⟩ = (C, 0) ∧ leastR ⟨(upC x).fLetters, (upC x).fStart, (upC x).fNext, (upC x).fMark.map fun m => 1 - m⟩ = (C, 0) := by
  have hu := upOk h
  have hl := h.1.letters
  have ht := canon_turn (L := x.fLetters.toNat) (r := upLang x) (fun m => 1 - m) (fun a b _ _ e => by omega)
  have ho : CanonOk x.fLetters.toNat (fun w => 1 - upLang x w) 5 := by
    have hst := h.1.start
    have h1 : setN x.fNext.length ((2 ^ x.fStart.toNat : Nat) : Int) := one_in (by omega)
    obtain ⟨m, hm, _⟩ := sets_all x.fNext.length
    have := canonOk_keys (go := fun s (a : Nat) => orS s (stepS x s (a : Int))) (mark := fun s => 1 - meetB s (goodS x)) (L := x.fLetters.toNat) ((hm _).1 h1) fun k a hk _ => (hm _).1 (orS_in ((hm _).2 hk) stepS_in)
    have h2 := this.congr (s := fun w => 1 - upLang x w) fun w _ => by
      show 1 - langK (fun s (a : Nat) => orS s (stepS x s (a : Int))) (fun s => meetB s (goodS x)) ((2 ^ x.fStart.toNat : Nat) : Int) w = _
      rw [up_lang h w]
    exact ⟨h2.wf, h2.letters, h2.start, by rw [ht]; exact h5, h2.lang, h2.marks⟩
  have hr : ∀ w, 1 - upLang x w = 0 ∨ 1 - upLang x w = 1 := fun w => by rcases upLang_01 (d := x) w with e | e <;> rw [e] <;> decide
  have e : ApiDet.mk (upC x).fLetters (upC x).fStart (upC x).fNext ((upC x).fMark.map fun m => 1 - m) = canon x.fLetters.toNat (fun w => 1 - upLang x w) := ht.symm
  rw [e]
  have hs := small_of ho (by omega) hr ho.count
  have hd := (smallErr_iff _).1 hs
  refine ⟨canon x.fLetters.toNat (fun w => 1 - upLang x w), ?_, ?_⟩
  · unfold downR
    rw [if_pos hs]
    congr 1
    rw [canonL ho]
    refine canon_congr fun w hw => eq01 (downLang_01 w) (hr w) ?_
    rw [downLang_iff, canonS ho]
    constructor
    · rintro ⟨v, hv, hwv, e⟩
      rw [ho.lang v hv] at e
      rcases upLang_01 (d := x) w with e2 | e2
      · rw [e2]; rfl
      · obtain ⟨u, hu, e3⟩ := upLang_iff.1 e2
        rw [upLang_iff.2 ⟨u, hu.trans hwv, e3⟩] at e
        cases e
    · intro e
      refine ⟨w, hw, List.Sublist.refl _, ?_⟩
      rw [ho.lang w hw]
      exact e
  · unfold leastR
    rw [if_pos ((detErr_iff _).2 hd.1), canonL ho, canonS ho, canon_canon ho]
def higmanTwice_vc (x : ApiDet) (Q : Bool → Prop) : Prop :=
  x.fNext.length ≤ 9223372036854775807 →
  x.fMark.length ≤ 9223372036854775807 →
  (((ApiDet.mk 1 0 ([([1] : (List Int)), ([1] : (List Int))] : (List (List Int))) ([0, 1] : (List Int))) = twoDet) ∧
  ∃ J : Bool → Prop, (IfP ((twoLeast (ApiDet.mk 1 0 ([([1] : (List Int)), ([1] : (List Int))] : (List (List Int))) ([0, 1] : (List Int)))).2 != 0) (J true) (IfP (((twoLeast (ApiDet.mk 1 0 ([([1] : (List Int)), ([1] : (List Int))] : (List (List Int))) ([0, 1] : (List Int)))).1.length : Int) != 1) (J true) (∃ e, idx (twoLeast (ApiDet.mk 1 0 ([([1] : (List Int)), ([1] : (List Int))] : (List (List Int))) ([0, 1] : (List Int)))).1 0 = some e ∧
  J ((e.length : Int) != 1)))) ∧
  (∀ (x41 : Bool), J x41 → IfP x41 (Q false) (IfP (((upR x).2 != 0) || ((downR x).2 != 0)) (Q ((upR x).2 == (downR x).2)) (∃ J_2 : Prop, (IfP (decide (((upR x).1.fNext.length : Int) ≤ 5)) (IfP (((upR (upR x).1).2 != 0) || (!(decide ((upR (upR x).1).1 = (upR x).1)))) (Q false) (∃ (Inv : Int → (List Int) → Prop) (mu : Int → (List Int) → Nat), Inv 0 ([] : (List Int)) ∧
  ∀ (x13 : Int) (l10 : (List Int)) , Inv x13 l10 → (IfP (decide (x13 < ((upR x).1.fMark.length : Int))) (∃ e_2, idx (upR x).1.fMark x13 = some e_2 ∧
  capOk l10.length (([(wr (1 - e_2))] : (List Int)) : (List Int)).length 8 ∧
  (Inv (wr (x13 + 1)) (l10 ++ ([(wr (1 - e_2))] : (List Int))) ∧ mu (wr (x13 + 1)) (l10 ++ ([(wr (1 - e_2))] : (List Int))) < mu x13 l10)) (IfP ((((downR (ApiDet.mk (upR x).1.fLetters (upR x).1.fStart (upR x).1.fNext l10)).2 != 0) || ((leastR (ApiDet.mk (upR x).1.fLetters (upR x).1.fStart (upR x).1.fNext l10)).2 != 0)) || (!(decide ((downR (ApiDet.mk (upR x).1.fLetters (upR x).1.fStart (upR x).1.fNext l10)).1 = (leastR (ApiDet.mk (upR x).1.fLetters (upR x).1.fStart (upR x).1.fNext l10)).1)))) (Q false) (J_2))))) (J_2)) ∧
  (J_2 → ∃ J_3 : Prop, (IfP (decide (((downR x).1.fNext.length : Int) ≤ 5)) (IfP (((downR (downR x).1).2 != 0) || (!(decide ((downR (downR x).1).1 = (downR x).1)))) (Q false) (J_3)) (J_3)) ∧
  (J_3 → Q true))))))
set_option maxHeartbeats 2000000 in
theorem higmanTwice_walk (x : ApiDet) (Q : Bool → Prop) (h : higmanTwice_vc x Q) : Ct 5 [.sv (.agg [I x.fLetters, I x.fStart, LS (lsT intT) x.fNext, LS intT x.fMark])] [] Q (fun (r : Bool) => .sv (.one (B r))) := by
  have ht := tab_ok
  refine Ct.body Try.func5 rfl rfl rfl rfl (fun c hn => ?_)
  unfold higmanTwice_vc at h
  refine En.lenA 0 2 (by rfl) (by rfl) (fun hl => ?_)
  replace h := h hl
  clear hl
  refine En.lenA 0 3 (by rfl) (by rfl) (fun hl => ?_)
  replace h := h hl
  clear hl
  refine En.seq ?_
  refine En.region ?_
  refine WL.run ht hn 2 ⟨[(1, .sv (.one (.ptr 0 0)))], [.box [I x.fLetters, I x.fStart, LS (lsT intT) x.fNext, LS intT x.fMark] 25 false]⟩ (by kernel_rfl) ?_
  refine WL.nil ?_
  refine En.seq ?_
  refine En.region ?_
  refine WL.mt0 (K := []) (p := some (1, rowI 3 intT ([1] : (List Int)))) hn (by rfl) (mt_lit (T := intT) ([1] : (List Int)) (mt_bsl 1 (r := cellsOf intT ([1] : (List Int))) ht rfl (by rfl) (by rfl) (by rfl) (by kernel_rfl) (by rfl)) (fun _ h => by cases h) (fun _ => rfl) (fun _ => rfl) (by rfl) (Nat.le_of_ble_eq_true rfl)) (by rfl) (by rfl) (by rfl) ?_
  refine WL.mt0 (K := []) (p := some (2, rowI 3 intT ([1] : (List Int)))) hn (by rfl) (mt_lit (T := intT) ([1] : (List Int)) (mt_bsl 2 (r := cellsOf intT ([1] : (List Int))) ht rfl (by rfl) (by rfl) (by rfl) (by kernel_rfl) (by rfl)) (fun _ h => by cases h) (fun _ => rfl) (fun _ => rfl) (by rfl) (Nat.le_of_ble_eq_true rfl)) (by rfl) (by rfl) (by rfl) ?_
  refine WL.seal (T := intT) (l := ([1] : (List Int))) (e := 3) 1 rfl ?_
  refine WL.run ht hn 0 ⟨[(1, .sv (.one (.ptr 0 0))), (18, .sv (.one (LS intT ([1] : (List Int))))), (19, .sv (.one (.own 2)))], [.box [I x.fLetters, I x.fStart, LS (lsT intT) x.fNext, LS intT x.fMark] 25 false, .gone, rowI 3 intT ([1] : (List Int))]⟩ (by kernel_rfl) ?_
  refine WL.seal (T := intT) (l := ([1] : (List Int))) (e := 3) 2 rfl ?_
  refine WL.run ht hn 0 ⟨[(1, .sv (.one (.ptr 0 0))), (18, .sv (.one (LS intT ([1] : (List Int))))), (19, .sv (.one (LS intT ([1] : (List Int)))))], [.box [I x.fLetters, I x.fStart, LS (lsT intT) x.fNext, LS intT x.fMark] 25 false, .gone, .gone]⟩ (by kernel_rfl) ?_
  refine WL.mt0 (K := []) (p := some (3, rowI 23 (lsT intT) ([([1] : (List Int)), ([1] : (List Int))] : (List (List Int))))) hn (by rfl) (mt_lit (T := (lsT intT)) ([([1] : (List Int)), ([1] : (List Int))] : (List (List Int))) (mt_bsl 3 (r := cellsOf (lsT intT) ([([1] : (List Int)), ([1] : (List Int))] : (List (List Int)))) ht rfl (by rfl) (by rfl) (by rfl) (by kernel_rfl) (by rfl)) (fun _ h => by cases h) (fun _ => rfl) (fun _ => rfl) (by rfl) (Nat.le_of_ble_eq_true rfl)) (by rfl) (by rfl) (by rfl) ?_
  refine WL.mt0 (K := []) (p := some (4, rowI 3 intT ([0, 1] : (List Int)))) hn (by rfl) (mt_lit (T := intT) ([0, 1] : (List Int)) (mt_bsl 4 (r := cellsOf intT ([0, 1] : (List Int))) ht rfl (by rfl) (by rfl) (by rfl) (by kernel_rfl) (by rfl)) (fun _ h => by cases h) (fun _ => rfl) (fun _ => rfl) (by rfl) (Nat.le_of_ble_eq_true rfl)) (by rfl) (by rfl) (by rfl) ?_
  refine WL.run ht hn 3 ⟨[(1, .sv (.one (.ptr 0 0))), (3, .sv (.one (.ptr 5 0)))], [.box [I x.fLetters, I x.fStart, LS (lsT intT) x.fNext, LS intT x.fMark] 25 false, .gone, .gone, rowI 23 (lsT intT) ([([1] : (List Int)), ([1] : (List Int))] : (List (List Int))), rowI 3 intT ([0, 1] : (List Int)), .box [I 1, I 0, .own 3, .own 4] 25 false]⟩ (by kernel_rfl) ?_
  refine WL.nil ?_
  refine En.seq ?_
  refine En.region ?_
  refine WL.run ht hn 1 ⟨[(1, .sv (.one (.ptr 0 0))), (24, .sv (.agg [I 1, I 0, .own 3, .own 4]))], [.box [I x.fLetters, I x.fStart, LS (lsT intT) x.fNext, LS intT x.fMark] 25 false, .gone, .gone, rowI 23 (lsT intT) ([([1] : (List Int)), ([1] : (List Int))] : (List (List Int))), rowI 3 intT ([0, 1] : (List Int)), .gone]⟩ (by kernel_rfl) ?_
  refine WL.seal (T := (lsT intT)) (l := ([([1] : (List Int)), ([1] : (List Int))] : (List (List Int)))) (e := 23) 3 rfl ?_
  refine WL.run ht hn 0 ⟨[(1, .sv (.one (.ptr 0 0))), (24, .sv (.agg [I 1, I 0, LS (lsT intT) ([([1] : (List Int)), ([1] : (List Int))] : (List (List Int))), .own 4]))], [.box [I x.fLetters, I x.fStart, LS (lsT intT) x.fNext, LS intT x.fMark] 25 false, .gone, .gone, .gone, rowI 3 intT ([0, 1] : (List Int)), .gone]⟩ (by kernel_rfl) ?_
  refine WL.seal (T := intT) (l := ([0, 1] : (List Int))) (e := 3) 4 rfl ?_
  refine WL.run ht hn 0 ⟨[(1, .sv (.one (.ptr 0 0))), (24, .sv (.agg [I 1, I 0, LS (lsT intT) ([([1] : (List Int)), ([1] : (List Int))] : (List (List Int))), LS intT ([0, 1] : (List Int))]))], [.box [I x.fLetters, I x.fStart, LS (lsT intT) x.fNext, LS intT x.fMark] 25 false, .gone, .gone, .gone, .gone, .gone]⟩ (by kernel_rfl) ?_
  have hp := h.1
  replace h := h.2
  refine WL.mt0 (K := []) (p := none) hn (by rfl) (mt_call (higLeast_ct (ApiDet.mk 1 0 ([([1] : (List Int)), ([1] : (List Int))] : (List (List Int))) ([0, 1] : (List Int))) hp) en22 (caps := []) [] rfl (by rfl) (by kernel_rfl) (by kernel_rfl) (by rfl) (by rfl) (by rfl)) (by rfl) (by rfl) (by rfl) ?_
  refine WL.run ht hn 5 ⟨[(1, .sv (.one (.ptr 0 0))), (4, .sv (.one (LS (lsT intT) (twoLeast (ApiDet.mk 1 0 ([([1] : (List Int)), ([1] : (List Int))] : (List (List Int))) ([0, 1] : (List Int)))).1))), (5, .sv (.one (I (twoLeast (ApiDet.mk 1 0 ([([1] : (List Int)), ([1] : (List Int))] : (List (List Int))) ([0, 1] : (List Int)))).2)))], [.box [I x.fLetters, I x.fStart, LS (lsT intT) x.fNext, LS intT x.fMark] 25 false, .gone, .gone, .gone, .gone, .gone]⟩ (by kernel_rfl) ?_
  refine WL.nil ?_
  refine En.seq ?_
  obtain ⟨J, h, hJ⟩ := h
  refine En.seqJ (σ := Bool) (fun zz => J zz) (fun zz => ⟨[(1, .sv (.one (.ptr 0 0))), (41, .sv (.one (B zz)))], [.box [I x.fLetters, I x.fStart, LS (lsT intT) x.fNext, LS intT x.fMark] 25 false, .gone, .gone, .gone, .gone, .gone]⟩) ?_ ?_
  · refine En.region ?_
    refine WL.run ht hn 3 ⟨[(1, .sv (.one (.ptr 0 0))), (4, .sv (.one (LS (lsT intT) (twoLeast (ApiDet.mk 1 0 ([([1] : (List Int)), ([1] : (List Int))] : (List (List Int))) ([0, 1] : (List Int)))).1))), (30, .sv (.one (B ((twoLeast (ApiDet.mk 1 0 ([([1] : (List Int)), ([1] : (List Int))] : (List (List Int))) ([0, 1] : (List Int)))).2 != 0))))], [.box [I x.fLetters, I x.fStart, LS (lsT intT) x.fNext, LS intT x.fMark] 25 false, .gone, .gone, .gone, .gone, .gone]⟩ (by kernel_rfl) ?_
    refine splitB ((twoLeast (ApiDet.mk 1 0 ([([1] : (List Int)), ([1] : (List Int))] : (List (List Int))) ([0, 1] : (List Int)))).2 != 0) (fun hb => ?_) (fun hb => ?_)
    · replace h := h.1 hb
      refine WL.setB 30 hb (by kernel_rfl) ?_
      refine WL.run ht hn 11 ⟨[(1, .sv (.one (.ptr 0 0))), (41, .sv (.one (B true)))], [.box [I x.fLetters, I x.fStart, LS (lsT intT) x.fNext, LS intT x.fMark] 25 false, .gone, .gone, .gone, .gone, .gone]⟩ (by kernel_rfl) ?_
      refine WL.nil ?_
      exact En.at (I := fun zz => J zz) (T := fun zz => ⟨[(1, .sv (.one (.ptr 0 0))), (41, .sv (.one (B zz)))], [.box [I x.fLetters, I x.fStart, LS (lsT intT) x.fNext, LS intT x.fMark] 25 false, .gone, .gone, .gone, .gone, .gone]⟩) true h (by kernel_rfl)
    · replace h := h.2 hb
      refine WL.setB 30 hb (by kernel_rfl) ?_
      refine WL.run ht hn 5 ⟨[(1, .sv (.one (.ptr 0 0))), (4, .sv (.one (LS (lsT intT) (twoLeast (ApiDet.mk 1 0 ([([1] : (List Int)), ([1] : (List Int))] : (List (List Int))) ([0, 1] : (List Int)))).1))), (35, .sv (.one (B (((twoLeast (ApiDet.mk 1 0 ([([1] : (List Int)), ([1] : (List Int))] : (List (List Int))) ([0, 1] : (List Int)))).1.length : Int) != 1))))], [.box [I x.fLetters, I x.fStart, LS (lsT intT) x.fNext, LS intT x.fMark] 25 false, .gone, .gone, .gone, .gone, .gone]⟩ (by kernel_rfl) ?_
      refine splitB (((twoLeast (ApiDet.mk 1 0 ([([1] : (List Int)), ([1] : (List Int))] : (List (List Int))) ([0, 1] : (List Int)))).1.length : Int) != 1) (fun hb => ?_) (fun hb => ?_)
      · replace h := h.1 hb
        refine WL.setB 35 hb (by kernel_rfl) ?_
        refine WL.run ht hn 6 ⟨[(1, .sv (.one (.ptr 0 0))), (41, .sv (.one (B true)))], [.box [I x.fLetters, I x.fStart, LS (lsT intT) x.fNext, LS intT x.fMark] 25 false, .gone, .gone, .gone, .gone, .gone]⟩ (by kernel_rfl) ?_
        refine WL.nil ?_
        exact En.at (I := fun zz => J zz) (T := fun zz => ⟨[(1, .sv (.one (.ptr 0 0))), (41, .sv (.one (B zz)))], [.box [I x.fLetters, I x.fStart, LS (lsT intT) x.fNext, LS intT x.fMark] 25 false, .gone, .gone, .gone, .gone, .gone]⟩) true h (by kernel_rfl)
      · replace h := h.2 hb
        refine WL.setB 35 hb (by kernel_rfl) ?_
        refine WL.run ht hn 1 ⟨[(1, .sv (.one (.ptr 0 0))), (35, .sv (.one (B false))), (36, .sv (.one (LS (lsT intT) (twoLeast (ApiDet.mk 1 0 ([([1] : (List Int)), ([1] : (List Int))] : (List (List Int))) ([0, 1] : (List Int)))).1)))], [.box [I x.fLetters, I x.fStart, LS (lsT intT) x.fNext, LS intT x.fMark] 25 false, .gone, .gone, .gone, .gone, .gone]⟩ (by kernel_rfl) ?_
        obtain ⟨e, he, h⟩ := h
        refine WL.val hn (by rfl) (val_index (T := (lsT intT)) (l := (twoLeast (ApiDet.mk 1 0 ([([1] : (List Int)), ([1] : (List Int))] : (List (List Int))) ([0, 1] : (List Int)))).1) (i := 0) ht rfl (by rfl) (by rfl) (by rfl) (by rfl) (by rfl) (by rfl) he) (by rfl) ?_
        refine WL.val hn (by rfl) (val_load (s := .one (LS intT e)) ht rfl (by rfl) (by rfl) (by rfl) (by rfl) (by rfl)) (by rfl) ?_
        refine WL.run ht hn 3 ⟨[(1, .sv (.one (.ptr 0 0))), (41, .sv (.one (B ((e.length : Int) != 1))))], [.box [I x.fLetters, I x.fStart, LS (lsT intT) x.fNext, LS intT x.fMark] 25 false, .gone, .gone, .gone, .gone, .gone]⟩ (by kernel_rfl) ?_
        refine WL.nil ?_
        exact En.at (I := fun zz => J zz) (T := fun zz => ⟨[(1, .sv (.one (.ptr 0 0))), (41, .sv (.one (B zz)))], [.box [I x.fLetters, I x.fStart, LS (lsT intT) x.fNext, LS intT x.fMark] 25 false, .gone, .gone, .gone, .gone, .gone]⟩) ((e.length : Int) != 1) h (by kernel_rfl)
  · intro x41 h
    replace h := hJ _ h
    show En c ⟨[(1, .sv (.one (.ptr 0 0))), (41, .sv (.one (B x41)))], [.box [I x.fLetters, I x.fStart, LS (lsT intT) x.fNext, LS intT x.fMark] 25 false, .gone, .gone, .gone, .gone, .gone]⟩ _
    refine En.cond (b := x41) (by kernel_rfl) (fun hb => ?_) (fun hb => ?_)
    · replace h := h.1 hb
      refine En.seq ?_
      refine En.region ?_
      refine WL.run ht hn 1 ⟨[(2, .sv (.one (B false)))], [.gone, .gone, .gone, .gone, .gone, .gone]⟩ (by kernel_rfl) ?_
      refine WL.nil ?_
      refine En.ret ?_
      exact En.back ht false h (by kernel_rfl) rfl
    · replace h := h.2 hb
      refine En.skip ?_
      refine En.seq ?_
      refine En.region ?_
      refine WL.run ht hn 1 ⟨[(1, .sv (.one (.ptr 0 0))), (43, .sv (.agg [I x.fLetters, I x.fStart, LS (lsT intT) x.fNext, LS intT x.fMark]))], [.box [I x.fLetters, I x.fStart, LS (lsT intT) x.fNext, LS intT x.fMark] 25 false, .gone, .gone, .gone, .gone, .gone]⟩ (by kernel_rfl) ?_
      refine WL.mt0 (K := []) (p := none) hn (by rfl) (mt_call (higUp_ct x) en16 (caps := []) [] rfl (by rfl) (by kernel_rfl) (by kernel_rfl) (by rfl) (by rfl) (by rfl)) (by rfl) (by rfl) (by rfl) ?_
      refine WL.run ht hn 6 ⟨[(1, .sv (.one (.ptr 0 0))), (5, .sv (.one (I (upR x).2))), (6, .sv (.one (.ptr 6 0)))], [.box [I x.fLetters, I x.fStart, LS (lsT intT) x.fNext, LS intT x.fMark] 25 false, .gone, .gone, .gone, .gone, .gone, .box [I (upR x).1.fLetters, I (upR x).1.fStart, LS (lsT intT) (upR x).1.fNext, LS intT (upR x).1.fMark] 25 false]⟩ (by kernel_rfl) ?_
      refine WL.nil ?_
      refine En.seq ?_
      refine En.region ?_
      refine WL.run ht hn 1 ⟨[(5, .sv (.one (I (upR x).2))), (6, .sv (.one (.ptr 6 0))), (48, .sv (.agg [I x.fLetters, I x.fStart, LS (lsT intT) x.fNext, LS intT x.fMark]))], [.gone, .gone, .gone, .gone, .gone, .gone, .box [I (upR x).1.fLetters, I (upR x).1.fStart, LS (lsT intT) (upR x).1.fNext, LS intT (upR x).1.fMark] 25 false]⟩ (by kernel_rfl) ?_
      refine WL.mt0 (K := []) (p := none) hn (by rfl) (mt_call (higDown_ct x) en17 (caps := []) [] rfl (by rfl) (by kernel_rfl) (by kernel_rfl) (by rfl) (by rfl) (by rfl)) (by rfl) (by rfl) (by rfl) ?_
      refine WL.run ht hn 6 ⟨[(5, .sv (.one (I (upR x).2))), (6, .sv (.one (.ptr 6 0))), (7, .sv (.one (.ptr 7 0))), (8, .sv (.one (I (downR x).2)))], [.gone, .gone, .gone, .gone, .gone, .gone, .box [I (upR x).1.fLetters, I (upR x).1.fStart, LS (lsT intT) (upR x).1.fNext, LS intT (upR x).1.fMark] 25 false, .box [I (downR x).1.fLetters, I (downR x).1.fStart, LS (lsT intT) (downR x).1.fNext, LS intT (downR x).1.fMark] 25 false]⟩ (by kernel_rfl) ?_
      refine WL.nil ?_
      refine En.seq ?_
      refine En.seq ?_
      refine En.region ?_
      refine WL.run ht hn 3 ⟨[(5, .sv (.one (I (upR x).2))), (6, .sv (.one (.ptr 6 0))), (7, .sv (.one (.ptr 7 0))), (8, .sv (.one (I (downR x).2))), (54, .sv (.one (B ((upR x).2 != 0))))], [.gone, .gone, .gone, .gone, .gone, .gone, .box [I (upR x).1.fLetters, I (upR x).1.fStart, LS (lsT intT) (upR x).1.fNext, LS intT (upR x).1.fMark] 25 false, .box [I (downR x).1.fLetters, I (downR x).1.fStart, LS (lsT intT) (downR x).1.fNext, LS intT (downR x).1.fMark] 25 false]⟩ (by kernel_rfl) ?_
      refine WL.thru ⟨[(5, .sv (.one (I (upR x).2))), (6, .sv (.one (.ptr 6 0))), (7, .sv (.one (.ptr 7 0))), (8, .sv (.one (I (downR x).2))), (57, .sv (.one (B (((upR x).2 != 0) || ((downR x).2 != 0)))))], [.gone, .gone, .gone, .gone, .gone, .gone, .box [I (upR x).1.fLetters, I (upR x).1.fStart, LS (lsT intT) (upR x).1.fNext, LS intT (upR x).1.fMark] 25 false, .box [I (downR x).1.fLetters, I (downR x).1.fStart, LS (lsT intT) (downR x).1.fNext, LS intT (downR x).1.fMark] 25 false]⟩ ?_ ?_
      · refine splitB ((upR x).2 != 0) (fun hb0 => ?_) (fun hb0 => ?_)
        · refine WL.setB 54 hb0 (by kernel_rfl) ?_
          refine WL.run ht hn 3 ⟨[(5, .sv (.one (I (upR x).2))), (6, .sv (.one (.ptr 6 0))), (7, .sv (.one (.ptr 7 0))), (8, .sv (.one (I (downR x).2))), (57, .sv (.one (B true)))], [.gone, .gone, .gone, .gone, .gone, .gone, .box [I (upR x).1.fLetters, I (upR x).1.fStart, LS (lsT intT) (upR x).1.fNext, LS intT (upR x).1.fMark] 25 false, .box [I (downR x).1.fLetters, I (downR x).1.fStart, LS (lsT intT) (downR x).1.fNext, LS intT (downR x).1.fMark] 25 false]⟩ (by kernel_rfl) ?_
          exact WL.nil (sub_ok (by simp only [hb0]; kernel_rfl))
        · refine WL.setB 54 hb0 (by kernel_rfl) ?_
          refine WL.run ht hn 3 ⟨[(5, .sv (.one (I (upR x).2))), (6, .sv (.one (.ptr 6 0))), (7, .sv (.one (.ptr 7 0))), (8, .sv (.one (I (downR x).2))), (57, .sv (.one (B ((downR x).2 != 0))))], [.gone, .gone, .gone, .gone, .gone, .gone, .box [I (upR x).1.fLetters, I (upR x).1.fStart, LS (lsT intT) (upR x).1.fNext, LS intT (upR x).1.fMark] 25 false, .box [I (downR x).1.fLetters, I (downR x).1.fStart, LS (lsT intT) (downR x).1.fNext, LS intT (downR x).1.fMark] 25 false]⟩ (by kernel_rfl) ?_
          exact WL.nil (sub_ok (by simp only [hb0]; kernel_rfl))
      · refine En.cond (b := (((upR x).2 != 0) || ((downR x).2 != 0))) (by kernel_rfl) (fun hb => ?_) (fun hb => ?_)
        · replace h := h.1 hb
          refine En.seq ?_
          refine En.region ?_
          refine WL.run ht hn 4 ⟨[(2, .sv (.one (B ((upR x).2 == (downR x).2))))], [.gone, .gone, .gone, .gone, .gone, .gone, .gone, .gone]⟩ (by kernel_rfl) ?_
          refine WL.nil ?_
          refine En.ret ?_
          exact En.back ht ((upR x).2 == (downR x).2) h (by kernel_rfl) rfl
        · replace h := h.2 hb
          refine En.skip ?_
          obtain ⟨J_2, h, hJ_2⟩ := h
          refine En.seqJ (σ := Unit) (fun _ => J_2) (fun _ => ⟨[(7, .sv (.one (.ptr 7 0)))], [.gone, .gone, .gone, .gone, .gone, .gone, .gone, .box [I (downR x).1.fLetters, I (downR x).1.fStart, LS (lsT intT) (downR x).1.fNext, LS intT (downR x).1.fMark] 25 false]⟩) ?_ ?_
          · refine En.seq ?_
            refine En.region ?_
            refine WL.run ht hn 4 ⟨[(6, .sv (.one (.ptr 6 0))), (7, .sv (.one (.ptr 7 0))), (64, .sv (.one (B (decide (((upR x).1.fNext.length : Int) ≤ 5)))))], [.gone, .gone, .gone, .gone, .gone, .gone, .box [I (upR x).1.fLetters, I (upR x).1.fStart, LS (lsT intT) (upR x).1.fNext, LS intT (upR x).1.fMark] 25 false, .box [I (downR x).1.fLetters, I (downR x).1.fStart, LS (lsT intT) (downR x).1.fNext, LS intT (downR x).1.fMark] 25 false]⟩ (by kernel_rfl) ?_
            refine WL.nil ?_
            refine En.cond (b := (decide (((upR x).1.fNext.length : Int) ≤ 5))) (by kernel_rfl) (fun hb => ?_) (fun hb => ?_)
            · replace h := h.1 hb
              refine En.seq ?_
              refine En.region ?_
              refine WL.run ht hn 1 ⟨[(6, .sv (.one (.ptr 6 0))), (7, .sv (.one (.ptr 7 0))), (66, .sv (.agg [I (upR x).1.fLetters, I (upR x).1.fStart, LS (lsT intT) (upR x).1.fNext, LS intT (upR x).1.fMark]))], [.gone, .gone, .gone, .gone, .gone, .gone, .box [I (upR x).1.fLetters, I (upR x).1.fStart, LS (lsT intT) (upR x).1.fNext, LS intT (upR x).1.fMark] 25 false, .box [I (downR x).1.fLetters, I (downR x).1.fStart, LS (lsT intT) (downR x).1.fNext, LS intT (downR x).1.fMark] 25 false]⟩ (by kernel_rfl) ?_
              refine WL.mt0 (K := []) (p := none) hn (by rfl) (mt_call (higUp_ct (upR x).1) en16 (caps := []) [] rfl (by rfl) (by kernel_rfl) (by kernel_rfl) (by rfl) (by rfl) (by rfl)) (by rfl) (by rfl) (by rfl) ?_
              refine WL.run ht hn 6 ⟨[(6, .sv (.one (.ptr 6 0))), (7, .sv (.one (.ptr 7 0))), (9, .sv (.one (.ptr 8 0))), (10, .sv (.one (I (upR (upR x).1).2)))], [.gone, .gone, .gone, .gone, .gone, .gone, .box [I (upR x).1.fLetters, I (upR x).1.fStart, LS (lsT intT) (upR x).1.fNext, LS intT (upR x).1.fMark] 25 false, .box [I (downR x).1.fLetters, I (downR x).1.fStart, LS (lsT intT) (downR x).1.fNext, LS intT (downR x).1.fMark] 25 false, .box [I (upR (upR x).1).1.fLetters, I (upR (upR x).1).1.fStart, LS (lsT intT) (upR (upR x).1).1.fNext, LS intT (upR (upR x).1).1.fMark] 25 false]⟩ (by kernel_rfl) ?_
              refine WL.nil ?_
              refine En.seq ?_
              refine En.region ?_
              refine WL.run ht hn 2 ⟨[(6, .sv (.one (.ptr 6 0))), (7, .sv (.one (.ptr 7 0))), (10, .sv (.one (I (upR (upR x).1).2))), (70, .sv (.agg [I (upR (upR x).1).1.fLetters, I (upR (upR x).1).1.fStart, LS (lsT intT) (upR (upR x).1).1.fNext, LS intT (upR (upR x).1).1.fMark])), (71, .sv (.agg [I (upR x).1.fLetters, I (upR x).1.fStart, LS (lsT intT) (upR x).1.fNext, LS intT (upR x).1.fMark]))], [.gone, .gone, .gone, .gone, .gone, .gone, .box [I (upR x).1.fLetters, I (upR x).1.fStart, LS (lsT intT) (upR x).1.fNext, LS intT (upR x).1.fMark] 25 false, .box [I (downR x).1.fLetters, I (downR x).1.fStart, LS (lsT intT) (downR x).1.fNext, LS intT (downR x).1.fMark] 25 false, .gone]⟩ (by kernel_rfl) ?_
              refine WL.mt0 (K := []) (p := none) hn (by rfl) (mt_call (alike_ct (upR (upR x).1).1 (upR x).1) en23 (caps := []) [] rfl (by rfl) (by kernel_rfl) (by kernel_rfl) (by rfl) (by rfl) (by rfl)) (by rfl) (by rfl) (by rfl) ?_
              refine WL.run ht hn 1 ⟨[(6, .sv (.one (.ptr 6 0))), (7, .sv (.one (.ptr 7 0))), (10, .sv (.one (I (upR (upR x).1).2))), (11, .sv (.one (B (decide ((upR (upR x).1).1 = (upR x).1)))))], [.gone, .gone, .gone, .gone, .gone, .gone, .box [I (upR x).1.fLetters, I (upR x).1.fStart, LS (lsT intT) (upR x).1.fNext, LS intT (upR x).1.fMark] 25 false, .box [I (downR x).1.fLetters, I (downR x).1.fStart, LS (lsT intT) (downR x).1.fNext, LS intT (downR x).1.fMark] 25 false, .gone]⟩ (by kernel_rfl) ?_
              refine WL.nil ?_
              refine En.seq ?_
              refine En.seq ?_
              refine En.region ?_
              refine WL.run ht hn 3 ⟨[(6, .sv (.one (.ptr 6 0))), (7, .sv (.one (.ptr 7 0))), (11, .sv (.one (B (decide ((upR (upR x).1).1 = (upR x).1))))), (75, .sv (.one (B ((upR (upR x).1).2 != 0))))], [.gone, .gone, .gone, .gone, .gone, .gone, .box [I (upR x).1.fLetters, I (upR x).1.fStart, LS (lsT intT) (upR x).1.fNext, LS intT (upR x).1.fMark] 25 false, .box [I (downR x).1.fLetters, I (downR x).1.fStart, LS (lsT intT) (downR x).1.fNext, LS intT (downR x).1.fMark] 25 false, .gone]⟩ (by kernel_rfl) ?_
              refine WL.thru ⟨[(6, .sv (.one (.ptr 6 0))), (7, .sv (.one (.ptr 7 0))), (78, .sv (.one (B (((upR (upR x).1).2 != 0) || (!(decide ((upR (upR x).1).1 = (upR x).1)))))))], [.gone, .gone, .gone, .gone, .gone, .gone, .box [I (upR x).1.fLetters, I (upR x).1.fStart, LS (lsT intT) (upR x).1.fNext, LS intT (upR x).1.fMark] 25 false, .box [I (downR x).1.fLetters, I (downR x).1.fStart, LS (lsT intT) (downR x).1.fNext, LS intT (downR x).1.fMark] 25 false, .gone]⟩ ?_ ?_
              · refine splitB ((upR (upR x).1).2 != 0) (fun hb0 => ?_) (fun hb0 => ?_)
                · refine WL.setB 75 hb0 (by kernel_rfl) ?_
                  refine WL.run ht hn 3 ⟨[(6, .sv (.one (.ptr 6 0))), (7, .sv (.one (.ptr 7 0))), (78, .sv (.one (B true)))], [.gone, .gone, .gone, .gone, .gone, .gone, .box [I (upR x).1.fLetters, I (upR x).1.fStart, LS (lsT intT) (upR x).1.fNext, LS intT (upR x).1.fMark] 25 false, .box [I (downR x).1.fLetters, I (downR x).1.fStart, LS (lsT intT) (downR x).1.fNext, LS intT (downR x).1.fMark] 25 false, .gone]⟩ (by kernel_rfl) ?_
                  exact WL.nil (sub_ok (by simp only [hb0]; kernel_rfl))
                · refine WL.setB 75 hb0 (by kernel_rfl) ?_
                  refine WL.run ht hn 3 ⟨[(6, .sv (.one (.ptr 6 0))), (7, .sv (.one (.ptr 7 0))), (78, .sv (.one (B (!(decide ((upR (upR x).1).1 = (upR x).1))))))], [.gone, .gone, .gone, .gone, .gone, .gone, .box [I (upR x).1.fLetters, I (upR x).1.fStart, LS (lsT intT) (upR x).1.fNext, LS intT (upR x).1.fMark] 25 false, .box [I (downR x).1.fLetters, I (downR x).1.fStart, LS (lsT intT) (downR x).1.fNext, LS intT (downR x).1.fMark] 25 false, .gone]⟩ (by kernel_rfl) ?_
                  exact WL.nil (sub_ok (by simp only [hb0]; kernel_rfl))
              · refine En.cond (b := (((upR (upR x).1).2 != 0) || (!(decide ((upR (upR x).1).1 = (upR x).1))))) (by kernel_rfl) (fun hb => ?_) (fun hb => ?_)
                · replace h := h.1 hb
                  refine En.seq ?_
                  refine En.region ?_
                  refine WL.run ht hn 1 ⟨[(2, .sv (.one (B false)))], [.gone, .gone, .gone, .gone, .gone, .gone, .gone, .gone, .gone]⟩ (by kernel_rfl) ?_
                  refine WL.nil ?_
                  refine En.ret ?_
                  exact En.back ht false h (by kernel_rfl) rfl
                · replace h := h.2 hb
                  refine En.skip ?_
                  refine En.seq ?_
                  refine En.region ?_
                  refine WL.run ht hn 3 ⟨[(6, .sv (.one (.ptr 6 0))), (7, .sv (.one (.ptr 7 0))), (12, .sv (.one (.ptr 9 0)))], [.gone, .gone, .gone, .gone, .gone, .gone, .box [I (upR x).1.fLetters, I (upR x).1.fStart, LS (lsT intT) (upR x).1.fNext, LS intT (upR x).1.fMark] 25 false, .box [I (downR x).1.fLetters, I (downR x).1.fStart, LS (lsT intT) (downR x).1.fNext, LS intT (downR x).1.fMark] 25 false, .gone, .box [I (upR x).1.fLetters, I (upR x).1.fStart, LS (lsT intT) (upR x).1.fNext, LS intT (upR x).1.fMark] 25 false]⟩ (by kernel_rfl) ?_
                  refine WL.nil ?_
                  refine En.seq ?_
                  refine En.region ?_
                  refine WL.run ht hn 2 ⟨[(6, .sv (.one (.ptr 6 0))), (7, .sv (.one (.ptr 7 0))), (12, .sv (.one (.ptr 9 0)))], [.gone, .gone, .gone, .gone, .gone, .gone, .box [I (upR x).1.fLetters, I (upR x).1.fStart, LS (lsT intT) (upR x).1.fNext, LS intT (upR x).1.fMark] 25 false, .box [I (downR x).1.fLetters, I (downR x).1.fStart, LS (lsT intT) (downR x).1.fNext, LS intT (downR x).1.fMark] 25 false, .gone, .box [I (upR x).1.fLetters, I (upR x).1.fStart, LS (lsT intT) (upR x).1.fNext, .v (.slice none 0 0)] 25 false]⟩ (by kernel_rfl) ?_
                  refine WL.nil ?_
                  refine En.seq ?_
                  refine En.seq ?_
                  refine En.region ?_
                  refine WL.run ht hn 1 ⟨[(6, .sv (.one (.ptr 6 0))), (7, .sv (.one (.ptr 7 0))), (12, .sv (.one (.ptr 9 0))), (13, .sv (.one (I 0)))], [.gone, .gone, .gone, .gone, .gone, .gone, .box [I (upR x).1.fLetters, I (upR x).1.fStart, LS (lsT intT) (upR x).1.fNext, LS intT (upR x).1.fMark] 25 false, .box [I (downR x).1.fLetters, I (downR x).1.fStart, LS (lsT intT) (downR x).1.fNext, LS intT (downR x).1.fMark] 25 false, .gone, .box [I (upR x).1.fLetters, I (upR x).1.fStart, LS (lsT intT) (upR x).1.fNext, .v (.slice none 0 0)] 25 false]⟩ (by kernel_rfl) ?_
                  refine WL.nil ?_
                  refine En.block ?_
                  refine En.nilBoxO (T := intT) 9 3 10 3 (by rfl) (by rfl) (by rfl) (by rfl) ?_
                  obtain ⟨Inv, mu, h0, hI⟩ := h
                  refine En.loop (σ := Int × (List Int)) (fun zz => Inv zz.1 zz.2) (fun zz => mu zz.1 zz.2) (fun zz => ⟨[(6, .sv (.one (.ptr 6 0))), (7, .sv (.one (.ptr 7 0))), (12, .sv (.one (.ptr 9 0))), (13, .sv (.one (I zz.1)))], [.gone, .gone, .gone, .gone, .gone, .gone, .box [I (upR x).1.fLetters, I (upR x).1.fStart, LS (lsT intT) (upR x).1.fNext, LS intT (upR x).1.fMark] 25 false, .box [I (downR x).1.fLetters, I (downR x).1.fStart, LS (lsT intT) (downR x).1.fNext, LS intT (downR x).1.fMark] 25 false, .gone, .box [I (upR x).1.fLetters, I (upR x).1.fStart, LS (lsT intT) (upR x).1.fNext, .own 10] 25 false, rowI 3 intT zz.2]⟩) (0, ([] : (List Int))) h0 (sub_ok (by kernel_rfl)) ?_
                  rintro ⟨x13, l10⟩ h
                  replace h := hI _ _ h
                  show En c ⟨[(6, .sv (.one (.ptr 6 0))), (7, .sv (.one (.ptr 7 0))), (12, .sv (.one (.ptr 9 0))), (13, .sv (.one (I x13)))], [.gone, .gone, .gone, .gone, .gone, .gone, .box [I (upR x).1.fLetters, I (upR x).1.fStart, LS (lsT intT) (upR x).1.fNext, LS intT (upR x).1.fMark] 25 false, .box [I (downR x).1.fLetters, I (downR x).1.fStart, LS (lsT intT) (downR x).1.fNext, LS intT (downR x).1.fMark] 25 false, .gone, .box [I (upR x).1.fLetters, I (upR x).1.fStart, LS (lsT intT) (upR x).1.fNext, .own 10] 25 false, rowI 3 intT l10]⟩ _
                  refine En.seq ?_
                  refine En.seq ?_
                  refine En.region ?_
                  refine WL.run ht hn 5 ⟨[(6, .sv (.one (.ptr 6 0))), (7, .sv (.one (.ptr 7 0))), (12, .sv (.one (.ptr 9 0))), (13, .sv (.one (I x13))), (85, .sv (.one (B (decide (x13 < ((upR x).1.fMark.length : Int))))))], [.gone, .gone, .gone, .gone, .gone, .gone, .box [I (upR x).1.fLetters, I (upR x).1.fStart, LS (lsT intT) (upR x).1.fNext, LS intT (upR x).1.fMark] 25 false, .box [I (downR x).1.fLetters, I (downR x).1.fStart, LS (lsT intT) (downR x).1.fNext, LS intT (downR x).1.fMark] 25 false, .gone, .box [I (upR x).1.fLetters, I (upR x).1.fStart, LS (lsT intT) (upR x).1.fNext, .own 10] 25 false, rowI 3 intT l10]⟩ (by kernel_rfl) ?_
                  refine WL.nil ?_
                  refine En.cond (b := (decide (x13 < ((upR x).1.fMark.length : Int)))) (by kernel_rfl) (fun hb => ?_) (fun hb => ?_)
                  · replace h := h.1 hb
                    refine En.skip ?_
                    refine En.seq ?_
                    refine En.block ?_
                    obtain ⟨e_2, he_2, h⟩ := h
                    have hp_2 := h.1
                    replace h := h.2
                    refine En.regionA ⟨[(6, .sv (.one (.ptr 6 0))), (7, .sv (.one (.ptr 7 0))), (12, .sv (.one (.ptr 9 0))), (13, .sv (.one (I x13)))], [.sv (.one (.ptr 9 3)), .sv (.one (.own 10)), .sv (.one (.ptr 6 3)), .sv (.one (LS intT (upR x).1.fMark)), .sv (.one (I x13)), .sv (.one (.pe (svR (.one (I e_2))) 1)), .sv (.one (I e_2)), .sv (.one (I (wr (1 - e_2)))), .sv (.one (LS intT ([(wr (1 - e_2))] : (List Int)))), .sv (.one (.own 11)), .sv (.one (.ptr 9 3)), .tup []], [⟨.gone, none, none, none⟩, ⟨.gone, none, none, none⟩, ⟨.gone, none, none, none⟩, ⟨.gone, none, none, none⟩, ⟨.gone, none, none, none⟩, ⟨.gone, none, none, none⟩, ⟨.box [I (upR x).1.fLetters, I (upR x).1.fStart, LS (lsT intT) (upR x).1.fNext, LS intT (upR x).1.fMark] 25 false, none, none, none⟩, ⟨.box [I (downR x).1.fLetters, I (downR x).1.fStart, LS (lsT intT) (downR x).1.fNext, LS intT (downR x).1.fMark] 25 false, none, none, none⟩, ⟨.gone, none, none, none⟩, ⟨.box [I (upR x).1.fLetters, I (upR x).1.fStart, LS (lsT intT) (upR x).1.fNext, .own 10] 25 false, none, none, some (11, .box [I (upR x).1.fLetters, I (upR x).1.fStart, LS (lsT intT) (upR x).1.fNext, .own 11] 25 false)⟩, ⟨rowI 3 intT l10, none, some 9, none⟩, ⟨rowI 3 intT (l10 ++ ([(wr (1 - e_2))] : (List Int))), some 9, none, none⟩]⟩ ⟨[(6, .sv (.one (.ptr 6 0))), (7, .sv (.one (.ptr 7 0))), (12, .sv (.one (.ptr 9 0))), (13, .sv (.one (I x13)))], [.gone, .gone, .gone, .gone, .gone, .gone, .box [I (upR x).1.fLetters, I (upR x).1.fStart, LS (lsT intT) (upR x).1.fNext, LS intT (upR x).1.fMark] 25 false, .box [I (downR x).1.fLetters, I (downR x).1.fStart, LS (lsT intT) (downR x).1.fNext, LS intT (downR x).1.fMark] 25 false, .gone, .box [I (upR x).1.fLetters, I (upR x).1.fStart, LS (lsT intT) (upR x).1.fNext, .own 11] 25 false, .gone, rowI 3 intT (l10 ++ ([(wr (1 - e_2))] : (List Int)))]⟩ (by kernel_rfl) hn (by kernel_rfl) (by rfl) (by kernel_rfl) ?_ (by kernel_rfl) ?_
                    · exact ⟨.mt ⟨[(12, .sv (.one (.ptr 9 0)))], []⟩ [] none (by kernel_rfl) (by rfl) (mt_ev ht (by kernel_rfl)) rfl rfl rfl rfl,
    .mt ⟨[(88, .sv (.one (.ptr 9 3)))], [.gone, .gone, .gone, .gone, .gone, .gone, .gone, .gone, .gone, .box [I (upR x).1.fLetters, I (upR x).1.fStart, LS (lsT intT) (upR x).1.fNext, .own 10] 25 false]⟩ [] none (by kernel_rfl) (by rfl) (mt_ev ht (by kernel_rfl)) rfl rfl rfl rfl,
    .mt ⟨[(6, .sv (.one (.ptr 6 0)))], []⟩ [] none (by kernel_rfl) (by rfl) (mt_ev ht (by kernel_rfl)) rfl rfl rfl rfl,
    .mt ⟨[(90, .sv (.one (.ptr 6 3)))], [.gone, .gone, .gone, .gone, .gone, .gone, .box [I (upR x).1.fLetters, I (upR x).1.fStart, LS (lsT intT) (upR x).1.fNext, LS intT (upR x).1.fMark] 25 false]⟩ [] none (by kernel_rfl) (by rfl) (mt_ev ht (by kernel_rfl)) rfl rfl rfl rfl,
    .mt ⟨[(13, .sv (.one (I x13)))], []⟩ [] none (by kernel_rfl) (by rfl) (mt_ev ht (by kernel_rfl)) rfl rfl rfl rfl,
    .mt ⟨[(91, .sv (.one (LS intT (upR x).1.fMark))), (92, .sv (.one (I x13)))], []⟩ [] none (by kernel_rfl) (by rfl) (mt_val (val_index (T := intT) (l := (upR x).1.fMark) (i := x13) ht rfl (by rfl) (by rfl) (by rfl) (by rfl) (by rfl) (by rfl) he_2)) rfl rfl rfl rfl,
    .mt ⟨[(93, .sv (.one (.pe (svR (.one (I e_2))) 1)))], []⟩ [] none (by kernel_rfl) (by rfl) (mt_val (val_load (s := .one (I e_2)) ht rfl (by rfl) (by rfl) (by rfl) (by rfl) (by rfl))) rfl rfl rfl rfl,
    .mt ⟨[(94, .sv (.one (I e_2)))], []⟩ [] none (by kernel_rfl) (by rfl) (mt_ev ht (by kernel_rfl)) rfl rfl rfl rfl,
    .mt ⟨[(95, .sv (.one (I (wr (1 - e_2)))))], []⟩ [] none (by kernel_rfl) (by rfl) (mt_seal (q := 11) (e := 3) (mt_lit (T := intT) ([(wr (1 - e_2))] : (List Int)) (mt_bsl 11 (r := cellsOf intT ([(wr (1 - e_2))] : (List Int))) ht rfl (by rfl) (by rfl) (by rfl) (by kernel_rfl) (by rfl)) (fun _ h => by cases h) (fun _ => rfl) (fun _ => rfl) (by rfl) (Nat.le_of_ble_eq_true rfl))) rfl rfl rfl rfl,
    .mt ⟨[(89, .sv (.one (.own 10))), (96, .sv (.one (LS intT ([(wr (1 - e_2))] : (List Int)))))], [.gone, .gone, .gone, .gone, .gone, .gone, .gone, .gone, .gone, .gone, rowI 3 intT l10]⟩ [10] (some 11) (by kernel_rfl) (by rfl) (mt_append (T := intT) (l := l10) (es := ([(wr (1 - e_2))] : (List Int))) (p := 11) ht rfl (by rfl) (by rfl) (by rfl) (by rfl) (by decide) (by rfl) (by rfl) (srcLS (T := intT) (es := ([(wr (1 - e_2))] : (List Int))) (fun _ h => by cases h) (by decide) (by rfl)) (by exact hp_2) (by exact hp_2.le (by decide))) rfl rfl rfl rfl,
    .mt ⟨[(12, .sv (.one (.ptr 9 0)))], []⟩ [] none (by kernel_rfl) (by rfl) (mt_ev ht (by kernel_rfl)) rfl rfl rfl rfl,
    .mu ⟨[(97, .sv (.one (.own 11))), (98, .sv (.one (.ptr 9 3)))], [.gone, .gone, .gone, .gone, .gone, .gone, .gone, .gone, .gone, .box [I (upR x).1.fLetters, I (upR x).1.fStart, LS (lsT intT) (upR x).1.fNext, .own 10] 25 false]⟩ 9 _ _ rfl rfl (by kernel_rfl) (by rfl) (mu_store2 ht rfl (by rfl) (by rfl) (by rfl) (by rfl) (fun h => by cases h) (by rfl) (by rfl)) rfl rfl rfl rfl rfl rfl rfl,
    trivial⟩
                    · refine En.region ?_
                      refine WL.run ht hn 3 ⟨[(6, .sv (.one (.ptr 6 0))), (7, .sv (.one (.ptr 7 0))), (12, .sv (.one (.ptr 9 0))), (13, .sv (.one (I (wr (x13 + 1)))))], [.gone, .gone, .gone, .gone, .gone, .gone, .box [I (upR x).1.fLetters, I (upR x).1.fStart, LS (lsT intT) (upR x).1.fNext, LS intT (upR x).1.fMark] 25 false, .box [I (downR x).1.fLetters, I (downR x).1.fStart, LS (lsT intT) (downR x).1.fNext, LS intT (downR x).1.fMark] 25 false, .gone, .box [I (upR x).1.fLetters, I (upR x).1.fStart, LS (lsT intT) (upR x).1.fNext, .own 11] 25 false, .gone, rowI 3 intT (l10 ++ ([(wr (1 - e_2))] : (List Int)))]⟩ (by kernel_rfl) ?_
                      refine WL.nil ?_
                      refine En.move 11 10 (by rfl) (by rfl) ?_
                      exact En.at (I := fun zz => Inv zz.1 zz.2 ∧ mu zz.1 zz.2 < mu x13 l10) (T := fun zz => ⟨[(6, .sv (.one (.ptr 6 0))), (7, .sv (.one (.ptr 7 0))), (12, .sv (.one (.ptr 9 0))), (13, .sv (.one (I zz.1)))], [.gone, .gone, .gone, .gone, .gone, .gone, .box [I (upR x).1.fLetters, I (upR x).1.fStart, LS (lsT intT) (upR x).1.fNext, LS intT (upR x).1.fMark] 25 false, .box [I (downR x).1.fLetters, I (downR x).1.fStart, LS (lsT intT) (downR x).1.fNext, LS intT (downR x).1.fMark] 25 false, .gone, .box [I (upR x).1.fLetters, I (upR x).1.fStart, LS (lsT intT) (upR x).1.fNext, .own 10] 25 false, rowI 3 intT zz.2]⟩) ((wr (x13 + 1)), (l10 ++ ([(wr (1 - e_2))] : (List Int)))) h (by kernel_rfl)
                  · replace h := h.2 hb
                    refine En.exit rfl ?_
                    refine En.seq ?_
                    refine En.region ?_
                    refine WL.run ht hn 1 ⟨[(7, .sv (.one (.ptr 7 0))), (12, .sv (.one (.ptr 9 0))), (100, .sv (.agg [I (upR x).1.fLetters, I (upR x).1.fStart, LS (lsT intT) (upR x).1.fNext, .own 10]))], [.gone, .gone, .gone, .gone, .gone, .gone, .gone, .box [I (downR x).1.fLetters, I (downR x).1.fStart, LS (lsT intT) (downR x).1.fNext, LS intT (downR x).1.fMark] 25 false, .gone, .box [I (upR x).1.fLetters, I (upR x).1.fStart, LS (lsT intT) (upR x).1.fNext, .own 10] 25 false, rowI 3 intT l10]⟩ (by kernel_rfl) ?_
                    refine WL.seal (T := intT) (l := l10) (e := 3) 10 rfl ?_
                    refine WL.run ht hn 0 ⟨[(7, .sv (.one (.ptr 7 0))), (12, .sv (.one (.ptr 9 0))), (100, .sv (.agg [I (upR x).1.fLetters, I (upR x).1.fStart, LS (lsT intT) (upR x).1.fNext, LS intT l10]))], [.gone, .gone, .gone, .gone, .gone, .gone, .gone, .box [I (downR x).1.fLetters, I (downR x).1.fStart, LS (lsT intT) (downR x).1.fNext, LS intT (downR x).1.fMark] 25 false, .gone, .box [I (upR x).1.fLetters, I (upR x).1.fStart, LS (lsT intT) (upR x).1.fNext, LS intT l10] 25 false, .gone]⟩ (by kernel_rfl) ?_
                    refine WL.mt0 (K := []) (p := none) hn (by rfl) (mt_call (higDown_ct (ApiDet.mk (upR x).1.fLetters (upR x).1.fStart (upR x).1.fNext l10)) en17 (caps := []) [] rfl (by rfl) (by kernel_rfl) (by kernel_rfl) (by rfl) (by rfl) (by rfl)) (by rfl) (by rfl) (by rfl) ?_
                    refine WL.run ht hn 6 ⟨[(7, .sv (.one (.ptr 7 0))), (10, .sv (.one (I (downR (ApiDet.mk (upR x).1.fLetters (upR x).1.fStart (upR x).1.fNext l10)).2))), (12, .sv (.one (.ptr 9 0))), (14, .sv (.one (.ptr 11 0)))], [.gone, .gone, .gone, .gone, .gone, .gone, .gone, .box [I (downR x).1.fLetters, I (downR x).1.fStart, LS (lsT intT) (downR x).1.fNext, LS intT (downR x).1.fMark] 25 false, .gone, .box [I (upR x).1.fLetters, I (upR x).1.fStart, LS (lsT intT) (upR x).1.fNext, LS intT l10] 25 false, .gone, .box [I (downR (ApiDet.mk (upR x).1.fLetters (upR x).1.fStart (upR x).1.fNext l10)).1.fLetters, I (downR (ApiDet.mk (upR x).1.fLetters (upR x).1.fStart (upR x).1.fNext l10)).1.fStart, LS (lsT intT) (downR (ApiDet.mk (upR x).1.fLetters (upR x).1.fStart (upR x).1.fNext l10)).1.fNext, LS intT (downR (ApiDet.mk (upR x).1.fLetters (upR x).1.fStart (upR x).1.fNext l10)).1.fMark] 25 false]⟩ (by kernel_rfl) ?_
                    refine WL.nil ?_
                    refine En.seq ?_
                    refine En.region ?_
                    refine WL.run ht hn 1 ⟨[(7, .sv (.one (.ptr 7 0))), (10, .sv (.one (I (downR (ApiDet.mk (upR x).1.fLetters (upR x).1.fStart (upR x).1.fNext l10)).2))), (12, .sv (.one (.ptr 9 0))), (14, .sv (.one (.ptr 11 0))), (105, .sv (.agg [I (upR x).1.fLetters, I (upR x).1.fStart, LS (lsT intT) (upR x).1.fNext, LS intT l10]))], [.gone, .gone, .gone, .gone, .gone, .gone, .gone, .box [I (downR x).1.fLetters, I (downR x).1.fStart, LS (lsT intT) (downR x).1.fNext, LS intT (downR x).1.fMark] 25 false, .gone, .box [I (upR x).1.fLetters, I (upR x).1.fStart, LS (lsT intT) (upR x).1.fNext, LS intT l10] 25 false, .gone, .box [I (downR (ApiDet.mk (upR x).1.fLetters (upR x).1.fStart (upR x).1.fNext l10)).1.fLetters, I (downR (ApiDet.mk (upR x).1.fLetters (upR x).1.fStart (upR x).1.fNext l10)).1.fStart, LS (lsT intT) (downR (ApiDet.mk (upR x).1.fLetters (upR x).1.fStart (upR x).1.fNext l10)).1.fNext, LS intT (downR (ApiDet.mk (upR x).1.fLetters (upR x).1.fStart (upR x).1.fNext l10)).1.fMark] 25 false]⟩ (by kernel_rfl) ?_
                    refine WL.mt0 (K := []) (p := none) hn (by rfl) (mt_call (detLeast_ct (ApiDet.mk (upR x).1.fLetters (upR x).1.fStart (upR x).1.fNext l10)) en15 (caps := []) [] rfl (by rfl) (by kernel_rfl) (by kernel_rfl) (by rfl) (by rfl) (by rfl)) (by rfl) (by rfl) (by rfl) ?_
                    refine WL.run ht hn 5 ⟨[(7, .sv (.one (.ptr 7 0))), (8, .sv (.one (I (leastR (ApiDet.mk (upR x).1.fLetters (upR x).1.fStart (upR x).1.fNext l10)).2))), (10, .sv (.one (I (downR (ApiDet.mk (upR x).1.fLetters (upR x).1.fStart (upR x).1.fNext l10)).2))), (12, .sv (.one (.ptr 9 0))), (14, .sv (.one (.ptr 11 0)))], [.gone, .gone, .gone, .gone, .gone, .gone, .gone, .box [I (downR x).1.fLetters, I (downR x).1.fStart, LS (lsT intT) (downR x).1.fNext, LS intT (downR x).1.fMark] 25 false, .gone, .box [I (leastR (ApiDet.mk (upR x).1.fLetters (upR x).1.fStart (upR x).1.fNext l10)).1.fLetters, I (leastR (ApiDet.mk (upR x).1.fLetters (upR x).1.fStart (upR x).1.fNext l10)).1.fStart, LS (lsT intT) (leastR (ApiDet.mk (upR x).1.fLetters (upR x).1.fStart (upR x).1.fNext l10)).1.fNext, LS intT (leastR (ApiDet.mk (upR x).1.fLetters (upR x).1.fStart (upR x).1.fNext l10)).1.fMark] 25 false, .gone, .box [I (downR (ApiDet.mk (upR x).1.fLetters (upR x).1.fStart (upR x).1.fNext l10)).1.fLetters, I (downR (ApiDet.mk (upR x).1.fLetters (upR x).1.fStart (upR x).1.fNext l10)).1.fStart, LS (lsT intT) (downR (ApiDet.mk (upR x).1.fLetters (upR x).1.fStart (upR x).1.fNext l10)).1.fNext, LS intT (downR (ApiDet.mk (upR x).1.fLetters (upR x).1.fStart (upR x).1.fNext l10)).1.fMark] 25 false]⟩ (by kernel_rfl) ?_
                    refine WL.nil ?_
                    refine En.seq ?_
                    refine En.region ?_
                    refine WL.run ht hn 2 ⟨[(7, .sv (.one (.ptr 7 0))), (8, .sv (.one (I (leastR (ApiDet.mk (upR x).1.fLetters (upR x).1.fStart (upR x).1.fNext l10)).2))), (10, .sv (.one (I (downR (ApiDet.mk (upR x).1.fLetters (upR x).1.fStart (upR x).1.fNext l10)).2))), (109, .sv (.agg [I (downR (ApiDet.mk (upR x).1.fLetters (upR x).1.fStart (upR x).1.fNext l10)).1.fLetters, I (downR (ApiDet.mk (upR x).1.fLetters (upR x).1.fStart (upR x).1.fNext l10)).1.fStart, LS (lsT intT) (downR (ApiDet.mk (upR x).1.fLetters (upR x).1.fStart (upR x).1.fNext l10)).1.fNext, LS intT (downR (ApiDet.mk (upR x).1.fLetters (upR x).1.fStart (upR x).1.fNext l10)).1.fMark])), (110, .sv (.agg [I (leastR (ApiDet.mk (upR x).1.fLetters (upR x).1.fStart (upR x).1.fNext l10)).1.fLetters, I (leastR (ApiDet.mk (upR x).1.fLetters (upR x).1.fStart (upR x).1.fNext l10)).1.fStart, LS (lsT intT) (leastR (ApiDet.mk (upR x).1.fLetters (upR x).1.fStart (upR x).1.fNext l10)).1.fNext, LS intT (leastR (ApiDet.mk (upR x).1.fLetters (upR x).1.fStart (upR x).1.fNext l10)).1.fMark]))], [.gone, .gone, .gone, .gone, .gone, .gone, .gone, .box [I (downR x).1.fLetters, I (downR x).1.fStart, LS (lsT intT) (downR x).1.fNext, LS intT (downR x).1.fMark] 25 false, .gone, .gone, .gone, .gone]⟩ (by kernel_rfl) ?_
                    refine WL.mt0 (K := []) (p := none) hn (by rfl) (mt_call (alike_ct (downR (ApiDet.mk (upR x).1.fLetters (upR x).1.fStart (upR x).1.fNext l10)).1 (leastR (ApiDet.mk (upR x).1.fLetters (upR x).1.fStart (upR x).1.fNext l10)).1) en23 (caps := []) [] rfl (by rfl) (by kernel_rfl) (by kernel_rfl) (by rfl) (by rfl) (by rfl)) (by rfl) (by rfl) (by rfl) ?_
                    refine WL.run ht hn 1 ⟨[(7, .sv (.one (.ptr 7 0))), (8, .sv (.one (I (leastR (ApiDet.mk (upR x).1.fLetters (upR x).1.fStart (upR x).1.fNext l10)).2))), (10, .sv (.one (I (downR (ApiDet.mk (upR x).1.fLetters (upR x).1.fStart (upR x).1.fNext l10)).2))), (11, .sv (.one (B (decide ((downR (ApiDet.mk (upR x).1.fLetters (upR x).1.fStart (upR x).1.fNext l10)).1 = (leastR (ApiDet.mk (upR x).1.fLetters (upR x).1.fStart (upR x).1.fNext l10)).1)))))], [.gone, .gone, .gone, .gone, .gone, .gone, .gone, .box [I (downR x).1.fLetters, I (downR x).1.fStart, LS (lsT intT) (downR x).1.fNext, LS intT (downR x).1.fMark] 25 false, .gone, .gone, .gone, .gone]⟩ (by kernel_rfl) ?_
                    refine WL.nil ?_
                    refine En.seq ?_
                    refine En.region ?_
                    refine WL.run ht hn 3 ⟨[(7, .sv (.one (.ptr 7 0))), (8, .sv (.one (I (leastR (ApiDet.mk (upR x).1.fLetters (upR x).1.fStart (upR x).1.fNext l10)).2))), (11, .sv (.one (B (decide ((downR (ApiDet.mk (upR x).1.fLetters (upR x).1.fStart (upR x).1.fNext l10)).1 = (leastR (ApiDet.mk (upR x).1.fLetters (upR x).1.fStart (upR x).1.fNext l10)).1))))), (114, .sv (.one (B ((downR (ApiDet.mk (upR x).1.fLetters (upR x).1.fStart (upR x).1.fNext l10)).2 != 0))))], [.gone, .gone, .gone, .gone, .gone, .gone, .gone, .box [I (downR x).1.fLetters, I (downR x).1.fStart, LS (lsT intT) (downR x).1.fNext, LS intT (downR x).1.fMark] 25 false, .gone, .gone, .gone, .gone]⟩ (by kernel_rfl) ?_
                    refine WL.thru ⟨[(7, .sv (.one (.ptr 7 0))), (121, .sv (.one (B ((((downR (ApiDet.mk (upR x).1.fLetters (upR x).1.fStart (upR x).1.fNext l10)).2 != 0) || ((leastR (ApiDet.mk (upR x).1.fLetters (upR x).1.fStart (upR x).1.fNext l10)).2 != 0)) || (!(decide ((downR (ApiDet.mk (upR x).1.fLetters (upR x).1.fStart (upR x).1.fNext l10)).1 = (leastR (ApiDet.mk (upR x).1.fLetters (upR x).1.fStart (upR x).1.fNext l10)).1)))))))], [.gone, .gone, .gone, .gone, .gone, .gone, .gone, .box [I (downR x).1.fLetters, I (downR x).1.fStart, LS (lsT intT) (downR x).1.fNext, LS intT (downR x).1.fMark] 25 false, .gone, .gone, .gone, .gone]⟩ ?_ ?_
                    · refine splitB ((downR (ApiDet.mk (upR x).1.fLetters (upR x).1.fStart (upR x).1.fNext l10)).2 != 0) (fun hb0 => ?_) (fun hb0 => ?_)
                      · refine WL.setB 114 hb0 (by kernel_rfl) ?_
                        refine WL.run ht hn 7 ⟨[(7, .sv (.one (.ptr 7 0))), (121, .sv (.one (B true)))], [.gone, .gone, .gone, .gone, .gone, .gone, .gone, .box [I (downR x).1.fLetters, I (downR x).1.fStart, LS (lsT intT) (downR x).1.fNext, LS intT (downR x).1.fMark] 25 false, .gone, .gone, .gone, .gone]⟩ (by kernel_rfl) ?_
                        exact WL.nil (sub_ok (by simp only [hb0]; kernel_rfl))
                      · refine WL.setB 114 hb0 (by kernel_rfl) ?_
                        refine WL.run ht hn 4 ⟨[(7, .sv (.one (.ptr 7 0))), (11, .sv (.one (B (decide ((downR (ApiDet.mk (upR x).1.fLetters (upR x).1.fStart (upR x).1.fNext l10)).1 = (leastR (ApiDet.mk (upR x).1.fLetters (upR x).1.fStart (upR x).1.fNext l10)).1))))), (118, .sv (.one (B ((leastR (ApiDet.mk (upR x).1.fLetters (upR x).1.fStart (upR x).1.fNext l10)).2 != 0))))], [.gone, .gone, .gone, .gone, .gone, .gone, .gone, .box [I (downR x).1.fLetters, I (downR x).1.fStart, LS (lsT intT) (downR x).1.fNext, LS intT (downR x).1.fMark] 25 false, .gone, .gone, .gone, .gone]⟩ (by kernel_rfl) ?_
                        refine splitB ((leastR (ApiDet.mk (upR x).1.fLetters (upR x).1.fStart (upR x).1.fNext l10)).2 != 0) (fun hb1 => ?_) (fun hb1 => ?_)
                        · refine WL.setB 118 hb1 (by kernel_rfl) ?_
                          refine WL.run ht hn 3 ⟨[(7, .sv (.one (.ptr 7 0))), (121, .sv (.one (B true)))], [.gone, .gone, .gone, .gone, .gone, .gone, .gone, .box [I (downR x).1.fLetters, I (downR x).1.fStart, LS (lsT intT) (downR x).1.fNext, LS intT (downR x).1.fMark] 25 false, .gone, .gone, .gone, .gone]⟩ (by kernel_rfl) ?_
                          exact WL.nil (sub_ok (by simp only [hb0, hb1]; kernel_rfl))
                        · refine WL.setB 118 hb1 (by kernel_rfl) ?_
                          refine WL.run ht hn 3 ⟨[(7, .sv (.one (.ptr 7 0))), (121, .sv (.one (B (!(decide ((downR (ApiDet.mk (upR x).1.fLetters (upR x).1.fStart (upR x).1.fNext l10)).1 = (leastR (ApiDet.mk (upR x).1.fLetters (upR x).1.fStart (upR x).1.fNext l10)).1))))))], [.gone, .gone, .gone, .gone, .gone, .gone, .gone, .box [I (downR x).1.fLetters, I (downR x).1.fStart, LS (lsT intT) (downR x).1.fNext, LS intT (downR x).1.fMark] 25 false, .gone, .gone, .gone, .gone]⟩ (by kernel_rfl) ?_
                          exact WL.nil (sub_ok (by simp only [hb0, hb1]; kernel_rfl))
                    · refine En.cond (b := ((((downR (ApiDet.mk (upR x).1.fLetters (upR x).1.fStart (upR x).1.fNext l10)).2 != 0) || ((leastR (ApiDet.mk (upR x).1.fLetters (upR x).1.fStart (upR x).1.fNext l10)).2 != 0)) || (!(decide ((downR (ApiDet.mk (upR x).1.fLetters (upR x).1.fStart (upR x).1.fNext l10)).1 = (leastR (ApiDet.mk (upR x).1.fLetters (upR x).1.fStart (upR x).1.fNext l10)).1))))) (by kernel_rfl) (fun hb => ?_) (fun hb => ?_)
                      · replace h := h.1 hb
                        refine En.seq ?_
                        refine En.region ?_
                        refine WL.run ht hn 1 ⟨[(2, .sv (.one (B false)))], [.gone, .gone, .gone, .gone, .gone, .gone, .gone, .gone, .gone, .gone, .gone, .gone]⟩ (by kernel_rfl) ?_
                        refine WL.nil ?_
                        refine En.ret ?_
                        exact En.back ht false h (by kernel_rfl) rfl
                      · replace h := h.2 hb
                        refine En.skip ?_
                        exact En.at (I := fun _ => J_2) (T := fun _ => ⟨[(7, .sv (.one (.ptr 7 0)))], [.gone, .gone, .gone, .gone, .gone, .gone, .gone, .box [I (downR x).1.fLetters, I (downR x).1.fStart, LS (lsT intT) (downR x).1.fNext, LS intT (downR x).1.fMark] 25 false]⟩) () h (by kernel_rfl)
            · replace h := h.2 hb
              refine En.skip ?_
              exact En.at (I := fun _ => J_2) (T := fun _ => ⟨[(7, .sv (.one (.ptr 7 0)))], [.gone, .gone, .gone, .gone, .gone, .gone, .gone, .box [I (downR x).1.fLetters, I (downR x).1.fStart, LS (lsT intT) (downR x).1.fNext, LS intT (downR x).1.fMark] 25 false]⟩) () h (by kernel_rfl)
          · intro _ h
            replace h := hJ_2 h
            show En c ⟨[(7, .sv (.one (.ptr 7 0)))], [.gone, .gone, .gone, .gone, .gone, .gone, .gone, .box [I (downR x).1.fLetters, I (downR x).1.fStart, LS (lsT intT) (downR x).1.fNext, LS intT (downR x).1.fMark] 25 false]⟩ _
            obtain ⟨J_3, h, hJ_3⟩ := h
            refine En.seqJ (σ := Unit) (fun _ => J_3) (fun _ => ⟨[], [.gone, .gone, .gone, .gone, .gone, .gone, .gone, .gone]⟩) ?_ ?_
            · refine En.seq ?_
              refine En.region ?_
              refine WL.run ht hn 4 ⟨[(7, .sv (.one (.ptr 7 0))), (125, .sv (.one (B (decide (((downR x).1.fNext.length : Int) ≤ 5)))))], [.gone, .gone, .gone, .gone, .gone, .gone, .gone, .box [I (downR x).1.fLetters, I (downR x).1.fStart, LS (lsT intT) (downR x).1.fNext, LS intT (downR x).1.fMark] 25 false]⟩ (by kernel_rfl) ?_
              refine WL.nil ?_
              refine En.cond (b := (decide (((downR x).1.fNext.length : Int) ≤ 5))) (by kernel_rfl) (fun hb => ?_) (fun hb => ?_)
              · replace h := h.1 hb
                refine En.seq ?_
                refine En.region ?_
                refine WL.run ht hn 1 ⟨[(7, .sv (.one (.ptr 7 0))), (127, .sv (.agg [I (downR x).1.fLetters, I (downR x).1.fStart, LS (lsT intT) (downR x).1.fNext, LS intT (downR x).1.fMark]))], [.gone, .gone, .gone, .gone, .gone, .gone, .gone, .box [I (downR x).1.fLetters, I (downR x).1.fStart, LS (lsT intT) (downR x).1.fNext, LS intT (downR x).1.fMark] 25 false]⟩ (by kernel_rfl) ?_
                refine WL.mt0 (K := []) (p := none) hn (by rfl) (mt_call (higDown_ct (downR x).1) en17 (caps := []) [] rfl (by rfl) (by kernel_rfl) (by kernel_rfl) (by rfl) (by rfl) (by rfl)) (by rfl) (by rfl) (by rfl) ?_
                refine WL.run ht hn 6 ⟨[(7, .sv (.one (.ptr 7 0))), (15, .sv (.one (.ptr 8 0))), (16, .sv (.one (I (downR (downR x).1).2)))], [.gone, .gone, .gone, .gone, .gone, .gone, .gone, .box [I (downR x).1.fLetters, I (downR x).1.fStart, LS (lsT intT) (downR x).1.fNext, LS intT (downR x).1.fMark] 25 false, .box [I (downR (downR x).1).1.fLetters, I (downR (downR x).1).1.fStart, LS (lsT intT) (downR (downR x).1).1.fNext, LS intT (downR (downR x).1).1.fMark] 25 false]⟩ (by kernel_rfl) ?_
                refine WL.nil ?_
                refine En.seq ?_
                refine En.region ?_
                refine WL.run ht hn 2 ⟨[(16, .sv (.one (I (downR (downR x).1).2))), (131, .sv (.agg [I (downR (downR x).1).1.fLetters, I (downR (downR x).1).1.fStart, LS (lsT intT) (downR (downR x).1).1.fNext, LS intT (downR (downR x).1).1.fMark])), (132, .sv (.agg [I (downR x).1.fLetters, I (downR x).1.fStart, LS (lsT intT) (downR x).1.fNext, LS intT (downR x).1.fMark]))], [.gone, .gone, .gone, .gone, .gone, .gone, .gone, .gone, .gone]⟩ (by kernel_rfl) ?_
                refine WL.mt0 (K := []) (p := none) hn (by rfl) (mt_call (alike_ct (downR (downR x).1).1 (downR x).1) en23 (caps := []) [] rfl (by rfl) (by kernel_rfl) (by kernel_rfl) (by rfl) (by rfl) (by rfl)) (by rfl) (by rfl) (by rfl) ?_
                refine WL.run ht hn 1 ⟨[(16, .sv (.one (I (downR (downR x).1).2))), (17, .sv (.one (B (decide ((downR (downR x).1).1 = (downR x).1)))))], [.gone, .gone, .gone, .gone, .gone, .gone, .gone, .gone, .gone]⟩ (by kernel_rfl) ?_
                refine WL.nil ?_
                refine En.seq ?_
                refine En.region ?_
                refine WL.run ht hn 3 ⟨[(17, .sv (.one (B (decide ((downR (downR x).1).1 = (downR x).1))))), (136, .sv (.one (B ((downR (downR x).1).2 != 0))))], [.gone, .gone, .gone, .gone, .gone, .gone, .gone, .gone, .gone]⟩ (by kernel_rfl) ?_
                refine WL.thru ⟨[(139, .sv (.one (B (((downR (downR x).1).2 != 0) || (!(decide ((downR (downR x).1).1 = (downR x).1)))))))], [.gone, .gone, .gone, .gone, .gone, .gone, .gone, .gone, .gone]⟩ ?_ ?_
                · refine splitB ((downR (downR x).1).2 != 0) (fun hb0 => ?_) (fun hb0 => ?_)
                  · refine WL.setB 136 hb0 (by kernel_rfl) ?_
                    refine WL.run ht hn 3 ⟨[(139, .sv (.one (B true)))], [.gone, .gone, .gone, .gone, .gone, .gone, .gone, .gone, .gone]⟩ (by kernel_rfl) ?_
                    exact WL.nil (sub_ok (by simp only [hb0]; kernel_rfl))
                  · refine WL.setB 136 hb0 (by kernel_rfl) ?_
                    refine WL.run ht hn 3 ⟨[(139, .sv (.one (B (!(decide ((downR (downR x).1).1 = (downR x).1))))))], [.gone, .gone, .gone, .gone, .gone, .gone, .gone, .gone, .gone]⟩ (by kernel_rfl) ?_
                    exact WL.nil (sub_ok (by simp only [hb0]; kernel_rfl))
                · refine En.cond (b := (((downR (downR x).1).2 != 0) || (!(decide ((downR (downR x).1).1 = (downR x).1))))) (by kernel_rfl) (fun hb => ?_) (fun hb => ?_)
                  · replace h := h.1 hb
                    refine En.seq ?_
                    refine En.region ?_
                    refine WL.run ht hn 1 ⟨[(2, .sv (.one (B false)))], [.gone, .gone, .gone, .gone, .gone, .gone, .gone, .gone, .gone]⟩ (by kernel_rfl) ?_
                    refine WL.nil ?_
                    refine En.ret ?_
                    exact En.back ht false h (by kernel_rfl) rfl
                  · replace h := h.2 hb
                    refine En.skip ?_
                    exact En.at (I := fun _ => J_3) (T := fun _ => ⟨[], [.gone, .gone, .gone, .gone, .gone, .gone, .gone, .gone]⟩) () h (by kernel_rfl)
              · replace h := h.2 hb
                refine En.skip ?_
                exact En.at (I := fun _ => J_3) (T := fun _ => ⟨[], [.gone, .gone, .gone, .gone, .gone, .gone, .gone, .gone]⟩) () h (by kernel_rfl)
            · intro _ h
              replace h := hJ_3 h
              show En c ⟨[], [.gone, .gone, .gone, .gone, .gone, .gone, .gone, .gone]⟩ _
              refine En.seq ?_
              refine En.region ?_
              refine WL.run ht hn 1 ⟨[(2, .sv (.one (B true)))], [.gone, .gone, .gone, .gone, .gone, .gone, .gone, .gone]⟩ (by kernel_rfl) ?_
              refine WL.nil ?_
              refine En.ret ?_
              exact En.back ht true h (by kernel_rfl) rfl
theorem en5 : ∀ args w, (callFunc 5 args).run Try.prog w = .ok (.enter 5 args) w := enters_of Try.func5 (by kernel_rfl) rfl
theorem higmanTwice_ct (x : ApiDet)  : Ct 5 [.sv (.agg [I x.fLetters, I x.fStart, LS (lsT intT) x.fNext, LS intT x.fMark])] [] (fun (_ : Unit) => True) (fun _ => .sv (.one (B (true)))) := by
  refine (higmanTwice_walk x (fun res_ => res_ = (true)) ?_).fun
  intro _ _
  refine ⟨rfl, fun b => b = false, ⟨fun h => absurd h (by decide), fun _ => ⟨fun h => absurd h (by decide), fun _ => ⟨[0], rfl, rfl⟩⟩⟩, ?_⟩
  rintro _ rfl
  refine ⟨(fun h => by cases h), fun _ => ?_⟩
  by_cases h0 : smallErr x = 0
  rotate_left
  · have hu : (upR x).2 = smallErr x := by unfold upR; rw [if_neg h0]
    have hd : (downR x).2 = smallErr x := by unfold downR; rw [if_neg h0]
    rw [hu, hd]
    refine ⟨fun _ => by simp, fun h => ?_⟩
    simp [h0] at h
  have hx : smallD x := (smallErr_iff x).1 h0
  have hu : upR x = (upC x, 0) := by unfold upR; rw [if_pos h0]; rfl
  have hd : downR x = (downC x, 0) := by unfold downR; rw [if_pos h0]; rfl
  rw [hu, hd]
  simp only
  refine ⟨(fun h => absurd h (by decide)), fun _ => ⟨True, ⟨fun h5 => ?_, fun _ => trivial⟩, fun _ => ⟨True, ⟨fun h5 => ?_, fun _ => trivial⟩, fun _ => trivial⟩⟩⟩
  · have h5 : (upC x).fNext.length ≤ 5 := by have := of_decide_eq_true h5; omega
    rw [up_up hx h5]
    simp only
    refine ⟨fun h => absurd h (by simp), fun _ => ?_⟩
    have h01 := up_marks hx
    have hml : (upC x).fMark.length = (upC x).fNext.length := (upOk hx).wf.mark
    have key := up_down hx h5
    generalize upC x = D at h01 h5 hml key
    refine ⟨fun i l => ∃ k : Nat, i = k ∧ k ≤ D.fMark.length ∧ l = (D.fMark.take k).map fun m => 1 - m, fun i _ => D.fMark.length - i.toNat, ⟨0, rfl, Nat.zero_le _, by simp⟩, ?_⟩
    rintro i l ⟨k, rfl, hk, rfl⟩
    refine ⟨fun hb => ?_, fun hb => ?_⟩
    · have hlt := dlt hb
      have h1 := h01 _ (List.getElem_mem hlt)
      refine ⟨_, idx_at hlt, capOk_of (by simp only [List.length_map, List.length_take, List.length_cons, List.length_nil]; omega), ⟨k + 1, wsucc (by omega), hlt, ?_⟩, mu_up hlt (by omega)⟩
      rw [take_map hlt, wr_in (by omega) (by omega)]
    · rw [List.take_of_length_le (dge hb)]
      obtain ⟨C, h2, h3⟩ := key
      rw [h2, h3]
      simp only
      exact ⟨fun h => absurd h (by simp), fun _ => trivial⟩
  · have h5 : (downC x).fNext.length ≤ 5 := by have := of_decide_eq_true h5; omega
    rw [down_down hx h5]
    simp only
    exact ⟨fun h => absurd h (by simp), fun _ => trivial⟩
end Go.Proofs.Ytiinkohfldopbaa

