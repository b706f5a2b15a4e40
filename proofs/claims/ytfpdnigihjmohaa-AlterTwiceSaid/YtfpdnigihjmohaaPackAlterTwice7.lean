/- Lemmas towards the statement: mirrors of functions, and plain laws. No condition. -/
import Derived.Test.YtfpdnigihjmohaaPackAlterTwice6

/- The contract of AlterTwice. No condition. -/
namespace Go.Proofs.Ytfpdnigihjmohaa
open Go.RowKit Go.MapKept
set_option linter.unusedSimpArgs false
set_option linter.unusedVariables false
set_option maxRecDepth 100000

def sameWords_vc (u : (List Int)) (v : (List Int)) (Q : Bool → Prop) : Prop :=
  u.length ≤ 9223372036854775807 →
  v.length ≤ 9223372036854775807 →
  (IfP ((u.length : Int) != (v.length : Int)) (Q false) (∃ (Inv : Int → Prop) (mu : Int → Nat), Inv 0 ∧
  ∀ (x5 : Int) , Inv x5 → (IfP (decide (x5 < (u.length : Int))) (∃ e, idx u x5 = some e ∧
  ∃ e_2, idx v x5 = some e_2 ∧
  IfP (e != e_2) (Q false) ((Inv (wr (x5 + 1)) ∧ mu (wr (x5 + 1)) < mu x5))) (Q true))))
theorem sameWords_walk (u : (List Int)) (v : (List Int)) (Q : Bool → Prop) (h : sameWords_vc u v Q) : Ct 19 [.sv (.one (LS intT u)), .sv (.one (LS intT v))] [] Q (fun (r : Bool) => .sv (.one (B r))) := by
  have ht := tab_ok
  refine Ct.body Try.func19 rfl rfl rfl rfl (fun c hn => ?_)
  unfold sameWords_vc at h
  refine En.lenL 0 (by rfl) (fun hl => ?_)
  replace h := h hl
  clear hl
  refine En.lenL 1 (by rfl) (fun hl => ?_)
  replace h := h hl
  clear hl
  refine En.seq ?_
  refine En.region ?_
  refine WL.run ht hn 1 ⟨[(0, .sv (.one (LS intT u))), (1, .sv (.one (LS intT v)))], []⟩ (by kernel_rfl) ?_
  refine WL.nil ?_
  refine En.seq ?_
  refine En.seq ?_
  refine En.region ?_
  refine WL.run ht hn 5 ⟨[(0, .sv (.one (LS intT u))), (1, .sv (.one (LS intT v))), (10, .sv (.one (B ((u.length : Int) != (v.length : Int)))))], []⟩ (by kernel_rfl) ?_
  refine WL.nil ?_
  refine En.cond (b := ((u.length : Int) != (v.length : Int))) (by kernel_rfl) (fun hb => ?_) (fun hb => ?_)
  · replace h := h.1 hb
    refine En.seq ?_
    refine En.region ?_
    refine WL.run ht hn 1 ⟨[(4, .sv (.one (B false)))], []⟩ (by kernel_rfl) ?_
    refine WL.nil ?_
    refine En.ret ?_
    exact En.back ht false h (by kernel_rfl) rfl
  · replace h := h.2 hb
    refine En.skip ?_
    refine En.seq ?_
    refine En.seq ?_
    refine En.region ?_
    refine WL.run ht hn 1 ⟨[(0, .sv (.one (LS intT u))), (1, .sv (.one (LS intT v))), (5, .sv (.one (I 0)))], []⟩ (by kernel_rfl) ?_
    refine WL.nil ?_
    refine En.block ?_
    obtain ⟨Inv, mu, h0, hI⟩ := h
    refine En.loop (σ := Int) (fun zz => Inv zz) (fun zz => mu zz) (fun zz => ⟨[(0, .sv (.one (LS intT u))), (1, .sv (.one (LS intT v))), (5, .sv (.one (I zz)))], []⟩) 0 h0 (sub_ok (by kernel_rfl)) ?_
    intro x5 h
    replace h := hI _ h
    show En c ⟨[(0, .sv (.one (LS intT u))), (1, .sv (.one (LS intT v))), (5, .sv (.one (I x5)))], []⟩ _
    refine En.seq ?_
    refine En.seq ?_
    refine En.region ?_
    refine WL.run ht hn 4 ⟨[(0, .sv (.one (LS intT u))), (1, .sv (.one (LS intT v))), (5, .sv (.one (I x5))), (14, .sv (.one (B (decide (x5 < (u.length : Int))))))], []⟩ (by kernel_rfl) ?_
    refine WL.nil ?_
    refine En.cond (b := (decide (x5 < (u.length : Int)))) (by kernel_rfl) (fun hb => ?_) (fun hb => ?_)
    · replace h := h.1 hb
      refine En.skip ?_
      refine En.seq ?_
      refine En.block ?_
      refine En.seq ?_
      refine En.regionS (by kernel_rfl) (by kernel_rfl) ?_
      refine SL.run ht hn 2 ⟨[(0, .sv (.one (LS intT u))), (1, .sv (.one (LS intT v))), (5, .sv (.one (I x5))), (17, .sv (.one (LS intT u))), (18, .sv (.one (I x5)))], []⟩ (by kernel_rfl) ?_
      obtain ⟨e, he, h⟩ := h
      refine SL.val hn (by rfl) (val_index (T := intT) (l := u) (i := x5) ht rfl (by rfl) (by rfl) (by rfl) (by rfl) (by rfl) (by rfl) he) (by rfl) ?_
      refine SL.val hn (by rfl) (val_load (s := .one (I e)) ht rfl (by rfl) (by rfl) (by rfl) (by rfl) (by rfl)) (by rfl) ?_
      refine SL.run ht hn 2 ⟨[(0, .sv (.one (LS intT u))), (1, .sv (.one (LS intT v))), (5, .sv (.one (I x5))), (17, .sv (.one (LS intT u))), (18, .sv (.one (I x5))), (19, .sv (.one (.pe (svR (.one (I e))) 1))), (20, .sv (.one (I e))), (21, .sv (.one (LS intT v))), (22, .sv (.one (I x5)))], []⟩ (by kernel_rfl) ?_
      obtain ⟨e_2, he_2, h⟩ := h
      refine SL.val hn (by rfl) (val_index (T := intT) (l := v) (i := x5) ht rfl (by rfl) (by rfl) (by rfl) (by rfl) (by rfl) (by rfl) he_2) (by rfl) ?_
      refine SL.val hn (by rfl) (val_load (s := .one (I e_2)) ht rfl (by rfl) (by rfl) (by rfl) (by rfl) (by rfl)) (by rfl) ?_
      refine SL.run ht hn 1 ⟨[(0, .sv (.one (LS intT u))), (1, .sv (.one (LS intT v))), (5, .sv (.one (I x5))), (17, .sv (.one (LS intT u))), (18, .sv (.one (I x5))), (19, .sv (.one (.pe (svR (.one (I e))) 1))), (20, .sv (.one (I e))), (21, .sv (.one (LS intT v))), (22, .sv (.one (I x5))), (23, .sv (.one (.pe (svR (.one (I e_2))) 1))), (24, .sv (.one (I e_2))), (25, .sv (.one (B (e != e_2))))], []⟩ (by kernel_rfl) ?_
      refine SL.nil ⟨by kernel_rfl, ?_⟩
      refine En.cond (b := (e != e_2)) (by kernel_rfl) (fun hb => ?_) (fun hb => ?_)
      · replace h := h.1 hb
        refine En.seq ?_
        refine En.region ?_
        refine WL.run ht hn 1 ⟨[(4, .sv (.one (B false)))], []⟩ (by kernel_rfl) ?_
        refine WL.nil ?_
        refine En.ret ?_
        exact En.back ht false h (by kernel_rfl) rfl
      · replace h := h.2 hb
        refine En.skip ?_
        refine En.region ?_
        refine WL.run ht hn 3 ⟨[(0, .sv (.one (LS intT u))), (1, .sv (.one (LS intT v))), (5, .sv (.one (I (wr (x5 + 1)))))], []⟩ (by kernel_rfl) ?_
        refine WL.nil ?_
        exact En.at (I := fun zz => Inv zz ∧ mu zz < mu x5) (T := fun zz => ⟨[(0, .sv (.one (LS intT u))), (1, .sv (.one (LS intT v))), (5, .sv (.one (I zz)))], []⟩) (wr (x5 + 1)) h (by kernel_rfl)
    · replace h := h.2 hb
      refine En.exit rfl ?_
      refine En.seq ?_
      refine En.region ?_
      refine WL.run ht hn 1 ⟨[(4, .sv (.one (B true)))], []⟩ (by kernel_rfl) ?_
      refine WL.nil ?_
      refine En.ret ?_
      exact En.back ht true h (by kernel_rfl) rfl
theorem en19 : ∀ args w, (callFunc 19 args).run Try.prog w = .ok (.enter 19 args) w := enters_of Try.func19 (by kernel_rfl) rfl
theorem sameWords_ct (u : (List Int)) (v : (List Int))  : Ct 19 [.sv (.one (LS intT u)), .sv (.one (LS intT v))] [] (fun (_ : Unit) => True) (fun _ => .sv (.one (B (decide (u = v))))) := by
  refine (sameWords_walk u v (fun res_ => res_ = (decide (u = v))) ?_).fun
  intro hl _
  refine ⟨fun h => ?_, fun h => ?_⟩
  · exact (decide_eq_false (fun e => by rw [e] at h; simp at h)).symm
  have hlen : u.length = v.length := by have : (u.length : Int) = v.length := by simpa using h
                                        omega
  refine ⟨fun i => ∃ k : Nat, i = k ∧ k ≤ u.length ∧ u.take k = v.take k, fun i => u.length - i.toNat, ⟨0, rfl, Nat.zero_le _, rfl⟩, ?_⟩
  rintro i ⟨k, rfl, hk, ht⟩
  refine ⟨fun hb => ?_, fun hb => ?_⟩
  · have hlt := dlt hb
    have hlt' : k < v.length := by omega
    refine ⟨_, idx_at hlt, _, idx_at hlt', fun hne => ?_, fun he => ⟨⟨k + 1, ?_, hlt, ?_⟩, ?_⟩⟩
    · exact (decide_eq_false (fun e => by subst e; simp at hne)).symm
    · rw [wr_in (by omega) (by omega)]; omega
    · rw [List.take_add_one, List.take_add_one, ht, List.getElem?_eq_getElem hlt, List.getElem?_eq_getElem hlt', show u[k] = v[k] by simpa using he]
    · rw [wr_in (by omega) (by omega)]; simp only; omega
  · have hge := dge hb
    rw [List.take_of_length_le hge, List.take_of_length_le (by omega)] at ht
    exact (decide_eq_true ht).symm
def alike_vc (a : ApiDet) (b : ApiDet) (Q : Bool → Prop) : Prop :=
  a.fNext.length ≤ 9223372036854775807 →
  a.fMark.length ≤ 9223372036854775807 →
  b.fNext.length ≤ 9223372036854775807 →
  b.fMark.length ≤ 9223372036854775807 →
  (IfP (((a.fLetters != b.fLetters) || (a.fStart != b.fStart)) || ((a.fNext.length : Int) != (b.fNext.length : Int))) (Q false) (∃ (Inv : Bool → Int → Prop) (mu : Bool → Int → Nat), Inv (decide (a.fMark = b.fMark)) 0 ∧
  ∀ (x5 : Bool) (x6 : Int) , Inv x5 x6 → (IfP ((decide (x6 < (a.fNext.length : Int))) && x5) (∃ e, idx a.fNext x6 = some e ∧
  ∃ e_2, idx b.fNext x6 = some e_2 ∧
  (Inv (decide (e = e_2)) (wr (x6 + 1)) ∧ mu (decide (e = e_2)) (wr (x6 + 1)) < mu x5 x6)) (Q x5))))
theorem alike_walk (a : ApiDet) (b : ApiDet) (Q : Bool → Prop) (h : alike_vc a b Q) : Ct 34 [.sv (.agg [I a.fLetters, I a.fStart, LS (lsT intT) a.fNext, LS intT a.fMark]), .sv (.agg [I b.fLetters, I b.fStart, LS (lsT intT) b.fNext, LS intT b.fMark])] [] Q (fun (r : Bool) => .sv (.one (B r))) := by
  have ht := tab_ok
  refine Ct.body Try.func34 rfl rfl rfl rfl (fun c hn => ?_)
  unfold alike_vc at h
  refine En.lenA 0 2 (by rfl) (by rfl) (fun hl => ?_)
  replace h := h hl
  clear hl
  refine En.lenA 0 3 (by rfl) (by rfl) (fun hl => ?_)
  replace h := h hl
  clear hl
  refine En.lenA 1 2 (by rfl) (by rfl) (fun hl => ?_)
  replace h := h hl
  clear hl
  refine En.lenA 1 3 (by rfl) (by rfl) (fun hl => ?_)
  replace h := h hl
  clear hl
  refine En.seq ?_
  refine En.region ?_
  refine WL.run ht hn 3 ⟨[(2, .sv (.one (.ptr 0 0))), (3, .sv (.one (.ptr 1 0)))], [.box [I a.fLetters, I a.fStart, LS (lsT intT) a.fNext, LS intT a.fMark] 80 false, .box [I b.fLetters, I b.fStart, LS (lsT intT) b.fNext, LS intT b.fMark] 80 false]⟩ (by kernel_rfl) ?_
  refine WL.nil ?_
  refine En.seq ?_
  refine En.seq ?_
  refine En.region ?_
  refine WL.run ht hn 6 ⟨[(2, .sv (.one (.ptr 0 0))), (3, .sv (.one (.ptr 1 0))), (12, .sv (.one (B (a.fLetters != b.fLetters))))], [.box [I a.fLetters, I a.fStart, LS (lsT intT) a.fNext, LS intT a.fMark] 80 false, .box [I b.fLetters, I b.fStart, LS (lsT intT) b.fNext, LS intT b.fMark] 80 false]⟩ (by kernel_rfl) ?_
  refine WL.thru ⟨[(2, .sv (.one (.ptr 0 0))), (3, .sv (.one (.ptr 1 0))), (27, .sv (.one (B (((a.fLetters != b.fLetters) || (a.fStart != b.fStart)) || ((a.fNext.length : Int) != (b.fNext.length : Int))))))], [.box [I a.fLetters, I a.fStart, LS (lsT intT) a.fNext, LS intT a.fMark] 80 false, .box [I b.fLetters, I b.fStart, LS (lsT intT) b.fNext, LS intT b.fMark] 80 false]⟩ ?_ ?_
  · refine splitB (a.fLetters != b.fLetters) (fun hb0 => ?_) (fun hb0 => ?_)
    · refine WL.setB 12 hb0 (by kernel_rfl) ?_
      refine WL.run ht hn 15 ⟨[(2, .sv (.one (.ptr 0 0))), (3, .sv (.one (.ptr 1 0))), (27, .sv (.one (B true)))], [.box [I a.fLetters, I a.fStart, LS (lsT intT) a.fNext, LS intT a.fMark] 80 false, .box [I b.fLetters, I b.fStart, LS (lsT intT) b.fNext, LS intT b.fMark] 80 false]⟩ (by kernel_rfl) ?_
      exact WL.nil (sub_ok (by simp only [hb0]; kernel_rfl))
    · refine WL.setB 12 hb0 (by kernel_rfl) ?_
      refine WL.run ht hn 7 ⟨[(2, .sv (.one (.ptr 0 0))), (3, .sv (.one (.ptr 1 0))), (19, .sv (.one (B (a.fStart != b.fStart))))], [.box [I a.fLetters, I a.fStart, LS (lsT intT) a.fNext, LS intT a.fMark] 80 false, .box [I b.fLetters, I b.fStart, LS (lsT intT) b.fNext, LS intT b.fMark] 80 false]⟩ (by kernel_rfl) ?_
      refine splitB (a.fStart != b.fStart) (fun hb1 => ?_) (fun hb1 => ?_)
      · refine WL.setB 19 hb1 (by kernel_rfl) ?_
        refine WL.run ht hn 8 ⟨[(2, .sv (.one (.ptr 0 0))), (3, .sv (.one (.ptr 1 0))), (27, .sv (.one (B true)))], [.box [I a.fLetters, I a.fStart, LS (lsT intT) a.fNext, LS intT a.fMark] 80 false, .box [I b.fLetters, I b.fStart, LS (lsT intT) b.fNext, LS intT b.fMark] 80 false]⟩ (by kernel_rfl) ?_
        exact WL.nil (sub_ok (by simp only [hb0, hb1]; kernel_rfl))
      · refine WL.setB 19 hb1 (by kernel_rfl) ?_
        refine WL.run ht hn 8 ⟨[(2, .sv (.one (.ptr 0 0))), (3, .sv (.one (.ptr 1 0))), (27, .sv (.one (B ((a.fNext.length : Int) != (b.fNext.length : Int)))))], [.box [I a.fLetters, I a.fStart, LS (lsT intT) a.fNext, LS intT a.fMark] 80 false, .box [I b.fLetters, I b.fStart, LS (lsT intT) b.fNext, LS intT b.fMark] 80 false]⟩ (by kernel_rfl) ?_
        exact WL.nil (sub_ok (by simp only [hb0, hb1]; kernel_rfl))
  · refine En.cond (b := (((a.fLetters != b.fLetters) || (a.fStart != b.fStart)) || ((a.fNext.length : Int) != (b.fNext.length : Int)))) (by kernel_rfl) (fun hb => ?_) (fun hb => ?_)
    · replace h := h.1 hb
      refine En.seq ?_
      refine En.region ?_
      refine WL.run ht hn 1 ⟨[(4, .sv (.one (B false)))], [.gone, .gone]⟩ (by kernel_rfl) ?_
      refine WL.nil ?_
      refine En.ret ?_
      exact En.back ht false h (by kernel_rfl) rfl
    · replace h := h.2 hb
      refine En.skip ?_
      refine En.seq ?_
      refine En.region ?_
      refine WL.run ht hn 4 ⟨[(2, .sv (.one (.ptr 0 0))), (3, .sv (.one (.ptr 1 0))), (29, .sv (.one (LS intT a.fMark))), (31, .sv (.one (LS intT b.fMark)))], [.box [I a.fLetters, I a.fStart, LS (lsT intT) a.fNext, LS intT a.fMark] 80 false, .box [I b.fLetters, I b.fStart, LS (lsT intT) b.fNext, LS intT b.fMark] 80 false]⟩ (by kernel_rfl) ?_
      refine WL.mt0 (K := []) (p := none) hn (by rfl) (mt_call (sameWords_ct a.fMark b.fMark) en19 (caps := []) [] rfl (by rfl) (by kernel_rfl) (by kernel_rfl) (by rfl) (by rfl) (by rfl)) (by rfl) (by rfl) (by rfl) ?_
      refine WL.run ht hn 1 ⟨[(2, .sv (.one (.ptr 0 0))), (3, .sv (.one (.ptr 1 0))), (5, .sv (.one (B (decide (a.fMark = b.fMark)))))], [.box [I a.fLetters, I a.fStart, LS (lsT intT) a.fNext, LS intT a.fMark] 80 false, .box [I b.fLetters, I b.fStart, LS (lsT intT) b.fNext, LS intT b.fMark] 80 false]⟩ (by kernel_rfl) ?_
      refine WL.nil ?_
      refine En.seq ?_
      refine En.seq ?_
      refine En.region ?_
      refine WL.run ht hn 1 ⟨[(2, .sv (.one (.ptr 0 0))), (3, .sv (.one (.ptr 1 0))), (5, .sv (.one (B (decide (a.fMark = b.fMark))))), (6, .sv (.one (I 0)))], [.box [I a.fLetters, I a.fStart, LS (lsT intT) a.fNext, LS intT a.fMark] 80 false, .box [I b.fLetters, I b.fStart, LS (lsT intT) b.fNext, LS intT b.fMark] 80 false]⟩ (by kernel_rfl) ?_
      refine WL.nil ?_
      refine En.block ?_
      obtain ⟨Inv, mu, h0, hI⟩ := h
      refine En.loop (σ := Bool × Int) (fun zz => Inv zz.1 zz.2) (fun zz => mu zz.1 zz.2) (fun zz => ⟨[(2, .sv (.one (.ptr 0 0))), (3, .sv (.one (.ptr 1 0))), (5, .sv (.one (B zz.1))), (6, .sv (.one (I zz.2)))], [.box [I a.fLetters, I a.fStart, LS (lsT intT) a.fNext, LS intT a.fMark] 80 false, .box [I b.fLetters, I b.fStart, LS (lsT intT) b.fNext, LS intT b.fMark] 80 false]⟩) ((decide (a.fMark = b.fMark)), 0) h0 (sub_ok (by kernel_rfl)) ?_
      rintro ⟨x5, x6⟩ h
      replace h := hI _ _ h
      show En c ⟨[(2, .sv (.one (.ptr 0 0))), (3, .sv (.one (.ptr 1 0))), (5, .sv (.one (B x5))), (6, .sv (.one (I x6)))], [.box [I a.fLetters, I a.fStart, LS (lsT intT) a.fNext, LS intT a.fMark] 80 false, .box [I b.fLetters, I b.fStart, LS (lsT intT) b.fNext, LS intT b.fMark] 80 false]⟩ _
      refine En.seq ?_
      refine En.seq ?_
      refine En.region ?_
      refine WL.run ht hn 6 ⟨[(2, .sv (.one (.ptr 0 0))), (3, .sv (.one (.ptr 1 0))), (5, .sv (.one (B x5))), (6, .sv (.one (I x6))), (38, .sv (.one (B (decide (x6 < (a.fNext.length : Int))))))], [.box [I a.fLetters, I a.fStart, LS (lsT intT) a.fNext, LS intT a.fMark] 80 false, .box [I b.fLetters, I b.fStart, LS (lsT intT) b.fNext, LS intT b.fMark] 80 false]⟩ (by kernel_rfl) ?_
      refine WL.thru ⟨[(2, .sv (.one (.ptr 0 0))), (3, .sv (.one (.ptr 1 0))), (5, .sv (.one (B x5))), (6, .sv (.one (I x6))), (40, .sv (.one (B ((decide (x6 < (a.fNext.length : Int))) && x5))))], [.box [I a.fLetters, I a.fStart, LS (lsT intT) a.fNext, LS intT a.fMark] 80 false, .box [I b.fLetters, I b.fStart, LS (lsT intT) b.fNext, LS intT b.fMark] 80 false]⟩ ?_ ?_
      · refine splitB (decide (x6 < (a.fNext.length : Int))) (fun hb0 => ?_) (fun hb0 => ?_)
        · refine WL.setB 38 hb0 (by kernel_rfl) ?_
          refine WL.run ht hn 2 ⟨[(2, .sv (.one (.ptr 0 0))), (3, .sv (.one (.ptr 1 0))), (5, .sv (.one (B x5))), (6, .sv (.one (I x6))), (40, .sv (.one (B x5)))], [.box [I a.fLetters, I a.fStart, LS (lsT intT) a.fNext, LS intT a.fMark] 80 false, .box [I b.fLetters, I b.fStart, LS (lsT intT) b.fNext, LS intT b.fMark] 80 false]⟩ (by kernel_rfl) ?_
          exact WL.nil (sub_ok (by simp only [hb0]; kernel_rfl))
        · refine WL.setB 38 hb0 (by kernel_rfl) ?_
          refine WL.run ht hn 2 ⟨[(2, .sv (.one (.ptr 0 0))), (3, .sv (.one (.ptr 1 0))), (5, .sv (.one (B x5))), (6, .sv (.one (I x6))), (40, .sv (.one (B false)))], [.box [I a.fLetters, I a.fStart, LS (lsT intT) a.fNext, LS intT a.fMark] 80 false, .box [I b.fLetters, I b.fStart, LS (lsT intT) b.fNext, LS intT b.fMark] 80 false]⟩ (by kernel_rfl) ?_
          exact WL.nil (sub_ok (by simp only [hb0]; kernel_rfl))
      · refine En.cond (b := ((decide (x6 < (a.fNext.length : Int))) && x5)) (by kernel_rfl) (fun hb => ?_) (fun hb => ?_)
        · replace h := h.1 hb
          refine En.skip ?_
          refine En.seq ?_
          refine En.block ?_
          obtain ⟨e, he, h⟩ := h
          obtain ⟨e_2, he_2, h⟩ := h
          refine En.regionA ⟨[(2, .sv (.one (.ptr 0 0))), (3, .sv (.one (.ptr 1 0))), (6, .sv (.one (I x6)))], [.sv (.one (.ptr 0 2)), .sv (.one (LS (lsT intT) a.fNext)), .sv (.one (I x6)), .sv (.one (.pe (svR (.one (LS intT e))) 1)), .sv (.one (LS intT e)), .sv (.one (.ptr 1 2)), .sv (.one (LS (lsT intT) b.fNext)), .sv (.one (I x6)), .sv (.one (.pe (svR (.one (LS intT e_2))) 1)), .sv (.one (LS intT e_2)), .sv (.one (B (decide (e = e_2)))), .sv (.one (B (decide (e = e_2))))], [⟨.box [I a.fLetters, I a.fStart, LS (lsT intT) a.fNext, LS intT a.fMark] 80 false, none, none, none⟩, ⟨.box [I b.fLetters, I b.fStart, LS (lsT intT) b.fNext, LS intT b.fMark] 80 false, none, none, none⟩]⟩ ⟨[(2, .sv (.one (.ptr 0 0))), (3, .sv (.one (.ptr 1 0))), (5, .sv (.one (B (decide (e = e_2))))), (6, .sv (.one (I x6)))], [.box [I a.fLetters, I a.fStart, LS (lsT intT) a.fNext, LS intT a.fMark] 80 false, .box [I b.fLetters, I b.fStart, LS (lsT intT) b.fNext, LS intT b.fMark] 80 false]⟩ (by kernel_rfl) hn (by kernel_rfl) (by rfl) (by kernel_rfl) ?_ (by kernel_rfl) ?_
          · exact ⟨.mt ⟨[(2, .sv (.one (.ptr 0 0)))], []⟩ [] none (by kernel_rfl) (by rfl) (mt_ev ht (by kernel_rfl)) rfl rfl rfl rfl,
    .mt ⟨[(43, .sv (.one (.ptr 0 2)))], [.box [I a.fLetters, I a.fStart, LS (lsT intT) a.fNext, LS intT a.fMark] 80 false]⟩ [] none (by kernel_rfl) (by rfl) (mt_ev ht (by kernel_rfl)) rfl rfl rfl rfl,
    .mt ⟨[(6, .sv (.one (I x6)))], []⟩ [] none (by kernel_rfl) (by rfl) (mt_ev ht (by kernel_rfl)) rfl rfl rfl rfl,
    .mt ⟨[(44, .sv (.one (LS (lsT intT) a.fNext))), (45, .sv (.one (I x6)))], []⟩ [] none (by kernel_rfl) (by rfl) (mt_val (val_index (T := (lsT intT)) (l := a.fNext) (i := x6) ht rfl (by rfl) (by rfl) (by rfl) (by rfl) (by rfl) (by rfl) he)) rfl rfl rfl rfl,
    .mt ⟨[(46, .sv (.one (.pe (svR (.one (LS intT e))) 1)))], []⟩ [] none (by kernel_rfl) (by rfl) (mt_val (val_load (s := .one (LS intT e)) ht rfl (by rfl) (by rfl) (by rfl) (by rfl) (by rfl))) rfl rfl rfl rfl,
    .mt ⟨[(3, .sv (.one (.ptr 1 0)))], []⟩ [] none (by kernel_rfl) (by rfl) (mt_ev ht (by kernel_rfl)) rfl rfl rfl rfl,
    .mt ⟨[(48, .sv (.one (.ptr 1 2)))], [.gone, .box [I b.fLetters, I b.fStart, LS (lsT intT) b.fNext, LS intT b.fMark] 80 false]⟩ [] none (by kernel_rfl) (by rfl) (mt_ev ht (by kernel_rfl)) rfl rfl rfl rfl,
    .mt ⟨[(6, .sv (.one (I x6)))], []⟩ [] none (by kernel_rfl) (by rfl) (mt_ev ht (by kernel_rfl)) rfl rfl rfl rfl,
    .mt ⟨[(49, .sv (.one (LS (lsT intT) b.fNext))), (50, .sv (.one (I x6)))], []⟩ [] none (by kernel_rfl) (by rfl) (mt_val (val_index (T := (lsT intT)) (l := b.fNext) (i := x6) ht rfl (by rfl) (by rfl) (by rfl) (by rfl) (by rfl) (by rfl) he_2)) rfl rfl rfl rfl,
    .mt ⟨[(51, .sv (.one (.pe (svR (.one (LS intT e_2))) 1)))], []⟩ [] none (by kernel_rfl) (by rfl) (mt_val (val_load (s := .one (LS intT e_2)) ht rfl (by rfl) (by rfl) (by rfl) (by rfl) (by rfl))) rfl rfl rfl rfl,
    .mt ⟨[(47, .sv (.one (LS intT e))), (52, .sv (.one (LS intT e_2)))], []⟩ [] none (by kernel_rfl) (by rfl) (mt_call (sameWords_ct e e_2) en19 (caps := []) [] rfl (by rfl) (by kernel_rfl) (by kernel_rfl) (by rfl) (by rfl) (by rfl)) rfl rfl rfl rfl,
    .mt ⟨[(53, .sv (.one (B (decide (e = e_2)))))], []⟩ [] none (by kernel_rfl) (by rfl) (mt_ev ht (by kernel_rfl)) rfl rfl rfl rfl,
    trivial⟩
          · refine En.region ?_
            refine WL.run ht hn 3 ⟨[(2, .sv (.one (.ptr 0 0))), (3, .sv (.one (.ptr 1 0))), (5, .sv (.one (B (decide (e = e_2))))), (6, .sv (.one (I (wr (x6 + 1)))))], [.box [I a.fLetters, I a.fStart, LS (lsT intT) a.fNext, LS intT a.fMark] 80 false, .box [I b.fLetters, I b.fStart, LS (lsT intT) b.fNext, LS intT b.fMark] 80 false]⟩ (by kernel_rfl) ?_
            refine WL.nil ?_
            exact En.at (I := fun zz => Inv zz.1 zz.2 ∧ mu zz.1 zz.2 < mu x5 x6) (T := fun zz => ⟨[(2, .sv (.one (.ptr 0 0))), (3, .sv (.one (.ptr 1 0))), (5, .sv (.one (B zz.1))), (6, .sv (.one (I zz.2)))], [.box [I a.fLetters, I a.fStart, LS (lsT intT) a.fNext, LS intT a.fMark] 80 false, .box [I b.fLetters, I b.fStart, LS (lsT intT) b.fNext, LS intT b.fMark] 80 false]⟩) ((decide (e = e_2)), (wr (x6 + 1))) h (by kernel_rfl)
        · replace h := h.2 hb
          refine En.exit rfl ?_
          refine En.seq ?_
          refine En.region ?_
          refine WL.run ht hn 2 ⟨[(4, .sv (.one (B x5)))], [.gone, .gone]⟩ (by kernel_rfl) ?_
          refine WL.nil ?_
          refine En.ret ?_
          exact En.back ht x5 h (by kernel_rfl) rfl
theorem en34 : ∀ args w, (callFunc 34 args).run Try.prog w = .ok (.enter 34 args) w := enters_of Try.func34 (by kernel_rfl) rfl
theorem alike_ct (a : ApiDet) (b : ApiDet)  : Ct 34 [.sv (.agg [I a.fLetters, I a.fStart, LS (lsT intT) a.fNext, LS intT a.fMark]), .sv (.agg [I b.fLetters, I b.fStart, LS (lsT intT) b.fNext, LS intT b.fMark])] [] (fun (_ : Unit) => True) (fun _ => .sv (.one (B (decide (a = b))))) := by
  refine (alike_walk a b (fun res_ => res_ = (decide (a = b))) ?_).fun
  intro hl _ _ _
  refine ⟨fun h => ?_, fun h => ?_⟩
  · exact (decide_eq_false (fun e => by subst e; simp at h)).symm
  simp only [Bool.or_eq_false_iff, bne_eq_false_iff_eq] at h
  obtain ⟨⟨h1, h2⟩, h3⟩ := h
  refine ⟨fun m i => ∃ k : Nat, i = k ∧ k ≤ a.fNext.length ∧ (m = true → a.fMark = b.fMark ∧ a.fNext.take k = b.fNext.take k) ∧ (m = false → a ≠ b), fun m i => a.fNext.length - i.toNat, ⟨0, rfl, Nat.zero_le _, fun h => ⟨of_decide_eq_true h, rfl⟩, fun h e => of_decide_eq_false h (by rw [e])⟩, ?_⟩
  rintro m i ⟨k, rfl, hk, ht, hf⟩
  refine ⟨fun hb => ?_, fun hb => ?_⟩
  · simp only [Bool.and_eq_true] at hb
    have hlt := dlt hb.1
    have hlt' : k < b.fNext.length := by omega
    obtain ⟨hm, htk⟩ := ht hb.2
    refine ⟨_, idx_at hlt, _, idx_at hlt', ⟨k + 1, ?_, hlt, fun he => ⟨hm, ?_⟩, fun he e => ?_⟩, ?_⟩
    · rw [wr_in (by omega) (by omega)]; omega
    · rw [List.take_add_one, List.take_add_one, htk, List.getElem?_eq_getElem hlt, List.getElem?_eq_getElem hlt', of_decide_eq_true he]
    · subst e; exact of_decide_eq_false he rfl
    · rw [wr_in (by omega) (by omega)]; simp only; omega
  · cases m with
    | false => exact (decide_eq_false (hf rfl)).symm
    | true =>
      rw [Bool.and_true] at hb
      have hge := dge hb
      obtain ⟨hm, htk⟩ := ht rfl
      rw [List.take_of_length_le hge, List.take_of_length_le (by omega)] at htk
      refine (decide_eq_true ?_).symm
      obtain ⟨a1, a2, a3, a4⟩ := a
      obtain ⟨b1, b2, b3, b4⟩ := b
      simp only at h1 h2 hm htk
      rw [h1, h2, hm, htk]
def alterTwice_vc (x : ApiAlter) (Q : Bool → Prop) : Prop :=
  x.fNext.length ≤ 9223372036854775807 →
  x.fMark.length ≤ 9223372036854775807 →
  (IfP (((altDetR (ApiAlter.mk 1 0 ([([([([] : (List Int))] : (List (List Int)))] : (List (List (List Int))))] : (List (List (List (List Int))))) ([1] : (List Int)))).2 != 0) || (((altDetR (ApiAlter.mk 1 0 ([([([([] : (List Int))] : (List (List Int)))] : (List (List (List Int))))] : (List (List (List (List Int))))) ([1] : (List Int)))).1.fNext.length : Int) != 1)) (Q false) (IfP ((altDetR x).2 != 0) (Q true) (IfP ((altOtherR x).2 != 0) (Q false) (IfP (((altDetR (altOtherR x).1).2 != 0) || (((altDetR (altOtherR x).1).1.fNext.length : Int) != ((altDetR x).1.fNext.length : Int))) (Q false) (∃ (Inv : Int → (List Int) → Prop) (mu : Int → (List Int) → Nat), Inv 0 (altDetR (altOtherR x).1).1.fMark ∧
  ∀ (x8 : Int) (l11 : (List Int)) , Inv x8 l11 → (IfP (decide (x8 < (l11.length : Int))) (∃ e, idx l11 x8 = some e ∧
  ∃ e_2, idx l11 x8 = some e_2 ∧
  (Inv (wr (x8 + 1)) (l11.set (x8).toNat (wr (1 - e))) ∧ mu (wr (x8 + 1)) (l11.set (x8).toNat (wr (1 - e))) < mu x8 l11)) (IfP (!(decide ((ApiDet.mk (altDetR (altOtherR x).1).1.fLetters (altDetR (altOtherR x).1).1.fStart (altDetR (altOtherR x).1).1.fNext l11) = (altDetR x).1))) (Q false) (IfP ((altOtherR (altOtherR x).1).2 != 0) (Q false) (∃ J : Bool → Prop, (IfP ((altDetR (altOtherR (altOtherR x).1).1).2 == 0) (J (decide ((altDetR (altOtherR (altOtherR x).1).1).1 = (altDetR x).1))) (J false)) ∧
  (∀ (x2 : Bool), J x2 → Q x2))))))))))
set_option maxHeartbeats 2000000 in
theorem alterTwice_walk (x : ApiAlter) (Q : Bool → Prop) (h : alterTwice_vc x Q) : Ct 10 [.sv (.agg [I x.fLetters, I x.fStart, LS (lsT (lsT (lsT intT))) x.fNext, LS intT x.fMark])] [] Q (fun (r : Bool) => .sv (.one (B r))) := by
  have ht := tab_ok
  refine Ct.body Try.func10 rfl rfl rfl rfl (fun c hn => ?_)
  unfold alterTwice_vc at h
  refine En.lenA 0 2 (by rfl) (by rfl) (fun hl => ?_)
  replace h := h hl
  clear hl
  refine En.lenA 0 3 (by rfl) (by rfl) (fun hl => ?_)
  replace h := h hl
  clear hl
  refine En.seq ?_
  refine En.region ?_
  refine WL.run ht hn 2 ⟨[(1, .sv (.one (.ptr 0 0)))], [.box [I x.fLetters, I x.fStart, LS (lsT (lsT (lsT intT))) x.fNext, LS intT x.fMark] 77 false]⟩ (by kernel_rfl) ?_
  refine WL.nil ?_
  refine En.seq ?_
  refine En.region ?_
  refine WL.mt0 (K := []) (p := some (1, rowI 3 intT ([] : (List Int)))) hn (by rfl) (mt_empty intT 1 ht rfl (by rfl) (by rfl) (by rfl)) (by rfl) (by rfl) (by rfl) ?_
  refine WL.seal (T := intT) (l := ([] : (List Int))) (e := 3) 1 rfl ?_
  refine WL.run ht hn 0 ⟨[(1, .sv (.one (.ptr 0 0))), (12, .sv (.one (LS intT ([] : (List Int)))))], [.box [I x.fLetters, I x.fStart, LS (lsT (lsT (lsT intT))) x.fNext, LS intT x.fMark] 77 false, .gone]⟩ (by kernel_rfl) ?_
  refine WL.mt0 (K := []) (p := some (2, rowI 22 (lsT intT) ([([] : (List Int))] : (List (List Int))))) hn (by rfl) (mt_lit (T := (lsT intT)) ([([] : (List Int))] : (List (List Int))) (mt_bsl 2 (r := cellsOf (lsT intT) ([([] : (List Int))] : (List (List Int)))) ht rfl (by rfl) (by rfl) (by rfl) (by kernel_rfl) (by rfl)) (fun _ h => by cases h) (fun _ => rfl) (fun _ => rfl) (by rfl) (Nat.le_of_ble_eq_true rfl)) (by rfl) (by rfl) (by rfl) ?_
  refine WL.seal (T := (lsT intT)) (l := ([([] : (List Int))] : (List (List Int)))) (e := 22) 2 rfl ?_
  refine WL.run ht hn 0 ⟨[(1, .sv (.one (.ptr 0 0))), (12, .sv (.one (LS intT ([] : (List Int))))), (13, .sv (.one (LS (lsT intT) ([([] : (List Int))] : (List (List Int))))))], [.box [I x.fLetters, I x.fStart, LS (lsT (lsT (lsT intT))) x.fNext, LS intT x.fMark] 77 false, .gone, .gone]⟩ (by kernel_rfl) ?_
  refine WL.mt0 (K := []) (p := some (3, rowI 42 (lsT (lsT intT)) ([([([] : (List Int))] : (List (List Int)))] : (List (List (List Int)))))) hn (by rfl) (mt_lit (T := (lsT (lsT intT))) ([([([] : (List Int))] : (List (List Int)))] : (List (List (List Int)))) (mt_bsl 3 (r := cellsOf (lsT (lsT intT)) ([([([] : (List Int))] : (List (List Int)))] : (List (List (List Int))))) ht rfl (by rfl) (by rfl) (by rfl) (by kernel_rfl) (by rfl)) (fun _ h => by cases h) (fun _ => rfl) (fun _ => rfl) (by rfl) (Nat.le_of_ble_eq_true rfl)) (by rfl) (by rfl) (by rfl) ?_
  refine WL.seal (T := (lsT (lsT intT))) (l := ([([([] : (List Int))] : (List (List Int)))] : (List (List (List Int))))) (e := 42) 3 rfl ?_
  refine WL.run ht hn 0 ⟨[(1, .sv (.one (.ptr 0 0))), (12, .sv (.one (LS intT ([] : (List Int))))), (13, .sv (.one (LS (lsT intT) ([([] : (List Int))] : (List (List Int)))))), (14, .sv (.one (LS (lsT (lsT intT)) ([([([] : (List Int))] : (List (List Int)))] : (List (List (List Int)))))))], [.box [I x.fLetters, I x.fStart, LS (lsT (lsT (lsT intT))) x.fNext, LS intT x.fMark] 77 false, .gone, .gone, .gone]⟩ (by kernel_rfl) ?_
  refine WL.mt0 (K := []) (p := some (4, rowI 78 (lsT (lsT (lsT intT))) ([([([([] : (List Int))] : (List (List Int)))] : (List (List (List Int))))] : (List (List (List (List Int))))))) hn (by rfl) (mt_lit (T := (lsT (lsT (lsT intT)))) ([([([([] : (List Int))] : (List (List Int)))] : (List (List (List Int))))] : (List (List (List (List Int))))) (mt_bsl 4 (r := cellsOf (lsT (lsT (lsT intT))) ([([([([] : (List Int))] : (List (List Int)))] : (List (List (List Int))))] : (List (List (List (List Int)))))) ht rfl (by rfl) (by rfl) (by rfl) (by kernel_rfl) (by rfl)) (fun _ h => by cases h) (fun _ => rfl) (fun _ => rfl) (by rfl) (Nat.le_of_ble_eq_true rfl)) (by rfl) (by rfl) (by rfl) ?_
  refine WL.mt0 (K := []) (p := some (5, rowI 3 intT ([1] : (List Int)))) hn (by rfl) (mt_lit (T := intT) ([1] : (List Int)) (mt_bsl 5 (r := cellsOf intT ([1] : (List Int))) ht rfl (by rfl) (by rfl) (by rfl) (by kernel_rfl) (by rfl)) (fun _ h => by cases h) (fun _ => rfl) (fun _ => rfl) (by rfl) (Nat.le_of_ble_eq_true rfl)) (by rfl) (by rfl) (by rfl) ?_
  refine WL.run ht hn 3 ⟨[(1, .sv (.one (.ptr 0 0))), (3, .sv (.one (.ptr 6 0)))], [.box [I x.fLetters, I x.fStart, LS (lsT (lsT (lsT intT))) x.fNext, LS intT x.fMark] 77 false, .gone, .gone, .gone, rowI 78 (lsT (lsT (lsT intT))) ([([([([] : (List Int))] : (List (List Int)))] : (List (List (List Int))))] : (List (List (List (List Int))))), rowI 3 intT ([1] : (List Int)), .box [I 1, I 0, .own 4, .own 5] 77 false]⟩ (by kernel_rfl) ?_
  refine WL.nil ?_
  refine En.seq ?_
  refine En.region ?_
  refine WL.run ht hn 1 ⟨[(1, .sv (.one (.ptr 0 0))), (19, .sv (.agg [I 1, I 0, .own 4, .own 5]))], [.box [I x.fLetters, I x.fStart, LS (lsT (lsT (lsT intT))) x.fNext, LS intT x.fMark] 77 false, .gone, .gone, .gone, rowI 78 (lsT (lsT (lsT intT))) ([([([([] : (List Int))] : (List (List Int)))] : (List (List (List Int))))] : (List (List (List (List Int))))), rowI 3 intT ([1] : (List Int)), .gone]⟩ (by kernel_rfl) ?_
  refine WL.seal (T := (lsT (lsT (lsT intT)))) (l := ([([([([] : (List Int))] : (List (List Int)))] : (List (List (List Int))))] : (List (List (List (List Int)))))) (e := 78) 4 rfl ?_
  refine WL.run ht hn 0 ⟨[(1, .sv (.one (.ptr 0 0))), (19, .sv (.agg [I 1, I 0, LS (lsT (lsT (lsT intT))) ([([([([] : (List Int))] : (List (List Int)))] : (List (List (List Int))))] : (List (List (List (List Int))))), .own 5]))], [.box [I x.fLetters, I x.fStart, LS (lsT (lsT (lsT intT))) x.fNext, LS intT x.fMark] 77 false, .gone, .gone, .gone, .gone, rowI 3 intT ([1] : (List Int)), .gone]⟩ (by kernel_rfl) ?_
  refine WL.seal (T := intT) (l := ([1] : (List Int))) (e := 3) 5 rfl ?_
  refine WL.run ht hn 0 ⟨[(1, .sv (.one (.ptr 0 0))), (19, .sv (.agg [I 1, I 0, LS (lsT (lsT (lsT intT))) ([([([([] : (List Int))] : (List (List Int)))] : (List (List (List Int))))] : (List (List (List (List Int))))), LS intT ([1] : (List Int))]))], [.box [I x.fLetters, I x.fStart, LS (lsT (lsT (lsT intT))) x.fNext, LS intT x.fMark] 77 false, .gone, .gone, .gone, .gone, .gone, .gone]⟩ (by kernel_rfl) ?_
  refine WL.mt0 (K := []) (p := some (7, rowI 3 intT (altDetR (ApiAlter.mk 1 0 ([([([([] : (List Int))] : (List (List Int)))] : (List (List (List Int))))] : (List (List (List (List Int))))) ([1] : (List Int)))).1.fMark)) hn (by rfl) (mt_callS (x := .tup [.agg [I (altDetR (ApiAlter.mk 1 0 ([([([([] : (List Int))] : (List (List Int)))] : (List (List (List Int))))] : (List (List (List (List Int))))) ([1] : (List Int)))).1.fLetters, I (altDetR (ApiAlter.mk 1 0 ([([([([] : (List Int))] : (List (List Int)))] : (List (List (List Int))))] : (List (List (List (List Int))))) ([1] : (List Int)))).1.fStart, LS (lsT intT) (altDetR (ApiAlter.mk 1 0 ([([([([] : (List Int))] : (List (List Int)))] : (List (List (List Int))))] : (List (List (List (List Int))))) ([1] : (List Int)))).1.fNext, .own 7], .one (I (altDetR (ApiAlter.mk 1 0 ([([([([] : (List Int))] : (List (List Int)))] : (List (List (List Int))))] : (List (List (List (List Int))))) ([1] : (List Int)))).2)]) 7 (altDet_ct (ApiAlter.mk 1 0 ([([([([] : (List Int))] : (List (List Int)))] : (List (List (List Int))))] : (List (List (List (List Int))))) ([1] : (List Int)))) en32 (caps := []) [] rfl (by rfl) rfl (by rfl) (by kernel_rfl) (by kernel_rfl) (by rfl) (by rfl)) (by rfl) (by rfl) (by rfl) ?_
  refine WL.run ht hn 6 ⟨[(1, .sv (.one (.ptr 0 0))), (4, .sv (.one (.ptr 8 0))), (5, .sv (.one (I (altDetR (ApiAlter.mk 1 0 ([([([([] : (List Int))] : (List (List Int)))] : (List (List (List Int))))] : (List (List (List (List Int))))) ([1] : (List Int)))).2)))], [.box [I x.fLetters, I x.fStart, LS (lsT (lsT (lsT intT))) x.fNext, LS intT x.fMark] 77 false, .gone, .gone, .gone, .gone, .gone, .gone, rowI 3 intT (altDetR (ApiAlter.mk 1 0 ([([([([] : (List Int))] : (List (List Int)))] : (List (List (List Int))))] : (List (List (List (List Int))))) ([1] : (List Int)))).1.fMark, .box [I (altDetR (ApiAlter.mk 1 0 ([([([([] : (List Int))] : (List (List Int)))] : (List (List (List Int))))] : (List (List (List (List Int))))) ([1] : (List Int)))).1.fLetters, I (altDetR (ApiAlter.mk 1 0 ([([([([] : (List Int))] : (List (List Int)))] : (List (List (List Int))))] : (List (List (List (List Int))))) ([1] : (List Int)))).1.fStart, LS (lsT intT) (altDetR (ApiAlter.mk 1 0 ([([([([] : (List Int))] : (List (List Int)))] : (List (List (List Int))))] : (List (List (List (List Int))))) ([1] : (List Int)))).1.fNext, .own 7] 80 false]⟩ (by kernel_rfl) ?_
  refine WL.nil ?_
  refine En.seq ?_
  refine En.seq ?_
  refine En.region ?_
  refine WL.run ht hn 3 ⟨[(1, .sv (.one (.ptr 0 0))), (4, .sv (.one (.ptr 8 0))), (25, .sv (.one (B ((altDetR (ApiAlter.mk 1 0 ([([([([] : (List Int))] : (List (List Int)))] : (List (List (List Int))))] : (List (List (List (List Int))))) ([1] : (List Int)))).2 != 0))))], [.box [I x.fLetters, I x.fStart, LS (lsT (lsT (lsT intT))) x.fNext, LS intT x.fMark] 77 false, .gone, .gone, .gone, .gone, .gone, .gone, rowI 3 intT (altDetR (ApiAlter.mk 1 0 ([([([([] : (List Int))] : (List (List Int)))] : (List (List (List Int))))] : (List (List (List (List Int))))) ([1] : (List Int)))).1.fMark, .box [I (altDetR (ApiAlter.mk 1 0 ([([([([] : (List Int))] : (List (List Int)))] : (List (List (List Int))))] : (List (List (List (List Int))))) ([1] : (List Int)))).1.fLetters, I (altDetR (ApiAlter.mk 1 0 ([([([([] : (List Int))] : (List (List Int)))] : (List (List (List Int))))] : (List (List (List (List Int))))) ([1] : (List Int)))).1.fStart, LS (lsT intT) (altDetR (ApiAlter.mk 1 0 ([([([([] : (List Int))] : (List (List Int)))] : (List (List (List Int))))] : (List (List (List (List Int))))) ([1] : (List Int)))).1.fNext, .own 7] 80 false]⟩ (by kernel_rfl) ?_
  refine WL.thru ⟨[(1, .sv (.one (.ptr 0 0))), (4, .sv (.one (.ptr 8 0))), (30, .sv (.one (B (((altDetR (ApiAlter.mk 1 0 ([([([([] : (List Int))] : (List (List Int)))] : (List (List (List Int))))] : (List (List (List (List Int))))) ([1] : (List Int)))).2 != 0) || (((altDetR (ApiAlter.mk 1 0 ([([([([] : (List Int))] : (List (List Int)))] : (List (List (List Int))))] : (List (List (List (List Int))))) ([1] : (List Int)))).1.fNext.length : Int) != 1)))))], [.box [I x.fLetters, I x.fStart, LS (lsT (lsT (lsT intT))) x.fNext, LS intT x.fMark] 77 false, .gone, .gone, .gone, .gone, .gone, .gone, rowI 3 intT (altDetR (ApiAlter.mk 1 0 ([([([([] : (List Int))] : (List (List Int)))] : (List (List (List Int))))] : (List (List (List (List Int))))) ([1] : (List Int)))).1.fMark, .box [I (altDetR (ApiAlter.mk 1 0 ([([([([] : (List Int))] : (List (List Int)))] : (List (List (List Int))))] : (List (List (List (List Int))))) ([1] : (List Int)))).1.fLetters, I (altDetR (ApiAlter.mk 1 0 ([([([([] : (List Int))] : (List (List Int)))] : (List (List (List Int))))] : (List (List (List (List Int))))) ([1] : (List Int)))).1.fStart, LS (lsT intT) (altDetR (ApiAlter.mk 1 0 ([([([([] : (List Int))] : (List (List Int)))] : (List (List (List Int))))] : (List (List (List (List Int))))) ([1] : (List Int)))).1.fNext, .own 7] 80 false]⟩ ?_ ?_
  · refine splitB ((altDetR (ApiAlter.mk 1 0 ([([([([] : (List Int))] : (List (List Int)))] : (List (List (List Int))))] : (List (List (List (List Int))))) ([1] : (List Int)))).2 != 0) (fun hb0 => ?_) (fun hb0 => ?_)
    · refine WL.setB 25 hb0 (by kernel_rfl) ?_
      refine WL.run ht hn 5 ⟨[(1, .sv (.one (.ptr 0 0))), (4, .sv (.one (.ptr 8 0))), (30, .sv (.one (B true)))], [.box [I x.fLetters, I x.fStart, LS (lsT (lsT (lsT intT))) x.fNext, LS intT x.fMark] 77 false, .gone, .gone, .gone, .gone, .gone, .gone, rowI 3 intT (altDetR (ApiAlter.mk 1 0 ([([([([] : (List Int))] : (List (List Int)))] : (List (List (List Int))))] : (List (List (List (List Int))))) ([1] : (List Int)))).1.fMark, .box [I (altDetR (ApiAlter.mk 1 0 ([([([([] : (List Int))] : (List (List Int)))] : (List (List (List Int))))] : (List (List (List (List Int))))) ([1] : (List Int)))).1.fLetters, I (altDetR (ApiAlter.mk 1 0 ([([([([] : (List Int))] : (List (List Int)))] : (List (List (List Int))))] : (List (List (List (List Int))))) ([1] : (List Int)))).1.fStart, LS (lsT intT) (altDetR (ApiAlter.mk 1 0 ([([([([] : (List Int))] : (List (List Int)))] : (List (List (List Int))))] : (List (List (List (List Int))))) ([1] : (List Int)))).1.fNext, .own 7] 80 false]⟩ (by kernel_rfl) ?_
      exact WL.nil (sub_ok (by simp only [hb0]; kernel_rfl))
    · refine WL.setB 25 hb0 (by kernel_rfl) ?_
      refine WL.run ht hn 5 ⟨[(1, .sv (.one (.ptr 0 0))), (4, .sv (.one (.ptr 8 0))), (30, .sv (.one (B (((altDetR (ApiAlter.mk 1 0 ([([([([] : (List Int))] : (List (List Int)))] : (List (List (List Int))))] : (List (List (List (List Int))))) ([1] : (List Int)))).1.fNext.length : Int) != 1))))], [.box [I x.fLetters, I x.fStart, LS (lsT (lsT (lsT intT))) x.fNext, LS intT x.fMark] 77 false, .gone, .gone, .gone, .gone, .gone, .gone, rowI 3 intT (altDetR (ApiAlter.mk 1 0 ([([([([] : (List Int))] : (List (List Int)))] : (List (List (List Int))))] : (List (List (List (List Int))))) ([1] : (List Int)))).1.fMark, .box [I (altDetR (ApiAlter.mk 1 0 ([([([([] : (List Int))] : (List (List Int)))] : (List (List (List Int))))] : (List (List (List (List Int))))) ([1] : (List Int)))).1.fLetters, I (altDetR (ApiAlter.mk 1 0 ([([([([] : (List Int))] : (List (List Int)))] : (List (List (List Int))))] : (List (List (List (List Int))))) ([1] : (List Int)))).1.fStart, LS (lsT intT) (altDetR (ApiAlter.mk 1 0 ([([([([] : (List Int))] : (List (List Int)))] : (List (List (List Int))))] : (List (List (List (List Int))))) ([1] : (List Int)))).1.fNext, .own 7] 80 false]⟩ (by kernel_rfl) ?_
      exact WL.nil (sub_ok (by simp only [hb0]; kernel_rfl))
  · refine En.cond (b := (((altDetR (ApiAlter.mk 1 0 ([([([([] : (List Int))] : (List (List Int)))] : (List (List (List Int))))] : (List (List (List (List Int))))) ([1] : (List Int)))).2 != 0) || (((altDetR (ApiAlter.mk 1 0 ([([([([] : (List Int))] : (List (List Int)))] : (List (List (List Int))))] : (List (List (List (List Int))))) ([1] : (List Int)))).1.fNext.length : Int) != 1))) (by kernel_rfl) (fun hb => ?_) (fun hb => ?_)
    · replace h := h.1 hb
      refine En.seq ?_
      refine En.region ?_
      refine WL.run ht hn 1 ⟨[(2, .sv (.one (B false)))], [.gone, .gone, .gone, .gone, .gone, .gone, .gone, .gone, .gone]⟩ (by kernel_rfl) ?_
      refine WL.nil ?_
      refine En.ret ?_
      exact En.back ht false h (by kernel_rfl) rfl
    · replace h := h.2 hb
      refine En.skip ?_
      refine En.seq ?_
      refine En.region ?_
      refine WL.run ht hn 1 ⟨[(1, .sv (.one (.ptr 0 0))), (4, .sv (.one (.ptr 8 0))), (32, .sv (.agg [I x.fLetters, I x.fStart, LS (lsT (lsT (lsT intT))) x.fNext, LS intT x.fMark]))], [.box [I x.fLetters, I x.fStart, LS (lsT (lsT (lsT intT))) x.fNext, LS intT x.fMark] 77 false, .gone, .gone, .gone, .gone, .gone, .gone, rowI 3 intT (altDetR (ApiAlter.mk 1 0 ([([([([] : (List Int))] : (List (List Int)))] : (List (List (List Int))))] : (List (List (List (List Int))))) ([1] : (List Int)))).1.fMark, .box [I (altDetR (ApiAlter.mk 1 0 ([([([([] : (List Int))] : (List (List Int)))] : (List (List (List Int))))] : (List (List (List (List Int))))) ([1] : (List Int)))).1.fLetters, I (altDetR (ApiAlter.mk 1 0 ([([([([] : (List Int))] : (List (List Int)))] : (List (List (List Int))))] : (List (List (List (List Int))))) ([1] : (List Int)))).1.fStart, LS (lsT intT) (altDetR (ApiAlter.mk 1 0 ([([([([] : (List Int))] : (List (List Int)))] : (List (List (List Int))))] : (List (List (List (List Int))))) ([1] : (List Int)))).1.fNext, .own 7] 80 false]⟩ (by kernel_rfl) ?_
      refine WL.mt0 (K := []) (p := some (9, rowI 3 intT (altDetR x).1.fMark)) hn (by rfl) (mt_callS (x := .tup [.agg [I (altDetR x).1.fLetters, I (altDetR x).1.fStart, LS (lsT intT) (altDetR x).1.fNext, .own 9], .one (I (altDetR x).2)]) 9 (altDet_ct x) en32 (caps := []) [] rfl (by rfl) rfl (by rfl) (by kernel_rfl) (by kernel_rfl) (by rfl) (by rfl)) (by rfl) (by rfl) (by rfl) ?_
      refine WL.run ht hn 5 ⟨[(1, .sv (.one (.ptr 0 0))), (4, .sv (.one (.ptr 8 0))), (5, .sv (.one (I (altDetR x).2)))], [.box [I x.fLetters, I x.fStart, LS (lsT (lsT (lsT intT))) x.fNext, LS intT x.fMark] 77 false, .gone, .gone, .gone, .gone, .gone, .gone, .gone, .box [I (altDetR x).1.fLetters, I (altDetR x).1.fStart, LS (lsT intT) (altDetR x).1.fNext, .own 9] 80 false, rowI 3 intT (altDetR x).1.fMark]⟩ (by kernel_rfl) ?_
      refine WL.nil ?_
      refine En.seq ?_
      refine En.seq ?_
      refine En.region ?_
      refine WL.run ht hn 2 ⟨[(1, .sv (.one (.ptr 0 0))), (4, .sv (.one (.ptr 8 0))), (37, .sv (.one (B ((altDetR x).2 != 0))))], [.box [I x.fLetters, I x.fStart, LS (lsT (lsT (lsT intT))) x.fNext, LS intT x.fMark] 77 false, .gone, .gone, .gone, .gone, .gone, .gone, .gone, .box [I (altDetR x).1.fLetters, I (altDetR x).1.fStart, LS (lsT intT) (altDetR x).1.fNext, .own 9] 80 false, rowI 3 intT (altDetR x).1.fMark]⟩ (by kernel_rfl) ?_
      refine WL.nil ?_
      refine En.cond (b := ((altDetR x).2 != 0)) (by kernel_rfl) (fun hb => ?_) (fun hb => ?_)
      · replace h := h.1 hb
        refine En.seq ?_
        refine En.region ?_
        refine WL.run ht hn 1 ⟨[(2, .sv (.one (B true)))], [.gone, .gone, .gone, .gone, .gone, .gone, .gone, .gone, .gone, .gone]⟩ (by kernel_rfl) ?_
        refine WL.nil ?_
        refine En.ret ?_
        exact En.back ht true h (by kernel_rfl) rfl
      · replace h := h.2 hb
        refine En.skip ?_
        refine En.seq ?_
        refine En.region ?_
        refine WL.run ht hn 1 ⟨[(4, .sv (.one (.ptr 8 0))), (39, .sv (.agg [I x.fLetters, I x.fStart, LS (lsT (lsT (lsT intT))) x.fNext, LS intT x.fMark]))], [.gone, .gone, .gone, .gone, .gone, .gone, .gone, .gone, .box [I (altDetR x).1.fLetters, I (altDetR x).1.fStart, LS (lsT intT) (altDetR x).1.fNext, .own 9] 80 false, rowI 3 intT (altDetR x).1.fMark]⟩ (by kernel_rfl) ?_
        refine WL.mt0 (K := []) (p := none) hn (by rfl) (mt_call (altOther_ct x) en33 (caps := []) [] rfl (by rfl) (by kernel_rfl) (by kernel_rfl) (by rfl) (by rfl) (by rfl)) (by rfl) (by rfl) (by rfl) ?_
        refine WL.run ht hn 6 ⟨[(4, .sv (.one (.ptr 8 0))), (5, .sv (.one (I (altOtherR x).2))), (6, .sv (.one (.ptr 10 0)))], [.gone, .gone, .gone, .gone, .gone, .gone, .gone, .gone, .box [I (altDetR x).1.fLetters, I (altDetR x).1.fStart, LS (lsT intT) (altDetR x).1.fNext, .own 9] 80 false, rowI 3 intT (altDetR x).1.fMark, .box [I (altOtherR x).1.fLetters, I (altOtherR x).1.fStart, LS (lsT (lsT (lsT intT))) (altOtherR x).1.fNext, LS intT (altOtherR x).1.fMark] 77 false]⟩ (by kernel_rfl) ?_
        refine WL.nil ?_
        refine En.seq ?_
        refine En.seq ?_
        refine En.region ?_
        refine WL.run ht hn 2 ⟨[(4, .sv (.one (.ptr 8 0))), (6, .sv (.one (.ptr 10 0))), (44, .sv (.one (B ((altOtherR x).2 != 0))))], [.gone, .gone, .gone, .gone, .gone, .gone, .gone, .gone, .box [I (altDetR x).1.fLetters, I (altDetR x).1.fStart, LS (lsT intT) (altDetR x).1.fNext, .own 9] 80 false, rowI 3 intT (altDetR x).1.fMark, .box [I (altOtherR x).1.fLetters, I (altOtherR x).1.fStart, LS (lsT (lsT (lsT intT))) (altOtherR x).1.fNext, LS intT (altOtherR x).1.fMark] 77 false]⟩ (by kernel_rfl) ?_
        refine WL.nil ?_
        refine En.cond (b := ((altOtherR x).2 != 0)) (by kernel_rfl) (fun hb => ?_) (fun hb => ?_)
        · replace h := h.1 hb
          refine En.seq ?_
          refine En.region ?_
          refine WL.run ht hn 1 ⟨[(2, .sv (.one (B false)))], [.gone, .gone, .gone, .gone, .gone, .gone, .gone, .gone, .gone, .gone, .gone]⟩ (by kernel_rfl) ?_
          refine WL.nil ?_
          refine En.ret ?_
          exact En.back ht false h (by kernel_rfl) rfl
        · replace h := h.2 hb
          refine En.skip ?_
          refine En.seq ?_
          refine En.region ?_
          refine WL.run ht hn 1 ⟨[(4, .sv (.one (.ptr 8 0))), (6, .sv (.one (.ptr 10 0))), (46, .sv (.agg [I (altOtherR x).1.fLetters, I (altOtherR x).1.fStart, LS (lsT (lsT (lsT intT))) (altOtherR x).1.fNext, LS intT (altOtherR x).1.fMark]))], [.gone, .gone, .gone, .gone, .gone, .gone, .gone, .gone, .box [I (altDetR x).1.fLetters, I (altDetR x).1.fStart, LS (lsT intT) (altDetR x).1.fNext, .own 9] 80 false, rowI 3 intT (altDetR x).1.fMark, .box [I (altOtherR x).1.fLetters, I (altOtherR x).1.fStart, LS (lsT (lsT (lsT intT))) (altOtherR x).1.fNext, LS intT (altOtherR x).1.fMark] 77 false]⟩ (by kernel_rfl) ?_
          refine WL.mt0 (K := []) (p := some (11, rowI 3 intT (altDetR (altOtherR x).1).1.fMark)) hn (by rfl) (mt_callS (x := .tup [.agg [I (altDetR (altOtherR x).1).1.fLetters, I (altDetR (altOtherR x).1).1.fStart, LS (lsT intT) (altDetR (altOtherR x).1).1.fNext, .own 11], .one (I (altDetR (altOtherR x).1).2)]) 11 (altDet_ct (altOtherR x).1) en32 (caps := []) [] rfl (by rfl) rfl (by rfl) (by kernel_rfl) (by kernel_rfl) (by rfl) (by rfl)) (by rfl) (by rfl) (by rfl) ?_
          refine WL.run ht hn 6 ⟨[(4, .sv (.one (.ptr 8 0))), (5, .sv (.one (I (altDetR (altOtherR x).1).2))), (6, .sv (.one (.ptr 10 0))), (7, .sv (.one (.ptr 12 0)))], [.gone, .gone, .gone, .gone, .gone, .gone, .gone, .gone, .box [I (altDetR x).1.fLetters, I (altDetR x).1.fStart, LS (lsT intT) (altDetR x).1.fNext, .own 9] 80 false, rowI 3 intT (altDetR x).1.fMark, .box [I (altOtherR x).1.fLetters, I (altOtherR x).1.fStart, LS (lsT (lsT (lsT intT))) (altOtherR x).1.fNext, LS intT (altOtherR x).1.fMark] 77 false, rowI 3 intT (altDetR (altOtherR x).1).1.fMark, .box [I (altDetR (altOtherR x).1).1.fLetters, I (altDetR (altOtherR x).1).1.fStart, LS (lsT intT) (altDetR (altOtherR x).1).1.fNext, .own 11] 80 false]⟩ (by kernel_rfl) ?_
          refine WL.nil ?_
          refine En.seq ?_
          refine En.seq ?_
          refine En.region ?_
          refine WL.run ht hn 3 ⟨[(4, .sv (.one (.ptr 8 0))), (6, .sv (.one (.ptr 10 0))), (7, .sv (.one (.ptr 12 0))), (52, .sv (.one (B ((altDetR (altOtherR x).1).2 != 0))))], [.gone, .gone, .gone, .gone, .gone, .gone, .gone, .gone, .box [I (altDetR x).1.fLetters, I (altDetR x).1.fStart, LS (lsT intT) (altDetR x).1.fNext, .own 9] 80 false, rowI 3 intT (altDetR x).1.fMark, .box [I (altOtherR x).1.fLetters, I (altOtherR x).1.fStart, LS (lsT (lsT (lsT intT))) (altOtherR x).1.fNext, LS intT (altOtherR x).1.fMark] 77 false, rowI 3 intT (altDetR (altOtherR x).1).1.fMark, .box [I (altDetR (altOtherR x).1).1.fLetters, I (altDetR (altOtherR x).1).1.fStart, LS (lsT intT) (altDetR (altOtherR x).1).1.fNext, .own 11] 80 false]⟩ (by kernel_rfl) ?_
          refine WL.thru ⟨[(4, .sv (.one (.ptr 8 0))), (6, .sv (.one (.ptr 10 0))), (7, .sv (.one (.ptr 12 0))), (60, .sv (.one (B (((altDetR (altOtherR x).1).2 != 0) || (((altDetR (altOtherR x).1).1.fNext.length : Int) != ((altDetR x).1.fNext.length : Int))))))], [.gone, .gone, .gone, .gone, .gone, .gone, .gone, .gone, .box [I (altDetR x).1.fLetters, I (altDetR x).1.fStart, LS (lsT intT) (altDetR x).1.fNext, .own 9] 80 false, rowI 3 intT (altDetR x).1.fMark, .box [I (altOtherR x).1.fLetters, I (altOtherR x).1.fStart, LS (lsT (lsT (lsT intT))) (altOtherR x).1.fNext, LS intT (altOtherR x).1.fMark] 77 false, rowI 3 intT (altDetR (altOtherR x).1).1.fMark, .box [I (altDetR (altOtherR x).1).1.fLetters, I (altDetR (altOtherR x).1).1.fStart, LS (lsT intT) (altDetR (altOtherR x).1).1.fNext, .own 11] 80 false]⟩ ?_ ?_
          · refine splitB ((altDetR (altOtherR x).1).2 != 0) (fun hb0 => ?_) (fun hb0 => ?_)
            · refine WL.setB 52 hb0 (by kernel_rfl) ?_
              refine WL.run ht hn 8 ⟨[(4, .sv (.one (.ptr 8 0))), (6, .sv (.one (.ptr 10 0))), (7, .sv (.one (.ptr 12 0))), (60, .sv (.one (B true)))], [.gone, .gone, .gone, .gone, .gone, .gone, .gone, .gone, .box [I (altDetR x).1.fLetters, I (altDetR x).1.fStart, LS (lsT intT) (altDetR x).1.fNext, .own 9] 80 false, rowI 3 intT (altDetR x).1.fMark, .box [I (altOtherR x).1.fLetters, I (altOtherR x).1.fStart, LS (lsT (lsT (lsT intT))) (altOtherR x).1.fNext, LS intT (altOtherR x).1.fMark] 77 false, rowI 3 intT (altDetR (altOtherR x).1).1.fMark, .box [I (altDetR (altOtherR x).1).1.fLetters, I (altDetR (altOtherR x).1).1.fStart, LS (lsT intT) (altDetR (altOtherR x).1).1.fNext, .own 11] 80 false]⟩ (by kernel_rfl) ?_
              exact WL.nil (sub_ok (by simp only [hb0]; kernel_rfl))
            · refine WL.setB 52 hb0 (by kernel_rfl) ?_
              refine WL.run ht hn 8 ⟨[(4, .sv (.one (.ptr 8 0))), (6, .sv (.one (.ptr 10 0))), (7, .sv (.one (.ptr 12 0))), (60, .sv (.one (B (((altDetR (altOtherR x).1).1.fNext.length : Int) != ((altDetR x).1.fNext.length : Int)))))], [.gone, .gone, .gone, .gone, .gone, .gone, .gone, .gone, .box [I (altDetR x).1.fLetters, I (altDetR x).1.fStart, LS (lsT intT) (altDetR x).1.fNext, .own 9] 80 false, rowI 3 intT (altDetR x).1.fMark, .box [I (altOtherR x).1.fLetters, I (altOtherR x).1.fStart, LS (lsT (lsT (lsT intT))) (altOtherR x).1.fNext, LS intT (altOtherR x).1.fMark] 77 false, rowI 3 intT (altDetR (altOtherR x).1).1.fMark, .box [I (altDetR (altOtherR x).1).1.fLetters, I (altDetR (altOtherR x).1).1.fStart, LS (lsT intT) (altDetR (altOtherR x).1).1.fNext, .own 11] 80 false]⟩ (by kernel_rfl) ?_
              exact WL.nil (sub_ok (by simp only [hb0]; kernel_rfl))
          · refine En.cond (b := (((altDetR (altOtherR x).1).2 != 0) || (((altDetR (altOtherR x).1).1.fNext.length : Int) != ((altDetR x).1.fNext.length : Int)))) (by kernel_rfl) (fun hb => ?_) (fun hb => ?_)
            · replace h := h.1 hb
              refine En.seq ?_
              refine En.region ?_
              refine WL.run ht hn 1 ⟨[(2, .sv (.one (B false)))], [.gone, .gone, .gone, .gone, .gone, .gone, .gone, .gone, .gone, .gone, .gone, .gone, .gone]⟩ (by kernel_rfl) ?_
              refine WL.nil ?_
              refine En.ret ?_
              exact En.back ht false h (by kernel_rfl) rfl
            · replace h := h.2 hb
              refine En.skip ?_
              refine En.seq ?_
              refine En.seq ?_
              refine En.region ?_
              refine WL.run ht hn 1 ⟨[(4, .sv (.one (.ptr 8 0))), (6, .sv (.one (.ptr 10 0))), (7, .sv (.one (.ptr 12 0))), (8, .sv (.one (I 0)))], [.gone, .gone, .gone, .gone, .gone, .gone, .gone, .gone, .box [I (altDetR x).1.fLetters, I (altDetR x).1.fStart, LS (lsT intT) (altDetR x).1.fNext, .own 9] 80 false, rowI 3 intT (altDetR x).1.fMark, .box [I (altOtherR x).1.fLetters, I (altOtherR x).1.fStart, LS (lsT (lsT (lsT intT))) (altOtherR x).1.fNext, LS intT (altOtherR x).1.fMark] 77 false, rowI 3 intT (altDetR (altOtherR x).1).1.fMark, .box [I (altDetR (altOtherR x).1).1.fLetters, I (altDetR (altOtherR x).1).1.fStart, LS (lsT intT) (altDetR (altOtherR x).1).1.fNext, .own 11] 80 false]⟩ (by kernel_rfl) ?_
              refine WL.nil ?_
              refine En.block ?_
              obtain ⟨Inv, mu, h0, hI⟩ := h
              refine En.loop (σ := Int × (List Int)) (fun zz => Inv zz.1 zz.2) (fun zz => mu zz.1 zz.2) (fun zz => ⟨[(4, .sv (.one (.ptr 8 0))), (6, .sv (.one (.ptr 10 0))), (7, .sv (.one (.ptr 12 0))), (8, .sv (.one (I zz.1)))], [.gone, .gone, .gone, .gone, .gone, .gone, .gone, .gone, .box [I (altDetR x).1.fLetters, I (altDetR x).1.fStart, LS (lsT intT) (altDetR x).1.fNext, .own 9] 80 false, rowI 3 intT (altDetR x).1.fMark, .box [I (altOtherR x).1.fLetters, I (altOtherR x).1.fStart, LS (lsT (lsT (lsT intT))) (altOtherR x).1.fNext, LS intT (altOtherR x).1.fMark] 77 false, rowI 3 intT zz.2, .box [I (altDetR (altOtherR x).1).1.fLetters, I (altDetR (altOtherR x).1).1.fStart, LS (lsT intT) (altDetR (altOtherR x).1).1.fNext, .own 11] 80 false]⟩) (0, (altDetR (altOtherR x).1).1.fMark) h0 (sub_ok (by kernel_rfl)) ?_
              rintro ⟨x8, l11⟩ h
              replace h := hI _ _ h
              show En c ⟨[(4, .sv (.one (.ptr 8 0))), (6, .sv (.one (.ptr 10 0))), (7, .sv (.one (.ptr 12 0))), (8, .sv (.one (I x8)))], [.gone, .gone, .gone, .gone, .gone, .gone, .gone, .gone, .box [I (altDetR x).1.fLetters, I (altDetR x).1.fStart, LS (lsT intT) (altDetR x).1.fNext, .own 9] 80 false, rowI 3 intT (altDetR x).1.fMark, .box [I (altOtherR x).1.fLetters, I (altOtherR x).1.fStart, LS (lsT (lsT (lsT intT))) (altOtherR x).1.fNext, LS intT (altOtherR x).1.fMark] 77 false, rowI 3 intT l11, .box [I (altDetR (altOtherR x).1).1.fLetters, I (altDetR (altOtherR x).1).1.fStart, LS (lsT intT) (altDetR (altOtherR x).1).1.fNext, .own 11] 80 false]⟩ _
              refine En.seq ?_
              refine En.seq ?_
              refine En.region ?_
              refine WL.run ht hn 5 ⟨[(4, .sv (.one (.ptr 8 0))), (6, .sv (.one (.ptr 10 0))), (7, .sv (.one (.ptr 12 0))), (8, .sv (.one (I x8))), (65, .sv (.one (B (decide (x8 < (l11.length : Int))))))], [.gone, .gone, .gone, .gone, .gone, .gone, .gone, .gone, .box [I (altDetR x).1.fLetters, I (altDetR x).1.fStart, LS (lsT intT) (altDetR x).1.fNext, .own 9] 80 false, rowI 3 intT (altDetR x).1.fMark, .box [I (altOtherR x).1.fLetters, I (altOtherR x).1.fStart, LS (lsT (lsT (lsT intT))) (altOtherR x).1.fNext, LS intT (altOtherR x).1.fMark] 77 false, rowI 3 intT l11, .box [I (altDetR (altOtherR x).1).1.fLetters, I (altDetR (altOtherR x).1).1.fStart, LS (lsT intT) (altDetR (altOtherR x).1).1.fNext, .own 11] 80 false]⟩ (by kernel_rfl) ?_
              refine WL.nil ?_
              refine En.cond (b := (decide (x8 < (l11.length : Int)))) (by kernel_rfl) (fun hb => ?_) (fun hb => ?_)
              · replace h := h.1 hb
                refine En.skip ?_
                refine En.seq ?_
                refine En.block ?_
                obtain ⟨e, he, h⟩ := h
                obtain ⟨e_2, he_2, h⟩ := h
                refine En.regionA ⟨[(4, .sv (.one (.ptr 8 0))), (6, .sv (.one (.ptr 10 0))), (7, .sv (.one (.ptr 12 0))), (8, .sv (.one (I x8)))], [.sv (.one (.ptr 12 3)), .sv (.one (.own 11)), .sv (.one (I x8)), .sv (.one (.ptr 12 3)), .sv (.one (.own 11)), .sv (.one (I x8)), .sv (.one (.oe 11 ((x8).toNat) 1)), .sv (.one (I e)), .sv (.one (I (wr (1 - e)))), .sv (.one (.oe 11 ((x8).toNat) 1)), .tup []], [⟨.gone, none, none, none⟩, ⟨.gone, none, none, none⟩, ⟨.gone, none, none, none⟩, ⟨.gone, none, none, none⟩, ⟨.gone, none, none, none⟩, ⟨.gone, none, none, none⟩, ⟨.gone, none, none, none⟩, ⟨.gone, none, none, none⟩, ⟨.box [I (altDetR x).1.fLetters, I (altDetR x).1.fStart, LS (lsT intT) (altDetR x).1.fNext, .own 9] 80 false, none, none, none⟩, ⟨rowI 3 intT (altDetR x).1.fMark, none, none, none⟩, ⟨.box [I (altOtherR x).1.fLetters, I (altOtherR x).1.fStart, LS (lsT (lsT (lsT intT))) (altOtherR x).1.fNext, LS intT (altOtherR x).1.fMark] 77 false, none, none, none⟩, ⟨rowI 3 intT l11, none, none, some (10, rowI 3 intT (l11.set (x8).toNat (wr (1 - e))))⟩, ⟨.box [I (altDetR (altOtherR x).1).1.fLetters, I (altDetR (altOtherR x).1).1.fStart, LS (lsT intT) (altDetR (altOtherR x).1).1.fNext, .own 11] 80 false, none, none, none⟩]⟩ ⟨[(4, .sv (.one (.ptr 8 0))), (6, .sv (.one (.ptr 10 0))), (7, .sv (.one (.ptr 12 0))), (8, .sv (.one (I x8)))], [.gone, .gone, .gone, .gone, .gone, .gone, .gone, .gone, .box [I (altDetR x).1.fLetters, I (altDetR x).1.fStart, LS (lsT intT) (altDetR x).1.fNext, .own 9] 80 false, rowI 3 intT (altDetR x).1.fMark, .box [I (altOtherR x).1.fLetters, I (altOtherR x).1.fStart, LS (lsT (lsT (lsT intT))) (altOtherR x).1.fNext, LS intT (altOtherR x).1.fMark] 77 false, rowI 3 intT (l11.set (x8).toNat (wr (1 - e))), .box [I (altDetR (altOtherR x).1).1.fLetters, I (altDetR (altOtherR x).1).1.fStart, LS (lsT intT) (altDetR (altOtherR x).1).1.fNext, .own 11] 80 false]⟩ (by kernel_rfl) hn (by kernel_rfl) (by rfl) (by kernel_rfl) ?_ (by kernel_rfl) ?_
                · exact ⟨.mt ⟨[(7, .sv (.one (.ptr 12 0)))], []⟩ [] none (by kernel_rfl) (by rfl) (mt_ev ht (by kernel_rfl)) rfl rfl rfl rfl,
    .mt ⟨[(68, .sv (.one (.ptr 12 3)))], [.gone, .gone, .gone, .gone, .gone, .gone, .gone, .gone, .gone, .gone, .gone, .gone, .box [I (altDetR (altOtherR x).1).1.fLetters, I (altDetR (altOtherR x).1).1.fStart, LS (lsT intT) (altDetR (altOtherR x).1).1.fNext, .own 11] 80 false]⟩ [] none (by kernel_rfl) (by rfl) (mt_ev ht (by kernel_rfl)) rfl rfl rfl rfl,
    .mt ⟨[(8, .sv (.one (I x8)))], []⟩ [] none (by kernel_rfl) (by rfl) (mt_ev ht (by kernel_rfl)) rfl rfl rfl rfl,
    .mt ⟨[(7, .sv (.one (.ptr 12 0)))], []⟩ [] none (by kernel_rfl) (by rfl) (mt_ev ht (by kernel_rfl)) rfl rfl rfl rfl,
    .mt ⟨[(71, .sv (.one (.ptr 12 3)))], [.gone, .gone, .gone, .gone, .gone, .gone, .gone, .gone, .gone, .gone, .gone, .gone, .box [I (altDetR (altOtherR x).1).1.fLetters, I (altDetR (altOtherR x).1).1.fStart, LS (lsT intT) (altDetR (altOtherR x).1).1.fNext, .own 11] 80 false]⟩ [] none (by kernel_rfl) (by rfl) (mt_ev ht (by kernel_rfl)) rfl rfl rfl rfl,
    .mt ⟨[(8, .sv (.one (I x8)))], []⟩ [] none (by kernel_rfl) (by rfl) (mt_ev ht (by kernel_rfl)) rfl rfl rfl rfl,
    .mt ⟨[(72, .sv (.one (.own 11))), (73, .sv (.one (I x8)))], [.gone, .gone, .gone, .gone, .gone, .gone, .gone, .gone, .gone, .gone, .gone, rowI 3 intT l11]⟩ [] none (by kernel_rfl) (by rfl) (mt_val (val_indexO (T := intT) (l := l11) (k := x8) ht rfl (by rfl) (by rfl) (by rfl) (by rfl) (by decide) (by rfl) (by rfl) (by rfl) he)) rfl rfl rfl rfl,
    .mt ⟨[(74, .sv (.one (.oe 11 ((x8).toNat) 1)))], [.gone, .gone, .gone, .gone, .gone, .gone, .gone, .gone, .gone, .gone, .gone, rowI 3 intT l11]⟩ [] none (by kernel_rfl) (by rfl) (mt_val (val_loadO (T := intT) (l := l11) (y := e) ht rfl (by rfl) (by rfl) (by rfl) (by rfl) (by rfl) (idx_some he).2.2 (by rfl))) rfl rfl rfl rfl,
    .mt ⟨[(75, .sv (.one (I e)))], []⟩ [] none (by kernel_rfl) (by rfl) (mt_ev ht (by kernel_rfl)) rfl rfl rfl rfl,
    .mt ⟨[(69, .sv (.one (.own 11))), (70, .sv (.one (I x8)))], [.gone, .gone, .gone, .gone, .gone, .gone, .gone, .gone, .gone, .gone, .gone, rowI 3 intT l11]⟩ [] none (by kernel_rfl) (by rfl) (mt_val (val_indexO (T := intT) (l := l11) (k := x8) ht rfl (by rfl) (by rfl) (by rfl) (by rfl) (by decide) (by rfl) (by rfl) (by rfl) he_2)) rfl rfl rfl rfl,
    .mu ⟨[(76, .sv (.one (I (wr (1 - e))))), (77, .sv (.one (.oe 11 ((x8).toNat) 1)))], [.gone, .gone, .gone, .gone, .gone, .gone, .gone, .gone, .gone, .gone, .gone, rowI 3 intT l11]⟩ 11 _ _ rfl rfl (by kernel_rfl) (by rfl) (mu_storeO (T := intT) (l := l11) (y := (wr (1 - e))) ht rfl (by rfl) (by rfl) (fun _ h => by cases h) (by rfl) (by rfl) (idx_lt he_2) (by rfl) (by rfl) (by rfl)) rfl rfl rfl rfl rfl rfl rfl,
    trivial⟩
                · refine En.region ?_
                  refine WL.run ht hn 3 ⟨[(4, .sv (.one (.ptr 8 0))), (6, .sv (.one (.ptr 10 0))), (7, .sv (.one (.ptr 12 0))), (8, .sv (.one (I (wr (x8 + 1)))))], [.gone, .gone, .gone, .gone, .gone, .gone, .gone, .gone, .box [I (altDetR x).1.fLetters, I (altDetR x).1.fStart, LS (lsT intT) (altDetR x).1.fNext, .own 9] 80 false, rowI 3 intT (altDetR x).1.fMark, .box [I (altOtherR x).1.fLetters, I (altOtherR x).1.fStart, LS (lsT (lsT (lsT intT))) (altOtherR x).1.fNext, LS intT (altOtherR x).1.fMark] 77 false, rowI 3 intT (l11.set (x8).toNat (wr (1 - e))), .box [I (altDetR (altOtherR x).1).1.fLetters, I (altDetR (altOtherR x).1).1.fStart, LS (lsT intT) (altDetR (altOtherR x).1).1.fNext, .own 11] 80 false]⟩ (by kernel_rfl) ?_
                  refine WL.nil ?_
                  exact En.at (I := fun zz => Inv zz.1 zz.2 ∧ mu zz.1 zz.2 < mu x8 l11) (T := fun zz => ⟨[(4, .sv (.one (.ptr 8 0))), (6, .sv (.one (.ptr 10 0))), (7, .sv (.one (.ptr 12 0))), (8, .sv (.one (I zz.1)))], [.gone, .gone, .gone, .gone, .gone, .gone, .gone, .gone, .box [I (altDetR x).1.fLetters, I (altDetR x).1.fStart, LS (lsT intT) (altDetR x).1.fNext, .own 9] 80 false, rowI 3 intT (altDetR x).1.fMark, .box [I (altOtherR x).1.fLetters, I (altOtherR x).1.fStart, LS (lsT (lsT (lsT intT))) (altOtherR x).1.fNext, LS intT (altOtherR x).1.fMark] 77 false, rowI 3 intT zz.2, .box [I (altDetR (altOtherR x).1).1.fLetters, I (altDetR (altOtherR x).1).1.fStart, LS (lsT intT) (altDetR (altOtherR x).1).1.fNext, .own 11] 80 false]⟩) ((wr (x8 + 1)), (l11.set (x8).toNat (wr (1 - e)))) h (by kernel_rfl)
              · replace h := h.2 hb
                refine En.exit rfl ?_
                refine En.seq ?_
                refine En.region ?_
                refine WL.run ht hn 2 ⟨[(4, .sv (.one (.ptr 8 0))), (6, .sv (.one (.ptr 10 0))), (78, .sv (.agg [I (altDetR (altOtherR x).1).1.fLetters, I (altDetR (altOtherR x).1).1.fStart, LS (lsT intT) (altDetR (altOtherR x).1).1.fNext, .own 11])), (79, .sv (.agg [I (altDetR x).1.fLetters, I (altDetR x).1.fStart, LS (lsT intT) (altDetR x).1.fNext, .own 9]))], [.gone, .gone, .gone, .gone, .gone, .gone, .gone, .gone, .box [I (altDetR x).1.fLetters, I (altDetR x).1.fStart, LS (lsT intT) (altDetR x).1.fNext, .own 9] 80 false, rowI 3 intT (altDetR x).1.fMark, .box [I (altOtherR x).1.fLetters, I (altOtherR x).1.fStart, LS (lsT (lsT (lsT intT))) (altOtherR x).1.fNext, LS intT (altOtherR x).1.fMark] 77 false, rowI 3 intT l11, .gone]⟩ (by kernel_rfl) ?_
                refine WL.mt0 (K := []) (p := none) hn (by rfl) (mt_lend (T := intT) (l := l11) 11 (by rfl) (by rfl) (mt_lend (T := intT) (l := (altDetR x).1.fMark) 9 (by rfl) (by rfl) (mt_call (alike_ct (ApiDet.mk (altDetR (altOtherR x).1).1.fLetters (altDetR (altOtherR x).1).1.fStart (altDetR (altOtherR x).1).1.fNext l11) (altDetR x).1) en34 (caps := []) [] rfl (by rfl) (by kernel_rfl) (by kernel_rfl) (by rfl) (by rfl) (by rfl)))) (by rfl) (by rfl) (by rfl) ?_
                refine WL.run ht hn 1 ⟨[(4, .sv (.one (.ptr 8 0))), (6, .sv (.one (.ptr 10 0))), (9, .sv (.one (B (decide ((ApiDet.mk (altDetR (altOtherR x).1).1.fLetters (altDetR (altOtherR x).1).1.fStart (altDetR (altOtherR x).1).1.fNext l11) = (altDetR x).1)))))], [.gone, .gone, .gone, .gone, .gone, .gone, .gone, .gone, .box [I (altDetR x).1.fLetters, I (altDetR x).1.fStart, LS (lsT intT) (altDetR x).1.fNext, .own 9] 80 false, rowI 3 intT (altDetR x).1.fMark, .box [I (altOtherR x).1.fLetters, I (altOtherR x).1.fStart, LS (lsT (lsT (lsT intT))) (altOtherR x).1.fNext, LS intT (altOtherR x).1.fMark] 77 false, .gone, .gone]⟩ (by kernel_rfl) ?_
                refine WL.nil ?_
                refine En.seq ?_
                refine En.seq ?_
                refine En.region ?_
                refine WL.run ht hn 2 ⟨[(4, .sv (.one (.ptr 8 0))), (6, .sv (.one (.ptr 10 0))), (82, .sv (.one (B (!(decide ((ApiDet.mk (altDetR (altOtherR x).1).1.fLetters (altDetR (altOtherR x).1).1.fStart (altDetR (altOtherR x).1).1.fNext l11) = (altDetR x).1))))))], [.gone, .gone, .gone, .gone, .gone, .gone, .gone, .gone, .box [I (altDetR x).1.fLetters, I (altDetR x).1.fStart, LS (lsT intT) (altDetR x).1.fNext, .own 9] 80 false, rowI 3 intT (altDetR x).1.fMark, .box [I (altOtherR x).1.fLetters, I (altOtherR x).1.fStart, LS (lsT (lsT (lsT intT))) (altOtherR x).1.fNext, LS intT (altOtherR x).1.fMark] 77 false, .gone, .gone]⟩ (by kernel_rfl) ?_
                refine WL.nil ?_
                refine En.cond (b := (!(decide ((ApiDet.mk (altDetR (altOtherR x).1).1.fLetters (altDetR (altOtherR x).1).1.fStart (altDetR (altOtherR x).1).1.fNext l11) = (altDetR x).1)))) (by kernel_rfl) (fun hb => ?_) (fun hb => ?_)
                · replace h := h.1 hb
                  refine En.seq ?_
                  refine En.region ?_
                  refine WL.run ht hn 1 ⟨[(2, .sv (.one (B false)))], [.gone, .gone, .gone, .gone, .gone, .gone, .gone, .gone, .gone, .gone, .gone, .gone, .gone]⟩ (by kernel_rfl) ?_
                  refine WL.nil ?_
                  refine En.ret ?_
                  exact En.back ht false h (by kernel_rfl) rfl
                · replace h := h.2 hb
                  refine En.skip ?_
                  refine En.seq ?_
                  refine En.region ?_
                  refine WL.run ht hn 1 ⟨[(4, .sv (.one (.ptr 8 0))), (84, .sv (.agg [I (altOtherR x).1.fLetters, I (altOtherR x).1.fStart, LS (lsT (lsT (lsT intT))) (altOtherR x).1.fNext, LS intT (altOtherR x).1.fMark]))], [.gone, .gone, .gone, .gone, .gone, .gone, .gone, .gone, .box [I (altDetR x).1.fLetters, I (altDetR x).1.fStart, LS (lsT intT) (altDetR x).1.fNext, .own 9] 80 false, rowI 3 intT (altDetR x).1.fMark, .gone, .gone, .gone]⟩ (by kernel_rfl) ?_
                  refine WL.mt0 (K := []) (p := none) hn (by rfl) (mt_call (altOther_ct (altOtherR x).1) en33 (caps := []) [] rfl (by rfl) (by kernel_rfl) (by kernel_rfl) (by rfl) (by rfl) (by rfl)) (by rfl) (by rfl) (by rfl) ?_
                  refine WL.run ht hn 6 ⟨[(4, .sv (.one (.ptr 8 0))), (5, .sv (.one (I (altOtherR (altOtherR x).1).2))), (10, .sv (.one (.ptr 13 0)))], [.gone, .gone, .gone, .gone, .gone, .gone, .gone, .gone, .box [I (altDetR x).1.fLetters, I (altDetR x).1.fStart, LS (lsT intT) (altDetR x).1.fNext, .own 9] 80 false, rowI 3 intT (altDetR x).1.fMark, .gone, .gone, .gone, .box [I (altOtherR (altOtherR x).1).1.fLetters, I (altOtherR (altOtherR x).1).1.fStart, LS (lsT (lsT (lsT intT))) (altOtherR (altOtherR x).1).1.fNext, LS intT (altOtherR (altOtherR x).1).1.fMark] 77 false]⟩ (by kernel_rfl) ?_
                  refine WL.nil ?_
                  refine En.seq ?_
                  refine En.seq ?_
                  refine En.region ?_
                  refine WL.run ht hn 2 ⟨[(4, .sv (.one (.ptr 8 0))), (10, .sv (.one (.ptr 13 0))), (89, .sv (.one (B ((altOtherR (altOtherR x).1).2 != 0))))], [.gone, .gone, .gone, .gone, .gone, .gone, .gone, .gone, .box [I (altDetR x).1.fLetters, I (altDetR x).1.fStart, LS (lsT intT) (altDetR x).1.fNext, .own 9] 80 false, rowI 3 intT (altDetR x).1.fMark, .gone, .gone, .gone, .box [I (altOtherR (altOtherR x).1).1.fLetters, I (altOtherR (altOtherR x).1).1.fStart, LS (lsT (lsT (lsT intT))) (altOtherR (altOtherR x).1).1.fNext, LS intT (altOtherR (altOtherR x).1).1.fMark] 77 false]⟩ (by kernel_rfl) ?_
                  refine WL.nil ?_
                  refine En.cond (b := ((altOtherR (altOtherR x).1).2 != 0)) (by kernel_rfl) (fun hb => ?_) (fun hb => ?_)
                  · replace h := h.1 hb
                    refine En.seq ?_
                    refine En.region ?_
                    refine WL.run ht hn 1 ⟨[(2, .sv (.one (B false)))], [.gone, .gone, .gone, .gone, .gone, .gone, .gone, .gone, .gone, .gone, .gone, .gone, .gone, .gone]⟩ (by kernel_rfl) ?_
                    refine WL.nil ?_
                    refine En.ret ?_
                    exact En.back ht false h (by kernel_rfl) rfl
                  · replace h := h.2 hb
                    refine En.skip ?_
                    refine En.seq ?_
                    refine En.region ?_
                    refine WL.run ht hn 1 ⟨[(4, .sv (.one (.ptr 8 0))), (91, .sv (.agg [I (altOtherR (altOtherR x).1).1.fLetters, I (altOtherR (altOtherR x).1).1.fStart, LS (lsT (lsT (lsT intT))) (altOtherR (altOtherR x).1).1.fNext, LS intT (altOtherR (altOtherR x).1).1.fMark]))], [.gone, .gone, .gone, .gone, .gone, .gone, .gone, .gone, .box [I (altDetR x).1.fLetters, I (altDetR x).1.fStart, LS (lsT intT) (altDetR x).1.fNext, .own 9] 80 false, rowI 3 intT (altDetR x).1.fMark, .gone, .gone, .gone, .gone]⟩ (by kernel_rfl) ?_
                    refine WL.mt0 (K := []) (p := some (14, rowI 3 intT (altDetR (altOtherR (altOtherR x).1).1).1.fMark)) hn (by rfl) (mt_callS (x := .tup [.agg [I (altDetR (altOtherR (altOtherR x).1).1).1.fLetters, I (altDetR (altOtherR (altOtherR x).1).1).1.fStart, LS (lsT intT) (altDetR (altOtherR (altOtherR x).1).1).1.fNext, .own 14], .one (I (altDetR (altOtherR (altOtherR x).1).1).2)]) 14 (altDet_ct (altOtherR (altOtherR x).1).1) en32 (caps := []) [] rfl (by rfl) rfl (by rfl) (by kernel_rfl) (by kernel_rfl) (by rfl) (by rfl)) (by rfl) (by rfl) (by rfl) ?_
                    refine WL.run ht hn 6 ⟨[(4, .sv (.one (.ptr 8 0))), (5, .sv (.one (I (altDetR (altOtherR (altOtherR x).1).1).2))), (11, .sv (.one (.ptr 15 0)))], [.gone, .gone, .gone, .gone, .gone, .gone, .gone, .gone, .box [I (altDetR x).1.fLetters, I (altDetR x).1.fStart, LS (lsT intT) (altDetR x).1.fNext, .own 9] 80 false, rowI 3 intT (altDetR x).1.fMark, .gone, .gone, .gone, .gone, rowI 3 intT (altDetR (altOtherR (altOtherR x).1).1).1.fMark, .box [I (altDetR (altOtherR (altOtherR x).1).1).1.fLetters, I (altDetR (altOtherR (altOtherR x).1).1).1.fStart, LS (lsT intT) (altDetR (altOtherR (altOtherR x).1).1).1.fNext, .own 14] 80 false]⟩ (by kernel_rfl) ?_
                    refine WL.nil ?_
                    obtain ⟨J, h, hJ⟩ := h
                    refine En.seqJ (σ := Bool) (fun zz => J zz) (fun zz => ⟨[(2, .sv (.one (B zz)))], [.gone, .gone, .gone, .gone, .gone, .gone, .gone, .gone, .gone, .gone, .gone, .gone, .gone, .gone, .gone, .gone]⟩) ?_ ?_
                    · refine En.region ?_
                      refine WL.run ht hn 3 ⟨[(4, .sv (.one (.ptr 8 0))), (11, .sv (.one (.ptr 15 0))), (97, .sv (.one (B ((altDetR (altOtherR (altOtherR x).1).1).2 == 0))))], [.gone, .gone, .gone, .gone, .gone, .gone, .gone, .gone, .box [I (altDetR x).1.fLetters, I (altDetR x).1.fStart, LS (lsT intT) (altDetR x).1.fNext, .own 9] 80 false, rowI 3 intT (altDetR x).1.fMark, .gone, .gone, .gone, .gone, rowI 3 intT (altDetR (altOtherR (altOtherR x).1).1).1.fMark, .box [I (altDetR (altOtherR (altOtherR x).1).1).1.fLetters, I (altDetR (altOtherR (altOtherR x).1).1).1.fStart, LS (lsT intT) (altDetR (altOtherR (altOtherR x).1).1).1.fNext, .own 14] 80 false]⟩ (by kernel_rfl) ?_
                      refine splitB ((altDetR (altOtherR (altOtherR x).1).1).2 == 0) (fun hb => ?_) (fun hb => ?_)
                      · replace h := h.1 hb
                        refine WL.setB 97 hb (by kernel_rfl) ?_
                        refine WL.run ht hn 2 ⟨[(97, .sv (.one (B true))), (98, .sv (.agg [I (altDetR (altOtherR (altOtherR x).1).1).1.fLetters, I (altDetR (altOtherR (altOtherR x).1).1).1.fStart, LS (lsT intT) (altDetR (altOtherR (altOtherR x).1).1).1.fNext, .own 14])), (99, .sv (.agg [I (altDetR x).1.fLetters, I (altDetR x).1.fStart, LS (lsT intT) (altDetR x).1.fNext, .own 9]))], [.gone, .gone, .gone, .gone, .gone, .gone, .gone, .gone, .gone, rowI 3 intT (altDetR x).1.fMark, .gone, .gone, .gone, .gone, rowI 3 intT (altDetR (altOtherR (altOtherR x).1).1).1.fMark, .gone]⟩ (by kernel_rfl) ?_
                        refine WL.mt0 (K := []) (p := none) hn (by rfl) (mt_lend (T := intT) (l := (altDetR (altOtherR (altOtherR x).1).1).1.fMark) 14 (by rfl) (by rfl) (mt_lend (T := intT) (l := (altDetR x).1.fMark) 9 (by rfl) (by rfl) (mt_call (alike_ct (altDetR (altOtherR (altOtherR x).1).1).1 (altDetR x).1) en34 (caps := []) [] rfl (by rfl) (by kernel_rfl) (by kernel_rfl) (by rfl) (by rfl) (by rfl)))) (by rfl) (by rfl) (by rfl) ?_
                        refine WL.run ht hn 2 ⟨[(2, .sv (.one (B (decide ((altDetR (altOtherR (altOtherR x).1).1).1 = (altDetR x).1)))))], [.gone, .gone, .gone, .gone, .gone, .gone, .gone, .gone, .gone, .gone, .gone, .gone, .gone, .gone, .gone, .gone]⟩ (by kernel_rfl) ?_
                        refine WL.nil ?_
                        exact En.at (I := fun zz => J zz) (T := fun zz => ⟨[(2, .sv (.one (B zz)))], [.gone, .gone, .gone, .gone, .gone, .gone, .gone, .gone, .gone, .gone, .gone, .gone, .gone, .gone, .gone, .gone]⟩) (decide ((altDetR (altOtherR (altOtherR x).1).1).1 = (altDetR x).1)) h (by kernel_rfl)
                      · replace h := h.2 hb
                        refine WL.setB 97 hb (by kernel_rfl) ?_
                        refine WL.run ht hn 5 ⟨[(2, .sv (.one (B false)))], [.gone, .gone, .gone, .gone, .gone, .gone, .gone, .gone, .gone, .gone, .gone, .gone, .gone, .gone, .gone, .gone]⟩ (by kernel_rfl) ?_
                        refine WL.nil ?_
                        exact En.at (I := fun zz => J zz) (T := fun zz => ⟨[(2, .sv (.one (B zz)))], [.gone, .gone, .gone, .gone, .gone, .gone, .gone, .gone, .gone, .gone, .gone, .gone, .gone, .gone, .gone, .gone]⟩) false h (by kernel_rfl)
                    · intro x2 h
                      replace h := hJ _ h
                      show En c ⟨[(2, .sv (.one (B x2)))], [.gone, .gone, .gone, .gone, .gone, .gone, .gone, .gone, .gone, .gone, .gone, .gone, .gone, .gone, .gone, .gone]⟩ _
                      refine En.ret ?_
                      exact En.back ht x2 h (by kernel_rfl) rfl
theorem en10 : ∀ args w, (callFunc 10 args).run Try.prog w = .ok (.enter 10 args) w := enters_of Try.func10 (by kernel_rfl) rfl
theorem altDetR_ok {x : ApiAlter} (h : AltOk x) (hs : ¬ (altDetC x).fNext.length > 3000) : altDetR x = (altDetC x, 0) := by
  unfold altDetR
  rw [if_pos ((altErr_iff x).2 h), if_neg hs]
theorem altOtherR_ok {x : ApiAlter} (h : AltOk x) : altOtherR x = (altOtherF x, 0) := by
  unfold altOtherR
  rw [if_pos ((altErr_iff x).2 h)]
theorem alterTwice_ct (x : ApiAlter)  : Ct 10 [.sv (.agg [I x.fLetters, I x.fStart, LS (lsT (lsT (lsT intT))) x.fNext, LS intT x.fMark])] [] (fun (_ : Unit) => True) (fun _ => .sv (.one (B (true)))) := by
  refine (alterTwice_walk x (fun res_ => res_ = (true)) ?_).fun
  intro _ _
  rw [show (ApiAlter.mk 1 0 ([([([([] : (List Int))] : (List (List Int)))] : (List (List (List Int))))] : (List (List (List (List Int))))) ([1] : (List Int))) = altTiny from rfl, tiny_det]
  refine ⟨(fun h => by cases h), fun _ => ⟨fun _ => rfl, fun h0 => ?_⟩⟩
  have h0 : (altDetR x).2 = 0 := by simpa using h0
  have hx : AltOk x := by
    refine (altErr_iff x).1 (Decidable.byContradiction fun hne => ?_)
    unfold altDetR at h0
    rw [if_neg hne] at h0
    exact hne h0
  have hs : ¬ (altDetC x).fNext.length > 3000 := fun hs => by
    unfold altDetR at h0
    rw [if_pos ((altErr_iff x).2 hx), if_pos hs] at h0
    cases h0
  have hc := altDetC_other hx
  have hsO : ¬ (altDetC (altOtherF x)).fNext.length > 3000 := by rw [hc]; exact hs
  have ht := altDetC_twice hx
  rw [altDetR_ok hx hs, altOtherR_ok hx]
  simp only
  rw [altDetR_ok (other_ok hx) hsO, altOtherR_ok (other_ok hx)]
  simp only
  rw [altDetR_ok (other_ok (other_ok hx)) (by rw [ht]; exact hs), ht]
  refine ⟨(fun h => by cases h), fun _ => ⟨fun h => ?_, fun _ => ?_⟩⟩
  · rw [hc] at h
    simp at h
  have hM : (altDetC (altOtherF x)).fMark = (altDetC x).fMark.map fun m => 1 - m := by rw [hc]
  have h01 : ∀ m ∈ (altDetC (altOtherF x)).fMark, m = 0 ∨ m = 1 := altDetC_01 (other_ok hx)
  have hflip : (altDetC (altOtherF x)).fMark.map (fun m => 1 - m) = (altDetC x).fMark := by
    rw [hM, List.map_map]
    refine (List.map_congr_left fun m _ => ?_).trans (List.map_id _)
    show 1 - (1 - m) = m
    omega
  have hrest : ApiDet.mk (altDetC (altOtherF x)).fLetters (altDetC (altOtherF x)).fStart (altDetC (altOtherF x)).fNext (altDetC x).fMark = altDetC x := by rw [hc]
  have hD : (altDetC (altOtherF x)).fMark.length ≤ 3000 := by
    have : (altDetC (altOtherF x)).fMark.length = (altDetC (altOtherF x)).fNext.length := by simp [altDetC, canon, explD, detOf]
    omega
  generalize altDetC (altOtherF x) = D at h01 hflip hrest hD
  clear hM hc hsO
  refine ⟨fun i l => ∃ k : Nat, i = k ∧ k ≤ D.fMark.length ∧ l = (D.fMark.take k).map (fun m => 1 - m) ++ D.fMark.drop k, fun i l => l.length - i.toNat, ⟨0, rfl, Nat.zero_le _, by simp⟩, ?_⟩
  rintro i l ⟨k, rfl, hk, hl⟩
  have hll : l.length = D.fMark.length := by rw [hl]; simp; omega
  refine ⟨fun hb => ?_, fun hb => ?_⟩
  · have hlt := dlt hb
    have hltD : k < D.fMark.length := by omega
    have hlk : l[k] = D.fMark[k] := by
      have : l[k]? = D.fMark[k]? := by
        rw [hl, List.getElem?_append_right (by simp; omega), List.getElem?_drop]
        congr 1
        simp
        omega
      rw [List.getElem?_eq_getElem hlt, List.getElem?_eq_getElem hltD] at this
      exact Option.some.inj this
    have h1 := h01 _ (List.getElem_mem hltD)
    refine ⟨_, idx_at hlt, _, idx_at hlt, ⟨k + 1, wsucc (by omega), hltD, ?_⟩, ?_⟩
    · rw [Int.toNat_natCast, wr_in (by omega) (by omega), hlk, take_map hltD]
      refine List.ext_getElem? fun j => ?_
      rw [List.getElem?_set]
      by_cases e : k = j
      · subst e
        rw [if_pos rfl, if_pos hlt, List.getElem?_append_left (by simp; omega), List.getElem?_append_right (by simp; omega)]
        simp only [List.length_map, List.length_take, show k - min k D.fMark.length = 0 by omega]
        rfl
      · rw [if_neg e, hl]
        by_cases hj : j < k
        · rw [List.getElem?_append_left (by simp; omega), List.getElem?_append_left (by simp; omega), List.getElem?_append_left (by simp; omega)]
        · rw [List.getElem?_append_right (by simp; omega), List.getElem?_append_right (by simp; omega), List.getElem?_drop, List.getElem?_drop]
          congr 1
          simp
          omega
    · show (l.set _ _).length - _ < l.length - _
      rw [List.length_set]
      exact mu_up hlt (by omega)
  · have hge := dge hb
    have hlD : l = (altDetC x).fMark := by rw [hl, List.take_of_length_le (by omega), List.drop_of_length_le (by omega), List.append_nil, hflip]
    subst hlD
    rw [hrest]
    refine ⟨fun h => ?_, fun _ => ⟨(fun h => by cases h), fun _ => ⟨fun b => b = true, ⟨fun _ => decide_eq_true rfl, (fun h => by cases h)⟩, fun b hb => hb⟩⟩⟩
    rw [decide_eq_true rfl] at h
    cases h
end Go.Proofs.Ytfpdnigihjmohaa

