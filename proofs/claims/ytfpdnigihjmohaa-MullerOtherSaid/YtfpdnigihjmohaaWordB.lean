/- The walks of package word: lassos. -/
import Derived.Test.YtfpdnigihjmohaaWordA
namespace Go.Proofs.Ytfpdnigihjmohaa
open Go.RowKit
set_option linter.unusedSimpArgs false
set_option linter.unusedVariables false

def lassoOf (letters : Int) (h l : List Int) : Int :=
  if mayOf letters h ≠ 0 then mayOf letters h else if mayOf letters l ≠ 0 then mayOf letters l else if l.length = 0 then 1 else 0
set_option maxHeartbeats 400000 in
theorem lasso_any (letters : Int) (v1 v2 : Value) (h l : List Int) (w : World) (h1 : Ints w v1 h) (h2 : Ints w v2 l) :
    Calls Try.prog 45 #[.int .i64 letters, .agg #[v1, v2]] w fun e w' => e = .returned (.int .i64 (lassoOf letters h l)) ∧ Below w.heap.size w w' := by
  obtain ⟨ao1, n1, cap1, rfl, H1, L1, hc1, hm1⟩ := h1.shape
  obtain ⟨ao2, n2, cap2, rfl, H2, L2, hc2, hm2⟩ := h2.shape
  have hS : Hid (lassoOf letters h l = if mayOf letters h ≠ 0 then mayOf letters h else if mayOf letters l ≠ 0 then mayOf letters l else if n2 = 0 then 1 else 0) := by rw [L2.out]; exact rfl
  generalize ha : mayOf letters h = a at hS
  generalize hb : mayOf letters l = b at hS
  have C0 : Hid (∀ W, Below w.heap.size w W → Calls Try.prog 106 #[.int .i64 letters, .slice ao1 n1 cap1] W fun e w' => e = .returned (.int .i64 a) ∧ W = w') := fun W hW => ha ▸ may_any letters _ h W (h1.up hW)
  have C1 : Hid (∀ W, Below w.heap.size w W → Calls Try.prog 106 #[.int .i64 letters, .slice ao2 n2 cap2] W fun e w' => e = .returned (.int .i64 b) ∧ W = w') := fun W hW => hb ▸ may_any letters _ l W (h2.up hW)
  clear ha hb h1 h2
  have i0 : ∀ w, (Instr.index 205 (.agg #[.slice ao1 n1 cap1, .slice ao2 n2 cap2]) (.int .i64 0)).run Try.prog w = .ok (.slice ao1 n1 cap1) w := fun _ => by kernel_rfl
  have i1 : ∀ w, (Instr.index 205 (.agg #[.slice ao1 n1 cap1, .slice ao2 n2 cap2]) (.int .i64 1)).run Try.prog w = .ok (.slice ao2 n2 cap2) w := fun _ => by kernel_rfl
  have fin : Below w.heap.size w (w.alloc (.cells #[.slice ao1 n1 cap1, .slice ao2 n2 cap2] 34)) := (Below.refl _ _).alloc (Nat.le_refl _) _
  by_cases ha0 : a = 0
  · subst ha0
    by_cases hb0 : b = 0
    · subst hb0
      by_cases hn : n2 = 0
      · subst hn
        go_enter Try.func45, Try.ntmps45
        go_wp2
        refine wp_loop_rounds 3 ?_
        rw [rounds_succ]
        go_wp2_with (first | (go_at_call 106; with_reducible refine (C0.out _ ?_).mono ?_; (focus ((repeat' (first | exact Below.refl _ _ | assumption | (refine Below.alloc ?_ ?_ _) | (refine Below.drew ?_) | (refine Below.setCell ?_ ?_ _) | (refine Below.trans ?_ (Below.mono (by assumption) ?_)) | omega | (simp; done) | (simp; omega))))); rintro e w' ⟨rfl, rfl⟩) | (go_at_call 106; with_reducible refine (C1.out _ ?_).mono ?_; (focus ((repeat' (first | exact Below.refl _ _ | assumption | (refine Below.alloc ?_ ?_ _) | (refine Below.drew ?_) | (refine Below.setCell ?_ ?_ _) | (refine Below.trans ?_ (Below.mono (by assumption) ?_)) | omega | (simp; done) | (simp; omega))))); rintro e w' ⟨rfl, rfl⟩))
        rw [rounds_succ]
        go_wp2_with (first | (go_at_call 106; with_reducible refine (C0.out _ ?_).mono ?_; (focus ((repeat' (first | exact Below.refl _ _ | assumption | (refine Below.alloc ?_ ?_ _) | (refine Below.drew ?_) | (refine Below.setCell ?_ ?_ _) | (refine Below.trans ?_ (Below.mono (by assumption) ?_)) | omega | (simp; done) | (simp; omega))))); rintro e w' ⟨rfl, rfl⟩) | (go_at_call 106; with_reducible refine (C1.out _ ?_).mono ?_; (focus ((repeat' (first | exact Below.refl _ _ | assumption | (refine Below.alloc ?_ ?_ _) | (refine Below.drew ?_) | (refine Below.setCell ?_ ?_ _) | (refine Below.trans ?_ (Below.mono (by assumption) ?_)) | omega | (simp; done) | (simp; omega))))); rintro e w' ⟨rfl, rfl⟩))
        rw [rounds_succ]
        go_wp2
        go_ret
        exact ⟨by rw [hS.out] <;> rfl, fin⟩
      · have hp : 0 < n2 := by omega
        go_enter Try.func45, Try.ntmps45
        go_wp2
        refine wp_loop_rounds 3 ?_
        rw [rounds_succ]
        go_wp2_with (first | (go_at_call 106; with_reducible refine (C0.out _ ?_).mono ?_; (focus ((repeat' (first | exact Below.refl _ _ | assumption | (refine Below.alloc ?_ ?_ _) | (refine Below.drew ?_) | (refine Below.setCell ?_ ?_ _) | (refine Below.trans ?_ (Below.mono (by assumption) ?_)) | omega | (simp; done) | (simp; omega))))); rintro e w' ⟨rfl, rfl⟩) | (go_at_call 106; with_reducible refine (C1.out _ ?_).mono ?_; (focus ((repeat' (first | exact Below.refl _ _ | assumption | (refine Below.alloc ?_ ?_ _) | (refine Below.drew ?_) | (refine Below.setCell ?_ ?_ _) | (refine Below.trans ?_ (Below.mono (by assumption) ?_)) | omega | (simp; done) | (simp; omega))))); rintro e w' ⟨rfl, rfl⟩))
        rw [rounds_succ]
        go_wp2_with (first | (go_at_call 106; with_reducible refine (C0.out _ ?_).mono ?_; (focus ((repeat' (first | exact Below.refl _ _ | assumption | (refine Below.alloc ?_ ?_ _) | (refine Below.drew ?_) | (refine Below.setCell ?_ ?_ _) | (refine Below.trans ?_ (Below.mono (by assumption) ?_)) | omega | (simp; done) | (simp; omega))))); rintro e w' ⟨rfl, rfl⟩) | (go_at_call 106; with_reducible refine (C1.out _ ?_).mono ?_; (focus ((repeat' (first | exact Below.refl _ _ | assumption | (refine Below.alloc ?_ ?_ _) | (refine Below.drew ?_) | (refine Below.setCell ?_ ?_ _) | (refine Below.trans ?_ (Below.mono (by assumption) ?_)) | omega | (simp; done) | (simp; omega))))); rintro e w' ⟨rfl, rfl⟩))
        rw [rounds_succ]
        go_wp2
        go_ret
        exact ⟨by rw [hS.out, if_neg (by simp), if_neg (by simp), if_neg hn] <;> rfl, fin⟩
    · have hb1 : (b != 0) = true := by simpa using hb0
      go_enter Try.func45, Try.ntmps45
      go_wp2
      refine wp_loop_rounds 3 ?_
      rw [rounds_succ]
      go_wp2_with (first | (go_at_call 106; with_reducible refine (C0.out _ ?_).mono ?_; (focus ((repeat' (first | exact Below.refl _ _ | assumption | (refine Below.alloc ?_ ?_ _) | (refine Below.drew ?_) | (refine Below.setCell ?_ ?_ _) | (refine Below.trans ?_ (Below.mono (by assumption) ?_)) | omega | (simp; done) | (simp; omega))))); rintro e w' ⟨rfl, rfl⟩) | (go_at_call 106; with_reducible refine (C1.out _ ?_).mono ?_; (focus ((repeat' (first | exact Below.refl _ _ | assumption | (refine Below.alloc ?_ ?_ _) | (refine Below.drew ?_) | (refine Below.setCell ?_ ?_ _) | (refine Below.trans ?_ (Below.mono (by assumption) ?_)) | omega | (simp; done) | (simp; omega))))); rintro e w' ⟨rfl, rfl⟩))
      rw [rounds_succ]
      go_wp2_with (first | (go_at_call 106; with_reducible refine (C0.out _ ?_).mono ?_; (focus ((repeat' (first | exact Below.refl _ _ | assumption | (refine Below.alloc ?_ ?_ _) | (refine Below.drew ?_) | (refine Below.setCell ?_ ?_ _) | (refine Below.trans ?_ (Below.mono (by assumption) ?_)) | omega | (simp; done) | (simp; omega))))); rintro e w' ⟨rfl, rfl⟩) | (go_at_call 106; with_reducible refine (C1.out _ ?_).mono ?_; (focus ((repeat' (first | exact Below.refl _ _ | assumption | (refine Below.alloc ?_ ?_ _) | (refine Below.drew ?_) | (refine Below.setCell ?_ ?_ _) | (refine Below.trans ?_ (Below.mono (by assumption) ?_)) | omega | (simp; done) | (simp; omega))))); rintro e w' ⟨rfl, rfl⟩))
      go_ret
      exact ⟨by rw [hS.out, if_neg (by simp), if_pos hb0] <;> rfl, fin⟩
  · have ha1 : (a != 0) = true := by simpa using ha0
    go_enter Try.func45, Try.ntmps45
    go_wp2
    refine wp_loop_rounds 3 ?_
    rw [rounds_succ]
    go_wp2_with (first | (go_at_call 106; with_reducible refine (C0.out _ ?_).mono ?_; (focus ((repeat' (first | exact Below.refl _ _ | assumption | (refine Below.alloc ?_ ?_ _) | (refine Below.drew ?_) | (refine Below.setCell ?_ ?_ _) | (refine Below.trans ?_ (Below.mono (by assumption) ?_)) | omega | (simp; done) | (simp; omega))))); rintro e w' ⟨rfl, rfl⟩) | (go_at_call 106; with_reducible refine (C1.out _ ?_).mono ?_; (focus ((repeat' (first | exact Below.refl _ _ | assumption | (refine Below.alloc ?_ ?_ _) | (refine Below.drew ?_) | (refine Below.setCell ?_ ?_ _) | (refine Below.trans ?_ (Below.mono (by assumption) ?_)) | omega | (simp; done) | (simp; omega))))); rintro e w' ⟨rfl, rfl⟩))
    go_ret
    exact ⟨by rw [hS.out, if_pos ha0] <;> rfl, fin⟩
end Go.Proofs.Ytfpdnigihjmohaa
