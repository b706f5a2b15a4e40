/- The walks of the play with two words: what is asked of the words, and the answer. -/
import Derived.Test.YtfpdnigihjmohaaEhrenD
namespace Go.Proofs.Ytfpdnigihjmohaa
open Go.RowKit
set_option linter.unusedSimpArgs false
set_option linter.unusedVariables false
attribute [local irreducible] wpList

theorem wins_all (k : Nat) : WinsP k := by
  induction k with
  | zero => exact wins_zero
  | succ k ih => exact wins_step k ih

def checkedS (u v : List Int) (k : Int) : Int :=
  if mayOf 2 u ≠ 0 then mayOf 2 u else if mayOf 2 v ≠ 0 then mayOf 2 v else if 8 < u.length ∨ 8 < v.length then 1 else if k < 0 ∨ 3 < k then 2 else 0

set_option maxHeartbeats 1000000 in
theorem checked_any (v1 v2 : Value) (u v : List Int) (k : Int) (w : World) (h1 : Ints w v1 u) (h2 : Ints w v2 v) :
    Calls Try.prog 52 #[v1, v2, .int .i64 k] w fun e w' => e = .returned (.int .i64 (checkedS u v k)) ∧ Below w.heap.size w w' := by
  obtain ⟨ao1, n1, cap1, rfl, H1, L1, hc1, hm1⟩ := h1.shape
  obtain ⟨ao2, n2, cap2, rfl, H2, L2, hc2, hm2⟩ := h2.shape
  have hS : Hid (checkedS u v k = if mayOf 2 u ≠ 0 then mayOf 2 u else if mayOf 2 v ≠ 0 then mayOf 2 v else if 8 < n1 ∨ 8 < n2 then 1 else if k < 0 ∨ 3 < k then 2 else 0) := by rw [L1.out, L2.out]; exact rfl
  generalize ha : mayOf 2 u = a at hS
  generalize hb : mayOf 2 v = b at hS
  have C0 : Hid (∀ W, Below w.heap.size w W → Calls Try.prog 106 #[.int .i64 2, .slice ao1 n1 cap1] W fun e w' => e = .returned (.int .i64 a) ∧ W = w') := fun W hW => ha ▸ may_any 2 _ u W (h1.up hW)
  have C1 : Hid (∀ W, Below w.heap.size w W → Calls Try.prog 106 #[.int .i64 2, .slice ao2 n2 cap2] W fun e w' => e = .returned (.int .i64 b) ∧ W = w') := fun W hW => hb ▸ may_any 2 _ v W (h2.up hW)
  clear ha hb h1 h2
  generalize checkedS u v k = r at *
  by_cases ha0 : a = 0
  · subst ha0
    by_cases hb0 : b = 0
    · subst hb0
      by_cases x1 : 8 < n1
      · have hr : r = 1 := by rw [hS.out]; simp [x1]
        subst hr
        go_enter Try.func52, Try.ntmps52
        go_wp2
        (refine wp_loop_rounds 3 ?_; rw [rounds_succ]; (go_wp2_with (first | (go_at_call 106; with_reducible refine (C0.out _ ?_).mono ?_; (focus ((repeat' (first | exact Below.refl _ _ | assumption | (refine Below.alloc ?_ ?_ _) | (refine Below.drew ?_) | (refine Below.setCell ?_ ?_ _) | (refine Below.trans ?_ (Below.mono (by assumption) ?_)) | omega | (simp; done) | (simp; omega))))); rintro e w' ⟨rfl, rfl⟩) | (go_at_call 106; with_reducible refine (C1.out _ ?_).mono ?_; (focus ((repeat' (first | exact Below.refl _ _ | assumption | (refine Below.alloc ?_ ?_ _) | (refine Below.drew ?_) | (refine Below.setCell ?_ ?_ _) | (refine Below.trans ?_ (Below.mono (by assumption) ?_)) | omega | (simp; done) | (simp; omega))))); rintro e w' ⟨rfl, rfl⟩))); rw [rounds_succ]; (go_wp2_with (first | (go_at_call 106; with_reducible refine (C0.out _ ?_).mono ?_; (focus ((repeat' (first | exact Below.refl _ _ | assumption | (refine Below.alloc ?_ ?_ _) | (refine Below.drew ?_) | (refine Below.setCell ?_ ?_ _) | (refine Below.trans ?_ (Below.mono (by assumption) ?_)) | omega | (simp; done) | (simp; omega))))); rintro e w' ⟨rfl, rfl⟩) | (go_at_call 106; with_reducible refine (C1.out _ ?_).mono ?_; (focus ((repeat' (first | exact Below.refl _ _ | assumption | (refine Below.alloc ?_ ?_ _) | (refine Below.drew ?_) | (refine Below.setCell ?_ ?_ _) | (refine Below.trans ?_ (Below.mono (by assumption) ?_)) | omega | (simp; done) | (simp; omega))))); rintro e w' ⟨rfl, rfl⟩))); rw [rounds_succ]; go_wp2)
        go_ret
        exact ⟨rfl, by (repeat' (first | exact Below.refl _ _ | assumption | (refine Below.alloc ?_ ?_ _) | (refine Below.drew ?_) | (refine Below.setCell ?_ ?_ _) | (refine Below.trans ?_ (Below.mono (by assumption) ?_)) | omega | (simp; done) | (simp; omega)))⟩
      by_cases x2 : 8 < n2
      · have hr : r = 1 := by rw [hS.out]; simp [x2]
        subst hr
        go_enter Try.func52, Try.ntmps52
        go_wp2
        (refine wp_loop_rounds 3 ?_; rw [rounds_succ]; (go_wp2_with (first | (go_at_call 106; with_reducible refine (C0.out _ ?_).mono ?_; (focus ((repeat' (first | exact Below.refl _ _ | assumption | (refine Below.alloc ?_ ?_ _) | (refine Below.drew ?_) | (refine Below.setCell ?_ ?_ _) | (refine Below.trans ?_ (Below.mono (by assumption) ?_)) | omega | (simp; done) | (simp; omega))))); rintro e w' ⟨rfl, rfl⟩) | (go_at_call 106; with_reducible refine (C1.out _ ?_).mono ?_; (focus ((repeat' (first | exact Below.refl _ _ | assumption | (refine Below.alloc ?_ ?_ _) | (refine Below.drew ?_) | (refine Below.setCell ?_ ?_ _) | (refine Below.trans ?_ (Below.mono (by assumption) ?_)) | omega | (simp; done) | (simp; omega))))); rintro e w' ⟨rfl, rfl⟩))); rw [rounds_succ]; (go_wp2_with (first | (go_at_call 106; with_reducible refine (C0.out _ ?_).mono ?_; (focus ((repeat' (first | exact Below.refl _ _ | assumption | (refine Below.alloc ?_ ?_ _) | (refine Below.drew ?_) | (refine Below.setCell ?_ ?_ _) | (refine Below.trans ?_ (Below.mono (by assumption) ?_)) | omega | (simp; done) | (simp; omega))))); rintro e w' ⟨rfl, rfl⟩) | (go_at_call 106; with_reducible refine (C1.out _ ?_).mono ?_; (focus ((repeat' (first | exact Below.refl _ _ | assumption | (refine Below.alloc ?_ ?_ _) | (refine Below.drew ?_) | (refine Below.setCell ?_ ?_ _) | (refine Below.trans ?_ (Below.mono (by assumption) ?_)) | omega | (simp; done) | (simp; omega))))); rintro e w' ⟨rfl, rfl⟩))); rw [rounds_succ]; go_wp2)
        go_ret
        exact ⟨rfl, by (repeat' (first | exact Below.refl _ _ | assumption | (refine Below.alloc ?_ ?_ _) | (refine Below.drew ?_) | (refine Below.setCell ?_ ?_ _) | (refine Below.trans ?_ (Below.mono (by assumption) ?_)) | omega | (simp; done) | (simp; omega)))⟩
      by_cases x3 : k < 0
      · have hr : r = 2 := by rw [hS.out]; simp [x1, x2, x3]
        subst hr
        go_enter Try.func52, Try.ntmps52
        go_wp2
        (refine wp_loop_rounds 3 ?_; rw [rounds_succ]; (go_wp2_with (first | (go_at_call 106; with_reducible refine (C0.out _ ?_).mono ?_; (focus ((repeat' (first | exact Below.refl _ _ | assumption | (refine Below.alloc ?_ ?_ _) | (refine Below.drew ?_) | (refine Below.setCell ?_ ?_ _) | (refine Below.trans ?_ (Below.mono (by assumption) ?_)) | omega | (simp; done) | (simp; omega))))); rintro e w' ⟨rfl, rfl⟩) | (go_at_call 106; with_reducible refine (C1.out _ ?_).mono ?_; (focus ((repeat' (first | exact Below.refl _ _ | assumption | (refine Below.alloc ?_ ?_ _) | (refine Below.drew ?_) | (refine Below.setCell ?_ ?_ _) | (refine Below.trans ?_ (Below.mono (by assumption) ?_)) | omega | (simp; done) | (simp; omega))))); rintro e w' ⟨rfl, rfl⟩))); rw [rounds_succ]; (go_wp2_with (first | (go_at_call 106; with_reducible refine (C0.out _ ?_).mono ?_; (focus ((repeat' (first | exact Below.refl _ _ | assumption | (refine Below.alloc ?_ ?_ _) | (refine Below.drew ?_) | (refine Below.setCell ?_ ?_ _) | (refine Below.trans ?_ (Below.mono (by assumption) ?_)) | omega | (simp; done) | (simp; omega))))); rintro e w' ⟨rfl, rfl⟩) | (go_at_call 106; with_reducible refine (C1.out _ ?_).mono ?_; (focus ((repeat' (first | exact Below.refl _ _ | assumption | (refine Below.alloc ?_ ?_ _) | (refine Below.drew ?_) | (refine Below.setCell ?_ ?_ _) | (refine Below.trans ?_ (Below.mono (by assumption) ?_)) | omega | (simp; done) | (simp; omega))))); rintro e w' ⟨rfl, rfl⟩))); rw [rounds_succ]; go_wp2)
        go_ret
        exact ⟨rfl, by (repeat' (first | exact Below.refl _ _ | assumption | (refine Below.alloc ?_ ?_ _) | (refine Below.drew ?_) | (refine Below.setCell ?_ ?_ _) | (refine Below.trans ?_ (Below.mono (by assumption) ?_)) | omega | (simp; done) | (simp; omega)))⟩
      by_cases x4 : 3 < k
      · have hr : r = 2 := by rw [hS.out]; simp [x1, x2, x4]
        subst hr
        go_enter Try.func52, Try.ntmps52
        go_wp2
        (refine wp_loop_rounds 3 ?_; rw [rounds_succ]; (go_wp2_with (first | (go_at_call 106; with_reducible refine (C0.out _ ?_).mono ?_; (focus ((repeat' (first | exact Below.refl _ _ | assumption | (refine Below.alloc ?_ ?_ _) | (refine Below.drew ?_) | (refine Below.setCell ?_ ?_ _) | (refine Below.trans ?_ (Below.mono (by assumption) ?_)) | omega | (simp; done) | (simp; omega))))); rintro e w' ⟨rfl, rfl⟩) | (go_at_call 106; with_reducible refine (C1.out _ ?_).mono ?_; (focus ((repeat' (first | exact Below.refl _ _ | assumption | (refine Below.alloc ?_ ?_ _) | (refine Below.drew ?_) | (refine Below.setCell ?_ ?_ _) | (refine Below.trans ?_ (Below.mono (by assumption) ?_)) | omega | (simp; done) | (simp; omega))))); rintro e w' ⟨rfl, rfl⟩))); rw [rounds_succ]; (go_wp2_with (first | (go_at_call 106; with_reducible refine (C0.out _ ?_).mono ?_; (focus ((repeat' (first | exact Below.refl _ _ | assumption | (refine Below.alloc ?_ ?_ _) | (refine Below.drew ?_) | (refine Below.setCell ?_ ?_ _) | (refine Below.trans ?_ (Below.mono (by assumption) ?_)) | omega | (simp; done) | (simp; omega))))); rintro e w' ⟨rfl, rfl⟩) | (go_at_call 106; with_reducible refine (C1.out _ ?_).mono ?_; (focus ((repeat' (first | exact Below.refl _ _ | assumption | (refine Below.alloc ?_ ?_ _) | (refine Below.drew ?_) | (refine Below.setCell ?_ ?_ _) | (refine Below.trans ?_ (Below.mono (by assumption) ?_)) | omega | (simp; done) | (simp; omega))))); rintro e w' ⟨rfl, rfl⟩))); rw [rounds_succ]; go_wp2)
        go_ret
        exact ⟨rfl, by (repeat' (first | exact Below.refl _ _ | assumption | (refine Below.alloc ?_ ?_ _) | (refine Below.drew ?_) | (refine Below.setCell ?_ ?_ _) | (refine Below.trans ?_ (Below.mono (by assumption) ?_)) | omega | (simp; done) | (simp; omega)))⟩
      · have hr : r = 0 := by rw [hS.out]; simp [x1, x2]; omega
        subst hr
        go_enter Try.func52, Try.ntmps52
        go_wp2
        (refine wp_loop_rounds 3 ?_; rw [rounds_succ]; (go_wp2_with (first | (go_at_call 106; with_reducible refine (C0.out _ ?_).mono ?_; (focus ((repeat' (first | exact Below.refl _ _ | assumption | (refine Below.alloc ?_ ?_ _) | (refine Below.drew ?_) | (refine Below.setCell ?_ ?_ _) | (refine Below.trans ?_ (Below.mono (by assumption) ?_)) | omega | (simp; done) | (simp; omega))))); rintro e w' ⟨rfl, rfl⟩) | (go_at_call 106; with_reducible refine (C1.out _ ?_).mono ?_; (focus ((repeat' (first | exact Below.refl _ _ | assumption | (refine Below.alloc ?_ ?_ _) | (refine Below.drew ?_) | (refine Below.setCell ?_ ?_ _) | (refine Below.trans ?_ (Below.mono (by assumption) ?_)) | omega | (simp; done) | (simp; omega))))); rintro e w' ⟨rfl, rfl⟩))); rw [rounds_succ]; (go_wp2_with (first | (go_at_call 106; with_reducible refine (C0.out _ ?_).mono ?_; (focus ((repeat' (first | exact Below.refl _ _ | assumption | (refine Below.alloc ?_ ?_ _) | (refine Below.drew ?_) | (refine Below.setCell ?_ ?_ _) | (refine Below.trans ?_ (Below.mono (by assumption) ?_)) | omega | (simp; done) | (simp; omega))))); rintro e w' ⟨rfl, rfl⟩) | (go_at_call 106; with_reducible refine (C1.out _ ?_).mono ?_; (focus ((repeat' (first | exact Below.refl _ _ | assumption | (refine Below.alloc ?_ ?_ _) | (refine Below.drew ?_) | (refine Below.setCell ?_ ?_ _) | (refine Below.trans ?_ (Below.mono (by assumption) ?_)) | omega | (simp; done) | (simp; omega))))); rintro e w' ⟨rfl, rfl⟩))); rw [rounds_succ]; go_wp2)
        go_ret
        exact ⟨rfl, by (repeat' (first | exact Below.refl _ _ | assumption | (refine Below.alloc ?_ ?_ _) | (refine Below.drew ?_) | (refine Below.setCell ?_ ?_ _) | (refine Below.trans ?_ (Below.mono (by assumption) ?_)) | omega | (simp; done) | (simp; omega)))⟩
    · have hb1 : (b != 0) = true := by simpa using hb0
      have hr : r = b := by rw [hS.out]; simp [hb0]
      subst hr
      go_enter Try.func52, Try.ntmps52
      go_wp2
      refine wp_loop_rounds 3 ?_
      rw [rounds_succ]
      go_wp2_with (first | (go_at_call 106; with_reducible refine (C0.out _ ?_).mono ?_; (focus ((repeat' (first | exact Below.refl _ _ | assumption | (refine Below.alloc ?_ ?_ _) | (refine Below.drew ?_) | (refine Below.setCell ?_ ?_ _) | (refine Below.trans ?_ (Below.mono (by assumption) ?_)) | omega | (simp; done) | (simp; omega))))); rintro e w' ⟨rfl, rfl⟩) | (go_at_call 106; with_reducible refine (C1.out _ ?_).mono ?_; (focus ((repeat' (first | exact Below.refl _ _ | assumption | (refine Below.alloc ?_ ?_ _) | (refine Below.drew ?_) | (refine Below.setCell ?_ ?_ _) | (refine Below.trans ?_ (Below.mono (by assumption) ?_)) | omega | (simp; done) | (simp; omega))))); rintro e w' ⟨rfl, rfl⟩))
      rw [rounds_succ]
      go_wp2_with (first | (go_at_call 106; with_reducible refine (C0.out _ ?_).mono ?_; (focus ((repeat' (first | exact Below.refl _ _ | assumption | (refine Below.alloc ?_ ?_ _) | (refine Below.drew ?_) | (refine Below.setCell ?_ ?_ _) | (refine Below.trans ?_ (Below.mono (by assumption) ?_)) | omega | (simp; done) | (simp; omega))))); rintro e w' ⟨rfl, rfl⟩) | (go_at_call 106; with_reducible refine (C1.out _ ?_).mono ?_; (focus ((repeat' (first | exact Below.refl _ _ | assumption | (refine Below.alloc ?_ ?_ _) | (refine Below.drew ?_) | (refine Below.setCell ?_ ?_ _) | (refine Below.trans ?_ (Below.mono (by assumption) ?_)) | omega | (simp; done) | (simp; omega))))); rintro e w' ⟨rfl, rfl⟩))
      go_ret
      exact ⟨rfl, by (repeat' (first | exact Below.refl _ _ | assumption | (refine Below.alloc ?_ ?_ _) | (refine Below.drew ?_) | (refine Below.setCell ?_ ?_ _) | (refine Below.trans ?_ (Below.mono (by assumption) ?_)) | omega | (simp; done) | (simp; omega)))⟩
  · have ha1 : (a != 0) = true := by simpa using ha0
    have hr : r = a := by rw [hS.out]; simp [ha0]
    subst hr
    go_enter Try.func52, Try.ntmps52
    go_wp2
    refine wp_loop_rounds 3 ?_
    rw [rounds_succ]
    go_wp2_with (first | (go_at_call 106; with_reducible refine (C0.out _ ?_).mono ?_; (focus ((repeat' (first | exact Below.refl _ _ | assumption | (refine Below.alloc ?_ ?_ _) | (refine Below.drew ?_) | (refine Below.setCell ?_ ?_ _) | (refine Below.trans ?_ (Below.mono (by assumption) ?_)) | omega | (simp; done) | (simp; omega))))); rintro e w' ⟨rfl, rfl⟩) | (go_at_call 106; with_reducible refine (C1.out _ ?_).mono ?_; (focus ((repeat' (first | exact Below.refl _ _ | assumption | (refine Below.alloc ?_ ?_ _) | (refine Below.drew ?_) | (refine Below.setCell ?_ ?_ _) | (refine Below.trans ?_ (Below.mono (by assumption) ?_)) | omega | (simp; done) | (simp; omega))))); rintro e w' ⟨rfl, rfl⟩))
    go_ret
    exact ⟨rfl, by (repeat' (first | exact Below.refl _ _ | assumption | (refine Below.alloc ?_ ?_ _) | (refine Below.drew ?_) | (refine Below.setCell ?_ ?_ _) | (refine Below.trans ?_ (Below.mono (by assumption) ?_)) | omega | (simp; done) | (simp; omega)))⟩

theorem checked_ok {u v : List Int} {k : Int} (h : checkedS u v k = 0) : mayOf 2 u = 0 ∧ mayOf 2 v = 0 ∧ u.length ≤ 8 ∧ v.length ≤ 8 ∧ 0 ≤ k ∧ k ≤ 3 := by
  unfold checkedS at h
  split at h
  · contradiction
  split at h
  · contradiction
  split at h
  · cases h
  split at h
  · cases h
  omega
theorem checked_of {u v : List Int} {k : Int} (h1 : mayOf 2 u = 0) (h2 : mayOf 2 v = 0) (h3 : u.length ≤ 8) (h4 : v.length ≤ 8) (h5 : 0 ≤ k) (h6 : k ≤ 3) : checkedS u v k = 0 := by
  unfold checkedS
  rw [if_neg (by simp [h1]), if_neg (by simp [h2]), if_neg (by omega), if_neg (by omega)]
def winsTop (u v : List Int) (k : Int) : Bool := if checkedS u v k = 0 then winsS k.toNat u v [] [] else false

set_option maxHeartbeats 1000000 in
theorem wins_top (v1 v2 : Value) (u v : List Int) (k : Int) (w : World) (h1 : Ints w v1 u) (h2 : Ints w v2 v) :
    Calls Try.prog 21 #[v1, v2, .int .i64 k] w fun e w' => e = .returned (.tuple #[.bool (winsTop u v k), .int .i64 (checkedS u v k)]) ∧ Below w.heap.size w w' := by
  obtain ⟨ao1, n1, cap1, rfl, H1, L1, hc1, hm1⟩ := h1.shape
  obtain ⟨ao2, n2, cap2, rfl, H2, L2, hc2, hm2⟩ := h2.shape
  have C0 : Hid (∀ W, Below w.heap.size w W → Calls Try.prog 52 #[.slice ao1 n1 cap1, .slice ao2 n2 cap2, .int .i64 k] W fun e w' => e = .returned (.int .i64 (checkedS u v k)) ∧ Below W.heap.size W w') := fun W hW => checked_any _ _ u v k W (h1.up hW) (h2.up hW)
  have C1 : Hid (checkedS u v k = 0 → ∀ W, Below w.heap.size w W → Calls Try.prog 53 #[.agg #[.slice ao1 n1 cap1, .slice ao2 n2 cap2, .slice none 0 0, .slice none 0 0], .int .i64 k] W fun e w' => e = .returned (.bool (winsTop u v k)) ∧ Below W.heap.size W w') := fun h W hW => by
    obtain ⟨_, _, x1, x2, x3, x4⟩ := checked_ok h
    obtain ⟨k, rfl⟩ := Int.eq_ofNat_of_zero_le x3
    unfold winsTop
    rw [if_pos h]
    exact wins_all k _ _ _ _ u v [] [] W (h1.up hW) (h2.up hW) (IntsFrom.nil 0 _).1 (IntsFrom.nil 0 _).1 x1 x2 rfl (by simp; omega)
  have hz : Hid (checkedS u v k ≠ 0 → winsTop u v k = false) := fun h => by unfold winsTop; rw [if_neg h]
  clear h1 h2
  generalize checkedS u v k = c at *
  generalize winsTop u v k = r at *
  by_cases hc : c = 0
  · subst hc
    replace C1 := Lib.hid (C1.out rfl)
    go_enter Try.func21, Try.ntmps21
    go_wp2_with (first | ((go_at_call 52; (with_reducible refine (C0.out _ ?_).mono ?_); (focus ((repeat' (first | exact Below.refl _ _ | assumption | (refine Below.alloc ?_ ?_ _) | (refine Below.drew ?_) | (refine Below.setCell ?_ ?_ _) | (refine Below.trans ?_ (Below.mono (by assumption) ?_)) | omega | (simp; done) | (simp; omega))))); rintro e w1 ⟨rfl, hb1⟩)) | ((go_at_call 53; (with_reducible refine (C1.out _ ?_).mono ?_); (focus ((repeat' (first | exact Below.refl _ _ | assumption | (refine Below.alloc ?_ ?_ _) | (refine Below.drew ?_) | (refine Below.setCell ?_ ?_ _) | (refine Below.trans ?_ (Below.mono (by assumption) ?_)) | omega | (simp; done) | (simp; omega))))); rintro e w2 ⟨rfl, hb2⟩)))
    exact bodyPost_ret (v := .tuple #[.bool r, .int .i64 0]) (by simp [results, Try.results21, go_sem]) rfl ⟨rfl, hb1.trans (hb2.mono hb1.size)⟩
  · have hc1 : (c != 0) = true := by simpa using hc
    have hr := hz.out hc
    subst hr
    clear C1
    go_enter Try.func21, Try.ntmps21
    go_wp2_with ((go_at_call 52; (with_reducible refine (C0.out _ ?_).mono ?_); (focus ((repeat' (first | exact Below.refl _ _ | assumption | (refine Below.alloc ?_ ?_ _) | (refine Below.drew ?_) | (refine Below.setCell ?_ ?_ _) | (refine Below.trans ?_ (Below.mono (by assumption) ?_)) | omega | (simp; done) | (simp; omega))))); rintro e w1 ⟨rfl, hb1⟩))
    exact bodyPost_ret (v := .tuple #[.bool false, .int .i64 c]) (by simp [results, Try.results21, go_sem]) rfl ⟨rfl, hb1⟩
end Go.Proofs.Ytfpdnigihjmohaa
