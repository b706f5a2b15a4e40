/- The walk of the law of the play with two words. -/
import Derived.Test.YtfpdnigihjmohaaEhrenE
import Derived.Test.YtfpdnigihjmohaaWordG
namespace Go.Proofs.Ytfpdnigihjmohaa
open Go.RowKit
set_option linter.unusedSimpArgs false
set_option linter.unusedVariables false
attribute [local irreducible] wpList

abbrev WinsRet (W : World) (v1 v2 : Value) (k : Int) (r : Bool) (c : Int) : Prop := Calls Try.prog 21 #[v1, v2, .int .i64 k] W fun e w' => e = .returned (.tuple #[.bool r, .int .i64 c]) ∧ Below W.heap.size W w'
theorem wins_sample (W : World) (b1 b2 : Nat) (h1 : W.cell? ⟨b1, 0, none⟩ = some (.int .i64 0)) (h2 : W.cell? ⟨b2, 0, none⟩ = some (.int .i64 1)) : Calls Try.prog 21 #[.slice (some ⟨b1, 0, none⟩) 1 1, .slice (some ⟨b2, 0, none⟩) 1 1, .int .i64 1] W fun e w' => e = .returned (.tuple #[.bool false, .int .i64 0]) ∧ Below W.heap.size W w' := by
  have := wins_top _ _ [0] [1] 1 W (ints_lit (n := 1) rfl (fun q hq => by simp at hq; subst hq; exact h1) (by unfold I64; decide) (by decide)) (ints_lit (n := 1) rfl (fun q hq => by simp at hq; subst hq; exact h2) (by unfold I64; decide) (by decide))
  rwa [show winsTop [0] [1] 1 = false from by decide, show checkedS [0] [1] 1 = 0 from by decide] at this

set_option maxRecDepth 20000 in
set_option maxHeartbeats 8000000 in
theorem ehrenEven_any (v1 v2 v3 : Value) (u v x : List Int) (k : Int) (w : World) (h1 : Ints w v1 u) (h2 : Ints w v2 v) (h3 : Ints w v3 x) (hk0 : -9223372036854775808 ≤ k) (hk1 : k ≤ 9223372036854775807) :
    Calls Try.prog 6 #[v1, v2, v3, .int .i64 k] w fun e w' => e = .returned (.bool true) ∧ Below w.heap.size w w' := by
  obtain ⟨ao1, n1, cap1, rfl, H1, L1, hc1, hm1⟩ := h1.shape
  obtain ⟨ao2, n2, cap2, rfl, H2, L2, hc2, hm2⟩ := h2.shape
  obtain ⟨ao3, n3, cap3, rfl, H3, L3, hc3, hm3⟩ := h3.shape
  clear h1 h2 h3
  have Cuv : Hid (∀ W, Below w.heap.size w W → WinsRet W (.slice ao1 n1 cap1) (.slice ao2 n2 cap2) k (winsTop u v k) (checkedS u v k)) := fun W hW => wins_top _ _ u v k W (H1.up hW) (H2.up hW)
  have Cvu : Hid (∀ W, Below w.heap.size w W → WinsRet W (.slice ao2 n2 cap2) (.slice ao1 n1 cap1) k (winsTop v u k) (checkedS v u k)) := fun W hW => wins_top _ _ v u k W (H2.up hW) (H1.up hW)
  by_cases hc : checkedS u v k = 0
  · obtain ⟨mu, mv, lu, lv, k0, k3⟩ := checked_ok hc
    have e1 : checkedS v u k = 0 := checked_of mv mu lv lu k0 k3
    have e2 : checkedS u u k = 0 := checked_of mu mu lu lu k0 k3
    have t1 : winsTop v u k = winsTop u v k := by unfold winsTop; rw [if_pos hc, if_pos e1, wins_symm]
    have t2 : winsTop u u k = true := by unfold winsTop; rw [if_pos e2, wins_refl]
    have Cuu : Hid (∀ W, Below w.heap.size w W → WinsRet W (.slice ao1 n1 cap1) (.slice ao1 n1 cap1) k true 0) := fun W hW => by have := wins_top _ _ u u k W (H1.up hW) (H1.up hW); rwa [e2, t2] at this
    have Cl : Hid (0 < k → ∀ W, Below w.heap.size w W → WinsRet W (.slice ao1 n1 cap1) (.slice ao2 n2 cap2) (k - 1) (winsTop u v (k - 1)) 0) := fun h W hW => by
      have := wins_top _ _ u v (k - 1) W (H1.up hW) (H2.up hW)
      rwa [show checkedS u v (k - 1) = 0 from checked_of mu mv lu lv (by omega) (by omega)] at this
    have hl : Hid (0 < k → winsTop u v k = true → winsTop u v (k - 1) = true) := fun h t => by
      unfold winsTop at *
      rw [if_pos hc] at t
      rw [if_pos (checked_of mu mv lu lv (by omega) (by omega))]
      refine wins_less _ _ _ _ _ ?_
      rwa [show (k - 1).toNat + 1 = k.toNat from by omega]
    have Cvw : Hid (∀ W, Below w.heap.size w W → WinsRet W (.slice ao2 n2 cap2) (.slice ao3 n3 cap3) k (winsTop v x k) (checkedS v x k)) := fun W hW => wins_top _ _ v x k W (H2.up hW) (H3.up hW)
    have Cuw : Hid (checkedS v x k = 0 → winsTop u v k = true → winsTop v x k = true → ∀ W, Below w.heap.size w W → WinsRet W (.slice ao1 n1 cap1) (.slice ao3 n3 cap3) k true 0) := fun h t s W hW => by
      obtain ⟨_, mx, _, lx, _⟩ := checked_ok h
      have e3 : checkedS u x k = 0 := checked_of mu mx lu lx k0 k3
      have t3 : winsTop u x k = true := by
        unfold winsTop at *
        rw [if_pos hc] at t
        rw [if_pos h] at s
        rw [if_pos e3]
        exact wins_trans _ _ _ _ _ _ _ rfl rfl t s
      have := wins_top _ _ u x k W (H1.up hW) (H3.up hW)
      rwa [e3, t3] at this
    rw [hc] at Cuv
    rw [e1, t1] at Cvu
    clear t1 t2 e1 e2 hc mu mv lu lv H1 H2 H3
    generalize winsTop u v k = A at *
    generalize winsTop u v (k - 1) = C at *
    generalize winsTop v x k = B at *
    generalize checkedS v x k = E at *
    by_cases hk : 0 < k
    · replace Cl := Lib.hid (Cl.out hk)
      cases A with
      | true =>
        have hC := hl.out hk rfl
        subst hC
        by_cases hE : E = 0
        · subst hE
          cases B with
          | true =>
            replace Cuw := Lib.hid (Cuw.out rfl rfl rfl)
            clear hl
            (go_enter Try.func6, Try.ntmps6; (go_wp2_with (first | ((go_at_call 21; (with_reducible refine (wins_sample _ _ _ ?_ ?_).mono ?_); (focus (go_simp)); (focus (go_simp)); rintro e w' ⟨rfl, hb⟩; (have hs' := hb.size); (simp at hs'); (have hbw : Below w.heap.size w w' := by (repeat' (first | exact Below.refl _ _ | assumption | (refine Below.alloc ?_ ?_ _) | (refine Below.drew ?_) | (refine Below.setCell ?_ ?_ _) | (refine Below.trans ?_ (Below.mono (by assumption) ?_)) | omega | (simp; done) | (simp; omega)))); clear hb hs')) | ((go_at_call 21; (with_reducible refine (Cuv.out _ ?_).mono ?_); (focus (exact hbw)); rintro e w' ⟨rfl, hb⟩; (replace hbw := hbw.trans (hb.mono hbw.size)); clear hb)) | ((go_at_call 21; (with_reducible refine (Cvu.out _ ?_).mono ?_); (focus (exact hbw)); rintro e w' ⟨rfl, hb⟩; (replace hbw := hbw.trans (hb.mono hbw.size)); clear hb)) | ((go_at_call 21; (with_reducible refine (Cuu.out _ ?_).mono ?_); (focus (exact hbw)); rintro e w' ⟨rfl, hb⟩; (replace hbw := hbw.trans (hb.mono hbw.size)); clear hb)) | ((go_at_call 21; (with_reducible refine (Cl.out _ ?_).mono ?_); (focus (exact hbw)); rintro e w' ⟨rfl, hb⟩; (replace hbw := hbw.trans (hb.mono hbw.size)); clear hb)) | ((go_at_call 21; (with_reducible refine (Cvw.out _ ?_).mono ?_); (focus (exact hbw)); rintro e w' ⟨rfl, hb⟩; (replace hbw := hbw.trans (hb.mono hbw.size)); clear hb)) | ((go_at_call 21; (with_reducible refine (Cuw.out _ ?_).mono ?_); (focus (exact hbw)); rintro e w' ⟨rfl, hb⟩; (replace hbw := hbw.trans (hb.mono hbw.size)); clear hb)))); go_ret; exact ⟨rfl, hbw⟩)
          | false =>
            clear hl Cuw
            (go_enter Try.func6, Try.ntmps6; (go_wp2_with (first | ((go_at_call 21; (with_reducible refine (wins_sample _ _ _ ?_ ?_).mono ?_); (focus (go_simp)); (focus (go_simp)); rintro e w' ⟨rfl, hb⟩; (have hs' := hb.size); (simp at hs'); (have hbw : Below w.heap.size w w' := by (repeat' (first | exact Below.refl _ _ | assumption | (refine Below.alloc ?_ ?_ _) | (refine Below.drew ?_) | (refine Below.setCell ?_ ?_ _) | (refine Below.trans ?_ (Below.mono (by assumption) ?_)) | omega | (simp; done) | (simp; omega)))); clear hb hs')) | ((go_at_call 21; (with_reducible refine (Cuv.out _ ?_).mono ?_); (focus (exact hbw)); rintro e w' ⟨rfl, hb⟩; (replace hbw := hbw.trans (hb.mono hbw.size)); clear hb)) | ((go_at_call 21; (with_reducible refine (Cvu.out _ ?_).mono ?_); (focus (exact hbw)); rintro e w' ⟨rfl, hb⟩; (replace hbw := hbw.trans (hb.mono hbw.size)); clear hb)) | ((go_at_call 21; (with_reducible refine (Cuu.out _ ?_).mono ?_); (focus (exact hbw)); rintro e w' ⟨rfl, hb⟩; (replace hbw := hbw.trans (hb.mono hbw.size)); clear hb)) | ((go_at_call 21; (with_reducible refine (Cl.out _ ?_).mono ?_); (focus (exact hbw)); rintro e w' ⟨rfl, hb⟩; (replace hbw := hbw.trans (hb.mono hbw.size)); clear hb)) | ((go_at_call 21; (with_reducible refine (Cvw.out _ ?_).mono ?_); (focus (exact hbw)); rintro e w' ⟨rfl, hb⟩; (replace hbw := hbw.trans (hb.mono hbw.size)); clear hb)) | ((go_at_call 21; (with_reducible refine (Cuw.out _ ?_).mono ?_); (focus (exact hbw)); rintro e w' ⟨rfl, hb⟩; (replace hbw := hbw.trans (hb.mono hbw.size)); clear hb)))); go_ret; exact ⟨rfl, hbw⟩)
        · have hE' : (E != 0) = true := by simpa using hE
          replace hE := Lib.hid hE
          clear hl Cuw
          (go_enter Try.func6, Try.ntmps6; (go_wp2_with (first | ((go_at_call 21; (with_reducible refine (wins_sample _ _ _ ?_ ?_).mono ?_); (focus (go_simp)); (focus (go_simp)); rintro e w' ⟨rfl, hb⟩; (have hs' := hb.size); (simp at hs'); (have hbw : Below w.heap.size w w' := by (repeat' (first | exact Below.refl _ _ | assumption | (refine Below.alloc ?_ ?_ _) | (refine Below.drew ?_) | (refine Below.setCell ?_ ?_ _) | (refine Below.trans ?_ (Below.mono (by assumption) ?_)) | omega | (simp; done) | (simp; omega)))); clear hb hs')) | ((go_at_call 21; (with_reducible refine (Cuv.out _ ?_).mono ?_); (focus (exact hbw)); rintro e w' ⟨rfl, hb⟩; (replace hbw := hbw.trans (hb.mono hbw.size)); clear hb)) | ((go_at_call 21; (with_reducible refine (Cvu.out _ ?_).mono ?_); (focus (exact hbw)); rintro e w' ⟨rfl, hb⟩; (replace hbw := hbw.trans (hb.mono hbw.size)); clear hb)) | ((go_at_call 21; (with_reducible refine (Cuu.out _ ?_).mono ?_); (focus (exact hbw)); rintro e w' ⟨rfl, hb⟩; (replace hbw := hbw.trans (hb.mono hbw.size)); clear hb)) | ((go_at_call 21; (with_reducible refine (Cl.out _ ?_).mono ?_); (focus (exact hbw)); rintro e w' ⟨rfl, hb⟩; (replace hbw := hbw.trans (hb.mono hbw.size)); clear hb)) | ((go_at_call 21; (with_reducible refine (Cvw.out _ ?_).mono ?_); (focus (exact hbw)); rintro e w' ⟨rfl, hb⟩; (replace hbw := hbw.trans (hb.mono hbw.size)); clear hb)) | ((go_at_call 21; (with_reducible refine (Cuw.out _ ?_).mono ?_); (focus (exact hbw)); rintro e w' ⟨rfl, hb⟩; (replace hbw := hbw.trans (hb.mono hbw.size)); clear hb)))); go_ret; exact ⟨rfl, hbw⟩)
      | false =>
        clear hl Cuw
        by_cases hE : E = 0
        · subst hE
          cases C <;> (go_enter Try.func6, Try.ntmps6; (go_wp2_with (first | ((go_at_call 21; (with_reducible refine (wins_sample _ _ _ ?_ ?_).mono ?_); (focus (go_simp)); (focus (go_simp)); rintro e w' ⟨rfl, hb⟩; (have hs' := hb.size); (simp at hs'); (have hbw : Below w.heap.size w w' := by (repeat' (first | exact Below.refl _ _ | assumption | (refine Below.alloc ?_ ?_ _) | (refine Below.drew ?_) | (refine Below.setCell ?_ ?_ _) | (refine Below.trans ?_ (Below.mono (by assumption) ?_)) | omega | (simp; done) | (simp; omega)))); clear hb hs')) | ((go_at_call 21; (with_reducible refine (Cuv.out _ ?_).mono ?_); (focus (exact hbw)); rintro e w' ⟨rfl, hb⟩; (replace hbw := hbw.trans (hb.mono hbw.size)); clear hb)) | ((go_at_call 21; (with_reducible refine (Cvu.out _ ?_).mono ?_); (focus (exact hbw)); rintro e w' ⟨rfl, hb⟩; (replace hbw := hbw.trans (hb.mono hbw.size)); clear hb)) | ((go_at_call 21; (with_reducible refine (Cuu.out _ ?_).mono ?_); (focus (exact hbw)); rintro e w' ⟨rfl, hb⟩; (replace hbw := hbw.trans (hb.mono hbw.size)); clear hb)) | ((go_at_call 21; (with_reducible refine (Cl.out _ ?_).mono ?_); (focus (exact hbw)); rintro e w' ⟨rfl, hb⟩; (replace hbw := hbw.trans (hb.mono hbw.size)); clear hb)) | ((go_at_call 21; (with_reducible refine (Cvw.out _ ?_).mono ?_); (focus (exact hbw)); rintro e w' ⟨rfl, hb⟩; (replace hbw := hbw.trans (hb.mono hbw.size)); clear hb)) | ((go_at_call 21; (with_reducible refine (Cuw.out _ ?_).mono ?_); (focus (exact hbw)); rintro e w' ⟨rfl, hb⟩; (replace hbw := hbw.trans (hb.mono hbw.size)); clear hb)))); go_ret; exact ⟨rfl, hbw⟩)
        · have hE' : (E != 0) = true := by simpa using hE
          replace hE := Lib.hid hE
          cases C <;> (go_enter Try.func6, Try.ntmps6; (go_wp2_with (first | ((go_at_call 21; (with_reducible refine (wins_sample _ _ _ ?_ ?_).mono ?_); (focus (go_simp)); (focus (go_simp)); rintro e w' ⟨rfl, hb⟩; (have hs' := hb.size); (simp at hs'); (have hbw : Below w.heap.size w w' := by (repeat' (first | exact Below.refl _ _ | assumption | (refine Below.alloc ?_ ?_ _) | (refine Below.drew ?_) | (refine Below.setCell ?_ ?_ _) | (refine Below.trans ?_ (Below.mono (by assumption) ?_)) | omega | (simp; done) | (simp; omega)))); clear hb hs')) | ((go_at_call 21; (with_reducible refine (Cuv.out _ ?_).mono ?_); (focus (exact hbw)); rintro e w' ⟨rfl, hb⟩; (replace hbw := hbw.trans (hb.mono hbw.size)); clear hb)) | ((go_at_call 21; (with_reducible refine (Cvu.out _ ?_).mono ?_); (focus (exact hbw)); rintro e w' ⟨rfl, hb⟩; (replace hbw := hbw.trans (hb.mono hbw.size)); clear hb)) | ((go_at_call 21; (with_reducible refine (Cuu.out _ ?_).mono ?_); (focus (exact hbw)); rintro e w' ⟨rfl, hb⟩; (replace hbw := hbw.trans (hb.mono hbw.size)); clear hb)) | ((go_at_call 21; (with_reducible refine (Cl.out _ ?_).mono ?_); (focus (exact hbw)); rintro e w' ⟨rfl, hb⟩; (replace hbw := hbw.trans (hb.mono hbw.size)); clear hb)) | ((go_at_call 21; (with_reducible refine (Cvw.out _ ?_).mono ?_); (focus (exact hbw)); rintro e w' ⟨rfl, hb⟩; (replace hbw := hbw.trans (hb.mono hbw.size)); clear hb)) | ((go_at_call 21; (with_reducible refine (Cuw.out _ ?_).mono ?_); (focus (exact hbw)); rintro e w' ⟨rfl, hb⟩; (replace hbw := hbw.trans (hb.mono hbw.size)); clear hb)))); go_ret; exact ⟨rfl, hbw⟩)
    · clear Cl hl
      cases A with
      | true =>
        by_cases hE : E = 0
        · subst hE
          cases B with
          | true =>
            replace Cuw := Lib.hid (Cuw.out rfl rfl rfl)
            (go_enter Try.func6, Try.ntmps6; (go_wp2_with (first | ((go_at_call 21; (with_reducible refine (wins_sample _ _ _ ?_ ?_).mono ?_); (focus (go_simp)); (focus (go_simp)); rintro e w' ⟨rfl, hb⟩; (have hs' := hb.size); (simp at hs'); (have hbw : Below w.heap.size w w' := by (repeat' (first | exact Below.refl _ _ | assumption | (refine Below.alloc ?_ ?_ _) | (refine Below.drew ?_) | (refine Below.setCell ?_ ?_ _) | (refine Below.trans ?_ (Below.mono (by assumption) ?_)) | omega | (simp; done) | (simp; omega)))); clear hb hs')) | ((go_at_call 21; (with_reducible refine (Cuv.out _ ?_).mono ?_); (focus (exact hbw)); rintro e w' ⟨rfl, hb⟩; (replace hbw := hbw.trans (hb.mono hbw.size)); clear hb)) | ((go_at_call 21; (with_reducible refine (Cvu.out _ ?_).mono ?_); (focus (exact hbw)); rintro e w' ⟨rfl, hb⟩; (replace hbw := hbw.trans (hb.mono hbw.size)); clear hb)) | ((go_at_call 21; (with_reducible refine (Cuu.out _ ?_).mono ?_); (focus (exact hbw)); rintro e w' ⟨rfl, hb⟩; (replace hbw := hbw.trans (hb.mono hbw.size)); clear hb)) | ((go_at_call 21; (with_reducible refine (Cl.out _ ?_).mono ?_); (focus (exact hbw)); rintro e w' ⟨rfl, hb⟩; (replace hbw := hbw.trans (hb.mono hbw.size)); clear hb)) | ((go_at_call 21; (with_reducible refine (Cvw.out _ ?_).mono ?_); (focus (exact hbw)); rintro e w' ⟨rfl, hb⟩; (replace hbw := hbw.trans (hb.mono hbw.size)); clear hb)) | ((go_at_call 21; (with_reducible refine (Cuw.out _ ?_).mono ?_); (focus (exact hbw)); rintro e w' ⟨rfl, hb⟩; (replace hbw := hbw.trans (hb.mono hbw.size)); clear hb)))); go_ret; exact ⟨rfl, hbw⟩)
          | false =>
            clear Cuw
            (go_enter Try.func6, Try.ntmps6; (go_wp2_with (first | ((go_at_call 21; (with_reducible refine (wins_sample _ _ _ ?_ ?_).mono ?_); (focus (go_simp)); (focus (go_simp)); rintro e w' ⟨rfl, hb⟩; (have hs' := hb.size); (simp at hs'); (have hbw : Below w.heap.size w w' := by (repeat' (first | exact Below.refl _ _ | assumption | (refine Below.alloc ?_ ?_ _) | (refine Below.drew ?_) | (refine Below.setCell ?_ ?_ _) | (refine Below.trans ?_ (Below.mono (by assumption) ?_)) | omega | (simp; done) | (simp; omega)))); clear hb hs')) | ((go_at_call 21; (with_reducible refine (Cuv.out _ ?_).mono ?_); (focus (exact hbw)); rintro e w' ⟨rfl, hb⟩; (replace hbw := hbw.trans (hb.mono hbw.size)); clear hb)) | ((go_at_call 21; (with_reducible refine (Cvu.out _ ?_).mono ?_); (focus (exact hbw)); rintro e w' ⟨rfl, hb⟩; (replace hbw := hbw.trans (hb.mono hbw.size)); clear hb)) | ((go_at_call 21; (with_reducible refine (Cuu.out _ ?_).mono ?_); (focus (exact hbw)); rintro e w' ⟨rfl, hb⟩; (replace hbw := hbw.trans (hb.mono hbw.size)); clear hb)) | ((go_at_call 21; (with_reducible refine (Cl.out _ ?_).mono ?_); (focus (exact hbw)); rintro e w' ⟨rfl, hb⟩; (replace hbw := hbw.trans (hb.mono hbw.size)); clear hb)) | ((go_at_call 21; (with_reducible refine (Cvw.out _ ?_).mono ?_); (focus (exact hbw)); rintro e w' ⟨rfl, hb⟩; (replace hbw := hbw.trans (hb.mono hbw.size)); clear hb)) | ((go_at_call 21; (with_reducible refine (Cuw.out _ ?_).mono ?_); (focus (exact hbw)); rintro e w' ⟨rfl, hb⟩; (replace hbw := hbw.trans (hb.mono hbw.size)); clear hb)))); go_ret; exact ⟨rfl, hbw⟩)
        · have hE' : (E != 0) = true := by simpa using hE
          replace hE := Lib.hid hE
          clear Cuw
          (go_enter Try.func6, Try.ntmps6; (go_wp2_with (first | ((go_at_call 21; (with_reducible refine (wins_sample _ _ _ ?_ ?_).mono ?_); (focus (go_simp)); (focus (go_simp)); rintro e w' ⟨rfl, hb⟩; (have hs' := hb.size); (simp at hs'); (have hbw : Below w.heap.size w w' := by (repeat' (first | exact Below.refl _ _ | assumption | (refine Below.alloc ?_ ?_ _) | (refine Below.drew ?_) | (refine Below.setCell ?_ ?_ _) | (refine Below.trans ?_ (Below.mono (by assumption) ?_)) | omega | (simp; done) | (simp; omega)))); clear hb hs')) | ((go_at_call 21; (with_reducible refine (Cuv.out _ ?_).mono ?_); (focus (exact hbw)); rintro e w' ⟨rfl, hb⟩; (replace hbw := hbw.trans (hb.mono hbw.size)); clear hb)) | ((go_at_call 21; (with_reducible refine (Cvu.out _ ?_).mono ?_); (focus (exact hbw)); rintro e w' ⟨rfl, hb⟩; (replace hbw := hbw.trans (hb.mono hbw.size)); clear hb)) | ((go_at_call 21; (with_reducible refine (Cuu.out _ ?_).mono ?_); (focus (exact hbw)); rintro e w' ⟨rfl, hb⟩; (replace hbw := hbw.trans (hb.mono hbw.size)); clear hb)) | ((go_at_call 21; (with_reducible refine (Cl.out _ ?_).mono ?_); (focus (exact hbw)); rintro e w' ⟨rfl, hb⟩; (replace hbw := hbw.trans (hb.mono hbw.size)); clear hb)) | ((go_at_call 21; (with_reducible refine (Cvw.out _ ?_).mono ?_); (focus (exact hbw)); rintro e w' ⟨rfl, hb⟩; (replace hbw := hbw.trans (hb.mono hbw.size)); clear hb)) | ((go_at_call 21; (with_reducible refine (Cuw.out _ ?_).mono ?_); (focus (exact hbw)); rintro e w' ⟨rfl, hb⟩; (replace hbw := hbw.trans (hb.mono hbw.size)); clear hb)))); go_ret; exact ⟨rfl, hbw⟩)
      | false =>
        clear Cuw
        by_cases hE : E = 0
        · subst hE
          (go_enter Try.func6, Try.ntmps6; (go_wp2_with (first | ((go_at_call 21; (with_reducible refine (wins_sample _ _ _ ?_ ?_).mono ?_); (focus (go_simp)); (focus (go_simp)); rintro e w' ⟨rfl, hb⟩; (have hs' := hb.size); (simp at hs'); (have hbw : Below w.heap.size w w' := by (repeat' (first | exact Below.refl _ _ | assumption | (refine Below.alloc ?_ ?_ _) | (refine Below.drew ?_) | (refine Below.setCell ?_ ?_ _) | (refine Below.trans ?_ (Below.mono (by assumption) ?_)) | omega | (simp; done) | (simp; omega)))); clear hb hs')) | ((go_at_call 21; (with_reducible refine (Cuv.out _ ?_).mono ?_); (focus (exact hbw)); rintro e w' ⟨rfl, hb⟩; (replace hbw := hbw.trans (hb.mono hbw.size)); clear hb)) | ((go_at_call 21; (with_reducible refine (Cvu.out _ ?_).mono ?_); (focus (exact hbw)); rintro e w' ⟨rfl, hb⟩; (replace hbw := hbw.trans (hb.mono hbw.size)); clear hb)) | ((go_at_call 21; (with_reducible refine (Cuu.out _ ?_).mono ?_); (focus (exact hbw)); rintro e w' ⟨rfl, hb⟩; (replace hbw := hbw.trans (hb.mono hbw.size)); clear hb)) | ((go_at_call 21; (with_reducible refine (Cl.out _ ?_).mono ?_); (focus (exact hbw)); rintro e w' ⟨rfl, hb⟩; (replace hbw := hbw.trans (hb.mono hbw.size)); clear hb)) | ((go_at_call 21; (with_reducible refine (Cvw.out _ ?_).mono ?_); (focus (exact hbw)); rintro e w' ⟨rfl, hb⟩; (replace hbw := hbw.trans (hb.mono hbw.size)); clear hb)) | ((go_at_call 21; (with_reducible refine (Cuw.out _ ?_).mono ?_); (focus (exact hbw)); rintro e w' ⟨rfl, hb⟩; (replace hbw := hbw.trans (hb.mono hbw.size)); clear hb)))); go_ret; exact ⟨rfl, hbw⟩)
        · have hE' : (E != 0) = true := by simpa using hE
          replace hE := Lib.hid hE
          (go_enter Try.func6, Try.ntmps6; (go_wp2_with (first | ((go_at_call 21; (with_reducible refine (wins_sample _ _ _ ?_ ?_).mono ?_); (focus (go_simp)); (focus (go_simp)); rintro e w' ⟨rfl, hb⟩; (have hs' := hb.size); (simp at hs'); (have hbw : Below w.heap.size w w' := by (repeat' (first | exact Below.refl _ _ | assumption | (refine Below.alloc ?_ ?_ _) | (refine Below.drew ?_) | (refine Below.setCell ?_ ?_ _) | (refine Below.trans ?_ (Below.mono (by assumption) ?_)) | omega | (simp; done) | (simp; omega)))); clear hb hs')) | ((go_at_call 21; (with_reducible refine (Cuv.out _ ?_).mono ?_); (focus (exact hbw)); rintro e w' ⟨rfl, hb⟩; (replace hbw := hbw.trans (hb.mono hbw.size)); clear hb)) | ((go_at_call 21; (with_reducible refine (Cvu.out _ ?_).mono ?_); (focus (exact hbw)); rintro e w' ⟨rfl, hb⟩; (replace hbw := hbw.trans (hb.mono hbw.size)); clear hb)) | ((go_at_call 21; (with_reducible refine (Cuu.out _ ?_).mono ?_); (focus (exact hbw)); rintro e w' ⟨rfl, hb⟩; (replace hbw := hbw.trans (hb.mono hbw.size)); clear hb)) | ((go_at_call 21; (with_reducible refine (Cl.out _ ?_).mono ?_); (focus (exact hbw)); rintro e w' ⟨rfl, hb⟩; (replace hbw := hbw.trans (hb.mono hbw.size)); clear hb)) | ((go_at_call 21; (with_reducible refine (Cvw.out _ ?_).mono ?_); (focus (exact hbw)); rintro e w' ⟨rfl, hb⟩; (replace hbw := hbw.trans (hb.mono hbw.size)); clear hb)) | ((go_at_call 21; (with_reducible refine (Cuw.out _ ?_).mono ?_); (focus (exact hbw)); rintro e w' ⟨rfl, hb⟩; (replace hbw := hbw.trans (hb.mono hbw.size)); clear hb)))); go_ret; exact ⟨rfl, hbw⟩)
  · generalize winsTop u v k = A at *
    generalize winsTop v u k = B at *
    generalize checkedS u v k = E at *
    generalize checkedS v u k = F at *
    have hE' : (E != 0) = true := by simpa using hc
    have hE2 : (E == 0) = false := by simpa using hc
    replace hc := Lib.hid hc
    (go_enter Try.func6, Try.ntmps6; (go_wp2_with (first | ((go_at_call 21; (with_reducible refine (wins_sample _ _ _ ?_ ?_).mono ?_); (focus (go_simp)); (focus (go_simp)); rintro e w' ⟨rfl, hb⟩; (have hs' := hb.size); (simp at hs'); (have hbw : Below w.heap.size w w' := by (repeat' (first | exact Below.refl _ _ | assumption | (refine Below.alloc ?_ ?_ _) | (refine Below.drew ?_) | (refine Below.setCell ?_ ?_ _) | (refine Below.trans ?_ (Below.mono (by assumption) ?_)) | omega | (simp; done) | (simp; omega)))); clear hb hs')) | ((go_at_call 21; (with_reducible refine (Cuv.out _ ?_).mono ?_); (focus (exact hbw)); rintro e w' ⟨rfl, hb⟩; (replace hbw := hbw.trans (hb.mono hbw.size)); clear hb)) | ((go_at_call 21; (with_reducible refine (Cvu.out _ ?_).mono ?_); (focus (exact hbw)); rintro e w' ⟨rfl, hb⟩; (replace hbw := hbw.trans (hb.mono hbw.size)); clear hb)) | ((go_at_call 21; (with_reducible refine (Cuu.out _ ?_).mono ?_); (focus (exact hbw)); rintro e w' ⟨rfl, hb⟩; (replace hbw := hbw.trans (hb.mono hbw.size)); clear hb)) | ((go_at_call 21; (with_reducible refine (Cl.out _ ?_).mono ?_); (focus (exact hbw)); rintro e w' ⟨rfl, hb⟩; (replace hbw := hbw.trans (hb.mono hbw.size)); clear hb)) | ((go_at_call 21; (with_reducible refine (Cvw.out _ ?_).mono ?_); (focus (exact hbw)); rintro e w' ⟨rfl, hb⟩; (replace hbw := hbw.trans (hb.mono hbw.size)); clear hb)) | ((go_at_call 21; (with_reducible refine (Cuw.out _ ?_).mono ?_); (focus (exact hbw)); rintro e w' ⟨rfl, hb⟩; (replace hbw := hbw.trans (hb.mono hbw.size)); clear hb)))); go_ret; exact ⟨rfl, hbw⟩)
end Go.Proofs.Ytfpdnigihjmohaa
