/- The walks of package word: Rest, Normal and At at lassos that may be used. -/
import Derived.Test.YtfpdnigihjmohaaWordE
import Derived.Test.YtfpdnigihjmohaaWordP
namespace Go.Proofs.Ytfpdnigihjmohaa
open Go.RowKit
set_option linter.unusedSimpArgs false
set_option linter.unusedVariables false
attribute [local irreducible] wpList

theorem rest_all (v1 v2 : Value) (h l : List Int) (n : Nat) (w : World) (h1 : Ints w v1 h) (h2 : Ints w v2 l) (hn2 : n ≤ 9223372036854775807) (hc : lassoOf 4 h l = 0) :
    Calls Try.prog 16 #[.agg #[v1, v2], .int .i64 n] w (RetLassoE w (restS h l n) 0) := by
  unfold restS
  by_cases hn : n < h.length
  · rw [if_pos hn]; exact rest_head v1 v2 h l n w h1 h2 hn hc
  · rw [if_neg hn]; exact rest_loop v1 v2 h l n w h1 h2 (by omega) hn2 hc

set_option maxHeartbeats 1000000 in
theorem normal_ok (v1 v2 : Value) (h l : List Int) (w : World) (h1 : Ints w v1 h) (h2 : Ints w v2 l) (hc : lassoOf 4 h l = 0) :
    Calls Try.prog 17 #[.agg #[v1, v2]] w (RetLassoE w (normS h l) 0) := by
  obtain ⟨hh, hl, hp, _, _⟩ := lasso_ok hc
  obtain ⟨ao1, n1, cap1, rfl, H1, L1, hc1, hm1⟩ := h1.shape
  obtain ⟨ao2, n2, cap2, rfl, H2, L2, hc2, hm2⟩ := h2.shape
  have hL := Lib.hid (hc ▸ lasso_call (letters := 4) H1 H2)
  have hN : Hid (∀ W, Below w.heap.size w W → Calls Try.prog 46 #[.agg #[.slice ao1 n1 cap1, .slice ao2 n2 cap2]] W (RetLasso W (normS h l))) := fun W hW =>
    normal_any _ _ _ _ W (H1.up hW) (H2.up hW) hh hl hp
  clear h1 h2 hc
  go_enter Try.func17, Try.ntmps17
  go_wp2_with (first | (go_at_call 45; refine (hL.out _ ?_).mono ?_; (focus ((repeat' (first | exact Below.refl _ _ | assumption | (refine Below.alloc ?_ ?_ _) | (refine Below.drew ?_) | (refine Below.setCell ?_ ?_ _) | (refine Below.trans ?_ (Below.mono (by assumption) ?_)) | omega | (simp; done) | (simp; omega))))); rintro e w1 ⟨rfl, hb1⟩; obtain ⟨d0, d1⟩ := bcell hb1; have hs1 := hb1.size; simp at hs1) | (go_at_call 46; refine (hN.out _ ?_).mono ?_; (focus ((repeat' (first | exact Below.refl _ _ | assumption | (refine Below.alloc ?_ ?_ _) | (refine Below.drew ?_) | (refine Below.setCell ?_ ?_ _) | (refine Below.trans ?_ (Below.mono (by assumption) ?_)) | omega | (simp; done) | (simp; omega))))); rintro e w2 ⟨v3, v4, rfl, hA, hB, hb2⟩; obtain ⟨ao3, n3, cap3, rfl, HA, L3, _, _⟩ := hA.shape; obtain ⟨ao4, n4, cap4, rfl, HB, L4, _, _⟩ := hB.shape; clear hA hB; have hs2 := hb2.size; (have e0 : w2.cell? ⟨w.heap.size + 1, 0, none⟩ = some (.slice none 0 0) := by (refine (hb2.cell (p := ⟨w.heap.size + 1, 0, none⟩) ?_).trans ?_; (focus (show w.heap.size + 1 < w1.heap.size; omega)); go_simp)); (have e1 : w2.cell? ⟨w.heap.size + 1, 1, none⟩ = some (.slice none 0 0) := by (refine (hb2.cell (p := ⟨w.heap.size + 1, 1, none⟩) ?_).trans ?_; (focus (show w.heap.size + 1 < w1.heap.size; omega)); go_simp)); (have ef : ∀ o, w2.frozen? ⟨w.heap.size + 1, o, none⟩ = false := by (intro o; refine (hb2.frozen (p := ⟨w.heap.size + 1, o, none⟩) ?_).trans ?_; (focus (show w.heap.size + 1 < w1.heap.size; omega)); go_simp))))
  refine bodyPost_ret (v := .tuple #[.agg #[.slice ao3 n3 cap3, .slice ao4 n4 cap4], .int .i64 0]) (by simp [results, Try.results17, go_sem, e0, e1, ef]) rfl ⟨_, _, rfl, ?_, ?_, ?_⟩
  · exact ((HA.setBelow (by show w.heap.size + 1 < w1.heap.size; omega) _).setBelow (by show w.heap.size + 1 < w1.heap.size; omega) _).mono (by show w.heap.size ≤ w1.heap.size; omega)
  · exact ((HB.setBelow (by show w.heap.size + 1 < w1.heap.size; omega) _).setBelow (by show w.heap.size + 1 < w1.heap.size; omega) _).mono (by show w.heap.size ≤ w1.heap.size; omega)
  · have hb3 : Below w.heap.size w w2 := by (repeat' (first | exact Below.refl _ _ | assumption | (refine Below.alloc ?_ ?_ _) | (refine Below.drew ?_) | (refine Below.setCell ?_ ?_ _) | (refine Below.trans ?_ (Below.mono (by assumption) ?_)) | omega | (simp; done) | (simp; omega)))
    exact (hb3.setCell (by show w.heap.size ≤ w.heap.size + 1; omega) _).setCell (by show w.heap.size ≤ w.heap.size + 1; omega) _

set_option maxHeartbeats 1000000 in
theorem at_ok (v1 v2 : Value) (h l : List Int) (n : Nat) (w : World) (h1 : Ints w v1 h) (h2 : Ints w v2 l) (hn : n ≤ 9223372036854775807) (hc : lassoOf 4 h l = 0) :
    Calls Try.prog 18 #[.agg #[v1, v2], .int .i64 n] w fun e w' => e = .returned (.tuple #[.int .i64 (atS h l n), .int .i64 0]) ∧ Below w.heap.size w w' := by
  obtain ⟨hh, hl, hp, _, _⟩ := lasso_ok hc
  obtain ⟨ao1, n1, cap1, rfl, H1, L1, hc1, hm1⟩ := h1.shape
  obtain ⟨ao2, n2, cap2, rfl, H2, L2, hc2, hm2⟩ := h2.shape
  have hL := Lib.hid (hc ▸ lasso_call (letters := 4) H1 H2)
  have hN : Hid (∀ W, Below w.heap.size w W → Calls Try.prog 48 #[.agg #[.slice ao1 n1 cap1, .slice ao2 n2 cap2], .int .i64 n] W (fun e w' => e = .returned (.int .i64 (atS h l n)) ∧ Below W.heap.size W w')) := fun W hW =>
    at_any _ _ _ _ n W (H1.up hW) (H2.up hW) hn hp
  clear h1 h2 hc
  generalize atS h l n = z at *
  go_enter Try.func18, Try.ntmps18
  go_wp2_with (first | (go_at_call 45; refine (hL.out _ ?_).mono ?_; (focus ((repeat' (first | exact Below.refl _ _ | assumption | (refine Below.alloc ?_ ?_ _) | (refine Below.drew ?_) | (refine Below.setCell ?_ ?_ _) | (refine Below.trans ?_ (Below.mono (by assumption) ?_)) | omega | (simp; done) | (simp; omega))))); rintro e w1 ⟨rfl, hb1⟩; obtain ⟨d0, d1⟩ := bcell hb1; have hs1 := hb1.size; simp at hs1) | (go_at_call 48; refine (hN.out _ ?_).mono ?_; (focus ((repeat' (first | exact Below.refl _ _ | assumption | (refine Below.alloc ?_ ?_ _) | (refine Below.drew ?_) | (refine Below.setCell ?_ ?_ _) | (refine Below.trans ?_ (Below.mono (by assumption) ?_)) | omega | (simp; done) | (simp; omega))))); rintro e w2 ⟨rfl, hb2⟩; have hs2 := hb2.size))
  exact bodyPost_ret (v := .tuple #[.int .i64 z, .int .i64 0]) (by simp [results, Try.results18, go_sem]) rfl ⟨rfl, by (repeat' (first | exact Below.refl _ _ | assumption | (refine Below.alloc ?_ ?_ _) | (refine Below.drew ?_) | (refine Below.setCell ?_ ?_ _) | (refine Below.trans ?_ (Below.mono (by assumption) ?_)) | omega | (simp; done) | (simp; omega)))⟩
end Go.Proofs.Ytfpdnigihjmohaa
