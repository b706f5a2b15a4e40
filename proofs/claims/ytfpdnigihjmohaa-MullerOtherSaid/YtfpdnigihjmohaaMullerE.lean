/- The walk of the law of muller. No condition. -/
import Derived.Test.YtfpdnigihjmohaaMullerD
namespace Go.Proofs.Ytfpdnigihjmohaa
open Go.RowKit
set_option linter.unusedSimpArgs false
set_option linter.unusedVariables false
set_option maxRecDepth 100000
attribute [local irreducible] wpList

def codeS (k q : Int) (N : List (List Int)) (G h l : List Int) : Int := if mullerS k q N G ≠ 0 then mullerS k q N G else lassoOf k h l
set_option maxHeartbeats 2000000 in
theorem accepts_bad (v1 v2 v3 v4 : Value) (k q : Int) (N : List (List Int)) (G h l : List Int) (w : World) (h1 : Rows2 w v1 N) (h2 : Ints w v2 G) (h3 : Ints w v3 h) (h4 : Ints w v4 l) (hq0 : -9223372036854775808 ≤ q) (hq1 : q ≤ 9223372036854775807)
    (hc : codeS k q N G h l ≠ 0) :
    Calls Try.prog 20 #[.agg #[.int .i64 k, .int .i64 q, v1, v2], .agg #[v3, v4]] w fun e w' => e = .returned (.tuple #[.bool false, .int .i64 (codeS k q N G h l)]) ∧ Below w.heap.size w w' := by
  obtain ⟨ao1, n1, cap1, rfl, H1, L1, hc1, hm1⟩ := h1.shape
  obtain ⟨ao2, n2, cap2, rfl, H2, L2, hc2, hm2⟩ := h2.shape
  obtain ⟨ao3, n3, cap3, rfl, H3, L3, hc3, hm3⟩ := h3.shape
  obtain ⟨ao4, n4, cap4, rfl, H4, L4, hc4, hm4⟩ := h4.shape
  have C1 := Lib.hid (fun W (hW : Below w.heap.size w W) => mullerCheck_any _ _ k q N G W (h1.up hW) (h2.up hW) hq0 hq1)
  have C2 := Lib.hid (fun W (hW : Below w.heap.size w W) => lasso_any k _ _ h l W (h3.up hW) (h4.up hW))
  clear h1 h2 h3 h4 H1 H2 H3 H4
  by_cases hm : mullerS k q N G = 0
  · have e : codeS k q N G h l = lassoOf k h l := by unfold codeS; rw [if_neg (by simpa using hm)]
    rw [e] at hc ⊢
    rw [hm] at C1
    generalize lassoOf k h l = c at *
    have hcb : (c != 0) = true := by simpa using hc
    replace hc := Lib.hid hc
    clear e hm
    go_enter Try.func20, Try.ntmps20
    go_wp2_with fail
    refine (C1.out _ (by (repeat' (first | exact Below.refl _ _ | assumption | (refine Below.alloc ?_ ?_ _) | (refine Below.drew ?_) | (refine Below.setCell ?_ ?_ _) | (refine Below.trans ?_ (Below.mono (by assumption) ?_)) | omega | (simp; done) | (simp; omega))))).mono ?_
    rintro e w1 ⟨rfl, hb1⟩
    have hw1 : Below w.heap.size w w1 := Below.trans (by (repeat' (first | exact Below.refl _ _ | assumption | (refine Below.alloc ?_ ?_ _) | (refine Below.drew ?_) | (refine Below.setCell ?_ ?_ _) | (refine Below.trans ?_ (Below.mono (by assumption) ?_)) | omega | (simp; done) | (simp; omega)))) (hb1.mono (by simp; omega))
    have hs1 : w.heap.size + 1 < w1.heap.size := by have := hb1.size; simp at this; omega
    have ht1 : w.heap.size < w1.heap.size := by omega
    obtain ⟨d0, d1⟩ := bcell hb1
    go_wp2_with fail
    refine (C2.out _ hw1).mono ?_
    rintro e w2 ⟨rfl, hb2⟩
    go_wp2
    go_ret2
    exact ⟨rfl, hw1.trans (hb2.mono hw1.size)⟩
  · have e : codeS k q N G h l = mullerS k q N G := by unfold codeS; rw [if_pos hm]
    rw [e] at hc ⊢
    generalize mullerS k q N G = c at *
    have hcb : (c != 0) = true := by simpa using hc
    replace hc := Lib.hid hc
    clear e hm
    go_enter Try.func20, Try.ntmps20
    go_wp2_with fail
    refine (C1.out _ (by (repeat' (first | exact Below.refl _ _ | assumption | (refine Below.alloc ?_ ?_ _) | (refine Below.drew ?_) | (refine Below.setCell ?_ ?_ _) | (refine Below.trans ?_ (Below.mono (by assumption) ?_)) | omega | (simp; done) | (simp; omega))))).mono ?_
    rintro e w1 ⟨rfl, hb1⟩
    go_wp2
    go_ret2
    exact ⟨rfl, Below.trans (by (repeat' (first | exact Below.refl _ _ | assumption | (refine Below.alloc ?_ ?_ _) | (refine Below.drew ?_) | (refine Below.setCell ?_ ?_ _) | (refine Below.trans ?_ (Below.mono (by assumption) ?_)) | omega | (simp; done) | (simp; omega)))) (hb1.mono (by simp; omega))⟩
theorem code_ok {k q : Int} {N : List (List Int)} {G h l : List Int} (e : codeS k q N G h l = 0) : mullerS k q N G = 0 ∧ lassoOf k h l = 0 := by
  unfold codeS at e
  split at e
  · contradiction
  · rename_i h1
    exact ⟨by simpa using h1, e⟩
theorem accepts_good (v1 v2 v3 v4 : Value) (k q : Int) (N : List (List Int)) (G h l : List Int) (w : World) (h1 : Rows2 w v1 N) (h2 : Ints w v2 G) (h3 : Ints w v3 h) (h4 : Ints w v4 l) (hc : codeS k q N G h l = 0) :
    Calls Try.prog 20 #[.agg #[.int .i64 k, .int .i64 q, v1, v2], .agg #[v3, v4]] w fun e w' => e = .returned (.tuple #[.bool (G.any fun y => (againS N q.toNat h l : Int) == y), .int .i64 0]) ∧ Below w.heap.size w w' := by
  obtain ⟨e1, e2⟩ := code_ok hc
  obtain ⟨a1, a2, a3, a4, a5, a6⟩ := muller_in e1
  obtain ⟨b1, b2, b3⟩ := lasso_in e2
  obtain ⟨q, rfl⟩ := Int.eq_ofNat_of_zero_le a2
  exact accepts_ok v1 v2 v3 v4 k q N G h l w h1 h2 h3 h4 e1 e2 a1 (by omega) a4 b1 b2

theorem rows_lit1 {W : World} {b : Nat} {v : Value} {l : List Int} (h1 : W.cell? ⟨b, 0, none⟩ = some v) (h : Ints W v l) : Rows2 W (.slice (some ⟨b, 0, none⟩) 1 1) [l] := by
  refine ⟨some ⟨b, 0, none⟩, 1, 1, rfl, rfl, Nat.le_refl _, by decide, (fun e => by cases e), fun q a hq => ?_⟩
  match q, hq with
  | 0, hq =>
    simp at hq
    subst hq
    obtain ⟨ao, n, cap, rfl, _⟩ := SliceOf.shape h
    refine ⟨b, 0, _, rfl, h, rfl, fun j c hj => ?_⟩
    match j, hj with
    | 0, hj =>
      simp [Value.cells] at hj
      subst hj
      exact h1
    | j + 1, hj => simp [Value.cells] at hj
  | q + 1, hq => simp at hq
theorem accepts_sample (W : World) (b1 b2 b3 b4 : Nat) (h1 : W.cell? ⟨b1, 0, none⟩ = some (.slice (some ⟨b2, 0, none⟩) 1 1)) (h2 : W.cell? ⟨b2, 0, none⟩ = some (.int .i64 0)) (h3 : W.cell? ⟨b3, 0, none⟩ = some (.int .i64 1)) (h4 : W.cell? ⟨b4, 0, none⟩ = some (.int .i64 0)) :
    Calls Try.prog 20 #[.agg #[.int .i64 1, .int .i64 0, .slice (some ⟨b1, 0, none⟩) 1 1, .slice (some ⟨b3, 0, none⟩) 1 1], .agg #[.slice none 0 0, .slice (some ⟨b4, 0, none⟩) 1 1]] W fun e w' => e = .returned (.tuple #[.bool true, .int .i64 0]) ∧ Below W.heap.size W w' := by
  have i1 : Ints W (.slice (some ⟨b2, 0, none⟩) 1 1) [0] := ints_lit (n := 1) rfl (fun q hq => by simp at hq; subst hq; exact h2) (by unfold I64; decide) (by decide)
  have i2 : Ints W (.slice (some ⟨b3, 0, none⟩) 1 1) [1] := ints_lit (n := 1) rfl (fun q hq => by simp at hq; subst hq; exact h3) (by unfold I64; decide) (by decide)
  have i3 : Ints W (.slice (some ⟨b4, 0, none⟩) 1 1) [0] := ints_lit (n := 1) rfl (fun q hq => by simp at hq; subst hq; exact h4) (by unfold I64; decide) (by decide)
  have := accepts_good _ _ _ _ 1 0 [[0]] [1] [] [0] W (rows_lit1 h1 i1) i2 (IntsFrom.nil 0 W).1 i3 (by decide)
  rwa [show ([1] : List Int).any (fun y => (againS [[0]] (0 : Int).toNat [] [0] : Int) == y) = true from by decide] at this
end Go.Proofs.Ytfpdnigihjmohaa
