/- PROVED HERE: Rows.MullerOtherSaid: evermorekeep.MullerOther returns true for every input, and the input reads as it did. No condition. -/
import Derived.Test.YtfpdnigihjmohaaOpenS
import Derived.Test.YtfpdnigihjmohaaMullerF
namespace Go.Proofs.Ytfpdnigihjmohaa.mullerOther
open Go.ChangeShapes Go.WideShapes Go.ChangeAt Go.RowKit
set_option linter.unusedSimpArgs false
set_option linter.unusedVariables false
set_option maxRecDepth 100000

theorem cells3 : Try.prog.cellsOf 3 = 1 := by kernel_rfl
theorem reads22 : Reads 22 1 Ints := reads_slice Try.underlying22 cells3 (by decide) (reads_int Try.underlying3)

theorem cells22 : Try.prog.cellsOf 22 = 1 := by kernel_rfl
theorem reads42 : Reads 42 1 Rows2 := reads_slice Try.underlying42 cells22 (by decide) reads22
theorem reads44 : Reads 44 4 (fun w u (_ : Unit) => AggOf [IntS, IntS, fun w c => ∃ a, Rows2 w c a, fun w c => ∃ a, Ints w c a] w u) :=
  reads_agg Try.underlying44 (by kernel_rfl) (by kernel_rfl) (fields4 (reads1_int Try.underlying3) (reads1_int Try.underlying3) (reads42.one one_slice) (reads22.one one_slice))
theorem reads34 : Reads 34 2 (fun w u (_ : Unit) => AggOf [fun w c => ∃ a, Ints w c a, fun w c => ∃ a, Ints w c a] w u) :=
  reads_agg Try.underlying34 (by kernel_rfl) (by kernel_rfl) (fields2 (reads22.one one_slice) (reads22.one one_slice))
theorem open_muller {w : World} {v : Value} (h : AggOf [IntS, IntS, fun w c => ∃ a, Rows2 w c a, fun w c => ∃ a, Ints w c a] w v) :
    ∃ (k q : Int) (x y : Value) (N : List (List Int)) (G : List Int), v = .agg #[.int .i64 k, .int .i64 q, x, y] ∧ Rows2 w x N ∧ Ints w y G ∧ -9223372036854775808 ≤ q ∧ q ≤ 9223372036854775807 := by
  obtain ⟨cs, rfl, hl, hf⟩ := h
  match cs, hl with
  | [c0, c1, c2, c3], _ =>
    obtain ⟨⟨k, rfl, _, _⟩, _⟩ := hf 0 _ c0 rfl rfl
    obtain ⟨⟨q, rfl, q0, q1⟩, _⟩ := hf 1 _ c1 rfl rfl
    obtain ⟨⟨N, h2⟩, _⟩ := hf 2 _ c2 rfl rfl
    obtain ⟨⟨G, h3⟩, _⟩ := hf 3 _ c3 rfl rfl
    exact ⟨k, q, c2, c3, N, G, rfl, h2, h3, q0, q1⟩
theorem open_lasso {w : World} {v : Value} (h : AggOf [fun w c => ∃ a, Ints w c a, fun w c => ∃ a, Ints w c a] w v) : ∃ (x y : Value) (a b : List Int), v = .agg #[x, y] ∧ Ints w x a ∧ Ints w y b := by
  obtain ⟨cs, rfl, hl, hf⟩ := h
  match cs, hl with
  | [c0, c1], _ =>
    obtain ⟨⟨a, h0⟩, _⟩ := hf 0 _ c0 rfl rfl
    obtain ⟨⟨b, h1⟩, _⟩ := hf 1 _ c1 rfl rfl
    exact ⟨c0, c1, a, b, rfl, h0, h1⟩

theorem lifted (os : Os) (started : os.Started) (H : Type) (enc : TypeId × Value → H) :
    ReturnsInHanded {} Try.checked os 5 .any (Rows.mullerOtherSpec.pre6 enc Try.prog Try.f5 Rows.mullerOtherRow.domain false) (Rows.mullerOtherSpec.post enc Try.prog Try.f5 false true false false) := by
  refine returnsInHanded_of_change (C := Try.checked) ownK started (by kernel_rfl) Try.func5
    (ChangeSpec.witness6 (enc := enc) (C := Try.checked) false ⟨#[], #[.agg #[.int .i64 0, .int .i64 0, .slice none 0 0, .slice none 0 0], .agg #[.slice none 0 0, .slice none 0 0]], []⟩ 8 (by kernel_rfl) (by kernel_rfl) (by kernel_rfl) (by kernel_rfl)) ?_
  intro W base args ds gs before hval0 hW hcnd _
  have hval : ∀ (j : Nat) t v, Try.f5.params[j]? = some t → args[j]? = some v → Value.okWide Try.prog W .any base t v := hval0
  have hW' := hW
  obtain ⟨p, q, hA0, hV, rfl, hfz, hnd⟩ := hW
  have hA : DataW.TrodAll enc Try.prog W 0 (fun _ => true) true Try.f5.params.toList args.toList ds p := hA0
  rw [Try.params5] at hA hval
  obtain ⟨v0, vs0, d0, ds0, p0, q0, hargs, rfl, rfl, h0, r0⟩ := trodAll_cons hA
  obtain ⟨v1, vs1, d1, ds1, p1, q1, rfl, rfl, rfl, h1, r1⟩ := trodAll_cons r0
  obtain ⟨rfl, rfl, rfl⟩ := trodAll_nil r1
  obtain rfl : args = #[v0, v1] := by cases args; simp_all
  obtain ⟨rfl, rfl⟩ := trodVars_none hV
  obtain ⟨kk0, qq0, xx0, yy0, N0, G0, rfl, ra0, rb0, rc0, rd0⟩ := open_muller (top_agg Try.underlying44 reads44 (hval 0 44 v0 rfl rfl) h0)
  obtain ⟨xx1, yy1, aa1, bb1, rfl, ra1, rb1⟩ := open_lasso (top_agg Try.underlying34 reads34 (hval 1 34 v1 rfl rfl) h1)
  have lt0 := places_lt h0
  have lt1 := places_lt h1
  clear hA0 hval0
  refine (mullerOther_any (w := W) ra0 rb0 ra1 rb1 rc0 rd0).mono fun e W' ⟨he, bel⟩ => ?_
  subst he
  exact ⟨_, rfl, _, _, _, [], _, [], hW', trodAll_mk1 (shut_bool Try.underlying4 _), (trodAll_cons_mk (Below.trod laidOut (by kernel_rfl) (of_decide_eq_true (by kernel_rfl)) h0 bel lt0) (trodAll_cons_mk (Below.trod laidOut (by kernel_rfl) (of_decide_eq_true (by kernel_rfl)) h1 bel lt1) trodAll_mk0)), rfl, bel.frame _, fun h => by cases h⟩

theorem over : Rows.mullerOtherRow.holds Try.pinned (OpenSpec.ofChange Rows.mullerOtherSpec) :=
  OpenClaim.holds_of_wide 5 Try.f5 rfl rfl rfl rfl rfl rfl rfl ⟨rfl, rfl, rfl, rfl, rfl⟩ rfl rfl rfl rfl rfl (by kernel_rfl) Try.func5 (by kernel_rfl)
    (of_decide_eq_true (by kernel_rfl)) (by unfold Func.isWrapper; first | (rw [if_pos (by decide +kernel)]; kernel_rfl) | (rw [if_neg (by decide +kernel)]; exact ⟨rfl, rfl⟩))
    (fun os started H enc _ => lifted os started H enc)

/-- THE STATEMENT -/
theorem proved : Rows.MullerOtherSaid := over
#print axioms proved
end Go.Proofs.Ytfpdnigihjmohaa.mullerOther
