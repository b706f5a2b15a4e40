/- PROVED HERE: Rows.GramPartsSaid: evermorekeep.GramParts returns true for every input, and the input reads as it did. No condition. -/
import Derived.Test.YtobenjahlicnoaaPackGramParts7
namespace Go.Proofs.Ytobenjahlicnoaa.gramParts
open Go.ChangeShapes Go.WideShapes Go.ChangeAt Go.RowKit
set_option linter.unusedSimpArgs false
set_option linter.unusedVariables false
set_option maxRecDepth 100000

theorem rd3 : Reads 3 1 (RT intT) := readsT_int Try.underlying3
theorem rd23 : Reads 23 1 (RT (lsT intT)) := readsT_slice Try.underlying23 (by kernel_rfl) (by decide) rd3
theorem rd39 : Reads 39 2 (RT ApiMake.ty) :=
  (reads_agg Try.underlying39 (by kernel_rfl) (by kernel_rfl) (fields2 (rd3.one one_intT) (rd23.one one_lsT))).imp fun w u _ h => by
    obtain ⟨cs, rfl, hl, hf⟩ := h
    match cs, hl with
    | [c0, c1], _ =>
      obtain ⟨⟨a0, h0⟩, _⟩ := hf 0 _ c0 rfl rfl
      obtain ⟨⟨a1, h1⟩, _⟩ := hf 1 _ c1 rfl rfl
      exact ⟨⟨a0, a1⟩, [c0, c1], rfl, h0, h0.2, h1, h1.2, trivial⟩
theorem rd35 : Reads 35 1 (RT (lsT ApiMake.ty)) := readsT_slice Try.underlying35 (by kernel_rfl) (by decide) rd39
theorem rd37 : Reads 37 3 (RT ApiGrammar.ty) :=
  (reads_agg Try.underlying37 (by kernel_rfl) (by kernel_rfl) (fields3 (rd3.one one_intT) (rd3.one one_intT) (rd35.one one_lsT))).imp fun w u _ h => by
    obtain ⟨cs, rfl, hl, hf⟩ := h
    match cs, hl with
    | [c0, c1, c2], _ =>
      obtain ⟨⟨a0, h0⟩, _⟩ := hf 0 _ c0 rfl rfl
      obtain ⟨⟨a1, h1⟩, _⟩ := hf 1 _ c1 rfl rfl
      obtain ⟨⟨a2, h2⟩, _⟩ := hf 2 _ c2 rfl rfl
      exact ⟨⟨a0, a1, a2⟩, [c0, c1, c2], rfl, h0, h0.2, h1, h1.2, h2, h2.2, trivial⟩
theorem rd22 : Reads 22 1 (RT (lsT (lsT intT))) := readsT_slice Try.underlying22 (by kernel_rfl) (by decide) rd23
theorem rd25 : Reads 25 4 (RT ApiDet.ty) :=
  (reads_agg Try.underlying25 (by kernel_rfl) (by kernel_rfl) (fields4 (rd3.one one_intT) (rd3.one one_intT) (rd22.one one_lsT) (rd23.one one_lsT))).imp fun w u _ h => by
    obtain ⟨cs, rfl, hl, hf⟩ := h
    match cs, hl with
    | [c0, c1, c2, c3], _ =>
      obtain ⟨⟨a0, h0⟩, _⟩ := hf 0 _ c0 rfl rfl
      obtain ⟨⟨a1, h1⟩, _⟩ := hf 1 _ c1 rfl rfl
      obtain ⟨⟨a2, h2⟩, _⟩ := hf 2 _ c2 rfl rfl
      obtain ⟨⟨a3, h3⟩, _⟩ := hf 3 _ c3 rfl rfl
      exact ⟨⟨a0, a1, a2, a3⟩, [c0, c1, c2, c3], rfl, h0, h0.2, h1, h1.2, h2, h2.2, h3, h3.2, trivial⟩
theorem lifted (os : Os) (started : os.Started) (H : Type) (enc : TypeId × Value → H) :
    ReturnsInHanded {} Try.checked os 4 .any (Rows.gramPartsSpec.pre6 enc Try.prog Try.f4 Rows.gramPartsRow.domain false) (Rows.gramPartsSpec.post enc Try.prog Try.f4 false true false false) := by
  refine returnsInHanded_of_change (C := Try.checked) ownK started (by kernel_rfl) Try.func4
    (ChangeSpec.witness6 (enc := enc) (C := Try.checked) false ⟨#[], #[.agg #[.int .i64 0, .int .i64 0, .slice none 0 0], .agg #[.int .i64 0, .int .i64 0, .slice none 0 0, .slice none 0 0]], []⟩ 8 (by kernel_rfl) (by kernel_rfl) (by kernel_rfl) (by kernel_rfl)) ?_
  intro W base args ds gs before hval0 hW hcnd _
  have hval : ∀ (j : Nat) t v, Try.f4.params[j]? = some t → args[j]? = some v → Value.okWide Try.prog W .any base t v := hval0
  have hW' := hW
  obtain ⟨p, q, hA0, hV, rfl, hfz, hnd⟩ := hW
  have hA : DataW.TrodAll enc Try.prog W 0 (fun _ => true) true Try.f4.params.toList args.toList ds p := hA0
  rw [Try.params4] at hA hval
  obtain ⟨v0, vs0, d0, ds0, p0, q0, hargs, rfl, rfl, h0, r0⟩ := trodAll_cons hA
  obtain ⟨v1, vs1, d1, ds1, p1, q1, rfl, rfl, rfl, h1, r1⟩ := trodAll_cons r0
  obtain ⟨rfl, rfl, rfl⟩ := trodAll_nil r1
  obtain rfl : args = #[v0, v1] := by cases args; simp_all
  obtain ⟨rfl, rfl⟩ := trodVars_none hV
  obtain ⟨a0, g0⟩ := topT_struct (T := ApiGrammar.ty) Try.underlying37 (fun _ => ⟨_, rfl⟩) rd37 (hval 0 37 v0 rfl rfl) h0
  obtain ⟨a1, g1⟩ := topT_struct (T := ApiDet.ty) Try.underlying25 (fun _ => ⟨_, rfl⟩) rd25 (hval 1 25 v1 rfl rfl) h1
  have lt0 := places_lt h0
  have lt1 := places_lt h1
  clear hA0 hval0
  refine ((gLaw_ct a0 a1).row (w := W) (args := [v0, v1]) ⟨g0, g1, trivial⟩).mono fun e W' ⟨he, bel⟩ => ?_
  subst he
  exact ⟨_, rfl, _, _, _, [], _, [], hW', trodAll_mk1 (shut_bool Try.underlying4 _), (trodAll_cons_mk (Below.trod laidOut (by kernel_rfl) (of_decide_eq_true (by kernel_rfl)) h0 bel lt0) (trodAll_cons_mk (Below.trod laidOut (by kernel_rfl) (of_decide_eq_true (by kernel_rfl)) h1 bel lt1) trodAll_mk0)), rfl, bel.frame _, fun h => by cases h⟩

theorem over : Rows.gramPartsRow.holds Try.pinned (OpenSpec.ofChange Rows.gramPartsSpec) :=
  OpenClaim.holds_of_wide 4 Try.f4 rfl rfl rfl rfl rfl rfl rfl ⟨rfl, rfl, rfl, rfl, rfl⟩ rfl rfl rfl rfl rfl (by kernel_rfl) Try.func4 (by kernel_rfl)
    (of_decide_eq_true (by kernel_rfl)) (by unfold Func.isWrapper; first | (rw [if_pos (by decide +kernel)]; kernel_rfl) | (rw [if_neg (by decide +kernel)]; exact ⟨rfl, rfl⟩))
    (fun os started H enc _ => lifted os started H enc)

/-- THE STATEMENT -/
theorem proved : Rows.GramPartsSaid := over
#print axioms proved
end Go.Proofs.Ytobenjahlicnoaa.gramParts
