/- PROVED HERE: Rows.StackGoesSaid: evermorekeep.StackGoes returns true for every input, and the input reads as it did. No condition. -/
import Derived.Test.YtiejmeedkhkfgaaPackStackGoes4
namespace Go.Proofs.Ytiejmeedkhkfgaa.stackGoes
open Go.ChangeShapes Go.WideShapes Go.ChangeAt Go.RowKit
set_option linter.unusedSimpArgs false
set_option linter.unusedVariables false
set_option maxRecDepth 100000

theorem rd3 : Reads 3 1 (RT intT) := readsT_int Try.underlying3
theorem rd37 : Reads 37 1 (RT (lsT intT)) := readsT_slice Try.underlying37 (by kernel_rfl) (by decide) rd3
theorem rd41 : Reads 41 4 (RT ApiPush.ty) :=
  (reads_agg Try.underlying41 (by kernel_rfl) (by kernel_rfl) (fields4 (rd3.one one_intT) (rd3.one one_intT) (rd3.one one_intT) (rd37.one one_lsT))).imp fun w u _ h => by
    obtain ⟨cs, rfl, hl, hf⟩ := h
    match cs, hl with
    | [c0, c1, c2, c3], _ =>
      obtain ⟨⟨a0, h0⟩, _⟩ := hf 0 _ c0 rfl rfl
      obtain ⟨⟨a1, h1⟩, _⟩ := hf 1 _ c1 rfl rfl
      obtain ⟨⟨a2, h2⟩, _⟩ := hf 2 _ c2 rfl rfl
      obtain ⟨⟨a3, h3⟩, _⟩ := hf 3 _ c3 rfl rfl
      exact ⟨⟨a0, a1, a2, a3⟩, [c0, c1, c2, c3], rfl, h0, h0.2, h1, h1.2, h2, h2.2, h3, h3.2, trivial⟩
theorem rd36 : Reads 36 1 (RT (lsT ApiPush.ty)) := readsT_slice Try.underlying36 (by kernel_rfl) (by decide) rd41
theorem rd39 : Reads 39 2 (RT ApiConfig.ty) :=
  (reads_agg Try.underlying39 (by kernel_rfl) (by kernel_rfl) (fields2 (rd3.one one_intT) (rd37.one one_lsT))).imp fun w u _ h => by
    obtain ⟨cs, rfl, hl, hf⟩ := h
    match cs, hl with
    | [c0, c1], _ =>
      obtain ⟨⟨a0, h0⟩, _⟩ := hf 0 _ c0 rfl rfl
      obtain ⟨⟨a1, h1⟩, _⟩ := hf 1 _ c1 rfl rfl
      exact ⟨⟨a0, a1⟩, [c0, c1], rfl, h0, h0.2, h1, h1.2, trivial⟩
theorem lifted (os : Os) (started : os.Started) (H : Type) (enc : TypeId × Value → H) :
    ReturnsInHanded {} Try.checked os 4 .any (Rows.stackGoesSpec.pre6 enc Try.prog Try.f4 Rows.stackGoesRow.domain false) (Rows.stackGoesSpec.post enc Try.prog Try.f4 false true false false) := by
  refine returnsInHanded_of_change (C := Try.checked) ownK started (by kernel_rfl) Try.func4
    (ChangeSpec.witness6 (enc := enc) (C := Try.checked) false ⟨#[], #[.slice none 0 0, .agg #[.int .i64 0, .slice none 0 0], .int .i64 0, .agg #[.int .i64 0, .slice none 0 0]], []⟩ 8 (by kernel_rfl) (by kernel_rfl) (by kernel_rfl) (by kernel_rfl)) ?_
  intro W base args ds gs before hval0 hW hcnd _
  have hval : ∀ (j : Nat) t v, Try.f4.params[j]? = some t → args[j]? = some v → Value.okWide Try.prog W .any base t v := hval0
  have hW' := hW
  obtain ⟨p, q, hA0, hV, rfl, hfz, hnd⟩ := hW
  have hA : DataW.TrodAll enc Try.prog W 0 (fun _ => true) true Try.f4.params.toList args.toList ds p := hA0
  rw [Try.params4] at hA hval
  obtain ⟨v0, vs0, d0, ds0, p0, q0, hargs, rfl, rfl, h0, r0⟩ := trodAll_cons hA
  obtain ⟨v1, vs1, d1, ds1, p1, q1, rfl, rfl, rfl, h1, r1⟩ := trodAll_cons r0
  obtain ⟨v2, vs2, d2, ds2, p2, q2, rfl, rfl, rfl, h2, r2⟩ := trodAll_cons r1
  obtain ⟨v3, vs3, d3, ds3, p3, q3, rfl, rfl, rfl, h3, r3⟩ := trodAll_cons r2
  obtain ⟨rfl, rfl, rfl⟩ := trodAll_nil r3
  obtain rfl : args = #[v0, v1, v2, v3] := by cases args; simp_all
  obtain ⟨rfl, rfl⟩ := trodVars_none hV
  obtain ⟨a0, g0⟩ := topT_slice (T := ApiPush.ty) Try.underlying36 rd36 (hval 0 36 v0 rfl rfl) h0
  obtain ⟨a1, g1⟩ := topT_struct (T := ApiConfig.ty) Try.underlying39 (fun _ => ⟨_, rfl⟩) rd39 (hval 1 39 v1 rfl rfl) h1
  obtain ⟨a2, g2, l2⟩ := topT_int Try.underlying3 (hval 2 3 v2 rfl rfl) h2
  obtain ⟨a3, g3⟩ := topT_struct (T := ApiConfig.ty) Try.underlying39 (fun _ => ⟨_, rfl⟩) rd39 (hval 3 39 v3 rfl rfl) h3
  have lt0 := places_lt h0
  have lt1 := places_lt h1
  have lt2 := places_lt h2
  have lt3 := places_lt h3
  clear hA0 hval0
  refine ((stackGoes_ct a0 a1 a2 a3).row (w := W) (args := [v0, v1, v2, v3]) ⟨g0, g1, g2, g3, trivial⟩).mono fun e W' ⟨he, bel⟩ => ?_
  subst he
  exact ⟨_, rfl, _, _, _, [], _, [], hW', trodAll_mk1 (shut_bool Try.underlying4 _), (trodAll_cons_mk (Below.trod laidOut (by kernel_rfl) (of_decide_eq_true (by kernel_rfl)) h0 bel lt0) (trodAll_cons_mk (Below.trod laidOut (by kernel_rfl) (of_decide_eq_true (by kernel_rfl)) h1 bel lt1) (trodAll_cons_mk (Below.trod laidOut (by kernel_rfl) (of_decide_eq_true (by kernel_rfl)) h2 bel lt2) (trodAll_cons_mk (Below.trod laidOut (by kernel_rfl) (of_decide_eq_true (by kernel_rfl)) h3 bel lt3) trodAll_mk0)))), rfl, bel.frame _, fun h => by cases h⟩

theorem over : Rows.stackGoesRow.holds Try.pinned (OpenSpec.ofChange Rows.stackGoesSpec) :=
  OpenClaim.holds_of_wide 4 Try.f4 rfl rfl rfl rfl rfl rfl rfl ⟨rfl, rfl, rfl, rfl, rfl⟩ rfl rfl rfl rfl rfl (by kernel_rfl) Try.func4 (by kernel_rfl)
    (of_decide_eq_true (by kernel_rfl)) (by unfold Func.isWrapper; first | (rw [if_pos (by decide +kernel)]; kernel_rfl) | (rw [if_neg (by decide +kernel)]; exact ⟨rfl, rfl⟩))
    (fun os started H enc _ => lifted os started H enc)

/-- THE STATEMENT -/
theorem proved : Rows.StackGoesSaid := over
#print axioms proved
end Go.Proofs.Ytiejmeedkhkfgaa.stackGoes
