/- PROVED HERE: Rows.TopBranchSaid: evermoretop.TopBranch returns true for every input, and the input reads as it did. No condition. -/
import Derived.Test.YtiejmeedkhkfgaaPackTopBranch7
namespace Go.Proofs.Ytiejmeedkhkfgaa.topBranch
open Go.ChangeShapes Go.WideShapes Go.ChangeAt Go.RowKit
set_option linter.unusedSimpArgs false
set_option linter.unusedVariables false
set_option maxRecDepth 100000

theorem rd3 : Reads 3 1 (RT intT) := readsT_int Try.underlying3
theorem rd26 : Reads 26 3 (RT ApiArrow.ty) :=
  (reads_agg Try.underlying26 (by kernel_rfl) (by kernel_rfl) (fields3 (rd3.one one_intT) (rd3.one one_intT) (rd3.one one_intT))).imp fun w u _ h => by
    obtain ⟨cs, rfl, hl, hf⟩ := h
    match cs, hl with
    | [c0, c1, c2], _ =>
      obtain ⟨⟨a0, h0⟩, _⟩ := hf 0 _ c0 rfl rfl
      obtain ⟨⟨a1, h1⟩, _⟩ := hf 1 _ c1 rfl rfl
      obtain ⟨⟨a2, h2⟩, _⟩ := hf 2 _ c2 rfl rfl
      exact ⟨⟨a0, a1, a2⟩, [c0, c1, c2], rfl, h0, h0.2, h1, h1.2, h2, h2.2, trivial⟩
theorem rd22 : Reads 22 1 (RT (lsT ApiArrow.ty)) := readsT_slice Try.underlying22 (by kernel_rfl) (by decide) rd26
theorem rd24 : Reads 24 3 (RT ApiGraph.ty) :=
  (reads_agg Try.underlying24 (by kernel_rfl) (by kernel_rfl) (fields3 (rd3.one one_intT) (rd3.one one_intT) (rd22.one one_lsT))).imp fun w u _ h => by
    obtain ⟨cs, rfl, hl, hf⟩ := h
    match cs, hl with
    | [c0, c1, c2], _ =>
      obtain ⟨⟨a0, h0⟩, _⟩ := hf 0 _ c0 rfl rfl
      obtain ⟨⟨a1, h1⟩, _⟩ := hf 1 _ c1 rfl rfl
      obtain ⟨⟨a2, h2⟩, _⟩ := hf 2 _ c2 rfl rfl
      exact ⟨⟨a0, a1, a2⟩, [c0, c1, c2], rfl, h0, h0.2, h1, h1.2, h2, h2.2, trivial⟩
theorem lifted (os : Os) (started : os.Started) (H : Type) (enc : TypeId × Value → H) :
    ReturnsInHanded {} Try.checked os 7 .any (Rows.topBranchSpec.pre6 enc Try.prog Try.f7 Rows.topBranchRow.domain false) (Rows.topBranchSpec.post enc Try.prog Try.f7 false true false false) := by
  refine returnsInHanded_of_change (C := Try.checked) ownK started (by kernel_rfl) Try.func7
    (ChangeSpec.witness6 (enc := enc) (C := Try.checked) false ⟨#[], #[.agg #[.int .i64 0, .int .i64 0, .slice none 0 0]], []⟩ 8 (by kernel_rfl) (by kernel_rfl) (by kernel_rfl) (by kernel_rfl)) ?_
  intro W base args ds gs before hval0 hW hcnd _
  have hval : ∀ (j : Nat) t v, Try.f7.params[j]? = some t → args[j]? = some v → Value.okWide Try.prog W .any base t v := hval0
  have hW' := hW
  obtain ⟨p, q, hA0, hV, rfl, hfz, hnd⟩ := hW
  have hA : DataW.TrodAll enc Try.prog W 0 (fun _ => true) true Try.f7.params.toList args.toList ds p := hA0
  rw [Try.params7] at hA hval
  obtain ⟨v0, vs0, d0, ds0, p0, q0, hargs, rfl, rfl, h0, r0⟩ := trodAll_cons hA
  obtain ⟨rfl, rfl, rfl⟩ := trodAll_nil r0
  obtain rfl : args = #[v0] := by cases args; simp_all
  obtain ⟨rfl, rfl⟩ := trodVars_none hV
  obtain ⟨a0, g0⟩ := topT_struct (T := ApiGraph.ty) Try.underlying24 (fun _ => ⟨_, rfl⟩) rd24 (hval 0 24 v0 rfl rfl) h0
  have lt0 := places_lt h0
  clear hA0 hval0
  refine ((topBr_ct a0).row (w := W) (args := [v0]) ⟨g0, trivial⟩).mono fun e W' ⟨he, bel⟩ => ?_
  subst he
  exact ⟨_, rfl, _, _, _, [], _, [], hW', trodAll_mk1 (shut_bool Try.underlying4 _), (trodAll_cons_mk (Below.trod laidOut (by kernel_rfl) (of_decide_eq_true (by kernel_rfl)) h0 bel lt0) trodAll_mk0), rfl, bel.frame _, fun h => by cases h⟩

theorem over : Rows.topBranchRow.holds Try.pinned (OpenSpec.ofChange Rows.topBranchSpec) :=
  OpenClaim.holds_of_wide 7 Try.f7 rfl rfl rfl rfl rfl rfl rfl ⟨rfl, rfl, rfl, rfl, rfl⟩ rfl rfl rfl rfl rfl (by kernel_rfl) Try.func7 (by kernel_rfl)
    (of_decide_eq_true (by kernel_rfl)) (by unfold Func.isWrapper; first | (rw [if_pos (by decide +kernel)]; kernel_rfl) | (rw [if_neg (by decide +kernel)]; exact ⟨rfl, rfl⟩))
    (fun os started H enc _ => lifted os started H enc)

/-- THE STATEMENT -/
theorem proved : Rows.TopBranchSaid := over
#print axioms proved
end Go.Proofs.Ytiejmeedkhkfgaa.topBranch
