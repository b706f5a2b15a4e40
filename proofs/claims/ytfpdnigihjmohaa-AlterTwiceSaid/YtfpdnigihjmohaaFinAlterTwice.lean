/- PROVED HERE: Rows.AlterTwiceSaid: evermorekeep.AlterTwice returns true for every input, and the input reads as it did. No condition. -/
import Derived.Test.YtfpdnigihjmohaaPackAlterTwice7
namespace Go.Proofs.Ytfpdnigihjmohaa.alterTwice
open Go.ChangeShapes Go.WideShapes Go.ChangeAt Go.RowKit
set_option linter.unusedSimpArgs false
set_option linter.unusedVariables false
set_option maxRecDepth 100000

theorem rd3 : Reads 3 1 (RT intT) := readsT_int Try.underlying3
theorem rd22 : Reads 22 1 (RT (lsT intT)) := readsT_slice Try.underlying22 (by kernel_rfl) (by decide) rd3
theorem rd42 : Reads 42 1 (RT (lsT (lsT intT))) := readsT_slice Try.underlying42 (by kernel_rfl) (by decide) rd22
theorem rd78 : Reads 78 1 (RT (lsT (lsT (lsT intT)))) := readsT_slice Try.underlying78 (by kernel_rfl) (by decide) rd42
theorem rd75 : Reads 75 1 (RT (lsT (lsT (lsT (lsT intT))))) := readsT_slice Try.underlying75 (by kernel_rfl) (by decide) rd78
theorem rd77 : Reads 77 4 (RT ApiAlter.ty) :=
  (reads_agg Try.underlying77 (by kernel_rfl) (by kernel_rfl) (fields4 (rd3.one one_intT) (rd3.one one_intT) (rd75.one one_lsT) (rd22.one one_lsT))).imp fun w u _ h => by
    obtain ⟨cs, rfl, hl, hf⟩ := h
    match cs, hl with
    | [c0, c1, c2, c3], _ =>
      obtain ⟨⟨a0, h0⟩, _⟩ := hf 0 _ c0 rfl rfl
      obtain ⟨⟨a1, h1⟩, _⟩ := hf 1 _ c1 rfl rfl
      obtain ⟨⟨a2, h2⟩, _⟩ := hf 2 _ c2 rfl rfl
      obtain ⟨⟨a3, h3⟩, _⟩ := hf 3 _ c3 rfl rfl
      exact ⟨⟨a0, a1, a2, a3⟩, [c0, c1, c2, c3], rfl, h0, h0.2, h1, h1.2, h2, h2.2, h3, h3.2, trivial⟩
theorem lifted (os : Os) (started : os.Started) (H : Type) (enc : TypeId × Value → H) :
    ReturnsInHanded {} Try.checked os 10 .any (Rows.alterTwiceSpec.pre6 enc Try.prog Try.f10 Rows.alterTwiceRow.domain false) (Rows.alterTwiceSpec.post enc Try.prog Try.f10 false true false false) := by
  refine returnsInHanded_of_change (C := Try.checked) ownK started (by kernel_rfl) Try.func10
    (ChangeSpec.witness6 (enc := enc) (C := Try.checked) false ⟨#[], #[.agg #[.int .i64 0, .int .i64 0, .slice none 0 0, .slice none 0 0]], []⟩ 8 (by kernel_rfl) (by kernel_rfl) (by kernel_rfl) (by kernel_rfl)) ?_
  intro W base args ds gs before hval0 hW hcnd _
  have hval : ∀ (j : Nat) t v, Try.f10.params[j]? = some t → args[j]? = some v → Value.okWide Try.prog W .any base t v := hval0
  have hW' := hW
  obtain ⟨p, q, hA0, hV, rfl, hfz, hnd⟩ := hW
  have hA : DataW.TrodAll enc Try.prog W 0 (fun _ => true) true Try.f10.params.toList args.toList ds p := hA0
  rw [Try.params10] at hA hval
  obtain ⟨v0, vs0, d0, ds0, p0, q0, hargs, rfl, rfl, h0, r0⟩ := trodAll_cons hA
  obtain ⟨rfl, rfl, rfl⟩ := trodAll_nil r0
  obtain rfl : args = #[v0] := by cases args; simp_all
  obtain ⟨rfl, rfl⟩ := trodVars_none hV
  obtain ⟨a0, g0⟩ := topT_struct (T := ApiAlter.ty) Try.underlying77 (fun _ => ⟨_, rfl⟩) rd77 (hval 0 77 v0 rfl rfl) h0
  have lt0 := places_lt h0
  clear hA0 hval0
  refine ((alterTwice_ct a0).row (w := W) (args := [v0]) ⟨g0, trivial⟩).mono fun e W' ⟨he, bel⟩ => ?_
  subst he
  exact ⟨_, rfl, _, _, _, [], _, [], hW', trodAll_mk1 (shut_bool Try.underlying4 _), (trodAll_cons_mk (Below.trod laidOut (by kernel_rfl) (of_decide_eq_true (by kernel_rfl)) h0 bel lt0) trodAll_mk0), rfl, bel.frame _, fun h => by cases h⟩

theorem over : Rows.alterTwiceRow.holds Try.pinned (OpenSpec.ofChange Rows.alterTwiceSpec) :=
  OpenClaim.holds_of_wide 10 Try.f10 rfl rfl rfl rfl rfl rfl rfl ⟨rfl, rfl, rfl, rfl, rfl⟩ rfl rfl rfl rfl rfl (by kernel_rfl) Try.func10 (by kernel_rfl)
    (of_decide_eq_true (by kernel_rfl)) (by unfold Func.isWrapper; first | (rw [if_pos (by decide +kernel)]; kernel_rfl) | (rw [if_neg (by decide +kernel)]; exact ⟨rfl, rfl⟩))
    (fun os started H enc _ => lifted os started H enc)

/-- THE STATEMENT -/
theorem proved : Rows.AlterTwiceSaid := over
#print axioms proved
end Go.Proofs.Ytfpdnigihjmohaa.alterTwice
