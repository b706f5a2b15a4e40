/- PROVED HERE: Rows.SafraTwiceSaid: evermorekeep.SafraTwice returns true for every input, and the input reads as it did. No condition. -/
import Derived.Test.YtmdbjpljlniloaaGreatPackSafraTwice7
namespace Go.Proofs.YtmdbjpljlniloaaGreat.safraTwice
open Go.ChangeShapes Go.WideShapes Go.ChangeAt Go.RowKit
set_option linter.unusedSimpArgs false
set_option linter.unusedVariables false
set_option maxRecDepth 100000

theorem rd3 : iW 3 1 (RT aZ) := Bw Tryz.underlying3
theorem Jr : iW 22 1 (RT (cB aZ)) := pB Tryz.underlying22 (by kernel_rfl) (by decide) rd3
theorem MP : iW 29 3 (RT aY.ty) :=
  (rF Tryz.underlying29 (by kernel_rfl) (by kernel_rfl) (J1 (rd3.one nm) (rd3.one nm) (rd3.one nm))).imp fun w u _ h => by
    obtain ⟨cs, rfl, hl, hf⟩ := h
    match cs, hl with
    | [c0, c1, c2], _ =>
      obtain ⟨⟨a0, h0⟩, _⟩ := hf 0 _ c0 rfl rfl
      obtain ⟨⟨a1, h1⟩, _⟩ := hf 1 _ c1 rfl rfl
      obtain ⟨⟨a2, h2⟩, _⟩ := hf 2 _ c2 rfl rfl
      exact ⟨⟨a0, a1, a2⟩, [c0, c1, c2], rfl, h0, h0.2, h1, h1.2, h2, h2.2, trivial⟩
theorem MR : iW 23 1 (RT (cB aY.ty)) := pB Tryz.underlying23 (by kernel_rfl) (by decide) MP
theorem L3 : iW 25 5 (RT bd.ty) :=
  (rF Tryz.underlying25 (by kernel_rfl) (by kernel_rfl) (J0 (rd3.one nm) (rd3.one nm) (Jr.one pJ) (MR.one pJ) (Jr.one pJ))).imp fun w u _ h => by
    obtain ⟨cs, rfl, hl, hf⟩ := h
    match cs, hl with
    | [c0, c1, c2, c3, c4], _ =>
      obtain ⟨⟨a0, h0⟩, _⟩ := hf 0 _ c0 rfl rfl
      obtain ⟨⟨a1, h1⟩, _⟩ := hf 1 _ c1 rfl rfl
      obtain ⟨⟨a2, h2⟩, _⟩ := hf 2 _ c2 rfl rfl
      obtain ⟨⟨a3, h3⟩, _⟩ := hf 3 _ c3 rfl rfl
      obtain ⟨⟨a4, h4⟩, _⟩ := hf 4 _ c4 rfl rfl
      exact ⟨⟨a0, a1, a2, a3, a4⟩, [c0, c1, c2, c3, c4], rfl, h0, h0.2, h1, h1.2, h2, h2.2, h3, h3.2, h4, h4.2, trivial⟩
theorem MQ : iW 27 2 (RT bt.ty) :=
  (rF Tryz.underlying27 (by kernel_rfl) (by kernel_rfl) (J2 (Jr.one pJ) (Jr.one pJ))).imp fun w u _ h => by
    obtain ⟨cs, rfl, hl, hf⟩ := h
    match cs, hl with
    | [c0, c1], _ =>
      obtain ⟨⟨a0, h0⟩, _⟩ := hf 0 _ c0 rfl rfl
      obtain ⟨⟨a1, h1⟩, _⟩ := hf 1 _ c1 rfl rfl
      exact ⟨⟨a0, a1⟩, [c0, c1], rfl, h0, h0.2, h1, h1.2, trivial⟩
theorem lifted (os : Os) (started : os.Started) (H : Type) (enc : TypeId × Value → H) :
    ReturnsInHanded {} Tryz.checked os 3 .any (Rows.safraTwiceSpec.pre6 enc Tryz.prog Tryz.f3 Rows.safraTwiceRow.domain false) (Rows.safraTwiceSpec.post enc Tryz.prog Tryz.f3 false true false false) := by
  refine returnsInHanded_of_change (C := Tryz.checked) MS started (by kernel_rfl) Tryz.func3
    (ChangeSpec.witness6 (enc := enc) (C := Tryz.checked) false ⟨#[], #[.agg #[.int .i64 0, .int .i64 0, .slice none 0 0, .slice none 0 0, .slice none 0 0], .agg #[.int .i64 0, .int .i64 0, .slice none 0 0, .slice none 0 0, .slice none 0 0], .agg #[.slice none 0 0, .slice none 0 0]], []⟩ 8 (by kernel_rfl) (by kernel_rfl) (by kernel_rfl) (by kernel_rfl)) ?_
  intro W base args ds gs before hval0 hW hcnd _
  have hval : ∀ (j : Nat) t v, Tryz.f3.params[j]? = some t → args[j]? = some v → Value.okWide Tryz.prog W .any base t v := hval0
  have hW' := hW
  obtain ⟨p, q, hA0, hV, rfl, hfz, hnd⟩ := hW
  have hA : DataW.TrodAll enc Tryz.prog W 0 (fun _ => true) true Tryz.f3.params.toList args.toList ds p := hA0
  rw [Tryz.params3] at hA hval
  obtain ⟨v0, vs0, d0, ds0, p0, q0, hargs, rfl, rfl, h0, r0⟩ := trodAll_cons hA
  obtain ⟨v1, vs1, d1, ds1, p1, q1, rfl, rfl, rfl, h1, r1⟩ := trodAll_cons r0
  obtain ⟨v2, vs2, d2, ds2, p2, q2, rfl, rfl, rfl, h2, r2⟩ := trodAll_cons r1
  obtain ⟨rfl, rfl, rfl⟩ := trodAll_nil r2
  obtain rfl : args = #[v0, v1, v2] := by cases args; simp_all
  obtain ⟨rfl, rfl⟩ := trodVars_none hV
  obtain ⟨a0, g0⟩ := m6 (T := bd.ty) Tryz.underlying25 (fun _ => ⟨_, rfl⟩) L3 (hval 0 25 v0 rfl rfl) h0
  obtain ⟨a1, g1⟩ := m6 (T := bd.ty) Tryz.underlying25 (fun _ => ⟨_, rfl⟩) L3 (hval 1 25 v1 rfl rfl) h1
  obtain ⟨a2, g2⟩ := m6 (T := bt.ty) Tryz.underlying27 (fun _ => ⟨_, rfl⟩) MQ (hval 2 27 v2 rfl rfl) h2
  have lt0 := rM h0
  have lt1 := rM h1
  have lt2 := rM h2
  clear hA0 hval0
  refine ((IC a0 a1 a2).row (w := W) (args := [v0, v1, v2]) ⟨g0, g1, g2, trivial⟩).mono fun e W' ⟨he, bel⟩ => ?_
  subst he
  exact ⟨_, rfl, _, _, _, [], _, [], hW', trodAll_mk1 (shut_bool Tryz.underlying4 _), (trodAll_cons_mk (Below.trod yD (by kernel_rfl) (of_decide_eq_true (by kernel_rfl)) h0 bel lt0) (trodAll_cons_mk (Below.trod yD (by kernel_rfl) (of_decide_eq_true (by kernel_rfl)) h1 bel lt1) (trodAll_cons_mk (Below.trod yD (by kernel_rfl) (of_decide_eq_true (by kernel_rfl)) h2 bel lt2) trodAll_mk0))), rfl, bel.frame _, fun h => by cases h⟩

theorem Mb : Rows.safraTwiceRow.holds Tryz.pinned (OpenSpec.ofChange Rows.safraTwiceSpec) :=
  OpenClaim.holds_of_wide 3 Tryz.f3 rfl rfl rfl rfl rfl rfl rfl ⟨rfl, rfl, rfl, rfl, rfl⟩ rfl rfl rfl rfl rfl (by kernel_rfl) Tryz.func3 (by kernel_rfl)
    (of_decide_eq_true (by kernel_rfl)) (by unfold Func.isWrapper; first | (rw [if_pos (by decide +kernel)]; kernel_rfl) | (rw [if_neg (by decide +kernel)]; exact ⟨rfl, rfl⟩))
    (fun os started H enc _ => lifted os started H enc)

/-- THE STATEMENT -/
theorem proved : Rows.SafraTwiceSaid := Mb
#print axioms proved
end Go.Proofs.YtmdbjpljlniloaaGreat.safraTwice
