/- PROVED HERE: Rows.WordRestSaid: evermorekeep.WordRest returns true for every input, and the input reads as it did. No condition. -/
import Derived.Test.YtfpdnigihjmohaaOpen
import Derived.Test.YtfpdnigihjmohaaWordG
namespace Go.Proofs.Ytfpdnigihjmohaa.wordRest
open Go.ChangeShapes Go.WideShapes Go.ChangeAt Go.RowKit
set_option linter.unusedSimpArgs false
set_option linter.unusedVariables false

theorem walk (v1 v2 : Value) (h l : List Int) (n m : Int) (w : World) (h1 : Ints w v1 h) (h2 : Ints w v2 l) :
    Calls Try.prog 4 #[.agg #[v1, v2], .int .i64 n, .int .i64 m] w fun e w' => e = .returned (.bool true) ∧ Below w.heap.size w w' := by
  by_cases hout : n < 0 ∨ m < 0 ∨ 1099511627776 < n ∨ 1099511627776 < m
  · exact wordRest_out v1 v2 h l n m w h1 h2 hout
  obtain ⟨n, rfl⟩ := Int.eq_ofNat_of_zero_le (show 0 ≤ n by omega)
  obtain ⟨m, rfl⟩ := Int.eq_ofNat_of_zero_le (show 0 ≤ m by omega)
  by_cases hc : lassoOf 4 h l = 0
  · exact wordRest_ok v1 v2 h l n m w h1 h2 (by omega) (by omega) hc
  · exact wordRest_bad v1 v2 h l n m w h1 h2 (by omega) (by omega) hc

theorem cells34 : Try.prog.cellsOf 34 = 2 := by kernel_rfl
theorem cells3 : Try.prog.cellsOf 3 = 1 := by kernel_rfl
theorem reads22 : Reads 22 1 Ints := reads_slice Try.underlying22 cells3 (by decide) (reads_int Try.underlying3)
theorem reads34 : Reads 34 2 (Agg2 Ints Ints) := reads_agg2 Try.underlying34 cells34 (by kernel_rfl) reads22 reads22 one_slice one_slice

set_option maxRecDepth 100000 in
theorem lifted (os : Os) (started : os.Started) (H : Type) (enc : TypeId × Value → H) :
    ReturnsInHanded {} Try.checked os 4 .any (Rows.wordRestSpec.pre6 enc Try.prog Try.f4 Rows.wordRestRow.domain false) (Rows.wordRestSpec.post enc Try.prog Try.f4 false true false false) := by
  refine returnsInHanded_of_change (C := Try.checked) ownK started (by kernel_rfl) Try.func4
    (ChangeSpec.witness6 (enc := enc) (C := Try.checked) false ⟨#[], #[.agg #[.slice none 0 0, .slice none 0 0], .int .i64 0, .int .i64 0], []⟩ 8 (by kernel_rfl) (by kernel_rfl) (by kernel_rfl) (by kernel_rfl)) ?_
  intro W base args ds gs before hval0 hW hcnd _
  have hval : ∀ (j : Nat) t v, Try.f4.params[j]? = some t → args[j]? = some v → Value.okWide Try.prog W .any base t v := hval0
  have hW' := hW
  obtain ⟨p, q, hA0, hV, rfl, hfz, hnd⟩ := hW
  have hA : DataW.TrodAll enc Try.prog W 0 (fun _ => true) true Try.f4.params.toList args.toList ds p := hA0
  rw [Try.params4] at hA hval
  obtain ⟨v0, vs0, d0, ds0, p0, q0, hargs, rfl, rfl, h0, r0⟩ := trodAll_cons hA
  obtain ⟨v1, vs1, d1, ds1, p1, q1, rfl, rfl, rfl, h1, r1⟩ := trodAll_cons r0
  obtain ⟨v2, vs2, d2, ds2, p2, q2, rfl, rfl, rfl, h2, r2⟩ := trodAll_cons r1
  obtain ⟨rfl, rfl, rfl⟩ := trodAll_nil r2
  obtain rfl : args = #[v0, v1, v2] := by cases args; simp_all
  obtain ⟨rfl, rfl⟩ := trodVars_none hV
  obtain ⟨⟨a, b⟩, x, y, rfl, hx, hy, _⟩ := top_agg2 Try.underlying34 reads34 (hval 0 34 v0 rfl rfl) h0
  obtain ⟨n, rfl, _⟩ := top_int Try.underlying3 (hval 1 3 v1 rfl rfl) h1
  obtain ⟨m, rfl, _⟩ := top_int Try.underlying3 (hval 2 3 v2 rfl rfl) h2
  have lt0 := places_lt h0
  have lt1 := places_lt h1
  have lt2 := places_lt h2
  clear hA0 hval0
  refine (walk x y a b n m W hx hy).mono fun e W' ⟨he, bel⟩ => ?_
  subst he
  exact ⟨_, rfl, _, _, _, [], _, [], hW', trodAll_mk1 (shut_bool Try.underlying4 _), (trodAll_cons_mk (Below.trod laidOut (by kernel_rfl) (of_decide_eq_true (by kernel_rfl)) h0 bel lt0) (trodAll_cons_mk (Below.trod laidOut (by kernel_rfl) (of_decide_eq_true (by kernel_rfl)) h1 bel lt1) (trodAll_cons_mk (Below.trod laidOut (by kernel_rfl) (of_decide_eq_true (by kernel_rfl)) h2 bel lt2) trodAll_mk0))), rfl, bel.frame _, fun h => by cases h⟩

theorem over : Rows.wordRestRow.holds Try.pinned (OpenSpec.ofChange Rows.wordRestSpec) :=
  OpenClaim.holds_of_wide 4 Try.f4 rfl rfl rfl rfl rfl rfl rfl ⟨rfl, rfl, rfl, rfl, rfl⟩ rfl rfl rfl rfl rfl (by kernel_rfl) Try.func4 (by kernel_rfl)
    (of_decide_eq_true (by kernel_rfl)) (by unfold Func.isWrapper; first | (rw [if_pos (by decide +kernel)]; kernel_rfl) | (rw [if_neg (by decide +kernel)]; exact ⟨rfl, rfl⟩))
    (fun os started H enc _ => lifted os started H enc)

/-- THE STATEMENT -/
theorem proved : Rows.WordRestSaid := over
#print axioms proved
end Go.Proofs.Ytfpdnigihjmohaa.wordRest
