/- The plain law of the play with two words: being alike for k rounds goes both ways, goes on from word to word, and holds for fewer rounds. No condition. -/
import Derived.Test.YtfpdnigihjmohaaWordP
namespace Go.Proofs.Ytfpdnigihjmohaa
open Go.RowKit
set_option linter.unusedSimpArgs false
set_option linter.unusedVariables false

def cmpS (a b : Int) : Int := if a < b then -1 else if b < a then 1 else 0
def fitsS (u v a b : List Int) (p q : Nat) : Bool := u.getD p 0 == v.getD q 0 && (List.range a.length).all fun i => cmpS (a.getD i 0) p == cmpS (b.getD i 0) q
def winsS : Nat → List Int → List Int → List Int → List Int → Bool
  | 0, _, _, _, _ => true
  | k + 1, u, v, a, b =>
    ((List.range u.length).all fun p => (List.range v.length).any fun q => fitsS u v a b p q && winsS k u v (a ++ [(p : Int)]) (b ++ [(q : Int)])) &&
    ((List.range v.length).all fun p => (List.range u.length).any fun q => fitsS v u b a p q && winsS k v u (b ++ [(p : Int)]) (a ++ [(q : Int)]))

theorem fits_iff {u v a b : List Int} {p q : Nat} : fitsS u v a b p q = true ↔ u.getD p 0 = v.getD q 0 ∧ ∀ i, i < a.length → cmpS (a.getD i 0) p = cmpS (b.getD i 0) q := by
  unfold fitsS
  rw [Bool.and_eq_true, beq_iff_eq, List.all_eq_true]
  simp only [List.mem_range, beq_iff_eq]
theorem wins_iff {k : Nat} {u v a b : List Int} : winsS (k + 1) u v a b = true ↔
    (∀ p, p < u.length → ∃ q, q < v.length ∧ fitsS u v a b p q = true ∧ winsS k u v (a ++ [(p : Int)]) (b ++ [(q : Int)]) = true) ∧
    (∀ p, p < v.length → ∃ q, q < u.length ∧ fitsS v u b a p q = true ∧ winsS k v u (b ++ [(p : Int)]) (a ++ [(q : Int)]) = true) := by
  rw [winsS, Bool.and_eq_true, List.all_eq_true, List.all_eq_true]
  simp only [List.mem_range, List.any_eq_true, Bool.and_eq_true]
theorem wins_symm {k : Nat} {u v a b : List Int} : winsS k u v a b = winsS k v u b a := by
  cases k with
  | zero => rfl
  | succ k => rw [winsS, winsS, Bool.and_comm]
theorem wins_refl (k : Nat) : ∀ u a : List Int, winsS k u u a a = true := by
  induction k with
  | zero => intro u a; rfl
  | succ k ih =>
    intro u a
    rw [wins_iff]
    exact ⟨fun p hp => ⟨p, hp, fits_iff.2 ⟨rfl, fun _ _ => rfl⟩, ih _ _⟩, fun p hp => ⟨p, hp, fits_iff.2 ⟨rfl, fun _ _ => rfl⟩, ih _ _⟩⟩
theorem fits_trans {u v w a b c : List Int} {p q r : Nat} (hab : a.length = b.length) (h1 : fitsS u v a b p q = true) (h2 : fitsS v w b c q r = true) : fitsS u w a c p r = true := by
  rw [fits_iff] at *
  exact ⟨h1.1.trans h2.1, fun i hi => (h1.2 i hi).trans (h2.2 i (by omega))⟩
theorem wins_trans (k : Nat) : ∀ u v w a b c : List Int, a.length = b.length → b.length = c.length → winsS k u v a b = true → winsS k v w b c = true → winsS k u w a c = true := by
  induction k with
  | zero => intros; rfl
  | succ k ih =>
    intro u v w a b c hab hbc h1 h2
    rw [wins_iff] at *
    refine ⟨fun p hp => ?_, fun p hp => ?_⟩
    · obtain ⟨q, hq, f1, w1⟩ := h1.1 p hp
      obtain ⟨r, hr, f2, w2⟩ := h2.1 q hq
      exact ⟨r, hr, fits_trans hab f1 f2, ih _ _ _ _ _ _ (by simp [hab]) (by simp [hbc]) w1 w2⟩
    · obtain ⟨q, hq, f1, w1⟩ := h2.2 p hp
      obtain ⟨r, hr, f2, w2⟩ := h1.2 q hq
      exact ⟨r, hr, fits_trans hbc.symm f1 f2, ih _ _ _ _ _ _ (by simp [hbc]) (by simp [hab]) w1 w2⟩
theorem wins_less (k : Nat) : ∀ u v a b : List Int, winsS (k + 1) u v a b = true → winsS k u v a b = true := by
  induction k with
  | zero => intros; rfl
  | succ k ih =>
    intro u v a b h
    rw [wins_iff] at *
    refine ⟨fun p hp => ?_, fun p hp => ?_⟩
    · obtain ⟨q, hq, f1, w1⟩ := h.1 p hp
      exact ⟨q, hq, f1, ih _ _ _ _ w1⟩
    · obtain ⟨q, hq, f1, w1⟩ := h.2 p hp
      exact ⟨q, hq, f1, ih _ _ _ _ w1⟩
end Go.Proofs.Ytfpdnigihjmohaa
