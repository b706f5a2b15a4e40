/- The law of muller: an automaton and the one with all other sets. No condition. -/
import Derived.Test.YtfpdnigihjmohaaMullerC
import Derived.Test.YtfpdnigihjmohaaWordG
namespace Go.Proofs.Ytfpdnigihjmohaa
open Go.RowKit
set_option linter.unusedSimpArgs false
set_option linter.unusedVariables false
set_option maxRecDepth 100000
attribute [local irreducible] wpList

theorem may_in {k : Int} {l : List Int} (h : mayOf k l = 0) : (1 ≤ k ∧ k ≤ 4) ∧ ∀ a ∈ l, 0 ≤ a ∧ a < k := by
  unfold mayOf at h
  split at h
  · cases h
  split at h
  · cases h
  split at h
  · rename_i h0 _ h1
    refine ⟨by omega, fun a ha => ?_⟩
    rw [List.all_eq_true] at h1
    simpa using h1 a ha
  · cases h
theorem lasso_in {k : Int} {h l : List Int} (e : lassoOf k h l = 0) : (∀ a ∈ h, 0 ≤ a ∧ a < k) ∧ (∀ a ∈ l, 0 ≤ a ∧ a < k) ∧ 0 < l.length := by
  unfold lassoOf at e
  split at e
  · contradiction
  split at e
  · contradiction
  split at e
  · cases e
  · rename_i h1 h2 h3
    exact ⟨(may_in (by simpa using h1)).2, (may_in (by simpa using h2)).2, by omega⟩
theorem muller_in {k q : Int} {N : List (List Int)} {G : List Int} (h : mullerS k q N G = 0) : OkN N k ∧ 0 ≤ q ∧ q < N.length ∧ N.length ≤ 4 ∧ (∀ s ∈ G, 1 ≤ s ∧ s < (2 : Int) ^ N.length) ∧ (∀ i, 0 < i → i < G.length → G.getD (i - 1) 0 < G.getD i 0) := by
  unfold mullerS at h
  split at h
  · cases h
  split at h
  · cases h
  split at h
  · cases h
  split at h
  · cases h
  split at h
  · cases h
  rename_i h1 h2 h3 h4 h5
  simp only [Bool.or_eq_true, not_or, Bool.not_eq_true] at h4
  obtain ⟨⟨h6, h7⟩, h8⟩ := h4
  have hq : 0 ≤ q ∧ q < N.length := by simp only [offS, Bool.or_eq_false_iff, decide_eq_false_iff_not] at h6; omega
  refine ⟨fun r hr => ⟨?_, fun x hx => ?_⟩, hq.1, hq.2, by omega, fun s hs => ?_, fun i hi0 hi => ?_⟩
  · rw [Bool.not_eq_true, List.any_eq_false] at h3
    have := h3 r hr
    simpa [lenNot] using this
  · rw [List.any_eq_false] at h7
    have := h7 r hr
    rw [Bool.not_eq_true, List.any_eq_false] at this
    have := this x hx
    simp only [offS, Bool.or_eq_true, decide_eq_true_eq, not_or] at this
    omega
  · rw [List.any_eq_false] at h8
    have := h8 s hs
    simp only [goodNot, Bool.or_eq_true, decide_eq_true_eq, not_or] at this
    omega
  · rw [Bool.not_eq_true, List.any_eq_false] at h5
    have := h5 i (List.mem_range.2 hi)
    simp only [Bool.and_eq_true, decide_eq_true_eq, not_and] at this
    have := this hi0
    omega
theorem muller_of {k q : Int} {N : List (List Int)} {G G' : List Int} (h : mullerS k q N G = 0) (h1 : ∀ s ∈ G', 1 ≤ s ∧ s < (2 : Int) ^ N.length) (h2 : ∀ i, 0 < i → i < G'.length → G'.getD (i - 1) 0 < G'.getD i 0) : mullerS k q N G' = 0 := by
  have h0 := h
  unfold mullerS at h ⊢
  split at h
  · cases h
  split at h
  · cases h
  split at h
  · cases h
  split at h
  · cases h
  rename_i a1 a2 a3 a4
  rw [if_neg a1, if_neg a2, if_neg a3, if_neg ?_, if_neg ?_]
  · rw [Bool.not_eq_true, List.any_eq_false]
    intro i hi
    simp only [Bool.and_eq_true, decide_eq_true_eq, not_and]
    intro hi0
    have := h2 i hi0 (List.mem_range.1 hi)
    omega
  · simp only [Bool.or_eq_true, not_or, Bool.not_eq_true] at a4 ⊢
    refine ⟨a4.1, ?_⟩
    rw [List.any_eq_false]
    intro s hs
    have := h1 s hs
    simp only [goodNot, Bool.or_eq_true, decide_eq_true_eq, not_or]
    omega
theorem round_in {N : List (List Int)} {k : Int} (hN : OkN N k) {n : Nat} (hn : N.length = n) : ∀ (l : List Int) (x : Nat × Nat), (∀ a ∈ l, 0 ≤ a ∧ a < k) → x.1 < 2 ^ n → x.2 < n → (roundS N l x).1 < 2 ^ n ∧ (roundS N l x).2 < n ∧ x.1 ≤ (roundS N l x).1 ∧ (0 < l.length → 1 ≤ (roundS N l x).1)
  | [], x, _, h1, h2 => ⟨h1, h2, Nat.le_refl _, fun h => by simp at h⟩
  | a :: l, x, hl, h1, h2 => by
    have hx := (next_cell hN (q := x.2) (by omega) (hl a (by simp)).1 (hl a (by simp)).2).2.2
    have hp : 2 ^ nextS N x.2 a < 2 ^ n := Nat.pow_lt_pow_right (by decide) (by omega)
    have h3 : x.1 ||| 2 ^ nextS N x.2 a < 2 ^ n := Nat.or_lt_two_pow h1 hp
    obtain ⟨r1, r2, r3, r4⟩ := round_in hN hn l (visitS N x a) (fun b hb => hl b (by simp [hb])) h3 (by show nextS N x.2 a < n; omega)
    have l1 : x.1 ≤ x.1 ||| 2 ^ nextS N x.2 a := Nat.left_le_or
    have l2 : 2 ^ nextS N x.2 a ≤ x.1 ||| 2 ^ nextS N x.2 a := Nat.right_le_or
    have l3 : 0 < 2 ^ nextS N x.2 a := Nat.pow_pos (by decide)
    have r3' : x.1 ||| 2 ^ nextS N x.2 a ≤ (roundS N l (visitS N x a)).1 := r3
    exact ⟨r1, r2, Nat.le_trans l1 r3, fun _ => by show 1 ≤ (roundS N l (visitS N x a)).1; omega⟩
theorem run_in {N : List (List Int)} {k : Int} (hN : OkN N k) {n : Nat} (hn : N.length = n) {l : List Int} (hl : ∀ a ∈ l, 0 ≤ a ∧ a < k) (h0 : 0 < l.length) (p : Nat) : ∀ (f : Nat) (x : Nat × Nat), 0 < f → x.1 < 2 ^ n → x.2 < n → 1 ≤ runS N l p f x ∧ runS N l p f x < 2 ^ n
  | 0, x, h, _, _ => by omega
  | f + 1, x, _, h1, h2 => by
    obtain ⟨r1, r2, r3, r4⟩ := round_in hN hn l x hl h1 h2
    unfold runS
    split
    · exact ⟨r4 h0, r1⟩
    · rcases Nat.eq_zero_or_pos f with rfl | hf
      · exact ⟨r4 h0, r1⟩
      · exact run_in hN hn hl h0 p f _ hf r1 r2
theorem again_in {N : List (List Int)} {k : Int} (hN : OkN N k) {h l : List Int} (hh : ∀ a ∈ h, 0 ≤ a ∧ a < k) (hl : ∀ a ∈ l, 0 ≤ a ∧ a < k) (h0 : 0 < l.length) {q : Nat} (hq : q < N.length) : 1 ≤ againS N q h l ∧ againS N q h l < 2 ^ N.length :=
  run_in hN rfl hl h0 _ _ _ (by omega) (Nat.pow_pos (by decide)) (times_lt hN hl (after_lt hN _ _ hq hh) _)

/-- all other numbers from 1 to m -/
def otherS (G : List Int) (m : Nat) : List Int := ((List.range m).map fun i : Nat => (i : Int) + 1).filter fun s => !G.any fun y => s == y
theorem other_succ (G : List Int) (m : Nat) : otherS G (m + 1) = if (G.any fun y => ((m : Int) + 1) == y) then otherS G m else otherS G m ++ [(m : Int) + 1] := by
  unfold otherS
  rw [List.range_succ, List.map_append, List.filter_append]
  split
  · rename_i h
    simp [h]
  · rename_i h
    simp [h]
theorem other_mem {G : List Int} {m : Nat} {s : Int} : s ∈ otherS G m ↔ (1 ≤ s ∧ s ≤ m) ∧ (G.any fun y => s == y) = false := by
  unfold otherS
  rw [List.mem_filter]
  simp only [List.mem_map, List.mem_range, Bool.not_eq_true']
  constructor
  · rintro ⟨⟨i, hi, rfl⟩, h⟩
    exact ⟨by omega, h⟩
  · rintro ⟨h1, h⟩
    exact ⟨⟨(s - 1).toNat, by omega, by omega⟩, h⟩
theorem other_len (G : List Int) (m : Nat) : (otherS G m).length ≤ m := by
  unfold otherS
  refine Nat.le_trans (List.length_filter_le _ _) ?_
  simp
theorem other_rise (G : List Int) : ∀ m i, 0 < i → i < (otherS G m).length → (otherS G m).getD (i - 1) 0 < (otherS G m).getD i 0
  | 0, i, _, h => by simp [otherS] at h
  | m + 1, i, h0, h => by
    rw [other_succ] at h ⊢
    split at h
    · rename_i e
      rw [if_pos e]
      exact other_rise G m i h0 h
    · rename_i e
      rw [if_neg e]
      rw [List.length_append, List.length_singleton] at h
      rcases Nat.lt_or_ge i (otherS G m).length with hi | hi
      · have := other_rise G m i h0 hi
        simp only [List.getD, List.getElem?_append_left hi, List.getElem?_append_left (show i - 1 < (otherS G m).length by omega)] at *
        exact this
      · have e2 : i = (otherS G m).length := by omega
        subst e2
        have h3 : (otherS G m).length - 1 < (otherS G m).length := by omega
        have hm := (other_mem.1 (getD_mem (d := 0) h3)).1
        simp only [List.getD, List.getElem?_append_left h3] at *
        simp
        omega
theorem other_any (G : List Int) (m s : Nat) (h1 : 1 ≤ s) (h2 : s ≤ m) : ((otherS G m).any fun y => (s : Int) == y) = !(G.any fun y => (s : Int) == y) := by
  rw [Bool.eq_iff_iff, List.any_eq_true]
  constructor
  · rintro ⟨x, hx, e⟩
    have := (other_mem.1 hx).2
    rw [show x = (s : Int) from by simpa using (Eq.symm (by simpa using e))] at this
    rw [this]
    rfl
  · intro h
    exact ⟨s, other_mem.2 ⟨by omega, by simpa using h⟩, by simp⟩
end Go.Proofs.Ytfpdnigihjmohaa
