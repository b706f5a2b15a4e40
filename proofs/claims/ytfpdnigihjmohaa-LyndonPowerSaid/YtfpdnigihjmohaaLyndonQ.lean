/- The plain law of turns of words: powers and their first turns. No condition. -/
import Derived.Test.YtfpdnigihjmohaaLyndonP
import Derived.Test.YtfpdnigihjmohaaEhrenP
namespace Go.Proofs.Ytfpdnigihjmohaa
open Go.RowKit
set_option linter.unusedSimpArgs false
set_option linter.unusedVariables false

/-- one sequence stands ahead of another one within n places -/
def LtF (n : Nat) (f g : Nat → Int) : Prop := ∃ i, i < n ∧ (∀ j, j < i → f j = g j) ∧ f i < g i
theorem LtF.trans {n : Nat} {f g h : Nat → Int} (h1 : LtF n f g) (h2 : LtF n g h) : LtF n f h := by
  obtain ⟨i, hi, e1, l1⟩ := h1
  obtain ⟨j, hj, e2, l2⟩ := h2
  rcases Nat.lt_trichotomy i j with h | h | h
  · exact ⟨i, hi, fun k hk => (e1 k hk).trans (e2 k (by omega)), by rw [← e2 i h]; exact l1⟩
  · subst h
    exact ⟨i, hi, fun k hk => (e1 k hk).trans (e2 k hk), by omega⟩
  · exact ⟨j, hj, fun k hk => (e1 k (by omega)).trans (e2 k hk), by rw [e1 j h]; exact l2⟩
theorem LtF.irrefl {n : Nat} {f : Nat → Int} : ¬ LtF n f f := fun ⟨i, _, _, h⟩ => by omega
theorem LtF.congr {n : Nat} {f g f' g' : Nat → Int} (hf : ∀ j, j < n → f j = f' j) (hg : ∀ j, j < n → g j = g' j) : LtF n f g ↔ LtF n f' g' := by
  constructor
  · rintro ⟨i, hi, e, l⟩
    exact ⟨i, hi, fun j hj => by rw [← hf j (by omega), ← hg j (by omega)]; exact e j hj, by rw [← hf i hi, ← hg i hi]; exact l⟩
  · rintro ⟨i, hi, e, l⟩
    exact ⟨i, hi, fun j hj => by rw [hf j (by omega), hg j (by omega)]; exact e j hj, by rw [hf i hi, hg i hi]; exact l⟩
/-- of sequences that go on by n the first n places tell -/
theorem LtF.short {n m : Nat} {f g : Nat → Int} (hn : 0 < n) (hm : n ≤ m) (hf : ∀ j, f (j + n) = f j) (hg : ∀ j, g (j + n) = g j) : LtF m f g ↔ LtF n f g := by
  constructor
  · rintro ⟨i, hi, e, l⟩
    by_cases h : i < n
    · exact ⟨i, h, e, l⟩
    · have h1 := hf (i - n)
      have h2 := hg (i - n)
      rw [show i - n + n = i from by omega] at h1 h2
      have := e (i - n) (by omega)
      omega
  · rintro ⟨i, hi, e, l⟩
    exact ⟨i, by omega, e, l⟩

/-- the first least one of the first k -/
def turnTo (lt : Nat → Nat → Bool) : Nat → Nat
  | 0 => 0
  | k + 1 => if lt k (turnTo lt k) then k else turnTo lt k
theorem turnTo_lt (lt : Nat → Nat → Bool) : ∀ k, 0 < k → turnTo lt k < k
  | 0, h => by omega
  | k + 1, _ => by
    unfold turnTo
    split
    · omega
    · rcases Nat.eq_zero_or_pos k with rfl | hk
      · simp [turnTo]
      · have := turnTo_lt lt k hk; omega
theorem turnTo_congr {lt lt' : Nat → Nat → Bool} : ∀ k, (∀ i j, i < k → j < k → lt i j = lt' i j) → turnTo lt k = turnTo lt' k
  | 0, _ => rfl
  | k + 1, h => by
    unfold turnTo
    have ih := turnTo_congr k (fun i j hi hj => h i j (by omega) (by omega))
    rw [← ih]
    rcases Nat.eq_zero_or_pos k with rfl | hk
    · rw [h 0 (turnTo lt 0) (by omega) (by simp [turnTo])]
    · have := turnTo_lt lt k hk
      rw [h k _ (by omega) (by omega)]
theorem turnTo_least {lt : Nat → Nat → Bool} (tr : ∀ i j k, lt i j = true → lt j k = true → lt i k = true) (ir : ∀ i, lt i i = false) : ∀ k j, j < k → lt j (turnTo lt k) = false
  | 0, j, h => by omega
  | k + 1, j, h => by
    unfold turnTo
    split
    · rename_i hk
      rcases Nat.lt_or_ge j k with hj | hj
      · rw [Bool.eq_false_iff]
        intro e
        have := tr _ _ _ e hk
        rw [turnTo_least tr ir k j hj] at this
        cases this
      · have : j = k := by omega
        subst this
        exact ir _
    · rename_i hk
      rcases Nat.lt_or_ge j k with hj | hj
      · exact turnTo_least tr ir k j hj
      · have : j = k := by omega
        subst this
        simpa using hk
/-- what comes back behind p tells nothing new -/
theorem turnTo_period {lt : Nat → Nat → Bool} {p : Nat} (tr : ∀ i j k, lt i j = true → lt j k = true → lt i k = true) (ir : ∀ i, lt i i = false) (hp : 0 < p) :
    ∀ n, p ≤ n → (∀ i j, i < n → lt i j = lt (i % p) j) → turnTo lt n = turnTo lt p := by
  intro n
  induction n with
  | zero => intro h _; omega
  | succ n ih =>
    intro h hm
    rcases Nat.lt_or_ge n p with h1 | h1
    · rw [show n + 1 = p from by omega]
    · have e := ih h1 (fun i j hi => hm i j (by omega))
      show (if lt n (turnTo lt n) = true then n else turnTo lt n) = _
      rw [e, hm n _ (by omega), turnTo_least tr ir p _ (Nat.mod_lt _ hp)]
      rw [if_neg (by simp)]

/-- a turn of a word -/
def rot (w : List Int) (k : Nat) : List Int := w.drop k ++ w.take k
theorem rot_len (w : List Int) (k : Nat) : (rot w k).length = w.length := by unfold rot; simp; omega
theorem rot_get {w : List Int} {k : Nat} (hk : k < w.length) {j : Nat} (hj : j < w.length) : (rot w k).getD j 0 = w.getD ((k + j) % w.length) 0 := by
  unfold rot
  rw [getD_app, List.length_drop]
  split
  · rename_i h
    rw [Nat.mod_eq_of_lt (by omega)]
    simp [List.getD, List.getElem?_drop]
  · rename_i h
    have e : (k + j) % w.length = j - (w.length - k) := by
      rw [Nat.mod_eq_sub_mod (by omega), Nat.mod_eq_of_lt (by omega)]
      omega
    rw [e]
    simp only [List.getD, List.getElem?_take]
    rw [if_pos (by omega)]
/-- the comparison of slices, as the library has it -/
def cmpLS : List Int → List Int → Int
  | [], [] => 0
  | [], _ :: _ => -1
  | _ :: _, [] => 1
  | x :: a, y :: b => if cmpS x y ≠ 0 then cmpS x y else cmpLS a b
theorem cmpLS_lt : ∀ {a b : List Int}, a.length = b.length → (cmpLS a b < 0 ↔ LtF a.length (a.getD · 0) (b.getD · 0))
  | [], [], _ => ⟨fun h => by simp [cmpLS] at h, fun ⟨i, hi, _⟩ => by simp at hi⟩
  | [], _ :: _, h => by simp at h
  | _ :: _, [], h => by simp at h
  | x :: a, y :: b, h => by
    have h : a.length = b.length := by simpa using h
    have ih := cmpLS_lt h
    unfold cmpLS
    by_cases hxy : x = y
    · subst hxy
      have e : cmpS x x = 0 := by unfold cmpS; simp
      rw [e, if_neg (by simp), ih]
      constructor
      · rintro ⟨i, hi, e, l⟩
        refine ⟨i + 1, by simpa using hi, fun j hj => ?_, by simpa using l⟩
        cases j with
        | zero => rfl
        | succ j => simpa using e j (by omega)
      · rintro ⟨i, hi, e, l⟩
        cases i with
        | zero => simp at l
        | succ i => exact ⟨i, by simpa using hi, fun j hj => by simpa using e (j + 1) (by omega), by simpa using l⟩
    · have hne : cmpS x y ≠ 0 := by unfold cmpS; split <;> (try split) <;> omega
      rw [if_pos hne]
      constructor
      · intro hl
        have hlt : x < y := by unfold cmpS at hl; split at hl <;> (try split at hl) <;> omega
        exact ⟨0, by simp, fun j hj => by omega, by simpa using hlt⟩
      · rintro ⟨i, hi, e, l⟩
        cases i with
        | zero =>
          have : x < y := by simpa using l
          unfold cmpS
          rw [if_pos this]
          omega
        | succ i => exact absurd (by simpa using e 0 (by omega)) hxy
def rotLt (w : List Int) (i j : Nat) : Bool := decide (cmpLS (rot w i) (rot w j) < 0)
/-- where the first turn begins -/
def turnS (w : List Int) : Nat := turnTo (rotLt w) w.length
theorem rotLt_iff {w : List Int} {i j : Nat} : rotLt w i j = true ↔ LtF w.length ((rot w i).getD · 0) ((rot w j).getD · 0) := by
  unfold rotLt
  rw [decide_eq_true_eq, cmpLS_lt (by rw [rot_len, rot_len]), rot_len]
theorem rotLt_tr {w : List Int} (i j k : Nat) (h1 : rotLt w i j = true) (h2 : rotLt w j k = true) : rotLt w i k = true := by
  rw [rotLt_iff] at *
  exact h1.trans h2
theorem rotLt_ir {w : List Int} (i : Nat) : rotLt w i i = false := by
  rw [Bool.eq_false_iff, Ne, rotLt_iff]
  exact LtF.irrefl
/-- a turn of a word that goes on by r is told by its place modulo r -/
theorem rot_mod {w : List Int} {r : Nat} (h : Per w r) (hd : w.length % r = 0) {k : Nat} (hk : k < w.length) {j : Nat} (hj : j < w.length) : (rot w k).getD j 0 = w.getD ((k + j) % r) 0 := by
  rw [rot_get hk hj, per_mod h _ (Nat.mod_lt _ (by omega)), Nat.mod_mod_of_dvd _ (Nat.dvd_of_mod_eq_zero hd)]
theorem rotLt_per {w : List Int} {r : Nat} (h : Per w r) (hd : w.length % r = 0) {i j : Nat} (hi : i < w.length) (hj : j < w.length) :
    rotLt w i j = true ↔ LtF r (fun q => w.getD ((i + q) % r) 0) (fun q => w.getD ((j + q) % r) 0) := by
  have hr : r ≤ w.length := Nat.le_of_dvd (by omega) (Nat.dvd_of_mod_eq_zero hd)
  rw [rotLt_iff, LtF.congr (fun q hq => rot_mod h hd hi hq) (fun q hq => rot_mod h hd hj hq)]
  exact LtF.short h.1 hr (fun q => by rw [← Nat.add_assoc, Nat.add_mod_right]) (fun q => by rw [← Nat.add_assoc, Nat.add_mod_right])
theorem turn_per {w : List Int} {r : Nat} (h : Per w r) (hd : w.length % r = 0) (hw : 0 < w.length) : turnS w = turnTo (rotLt w) r := by
  have hr : r ≤ w.length := Nat.le_of_dvd hw (Nat.dvd_of_mod_eq_zero hd)
  have key : ∀ i j, i < w.length → j < w.length → rotLt w i j = rotLt w (i % r) j := fun i j hi hj => by
    rw [Bool.eq_iff_iff, rotLt_per h hd hi hj, rotLt_per h hd (Nat.lt_of_lt_of_le (Nat.mod_lt _ h.1) hr) hj]
    exact LtF.congr (fun q _ => by rw [Nat.mod_add_mod]) (fun q _ => rfl)
  have tr : ∀ i j k, (rotLt w i j && decide (j < w.length)) = true → (rotLt w j k && decide (k < w.length)) = true → (rotLt w i k && decide (k < w.length)) = true := fun i j k h1 h2 => by
    simp only [Bool.and_eq_true] at *
    exact ⟨rotLt_tr i j k h1.1 h2.1, h2.2⟩
  have e : ∀ n, n ≤ w.length → turnTo (rotLt w) n = turnTo (fun i j => rotLt w i j && decide (j < w.length)) n := fun n hn => turnTo_congr n fun i j hi hj => by
    simp [show j < w.length by omega]
  unfold turnS
  rw [e _ (Nat.le_refl _), e _ hr]
  refine turnTo_period tr (fun i => by simp [rotLt_ir]) h.1 _ hr fun i j hi => ?_
  by_cases hj : j < w.length
  · simp [hj, key i j hi hj]
  · simp [hj]
/-- the first turn of a power begins where that of its word does -/
theorem turn_pow {w : List Int} {r t : Nat} (hr : IsRoot w r) (hw : 0 < w.length) (ht : 0 < t) : turnS (pow w t) = turnS w ∧ turnS w < r := by
  obtain ⟨h1, h2, h3⟩ := root_pow hr hw ht
  have hn : 1 * w.length ≤ t * w.length := Nat.mul_le_mul_right _ ht
  have hpl : w.length ≤ (pow w t).length := by rw [pow_len]; omega
  have hrw : r ≤ w.length := Nat.le_of_dvd hw (Nat.dvd_of_mod_eq_zero hr.2.1)
  rw [turn_per h1 h2 (by omega), turn_per hr.1 hr.2.1 hw]
  refine ⟨turnTo_congr r fun i j hi hj => ?_, turnTo_lt _ _ hr.1.1⟩
  rw [Bool.eq_iff_iff, rotLt_per h1 h2 (by omega) (by omega), rotLt_per hr.1 hr.2.1 (by omega) (by omega)]
  have e : ∀ i : Nat, (pow w t).getD (i % r) 0 = w.getD (i % r) 0 := fun i => by
    have hm : i % r < w.length := Nat.lt_of_lt_of_le (Nat.mod_lt _ hr.1.1) hrw
    rw [pow_get hw t _ (by omega), Nat.mod_eq_of_lt hm]
  exact LtF.congr (fun q _ => e _) (fun q _ => e _)
end Go.Proofs.Ytfpdnigihjmohaa
