/- The plain law of borders and roots of words. No condition. -/
import Derived.Test.YtfpdnigihjmohaaWordP
namespace Go.Proofs.Ytfpdnigihjmohaa
open Go.RowKit
set_option linter.unusedSimpArgs false
set_option linter.unusedVariables false

/-- the beginning of length m has a border of length k -/
def Bdr (w : List Int) (m k : Nat) : Prop := k < m ∧ ∀ j, j < k → w.getD j 0 = w.getD (m - k + j) 0
/-- k is its longest border -/
def LBdr (w : List Int) (m k : Nat) : Prop := Bdr w m k ∧ ∀ b, Bdr w m b → b ≤ k

theorem bdr_zero {w : List Int} {m : Nat} (h : 0 < m) : Bdr w m 0 := ⟨h, fun j hj => by omega⟩
theorem LBdr.uniq {w : List Int} {m k k' : Nat} (h : LBdr w m k) (h' : LBdr w m k') : k = k' := Nat.le_antisymm (h'.2 _ h.1) (h.2 _ h'.1)
theorem lb_one {w : List Int} : LBdr w 1 0 := ⟨bdr_zero (by omega), fun b hb => by have := hb.1; omega⟩
/-- a border of a border -/
theorem Bdr.trans {w : List Int} {m k b : Nat} (h : Bdr w m k) (hb : Bdr w k b) : Bdr w m b := by
  refine ⟨Nat.lt_trans hb.1 h.1, fun j hj => ?_⟩
  rw [hb.2 j hj, h.2 (k - b + j) (by have := hb.1; omega)]
  congr 1
  have := hb.1
  have := h.1
  omega
theorem Bdr.inner {w : List Int} {m k b : Nat} (h : Bdr w m k) (hb : Bdr w m b) (hlt : b < k) : Bdr w k b := by
  refine ⟨hlt, fun j hj => ?_⟩
  rw [hb.2 j hj, h.2 (k - b + j) (by omega)]
  congr 1
  have := h.1
  omega
theorem bdr_succ {w : List Int} {m b : Nat} : Bdr w (m + 1) (b + 1) ↔ (Bdr w m b ∨ (b = 0 ∧ 0 < m)) ∧ w.getD b 0 = w.getD m 0 := by
  constructor
  · rintro ⟨h1, h2⟩
    refine ⟨.inl ⟨by omega, fun j hj => ?_⟩, ?_⟩
    · rw [h2 j (by omega)]
      congr 1
      omega
    · rw [h2 b (by omega)]
      congr 1
      omega
  · rintro ⟨h, he⟩
    have hb : b < m := by
      rcases h with h | ⟨rfl, h⟩
      · exact h.1
      · exact h
    refine ⟨by omega, fun j hj => ?_⟩
    by_cases e : j = b
    · subst e
      rw [he]
      congr 1
      omega
    · rcases h with h | ⟨rfl, _⟩
      · rw [h.2 j (by omega)]
        congr 1
        omega
      · omega
/-- the state of the search for the border of the next beginning: k is a border of the beginning of length i, and the next one is no longer than k + 1 -/
def Cand (w : List Int) (i k : Nat) : Prop := Bdr w i k ∧ ∀ b, Bdr w (i + 1) b → b ≤ k + 1
theorem cand_start {w : List Int} {i k : Nat} (h : LBdr w i k) : Cand w i k := by
  refine ⟨h.1, fun b hb => ?_⟩
  cases b with
  | zero => omega
  | succ b =>
    rcases (bdr_succ.1 hb).1 with x | ⟨rfl, _⟩
    · have := h.2 _ x; omega
    · omega
theorem cand_step {w : List Int} {i k k' : Nat} (h : Cand w i k) (hk : 0 < k) (hne : w.getD i 0 ≠ w.getD k 0) (hl : LBdr w k k') : Cand w i k' := by
  refine ⟨h.1.trans hl.1, fun b hb => ?_⟩
  have h1 := h.2 b hb
  cases b with
  | zero => omega
  | succ b =>
    obtain ⟨h2, h3⟩ := bdr_succ.1 hb
    have hbk : b ≠ k := fun e => hne (by rw [← e]; exact h3.symm)
    rcases h2 with x | ⟨rfl, _⟩
    · have := hl.2 _ (h.1.inner x (by omega)); omega
    · omega
theorem cand_yes {w : List Int} {i k : Nat} (h : Cand w i k) (he : w.getD i 0 = w.getD k 0) : LBdr w (i + 1) (k + 1) := ⟨bdr_succ.2 ⟨.inl h.1, he.symm⟩, h.2⟩
theorem cand_no {w : List Int} {i : Nat} (h : Cand w i 0) (hne : w.getD i 0 ≠ w.getD 0 0) : LBdr w (i + 1) 0 := by
  refine ⟨bdr_zero (by omega), fun b hb => ?_⟩
  have h1 := h.2 b hb
  cases b with
  | zero => omega
  | succ b =>
    have : b = 0 := by omega
    subst this
    exact absurd (bdr_succ.1 hb).2.symm hne

/-- w goes on by p -/
def Per (w : List Int) (p : Nat) : Prop := 0 < p ∧ ∀ j, j + p < w.length → w.getD (j + p) 0 = w.getD j 0
theorem per_of_bdr {w : List Int} {k : Nat} (h : Bdr w w.length k) : Per w (w.length - k) := by
  refine ⟨by have := h.1; omega, fun j hj => ?_⟩
  rw [h.2 j (by have := h.1; omega)]
  congr 1
  omega
theorem bdr_of_per {w : List Int} {p : Nat} (h : Per w p) (hp : p ≤ w.length) : Bdr w w.length (w.length - p) := by
  have := h.1
  refine ⟨by omega, fun j hj => ?_⟩
  rw [← h.2 j (by omega)]
  congr 1
  omega
theorem per_least {w : List Int} {k p : Nat} (h : LBdr w w.length k) (hp : Per w p) : w.length - k ≤ p := by
  by_cases hl : p ≤ w.length
  · have := h.2 _ (bdr_of_per hp hl)
    omega
  · omega
/-- two periods that are both short: their common one -/
theorem Per.sub {w : List Int} {p q : Nat} (hp : Per w p) (hq : Per w q) (hlt : q < p) (hn : p + q ≤ w.length) : Per w (p - q) := by
  refine ⟨by omega, fun j hj => ?_⟩
  by_cases hj2 : j + p < w.length
  · have h1 := hp.2 j hj2
    have h2 := hq.2 (j + (p - q)) (by omega)
    rw [show j + (p - q) + q = j + p from by omega] at h2
    rw [← h2, h1]
  · have hjq : q ≤ j := by omega
    have h1 := hq.2 (j - q) (by omega)
    have h2 := hp.2 (j - q) (by omega)
    rw [show j - q + q = j from by omega] at h1
    rw [show j - q + p = j + (p - q) from by omega] at h2
    rw [h2, h1]
theorem Per.gcd {w : List Int} : ∀ n p q, p + q ≤ n → Per w p → Per w q → p + q ≤ w.length → Per w (Nat.gcd p q) := by
  intro n
  induction n using Nat.strongRecOn with
  | _ n ih =>
    intro p q hn hp hq hl
    have h1 := hp.1
    have h2 := hq.1
    rcases Nat.lt_trichotomy p q with h | h | h
    · have := ih (q - p + p) (by omega) (q - p) p (Nat.le_refl _) (hq.sub hp h (by omega)) hp (by omega)
      rwa [Nat.gcd_sub_self_left (by omega), Nat.gcd_comm] at this
    · subst h; rwa [Nat.gcd_self]
    · have := ih (p - q + q) (by omega) (p - q) q (Nat.le_refl _) (hp.sub hq h (by omega)) hq (by omega)
      rwa [Nat.gcd_sub_self_left (by omega)] at this

/-- r is the length of the root -/
def IsRoot (w : List Int) (r : Nat) : Prop := Per w r ∧ w.length % r = 0 ∧ ∀ q, Per w q → w.length % q = 0 → r ≤ q
theorem IsRoot.uniq {w : List Int} {r s : Nat} (h : IsRoot w r) (h' : IsRoot w s) : r = s := Nat.le_antisymm (h.2.2 _ h'.1 h'.2.1) (h'.2.2 _ h.1 h.2.1)
theorem per_whole {w : List Int} (h : 0 < w.length) : Per w w.length := ⟨h, fun j hj => by omega⟩
theorem root_of {w : List Int} {k : Nat} (h : LBdr w w.length k) : IsRoot w (if w.length % (w.length - k) ≠ 0 then w.length else w.length - k) := by
  have hk := h.1.1
  split
  · rename_i hm
    refine ⟨per_whole (by omega), Nat.mod_self _, fun q hq hd => ?_⟩
    rcases Nat.lt_or_ge q w.length with hlt | hge
    · exfalso
      have hs := per_of_bdr h.1
      have hle := per_least h hq
      obtain ⟨c, hc⟩ := Nat.dvd_of_mod_eq_zero hd
      have hq0 := hq.1
      have h2 : 2 ≤ c := by
        rcases c with _ | _ | c
        · rw [Nat.mul_zero] at hc; omega
        · rw [Nat.zero_add, Nat.mul_one] at hc; omega
        · omega
      have h3 : q * 2 ≤ q * c := Nat.mul_le_mul_left _ h2
      have hg := Per.gcd _ _ _ (Nat.le_refl _) hs hq (by omega)
      have h4 := per_least h hg
      have h5 : Nat.gcd (w.length - k) q ≤ w.length - k := Nat.gcd_le_left _ hs.1
      have h6 : Nat.gcd (w.length - k) q = w.length - k := by omega
      have h7 : (w.length - k) ∣ q := by rw [← h6]; exact Nat.gcd_dvd_right _ _
      exact hm (Nat.mod_eq_zero_of_dvd (Nat.dvd_trans h7 ⟨c, hc⟩))
    · exact hge
  · rename_i hm
    exact ⟨per_of_bdr h.1, by simpa using hm, fun q hq _ => per_least h hq⟩

/-- w, t times -/
def pow (w : List Int) : Nat → List Int
  | 0 => []
  | t + 1 => pow w t ++ w
theorem pow_len (w : List Int) (t : Nat) : (pow w t).length = t * w.length := by
  induction t with
  | zero => simp [pow]
  | succ t ih => rw [pow, List.length_append, ih, Nat.succ_mul]
theorem pow_get {w : List Int} (hw : 0 < w.length) (t : Nat) : ∀ j, j < t * w.length → (pow w t).getD j 0 = w.getD (j % w.length) 0 := by
  induction t with
  | zero => intro j hj; simp at hj
  | succ t ih =>
    intro j hj
    rw [pow, getD_app, pow_len]
    split
    · rename_i h; exact ih j h
    · rename_i h
      rw [Nat.succ_mul] at hj
      congr 1
      have e : j % w.length = j - t * w.length := by
        have h1 : j = (j - t * w.length) + w.length * t := by rw [Nat.mul_comm w.length t]; omega
        have h2 : ((j - t * w.length) + w.length * t) % w.length = (j - t * w.length) % w.length := Nat.add_mul_mod_self_left _ _ _
        rw [← h1, Nat.mod_eq_of_lt (by omega : j - t * w.length < w.length)] at h2
        exact h2
      rw [e]

theorem per_mod {w : List Int} {r : Nat} (h : Per w r) : ∀ j, j < w.length → w.getD j 0 = w.getD (j % r) 0 := by
  intro j
  induction j using Nat.strongRecOn with
  | _ j ih =>
    intro hj
    have := h.1
    by_cases hlt : j < r
    · rw [Nat.mod_eq_of_lt hlt]
    · have h2 := h.2 (j - r) (by omega)
      rw [show j - r + r = j from by omega] at h2
      rw [h2, ih (j - r) (by omega) (by omega), Nat.mod_eq_sub_mod (a := j) (by omega)]
theorem pow_mod {w : List Int} {r t : Nat} (h : Per w r) (hd : w.length % r = 0) (hw : 0 < w.length) : ∀ j, j < t * w.length → (pow w t).getD j 0 = w.getD (j % r) 0 := by
  intro j hj
  rw [pow_get hw t j hj, per_mod h _ (Nat.mod_lt _ hw), Nat.mod_mod_of_dvd _ (Nat.dvd_of_mod_eq_zero hd)]
theorem per_pow {w : List Int} {r t : Nat} (h : Per w r) (hd : w.length % r = 0) (hw : 0 < w.length) : Per (pow w t) r := by
  refine ⟨h.1, fun j hj => ?_⟩
  rw [pow_len] at hj
  rw [pow_mod h hd hw _ hj, pow_mod h hd hw _ (by omega), Nat.add_mod_right]
theorem per_back {w : List Int} {r t : Nat} (ht : 0 < t) (hw : 0 < w.length) (h : Per (pow w t) r) : Per w r := by
  refine ⟨h.1, fun j hj => ?_⟩
  have hn : 1 * w.length ≤ t * w.length := Nat.mul_le_mul_right _ ht
  have h2 := h.2 j (by rw [pow_len]; omega)
  rwa [pow_get hw t _ (by omega), pow_get hw t _ (by omega), Nat.mod_eq_of_lt hj, Nat.mod_eq_of_lt (by omega)] at h2
theorem root_pow {w : List Int} {r t : Nat} (hr : IsRoot w r) (hw : 0 < w.length) (ht : 0 < t) : IsRoot (pow w t) r := by
  obtain ⟨h1, h2, h3⟩ := hr
  have hrn : r ≤ w.length := Nat.le_of_dvd hw (Nat.dvd_of_mod_eq_zero h2)
  refine ⟨per_pow h1 h2 hw, ?_, fun q hq hd => ?_⟩
  · rw [pow_len]
    exact Nat.mod_eq_zero_of_dvd (Nat.dvd_trans (Nat.dvd_of_mod_eq_zero h2) (Nat.dvd_mul_left _ _))
  · by_cases ht1 : t = 1
    · subst ht1
      rw [pow_len, Nat.one_mul] at hd
      exact h3 q (per_back ht hw hq) hd
    · by_cases hqr : r ≤ q
      · exact hqr
      · have hn : 2 * w.length ≤ t * w.length := Nat.mul_le_mul_right _ (by omega)
        have hg := Per.gcd _ _ _ (Nat.le_refl _) hq (per_pow h1 h2 hw) (by rw [pow_len]; omega)
        have h4 := h3 _ (per_back ht hw hg) (Nat.mod_eq_zero_of_dvd (Nat.dvd_trans (Nat.gcd_dvd_right q r) (Nat.dvd_of_mod_eq_zero h2)))
        exact Nat.le_trans h4 (Nat.gcd_le_left _ hq.1)
end Go.Proofs.Ytfpdnigihjmohaa
