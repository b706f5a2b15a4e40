/- The plain law of lassos: the shortest lasso of a word hangs on the word alone. No condition. -/
import Derived.Test.YtfpdnigihjmohaaWordD
namespace Go.Proofs.Ytfpdnigihjmohaa
open Go.RowKit
set_option linter.unusedSimpArgs false
set_option linter.unusedVariables false

theorem atS_lt {h l : List Int} {n : Nat} (hn : n < h.length) : atS h l n = h.getD n 0 := by unfold atS; rw [if_pos hn]
theorem atS_ge {h l : List Int} {n : Nat} (hn : h.length ≤ n) : atS h l n = l.getD ((n - h.length) % l.length) 0 := by unfold atS; rw [if_neg (by omega)]

theorem eqS_iff {a b : List Int} : eqS a b = true ↔ a = b := by unfold eqS; rw [beq_iff_eq]
theorem getD_drop (l : List Int) (n i : Nat) : (l.drop n).getD i 0 = l.getD (n + i) 0 := by simp [List.getElem?_drop]
theorem getD_take {l : List Int} {n i : Nat} (h : i < n) : (l.take n).getD i 0 = l.getD i 0 := by simp [List.getElem?_take, h]
theorem ext_getD {a b : List Int} (hl : a.length = b.length) (h : ∀ i, i < a.length → a.getD i 0 = b.getD i 0) : a = b := eqS_iff.1 (eqS_all hl h)

theorem perOk_iff {l : List Int} {n : Nat} : perOk l n = true ↔ 0 < n ∧ l.length % n = 0 ∧ ∀ i, i + n < l.length → l.getD (i + n) 0 = l.getD i 0 := by
  unfold perOk
  simp only [Bool.and_eq_true, decide_eq_true_eq, eqS_iff, and_assoc]
  constructor
  · rintro ⟨h1, h2, h3⟩
    refine ⟨h1, h2, fun i hi => ?_⟩
    have := congrArg (fun x => x.getD i 0) h3
    simp only [getD_drop] at this
    rw [getD_take (by omega)] at this
    rw [Nat.add_comm]
    exact this
  · rintro ⟨h1, h2, h3⟩
    refine ⟨h1, h2, ext_getD (by simp) fun i hi => ?_⟩
    simp at hi
    rw [getD_drop, getD_take (by omega), Nat.add_comm]
    exact h3 i (by omega)
theorem perFrom_spec (l : List Int) : ∀ f k, k + f = l.length → (perFrom l k f = l.length ∨ perOk l (perFrom l k f) = true) ∧ ∀ j, k ≤ j → j < perFrom l k f → perOk l j = false
  | 0, k, h => ⟨.inl rfl, fun j h1 h2 => by simp only [perFrom] at h2; omega⟩
  | f + 1, k, h => by
    unfold perFrom
    split
    · rename_i hp
      exact ⟨.inr hp, fun j h1 h2 => by omega⟩
    · rename_i hp
      obtain ⟨h1, h2⟩ := perFrom_spec l f (k + 1) (by omega)
      refine ⟨h1, fun j hj1 hj2 => ?_⟩
      by_cases e : j = k
      · subst e; simpa using hp
      · exact h2 j (by omega) hj2
theorem perOk_self {l : List Int} (h : 0 < l.length) : perOk l l.length = true := perOk_iff.2 ⟨h, Nat.mod_self _, fun i hi => by omega⟩
theorem per_ok {l : List Int} (h : 0 < l.length) : perOk l (per l) = true := by
  rcases (perFrom_spec l l.length 0 (by omega)).1 with e | e
  · show perOk l (perFrom l 0 l.length) = true
    rw [e]; exact perOk_self h
  · exact e
theorem per_min {l : List Int} {j : Nat} (h : j < per l) : perOk l j = false := (perFrom_spec l l.length 0 (by omega)).2 j (Nat.zero_le _) h

/-- within a list of period p -/
theorem getD_mod {l : List Int} {p : Nat} (h : perOk l p = true) : ∀ j, j < l.length → l.getD j 0 = l.getD (j % p) 0 := by
  obtain ⟨h1, h2, h3⟩ := perOk_iff.1 h
  intro j
  induction j using Nat.strongRecOn with
  | _ j ih =>
    intro hj
    by_cases hlt : j < p
    · rw [Nat.mod_eq_of_lt hlt]
    · have := h3 (j - p) (by omega)
      rw [show j - p + p = j from by omega] at this
      rw [this, ih (j - p) (by omega) (by omega), Nat.mod_eq_sub_mod (a := j) (by omega)]

/-- the word does not change when the loop is made short -/
theorem atS_per {h l : List Int} (hl : 0 < l.length) (n : Nat) : atS h (l.take (per l)) n = atS h l n := by
  have ho := per_ok hl
  have hp := per_pos l hl
  have hle := per_le l
  obtain ⟨_, h2, _⟩ := perOk_iff.1 ho
  by_cases hn : n < h.length
  · rw [atS_lt hn, atS_lt hn]
  · rw [atS_ge (by omega), atS_ge (by omega)]
    have hlen : (l.take (per l)).length = per l := by simp; omega
    have hm : (n - h.length) % l.length < l.length := Nat.mod_lt _ hl
    rw [hlen, getD_take (Nat.mod_lt _ hp), getD_mod ho _ hm]
    congr 1
    exact (Nat.mod_mod_of_dvd _ (Nat.dvd_of_mod_eq_zero h2)).symm

/-- from somewhere on w goes on by p -/
def Ev (w : Nat → Int) (p : Nat) : Prop := ∃ K, ∀ i, K ≤ i → w (i + p) = w i
def Prim (w : Nat → Int) (p : Nat) : Prop := ∀ g, 0 < g → p % g = 0 → Ev w g → g = p
theorem Ev.sub {w : Nat → Int} {p q : Nat} (hp : Ev w p) (hq : Ev w q) (h : q ≤ p) : Ev w (p - q) := by
  obtain ⟨A, hA⟩ := hp
  obtain ⟨B, hB⟩ := hq
  refine ⟨max A B, fun i hi => ?_⟩
  have h1 := hA i (by omega)
  have h2 := hB (i + (p - q)) (by omega)
  rw [show i + (p - q) + q = i + p from by omega] at h2
  rw [← h2, h1]
theorem Ev.mod {w : Nat → Int} {q : Nat} (hq : Ev w q) : ∀ p, Ev w p → Ev w (p % q) := by
  intro p
  induction p using Nat.strongRecOn with
  | _ p ih =>
    intro hp
    by_cases h0 : q = 0
    · rw [h0, Nat.mod_zero]; exact hp
    · by_cases hlt : p < q
      · rw [Nat.mod_eq_of_lt hlt]; exact hp
      · rw [Nat.mod_eq_sub_mod (by omega)]
        exact ih (p - q) (by omega) (hp.sub hq (by omega))
theorem Ev.gcd {w : Nat → Int} : ∀ p q, Ev w p → Ev w q → Ev w (Nat.gcd p q) := by
  intro p q
  induction p, q using Nat.gcd.induction with
  | H0 n => intro _ h; rw [Nat.gcd_zero_left]; exact h
  | H1 m n hm ih => intro h1 h2; rw [Nat.gcd_rec]; exact ih (h1.mod n h2) h1
theorem Prim.same {w : Nat → Int} {p q : Nat} (hp0 : 0 < p) (hp : Prim w p) (hq : Prim w q) (ep : Ev w p) (eq : Ev w q) : p = q := by
  have hg : 0 < Nat.gcd p q := Nat.gcd_pos_of_pos_left _ hp0
  have h1 := hp _ hg (Nat.mod_eq_zero_of_dvd (Nat.gcd_dvd_left p q)) (Ev.gcd p q ep eq)
  have h2 := hq _ hg (Nat.mod_eq_zero_of_dvd (Nat.gcd_dvd_right p q)) (Ev.gcd p q ep eq)
  omega
theorem atS_loop {h l : List Int} {i : Nat} (hi : h.length ≤ i) : atS h l (i + l.length) = atS h l i := by
  rw [atS_ge (by omega), atS_ge hi, show i + l.length - h.length = (i - h.length) + l.length from by omega, Nat.add_mod_right]
theorem Ev.loop (h l : List Int) : Ev (atS h l) l.length := ⟨h.length, fun _ hi => atS_loop hi⟩

theorem prim_per {h l : List Int} (hl : 0 < l.length) : Prim (atS h l) (per l) := by
  intro g hg hd ⟨K, hK⟩
  have hp := per_pos l hl
  have ho := per_ok hl
  obtain ⟨_, h2, _⟩ := perOk_iff.1 ho
  have hdv : g ∣ l.length := Nat.dvd_trans (Nat.dvd_of_mod_eq_zero hd) (Nat.dvd_of_mod_eq_zero h2)
  have hok : perOk l g = true := perOk_iff.2 ⟨hg, Nat.mod_eq_zero_of_dvd hdv, fun i hi => by
    have := hK (h.length + i + K * l.length) (by
      have : K * 1 ≤ K * l.length := Nat.mul_le_mul_left _ hl
      omega)
    rw [atS_ge (by omega), atS_ge (by omega)] at this
    rw [show h.length + i + K * l.length + g - h.length = (i + g) + l.length * K from by rw [Nat.mul_comm]; omega, show h.length + i + K * l.length - h.length = i + l.length * K from by rw [Nat.mul_comm]; omega] at this
    rw [Nat.add_mul_mod_self_left, Nat.add_mul_mod_self_left, Nat.mod_eq_of_lt hi, Nat.mod_eq_of_lt (by omega)] at this
    exact this⟩
  have hle : g ≤ per l := Nat.le_of_dvd hp (Nat.dvd_of_mod_eq_zero hd)
  by_cases hlt : g < per l
  · rw [per_min hlt] at hok; cases hok
  · omega

/-- the same word, both shortest: the same lasso -/
theorem lasso_uniq {H L H' L' : List Int} (hL : 0 < L.length) (hL' : 0 < L'.length) (hw : ∀ i, atS H L i = atS H' L' i) (hp : Prim (atS H L) L.length) (hp' : Prim (atS H L) L'.length)
    (hc : 0 < H.length → H.getD (H.length - 1) 0 ≠ L.getD (L.length - 1) 0) (hc' : 0 < H'.length → H'.getD (H'.length - 1) 0 ≠ L'.getD (L'.length - 1) 0) : H = H' ∧ L = L' := by
  have hwf : atS H L = atS H' L' := funext hw
  have hpq : L.length = L'.length := Prim.same hL hp hp' (Ev.loop H L) (hwf ▸ Ev.loop H' L')
  have no : ∀ {A B A' B' : List Int}, 0 < B'.length → (∀ i, atS A B i = atS A' B' i) → B.length = B'.length → (0 < A'.length → A'.getD (A'.length - 1) 0 ≠ B'.getD (B'.length - 1) 0) → ¬ A.length < A'.length := by
    intro A B A' B' hB hw hlen hc hlt
    have h1 := hw (A'.length - 1)
    have h2 := hw (A'.length - 1 + B.length)
    rw [atS_loop (by omega), h1, atS_lt (by omega), atS_ge (by omega), show A'.length - 1 + B.length - A'.length = B.length - 1 from by omega, hlen, Nat.mod_eq_of_lt (by omega)] at h2
    exact hc (by omega) h2
  have hk : H.length = H'.length := by
    have a := no hL' hw hpq hc'
    have b := no hL (fun i => (hw i).symm) hpq.symm hc
    omega
  refine ⟨ext_getD hk fun i hi => ?_, ext_getD hpq fun i hi => ?_⟩
  · have := hw i
    rwa [atS_lt hi, atS_lt (by omega)] at this
  · have := hw (H.length + i)
    rw [atS_ge (by omega), atS_ge (by omega)] at this
    rwa [show H.length + i - H.length = i from by omega, show H.length + i - H'.length = i from by omega, Nat.mod_eq_of_lt hi, Nat.mod_eq_of_lt (by omega)] at this

/-- what the loop of normal leaves -/
theorem normFrom_spec (h : List Int) (p : Nat) (hp : 0 < p) : ∀ k L, L.length = p → k ≤ h.length →
    (normFrom h k L).2.length = p ∧ (∀ i, atS (normFrom h k L).1 (normFrom h k L).2 i = atS (h.take k) L i) ∧
    (0 < (normFrom h k L).1.length → (normFrom h k L).1.getD ((normFrom h k L).1.length - 1) 0 ≠ (normFrom h k L).2.getD (p - 1) 0) ∧
    (normFrom h k L).1.length ≤ k ∧ (∀ a ∈ (normFrom h k L).1, a ∈ h) ∧ ∀ a ∈ (normFrom h k L).2, a ∈ h ∨ a ∈ L := by
  intro k
  induction k with
  | zero => intro L hL _; exact ⟨hL, fun i => by simp [normFrom], fun h => by simp [normFrom] at h, by simp [normFrom], fun a ha => by simp [normFrom] at ha, fun a ha => .inr ha⟩
  | succ k ih =>
    intro L hL hk
    have hin : h.getD k 0 ∈ h := by simp [show k < h.length by omega]
    unfold normFrom
    split
    · rename_i he
      have hL' : (h.getD k 0 :: L.take (L.length - 1)).length = p := by simp; omega
      obtain ⟨a1, a2, a3, a4, a5, a6⟩ := ih (h.getD k 0 :: L.take (L.length - 1)) hL' (by omega)
      refine ⟨a1, fun i => (a2 i).trans ?_, a3, by omega, a5, fun a ha => ?_⟩
      · have t1 : (h.take k).length = k := by simp; omega
        have t2 : (h.take (k + 1)).length = k + 1 := by simp; omega
        rcases Nat.lt_trichotomy i k with hi | hi | hi
        · rw [atS_lt (by omega), atS_lt (by omega), getD_take hi, getD_take (by omega)]
        · subst hi
          rw [atS_ge (by omega), atS_lt (by omega), getD_take (by omega), t1, Nat.sub_self, Nat.zero_mod]
          rfl
        · rw [atS_ge (by omega), atS_ge (by omega), t1, t2, hL', hL]
          have hm : (i - k) % p < p := Nat.mod_lt _ hp
          have hd := Nat.div_add_mod (i - k) p
          by_cases h0 : (i - k) % p = 0
          · have : (i - (k + 1)) % p = p - 1 := by
              have hq : 0 < (i - k) / p := by
                rcases Nat.eq_zero_or_pos ((i - k) / p) with e | e
                · rw [e, h0] at hd; omega
                · exact e
              obtain ⟨q, hq⟩ : ∃ q, (i - k) / p = q + 1 := ⟨(i - k) / p - 1, by omega⟩
              rw [hq, h0, Nat.mul_add] at hd
              rw [show i - (k + 1) = p - 1 + p * q from by omega, Nat.add_mul_mod_self_left, Nat.mod_eq_of_lt (by omega)]
            rw [h0, this]
            show h.getD k 0 = _
            rw [he, hL]
          · have : (i - (k + 1)) % p = (i - k) % p - 1 := by
              rw [show i - (k + 1) = ((i - k) % p - 1) + p * ((i - k) / p) from by omega, Nat.add_mul_mod_self_left, Nat.mod_eq_of_lt (by omega)]
            obtain ⟨j, hj⟩ : ∃ j, (i - k) % p = j + 1 := ⟨(i - k) % p - 1, by omega⟩
            rw [this, hj]
            have hgo : (L.take (L.length - 1)).getD j 0 = L.getD (j + 1 - 1) 0 := by rw [getD_take (by omega)]; rfl
            rw [hL] at hgo
            exact hgo
      · rcases a6 a ha with x | x
        · exact .inl x
        · rcases List.mem_cons.1 x with rfl | x
          · exact .inl hin
          · exact .inr (List.mem_of_mem_take x)
    · rename_i he
      refine ⟨hL, fun i => rfl, fun _ => ?_, by simp; omega, fun a ha => List.mem_of_mem_take ha, fun a ha => .inr ha⟩
      have t2 : (h.take (k + 1)).length = k + 1 := by simp; omega
      show (h.take (k + 1)).getD ((h.take (k + 1)).length - 1) 0 ≠ L.getD (p - 1) 0
      rw [t2, Nat.add_sub_cancel, getD_take (by omega), ← hL]
      exact he

theorem normS_spec (h l : List Int) (hl : 0 < l.length) : (normS h l).2.length = per l ∧ (∀ i, atS (normS h l).1 (normS h l).2 i = atS h l i) ∧
    (0 < (normS h l).1.length → (normS h l).1.getD ((normS h l).1.length - 1) 0 ≠ (normS h l).2.getD (per l - 1) 0) ∧ (normS h l).1.length ≤ h.length ∧ (∀ a ∈ (normS h l).1, a ∈ h) ∧ ∀ a ∈ (normS h l).2, a ∈ h ∨ a ∈ l := by
  have hp := per_pos l hl
  obtain ⟨a1, a2, a3, a4, a5, a6⟩ := normFrom_spec h (per l) hp h.length (l.take (per l)) (by have := per_le l; simp; omega) (Nat.le_refl _)
  refine ⟨a1, fun i => ?_, a3, a4, a5, fun a ha => ?_⟩
  · rw [show normS h l = normFrom h h.length (l.take (per l)) from rfl, a2 i, List.take_length, atS_per hl]
  · rcases a6 a ha with x | x
    · exact .inl x
    · exact .inr (List.mem_of_mem_take x)
/-- **the shortest lasso hangs on the word alone** -/
theorem normS_word {h l h' l' : List Int} (hl : 0 < l.length) (hl' : 0 < l'.length) (hw : ∀ i, atS h l i = atS h' l' i) : normS h l = normS h' l' := by
  obtain ⟨a1, a2, a3, _⟩ := normS_spec h l hl
  obtain ⟨b1, b2, b3, _⟩ := normS_spec h' l' hl'
  have hwf : atS h l = atS h' l' := funext hw
  have e1 : atS (normS h l).1 (normS h l).2 = atS h l := funext a2
  have := lasso_uniq (H := (normS h l).1) (L := (normS h l).2) (H' := (normS h' l').1) (L' := (normS h' l').2) (by rw [a1]; exact per_pos l hl) (by rw [b1]; exact per_pos l' hl') (fun i => by rw [a2, b2, hw])
    (by rw [a1, e1]; exact prim_per hl) (by rw [b1, e1, hwf]; exact prim_per hl') (by rw [a1]; exact a3) (by rw [b1]; exact b3)
  exact Prod.ext this.1 this.2

/-- what is left behind n letters -/
def restS (h l : List Int) (n : Nat) : List Int × List Int :=
  if n < h.length then normS (h.drop n) l else normS [] (l.drop ((n - h.length) % l.length) ++ l.take ((n - h.length) % l.length))
theorem getD_app (a b : List Int) (i : Nat) : (a ++ b).getD i 0 = if i < a.length then a.getD i 0 else b.getD (i - a.length) 0 := by
  simp only [List.getD_eq_getElem?_getD, List.getElem?_append]
  split <;> rfl
theorem rest_is (h l : List Int) (n : Nat) (hl : 0 < l.length) : ∃ h' l', restS h l n = normS h' l' ∧ 0 < l'.length ∧ l'.length = l.length ∧ h'.length ≤ h.length ∧ (∀ a ∈ h', a ∈ h) ∧ (∀ a ∈ l', a ∈ l) ∧ ∀ i, atS h' l' i = atS h l (n + i) := by
  unfold restS
  by_cases hn : n < h.length
  · rw [if_pos hn]
    refine ⟨_, _, rfl, hl, rfl, by simp, fun a ha => List.mem_of_mem_drop ha, fun a ha => ha, fun i => ?_⟩
    by_cases hi : n + i < h.length
    · rw [atS_lt (by simp; omega), atS_lt hi, getD_drop]
    · rw [atS_ge (by simp; omega), atS_ge (by omega)]
      congr 2
      simp
      omega
  · rw [if_neg hn]
    have ht : (n - h.length) % l.length < l.length := Nat.mod_lt _ hl
    have hlen : (l.drop ((n - h.length) % l.length) ++ l.take ((n - h.length) % l.length)).length = l.length := by simp; omega
    refine ⟨_, _, rfl, by rw [hlen]; exact hl, hlen, by simp, fun a ha => by simp at ha, fun a ha => ?_, fun i => ?_⟩
    · rcases List.mem_append.1 ha with x | x
      · exact List.mem_of_mem_drop x
      · exact List.mem_of_mem_take x
    · rw [atS_ge (Nat.zero_le _), atS_ge (by omega), hlen]
      rw [show i - ([] : List Int).length = i from rfl, getD_app]
      generalize hm : (n - h.length) % l.length = t at *
      have hi : i % l.length < l.length := Nat.mod_lt _ hl
      have hsum : (n + i - h.length) % l.length = (t + i % l.length) % l.length := by
        rw [show n + i - h.length = (n - h.length) + i from by omega, Nat.add_mod, hm]
      rw [hsum, List.length_drop]
      clear hsum
      generalize i % l.length = r at *
      split
      · rw [getD_drop, Nat.mod_eq_of_lt (by omega)]
      · rw [getD_take (by omega), Nat.mod_eq_sub_mod (by omega), Nat.mod_eq_of_lt (by omega)]
        congr 1
        omega
theorem rest_pos (h l : List Int) (n : Nat) (hl : 0 < l.length) : 0 < (restS h l n).2.length := by
  obtain ⟨h', l', e, hp, _⟩ := rest_is h l n hl
  rw [e, (normS_spec h' l' hp).1]
  exact per_pos _ hp
theorem rest_word (h l : List Int) (n : Nat) (hl : 0 < l.length) (i : Nat) : atS (restS h l n).1 (restS h l n).2 i = atS h l (n + i) := by
  obtain ⟨h', l', e, hp, _, _, _, _, hw⟩ := rest_is h l n hl
  rw [e, (normS_spec h' l' hp).2.1, hw]
theorem normS_of_rest (h l : List Int) (n : Nat) (hl : 0 < l.length) : normS (restS h l n).1 (restS h l n).2 = restS h l n := by
  obtain ⟨h', l', e, hp, _⟩ := rest_is h l n hl
  rw [e]
  exact normS_word (by rw [(normS_spec h' l' hp).1]; exact per_pos _ hp) hp (normS_spec h' l' hp).2.1
/-- **what is left of what is left** -/
theorem rest_rest (h l : List Int) (n m : Nat) (hl : 0 < l.length) : restS (restS h l n).1 (restS h l n).2 m = restS h l (n + m) := by
  have hp := rest_pos h l n hl
  obtain ⟨h1, l1, e1, p1, _, _, _, _, w1⟩ := rest_is (restS h l n).1 (restS h l n).2 m hp
  obtain ⟨h2, l2, e2, p2, _, _, _, _, w2⟩ := rest_is h l (n + m) hl
  rw [e1, e2]
  refine normS_word p1 p2 fun i => ?_
  rw [w1, w2, rest_word h l n hl, Nat.add_assoc]
theorem rest_letters (h l : List Int) (n : Nat) (hl : 0 < l.length) : (restS h l n).1.length ≤ h.length ∧ (restS h l n).2.length ≤ l.length ∧ (∀ a ∈ (restS h l n).1, a ∈ h ∨ a ∈ l) ∧ ∀ a ∈ (restS h l n).2, a ∈ h ∨ a ∈ l := by
  obtain ⟨h', l', e, hp, e1, e2, m1, m2, _⟩ := rest_is h l n hl
  obtain ⟨a1, _, _, a4, a5, a6⟩ := normS_spec h' l' hp
  rw [e]
  refine ⟨by omega, by rw [a1]; have := per_le l'; omega, fun a ha => .inl (m1 a (a5 a ha)), fun a ha => ?_⟩
  rcases a6 a ha with x | x
  · exact .inl (m1 a x)
  · exact .inr (m2 a x)
end Go.Proofs.Ytfpdnigihjmohaa
