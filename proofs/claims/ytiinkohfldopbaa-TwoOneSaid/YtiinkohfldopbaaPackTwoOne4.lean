/- Lemmas towards the statement: mirrors of functions, and plain laws. No condition. -/
import Derived.Laws.BitsLemmas
import Derived.Test.YtiinkohfldopbaaPackTwoOne3

/- The plain law of exploring: automata of keys, numbered as they are found; the one automaton of a language. No condition. -/
namespace Go.Proofs.Ytiinkohfldopbaa
open Go.RowKit Go.MapKept
set_option linter.unusedSimpArgs false
set_option linter.unusedVariables false
set_option maxRecDepth 100000
set_option linter.unusedSectionVars false

theorem nodup_le {α : Type} : ∀ {l m : List α}, l.Nodup → (∀ x ∈ l, x ∈ m) → l.length ≤ m.length
  | [], _, _, _ => Nat.zero_le _
  | x :: l, m, hn, h => by
    rw [List.nodup_cons] at hn
    obtain ⟨s, t, rfl⟩ := List.append_of_mem (h x List.mem_cons_self)
    have := nodup_le (l := l) (m := s ++ t) hn.2 fun y hy => by
      have h1 := h y (List.mem_cons_of_mem _ hy)
      rw [List.mem_append, List.mem_cons] at h1
      rw [List.mem_append]
      rcases h1 with h1 | rfl | h1
      · exact .inl h1
      · exact absurd hy hn.1
      · exact .inr h1
    simp only [List.length_append, List.length_cons] at this ⊢
    omega
theorem idxOf_left {α : Type} [DecidableEq α] {x : α} : ∀ {l r : List α}, x ∈ l → (l ++ r).idxOf x = l.idxOf x
  | [], _, h => by simp at h
  | y :: l, r, h => by
    rw [List.cons_append, List.idxOf_cons, List.idxOf_cons]
    by_cases e : y = x
    · simp [e]
    · have hm : x ∈ l := by
        rcases List.mem_cons.1 h with h | h
        · exact absurd h.symm e
        · exact h
      simp [e, idxOf_left (r := r) hm]
theorem idxOf_map {α β : Type} [DecidableEq α] [DecidableEq β] {φ : α → β} {x : α} : ∀ {l : List α}, (∀ y ∈ l, φ y = φ x → y = x) → (l.map φ).idxOf (φ x) = l.idxOf x
  | [], _ => rfl
  | y :: l, h => by
    rw [List.map_cons, List.idxOf_cons, List.idxOf_cons]
    have ih := idxOf_map (l := l) fun z hz => h z (List.mem_cons_of_mem _ hz)
    by_cases e : y = x
    · simp [e]
    · have : φ y ≠ φ x := fun e2 => e (h y List.mem_cons_self e2)
      rw [show (φ y == φ x) = false by simpa using this, show (y == x) = false by simpa using e]
      simp [ih]
section
variable {K : Type} [DecidableEq K]
/-- keys that are known, and those behind key k by the letters below n -/
def growTo (go : K → Nat → K) (k : K) : Nat → List K → List K
  | 0, l => l
  | n + 1, l => if go k n ∈ growTo go k n l then growTo go k n l else growTo go k n l ++ [go k n]
/-- keys that are known when the first i were gone through -/
def expl (go : K → Nat → K) (L : Nat) (k0 : K) : Nat → List K
  | 0 => [k0]
  | i + 1 => match (expl go L k0 i)[i]? with
    | some k => growTo go k L (expl go L k0 i)
    | none => expl go L k0 i
variable {go : K → Nat → K} {mark : K → Int} {L : Nat} {k0 : K} {P : K → Prop}
theorem growTo_app (k : K) : ∀ (n : Nat) (l : List K), ∃ r, growTo go k n l = l ++ r
  | 0, l => ⟨[], by simp [growTo]⟩
  | n + 1, l => by
    obtain ⟨r, hr⟩ := growTo_app k n l
    rw [growTo]
    split
    · exact ⟨r, hr⟩
    · exact ⟨r ++ [go k n], by rw [hr, List.append_assoc]⟩
theorem growTo_nodup {k : K} : ∀ {n : Nat} {l : List K}, l.Nodup → (growTo go k n l).Nodup
  | 0, _, h => h
  | n + 1, l, h => by
    have ih := growTo_nodup (k := k) (n := n) h
    rw [growTo]
    split
    · exact ih
    · rename_i hm
      rw [List.nodup_append]
      exact ⟨ih, by simp, fun x hx y hy => by simp at hy; subst hy; exact fun e => hm (e ▸ hx)⟩
theorem growTo_mem {k x : K} : ∀ {n : Nat} {l : List K}, x ∈ growTo go k n l ↔ x ∈ l ∨ ∃ a, a < n ∧ go k a = x
  | 0, l => by simp [growTo]
  | n + 1, l => by
    have ih := growTo_mem (k := k) (x := x) (n := n) (l := l)
    have key : x ∈ growTo go k (n + 1) l ↔ x ∈ growTo go k n l ∨ go k n = x := by
      rw [growTo]
      split
      · rename_i hm
        constructor
        · exact .inl
        · rintro (h | rfl)
          · exact h
          · exact hm
      · rw [List.mem_append, List.mem_singleton]
        constructor
        · rintro (h | rfl)
          · exact .inl h
          · exact .inr rfl
        · rintro (h | rfl)
          · exact .inl h
          · exact .inr rfl
    rw [key, ih]
    constructor
    · rintro ((h | ⟨a, h1, h2⟩) | h)
      · exact .inl h
      · exact .inr ⟨a, by omega, h2⟩
      · exact .inr ⟨n, by omega, h⟩
    · rintro (h | ⟨a, h1, h2⟩)
      · exact .inl (.inl h)
      · by_cases e : a = n
        · subst e; exact .inr h2
        · exact .inl (.inr ⟨a, by omega, h2⟩)
theorem expl_step (i : Nat) : ∃ r, expl go L k0 (i + 1) = expl go L k0 i ++ r := by
  rw [expl]
  split
  · exact growTo_app _ _ _
  · exact ⟨[], by simp⟩
theorem expl_app {i : Nat} : ∀ {j : Nat}, i ≤ j → ∃ r, expl go L k0 j = expl go L k0 i ++ r
  | 0, h => by
    obtain rfl : i = 0 := by omega
    exact ⟨[], by simp⟩
  | j + 1, h => by
    by_cases e : i = j + 1
    · subst e; exact ⟨[], by simp⟩
    · obtain ⟨r, hr⟩ := expl_app (i := i) (j := j) (by omega)
      obtain ⟨r2, hr2⟩ := expl_step (go := go) (L := L) (k0 := k0) j
      exact ⟨r ++ r2, by rw [hr2, hr, List.append_assoc]⟩
theorem expl_nodup : ∀ {i : Nat}, (expl go L k0 i).Nodup
  | 0 => by simp [expl]
  | i + 1 => by
    rw [expl]
    split
    · exact growTo_nodup expl_nodup
    · exact expl_nodup
theorem expl_stop {i : Nat} (h : (expl go L k0 i).length ≤ i) : ∀ {j : Nat}, i ≤ j → expl go L k0 j = expl go L k0 i
  | 0, hj => by
    obtain rfl : i = 0 := by omega
    rfl
  | j + 1, hj => by
    by_cases e : i = j + 1
    · subst e; rfl
    · have ih := expl_stop h (j := j) (by omega)
      rw [expl, ih, List.getElem?_eq_none (by omega)]
theorem expl_one {n m : Nat} (hn : (expl go L k0 n).length = n) (hm : (expl go L k0 m).length = m) : expl go L k0 n = expl go L k0 m := by
  rcases Nat.le_total n m with h | h
  · exact (expl_stop (by omega) h).symm
  · exact expl_stop (by omega) h
theorem expl_mono {i j : Nat} (h : i ≤ j) : (expl go L k0 i).length ≤ (expl go L k0 j).length := by
  obtain ⟨r, hr⟩ := expl_app (go := go) (L := L) (k0 := k0) h
  rw [hr, List.length_append]
  omega
theorem expl_in (h0 : P k0) (hP : ∀ k a, P k → a < L → P (go k a)) : ∀ {i : Nat} {k : K}, k ∈ expl go L k0 i → P k
  | 0, k, h => by
    simp [expl] at h
    exact h ▸ h0
  | i + 1, k, h => by
    rw [expl] at h
    split at h
    · rename_i q hq
      rcases growTo_mem.1 h with h | ⟨a, ha, rfl⟩
      · exact expl_in h0 hP h
      · exact hP _ _ (expl_in h0 hP (List.mem_of_getElem? hq)) ha
    · exact expl_in h0 hP h
theorem expl_first (i : Nat) : (expl go L k0 i)[0]? = some k0 := by
  obtain ⟨r, hr⟩ := expl_app (go := go) (L := L) (k0 := k0) (Nat.zero_le i)
  rw [hr]
  simp [expl]
/-- the key number j is known when the first j were gone through -/
theorem expl_get {n j : Nat} {k : K} (hj : j < n) (hk : (expl go L k0 n)[j]? = some k) : (expl go L k0 j)[j]? = some k := by
  obtain ⟨r, hr⟩ := expl_app (go := go) (L := L) (k0 := k0) (Nat.le_of_lt hj)
  by_cases h : j < (expl go L k0 j).length
  · rw [hr, List.getElem?_append_left h] at hk
    exact hk
  · have e := expl_stop (go := go) (L := L) (k0 := k0) (i := j) (by omega) (j := n) (by omega)
    rw [e, List.getElem?_eq_none (by omega)] at hk
    cases hk
theorem expl_closed {n : Nat} (hn : (expl go L k0 n).length = n) {k : K} (hk : k ∈ expl go L k0 n) {a : Nat} (ha : a < L) : go k a ∈ expl go L k0 n := by
  obtain ⟨j, hj⟩ := List.getElem?_of_mem hk
  have hlt : j < n := by
    have := (List.getElem?_eq_some_iff.1 hj).1
    omega
  have h1 := expl_get hlt hj
  obtain ⟨r, hr⟩ := expl_app (go := go) (L := L) (k0 := k0) (show j + 1 ≤ n from hlt)
  rw [hr]
  refine List.mem_append_left _ ?_
  rw [expl, h1]
  exact growTo_mem.2 (.inr ⟨a, ha, rfl⟩)
/-- where all keys lie in a list, they are found -/
theorem expl_ends {m : List K} (h0 : k0 ∈ m) (hP : ∀ k a, k ∈ m → a < L → go k a ∈ m) : ∃ n, (expl go L k0 n).length = n ∧ n ≤ m.length := by
  have hall : ∀ i, (expl go L k0 i).length ≤ m.length := fun i => nodup_le expl_nodup fun x hx => expl_in (P := fun k => k ∈ m) h0 hP hx
  by_cases h : ∃ n, n ≤ m.length ∧ (expl go L k0 n).length ≤ n
  · obtain ⟨n, h1, h2⟩ := h
    have h3 : (expl go L k0 (expl go L k0 n).length).length ≤ (expl go L k0 n).length := expl_mono h2
    have h4 := expl_stop h3 h2
    exact ⟨(expl go L k0 n).length, by rw [← h4], hall n⟩
  · exfalso
    have := hall m.length
    exact h ⟨m.length, Nat.le_refl _, this⟩
def rowOf (go : K → Nat → K) (L : Nat) (l : List K) (k : K) : List Int := (List.range L).map fun a => (l.idxOf (go k a) : Int)
/-- the automaton of keys -/
def detOf (go : K → Nat → K) (mark : K → Int) (L : Nat) (l : List K) : ApiDet := ⟨L, 0, l.map (rowOf go L l), l.map mark⟩
open Classical in
noncomputable def explL (go : K → Nat → K) (L : Nat) (k0 : K) : List K := if h : ∃ n, (expl go L k0 n).length = n then expl go L k0 h.choose else [k0]
theorem explL_eq {n : Nat} (h : (expl go L k0 n).length = n) : explL go L k0 = expl go L k0 n := by
  unfold explL
  have hx : ∃ n, (expl go L k0 n).length = n := ⟨n, h⟩
  rw [dif_pos hx]
  exact expl_one hx.choose_spec h
noncomputable def explD (go : K → Nat → K) (mark : K → Int) (L : Nat) (k0 : K) : ApiDet := detOf go mark L (explL go L k0)
open Classical in
/-- what exploring hands back -/
noncomputable def explR (go : K → Nat → K) (mark : K → Int) (L : Nat) (k0 : K) (limit : Int) : ApiDet × Bool :=
  if ∃ n : Nat, (expl go L k0 n).length = n ∧ (n : Int) ≤ limit then (explD go mark L k0, true) else (⟨0, 0, [], []⟩, false)
theorem explR_ends {limit : Int} {m : List K} (h0 : k0 ∈ m) (hP : ∀ k a, k ∈ m → a < L → go k a ∈ m) (hl : (m.length : Int) ≤ limit) : explR go mark L k0 limit = (explD go mark L k0, true) := by
  obtain ⟨n, h1, h2⟩ := expl_ends (L := L) h0 hP
  unfold explR
  rw [if_pos ⟨n, h1, by omega⟩]
section
variable {K' : Type} [DecidableEq K'] {go' : K' → Nat → K'} {mark' : K' → Int} {φ : K → K'}
theorem growTo_map (inj : ∀ x y, P x → P y → φ x = φ y → x = y) (hg : ∀ k a, P k → a < L → φ (go k a) = go' (φ k) a) (hP : ∀ k a, P k → a < L → P (go k a)) {k : K} (hk : P k) : ∀ {n : Nat} {l : List K}, n ≤ L → (∀ x ∈ l, P x) → growTo go' (φ k) n (l.map φ) = (growTo go k n l).map φ
  | 0, l, _, _ => rfl
  | n + 1, l, hn, hl => by
    have ih := growTo_map inj hg hP hk (n := n) (l := l) (by omega) hl
    have hin : ∀ x ∈ growTo go k n l, P x := fun x hx => by
      rcases growTo_mem.1 hx with h | ⟨a, ha, rfl⟩
      · exact hl x h
      · exact hP k a hk (by omega)
    have hmem : go' (φ k) n ∈ (growTo go k n l).map φ ↔ go k n ∈ growTo go k n l := by
      rw [← hg k n hk (by omega), List.mem_map]
      constructor
      · rintro ⟨x, hx, e⟩
        exact inj _ _ (hin x hx) (hP k n hk (by omega)) e ▸ hx
      · exact fun h => ⟨_, h, rfl⟩
    rw [growTo, growTo, ih]
    by_cases h : go k n ∈ growTo go k n l
    · rw [if_pos h, if_pos (hmem.2 h)]
    · rw [if_neg h, if_neg (fun e => h (hmem.1 e)), List.map_append, List.map_cons, List.map_nil, hg k n hk (by omega)]
theorem expl_map (h0 : P k0) (inj : ∀ x y, P x → P y → φ x = φ y → x = y) (hg : ∀ k a, P k → a < L → φ (go k a) = go' (φ k) a) (hP : ∀ k a, P k → a < L → P (go k a)) : ∀ {i : Nat}, expl go' L (φ k0) i = (expl go L k0 i).map φ
  | 0 => rfl
  | i + 1 => by
    rw [expl, expl, expl_map h0 inj hg hP, List.getElem?_map]
    cases hk : (expl go L k0 i)[i]? with
    | none => rfl
    | some k =>
      show growTo go' (φ k) L _ = _
      exact growTo_map inj hg hP (expl_in h0 hP (List.mem_of_getElem? hk)) (Nat.le_refl _) fun x hx => expl_in h0 hP hx
theorem explL_map (h0 : P k0) (inj : ∀ x y, P x → P y → φ x = φ y → x = y) (hg : ∀ k a, P k → a < L → φ (go k a) = go' (φ k) a) (hP : ∀ k a, P k → a < L → P (go k a)) : explL go' L (φ k0) = (explL go L k0).map φ := by
  by_cases h : ∃ n, (expl go L k0 n).length = n
  · obtain ⟨n, hn⟩ := h
    rw [explL_eq hn, explL_eq (n := n) (by rw [expl_map h0 inj hg hP, List.length_map]; exact hn), expl_map h0 inj hg hP]
  · have h' : ¬ ∃ n, (expl go' L (φ k0) n).length = n := fun ⟨n, hn⟩ => h ⟨n, by rw [expl_map h0 inj hg hP, List.length_map] at hn; exact hn⟩
    unfold explL
    rw [dif_neg h, dif_neg h']
    rfl
theorem explL_in (h0 : P k0) (hP : ∀ k a, P k → a < L → P (go k a)) {k : K} (hk : k ∈ explL go L k0) : P k := by
  unfold explL at hk
  split at hk
  · exact expl_in h0 hP hk
  · simp at hk
    exact hk ▸ h0
/-- automata of keys that go alike are alike -/
theorem explD_map (h0 : P k0) (inj : ∀ x y, P x → P y → φ x = φ y → x = y) (hg : ∀ k a, P k → a < L → φ (go k a) = go' (φ k) a) (hP : ∀ k a, P k → a < L → P (go k a)) (hm : ∀ k, P k → mark' (φ k) = mark k) : explD go' mark' L (φ k0) = explD go mark L k0 := by
  unfold explD detOf
  rw [explL_map h0 inj hg hP, List.map_map, List.map_map]
  have hin : ∀ k ∈ explL go L k0, P k := fun k hk => explL_in h0 hP hk
  refine congr (congrArg _ (List.map_congr_left fun k hk => ?_)) (List.map_congr_left fun k hk => hm k (hin k hk))
  show rowOf go' L _ (φ k) = rowOf go L _ k
  unfold rowOf
  refine List.map_congr_left fun a ha => ?_
  have ha : a < L := List.mem_range.1 ha
  have hk := hin k hk
  rw [← hg k a hk ha, idxOf_map fun y hy e => inj _ _ (hin y hy) (hP k a hk ha) e]
end
end
/-- what is said of words -/
abbrev Lang := List Nat → Int
noncomputable instance langDec : DecidableEq Lang := fun _ _ => Classical.propDecidable _
/-- of words of L letters alone -/
def rs (L : Nat) (r : Lang) : Lang := fun w => if ∀ a ∈ w, a < L then r w else 0
theorem rs_congr {L : Nat} {r s : Lang} (h : ∀ w, (∀ a ∈ w, a < L) → r w = s w) : rs L r = rs L s := by
  funext w
  unfold rs
  split
  · rename_i hw
    exact h w hw
  · rfl
def der (r : Lang) (a : Nat) : Lang := fun w => r (a :: w)
theorem rs_cons {L : Nat} {r : Lang} {a : Nat} (ha : a < L) {w : List Nat} : rs L r (a :: w) = rs L (der r a) w := by
  unfold rs
  by_cases h : ∀ b ∈ w, b < L
  · rw [if_pos h, if_pos (show ∀ b ∈ a :: w, b < L from fun b hb => (List.mem_cons.1 hb).elim (fun e => e ▸ ha) (h b))]
    rfl
  · rw [if_neg h, if_neg (fun e => h fun b hb => e b (List.mem_cons_of_mem _ hb))]
theorem der_rs {L : Nat} {r : Lang} {a : Nat} (ha : a < L) : der (rs L r) a = rs L (der r a) := funext fun _ => rs_cons ha
theorem rs_at {L : Nat} {r s : Lang} (h : rs L r = rs L s) {w : List Nat} (hw : ∀ a ∈ w, a < L) : r w = s w := by
  have := congrFun h w
  unfold rs at this
  rw [if_pos hw, if_pos hw] at this
  exact this
/-- the automaton of what is said of words -/
noncomputable def canon (L : Nat) (r : Lang) : ApiDet := explD der (fun r => r []) L (rs L r)
theorem canon_congr {L : Nat} {r s : Lang} (h : ∀ w, (∀ a ∈ w, a < L) → r w = s w) : canon L r = canon L s := by
  unfold canon
  rw [rs_congr h]
section
variable {K : Type} [DecidableEq K] {go : K → Nat → K} {mark : K → Int} {L : Nat} {k0 : K} {P : K → Prop}
/-- what a key says of words -/
def langK (go : K → Nat → K) (mark : K → Int) (k : K) : Lang := fun w => mark (w.foldl go k)
theorem der_lang {k : K} {a : Nat} (ha : a < L) : rs L (langK go mark (go k a)) = der (rs L (langK go mark k)) a := by
  rw [der_rs ha]
  rfl
theorem canon_of (h0 : P k0) (hP : ∀ k a, P k → a < L → P (go k a)) (inj : ∀ x y, P x → P y → rs L (langK go mark x) = rs L (langK go mark y) → x = y) : explD go mark L k0 = canon L (langK go mark k0) := by
  unfold canon
  refine (explD_map (φ := fun k => rs L (langK go mark k)) h0 inj (fun k a _ ha => der_lang ha) hP fun k _ => ?_).symm
  show rs L (langK go mark k) [] = _
  unfold rs
  rw [if_pos (fun b hb => by simp at hb)]
  rfl
end
def stepD (d : ApiDet) (q : Nat) (a : Nat) : Nat := ((d.fNext.getD q []).getD a 0).toNat
/-- what an automaton says of words, from a state on -/
def langD (d : ApiDet) (q : Nat) : Lang := fun w => d.fMark.getD (w.foldl (stepD d) q) 0
section
variable {K : Type} [DecidableEq K] {go : K → Nat → K} {mark : K → Int} {L : Nat} {k0 : K} {P : K → Prop}
theorem getD_of {α : Type} {l : List α} {i : Nat} {d x : α} (h : l[i]? = some x) : l.getD i d = x := by simp [h]
theorem idxOf_get {l : List K} {k : K} (h : k ∈ l) : l[l.idxOf k]? = some k := by
  rw [List.getElem?_eq_getElem (List.idxOf_lt_length_of_mem h)]
  simp
theorem detOf_step {l : List K} {k : K} (hk : k ∈ l) {a : Nat} (ha : a < L) : stepD (detOf go mark L l) (l.idxOf k) a = l.idxOf (go k a) := by
  unfold stepD detOf
  have h1 : (l.map (rowOf go L l)).getD (l.idxOf k) [] = rowOf go L l k := getD_of (by rw [List.getElem?_map, idxOf_get hk]; rfl)
  have h2 : (rowOf go L l k).getD a 0 = (l.idxOf (go k a) : Int) := getD_of (by unfold rowOf; rw [List.getElem?_map, List.getElem?_range ha]; rfl)
  show (((l.map (rowOf go L l)).getD (l.idxOf k) []).getD a 0).toNat = _
  rw [h1, h2]
  simp
theorem detOf_run {l : List K} (hcl : ∀ k ∈ l, ∀ a, a < L → go k a ∈ l) : ∀ {w : List Nat} {k : K}, k ∈ l → (∀ a ∈ w, a < L) → w.foldl (stepD (detOf go mark L l)) (l.idxOf k) = l.idxOf (w.foldl go k)
  | [], k, hk, _ => rfl
  | a :: w, k, hk, hw => by
    have ha := hw a List.mem_cons_self
    rw [List.foldl_cons, List.foldl_cons, detOf_step hk ha, detOf_run hcl (hcl k hk a ha) fun b hb => hw b (List.mem_cons_of_mem _ hb)]
theorem foldl_in {l : List K} (hcl : ∀ k ∈ l, ∀ a, a < L → go k a ∈ l) : ∀ {w : List Nat} {k : K}, k ∈ l → (∀ a ∈ w, a < L) → w.foldl go k ∈ l
  | [], k, hk, _ => hk
  | a :: w, k, hk, hw => foldl_in (w := w) (k := go k a) hcl (hcl k hk a (hw a List.mem_cons_self)) fun b hb => hw b (List.mem_cons_of_mem _ hb)
theorem detOf_lang {l : List K} (hcl : ∀ k ∈ l, ∀ a, a < L → go k a ∈ l) {k : K} (hk : k ∈ l) {w : List Nat} (hw : ∀ a ∈ w, a < L) : langD (detOf go mark L l) (l.idxOf k) w = langK go mark k w := by
  unfold langD langK
  rw [detOf_run hcl hk hw]
  refine getD_of ?_
  show (l.map mark)[_]? = _
  rw [List.getElem?_map, idxOf_get (foldl_in hcl hk hw)]
  rfl
/-- all that is to be known of an explored automaton -/
theorem explD_facts {m : List K} (h0 : k0 ∈ m) (hP : ∀ k a, k ∈ m → a < L → go k a ∈ m) : ∃ l : List K, explL go L k0 = l ∧ l.Nodup ∧ (∀ k ∈ l, k ∈ m) ∧ l.length ≤ m.length ∧ l[0]? = some k0 ∧ ∀ k ∈ l, ∀ a, a < L → go k a ∈ l := by
  obtain ⟨n, h1, h2⟩ := expl_ends (L := L) h0 hP
  exact ⟨_, explL_eq h1, expl_nodup, fun k hk => expl_in (P := fun k => k ∈ m) h0 hP hk, by omega, expl_first n, fun k hk a ha => expl_closed h1 hk ha⟩
theorem idxOf_first {l : List K} (h : l[0]? = some k0) : l.idxOf k0 = 0 := by
  cases l with
  | nil => simp at h
  | cons x l => simp at h; simp [h]
theorem explD_lang {m : List K} (h0 : k0 ∈ m) (hP : ∀ k a, k ∈ m → a < L → go k a ∈ m) {w : List Nat} (hw : ∀ a ∈ w, a < L) : langD (explD go mark L k0) 0 w = langK go mark k0 w := by
  obtain ⟨l, e, _, _, _, h1, h2⟩ := explD_facts (L := L) h0 hP
  unfold explD
  rw [e]
  have := detOf_lang (mark := mark) h2 (List.mem_of_getElem? h1) hw
  rw [idxOf_first h1] at this
  exact this
end
/-- an automaton that may be, but for its marks -/
structure Wf (d : ApiDet) : Prop where
  letters : 0 ≤ d.fLetters
  rows : ∀ r ∈ d.fNext, r.length = d.fLetters.toNat
  next : ∀ r ∈ d.fNext, ∀ x ∈ r, 0 ≤ x ∧ x < (d.fNext.length : Int)
  start : 0 ≤ d.fStart ∧ d.fStart < (d.fNext.length : Int)
  mark : d.fMark.length = d.fNext.length
section
variable {K : Type} [DecidableEq K] {go : K → Nat → K} {mark : K → Int} {L : Nat} {k0 : K} {P : K → Prop}
theorem explD_wf {m : List K} (h0 : k0 ∈ m) (hP : ∀ k a, k ∈ m → a < L → go k a ∈ m) : Wf (explD go mark L k0) := by
  obtain ⟨l, e, _, _, _, h1, h2⟩ := explD_facts (L := L) h0 hP
  unfold explD
  rw [e]
  refine ⟨by simp [detOf], ?_, ?_, ?_, by simp [detOf]⟩
  · intro r hr
    obtain ⟨k, _, rfl⟩ := List.mem_map.1 hr
    simp [rowOf, detOf]
  · intro r hr x hx
    obtain ⟨k, hk, rfl⟩ := List.mem_map.1 hr
    obtain ⟨a, ha, rfl⟩ := List.mem_map.1 hx
    have := List.idxOf_lt_length_of_mem (h2 k hk a (List.mem_range.1 ha))
    simp only [detOf, List.length_map]
    omega
  · have : 0 < l.length := (List.getElem?_eq_some_iff.1 h1).1
    simp only [detOf, List.length_map]
    omega
theorem explD_count {m : List K} (h0 : k0 ∈ m) (hP : ∀ k a, k ∈ m → a < L → go k a ∈ m) : (explD go mark L k0).fNext.length ≤ m.length := by
  obtain ⟨l, e, _, _, h3, _⟩ := explD_facts (L := L) h0 hP
  unfold explD
  rw [e]
  simpa [detOf] using h3
theorem explD_marks {Q : Int → Prop} {m : List K} (h0 : k0 ∈ m) (hP : ∀ k a, k ∈ m → a < L → go k a ∈ m) (hQ : ∀ k ∈ m, Q (mark k)) : ∀ x ∈ (explD go mark L k0).fMark, Q x := fun x hx => by
  obtain ⟨l, e, _, h4, _⟩ := explD_facts (L := L) h0 hP
  unfold explD at hx
  rw [e] at hx
  obtain ⟨k, hk, rfl⟩ := List.mem_map.1 hx
  exact hQ k (h4 k hk)
end
/-- the automaton of what is so of all words -/
theorem canon_const {L : Nat} {c : Int} : canon L (fun _ => c) = ⟨L, 0, [List.replicate L 0], [c]⟩ := by
  have h := canon_of (K := Unit) (go := fun _ _ => ()) (mark := fun _ => c) (L := L) (k0 := ()) (P := fun _ => True) trivial (fun _ _ _ _ => trivial) (fun _ _ _ _ _ => rfl)
  refine (show canon L (fun _ => c) = explD (K := Unit) (fun _ _ => ()) (fun _ => c) L () from h.symm).trans ?_
  have hg : ∀ n : Nat, growTo (K := Unit) (fun _ _ => ()) () n [()] = [()] := fun n => by
    induction n with
    | zero => rfl
    | succ n ih => rw [growTo, ih]; simp
  have h1 : (expl (K := Unit) (fun _ _ => ()) L () 1) = [()] := by
    rw [expl]
    exact hg L
  unfold explD
  rw [explL_eq (n := 1) (by rw [h1]; rfl), h1]
  unfold detOf rowOf
  simp only [List.map_cons, List.map_nil]
  congr 2
  congr 1
  rw [List.eq_replicate_iff]
  refine ⟨by simp, fun x hx => ?_⟩
  obtain ⟨a, _, rfl⟩ := List.mem_map.1 hx
  rfl
end Go.Proofs.Ytiinkohfldopbaa

/- The plain law of det.Explore's mirror: what it hands back. No condition. -/
namespace Go.Proofs.Ytiinkohfldopbaa
open Go.RowKit Go.MapKept
set_option linter.unusedSimpArgs false
set_option linter.unusedVariables false
set_option maxRecDepth 100000
set_option linter.unusedSectionVars false

section
variable {K : Type} [DecidableEq K] {go : K → Nat → K} {mark : K → Int} {L : Nat} {k0 : K} {P : K → Prop}
theorem growTo_mono {k : K} {l : List K} {a : Nat} : ∀ {b : Nat}, a ≤ b → ∃ r, growTo go k b l = growTo go k a l ++ r
  | 0, h => by
    obtain rfl : a = 0 := by omega
    exact ⟨[], by simp⟩
  | b + 1, h => by
    by_cases e : a = b + 1
    · subst e; exact ⟨[], by simp⟩
    · obtain ⟨r, hr⟩ := growTo_mono (k := k) (l := l) (a := a) (b := b) (by omega)
      rw [growTo]
      split
      · exact ⟨r, hr⟩
      · exact ⟨r ++ [go k b], by rw [hr, List.append_assoc]⟩
theorem expl_fails {i a : Nat} {e : K} {limit : Int} (he : (expl go L k0 i)[i]? = some e) (ha : a < L) (hn : go e a ∉ growTo go e a (expl go L k0 i)) (hl : ((growTo go e a (expl go L k0 i)).length : Int) = limit) : ¬ ∃ n : Nat, (expl go L k0 n).length = n ∧ (n : Int) ≤ limit := by
  rintro ⟨n, h1, h2⟩
  have hi := (List.getElem?_eq_some_iff.1 he).1
  have h3 : expl go L k0 (i + 1) = growTo go e L (expl go L k0 i) := by rw [expl, he]
  have h4 : growTo go e (a + 1) (expl go L k0 i) = growTo go e a (expl go L k0 i) ++ [go e a] := by rw [growTo, if_neg hn]
  obtain ⟨r, hr⟩ := growTo_mono (go := go) (k := e) (l := expl go L k0 i) (show a + 1 ≤ L from ha)
  have h5 : (expl go L k0 (i + 1)).length = (growTo go e a (expl go L k0 i)).length + 1 + r.length := by
    rw [h3, hr, h4]
    simp
    omega
  rcases Nat.lt_or_ge n (i + 1) with h | h
  · have := expl_stop (go := go) (L := L) (k0 := k0) (i := n) (by omega) (j := i) (by omega)
    rw [this] at hi
    omega
  · have := expl_mono (go := go) (L := L) (k0 := k0) h
    omega
/-- a map that numbers keys as a list does -/
def MapOf (m : List (K × Int)) (l : List K) : Prop := ∀ k, mget k m = if k ∈ l then some (l.idxOf k : Int) else none
theorem MapOf.one : MapOf (mput k0 0 ([] : List (K × Int))) [k0] := fun k => by
  rw [mget_put]
  by_cases h : k = k0
  · subst h; simp
  · simp [h, mget]
theorem idxOf_last {l : List K} {k : K} (h : k ∉ l) : (l ++ [k]).idxOf k = l.length := by
  induction l with
  | nil => simp
  | cons x l ih =>
    have h1 : x ≠ k := fun e => h (e ▸ List.mem_cons_self)
    have h2 : k ∉ l := fun e => h (List.mem_cons_of_mem _ e)
    rw [List.cons_append, List.idxOf_cons, ih h2, show (x == k) = false by simpa using h1]
    simp
theorem MapOf.push {m : List (K × Int)} {l : List K} (h : MapOf m l) {k : K} (hk : k ∉ l) : MapOf (mput k (l.length : Int) m) (l ++ [k]) := fun q => by
  rw [mget_put]
  by_cases e : q = k
  · subst e
    simp [idxOf_last hk]
  · rw [if_neg e, h q]
    by_cases hq : q ∈ l
    · rw [if_pos hq, if_pos (List.mem_append_left _ hq), idxOf_left hq]
    · rw [if_neg hq, if_neg (by simp [hq, e])]
theorem rowOf_left {l r : List K} {k : K} (h : ∀ a, a < L → go k a ∈ l) : rowOf go L (l ++ r) k = rowOf go L l k := by
  unfold rowOf
  refine List.map_congr_left fun a ha => ?_
  rw [idxOf_left (h a (List.mem_range.1 ha))]
theorem set_row {α : Type} (f : Nat → α) (z : α) {a L : Nat} (h : a < L) : (((List.range a).map f) ++ List.replicate (L - a) z).set a (f a) = (List.range (a + 1)).map f ++ List.replicate (L - (a + 1)) z := by
  refine List.ext_getElem? fun i => ?_
  rw [List.getElem?_set]
  by_cases e : a = i
  · subst e
    rw [if_pos rfl, if_pos (by simp; omega), List.getElem?_append_left (by simp), List.getElem?_map, List.getElem?_range (by omega)]
    rfl
  · rw [if_neg e]
    by_cases h1 : i < a
    · rw [List.getElem?_append_left (by simpa using h1), List.getElem?_append_left (by simp; omega), List.getElem?_map, List.getElem?_map, List.getElem?_range h1, List.getElem?_range (by omega)]
    · rw [List.getElem?_append_right (by simp; omega), List.getElem?_append_right (by simp; omega), List.getElem?_replicate, List.getElem?_replicate]
      simp only [List.length_map, List.length_range]
      by_cases h2 : i < L
      · rw [if_pos (by omega), if_pos (by omega)]
      · rw [if_neg (by omega), if_neg (by omega)]
end
theorem explore_plain {K : Type} [DecidableEq K] (letters : Int) (start : K) (domgo : (K × Int) → Prop) (go : (K × Int) → K) (dommark : K → Prop) (mark : K → Int) (limit : Int) (b : Nat) (Q : (ApiDet × Bool) → Prop)
    (P : K → Prop) (h0 : P start) (hP : ∀ k (a : Nat), P k → (a : Int) < letters → domgo (k, (a : Int)) ∧ P (go (k, (a : Int)))) (hm : ∀ k, P k → dommark k) (hl : 0 ≤ letters ∧ letters ≤ 1000) (hlim : 1 ≤ limit ∧ limit ≤ 2097152) (hb : b ≤ 64)
    (hQ : Q (explR (fun k (a : Nat) => go (k, (a : Int))) mark letters.toNat start limit)) :
  ∃ (Inv : (List (K × Int)) → (List K) → (List (List Int)) → (List Int) → Prop) (mu : (List (K × Int)) → (List K) → (List (List Int)) → (List Int) → Nat), Inv (mput start 0 ([] : List (K × Int))) ([start] : (List K)) ([] : (List (List Int))) ([] : (List Int)) ∧
  ∀ (m2 : (List (K × Int))) (l3 : (List K)) (l6 : (List (List Int))) (l7 : (List Int)) , Inv m2 l3 l6 l7 → (IfP (decide ((l6.length : Int) < (l3.length : Int))) (∃ e, idx l3 (l6.length : Int) = some e ∧
  makeOk letters letters 8 ∧
  ∃ (Inv_2 : Int → (List (K × Int)) → (List K) → (List Int) → Prop) (mu_2 : Int → (List (K × Int)) → (List K) → (List Int) → Nat), Inv_2 0 m2 l3 (List.replicate (letters).toNat (0 : Int)) ∧
  ∀ (x43 : Int) (m2_2 : (List (K × Int))) (l3_2 : (List K)) (l8 : (List Int)) , Inv_2 x43 m2_2 l3_2 l8 → (IfP (decide (x43 < letters)) ((domgo (e, x43)) ∧
  ∃ J : Int → (List (K × Int)) → (List K) → Prop, (IfP (!(mget (go (e, x43)) m2_2).isSome) (IfP ((l3_2.length : Int) == limit) (Q ((ApiDet.mk 0 0 [] []), false)) (capOk l3_2.length (([(go (e, x43))] : (List K)) : (List K)).length b ∧
  J (l3_2.length : Int) (mput (go (e, x43)) (l3_2.length : Int) m2_2) (l3_2 ++ ([(go (e, x43))] : (List K))))) (J ((mget (go (e, x43)) m2_2).getD (0 : Int)) m2_2 l3_2)) ∧
  (∀ (x19 : Int) (m2_3 : (List (K × Int))) (l3_3 : (List K)), J x19 m2_3 l3_3 → ∃ e_2, idx l8 x43 = some e_2 ∧
  (Inv_2 (wr (x43 + 1)) m2_3 l3_3 (l8.set (x43).toNat x19) ∧ mu_2 (wr (x43 + 1)) m2_3 l3_3 (l8.set (x43).toNat x19) < mu_2 x43 m2_2 l3_2 l8))) (capOk l6.length (([l8] : (List (List Int))) : (List (List Int))).length 24 ∧
  (dommark e) ∧
  capOk l7.length (([(mark e)] : (List Int)) : (List Int)).length 8 ∧
  (Inv m2_2 l3_2 (l6 ++ ([l8] : (List (List Int)))) (l7 ++ ([(mark e)] : (List Int))) ∧ mu m2_2 l3_2 (l6 ++ ([l8] : (List (List Int)))) (l7 ++ ([(mark e)] : (List Int))) < mu m2 l3 l6 l7)))) (Q ((ApiDet.mk letters 0 l6 l7), true))) := by
  obtain ⟨L, rfl⟩ : ∃ L : Nat, letters = L := ⟨letters.toNat, by omega⟩
  rw [Int.toNat_natCast] at hQ ⊢
  generalize hg : (fun (k : K) (a : Nat) => go (k, (a : Int))) = g at hQ
  have hgo : ∀ k (a : Nat), go (k, (a : Int)) = g k a := fun k a => by rw [← hg]
  have hPg : ∀ k a, P k → a < L → P (g k a) := fun k a hk ha => by rw [← hgo]; exact (hP k a hk (by omega)).2
  have hin : ∀ i k, k ∈ expl g L start i → P k := fun i k hk => expl_in h0 hPg hk
  refine ⟨fun m2 l3 l6 l7 => ∃ i : Nat, l6.length = i ∧ l7.length = i ∧ l3 = expl g L start i ∧ i ≤ l3.length ∧ (l3.length : Int) ≤ limit ∧ MapOf m2 l3 ∧ l6 = (l3.take i).map (rowOf g L l3) ∧ l7 = (l3.take i).map mark ∧ ∀ k ∈ l3.take i, ∀ a, a < L → g k a ∈ l3,
    fun m2 l3 l6 l7 => (limit + 1).toNat - l6.length, ⟨0, rfl, rfl, rfl, by simp, by simp; omega, MapOf.one, rfl, rfl, fun k hk => by simp at hk⟩, ?_⟩
  rintro m2 l3 l6 l7 ⟨i, hi1, hi1', hl3, hi2, hi3, hmap, hl6, hl7, hcl⟩
  refine ⟨fun hlt => ?_, fun hge => ?_⟩
  · have hlt : i < l3.length := by
      have := of_decide_eq_true hlt
      omega
    have he : l3[i]? = some l3[i] := List.getElem?_eq_getElem hlt
    generalize l3[i] = e at he
    have hPe : P e := hin i e (hl3 ▸ List.mem_of_getElem? he)
    refine ⟨e, by simp [idx, hi1, he], ⟨by omega, by omega, by omega⟩, fun x m l row => ∃ a : Nat, x = a ∧ a ≤ L ∧ l = growTo g e a l3 ∧ MapOf m l ∧ (l.length : Int) ≤ limit ∧ row = (List.range a).map (fun c => (l.idxOf (g e c) : Int)) ++ List.replicate (L - a) 0, fun x _ _ _ => L - x.toNat,
      ⟨0, rfl, Nat.zero_le _, rfl, hmap, hi3, by simp⟩, ?_⟩
    rintro x m l row ⟨a, rfl, ha, hlg, hm2, hl2, hrow⟩
    refine ⟨fun hlt2 => ?_, fun hge2 => ?_⟩
    · have ha : a < L := by
        have := of_decide_eq_true hlt2
        omega
      refine ⟨(hP e a hPe (by omega)).1, fun x19 m3 l4 => l4 = growTo g e (a + 1) l3 ∧ MapOf m3 l4 ∧ (l4.length : Int) ≤ limit ∧ x19 = (l4.idxOf (g e a) : Int) ∧ ∃ r, l4 = l ++ r, ?_, ?_⟩
      · rw [hgo]
        by_cases hmem : g e a ∈ l
        · have h1 : mget (g e a) m = some (l.idxOf (g e a) : Int) := by rw [hm2, if_pos hmem]
          rw [h1]
          refine ⟨fun h => (by cases h), fun _ => ⟨?_, hm2, hl2, rfl, [], by simp⟩⟩
          rw [growTo, ← hlg, if_pos hmem]
        · have h1 : mget (g e a) m = none := by rw [hm2, if_neg hmem]
          rw [h1]
          refine ⟨fun _ => ⟨fun hfull => ?_, fun hroom => ⟨?_, ?_, hm2.push hmem, ?_, ?_, [g e a], rfl⟩⟩, fun h => (by cases h)⟩
          · have hfull : (l.length : Int) = limit := by simpa using hfull
            have hf := expl_fails (go := g) (L := L) (k0 := start) (i := i) (a := a) (e := e) (limit := limit) (by rw [← hl3]; exact he) ha (by rw [← hl3, ← hlg]; exact hmem) (by rw [← hl3, ← hlg]; exact hfull)
            have : explR g mark L start limit = (⟨0, 0, [], []⟩, false) := by
              unfold explR
              rw [if_neg hf]
            rw [this] at hQ
            exact hQ
          · unfold capOk
            simp only [List.length_cons, List.length_nil]
            have h64 : (l.length + (0 + 1)) * b ≤ (l.length + 1) * 64 := Nat.mul_le_mul_left _ hb
            omega
          · rw [growTo, ← hlg, if_neg hmem]
          · have hne : (l.length : Int) ≠ limit := by simpa using hroom
            rw [List.length_append]
            simp only [List.length_cons, List.length_nil]
            omega
          · rw [idxOf_last hmem]
      · rintro x19 m3 l4 ⟨hl4, hm4, hl5, rfl, r, hr⟩
        have hlen : row.length = L := by
          rw [hrow]
          simp
          omega
        refine ⟨row[a]'(by omega), by simp [idx, hlen, ha], ⟨a + 1, ?_, by omega, hl4, hm4, hl5, ?_⟩, ?_⟩
        · rw [wr_in (by omega) (by omega)]
          omega
        · rw [Int.toNat_natCast]
          have hst : ∀ c, c < a → l4.idxOf (g e c) = l.idxOf (g e c) := fun c hc => by
            rw [hr, idxOf_left]
            rw [hlg]
            exact growTo_mem.2 (.inr ⟨c, hc, rfl⟩)
          have : row = (List.range a).map (fun c => (l4.idxOf (g e c) : Int)) ++ List.replicate (L - a) 0 := by
            rw [hrow]
            congr 1
            refine List.map_congr_left fun c hc => ?_
            rw [hst c (List.mem_range.1 hc)]
          rw [this]
          exact set_row (fun c => (l4.idxOf (g e c) : Int)) 0 ha
        · rw [wr_in (by omega) (by omega)]
          simp only
          omega
    · obtain rfl : a = L := by
        have := of_decide_eq_false hge2
        omega
      have hnext : l = expl g a start (i + 1) := by rw [expl, ← hl3, he, hlg]
      obtain ⟨r, hr⟩ := growTo_app (go := g) e a l3
      rw [← hlg] at hr
      have htake : l.take (i + 1) = l3.take i ++ [e] := by
        rw [hr, List.take_append_of_le_length (by omega), List.take_add_one, he]
        rfl
      have hrow' : row = rowOf g a l e := by
        rw [hrow]
        simp [rowOf]
      have hcl' : ∀ k ∈ l.take (i + 1), ∀ c, c < a → g k c ∈ l := fun k hk c hc => by
        rw [htake, List.mem_append, List.mem_singleton] at hk
        rcases hk with hk | rfl
        · rw [hr]
          exact List.mem_append_left _ (hcl k hk c hc)
        · rw [hlg]
          exact growTo_mem.2 (.inr ⟨c, hc, rfl⟩)
      have hge : i + 1 ≤ l.length := by
        rw [hr, List.length_append]
        omega
      refine ⟨?_, hm e hPe, ?_, ⟨i + 1, by simp [hi1], by simp [hi1'], hnext, hge, hl2, hm2, ?_, ?_, hcl'⟩, ?_⟩
      · unfold capOk
        simp only [List.length_cons, List.length_nil]
        omega
      · unfold capOk
        simp only [List.length_cons, List.length_nil]
        omega
      · rw [htake, List.map_append, hl6, hrow', List.map_cons, List.map_nil]
        congr 1
        refine List.map_congr_left fun k hk => ?_
        rw [hr]
        exact (rowOf_left (hcl k hk)).symm
      · rw [htake, List.map_append, hl7]
        rfl
      · simp only [List.length_append, List.length_cons, List.length_nil]
        omega
  · have hge : l3.length = i := by
      have := of_decide_eq_false hge
      omega
    have hdone : (expl g L start i).length = i := by rw [← hl3]; exact hge
    have : explR g mark L start limit = (⟨L, 0, l6, l7⟩, true) := by
      unfold explR
      rw [if_pos ⟨i, hdone, by omega⟩]
      unfold explD
      rw [explL_eq hdone, ← hl3]
      have ht : l3.take i = l3 := by rw [← hge]; exact List.take_length
      rw [ht] at hl6 hl7
      rw [hl6, hl7]
      rfl
    rw [this] at hQ
    exact hQ
end Go.Proofs.Ytiinkohfldopbaa

/- The plain law of det.Classes' mirror: classes tell apart what words tell apart. No condition. -/
namespace Go.Proofs.Ytiinkohfldopbaa
open Go.RowKit Go.MapKept
set_option linter.unusedSimpArgs false
set_option linter.unusedVariables false
set_option maxRecDepth 100000
set_option linter.unusedSectionVars false

/-- a function of the first m numbers onto themselves is one to one -/
theorem onto_inj {m : Nat} {f : Nat → Nat} (hon : ∀ j, j < m → ∃ i, i < m ∧ f i = j) {i j : Nat} (hi : i < m) (hj : j < m) (h : f i = f j) : i = j := by
  refine Decidable.byContradiction fun hne => ?_
  have := nodup_le (l := List.range m) (m := ((List.range m).erase i).map f) List.nodup_range fun x hx => by
    obtain ⟨q, hq, rfl⟩ := hon x (List.mem_range.1 hx)
    rw [List.mem_map]
    by_cases e : q = i
    · subst e
      exact ⟨j, (List.mem_erase_of_ne (fun e => hne e.symm)).2 (List.mem_range.2 hj), h.symm⟩
    · exact ⟨q, (List.mem_erase_of_ne e).2 (List.mem_range.2 hq), rfl⟩
  rw [List.length_range, List.length_map, List.length_erase_of_mem (List.mem_range.2 hi), List.length_range] at this
  omega
theorem onto_le {k m : Nat} {f : Nat → Nat} (hon : ∀ j, j < k → ∃ i, i < m ∧ f i = j) : k ≤ m := by
  have := nodup_le (l := List.range k) (m := (List.range m).map f) List.nodup_range fun x hx => by
    obtain ⟨q, hq, rfl⟩ := hon x (List.mem_range.1 hx)
    exact List.mem_map.2 ⟨q, List.mem_range.2 hq, rfl⟩
  simpa using this
/-- two bytes of a number -/
def two8 (c : Int) : List Int := [c % 256, c / 256 % 256]
theorem two8_inj {c d : Int} (hc : 0 ≤ c ∧ c < 65536) (hd : 0 ≤ d ∧ d < 65536) (h : two8 c = two8 d) : c = d := by
  unfold two8 at h
  simp only [List.cons.injEq] at h
  omega
theorem two8_in {c : Int} : ∀ x ∈ two8 c, 0 ≤ x ∧ x < 256 := by
  intro x hx
  unfold two8 at hx
  simp only [List.mem_cons, List.not_mem_nil, or_false] at hx
  omega
theorem two8_eq (c : Int) : [IntKind.wrap .u8 c, IntKind.wrap .u8 (Int.fdiv c (2 ^ (min 8 64)))] = two8 c := by
  have h : ((2 : Int) ^ (min 8 64)) = 256 := by decide
  rw [h, IntKind.wrap_u8, IntKind.wrap_u8, Int.fdiv_eq_ediv_of_nonneg _ (by omega)]
  rfl
theorem twos_inj : ∀ {l m : List Int}, (∀ x ∈ l, 0 ≤ x ∧ x < 65536) → (∀ x ∈ m, 0 ≤ x ∧ x < 65536) → l.flatMap two8 = m.flatMap two8 → l = m
  | [], [], _, _, _ => rfl
  | [], _ :: _, _, _, h => by simp [two8] at h
  | _ :: _, [], _, _, h => by simp [two8] at h
  | x :: l, y :: m, hl, hm, h => by
    rw [List.flatMap_cons, List.flatMap_cons] at h
    have h1 := List.append_inj h (by simp [two8])
    rw [two8_inj (hl x List.mem_cons_self) (hm y List.mem_cons_self) h1.1, twos_inj (fun z hz => hl z (List.mem_cons_of_mem _ hz)) (fun z hz => hm z (List.mem_cons_of_mem _ hz)) h1.2]
theorem twos_in {l : List Int} : ∀ x ∈ l.flatMap two8, 0 ≤ x ∧ x < 256 := fun x hx => by
  obtain ⟨c, _, h⟩ := List.mem_flatMap.1 hx
  exact two8_in x h
/-- the classes of a row -/
def rowCls (cls : List Int) (r : List Int) : List Int := r.map fun t => cls.getD t.toNat 0
def keyOf (cls : List Int) (q : Nat) (r : List Int) : DetSplit := ⟨cls.getD q 0, bytesOf ((rowCls cls r).flatMap two8)⟩
/-- what one round makes: classes next, m of them, as keys are alike -/
structure RoundOf (N : List (List Int)) (cls next : List Int) (m : Nat) : Prop where
  len : next.length = N.length
  range : ∀ x ∈ next, 0 ≤ x ∧ x < (m : Int)
  onto : ∀ j : Nat, j < m → (j : Int) ∈ next
  same : ∀ (p q : Nat) (r s : List Int) (x y : Int), N[p]? = some r → N[q]? = some s → next[p]? = some x → next[q]? = some y → (x = y ↔ keyOf cls p r = keyOf cls q s)
/-- an automaton whose classes may be asked for -/
structure ClsPre (d : ApiDet) : Prop where
  size : d.fNext.length ≤ 65536
  next : ∀ r ∈ d.fNext, ∀ x ∈ r, 0 ≤ x ∧ x < (d.fNext.length : Int)
  wide : ∀ r ∈ d.fNext, r.length ≤ 1000
  marks : d.fMark.length = d.fNext.length
  small : ∀ x ∈ d.fMark, 0 ≤ x ∧ x < 65536
/-- numbers by keys, in the middle of a round: map m2, and next up to q -/
structure Half (N : List (List Int)) (cls : List Int) (q : Nat) (m2 : List (DetSplit × Int)) (next : List Int) : Prop where
  len : next.length = N.length
  get : ∀ (p : Nat) (r : List Int), p < q → N[p]? = some r → ∃ x : Int, next[p]? = some x ∧ mget (keyOf cls p r) m2 = some x
  range : ∀ (k : DetSplit) (x : Int), mget k m2 = some x → 0 ≤ x ∧ x < (m2.length : Int)
  inj : ∀ (k l : DetSplit) (x : Int), mget k m2 = some x → mget l m2 = some x → k = l
  onto : ∀ j : Nat, j < m2.length → ∃ p : Nat, p < q ∧ next[p]? = some (j : Int)
  size : m2.length ≤ q
theorem mput_length {κ : Type} [DecidableEq κ] {a : κ} {v : Int} : ∀ {D : List (κ × Int)}, mget a D = none → (mput a v D).length = D.length + 1
  | [], _ => rfl
  | x :: D, h => by
    rw [mget] at h
    split at h
    · cases h
    · rename_i e
      rw [mput, if_neg e, List.length_cons, mput_length h, List.length_cons]
theorem Half.start {N : List (List Int)} {cls next : List Int} (h : next.length = N.length) : Half N cls 0 [] next :=
  ⟨h, fun p r hp => absurd hp (Nat.not_lt_zero _), fun k x e => by simp [mget] at e, fun k l x e => by simp [mget] at e, fun j hj => by simp at hj, Nat.le_refl _⟩
theorem Half.known {N : List (List Int)} {cls next : List Int} {q : Nat} {m2 : List (DetSplit × Int)} (h : Half N cls q m2 next) {r : List Int} (hr : N[q]? = some r) {x : Int} (hx : mget (keyOf cls q r) m2 = some x) : Half N cls (q + 1) m2 (next.set q x) := by
  have hq : q < next.length := by rw [h.len]; exact (List.getElem?_eq_some_iff.1 hr).1
  refine ⟨by simp [h.len], fun p s hp hs => ?_, h.range, h.inj, fun j hj => ?_, Nat.le_succ_of_le h.size⟩
  · by_cases e : p = q
    · subst e
      rw [hr] at hs
      cases hs
      exact ⟨x, by rw [List.getElem?_set_self hq], hx⟩
    · obtain ⟨y, h1, h2⟩ := h.get p s (by omega) hs
      exact ⟨y, by rw [List.getElem?_set_ne (Ne.symm e)]; exact h1, h2⟩
  · obtain ⟨p, h1, h2⟩ := h.onto j hj
    exact ⟨p, by omega, by rw [List.getElem?_set_ne (by omega)]; exact h2⟩
theorem Half.new {N : List (List Int)} {cls next : List Int} {q : Nat} {m2 : List (DetSplit × Int)} (h : Half N cls q m2 next) {r : List Int} (hr : N[q]? = some r) (hx : mget (keyOf cls q r) m2 = none) : Half N cls (q + 1) (mput (keyOf cls q r) (m2.length : Int) m2) (next.set q (m2.length : Int)) := by
  have hq : q < next.length := by rw [h.len]; exact (List.getElem?_eq_some_iff.1 hr).1
  have hl := mput_length (v := (m2.length : Int)) hx
  refine ⟨by simp [h.len], fun p s hp hs => ?_, fun k x e => ?_, fun k l x e1 e2 => ?_, fun j hj => ?_, by rw [hl]; have := h.size; omega⟩
  · by_cases e : p = q
    · subst e
      rw [hr] at hs
      cases hs
      exact ⟨_, by rw [List.getElem?_set_self hq], by rw [mget_put, if_pos rfl]⟩
    · obtain ⟨y, h1, h2⟩ := h.get p s (by omega) hs
      refine ⟨y, by rw [List.getElem?_set_ne (Ne.symm e)]; exact h1, ?_⟩
      rw [mget_put, if_neg (fun e2 => by rw [e2, hx] at h2; cases h2)]
      exact h2
  · rw [mget_put] at e
    rw [hl]
    split at e
    · cases e; omega
    · have := h.range k x e
      omega
  · rw [mget_put] at e1 e2
    split at e1 <;> split at e2
    · rename_i a b; rw [a, b]
    · cases e1
      have := h.range l _ e2
      omega
    · cases e2
      have := h.range k _ e1
      omega
    · exact h.inj k l x e1 e2
  · rw [hl] at hj
    by_cases e : j = m2.length
    · subst e
      exact ⟨q, by omega, by rw [List.getElem?_set_self hq]⟩
    · obtain ⟨p, h1, h2⟩ := h.onto j (by omega)
      exact ⟨p, by omega, by rw [List.getElem?_set_ne (by omega)]; exact h2⟩
theorem Half.round {N : List (List Int)} {cls next : List Int} {m2 : List (DetSplit × Int)} (h : Half N cls N.length m2 next) : RoundOf N cls next m2.length := by
  have hget : ∀ (p : Nat) (r : List Int) (x : Int), N[p]? = some r → next[p]? = some x → mget (keyOf cls p r) m2 = some x := fun p r x h1 h2 => by
    obtain ⟨y, h3, h4⟩ := h.get p r (List.getElem?_eq_some_iff.1 h1).1 h1
    rw [h2] at h3
    cases h3
    exact h4
  refine ⟨h.len, fun x hx => ?_, fun j hj => ?_, fun p q r s x y h1 h2 h3 h4 => ?_⟩
  · obtain ⟨p, hp⟩ := List.getElem?_of_mem hx
    have hlt := (List.getElem?_eq_some_iff.1 hp).1
    rw [h.len] at hlt
    exact h.range _ x (hget p _ x (List.getElem?_eq_getElem hlt) hp)
  · obtain ⟨p, _, h2⟩ := h.onto j hj
    exact List.mem_of_getElem? h2
  · have k1 := hget p r x h1 h3
    have k2 := hget q s y h2 h4
    constructor
    · rintro rfl
      exact h.inj _ _ x k1 k2
    · intro e
      rw [e, k2] at k1
      cases k1
      rfl
theorem succ_rs {d : ApiDet} {L p q a : Nat} (h : rs L (langD d p) = rs L (langD d q)) (ha : a < L) : rs L (langD d (stepD d p a)) = rs L (langD d (stepD d q a)) :=
  rs_congr fun w hw => rs_at (w := a :: w) h fun b hb => (List.mem_cons.1 hb).elim (fun e => e ▸ ha) (hw b)
/-- what holds of classes between rounds: no two states that words do not tell apart are told apart, and marks are -/
structure ClsInv (d : ApiDet) (L : Nat) (x4 : Int) (cls : List Int) : Prop where
  len : cls.length = d.fNext.length
  range : ∀ x ∈ cls, 0 ≤ x ∧ x < 65536
  sound : ∀ p q, p < d.fNext.length → q < d.fNext.length → rs L (langD d p) = rs L (langD d q) → cls.getD p 0 = cls.getD q 0
  marks : ∀ p q, p < d.fNext.length → q < d.fNext.length → cls.getD p 0 = cls.getD q 0 → d.fMark.getD p 0 = d.fMark.getD q 0
  count : x4 = 0 ∨ ∃ m : Nat, x4 = m ∧ m ≤ d.fNext.length ∧ (∀ x ∈ cls, 0 ≤ x ∧ x < (m : Int)) ∧ ∀ j : Nat, j < m → (j : Int) ∈ cls
theorem getD_mem {α : Type} {l : List α} {i : Nat} {z : α} (h : i < l.length) : l.getD i z ∈ l := by
  rw [List.getD_eq_getElem?_getD, List.getElem?_eq_getElem h]
  exact List.getElem_mem h
theorem getD_some {α : Type} {l : List α} {i : Nat} {z : α} (h : i < l.length) : l[i]? = some (l.getD i z) := by
  rw [List.getD_eq_getElem?_getD, List.getElem?_eq_getElem h]
  rfl
section
variable {d : ApiDet} (hd : ClsPre d) {L : Nat} (hL : ∀ r ∈ d.fNext, r.length = L)
include hd
theorem ClsPre.step {q a : Nat} (hq : q < d.fNext.length) : stepD d q a < d.fNext.length := by
  unfold stepD
  have hr := getD_mem (z := []) hq
  by_cases h : a < (d.fNext.getD q []).length
  · have := hd.next _ hr _ (getD_mem (z := 0) h)
    omega
  · rw [List.getD_eq_getElem?_getD (l := d.fNext.getD q []), List.getElem?_eq_none (by omega)]
    simp only [Option.getD_none]
    omega
theorem keyOf_iff {cls : List Int} (hr : ∀ x ∈ cls, 0 ≤ x ∧ x < 65536) (hlen : cls.length = d.fNext.length) {p q : Nat} (hp : p < d.fNext.length) (hq : q < d.fNext.length) (hrows : (d.fNext.getD p []).length = (d.fNext.getD q []).length) :
    keyOf cls p (d.fNext.getD p []) = keyOf cls q (d.fNext.getD q []) ↔ cls.getD p 0 = cls.getD q 0 ∧ ∀ a, a < (d.fNext.getD p []).length → cls.getD (stepD d p a) 0 = cls.getD (stepD d q a) 0 := by
  have hin : ∀ r ∈ d.fNext, ∀ x ∈ rowCls cls r, 0 ≤ x ∧ x < 65536 := fun r hr2 x hx => by
    obtain ⟨t, ht, rfl⟩ := List.mem_map.1 hx
    have := hd.next r hr2 t ht
    exact hr _ (getD_mem (by omega))
  unfold keyOf
  simp only [DetSplit.mk.injEq]
  refine and_congr Iff.rfl ⟨fun h a ha => ?_, fun h => ?_⟩
  · have h1 := twos_inj (hin _ (getD_mem hp)) (hin _ (getD_mem hq)) (bytesOf_inj twos_in twos_in h)
    have h2 := congrArg (fun l => l[a]?) h1
    simp only [rowCls, List.getElem?_map, getD_some (z := (0 : Int)) ha, getD_some (z := (0 : Int)) (show a < (d.fNext.getD q []).length by omega), Option.map_some, Option.some.injEq] at h2
    exact h2
  · have : rowCls cls (d.fNext.getD p []) = rowCls cls (d.fNext.getD q []) := by
      unfold rowCls
      refine List.ext_getElem? fun a => ?_
      rw [List.getElem?_map, List.getElem?_map]
      by_cases ha : a < (d.fNext.getD p []).length
      · rw [getD_some (z := (0 : Int)) ha, getD_some (z := (0 : Int)) (show a < (d.fNext.getD q []).length by omega), Option.map_some, Option.map_some]
        exact congrArg some (h a ha)
      · rw [List.getElem?_eq_none (by omega), List.getElem?_eq_none (by omega)]
    rw [this]
include hL
theorem ClsInv.next {cls next : List Int} {x4 : Int} {m : Nat} (h : ClsInv d L x4 cls) (hR : RoundOf d.fNext cls next m) (hm : m ≤ d.fNext.length) : ClsInv d L m next := by
  have hrow : ∀ p, p < d.fNext.length → (d.fNext.getD p []).length = L := fun p hp => hL _ (getD_mem hp)
  have key : ∀ p q, p < d.fNext.length → q < d.fNext.length → (next.getD p 0 = next.getD q 0 ↔ cls.getD p 0 = cls.getD q 0 ∧ ∀ a, a < L → cls.getD (stepD d p a) 0 = cls.getD (stepD d q a) 0) := fun p q hp hq => by
    rw [hR.same p q _ _ _ _ (getD_some (z := []) hp) (getD_some (z := []) hq) (getD_some (z := 0) (by rw [hR.len]; exact hp)) (getD_some (z := 0) (by rw [hR.len]; exact hq)), keyOf_iff hd h.range h.len hp hq (by rw [hrow p hp, hrow q hq]), hrow p hp]
  have h65 := hd.size
  refine ⟨hR.len, fun x hx => by have := hR.range x hx; omega, fun p q hp hq hw => ?_, fun p q hp hq e => h.marks p q hp hq ((key p q hp hq).1 e).1, .inr ⟨m, rfl, hm, hR.range, hR.onto⟩⟩
  exact (key p q hp hq).2 ⟨h.sound p q hp hq hw, fun a ha => h.sound _ _ (hd.step hp) (hd.step hq) (succ_rs hw ha)⟩
theorem ClsInv.factor {cls next : List Int} {x4 : Int} {m : Nat} (h : ClsInv d L x4 cls) (hR : RoundOf d.fNext cls next m) : ∃ f : Nat → Nat, ∀ i, i < d.fNext.length → f (next.getD i 0).toNat = (cls.getD i 0).toNat := by
  have hrow : ∀ p, p < d.fNext.length → (d.fNext.getD p []).length = L := fun p hp => hL _ (getD_mem hp)
  have key : ∀ p q, p < d.fNext.length → q < d.fNext.length → next.getD p 0 = next.getD q 0 → cls.getD p 0 = cls.getD q 0 := fun p q hp hq e =>
    ((keyOf_iff hd h.range h.len hp hq (by rw [hrow p hp, hrow q hq])).1 ((hR.same p q _ _ _ _ (getD_some (z := []) hp) (getD_some (z := []) hq) (getD_some (z := 0) (by rw [hR.len]; exact hp)) (getD_some (z := 0) (by rw [hR.len]; exact hq))).1 e)).1
  have hx : ∀ j : Nat, j < m → ∃ i : Nat, i < d.fNext.length ∧ next.getD i 0 = (j : Int) := fun j hj => by
    obtain ⟨i, hi⟩ := List.getElem?_of_mem (hR.onto j hj)
    have hlt := (List.getElem?_eq_some_iff.1 hi).1
    exact ⟨i, by rw [hR.len] at hlt; exact hlt, by simp [hi]⟩
  refine ⟨fun j => if hj : j < m then (cls.getD (hx j hj).choose 0).toNat else 0, fun i hi => ?_⟩
  have hr := hR.range _ (getD_mem (l := next) (z := 0) (by rw [hR.len]; exact hi))
  have hj : (next.getD i 0).toNat < m := by omega
  show (if hj : _ then _ else _) = _
  rw [dif_pos hj]
  obtain ⟨k1, k2⟩ := (hx _ hj).choose_spec
  rw [key _ i k1 hi (by rw [k2]; omega)]
theorem ClsInv.le {cls next : List Int} {x4 : Int} {m : Nat} (h : ClsInv d L x4 cls) (hR : RoundOf d.fNext cls next m) : x4 ≤ m := by
  rcases h.count with h0 | ⟨m', h1, h2, h3, h4⟩
  · omega
  · obtain ⟨f, hf⟩ := h.factor hd hL hR
    have := onto_le (k := m') (m := m) (f := f) fun j hj => by
      obtain ⟨i, hi⟩ := List.getElem?_of_mem (h4 j hj)
      have hlt := (List.getElem?_eq_some_iff.1 hi).1
      rw [h.len] at hlt
      have hr := hR.range _ (getD_mem (l := next) (z := 0) (by rw [hR.len]; exact hlt))
      refine ⟨(next.getD i 0).toNat, by omega, ?_⟩
      rw [hf i hlt]
      simp [hi]
    omega
/-- when the number of classes stays, the classes are right -/
theorem ClsInv.ends {cls next : List Int} {x4 : Int} {m : Nat} (h : ClsInv d L x4 cls) (hR : RoundOf d.fNext cls next m) (hm : m ≤ d.fNext.length) (he : (m : Int) = x4) : ∀ p q, p < d.fNext.length → q < d.fNext.length → (next.getD p 0 = next.getD q 0 ↔ rs L (langD d p) = rs L (langD d q)) := by
  have hrow : ∀ p, p < d.fNext.length → (d.fNext.getD p []).length = L := fun p hp => hL _ (getD_mem hp)
  have key : ∀ p q, p < d.fNext.length → q < d.fNext.length → (next.getD p 0 = next.getD q 0 ↔ cls.getD p 0 = cls.getD q 0 ∧ ∀ a, a < L → cls.getD (stepD d p a) 0 = cls.getD (stepD d q a) 0) := fun p q hp hq => by
    rw [hR.same p q _ _ _ _ (getD_some (z := []) hp) (getD_some (z := []) hq) (getD_some (z := 0) (by rw [hR.len]; exact hp)) (getD_some (z := 0) (by rw [hR.len]; exact hq)), keyOf_iff hd h.range h.len hp hq (by rw [hrow p hp, hrow q hq]), hrow p hp]
  intro p q hp hq
  -- no class was split
  have stay : ∀ p q, p < d.fNext.length → q < d.fNext.length → cls.getD p 0 = cls.getD q 0 → next.getD p 0 = next.getD q 0 := by
    intro p q hp hq e
    have hnp := hR.range _ (getD_mem (l := next) (z := 0) (by rw [hR.len]; exact hp))
    have hnq := hR.range _ (getD_mem (l := next) (z := 0) (by rw [hR.len]; exact hq))
    rcases h.count with h0 | ⟨m', h1, h2, h3, h4⟩
    · omega
    · have hmm : m' = m := by omega
      subst hmm
      obtain ⟨f, hf⟩ := h.factor hd hL hR
      have hon : ∀ j, j < m' → ∃ i, i < m' ∧ f i = j := fun j hj => by
        obtain ⟨i, hi⟩ := List.getElem?_of_mem (h4 j hj)
        have hlt := (List.getElem?_eq_some_iff.1 hi).1
        rw [h.len] at hlt
        have hr := hR.range _ (getD_mem (l := next) (z := 0) (by rw [hR.len]; exact hlt))
        refine ⟨(next.getD i 0).toNat, by omega, ?_⟩
        rw [hf i hlt]
        simp [hi]
      have := onto_inj hon (i := (next.getD p 0).toNat) (j := (next.getD q 0).toNat) (by omega) (by omega) (by rw [hf p hp, hf q hq, e])
      omega
  constructor
  · intro e
    have go : ∀ (w : List Nat) (p q : Nat), p < d.fNext.length → q < d.fNext.length → next.getD p 0 = next.getD q 0 → (∀ a ∈ w, a < L) → langD d p w = langD d q w := by
      intro w
      induction w with
      | nil => exact fun p q hp hq e _ => h.marks p q hp hq ((key p q hp hq).1 e).1
      | cons a w ih =>
        intro p q hp hq e hw
        exact ih (stepD d p a) (stepD d q a) (hd.step hp) (hd.step hq) (stay _ _ (hd.step hp) (hd.step hq) (((key p q hp hq).1 e).2 a (hw a List.mem_cons_self))) fun b hb => hw b (List.mem_cons_of_mem _ hb)
    exact rs_congr fun w hw => go w p q hp hq e hw
  · exact fun e => (key p q hp hq).2 ⟨h.sound p q hp hq e, fun a ha => h.sound _ _ (hd.step hp) (hd.step hq) (succ_rs e ha)⟩
end
end Go.Proofs.Ytiinkohfldopbaa

/- Contracts of det.Explore and det.Classes. No condition. -/
namespace Go.Proofs.Ytiinkohfldopbaa
open Go.RowKit Go.MapKept
set_option linter.unusedSimpArgs false
set_option linter.unusedVariables false
set_option maxRecDepth 100000
set_option linter.unusedSectionVars false

/-- an automaton whose classes may be asked for -/
structure ClsOk (d : ApiDet) : Prop where
  wf : Wf d
  size : d.fNext.length ≤ 65536
  wide : d.fLetters ≤ 1000
  small : ∀ x ∈ d.fMark, 0 ≤ x ∧ x < 65536
theorem ClsOk.pre {d : ApiDet} (h : ClsOk d) : ClsPre d :=
  ⟨h.size, h.wf.next, fun r hr => by have := h.wf.rows r hr; have := h.wide; have := h.wf.letters; omega, h.wf.mark, h.small⟩
/-- classes that tell apart what words tell apart -/
structure IsClass (d : ApiDet) (cls : List Int) : Prop where
  len : cls.length = d.fNext.length
  range : ∀ x ∈ cls, 0 ≤ x ∧ x < (d.fNext.length : Int)
  same : ∀ p q, p < d.fNext.length → q < d.fNext.length → (cls.getD p 0 = cls.getD q 0 ↔ rs d.fLetters.toNat (langD d p) = rs d.fLetters.toNat (langD d q))
theorem classes_plain (d : ApiDet) (h : ClsOk d) : classes_vc d (IsClass d) := by
  have hd := h.pre
  have hsz := h.size
  have hL : ∀ r ∈ d.fNext, r.length = d.fLetters.toNat := h.wf.rows
  intro _ _
  refine ⟨by rw [h.wf.mark]; omega, fun x4 l1 => ClsInv d d.fLetters.toNat x4 l1, fun x4 _ => ((d.fNext.length : Int) + 1 - x4).toNat, ⟨h.wf.mark, h.small, fun p q _ _ e => ?_, fun p q _ _ e => e, .inl rfl⟩, ?_⟩
  · exact rs_at (w := []) e fun b hb => by simp at hb
  intro x4 l1 hI
  refine ⟨⟨by omega, Int.le_refl _, by rw [hI.len]; omega⟩, fun x m next => ∃ q : Nat, x = q ∧ q ≤ d.fNext.length ∧ Half d.fNext l1 q m next, fun x _ _ => d.fNext.length - x.toNat, ⟨0, rfl, Nat.zero_le _, Half.start (by simp [hI.len])⟩, ?_⟩
  rintro x m2 l3 ⟨q, rfl, hq, hH⟩
  refine ⟨fun hb => ?_, fun hb => ?_⟩
  · have hlt : q < d.fNext.length := by
      have := of_decide_eq_true hb
      omega
    have he : d.fNext[q]? = some d.fNext[q] := List.getElem?_eq_getElem hlt
    generalize d.fNext[q] = e at he
    have hem := List.mem_of_getElem? he
    have hew := hd.wide e hem
    refine ⟨e, by simp [idx, he], fun x l => ∃ a : Nat, x = a ∧ a ≤ e.length ∧ l = ((rowCls l1 e).take a).flatMap two8, fun x _ => e.length - x.toNat, ⟨0, rfl, Nat.zero_le _, by simp⟩, ?_⟩
    rintro x l4 ⟨a, rfl, ha, rfl⟩
    refine ⟨fun hb2 => ?_, fun hb2 => ?_⟩
    · have hlt2 : a < e.length := by
        have := of_decide_eq_true hb2
        omega
      have hx := hd.next e hem _ (List.getElem_mem hlt2)
      have hg : idx l1 e[a] = some (l1.getD e[a].toNat 0) := by
        unfold idx
        rw [if_pos hx.1]
        exact getD_some (by rw [hI.len]; omega)
      have hlen : (((rowCls l1 e).take a).flatMap two8).length = 2 * a := by
        rw [List.length_flatMap]
        have : (List.map (fun x => (two8 x).length) (List.take a (rowCls l1 e))) = List.replicate a 2 := by
          rw [List.eq_replicate_iff]
          refine ⟨by simp [rowCls]; omega, fun z hz => ?_⟩
          obtain ⟨y, _, rfl⟩ := List.mem_map.1 hz
          rfl
        rw [this]
        simp
        omega
      refine ⟨e[a], by simp [idx, hlt2], _, hg, _, hg, ?_, ?_, ?_⟩
      · unfold capOk
        rw [hlen]
        simp only [List.length_cons, List.length_nil]
        omega
      · refine ⟨a + 1, ?_, hlt2, ?_⟩
        · rw [wr_in (by omega) (by omega)]
          omega
        · rw [two8_eq, List.take_add_one, List.flatMap_append]
          congr 1
          have : (rowCls l1 e)[a]? = some (l1.getD e[a].toNat 0) := by
            unfold rowCls
            rw [List.getElem?_map, List.getElem?_eq_getElem hlt2]
            rfl
          rw [this]
          simp
      · rw [wr_in (by omega) (by omega)]
        simp only
        omega
    · have hae : a = e.length := by
        have := of_decide_eq_false hb2
        omega
      subst hae
      have hall : (rowCls l1 e).take e.length = rowCls l1 e := List.take_of_length_le (by simp [rowCls])
      rw [hall]
      have hq1 : idx l1 (q : Int) = some (l1.getD q 0) := by
        unfold idx
        rw [if_pos (by omega), Int.toNat_natCast]
        exact getD_some (by rw [hI.len]; exact hlt)
      have hkey : (DetSplit.mk (l1.getD q 0) (bytesOf ((rowCls l1 e).flatMap two8))) = keyOf l1 q e := rfl
      refine ⟨l1.getD q 0, hq1, fun m => Half d.fNext l1 (q + 1) m (l3.set q ((mget (keyOf l1 q e) m).getD 0)), ?_, ?_⟩
      · rw [hkey]
        cases hm : mget (keyOf l1 q e) m2 with
        | none =>
          refine ⟨fun _ => ?_, fun h => (by cases h)⟩
          show Half _ _ _ _ (l3.set q ((mget (keyOf l1 q e) (mput (keyOf l1 q e) (m2.length : Int) m2)).getD 0))
          rw [mget_put, if_pos rfl]
          exact hH.new he hm
        | some y =>
          refine ⟨fun h => (by cases h), fun _ => ?_⟩
          show Half _ _ _ _ (l3.set q ((mget (keyOf l1 q e) m2).getD 0))
          rw [hm]
          exact hH.known he hm
      · intro m3 hm3
        refine ⟨l3.getD q 0, ?_, ⟨q + 1, ?_, hlt, ?_⟩, ?_⟩
        · unfold idx
          rw [if_pos (by omega), Int.toNat_natCast]
          exact getD_some (by rw [hH.len]; exact hlt)
        · rw [wr_in (by omega) (by omega)]
          omega
        · rw [Int.toNat_natCast, hkey]
          exact hm3
        · rw [wr_in (by omega) (by omega)]
          simp only
          omega
  · have hqe : q = d.fNext.length := by
      have := of_decide_eq_false hb
      omega
    subst hqe
    have hR := hH.round
    have hle := hH.size
    refine ⟨fun he => ?_, fun he => ⟨hI.next hd hL hR hle, ?_⟩⟩
    · have he : (m2.length : Int) = x4 := by simpa using he
      exact ⟨hR.len, fun x hx => by have := hR.range x hx; omega, hI.ends hd hL hR hle he⟩
    · have he : (m2.length : Int) ≠ x4 := by simpa using he
      have := hI.le hd hL hR
      simp only
      omega
theorem classes_ct (d : ApiDet) (h : ClsOk d) : Ct 115 [.sv (.agg [I d.fLetters, I d.fStart, LS (lsT intT) d.fNext, LS intT d.fMark])] [] (IsClass d) (fun r => .sv (.one (LS intT r))) := classes_walk d _ (classes_plain d h)
end Go.Proofs.Ytiinkohfldopbaa

/- Contracts of det.Explore and det.Smallest. No condition. -/
namespace Go.Proofs.Ytiinkohfldopbaa
open Go.RowKit Go.MapKept
set_option linter.unusedSimpArgs false
set_option linter.unusedVariables false
set_option maxRecDepth 100000

/-- exploring may go on -/
def ExplPre {K : Type} (letters : Int) (start : K) (domgo : (K × Int) → Prop) (go : (K × Int) → K) (dommark : K → Prop) (limit : Int) : Prop :=
  (0 ≤ letters ∧ letters ≤ 1000) ∧ (1 ≤ limit ∧ limit ≤ 2097152) ∧ ∃ P : K → Prop, P start ∧ (∀ k (a : Nat), P k → (a : Int) < letters → domgo (k, (a : Int)) ∧ P (go (k, (a : Int)))) ∧ ∀ k, P k → dommark k
theorem exploreTwoTable_ct (letters : Int) (start : TwoTable) (domgo : ((TwoTable × Int) → Prop)) (go : ((TwoTable × Int) → TwoTable)) (dommark : (TwoTable → Prop)) (mark : (TwoTable → Int)) (limit : Int) (hp : ExplPre letters start domgo go dommark limit) : Ct 70 [.sv (.one (I letters)), .sv (.agg [I start.fE0, I start.fE1, I start.fE2, I start.fE3, I start.fE4]), .sv (.one (.rd (fvR (fun (x : (TwoTable × Int)) => [.sv (.agg [I x.1.fE0, I x.1.fE1, I x.1.fE2, I x.1.fE3, I x.1.fE4]), .sv (.one (I x.2))]) (fun (r : TwoTable) => .sv (.agg [I r.fE0, I r.fE1, I r.fE2, I r.fE3, I r.fE4])) domgo go))), .sv (.one (.rd (fvR (fun (x : TwoTable) => [.sv (.agg [I x.fE0, I x.fE1, I x.fE2, I x.fE3, I x.fE4])]) (fun (r : Int) => .sv (.one (I r))) dommark mark))), .sv (.one (I limit))] [] (fun (_ : Unit) => True) (fun _ => .tup [.agg [I (explR (fun k (a : Nat) => go (k, (a : Int))) mark letters.toNat start limit).1.fLetters, I (explR (fun k (a : Nat) => go (k, (a : Int))) mark letters.toNat start limit).1.fStart, LS (lsT intT) (explR (fun k (a : Nat) => go (k, (a : Int))) mark letters.toNat start limit).1.fNext, LS intT (explR (fun k (a : Nat) => go (k, (a : Int))) mark letters.toNat start limit).1.fMark], .one (B (explR (fun k (a : Nat) => go (k, (a : Int))) mark letters.toNat start limit).2)]) := by
  refine (exploreTwoTable_walk letters start domgo go dommark mark limit (fun res_ => res_ = (explR (fun k (a : Nat) => go (k, (a : Int))) mark letters.toNat start limit)) ?_).fun
  obtain ⟨h1, h2, P, h3, h4, h5⟩ := hp
  exact explore_plain letters start domgo go dommark mark limit 40 (fun r => r = explR (fun k (a : Nat) => go (k, (a : Int))) mark letters.toNat start limit) P h3 h4 h5 h1 h2 (by decide) rfl
theorem exploreInt_ct (letters : Int) (start : Int) (domgo : ((Int × Int) → Prop)) (go : ((Int × Int) → Int)) (dommark : (Int → Prop)) (mark : (Int → Int)) (limit : Int) (hp : ExplPre letters start domgo go dommark limit) : Ct 94 [.sv (.one (I letters)), .sv (.one (I start)), .sv (.one (.rd (fvR (fun (x : (Int × Int)) => [.sv (.one (I x.1)), .sv (.one (I x.2))]) (fun (r : Int) => .sv (.one (I r))) domgo go))), .sv (.one (.rd (fvR (fun (x : Int) => [.sv (.one (I x))]) (fun (r : Int) => .sv (.one (I r))) dommark mark))), .sv (.one (I limit))] [] (fun (_ : Unit) => True) (fun _ => .tup [.agg [I (explR (fun k (a : Nat) => go (k, (a : Int))) mark letters.toNat start limit).1.fLetters, I (explR (fun k (a : Nat) => go (k, (a : Int))) mark letters.toNat start limit).1.fStart, LS (lsT intT) (explR (fun k (a : Nat) => go (k, (a : Int))) mark letters.toNat start limit).1.fNext, LS intT (explR (fun k (a : Nat) => go (k, (a : Int))) mark letters.toNat start limit).1.fMark], .one (B (explR (fun k (a : Nat) => go (k, (a : Int))) mark letters.toNat start limit).2)]) := by
  refine (exploreInt_walk letters start domgo go dommark mark limit (fun res_ => res_ = (explR (fun k (a : Nat) => go (k, (a : Int))) mark letters.toNat start limit)) ?_).fun
  obtain ⟨h1, h2, P, h3, h4, h5⟩ := hp
  exact explore_plain letters start domgo go dommark mark limit 8 (fun r => r = explR (fun k (a : Nat) => go (k, (a : Int))) mark letters.toNat start limit) P h3 h4 h5 h1 h2 (by decide) rfl
def smGo_vc (k : Int) (a : Int) (cls : (List Int)) (d : ApiDet) (back : (List Int)) (Q : Int → Prop) : Prop :=
  ∃ e, idx back k = some e ∧
  ∃ e_2, idx d.fNext e = some e_2 ∧
  ∃ e_3, idx e_2 a = some e_3 ∧
  ∃ e_4, idx cls e_3 = some e_4 ∧
  Q e_4
theorem smGo_walk (k : Int) (a : Int) (cls : (List Int)) (d : ApiDet) (back : (List Int)) (Q : Int → Prop) (h : smGo_vc k a cls d back Q) : Ct 116 [.sv (.one (I k)), .sv (.one (I a)), .sv (.one (.ptr 0 0)), .sv (.one (.ptr 1 0)), .sv (.one (.ptr 2 0))] [.box [LS intT cls] 23 true, .box [I d.fLetters, I d.fStart, LS (lsT intT) d.fNext, LS intT d.fMark] 25 true, .box [LS intT back] 23 true] Q (fun (r : Int) => .sv (.one (I r))) := by
  have ht := tab_ok
  refine Ct.body Try.func116 rfl rfl rfl rfl (fun c hn => ?_)
  unfold smGo_vc at h
  refine En.seq ?_
  refine En.region ?_
  refine WL.run ht hn 1 ⟨[(0, .sv (.one (I k))), (1, .sv (.one (I a))), (2, .sv (.one (.ptr 0 0))), (3, .sv (.one (.ptr 1 0))), (4, .sv (.one (.ptr 2 0)))], [.box [LS intT cls] 23 true, .box [I d.fLetters, I d.fStart, LS (lsT intT) d.fNext, LS intT d.fMark] 25 true, .box [LS intT back] 23 true]⟩ (by kernel_rfl) ?_
  refine WL.nil ?_
  refine En.seq ?_
  refine En.regionS (by kernel_rfl) (by kernel_rfl) ?_
  refine SL.run ht hn 5 ⟨[(0, .sv (.one (I k))), (1, .sv (.one (I a))), (2, .sv (.one (.ptr 0 0))), (3, .sv (.one (.ptr 1 0))), (4, .sv (.one (.ptr 2 0))), (8, .sv (.one (LS intT cls))), (9, .sv (.one (.ptr 1 2))), (10, .sv (.one (LS (lsT intT) d.fNext))), (11, .sv (.one (LS intT back))), (12, .sv (.one (I k)))], [.box [LS intT cls] 23 true, .box [I d.fLetters, I d.fStart, LS (lsT intT) d.fNext, LS intT d.fMark] 25 true, .box [LS intT back] 23 true]⟩ (by kernel_rfl) ?_
  obtain ⟨e, he, h⟩ := h
  refine SL.val hn (by rfl) (val_index (T := intT) (l := back) (i := k) ht rfl (by rfl) (by rfl) (by rfl) (by rfl) (by rfl) (by rfl) he) (by rfl) ?_
  refine SL.val hn (by rfl) (val_load (s := .one (I e)) ht rfl (by rfl) (by rfl) (by rfl) (by rfl) (by rfl)) (by rfl) ?_
  obtain ⟨e_2, he_2, h⟩ := h
  refine SL.val hn (by rfl) (val_index (T := (lsT intT)) (l := d.fNext) (i := e) ht rfl (by rfl) (by rfl) (by rfl) (by rfl) (by rfl) (by rfl) he_2) (by rfl) ?_
  refine SL.val hn (by rfl) (val_load (s := .one (LS intT e_2)) ht rfl (by rfl) (by rfl) (by rfl) (by rfl) (by rfl)) (by rfl) ?_
  refine SL.run ht hn 1 ⟨[(0, .sv (.one (I k))), (1, .sv (.one (I a))), (2, .sv (.one (.ptr 0 0))), (3, .sv (.one (.ptr 1 0))), (4, .sv (.one (.ptr 2 0))), (8, .sv (.one (LS intT cls))), (9, .sv (.one (.ptr 1 2))), (10, .sv (.one (LS (lsT intT) d.fNext))), (11, .sv (.one (LS intT back))), (12, .sv (.one (I k))), (13, .sv (.one (.pe (svR (.one (I e))) 1))), (14, .sv (.one (I e))), (15, .sv (.one (.pe (svR (.one (LS intT e_2))) 1))), (16, .sv (.one (LS intT e_2))), (17, .sv (.one (I a)))], [.box [LS intT cls] 23 true, .box [I d.fLetters, I d.fStart, LS (lsT intT) d.fNext, LS intT d.fMark] 25 true, .box [LS intT back] 23 true]⟩ (by kernel_rfl) ?_
  obtain ⟨e_3, he_3, h⟩ := h
  refine SL.val hn (by rfl) (val_index (T := intT) (l := e_2) (i := a) ht rfl (by rfl) (by rfl) (by rfl) (by rfl) (by rfl) (by rfl) he_3) (by rfl) ?_
  refine SL.val hn (by rfl) (val_load (s := .one (I e_3)) ht rfl (by rfl) (by rfl) (by rfl) (by rfl) (by rfl)) (by rfl) ?_
  obtain ⟨e_4, he_4, h⟩ := h
  refine SL.val hn (by rfl) (val_index (T := intT) (l := cls) (i := e_3) ht rfl (by rfl) (by rfl) (by rfl) (by rfl) (by rfl) (by rfl) he_4) (by rfl) ?_
  refine SL.val hn (by rfl) (val_load (s := .one (I e_4)) ht rfl (by rfl) (by rfl) (by rfl) (by rfl) (by rfl)) (by rfl) ?_
  refine SL.run ht hn 1 ⟨[(0, .sv (.one (I k))), (1, .sv (.one (I a))), (2, .sv (.one (.ptr 0 0))), (3, .sv (.one (.ptr 1 0))), (4, .sv (.one (.ptr 2 0))), (7, .sv (.one (I e_4))), (8, .sv (.one (LS intT cls))), (9, .sv (.one (.ptr 1 2))), (10, .sv (.one (LS (lsT intT) d.fNext))), (11, .sv (.one (LS intT back))), (12, .sv (.one (I k))), (13, .sv (.one (.pe (svR (.one (I e))) 1))), (14, .sv (.one (I e))), (15, .sv (.one (.pe (svR (.one (LS intT e_2))) 1))), (16, .sv (.one (LS intT e_2))), (17, .sv (.one (I a))), (18, .sv (.one (.pe (svR (.one (I e_3))) 1))), (19, .sv (.one (I e_3))), (20, .sv (.one (.pe (svR (.one (I e_4))) 1))), (21, .sv (.one (I e_4)))], [.box [LS intT cls] 23 true, .box [I d.fLetters, I d.fStart, LS (lsT intT) d.fNext, LS intT d.fMark] 25 true, .box [LS intT back] 23 true]⟩ (by kernel_rfl) ?_
  refine SL.nil ⟨by kernel_rfl, ?_⟩
  refine En.ret ?_
  exact En.back ht e_4 h (by kernel_rfl) rfl
theorem en116 : ∀ args w, (callFunc 116 args).run Try.prog w = .ok (.enter 116 args) w := enters_of Try.func116 (by kernel_rfl) rfl
def smMark_vc (k : Int) (d : ApiDet) (back : (List Int)) (Q : Int → Prop) : Prop :=
  ∃ e, idx back k = some e ∧
  ∃ e_2, idx d.fMark e = some e_2 ∧
  Q e_2
theorem smMark_walk (k : Int) (d : ApiDet) (back : (List Int)) (Q : Int → Prop) (h : smMark_vc k d back Q) : Ct 117 [.sv (.one (I k)), .sv (.one (.ptr 0 0)), .sv (.one (.ptr 1 0))] [.box [I d.fLetters, I d.fStart, LS (lsT intT) d.fNext, LS intT d.fMark] 25 true, .box [LS intT back] 23 true] Q (fun (r : Int) => .sv (.one (I r))) := by
  have ht := tab_ok
  refine Ct.body Try.func117 rfl rfl rfl rfl (fun c hn => ?_)
  unfold smMark_vc at h
  refine En.seq ?_
  refine En.region ?_
  refine WL.run ht hn 1 ⟨[(0, .sv (.one (I k))), (1, .sv (.one (.ptr 0 0))), (2, .sv (.one (.ptr 1 0)))], [.box [I d.fLetters, I d.fStart, LS (lsT intT) d.fNext, LS intT d.fMark] 25 true, .box [LS intT back] 23 true]⟩ (by kernel_rfl) ?_
  refine WL.nil ?_
  refine En.seq ?_
  refine En.regionS (by kernel_rfl) (by kernel_rfl) ?_
  refine SL.run ht hn 4 ⟨[(0, .sv (.one (I k))), (1, .sv (.one (.ptr 0 0))), (2, .sv (.one (.ptr 1 0))), (5, .sv (.one (.ptr 0 3))), (6, .sv (.one (LS intT d.fMark))), (7, .sv (.one (LS intT back))), (8, .sv (.one (I k)))], [.box [I d.fLetters, I d.fStart, LS (lsT intT) d.fNext, LS intT d.fMark] 25 true, .box [LS intT back] 23 true]⟩ (by kernel_rfl) ?_
  obtain ⟨e, he, h⟩ := h
  refine SL.val hn (by rfl) (val_index (T := intT) (l := back) (i := k) ht rfl (by rfl) (by rfl) (by rfl) (by rfl) (by rfl) (by rfl) he) (by rfl) ?_
  refine SL.val hn (by rfl) (val_load (s := .one (I e)) ht rfl (by rfl) (by rfl) (by rfl) (by rfl) (by rfl)) (by rfl) ?_
  obtain ⟨e_2, he_2, h⟩ := h
  refine SL.val hn (by rfl) (val_index (T := intT) (l := d.fMark) (i := e) ht rfl (by rfl) (by rfl) (by rfl) (by rfl) (by rfl) (by rfl) he_2) (by rfl) ?_
  refine SL.val hn (by rfl) (val_load (s := .one (I e_2)) ht rfl (by rfl) (by rfl) (by rfl) (by rfl) (by rfl)) (by rfl) ?_
  refine SL.run ht hn 1 ⟨[(0, .sv (.one (I k))), (1, .sv (.one (.ptr 0 0))), (2, .sv (.one (.ptr 1 0))), (4, .sv (.one (I e_2))), (5, .sv (.one (.ptr 0 3))), (6, .sv (.one (LS intT d.fMark))), (7, .sv (.one (LS intT back))), (8, .sv (.one (I k))), (9, .sv (.one (.pe (svR (.one (I e))) 1))), (10, .sv (.one (I e))), (11, .sv (.one (.pe (svR (.one (I e_2))) 1))), (12, .sv (.one (I e_2)))], [.box [I d.fLetters, I d.fStart, LS (lsT intT) d.fNext, LS intT d.fMark] 25 true, .box [LS intT back] 23 true]⟩ (by kernel_rfl) ?_
  refine SL.nil ⟨by kernel_rfl, ?_⟩
  refine En.ret ?_
  exact En.back ht e_2 h (by kernel_rfl) rfl
theorem en117 : ∀ args w, (callFunc 117 args).run Try.prog w = .ok (.enter 117 args) w := enters_of Try.func117 (by kernel_rfl) rfl
def smGo (cls : List Int) (d : ApiDet) (back : List Int) (c a : Int) : Int := cls.getD ((d.fNext.getD (back.getD c.toNat 0).toNat []).getD a.toNat 0).toNat 0
def smDom (cls : List Int) (d : ApiDet) (back : List Int) (c a : Int) : Prop := (0 ≤ c ∧ c < (back.length : Int)) ∧ (0 ≤ back.getD c.toNat 0 ∧ back.getD c.toNat 0 < (d.fNext.length : Int)) ∧ (0 ≤ a ∧ a < ((d.fNext.getD (back.getD c.toNat 0).toNat []).length : Int)) ∧ 0 ≤ (d.fNext.getD (back.getD c.toNat 0).toNat []).getD a.toNat 0 ∧ (d.fNext.getD (back.getD c.toNat 0).toNat []).getD a.toNat 0 < (cls.length : Int)
def smMark (d : ApiDet) (back : List Int) (c : Int) : Int := d.fMark.getD (back.getD c.toNat 0).toNat 0
def smMarkDom (d : ApiDet) (back : List Int) (c : Int) : Prop := (0 ≤ c ∧ c < (back.length : Int)) ∧ 0 ≤ back.getD c.toNat 0 ∧ back.getD c.toNat 0 < (d.fMark.length : Int)
theorem idx_getD {α : Type} {l : List α} {i : Int} (z : α) (h0 : 0 ≤ i) (h1 : i < (l.length : Int)) : idx l i = some (l.getD i.toNat z) := by
  unfold idx
  rw [if_pos h0]
  exact getD_some (by omega)
theorem smGo_ct (k : Int) (a : Int) (cls : (List Int)) (d : ApiDet) (back : (List Int)) (hd : smDom cls d back k a) : Ct 116 [.sv (.one (I k)), .sv (.one (I a)), .sv (.one (.ptr 0 0)), .sv (.one (.ptr 1 0)), .sv (.one (.ptr 2 0))] [.box [LS intT cls] 23 true, .box [I d.fLetters, I d.fStart, LS (lsT intT) d.fNext, LS intT d.fMark] 25 true, .box [LS intT back] 23 true] (fun (_ : Unit) => True) (fun _ => .sv (.one (I (smGo cls d back k a)))) := by
  refine (smGo_walk k a cls d back (fun res_ => res_ = (smGo cls d back k a)) ?_).fun
  obtain ⟨⟨h1, h2⟩, ⟨h3, h4⟩, ⟨h5, h6⟩, h7, h8⟩ := hd
  exact ⟨_, idx_getD 0 h1 h2, _, idx_getD [] h3 h4, _, idx_getD 0 h5 h6, _, idx_getD 0 h7 h8, rfl⟩
theorem smMark_ct (k : Int) (d : ApiDet) (back : (List Int)) (hd : smMarkDom d back k) : Ct 117 [.sv (.one (I k)), .sv (.one (.ptr 0 0)), .sv (.one (.ptr 1 0))] [.box [I d.fLetters, I d.fStart, LS (lsT intT) d.fNext, LS intT d.fMark] 25 true, .box [LS intT back] 23 true] (fun (_ : Unit) => True) (fun _ => .sv (.one (I (smMark d back k)))) := by
  refine (smMark_walk k d back (fun res_ => res_ = (smMark d back k)) ?_).fun
  obtain ⟨⟨h1, h2⟩, h3, h4⟩ := hd
  exact ⟨_, idx_getD 0 h1 h2, _, idx_getD 0 h3 h4, rfl⟩
def smallest_vc (d : ApiDet) (Q : ApiDet → Prop) : Prop :=
  d.fNext.length ≤ 9223372036854775807 →
  d.fMark.length ≤ 9223372036854775807 →
  ((ClsOk d) ∧
  ∀ r : (List Int), (IsClass d) r →
  (makeOk (r.length : Int) (r.length : Int) 8 ∧
  ∃ (Inv : Int → (List Int) → Prop) (mu : Int → (List Int) → Nat), Inv 0 (List.replicate ((r.length : Int)).toNat (0 : Int)) ∧
  ∀ (x16 : Int) (l3 : (List Int)) , Inv x16 l3 → (IfP (decide (x16 < (r.length : Int))) (∃ e, idx r x16 = some e ∧
  ∃ e_2, idx l3 e = some e_2 ∧
  (Inv (wr (x16 + 1)) (l3.set (e).toNat x16) ∧ mu (wr (x16 + 1)) (l3.set (e).toNat x16) < mu x16 l3)) (∃ e_3, idx r d.fStart = some e_3 ∧
  (ExplPre d.fLetters e_3 (fun (x : Int × Int) => smDom r d l3 x.1 x.2) (fun (x : Int × Int) => smGo r d l3 x.1 x.2) (smMarkDom d l3) (wr ((r.length : Int) + 1))) ∧
  Q (explR (fun k (a : Nat) => (fun (x : Int × Int) => smGo r d l3 x.1 x.2) (k, (a : Int))) (smMark d l3) (d.fLetters).toNat e_3 (wr ((r.length : Int) + 1))).1))))
theorem smallest_walk (d : ApiDet) (Q : ApiDet → Prop) (h : smallest_vc d Q) : Ct 45 [.sv (.agg [I d.fLetters, I d.fStart, LS (lsT intT) d.fNext, LS intT d.fMark])] [] Q (fun (r : ApiDet) => .sv (.agg [I r.fLetters, I r.fStart, LS (lsT intT) r.fNext, LS intT r.fMark])) := by
  have ht := tab_ok
  refine Ct.body Try.func45 rfl rfl rfl rfl (fun c hn => ?_)
  unfold smallest_vc at h
  refine En.lenA 0 2 (by rfl) (by rfl) (fun hl => ?_)
  replace h := h hl
  clear hl
  refine En.lenA 0 3 (by rfl) (by rfl) (fun hl => ?_)
  replace h := h hl
  clear hl
  refine En.seq ?_
  refine En.region ?_
  refine WL.run ht hn 2 ⟨[(1, .sv (.one (.ptr 0 0))), (2, .sv (.one (.ptr 1 0)))], [.box [I d.fLetters, I d.fStart, LS (lsT intT) d.fNext, LS intT d.fMark] 25 false, .box [I 0, I 0, .v (.slice none 0 0), .v (.slice none 0 0)] 25 false]⟩ (by kernel_rfl) ?_
  refine WL.nil ?_
  refine En.seq ?_
  refine En.region ?_
  refine WL.run ht hn 1 ⟨[(1, .sv (.one (.ptr 0 0))), (2, .sv (.one (.ptr 1 0))), (9, .sv (.agg [I d.fLetters, I d.fStart, LS (lsT intT) d.fNext, LS intT d.fMark]))], [.box [I d.fLetters, I d.fStart, LS (lsT intT) d.fNext, LS intT d.fMark] 25 false, .box [I 0, I 0, .v (.slice none 0 0), .v (.slice none 0 0)] 25 false]⟩ (by kernel_rfl) ?_
  have hp := h.1
  replace h := h.2
  refine WL.mtQ (Q := IsClass d) (x := fun (r : (List Int)) => .sv (.one (LS intT r))) (p := fun _ => none) hn (by rfl) (mtq_call (classes_ct d hp) en115 (caps := []) [] rfl (by rfl) (by kernel_rfl) (by kernel_rfl) (by rfl) (fun _ => rfl) (by rfl)) (fun r hr_2 => ⟨by rfl, _, by rfl, ?_⟩)
  replace h := h r hr_2
  refine WL.run ht hn 2 ⟨[(1, .sv (.one (.ptr 0 0))), (2, .sv (.one (.ptr 1 0))), (3, .sv (.one (.ptr 2 0)))], [.box [I d.fLetters, I d.fStart, LS (lsT intT) d.fNext, LS intT d.fMark] 25 false, .box [I 0, I 0, .v (.slice none 0 0), .v (.slice none 0 0)] 25 false, .box [LS intT r] 23 false]⟩ (by kernel_rfl) ?_
  refine WL.nil ?_
  refine En.seq ?_
  refine En.region ?_
  refine WL.run ht hn 2 ⟨[(1, .sv (.one (.ptr 0 0))), (2, .sv (.one (.ptr 1 0))), (3, .sv (.one (.ptr 2 0))), (12, .sv (.one (I (r.length : Int))))], [.box [I d.fLetters, I d.fStart, LS (lsT intT) d.fNext, LS intT d.fMark] 25 false, .box [I 0, I 0, .v (.slice none 0 0), .v (.slice none 0 0)] 25 false, .box [LS intT r] 23 false]⟩ (by kernel_rfl) ?_
  have hp := h.1
  replace h := h.2
  refine WL.mt0 (K := []) (p := some (3, rowI 3 intT (List.replicate ((r.length : Int)).toNat (0 : Int)))) hn (by rfl) (mt_make (T := intT) (0 : Int) (zv := (.int .i64 0)) 3 (l := (r.length : Int)) (cp := (r.length : Int)) ht rfl (by rfl) (by rfl) (by rfl) (by rfl) (by decide) (by rfl) (by rfl) hp.1 hp.2.1 hp.2.2 (hp.le (by decide)) rfl (fun _ => ⟨rfl, trivial⟩)) (by rfl) (by rfl) (by rfl) ?_
  refine WL.run ht hn 2 ⟨[(1, .sv (.one (.ptr 0 0))), (2, .sv (.one (.ptr 1 0))), (3, .sv (.one (.ptr 2 0))), (4, .sv (.one (.ptr 4 0)))], [.box [I d.fLetters, I d.fStart, LS (lsT intT) d.fNext, LS intT d.fMark] 25 false, .box [I 0, I 0, .v (.slice none 0 0), .v (.slice none 0 0)] 25 false, .box [LS intT r] 23 false, rowI 3 intT (List.replicate ((r.length : Int)).toNat (0 : Int)), .box [.own 3] 23 false]⟩ (by kernel_rfl) ?_
  refine WL.nil ?_
  refine En.seq ?_
  refine En.seq ?_
  refine En.region ?_
  refine WL.run ht hn 3 ⟨[(1, .sv (.one (.ptr 0 0))), (2, .sv (.one (.ptr 1 0))), (3, .sv (.one (.ptr 2 0))), (4, .sv (.one (.ptr 4 0))), (14, .sv (.one (LS intT r))), (15, .sv (.one (I (r.length : Int)))), (16, .sv (.one (I 0)))], [.box [I d.fLetters, I d.fStart, LS (lsT intT) d.fNext, LS intT d.fMark] 25 false, .box [I 0, I 0, .v (.slice none 0 0), .v (.slice none 0 0)] 25 false, .box [LS intT r] 23 false, rowI 3 intT (List.replicate ((r.length : Int)).toNat (0 : Int)), .box [.own 3] 23 false]⟩ (by kernel_rfl) ?_
  refine WL.nil ?_
  refine En.block ?_
  obtain ⟨Inv, mu, h0, hI⟩ := h
  refine En.loop (σ := Int × (List Int)) (fun zz => Inv zz.1 zz.2) (fun zz => mu zz.1 zz.2) (fun zz => ⟨[(1, .sv (.one (.ptr 0 0))), (2, .sv (.one (.ptr 1 0))), (3, .sv (.one (.ptr 2 0))), (4, .sv (.one (.ptr 4 0))), (14, .sv (.one (LS intT r))), (15, .sv (.one (I (r.length : Int)))), (16, .sv (.one (I zz.1)))], [.box [I d.fLetters, I d.fStart, LS (lsT intT) d.fNext, LS intT d.fMark] 25 false, .box [I 0, I 0, .v (.slice none 0 0), .v (.slice none 0 0)] 25 false, .box [LS intT r] 23 false, rowI 3 intT zz.2, .box [.own 3] 23 false]⟩) (0, (List.replicate ((r.length : Int)).toNat (0 : Int))) h0 (sub_ok (by kernel_rfl)) ?_
  rintro ⟨x16, l3⟩ h
  replace h := hI _ _ h
  show En c ⟨[(1, .sv (.one (.ptr 0 0))), (2, .sv (.one (.ptr 1 0))), (3, .sv (.one (.ptr 2 0))), (4, .sv (.one (.ptr 4 0))), (14, .sv (.one (LS intT r))), (15, .sv (.one (I (r.length : Int)))), (16, .sv (.one (I x16)))], [.box [I d.fLetters, I d.fStart, LS (lsT intT) d.fNext, LS intT d.fMark] 25 false, .box [I 0, I 0, .v (.slice none 0 0), .v (.slice none 0 0)] 25 false, .box [LS intT r] 23 false, rowI 3 intT l3, .box [.own 3] 23 false]⟩ _
  refine En.seq ?_
  refine En.region ?_
  refine WL.run ht hn 1 ⟨[(1, .sv (.one (.ptr 0 0))), (2, .sv (.one (.ptr 1 0))), (3, .sv (.one (.ptr 2 0))), (4, .sv (.one (.ptr 4 0))), (14, .sv (.one (LS intT r))), (15, .sv (.one (I (r.length : Int)))), (16, .sv (.one (I x16))), (17, .sv (.one (B (decide (x16 < (r.length : Int))))))], [.box [I d.fLetters, I d.fStart, LS (lsT intT) d.fNext, LS intT d.fMark] 25 false, .box [I 0, I 0, .v (.slice none 0 0), .v (.slice none 0 0)] 25 false, .box [LS intT r] 23 false, rowI 3 intT l3, .box [.own 3] 23 false]⟩ (by kernel_rfl) ?_
  refine WL.nil ?_
  refine En.seq ?_
  refine En.cond (b := (decide (x16 < (r.length : Int)))) (by kernel_rfl) (fun hb => ?_) (fun hb => ?_)
  · replace h := h.1 hb
    refine En.skip ?_
    refine En.seq ?_
    refine En.block ?_
    refine En.seq ?_
    refine En.region ?_
    refine WL.run ht hn 1 ⟨[(1, .sv (.one (.ptr 0 0))), (2, .sv (.one (.ptr 1 0))), (3, .sv (.one (.ptr 2 0))), (4, .sv (.one (.ptr 4 0))), (14, .sv (.one (LS intT r))), (15, .sv (.one (I (r.length : Int)))), (16, .sv (.one (I x16))), (18, .sv (.one (I x16)))], [.box [I d.fLetters, I d.fStart, LS (lsT intT) d.fNext, LS intT d.fMark] 25 false, .box [I 0, I 0, .v (.slice none 0 0), .v (.slice none 0 0)] 25 false, .box [LS intT r] 23 false, rowI 3 intT l3, .box [.own 3] 23 false]⟩ (by kernel_rfl) ?_
    obtain ⟨e, he, h⟩ := h
    refine WL.val hn (by rfl) (val_index (T := intT) (l := r) (i := x16) ht rfl (by rfl) (by rfl) (by rfl) (by rfl) (by rfl) (by rfl) he) (by rfl) ?_
    refine WL.val hn (by rfl) (val_load (s := .one (I e)) ht rfl (by rfl) (by rfl) (by rfl) (by rfl) (by rfl)) (by rfl) ?_
    refine WL.run ht hn 2 ⟨[(1, .sv (.one (.ptr 0 0))), (2, .sv (.one (.ptr 1 0))), (3, .sv (.one (.ptr 2 0))), (4, .sv (.one (.ptr 4 0))), (5, .sv (.one (I x16))), (6, .sv (.one (I e))), (14, .sv (.one (LS intT r))), (15, .sv (.one (I (r.length : Int)))), (16, .sv (.one (I x16)))], [.box [I d.fLetters, I d.fStart, LS (lsT intT) d.fNext, LS intT d.fMark] 25 false, .box [I 0, I 0, .v (.slice none 0 0), .v (.slice none 0 0)] 25 false, .box [LS intT r] 23 false, rowI 3 intT l3, .box [.own 3] 23 false]⟩ (by kernel_rfl) ?_
    refine WL.nil ?_
    refine En.region ?_
    refine WL.run ht hn 3 ⟨[(1, .sv (.one (.ptr 0 0))), (2, .sv (.one (.ptr 1 0))), (3, .sv (.one (.ptr 2 0))), (4, .sv (.one (.ptr 4 0))), (14, .sv (.one (LS intT r))), (15, .sv (.one (I (r.length : Int)))), (16, .sv (.one (I x16))), (21, .sv (.one (.own 3))), (22, .sv (.one (I e))), (23, .sv (.one (I x16)))], [.box [I d.fLetters, I d.fStart, LS (lsT intT) d.fNext, LS intT d.fMark] 25 false, .box [I 0, I 0, .v (.slice none 0 0), .v (.slice none 0 0)] 25 false, .box [LS intT r] 23 false, rowI 3 intT l3, .box [.own 3] 23 false]⟩ (by kernel_rfl) ?_
    obtain ⟨e_2, he_2, h⟩ := h
    refine WL.val hn (by rfl) (val_indexO (T := intT) (l := l3) (k := e) ht rfl (by rfl) (by rfl) (by rfl) (by rfl) (by decide) (by rfl) (by rfl) (by rfl) he_2) (by rfl) ?_
    refine WL.storeO (T := intT) (l := l3) (y := x16) ht hn (by rfl) rfl (by rfl) (by rfl) (fun _ h => by cases h) (by rfl) (by rfl) (idx_lt he_2) (by rfl) (by rfl) (by rfl) (by rfl) ?_
    refine WL.nil ?_
    refine En.region ?_
    refine WL.run ht hn 2 ⟨[(1, .sv (.one (.ptr 0 0))), (2, .sv (.one (.ptr 1 0))), (3, .sv (.one (.ptr 2 0))), (4, .sv (.one (.ptr 4 0))), (14, .sv (.one (LS intT r))), (15, .sv (.one (I (r.length : Int)))), (16, .sv (.one (I (wr (x16 + 1)))))], [.box [I d.fLetters, I d.fStart, LS (lsT intT) d.fNext, LS intT d.fMark] 25 false, .box [I 0, I 0, .v (.slice none 0 0), .v (.slice none 0 0)] 25 false, .box [LS intT r] 23 false, rowI 3 intT (l3.set (e).toNat x16), .box [.own 3] 23 false]⟩ (by kernel_rfl) ?_
    refine WL.nil ?_
    exact En.at (I := fun zz => Inv zz.1 zz.2 ∧ mu zz.1 zz.2 < mu x16 l3) (T := fun zz => ⟨[(1, .sv (.one (.ptr 0 0))), (2, .sv (.one (.ptr 1 0))), (3, .sv (.one (.ptr 2 0))), (4, .sv (.one (.ptr 4 0))), (14, .sv (.one (LS intT r))), (15, .sv (.one (I (r.length : Int)))), (16, .sv (.one (I zz.1)))], [.box [I d.fLetters, I d.fStart, LS (lsT intT) d.fNext, LS intT d.fMark] 25 false, .box [I 0, I 0, .v (.slice none 0 0), .v (.slice none 0 0)] 25 false, .box [LS intT r] 23 false, rowI 3 intT zz.2, .box [.own 3] 23 false]⟩) ((wr (x16 + 1)), (l3.set (e).toNat x16)) h (by kernel_rfl)
  · replace h := h.2 hb
    refine En.exit rfl ?_
    refine En.seq ?_
    refine En.seal (T := intT) (l := l3) (e := 3) 3 rfl ?_
    refine En.freeze [2, 0, 4] (by rfl) ?_
    obtain ⟨e_3, he_3, h⟩ := h
    have hp_2 := h.1
    replace h := h.2
    refine En.regionA ⟨[(1, .sv (.one (.ptr 0 0))), (2, .sv (.one (.ptr 1 0))), (3, .sv (.one (.ptr 2 0))), (4, .sv (.one (.ptr 4 0)))], [.sv (.one (.ptr 0 0)), .sv (.one (I d.fLetters)), .sv (.one (LS intT r)), .sv (.one (.ptr 0 1)), .sv (.one (I d.fStart)), .sv (.one (.pe (svR (.one (I e_3))) 1)), .sv (.one (I e_3)), .sv (.one (.rd (fvR (fun (x_ : (Int × Int)) => [.sv (.one (I x_.1)), .sv (.one (I x_.2))]) (fun (r : Int) => .sv (.one (I r))) (fun (x : Int × Int) => smDom r d l3 x.1 x.2) (fun (x : Int × Int) => smGo r d l3 x.1 x.2)))), .sv (.one (.rd (fvR (fun (x_ : Int) => [.sv (.one (I x_))]) (fun (r : Int) => .sv (.one (I r))) (smMarkDom d l3) (smMark d l3)))), .sv (.one (LS intT r)), .sv (.one (I (r.length : Int))), .sv (.one (I (wr ((r.length : Int) + 1)))), .tup [.agg [I (explR (fun k (a : Nat) => (fun (x : Int × Int) => smGo r d l3 x.1 x.2) (k, (a : Int))) (smMark d l3) (d.fLetters).toNat e_3 (wr ((r.length : Int) + 1))).1.fLetters, I (explR (fun k (a : Nat) => (fun (x : Int × Int) => smGo r d l3 x.1 x.2) (k, (a : Int))) (smMark d l3) (d.fLetters).toNat e_3 (wr ((r.length : Int) + 1))).1.fStart, LS (lsT intT) (explR (fun k (a : Nat) => (fun (x : Int × Int) => smGo r d l3 x.1 x.2) (k, (a : Int))) (smMark d l3) (d.fLetters).toNat e_3 (wr ((r.length : Int) + 1))).1.fNext, LS intT (explR (fun k (a : Nat) => (fun (x : Int × Int) => smGo r d l3 x.1 x.2) (k, (a : Int))) (smMark d l3) (d.fLetters).toNat e_3 (wr ((r.length : Int) + 1))).1.fMark], .one (B (explR (fun k (a : Nat) => (fun (x : Int × Int) => smGo r d l3 x.1 x.2) (k, (a : Int))) (smMark d l3) (d.fLetters).toNat e_3 (wr ((r.length : Int) + 1))).2)], .tup [.agg [I (explR (fun k (a : Nat) => (fun (x : Int × Int) => smGo r d l3 x.1 x.2) (k, (a : Int))) (smMark d l3) (d.fLetters).toNat e_3 (wr ((r.length : Int) + 1))).1.fLetters, I (explR (fun k (a : Nat) => (fun (x : Int × Int) => smGo r d l3 x.1 x.2) (k, (a : Int))) (smMark d l3) (d.fLetters).toNat e_3 (wr ((r.length : Int) + 1))).1.fStart, LS (lsT intT) (explR (fun k (a : Nat) => (fun (x : Int × Int) => smGo r d l3 x.1 x.2) (k, (a : Int))) (smMark d l3) (d.fLetters).toNat e_3 (wr ((r.length : Int) + 1))).1.fNext, LS intT (explR (fun k (a : Nat) => (fun (x : Int × Int) => smGo r d l3 x.1 x.2) (k, (a : Int))) (smMark d l3) (d.fLetters).toNat e_3 (wr ((r.length : Int) + 1))).1.fMark], .one (B (explR (fun k (a : Nat) => (fun (x : Int × Int) => smGo r d l3 x.1 x.2) (k, (a : Int))) (smMark d l3) (d.fLetters).toNat e_3 (wr ((r.length : Int) + 1))).2)], .sv (.agg [I (explR (fun k (a : Nat) => (fun (x : Int × Int) => smGo r d l3 x.1 x.2) (k, (a : Int))) (smMark d l3) (d.fLetters).toNat e_3 (wr ((r.length : Int) + 1))).1.fLetters, I (explR (fun k (a : Nat) => (fun (x : Int × Int) => smGo r d l3 x.1 x.2) (k, (a : Int))) (smMark d l3) (d.fLetters).toNat e_3 (wr ((r.length : Int) + 1))).1.fStart, LS (lsT intT) (explR (fun k (a : Nat) => (fun (x : Int × Int) => smGo r d l3 x.1 x.2) (k, (a : Int))) (smMark d l3) (d.fLetters).toNat e_3 (wr ((r.length : Int) + 1))).1.fNext, LS intT (explR (fun k (a : Nat) => (fun (x : Int × Int) => smGo r d l3 x.1 x.2) (k, (a : Int))) (smMark d l3) (d.fLetters).toNat e_3 (wr ((r.length : Int) + 1))).1.fMark]), .sv (.one (B (explR (fun k (a : Nat) => (fun (x : Int × Int) => smGo r d l3 x.1 x.2) (k, (a : Int))) (smMark d l3) (d.fLetters).toNat e_3 (wr ((r.length : Int) + 1))).2)), .sv (.one (.ptr 5 0)), .tup [], .sv (.one (B (explR (fun k (a : Nat) => (fun (x : Int × Int) => smGo r d l3 x.1 x.2) (k, (a : Int))) (smMark d l3) (d.fLetters).toNat e_3 (wr ((r.length : Int) + 1))).2))], [⟨.box [I d.fLetters, I d.fStart, LS (lsT intT) d.fNext, LS intT d.fMark] 25 true, none, none, none⟩, ⟨.box [I 0, I 0, .v (.slice none 0 0), .v (.slice none 0 0)] 25 false, none, none, none⟩, ⟨.box [LS intT r] 23 true, none, none, none⟩, ⟨.gone, none, none, none⟩, ⟨.box [LS intT l3] 23 true, none, none, none⟩, ⟨.box [I 0, I 0, .v (.slice none 0 0), .v (.slice none 0 0)] 25 false, some 16, none, some (17, .box [I (explR (fun k (a : Nat) => (fun (x : Int × Int) => smGo r d l3 x.1 x.2) (k, (a : Int))) (smMark d l3) (d.fLetters).toNat e_3 (wr ((r.length : Int) + 1))).1.fLetters, I (explR (fun k (a : Nat) => (fun (x : Int × Int) => smGo r d l3 x.1 x.2) (k, (a : Int))) (smMark d l3) (d.fLetters).toNat e_3 (wr ((r.length : Int) + 1))).1.fStart, LS (lsT intT) (explR (fun k (a : Nat) => (fun (x : Int × Int) => smGo r d l3 x.1 x.2) (k, (a : Int))) (smMark d l3) (d.fLetters).toNat e_3 (wr ((r.length : Int) + 1))).1.fNext, LS intT (explR (fun k (a : Nat) => (fun (x : Int × Int) => smGo r d l3 x.1 x.2) (k, (a : Int))) (smMark d l3) (d.fLetters).toNat e_3 (wr ((r.length : Int) + 1))).1.fMark] 25 false)⟩]⟩ ⟨[(2, .sv (.one (.ptr 1 0))), (7, .sv (.one (.ptr 5 0)))], [.gone, .box [I 0, I 0, .v (.slice none 0 0), .v (.slice none 0 0)] 25 false, .gone, .gone, .gone, .box [I (explR (fun k (a : Nat) => (fun (x : Int × Int) => smGo r d l3 x.1 x.2) (k, (a : Int))) (smMark d l3) (d.fLetters).toNat e_3 (wr ((r.length : Int) + 1))).1.fLetters, I (explR (fun k (a : Nat) => (fun (x : Int × Int) => smGo r d l3 x.1 x.2) (k, (a : Int))) (smMark d l3) (d.fLetters).toNat e_3 (wr ((r.length : Int) + 1))).1.fStart, LS (lsT intT) (explR (fun k (a : Nat) => (fun (x : Int × Int) => smGo r d l3 x.1 x.2) (k, (a : Int))) (smMark d l3) (d.fLetters).toNat e_3 (wr ((r.length : Int) + 1))).1.fNext, LS intT (explR (fun k (a : Nat) => (fun (x : Int × Int) => smGo r d l3 x.1 x.2) (k, (a : Int))) (smMark d l3) (d.fLetters).toNat e_3 (wr ((r.length : Int) + 1))).1.fMark] 25 false]⟩ (by kernel_rfl) hn (by kernel_rfl) (by rfl) (by kernel_rfl) ?_ (by kernel_rfl) ?_
    · exact ⟨.mt ⟨[(1, .sv (.one (.ptr 0 0)))], []⟩ [] none (by kernel_rfl) (by rfl) (mt_ev ht (by kernel_rfl)) rfl rfl rfl rfl,
    .mt ⟨[(27, .sv (.one (.ptr 0 0)))], [.box [I d.fLetters, I d.fStart, LS (lsT intT) d.fNext, LS intT d.fMark] 25 true]⟩ [] none (by kernel_rfl) (by rfl) (mt_ev ht (by kernel_rfl)) rfl rfl rfl rfl,
    .mt ⟨[(3, .sv (.one (.ptr 2 0)))], [.gone, .gone, .box [LS intT r] 23 true]⟩ [] none (by kernel_rfl) (by rfl) (mt_ev ht (by kernel_rfl)) rfl rfl rfl rfl,
    .mt ⟨[(1, .sv (.one (.ptr 0 0)))], []⟩ [] none (by kernel_rfl) (by rfl) (mt_ev ht (by kernel_rfl)) rfl rfl rfl rfl,
    .mt ⟨[(30, .sv (.one (.ptr 0 1)))], [.box [I d.fLetters, I d.fStart, LS (lsT intT) d.fNext, LS intT d.fMark] 25 true]⟩ [] none (by kernel_rfl) (by rfl) (mt_ev ht (by kernel_rfl)) rfl rfl rfl rfl,
    .mt ⟨[(29, .sv (.one (LS intT r))), (31, .sv (.one (I d.fStart)))], []⟩ [] none (by kernel_rfl) (by rfl) (mt_val (val_index (T := intT) (l := r) (i := d.fStart) ht rfl (by rfl) (by rfl) (by rfl) (by rfl) (by rfl) (by rfl) he_3)) rfl rfl rfl rfl,
    .mt ⟨[(32, .sv (.one (.pe (svR (.one (I e_3))) 1)))], []⟩ [] none (by kernel_rfl) (by rfl) (mt_val (val_load (s := .one (I e_3)) ht rfl (by rfl) (by rfl) (by rfl) (by rfl) (by rfl))) rfl rfl rfl rfl,
    .mt ⟨[(1, .sv (.one (.ptr 0 0))), (3, .sv (.one (.ptr 2 0))), (4, .sv (.one (.ptr 4 0)))], [.box [I d.fLetters, I d.fStart, LS (lsT intT) d.fNext, LS intT d.fMark] 25 true, .gone, .box [LS intT r] 23 true, .gone, .box [LS intT l3] 23 true]⟩ [] none (by kernel_rfl) (by rfl) (mt_fv (x := .sv (.one (.fn 116 [2, 0, 4]))) ht (by kernel_rfl) (fv_of (M := [.box [LS intT r] 23 true, .box [I d.fLetters, I d.fStart, LS (lsT intT) d.fNext, LS intT d.fMark] 25 true, .box [LS intT l3] 23 true]) (caps := [2, 0, 4]) (fun x_ hx => smGo_ct x_.1 x_.2 r d l3 hx) en116 rfl (by kernel_rfl) (by rfl) (fun _ => rfl))) rfl rfl rfl rfl,
    .mt ⟨[(1, .sv (.one (.ptr 0 0))), (4, .sv (.one (.ptr 4 0)))], [.box [I d.fLetters, I d.fStart, LS (lsT intT) d.fNext, LS intT d.fMark] 25 true, .gone, .gone, .gone, .box [LS intT l3] 23 true]⟩ [] none (by kernel_rfl) (by rfl) (mt_fv (x := .sv (.one (.fn 117 [0, 4]))) ht (by kernel_rfl) (fv_of (M := [.box [I d.fLetters, I d.fStart, LS (lsT intT) d.fNext, LS intT d.fMark] 25 true, .box [LS intT l3] 23 true]) (caps := [0, 4]) (fun x_ hx => smMark_ct x_ d l3 hx) en117 rfl (by kernel_rfl) (by rfl) (fun _ => rfl))) rfl rfl rfl rfl,
    .mt ⟨[(3, .sv (.one (.ptr 2 0)))], [.gone, .gone, .box [LS intT r] 23 true]⟩ [] none (by kernel_rfl) (by rfl) (mt_ev ht (by kernel_rfl)) rfl rfl rfl rfl,
    .mt ⟨[(36, .sv (.one (LS intT r)))], []⟩ [] none (by kernel_rfl) (by rfl) (mt_ev ht (by kernel_rfl)) rfl rfl rfl rfl,
    .mt ⟨[(37, .sv (.one (I (r.length : Int))))], []⟩ [] none (by kernel_rfl) (by rfl) (mt_ev ht (by kernel_rfl)) rfl rfl rfl rfl,
    .mt ⟨[(28, .sv (.one (I d.fLetters))), (33, .sv (.one (I e_3))), (34, .sv (.one (.rd (fvR (fun (x_ : (Int × Int)) => [.sv (.one (I x_.1)), .sv (.one (I x_.2))]) (fun (r : Int) => .sv (.one (I r))) (fun (x : Int × Int) => smDom r d l3 x.1 x.2) (fun (x : Int × Int) => smGo r d l3 x.1 x.2))))), (35, .sv (.one (.rd (fvR (fun (x_ : Int) => [.sv (.one (I x_))]) (fun (r : Int) => .sv (.one (I r))) (smMarkDom d l3) (smMark d l3))))), (38, .sv (.one (I (wr ((r.length : Int) + 1)))))], []⟩ [] none (by kernel_rfl) (by rfl) (mt_call (exploreInt_ct d.fLetters e_3 (fun (x : Int × Int) => smDom r d l3 x.1 x.2) (fun (x : Int × Int) => smGo r d l3 x.1 x.2) (smMarkDom d l3) (smMark d l3) (wr ((r.length : Int) + 1)) hp_2) en94 (caps := []) [] rfl (by rfl) (by kernel_rfl) (by kernel_rfl) (by rfl) (by rfl) (by rfl)) rfl rfl rfl rfl,
    .mt ⟨[(39, .tup [.agg [I (explR (fun k (a : Nat) => (fun (x : Int × Int) => smGo r d l3 x.1 x.2) (k, (a : Int))) (smMark d l3) (d.fLetters).toNat e_3 (wr ((r.length : Int) + 1))).1.fLetters, I (explR (fun k (a : Nat) => (fun (x : Int × Int) => smGo r d l3 x.1 x.2) (k, (a : Int))) (smMark d l3) (d.fLetters).toNat e_3 (wr ((r.length : Int) + 1))).1.fStart, LS (lsT intT) (explR (fun k (a : Nat) => (fun (x : Int × Int) => smGo r d l3 x.1 x.2) (k, (a : Int))) (smMark d l3) (d.fLetters).toNat e_3 (wr ((r.length : Int) + 1))).1.fNext, LS intT (explR (fun k (a : Nat) => (fun (x : Int × Int) => smGo r d l3 x.1 x.2) (k, (a : Int))) (smMark d l3) (d.fLetters).toNat e_3 (wr ((r.length : Int) + 1))).1.fMark], .one (B (explR (fun k (a : Nat) => (fun (x : Int × Int) => smGo r d l3 x.1 x.2) (k, (a : Int))) (smMark d l3) (d.fLetters).toNat e_3 (wr ((r.length : Int) + 1))).2)])], []⟩ [] none (by kernel_rfl) (by rfl) (mt_ev ht (by kernel_rfl)) rfl rfl rfl rfl,
    .mt ⟨[(26, .tup [.agg [I (explR (fun k (a : Nat) => (fun (x : Int × Int) => smGo r d l3 x.1 x.2) (k, (a : Int))) (smMark d l3) (d.fLetters).toNat e_3 (wr ((r.length : Int) + 1))).1.fLetters, I (explR (fun k (a : Nat) => (fun (x : Int × Int) => smGo r d l3 x.1 x.2) (k, (a : Int))) (smMark d l3) (d.fLetters).toNat e_3 (wr ((r.length : Int) + 1))).1.fStart, LS (lsT intT) (explR (fun k (a : Nat) => (fun (x : Int × Int) => smGo r d l3 x.1 x.2) (k, (a : Int))) (smMark d l3) (d.fLetters).toNat e_3 (wr ((r.length : Int) + 1))).1.fNext, LS intT (explR (fun k (a : Nat) => (fun (x : Int × Int) => smGo r d l3 x.1 x.2) (k, (a : Int))) (smMark d l3) (d.fLetters).toNat e_3 (wr ((r.length : Int) + 1))).1.fMark], .one (B (explR (fun k (a : Nat) => (fun (x : Int × Int) => smGo r d l3 x.1 x.2) (k, (a : Int))) (smMark d l3) (d.fLetters).toNat e_3 (wr ((r.length : Int) + 1))).2)])], []⟩ [] none (by kernel_rfl) (by rfl) (mt_ev ht (by kernel_rfl)) rfl rfl rfl rfl,
    .mt ⟨[(26, .tup [.agg [I (explR (fun k (a : Nat) => (fun (x : Int × Int) => smGo r d l3 x.1 x.2) (k, (a : Int))) (smMark d l3) (d.fLetters).toNat e_3 (wr ((r.length : Int) + 1))).1.fLetters, I (explR (fun k (a : Nat) => (fun (x : Int × Int) => smGo r d l3 x.1 x.2) (k, (a : Int))) (smMark d l3) (d.fLetters).toNat e_3 (wr ((r.length : Int) + 1))).1.fStart, LS (lsT intT) (explR (fun k (a : Nat) => (fun (x : Int × Int) => smGo r d l3 x.1 x.2) (k, (a : Int))) (smMark d l3) (d.fLetters).toNat e_3 (wr ((r.length : Int) + 1))).1.fNext, LS intT (explR (fun k (a : Nat) => (fun (x : Int × Int) => smGo r d l3 x.1 x.2) (k, (a : Int))) (smMark d l3) (d.fLetters).toNat e_3 (wr ((r.length : Int) + 1))).1.fMark], .one (B (explR (fun k (a : Nat) => (fun (x : Int × Int) => smGo r d l3 x.1 x.2) (k, (a : Int))) (smMark d l3) (d.fLetters).toNat e_3 (wr ((r.length : Int) + 1))).2)])], []⟩ [] none (by kernel_rfl) (by rfl) (mt_ev ht (by kernel_rfl)) rfl rfl rfl rfl,
    .mt ⟨[], []⟩ [] (some 5) (by kernel_rfl) (by rfl) (mt_alloc2 5 25 ht rfl (by rfl) (by rfl)) rfl rfl rfl rfl,
    .mu ⟨[(7, .sv (.one (.ptr 5 0))), (40, .sv (.agg [I (explR (fun k (a : Nat) => (fun (x : Int × Int) => smGo r d l3 x.1 x.2) (k, (a : Int))) (smMark d l3) (d.fLetters).toNat e_3 (wr ((r.length : Int) + 1))).1.fLetters, I (explR (fun k (a : Nat) => (fun (x : Int × Int) => smGo r d l3 x.1 x.2) (k, (a : Int))) (smMark d l3) (d.fLetters).toNat e_3 (wr ((r.length : Int) + 1))).1.fStart, LS (lsT intT) (explR (fun k (a : Nat) => (fun (x : Int × Int) => smGo r d l3 x.1 x.2) (k, (a : Int))) (smMark d l3) (d.fLetters).toNat e_3 (wr ((r.length : Int) + 1))).1.fNext, LS intT (explR (fun k (a : Nat) => (fun (x : Int × Int) => smGo r d l3 x.1 x.2) (k, (a : Int))) (smMark d l3) (d.fLetters).toNat e_3 (wr ((r.length : Int) + 1))).1.fMark]))], [.gone, .gone, .gone, .gone, .gone, .box [I 0, I 0, .v (.slice none 0 0), .v (.slice none 0 0)] 25 false]⟩ 5 _ _ rfl rfl (by kernel_rfl) (by rfl) (mu_store2 ht rfl (by rfl) (by rfl) (by rfl) (by rfl) (fun h => by cases h) (by rfl) (by rfl)) rfl rfl rfl rfl rfl rfl rfl,
    .mt ⟨[(41, .sv (.one (B (explR (fun k (a : Nat) => (fun (x : Int × Int) => smGo r d l3 x.1 x.2) (k, (a : Int))) (smMark d l3) (d.fLetters).toNat e_3 (wr ((r.length : Int) + 1))).2)))], []⟩ [] none (by kernel_rfl) (by rfl) (mt_ev ht (by kernel_rfl)) rfl rfl rfl rfl,
    trivial⟩
    · refine En.seq ?_
      refine En.region ?_
      refine WL.run ht hn 2 ⟨[(2, .sv (.one (.ptr 1 0)))], [.gone, .box [I (explR (fun k (a : Nat) => (fun (x : Int × Int) => smGo r d l3 x.1 x.2) (k, (a : Int))) (smMark d l3) (d.fLetters).toNat e_3 (wr ((r.length : Int) + 1))).1.fLetters, I (explR (fun k (a : Nat) => (fun (x : Int × Int) => smGo r d l3 x.1 x.2) (k, (a : Int))) (smMark d l3) (d.fLetters).toNat e_3 (wr ((r.length : Int) + 1))).1.fStart, LS (lsT intT) (explR (fun k (a : Nat) => (fun (x : Int × Int) => smGo r d l3 x.1 x.2) (k, (a : Int))) (smMark d l3) (d.fLetters).toNat e_3 (wr ((r.length : Int) + 1))).1.fNext, LS intT (explR (fun k (a : Nat) => (fun (x : Int × Int) => smGo r d l3 x.1 x.2) (k, (a : Int))) (smMark d l3) (d.fLetters).toNat e_3 (wr ((r.length : Int) + 1))).1.fMark] 25 false, .gone, .gone, .gone, .gone]⟩ (by kernel_rfl) ?_
      refine WL.nil ?_
      refine En.ret ?_
      exact En.back ht (explR (fun k (a : Nat) => (fun (x : Int × Int) => smGo r d l3 x.1 x.2) (k, (a : Int))) (smMark d l3) (d.fLetters).toNat e_3 (wr ((r.length : Int) + 1))).1 h (by kernel_rfl) rfl
theorem en45 : ∀ args w, (callFunc 45 args).run Try.prog w = .ok (.enter 45 args) w := enters_of Try.func45 (by kernel_rfl) rfl
end Go.Proofs.Ytiinkohfldopbaa

/- The contract of det.Smallest: it is the one automaton of its language. No condition. -/
namespace Go.Proofs.Ytiinkohfldopbaa
open Go.RowKit Go.MapKept
set_option linter.unusedSimpArgs false
set_option linter.unusedVariables false
set_option maxRecDepth 100000
set_option linter.unusedSectionVars false

/-- of each class one of its states -/
def BackOk (cls back : List Int) (n : Nat) : Prop := back.length = n ∧ ∀ q, q < n → ∃ p : Nat, p < n ∧ back.getD (cls.getD q 0).toNat 0 = (p : Int) ∧ cls.getD p 0 = cls.getD q 0
section
variable {d : ApiDet} {cls back : List Int}
theorem smGo_at (hb : BackOk cls back d.fNext.length) {q : Nat} (hq : q < d.fNext.length) : ∃ p : Nat, p < d.fNext.length ∧ cls.getD p 0 = cls.getD q 0 ∧ (∀ a : Nat, smGo cls d back (cls.getD q 0) a = cls.getD (stepD d p a) 0) ∧ smMark d back (cls.getD q 0) = d.fMark.getD p 0 := by
  obtain ⟨p, h1, h2, h3⟩ := hb.2 q hq
  refine ⟨p, h1, h3, fun a => ?_, ?_⟩
  · unfold smGo stepD
    rw [h2, Int.toNat_natCast, Int.toNat_natCast]
  · unfold smMark
    rw [h2, Int.toNat_natCast]
theorem smLang (h : ClsOk d) (hc : IsClass d cls) (hb : BackOk cls back d.fNext.length) : ∀ (w : List Nat) (q : Nat), q < d.fNext.length → (∀ a ∈ w, a < d.fLetters.toNat) → langK (fun k (a : Nat) => smGo cls d back k (a : Int)) (smMark d back) (cls.getD q 0) w = langD d q w := by
  intro w
  induction w with
  | nil =>
    intro q hq _
    obtain ⟨p, h1, h2, _, h4⟩ := smGo_at hb hq
    show smMark d back (cls.getD q 0) = d.fMark.getD q 0
    rw [h4]
    exact rs_at (w := []) ((hc.same p q h1 hq).1 h2) fun b hb => by simp at hb
  | cons a w ih =>
    intro q hq hw
    obtain ⟨p, h1, h2, h3, _⟩ := smGo_at hb hq
    show langK (fun k (a : Nat) => smGo cls d back k (a : Int)) (smMark d back) (smGo cls d back (cls.getD q 0) a) w = _
    rw [h3, ih (stepD d p a) (h.pre.step h1) fun b hb => hw b (List.mem_cons_of_mem _ hb)]
    exact rs_at (w := a :: w) ((hc.same p q h1 hq).1 h2) hw
theorem smKeys (h : ClsOk d) (hc : IsClass d cls) (hb : BackOk cls back d.fNext.length) {k : Int} (hk : k ∈ cls) (a : Nat) : smGo cls d back k a ∈ cls := by
  obtain ⟨q, hq⟩ := List.getElem?_of_mem hk
  have hlt := (List.getElem?_eq_some_iff.1 hq).1
  rw [hc.len] at hlt
  obtain ⟨p, h1, _, h3, _⟩ := smGo_at (cls := cls) hb hlt
  rw [show k = cls.getD q 0 by simp [hq], h3]
  exact getD_mem (by rw [hc.len]; exact h.pre.step h1)
theorem smCanon (h : ClsOk d) (hc : IsClass d cls) (hb : BackOk cls back d.fNext.length) {q : Nat} (hq : q < d.fNext.length) (limit : Int) (hl : (cls.length : Int) ≤ limit) :
    explR (fun k (a : Nat) => smGo cls d back k (a : Int)) (smMark d back) d.fLetters.toNat (cls.getD q 0) limit = (canon d.fLetters.toNat (langD d q), true) := by
  have h0 : cls.getD q 0 ∈ cls := getD_mem (by rw [hc.len]; exact hq)
  rw [explR_ends h0 (fun k a hk _ => smKeys h hc hb hk a) hl]
  congr 1
  rw [canon_of (P := fun k => k ∈ cls) h0 (fun k a hk _ => smKeys h hc hb hk a) ?_]
  · exact canon_congr fun w hw => smLang h hc hb w q hq hw
  · intro x y hx hy e
    obtain ⟨p, hp⟩ := List.getElem?_of_mem hx
    obtain ⟨s, hs⟩ := List.getElem?_of_mem hy
    have hpl := (List.getElem?_eq_some_iff.1 hp).1
    have hsl := (List.getElem?_eq_some_iff.1 hs).1
    rw [hc.len] at hpl hsl
    have ex : x = cls.getD p 0 := by simp [hp]
    have ey : y = cls.getD s 0 := by simp [hs]
    rw [ex, ey] at e ⊢
    refine (hc.same p s hpl hsl).2 (rs_congr fun w hw => ?_)
    rw [← smLang h hc hb w p hpl hw, ← smLang h hc hb w s hsl hw]
    exact rs_at e hw
theorem smDom_at (h : ClsOk d) (hc : IsClass d cls) (hb : BackOk cls back d.fNext.length) {k : Int} (hk : k ∈ cls) : (∀ a : Nat, (a : Int) < d.fLetters → smDom cls d back k a) ∧ smMarkDom d back k := by
  obtain ⟨q, hq⟩ := List.getElem?_of_mem hk
  have hlt := (List.getElem?_eq_some_iff.1 hq).1
  rw [hc.len] at hlt
  obtain ⟨p, h1, h2, h3⟩ := hb.2 q hlt
  have hkr := hc.range k hk
  have ek : k = cls.getD q 0 := by simp [hq]
  rw [← ek] at h2
  have hb1 := hb.1
  have hrow := h.wf.rows _ (getD_mem (l := d.fNext) (z := []) h1)
  have hlet := h.wf.letters
  refine ⟨fun a ha => ?_, ?_⟩
  · unfold smDom
    rw [h2, Int.toNat_natCast, Int.toNat_natCast, hrow]
    have hn := h.wf.next _ (getD_mem (l := d.fNext) (z := []) h1) _ (getD_mem (l := d.fNext.getD p []) (i := a) (z := 0) (by omega))
    rw [hc.len]
    omega
  · unfold smMarkDom
    rw [h2, h.wf.mark]
    omega
end
theorem smallest_plain (d : ApiDet) (h : ClsOk d) : smallest_vc d (fun r => r = canon d.fLetters.toNat (langD d d.fStart.toNat)) := by
  intro _ _
  have hsz := h.size
  refine ⟨h, fun cls hc => ⟨⟨by omega, Int.le_refl _, by rw [hc.len]; omega⟩, fun x l => ∃ k : Nat, x = k ∧ k ≤ cls.length ∧ l.length = cls.length ∧ ∀ q, q < k → ∃ p : Nat, p < cls.length ∧ l.getD (cls.getD q 0).toNat 0 = (p : Int) ∧ cls.getD p 0 = cls.getD q 0, fun x _ => cls.length - x.toNat,
    ⟨0, rfl, Nat.zero_le _, by simp, fun q hq => absurd hq (Nat.not_lt_zero _)⟩, ?_⟩⟩
  rintro x l ⟨k, rfl, hk, hl, hg⟩
  refine ⟨fun hb => ?_, fun hb => ?_⟩
  · have hlt : k < cls.length := by
      have := of_decide_eq_true hb
      omega
    have hr := hc.range _ (getD_mem (z := 0) hlt)
    have hcl := hc.len
    refine ⟨cls.getD k 0, by rw [idx_getD 0 (by omega) (by omega), Int.toNat_natCast], l.getD (cls.getD k 0).toNat 0, idx_getD 0 hr.1 (by omega), ⟨k + 1, ?_, hlt, by simp [hl], fun q hq => ?_⟩, ?_⟩
    · rw [wr_in (by omega) (by omega)]
      omega
    · by_cases e : cls.getD q 0 = cls.getD k 0
      · refine ⟨k, hlt, ?_, e.symm⟩
        rw [e]
        have : (l.set (cls.getD k 0).toNat (k : Int))[(cls.getD k 0).toNat]? = some (k : Int) := List.getElem?_set_self (by omega)
        rw [List.getD_eq_getElem?_getD, this]
        rfl
      · have hqk : q < k := by
          rcases Nat.lt_or_ge q k with h | h
          · exact h
          · exact absurd (by rw [show q = k by omega]) e
        obtain ⟨p, h1, h2, h3⟩ := hg q hqk
        refine ⟨p, h1, ?_, h3⟩
        have hrq := hc.range _ (getD_mem (l := cls) (i := q) (z := 0) (by omega))
        rw [List.getD_eq_getElem?_getD, List.getElem?_set_ne (by omega), ← List.getD_eq_getElem?_getD]
        exact h2
    · rw [wr_in (by omega) (by omega)]
      simp only
      omega
  · have hke : k = cls.length := by
      have := of_decide_eq_false hb
      omega
    subst hke
    have hst := h.wf.start
    have hback : BackOk cls l d.fNext.length := ⟨by rw [hl, hc.len], by rw [← hc.len]; exact hg⟩
    have hcl := hc.len
    have h0 : cls.getD d.fStart.toNat 0 ∈ cls := getD_mem (by omega)
    refine ⟨cls.getD d.fStart.toNat 0, idx_getD 0 hst.1 (by omega), ⟨⟨h.wf.letters, h.wide⟩, ?_, fun k => k ∈ cls, h0, fun k a hk ha => ⟨(smDom_at h hc hback hk).1 a ha, smKeys h hc hback hk a⟩, fun k hk => (smDom_at h hc hback hk).2⟩, ?_⟩
    · rw [wr_in (by omega) (by omega)]
      omega
    · rw [wr_in (by omega) (by omega)]
      have := smCanon h hc hback (q := d.fStart.toNat) (by omega) ((cls.length : Int) + 1) (by omega)
      exact congrArg Prod.fst this
theorem smallest_ct (d : ApiDet) (h : ClsOk d) : Ct 45 [.sv (.agg [I d.fLetters, I d.fStart, LS (lsT intT) d.fNext, LS intT d.fMark])] [] (fun (_ : Unit) => True) (fun _ => .sv (.agg [I (canon d.fLetters.toNat (langD d d.fStart.toNat)).fLetters, I (canon d.fLetters.toNat (langD d d.fStart.toNat)).fStart, LS (lsT intT) (canon d.fLetters.toNat (langD d d.fStart.toNat)).fNext, LS intT (canon d.fLetters.toNat (langD d d.fStart.toNat)).fMark])) :=
  (smallest_walk d (fun r => r = canon d.fLetters.toNat (langD d d.fStart.toNat)) (smallest_plain d h)).fun
end Go.Proofs.Ytiinkohfldopbaa

/- Plain laws of sets that stand as bits of a number. No condition. -/
namespace Go.Proofs.Ytiinkohfldopbaa
open Go.RowKit Go.MapKept
set_option linter.unusedSimpArgs false
set_option linter.unusedVariables false
set_option maxRecDepth 100000

theorem dlt {k n : Nat} (h : decide ((k : Int) < (n : Int)) = true) : k < n := by
  have := of_decide_eq_true h
  omega
theorem dge {k n : Nat} (h : decide ((k : Int) < (n : Int)) = false) : n ≤ k := by
  have := of_decide_eq_false h
  omega
theorem wsucc {k : Nat} (h : k < 4611686018427387904) : wr ((k : Int) + 1) = ((k + 1 : Nat) : Int) := by
  rw [wr_in (by omega) (by omega)]
  rfl
theorem mu_up {n k : Nat} (h : k < n) (hk : k < 4611686018427387904) : n - (wr ((k : Int) + 1)).toNat < n - (k : Int).toNat := by
  rw [wsucc hk, Int.toNat_natCast, Int.toNat_natCast]
  omega
theorem idx_at {α : Type} {l : List α} {k : Nat} (h : k < l.length) : idx l (k : Int) = some l[k] := by simp [idx, h]
theorem idx_of {α : Type} {l : List α} {i : Int} (z : α) (h0 : 0 ≤ i) (h1 : i < (l.length : Int)) : idx l i = some (l.getD i.toNat z) := by
  have h : i.toNat < l.length := by omega
  unfold idx
  rw [if_pos h0, List.getD_eq_getElem?_getD, List.getElem?_eq_getElem h]
  rfl
theorem capOk_of {n m b : Nat} (h : (n + m) * b ≤ 140737488355328) : capOk n m b := h
end Go.Proofs.Ytiinkohfldopbaa

/- What is to be known of automata of languages: that they may be, and what they say. No condition. -/
namespace Go.Proofs.Ytiinkohfldopbaa
open Go.RowKit Go.MapKept
set_option linter.unusedSimpArgs false
set_option linter.unusedVariables false
set_option maxRecDepth 100000
set_option linter.unusedSectionVars false

theorem foldl_der : ∀ (w : List Nat) (k : Lang) (u : List Nat), (w.foldl der k) u = k (w ++ u)
  | [], _, _ => rfl
  | a :: w, k, u => by
    rw [List.foldl_cons, foldl_der w]
    rfl
theorem langK_der (k : Lang) (w : List Nat) : langK der (fun r => r []) k w = k w := by
  show (w.foldl der k) [] = _
  rw [foldl_der, List.append_nil]
/-- facts of the automaton of a language that has few states -/
structure CanonOk (L : Nat) (r : Lang) (n : Nat) : Prop where
  wf : Wf (canon L r)
  letters : (canon L r).fLetters = L
  start : (canon L r).fStart = 0
  count : (canon L r).fNext.length ≤ n
  lang : ∀ w, (∀ a ∈ w, a < L) → langD (canon L r) 0 w = r w
  marks : ∀ m ∈ (canon L r).fMark, ∃ u, m = r u
theorem canon_vals {L : Nat} {r : Lang} : ∀ m ∈ (canon L r).fMark, ∃ u, m = r u := fun m hm => by
  unfold canon explD detOf at hm
  obtain ⟨k, hk, rfl⟩ := List.mem_map.1 hm
  obtain ⟨u, rfl⟩ := explL_in (P := fun s : Lang => ∃ u : List Nat, s = rs L (fun w => r (u ++ w))) ⟨[], rfl⟩ (by
    rintro k a ⟨u, rfl⟩ ha
    refine ⟨u ++ [a], ?_⟩
    rw [der_rs ha]
    refine rs_congr fun w _ => ?_
    show r (u ++ a :: w) = _
    rw [List.append_assoc]
    rfl) hk
  exact ⟨u, by simp [rs]⟩
/-- of keys in a list -/
theorem canonOk_keys {K : Type} {go : K → Nat → K} {mark : K → Int} {L : Nat} {k0 : K} {m : List K} (h0 : k0 ∈ m) (hP : ∀ k a, k ∈ m → a < L → go k a ∈ m) : CanonOk L (langK go mark k0) m.length := by
  have h1 : rs L (langK go mark k0) ∈ m.map fun k => rs L (langK go mark k) := List.mem_map.2 ⟨k0, h0, rfl⟩
  have h2 : ∀ s a, s ∈ (m.map fun k => rs L (langK go mark k)) → a < L → der s a ∈ m.map fun k => rs L (langK go mark k) := fun s a hs ha => by
    obtain ⟨k, hk, rfl⟩ := List.mem_map.1 hs
    exact List.mem_map.2 ⟨go k a, hP k a hk ha, by rw [der_rs ha]; rfl⟩
  have hc := explD_count (mark := fun r : Lang => r []) h1 h2
  rw [List.length_map] at hc
  refine ⟨explD_wf (mark := fun r : Lang => r []) h1 h2, rfl, rfl, hc, fun w hw => ?_, canon_vals⟩
  have := explD_lang (mark := fun r : Lang => r []) h1 h2 hw
  rw [langK_der] at this
  refine this.trans ?_
  unfold rs
  rw [if_pos hw]
theorem CanonOk.congr {L n : Nat} {r s : Lang} (h : CanonOk L r n) (e : ∀ w, (∀ a ∈ w, a < L) → r w = s w) : CanonOk L s n := by
  have hc := canon_congr e
  refine ⟨by rw [← hc]; exact h.wf, by rw [← hc]; exact h.letters, by rw [← hc]; exact h.start, by rw [← hc]; exact h.count, fun w hw => ?_, canon_vals⟩
  rw [← hc, h.lang w hw, e w hw]
theorem CanonOk.mono {L n k : Nat} {r : Lang} (h : CanonOk L r n) (hk : n ≤ k) : CanonOk L r k := ⟨h.wf, h.letters, h.start, Nat.le_trans h.count hk, h.lang, h.marks⟩
end Go.Proofs.Ytiinkohfldopbaa

/- The plain law of words that stand in words: closings upwards and downwards. No condition. -/
namespace Go.Proofs.Ytiinkohfldopbaa
open Go.RowKit Go.MapKept
set_option linter.unusedSimpArgs false
set_option linter.unusedVariables false
set_option maxRecDepth 100000
set_option linter.unusedSectionVars false

section
variable {d : ApiDet}
end
end Go.Proofs.Ytiinkohfldopbaa

/- Contracts of det.Check, det.Least, det.Mixed. No condition. -/
namespace Go.Proofs.Ytiinkohfldopbaa
open Go.RowKit Go.MapKept
set_option linter.unusedSimpArgs false
set_option linter.unusedVariables false
set_option maxRecDepth 100000

def indexLInt_vc (l : (List (List Int))) (dom : ((List Int) → Prop)) (φ : ((List Int) → Bool)) (Q : Int → Prop) : Prop :=
  l.length ≤ 9223372036854775807 →
  (∃ (Inv : Int → Prop) (mu : Int → Nat), Inv 0 ∧
  ∀ (x8 : Int) , Inv x8 → (IfP (decide (x8 < (l.length : Int))) (∃ e, idx l x8 = some e ∧
  (dom e) ∧
  IfP (φ e) (Q x8) ((Inv (wr (x8 + 1)) ∧ mu (wr (x8 + 1)) < mu x8))) (Q (-1))))
theorem indexLInt_walk (l : (List (List Int))) (dom : ((List Int) → Prop)) (φ : ((List Int) → Bool)) (Q : Int → Prop) (h : indexLInt_vc l dom φ Q) : Ct 128 [.sv (.one (LS (lsT intT) l)), .sv (.one (.rd (fvR (fun x => [.sv (.one (LS intT x))]) (fun b => .sv (.one (B b))) dom φ)))] [] Q (fun (r : Int) => .sv (.one (I r))) := by
  have ht := tab_ok
  refine Ct.body Try.func128 rfl rfl rfl rfl (fun c hn => ?_)
  unfold indexLInt_vc at h
  refine En.lenL 0 (by rfl) (fun hl => ?_)
  replace h := h hl
  clear hl
  refine En.seq ?_
  refine En.region ?_
  refine WL.run ht hn 1 ⟨[(0, .sv (.one (LS (lsT intT) l))), (1, .sv (.one (.rd (fvR (fun x => [.sv (.one (LS intT x))]) (fun b => .sv (.one (B b))) dom φ))))], []⟩ (by kernel_rfl) ?_
  refine WL.nil ?_
  refine En.seq ?_
  refine En.seq ?_
  refine En.region ?_
  refine WL.run ht hn 3 ⟨[(0, .sv (.one (LS (lsT intT) l))), (1, .sv (.one (.rd (fvR (fun x => [.sv (.one (LS intT x))]) (fun b => .sv (.one (B b))) dom φ)))), (7, .sv (.one (I (l.length : Int)))), (8, .sv (.one (I 0)))], []⟩ (by kernel_rfl) ?_
  refine WL.nil ?_
  refine En.block ?_
  obtain ⟨Inv, mu, h0, hI⟩ := h
  refine En.loop (σ := Int) (fun zz => Inv zz) (fun zz => mu zz) (fun zz => ⟨[(0, .sv (.one (LS (lsT intT) l))), (1, .sv (.one (.rd (fvR (fun x => [.sv (.one (LS intT x))]) (fun b => .sv (.one (B b))) dom φ)))), (7, .sv (.one (I (l.length : Int)))), (8, .sv (.one (I zz)))], []⟩) 0 h0 (sub_ok (by kernel_rfl)) ?_
  intro x8 h
  replace h := hI _ h
  show En c ⟨[(0, .sv (.one (LS (lsT intT) l))), (1, .sv (.one (.rd (fvR (fun x => [.sv (.one (LS intT x))]) (fun b => .sv (.one (B b))) dom φ)))), (7, .sv (.one (I (l.length : Int)))), (8, .sv (.one (I x8)))], []⟩ _
  refine En.seq ?_
  refine En.region ?_
  refine WL.run ht hn 1 ⟨[(0, .sv (.one (LS (lsT intT) l))), (1, .sv (.one (.rd (fvR (fun x => [.sv (.one (LS intT x))]) (fun b => .sv (.one (B b))) dom φ)))), (7, .sv (.one (I (l.length : Int)))), (8, .sv (.one (I x8))), (9, .sv (.one (B (decide (x8 < (l.length : Int))))))], []⟩ (by kernel_rfl) ?_
  refine WL.nil ?_
  refine En.seq ?_
  refine En.cond (b := (decide (x8 < (l.length : Int)))) (by kernel_rfl) (fun hb => ?_) (fun hb => ?_)
  · replace h := h.1 hb
    refine En.skip ?_
    refine En.seq ?_
    refine En.block ?_
    refine En.seq ?_
    refine En.region ?_
    refine WL.run ht hn 2 ⟨[(0, .sv (.one (LS (lsT intT) l))), (1, .sv (.one (.rd (fvR (fun x => [.sv (.one (LS intT x))]) (fun b => .sv (.one (B b))) dom φ)))), (5, .sv (.one (I x8))), (7, .sv (.one (I (l.length : Int)))), (8, .sv (.one (I x8)))], []⟩ (by kernel_rfl) ?_
    refine WL.nil ?_
    refine En.seq ?_
    refine En.region ?_
    refine WL.run ht hn 3 ⟨[(0, .sv (.one (LS (lsT intT) l))), (1, .sv (.one (.rd (fvR (fun x => [.sv (.one (LS intT x))]) (fun b => .sv (.one (B b))) dom φ)))), (5, .sv (.one (I x8))), (7, .sv (.one (I (l.length : Int)))), (8, .sv (.one (I x8))), (11, .sv (.one (.rd (fvR (fun x => [.sv (.one (LS intT x))]) (fun b => .sv (.one (B b))) dom φ)))), (12, .sv (.one (LS (lsT intT) l))), (13, .sv (.one (I x8)))], []⟩ (by kernel_rfl) ?_
    obtain ⟨e, he, h⟩ := h
    refine WL.val hn (by rfl) (val_index (T := (lsT intT)) (l := l) (i := x8) ht rfl (by rfl) (by rfl) (by rfl) (by rfl) (by rfl) (by rfl) he) (by rfl) ?_
    refine WL.val hn (by rfl) (val_load (s := .one (LS intT e)) ht rfl (by rfl) (by rfl) (by rfl) (by rfl) (by rfl)) (by rfl) ?_
    have hp := h.1
    replace h := h.2
    refine WL.mt0 (K := []) (p := none) hn (by rfl) (mt_callv e hp rfl (by rfl) (by rfl) (by rfl) (by rfl)) (by rfl) (by rfl) (by rfl) ?_
    refine WL.nil ?_
    refine En.cond (b := (φ e)) (by kernel_rfl) (fun hb => ?_) (fun hb => ?_)
    · replace h := h.1 hb
      refine En.seq ?_
      refine En.region ?_
      refine WL.run ht hn 2 ⟨[(4, .sv (.one (I x8)))], []⟩ (by kernel_rfl) ?_
      refine WL.nil ?_
      refine En.ret ?_
      exact En.back ht x8 h (by kernel_rfl) rfl
    · replace h := h.2 hb
      refine En.skip ?_
      refine En.region ?_
      refine WL.run ht hn 2 ⟨[(0, .sv (.one (LS (lsT intT) l))), (1, .sv (.one (.rd (fvR (fun x => [.sv (.one (LS intT x))]) (fun b => .sv (.one (B b))) dom φ)))), (7, .sv (.one (I (l.length : Int)))), (8, .sv (.one (I (wr (x8 + 1)))))], []⟩ (by kernel_rfl) ?_
      refine WL.nil ?_
      exact En.at (I := fun zz => Inv zz ∧ mu zz < mu x8) (T := fun zz => ⟨[(0, .sv (.one (LS (lsT intT) l))), (1, .sv (.one (.rd (fvR (fun x => [.sv (.one (LS intT x))]) (fun b => .sv (.one (B b))) dom φ)))), (7, .sv (.one (I (l.length : Int)))), (8, .sv (.one (I zz)))], []⟩) (wr (x8 + 1)) h (by kernel_rfl)
  · replace h := h.2 hb
    refine En.exit rfl ?_
    refine En.seq ?_
    refine En.region ?_
    refine WL.run ht hn 1 ⟨[(4, .sv (.one (I (-1))))], []⟩ (by kernel_rfl) ?_
    refine WL.nil ?_
    refine En.ret ?_
    exact En.back ht (-1) h (by kernel_rfl) rfl
theorem en128 : ∀ args w, (callFunc 128 args).run Try.prog w = .ok (.enter 128 args) w := enters_of Try.func128 (by kernel_rfl) rfl
theorem indexLInt_ct (l : List (List Int)) (dom : (List Int) → Prop) (φ : (List Int) → Bool) (hd : ∀ x ∈ l, dom x) : Ct 128 [.sv (.one (LS (lsT intT) l)), .sv (.one (.rd (fvR (fun x => [.sv (.one (LS intT x))]) (fun b => .sv (.one (B b))) dom φ)))] [] (fun (_ : Unit) => True) (fun _ => .sv (.one (I (idxTo φ l)))) := by
  refine (indexLInt_walk l dom φ (fun r => r = idxTo φ l) ?_).fun
  unfold indexLInt_vc
  exact index_plain l dom φ hd
def anyLInt_vc (l : (List (List Int))) (dom : ((List Int) → Prop)) (φ : ((List Int) → Bool)) (Q : Bool → Prop) : Prop :=
  l.length ≤ 9223372036854775807 →
  ((∀ x_ ∈ l, dom x_) ∧
  Q (decide ((idxTo φ l) ≥ 0)))
theorem anyLInt_walk (l : (List (List Int))) (dom : ((List Int) → Prop)) (φ : ((List Int) → Bool)) (Q : Bool → Prop) (h : anyLInt_vc l dom φ Q) : Ct 63 [.sv (.one (LS (lsT intT) l)), .sv (.one (.rd (fvR (fun x => [.sv (.one (LS intT x))]) (fun b => .sv (.one (B b))) dom φ)))] [] Q (fun (r : Bool) => .sv (.one (B r))) := by
  have ht := tab_ok
  refine Ct.body Try.func63 rfl rfl rfl rfl (fun c hn => ?_)
  unfold anyLInt_vc at h
  refine En.lenL 0 (by rfl) (fun hl => ?_)
  replace h := h hl
  clear hl
  refine En.seq ?_
  refine En.region ?_
  refine WL.run ht hn 1 ⟨[(0, .sv (.one (LS (lsT intT) l))), (1, .sv (.one (.rd (fvR (fun x => [.sv (.one (LS intT x))]) (fun b => .sv (.one (B b))) dom φ))))], []⟩ (by kernel_rfl) ?_
  refine WL.nil ?_
  refine En.seq ?_
  refine En.region ?_
  refine WL.run ht hn 2 ⟨[(5, .sv (.one (LS (lsT intT) l))), (6, .sv (.one (.rd (fvR (fun x => [.sv (.one (LS intT x))]) (fun b => .sv (.one (B b))) dom φ))))], []⟩ (by kernel_rfl) ?_
  have hp := h.1
  replace h := h.2
  refine WL.mt0 (K := []) (p := none) hn (by rfl) (mt_call (indexLInt_ct l dom φ hp) en128 (caps := []) [] rfl (by rfl) (by kernel_rfl) (by kernel_rfl) (by rfl) (by rfl) (by rfl)) (by rfl) (by rfl) (by rfl) ?_
  refine WL.run ht hn 2 ⟨[(4, .sv (.one (B (decide ((idxTo φ l) ≥ 0)))))], []⟩ (by kernel_rfl) ?_
  refine WL.nil ?_
  refine En.ret ?_
  exact En.back ht (decide ((idxTo φ l) ≥ 0)) h (by kernel_rfl) rfl
theorem en63 : ∀ args w, (callFunc 63 args).run Try.prog w = .ok (.enter 63 args) w := enters_of Try.func63 (by kernel_rfl) rfl
theorem anyLInt_ct (l : List (List Int)) (dom : (List Int) → Prop) (φ : (List Int) → Bool) (hd : ∀ x ∈ l, dom x) : Ct 63 [.sv (.one (LS (lsT intT) l)), .sv (.one (.rd (fvR (fun x => [.sv (.one (LS intT x))]) (fun b => .sv (.one (B b))) dom φ)))] [] (fun (_ : Unit) => True) (fun _ => .sv (.one (B (l.any φ)))) := by
  refine (anyLInt_walk l dom φ (fun r => r = l.any φ) ?_).fun
  unfold anyLInt_vc
  exact fun _ => ⟨hd, by rw [← idxTo_nonneg φ l]⟩
def indexInt_vc (l : (List Int)) (dom : (Int → Prop)) (φ : (Int → Bool)) (Q : Int → Prop) : Prop :=
  l.length ≤ 9223372036854775807 →
  (∃ (Inv : Int → Prop) (mu : Int → Nat), Inv 0 ∧
  ∀ (x8 : Int) , Inv x8 → (IfP (decide (x8 < (l.length : Int))) (∃ e, idx l x8 = some e ∧
  (dom e) ∧
  IfP (φ e) (Q x8) ((Inv (wr (x8 + 1)) ∧ mu (wr (x8 + 1)) < mu x8))) (Q (-1))))
theorem indexInt_walk (l : (List Int)) (dom : (Int → Prop)) (φ : (Int → Bool)) (Q : Int → Prop) (h : indexInt_vc l dom φ Q) : Ct 138 [.sv (.one (LS intT l)), .sv (.one (.rd (fvR (fun x => [.sv (.one (I x))]) (fun b => .sv (.one (B b))) dom φ)))] [] Q (fun (r : Int) => .sv (.one (I r))) := by
  have ht := tab_ok
  refine Ct.body Try.func138 rfl rfl rfl rfl (fun c hn => ?_)
  unfold indexInt_vc at h
  refine En.lenL 0 (by rfl) (fun hl => ?_)
  replace h := h hl
  clear hl
  refine En.seq ?_
  refine En.region ?_
  refine WL.run ht hn 1 ⟨[(0, .sv (.one (LS intT l))), (1, .sv (.one (.rd (fvR (fun x => [.sv (.one (I x))]) (fun b => .sv (.one (B b))) dom φ))))], []⟩ (by kernel_rfl) ?_
  refine WL.nil ?_
  refine En.seq ?_
  refine En.seq ?_
  refine En.region ?_
  refine WL.run ht hn 3 ⟨[(0, .sv (.one (LS intT l))), (1, .sv (.one (.rd (fvR (fun x => [.sv (.one (I x))]) (fun b => .sv (.one (B b))) dom φ)))), (7, .sv (.one (I (l.length : Int)))), (8, .sv (.one (I 0)))], []⟩ (by kernel_rfl) ?_
  refine WL.nil ?_
  refine En.block ?_
  obtain ⟨Inv, mu, h0, hI⟩ := h
  refine En.loop (σ := Int) (fun zz => Inv zz) (fun zz => mu zz) (fun zz => ⟨[(0, .sv (.one (LS intT l))), (1, .sv (.one (.rd (fvR (fun x => [.sv (.one (I x))]) (fun b => .sv (.one (B b))) dom φ)))), (7, .sv (.one (I (l.length : Int)))), (8, .sv (.one (I zz)))], []⟩) 0 h0 (sub_ok (by kernel_rfl)) ?_
  intro x8 h
  replace h := hI _ h
  show En c ⟨[(0, .sv (.one (LS intT l))), (1, .sv (.one (.rd (fvR (fun x => [.sv (.one (I x))]) (fun b => .sv (.one (B b))) dom φ)))), (7, .sv (.one (I (l.length : Int)))), (8, .sv (.one (I x8)))], []⟩ _
  refine En.seq ?_
  refine En.region ?_
  refine WL.run ht hn 1 ⟨[(0, .sv (.one (LS intT l))), (1, .sv (.one (.rd (fvR (fun x => [.sv (.one (I x))]) (fun b => .sv (.one (B b))) dom φ)))), (7, .sv (.one (I (l.length : Int)))), (8, .sv (.one (I x8))), (9, .sv (.one (B (decide (x8 < (l.length : Int))))))], []⟩ (by kernel_rfl) ?_
  refine WL.nil ?_
  refine En.seq ?_
  refine En.cond (b := (decide (x8 < (l.length : Int)))) (by kernel_rfl) (fun hb => ?_) (fun hb => ?_)
  · replace h := h.1 hb
    refine En.skip ?_
    refine En.seq ?_
    refine En.block ?_
    refine En.seq ?_
    refine En.region ?_
    refine WL.run ht hn 2 ⟨[(0, .sv (.one (LS intT l))), (1, .sv (.one (.rd (fvR (fun x => [.sv (.one (I x))]) (fun b => .sv (.one (B b))) dom φ)))), (5, .sv (.one (I x8))), (7, .sv (.one (I (l.length : Int)))), (8, .sv (.one (I x8)))], []⟩ (by kernel_rfl) ?_
    refine WL.nil ?_
    refine En.seq ?_
    refine En.region ?_
    refine WL.run ht hn 3 ⟨[(0, .sv (.one (LS intT l))), (1, .sv (.one (.rd (fvR (fun x => [.sv (.one (I x))]) (fun b => .sv (.one (B b))) dom φ)))), (5, .sv (.one (I x8))), (7, .sv (.one (I (l.length : Int)))), (8, .sv (.one (I x8))), (11, .sv (.one (.rd (fvR (fun x => [.sv (.one (I x))]) (fun b => .sv (.one (B b))) dom φ)))), (12, .sv (.one (LS intT l))), (13, .sv (.one (I x8)))], []⟩ (by kernel_rfl) ?_
    obtain ⟨e, he, h⟩ := h
    refine WL.val hn (by rfl) (val_index (T := intT) (l := l) (i := x8) ht rfl (by rfl) (by rfl) (by rfl) (by rfl) (by rfl) (by rfl) he) (by rfl) ?_
    refine WL.val hn (by rfl) (val_load (s := .one (I e)) ht rfl (by rfl) (by rfl) (by rfl) (by rfl) (by rfl)) (by rfl) ?_
    have hp := h.1
    replace h := h.2
    refine WL.mt0 (K := []) (p := none) hn (by rfl) (mt_callv e hp rfl (by rfl) (by rfl) (by rfl) (by rfl)) (by rfl) (by rfl) (by rfl) ?_
    refine WL.nil ?_
    refine En.cond (b := (φ e)) (by kernel_rfl) (fun hb => ?_) (fun hb => ?_)
    · replace h := h.1 hb
      refine En.seq ?_
      refine En.region ?_
      refine WL.run ht hn 2 ⟨[(4, .sv (.one (I x8)))], []⟩ (by kernel_rfl) ?_
      refine WL.nil ?_
      refine En.ret ?_
      exact En.back ht x8 h (by kernel_rfl) rfl
    · replace h := h.2 hb
      refine En.skip ?_
      refine En.region ?_
      refine WL.run ht hn 2 ⟨[(0, .sv (.one (LS intT l))), (1, .sv (.one (.rd (fvR (fun x => [.sv (.one (I x))]) (fun b => .sv (.one (B b))) dom φ)))), (7, .sv (.one (I (l.length : Int)))), (8, .sv (.one (I (wr (x8 + 1)))))], []⟩ (by kernel_rfl) ?_
      refine WL.nil ?_
      exact En.at (I := fun zz => Inv zz ∧ mu zz < mu x8) (T := fun zz => ⟨[(0, .sv (.one (LS intT l))), (1, .sv (.one (.rd (fvR (fun x => [.sv (.one (I x))]) (fun b => .sv (.one (B b))) dom φ)))), (7, .sv (.one (I (l.length : Int)))), (8, .sv (.one (I zz)))], []⟩) (wr (x8 + 1)) h (by kernel_rfl)
  · replace h := h.2 hb
    refine En.exit rfl ?_
    refine En.seq ?_
    refine En.region ?_
    refine WL.run ht hn 1 ⟨[(4, .sv (.one (I (-1))))], []⟩ (by kernel_rfl) ?_
    refine WL.nil ?_
    refine En.ret ?_
    exact En.back ht (-1) h (by kernel_rfl) rfl
theorem en138 : ∀ args w, (callFunc 138 args).run Try.prog w = .ok (.enter 138 args) w := enters_of Try.func138 (by kernel_rfl) rfl
theorem indexInt_ct (l : List Int) (dom : Int → Prop) (φ : Int → Bool) (hd : ∀ x ∈ l, dom x) : Ct 138 [.sv (.one (LS intT l)), .sv (.one (.rd (fvR (fun x => [.sv (.one (I x))]) (fun b => .sv (.one (B b))) dom φ)))] [] (fun (_ : Unit) => True) (fun _ => .sv (.one (I (idxTo φ l)))) := by
  refine (indexInt_walk l dom φ (fun r => r = idxTo φ l) ?_).fun
  unfold indexInt_vc
  exact index_plain l dom φ hd
def anyInt_vc (l : (List Int)) (dom : (Int → Prop)) (φ : (Int → Bool)) (Q : Bool → Prop) : Prop :=
  l.length ≤ 9223372036854775807 →
  ((∀ x_ ∈ l, dom x_) ∧
  Q (decide ((idxTo φ l) ≥ 0)))
theorem anyInt_walk (l : (List Int)) (dom : (Int → Prop)) (φ : (Int → Bool)) (Q : Bool → Prop) (h : anyInt_vc l dom φ Q) : Ct 77 [.sv (.one (LS intT l)), .sv (.one (.rd (fvR (fun x => [.sv (.one (I x))]) (fun b => .sv (.one (B b))) dom φ)))] [] Q (fun (r : Bool) => .sv (.one (B r))) := by
  have ht := tab_ok
  refine Ct.body Try.func77 rfl rfl rfl rfl (fun c hn => ?_)
  unfold anyInt_vc at h
  refine En.lenL 0 (by rfl) (fun hl => ?_)
  replace h := h hl
  clear hl
  refine En.seq ?_
  refine En.region ?_
  refine WL.run ht hn 1 ⟨[(0, .sv (.one (LS intT l))), (1, .sv (.one (.rd (fvR (fun x => [.sv (.one (I x))]) (fun b => .sv (.one (B b))) dom φ))))], []⟩ (by kernel_rfl) ?_
  refine WL.nil ?_
  refine En.seq ?_
  refine En.region ?_
  refine WL.run ht hn 2 ⟨[(5, .sv (.one (LS intT l))), (6, .sv (.one (.rd (fvR (fun x => [.sv (.one (I x))]) (fun b => .sv (.one (B b))) dom φ))))], []⟩ (by kernel_rfl) ?_
  have hp := h.1
  replace h := h.2
  refine WL.mt0 (K := []) (p := none) hn (by rfl) (mt_call (indexInt_ct l dom φ hp) en138 (caps := []) [] rfl (by rfl) (by kernel_rfl) (by kernel_rfl) (by rfl) (by rfl) (by rfl)) (by rfl) (by rfl) (by rfl) ?_
  refine WL.run ht hn 2 ⟨[(4, .sv (.one (B (decide ((idxTo φ l) ≥ 0)))))], []⟩ (by kernel_rfl) ?_
  refine WL.nil ?_
  refine En.ret ?_
  exact En.back ht (decide ((idxTo φ l) ≥ 0)) h (by kernel_rfl) rfl
theorem en77 : ∀ args w, (callFunc 77 args).run Try.prog w = .ok (.enter 77 args) w := enters_of Try.func77 (by kernel_rfl) rfl
theorem anyInt_ct (l : List Int) (dom : Int → Prop) (φ : Int → Bool) (hd : ∀ x ∈ l, dom x) : Ct 77 [.sv (.one (LS intT l)), .sv (.one (.rd (fvR (fun x => [.sv (.one (I x))]) (fun b => .sv (.one (B b))) dom φ)))] [] (fun (_ : Unit) => True) (fun _ => .sv (.one (B (l.any φ)))) := by
  refine (anyInt_walk l dom φ (fun r => r = l.any φ) ?_).fun
  unfold anyInt_vc
  exact fun _ => ⟨hd, by rw [← idxTo_nonneg φ l]⟩
def altNo (n q : Int) : Bool := (decide (q < 0)) || (decide (q ≥ n))
theorem altNo_iff {n q : Int} : altNo n q = false ↔ 0 ≤ q ∧ q < n := by
  unfold altNo
  simp only [Bool.or_eq_false_iff, decide_eq_false_iff_not]
  omega
def detErr (x : ApiDet) : Int :=
  if (decide (x.fLetters < 1)) || (decide (x.fLetters > 4)) then 2 else
  if (decide ((x.fNext.length : Int) < 1)) || (decide ((x.fNext.length : Int) > 3000)) then 1 else
  if ((x.fMark.length : Int) != (x.fNext.length : Int)) || x.fNext.any (fun r => (r.length : Int) != (x).fLetters) then 3 else
  if altNo (x.fNext.length : Int) x.fStart || x.fNext.any (fun r => r.any (altNo (x.fNext.length : Int))) then 2 else
  if x.fMark.any (fun m => (m != 0) && (m != 1)) then 2 else 0
structure DetOk (x : ApiDet) : Prop where
  letters : 1 ≤ x.fLetters ∧ x.fLetters ≤ 4
  size : 1 ≤ x.fNext.length ∧ x.fNext.length ≤ 3000
  marks : x.fMark.length = x.fNext.length
  rows : ∀ r ∈ x.fNext, (r.length : Int) = x.fLetters
  start : 0 ≤ x.fStart ∧ x.fStart < (x.fNext.length : Int)
  in_ : ∀ r ∈ x.fNext, ∀ p ∈ r, 0 ≤ p ∧ p < (x.fNext.length : Int)
  mark : ∀ m ∈ x.fMark, m = 0 ∨ m = 1
theorem detErr_iff (x : ApiDet) : detErr x = 0 ↔ DetOk x := by
  unfold detErr
  constructor
  · intro h
    by_cases h1 : ((decide (x.fLetters < 1)) || (decide (x.fLetters > 4))) = true
    · rw [if_pos h1] at h; cases h
    rw [if_neg h1] at h
    by_cases h2 : ((decide ((x.fNext.length : Int) < 1)) || (decide ((x.fNext.length : Int) > 3000))) = true
    · rw [if_pos h2] at h; cases h
    rw [if_neg h2] at h
    by_cases h3 : (((x.fMark.length : Int) != (x.fNext.length : Int)) || x.fNext.any (fun r => (r.length : Int) != (x).fLetters)) = true
    · rw [if_pos h3] at h; cases h
    rw [if_neg h3] at h
    by_cases h4 : (altNo (x.fNext.length : Int) x.fStart || x.fNext.any (fun r => r.any (altNo (x.fNext.length : Int)))) = true
    · rw [if_pos h4] at h; cases h
    rw [if_neg h4] at h
    by_cases h5 : x.fMark.any (fun m => (m != 0) && (m != 1)) = true
    · rw [if_pos h5] at h; cases h
    simp only [Bool.not_eq_true, Bool.or_eq_false_iff, decide_eq_false_iff_not, List.any_eq_false, altNo_iff, bne_eq_false_iff_eq, Bool.and_eq_false_iff, Bool.not_eq_false, bne_iff_ne, ne_eq, Decidable.not_not] at h1 h2 h3 h4 h5
    exact ⟨by omega, by omega, by omega, fun r hr => h3.2 r hr, h4.1, fun r hr p hp => h4.2 r hr p hp, fun m hm => h5 m hm⟩
  · intro h
    have h1 : ((decide (x.fLetters < 1)) || (decide (x.fLetters > 4))) = false := by
      have := h.letters
      simp only [Bool.or_eq_false_iff, decide_eq_false_iff_not]; omega
    have h2 : ((decide ((x.fNext.length : Int) < 1)) || (decide ((x.fNext.length : Int) > 3000))) = false := by
      have := h.size
      simp only [Bool.or_eq_false_iff, decide_eq_false_iff_not]; omega
    have h3 : (((x.fMark.length : Int) != (x.fNext.length : Int)) || x.fNext.any (fun r => (r.length : Int) != (x).fLetters)) = false := by
      simp only [Bool.or_eq_false_iff, bne_eq_false_iff_eq, List.any_eq_false, bne_iff_ne, ne_eq, Decidable.not_not]
      exact ⟨by have := h.marks; omega, h.rows⟩
    have h4 : (altNo (x.fNext.length : Int) x.fStart || x.fNext.any (fun r => r.any (altNo (x.fNext.length : Int)))) = false := by
      simp only [Bool.or_eq_false_iff, altNo_iff]
      refine ⟨h.start, ?_⟩
      rw [List.any_eq_false]
      intro r hr
      rw [Bool.not_eq_true, List.any_eq_false]
      intro p hp
      rw [Bool.not_eq_true, altNo_iff]
      exact h.in_ r hr p hp
    have h5 : x.fMark.any (fun m => (m != 0) && (m != 1)) = false := by
      rw [List.any_eq_false]
      intro m hm
      rcases h.mark m hm with rfl | rfl <;> decide
    rw [h1, h2, h3, h4, h5]
    rfl
theorem DetOk.cls {d : ApiDet} (h : DetOk d) : ClsOk d := by
  have h1 := h.letters
  have h2 := h.size
  refine ⟨⟨by omega, fun r hr => by have := h.rows r hr; omega, h.in_, h.start, h.marks⟩, by omega, by omega, fun m hm => by rcases h.mark m hm with rfl | rfl <;> decide⟩
/-- the automaton of a language of nothing and one, with few states, may be -/
theorem CanonOk.det {L : Nat} {r : Lang} {n : Nat} (h : CanonOk L r n) (hL : 1 ≤ L ∧ L ≤ 4) (hn : n ≤ 3000) (hr : ∀ w, r w = 0 ∨ r w = 1) : DetOk (canon L r) := by
  have h1 := h.wf.start
  have h2 := h.count
  refine ⟨by rw [h.letters]; omega, by omega, h.wf.mark, fun s hs => ?_, h1, h.wf.next, fun m hm => ?_⟩
  · have := h.wf.rows s hs
    rw [h.letters] at this ⊢
    omega
  · obtain ⟨u, rfl⟩ := h.marks m hm
    exact hr u
def detC1_vc (r : (List Int)) (x : ApiDet) (Q : Bool → Prop) : Prop :=
  r.length ≤ 9223372036854775807 →
  (Q ((r.length : Int) != x.fLetters))
theorem detC1_walk (r : (List Int)) (x : ApiDet) (Q : Bool → Prop) (h : detC1_vc r x Q) : Ct 111 [.sv (.one (LS intT r)), .sv (.one (.ptr 0 0))] [.box [I x.fLetters, I x.fStart, LS (lsT intT) x.fNext, LS intT x.fMark] 25 true] Q (fun (r : Bool) => .sv (.one (B r))) := by
  have ht := tab_ok
  refine Ct.body Try.func111 rfl rfl rfl rfl (fun c hn => ?_)
  unfold detC1_vc at h
  refine En.lenL 0 (by rfl) (fun hl => ?_)
  replace h := h hl
  clear hl
  refine En.seq ?_
  refine En.region ?_
  refine WL.run ht hn 1 ⟨[(0, .sv (.one (LS intT r))), (1, .sv (.one (.ptr 0 0)))], [.box [I x.fLetters, I x.fStart, LS (lsT intT) x.fNext, LS intT x.fMark] 25 true]⟩ (by kernel_rfl) ?_
  refine WL.nil ?_
  refine En.seq ?_
  refine En.region ?_
  refine WL.run ht hn 6 ⟨[(3, .sv (.one (B ((r.length : Int) != x.fLetters))))], [.gone]⟩ (by kernel_rfl) ?_
  refine WL.nil ?_
  refine En.ret ?_
  exact En.back ht ((r.length : Int) != x.fLetters) h (by kernel_rfl) rfl
theorem en111 : ∀ args w, (callFunc 111 args).run Try.prog w = .ok (.enter 111 args) w := enters_of Try.func111 (by kernel_rfl) rfl
def detC2_vc (q : Int) (n : Int) (Q : Bool → Prop) : Prop :=
  Q ((decide (q < 0)) || (decide (q ≥ n)))
theorem detC2_walk (q : Int) (n : Int) (Q : Bool → Prop) (h : detC2_vc q n Q) : Ct 112 [.sv (.one (I q)), .sv (.one (.ptr 0 0))] [.box [I n] 3 true] Q (fun (r : Bool) => .sv (.one (B r))) := by
  have ht := tab_ok
  refine Ct.body Try.func112 rfl rfl rfl rfl (fun c hn => ?_)
  unfold detC2_vc at h
  refine En.seq ?_
  refine En.region ?_
  refine WL.run ht hn 1 ⟨[(0, .sv (.one (I q))), (1, .sv (.one (.ptr 0 0)))], [.box [I n] 3 true]⟩ (by kernel_rfl) ?_
  refine WL.nil ?_
  refine En.seq ?_
  refine En.region ?_
  refine WL.run ht hn 3 ⟨[(0, .sv (.one (I q))), (1, .sv (.one (.ptr 0 0))), (6, .sv (.one (B (decide (q < 0)))))], [.box [I n] 3 true]⟩ (by kernel_rfl) ?_
  refine WL.thru ⟨[(3, .sv (.one (B ((decide (q < 0)) || (decide (q ≥ n))))))], [.gone]⟩ ?_ ?_
  · refine splitB (decide (q < 0)) (fun hb0 => ?_) (fun hb0 => ?_)
    · refine WL.setB 6 hb0 (by kernel_rfl) ?_
      refine WL.run ht hn 5 ⟨[(3, .sv (.one (B true)))], [.gone]⟩ (by kernel_rfl) ?_
      exact WL.nil (sub_ok (by simp only [hb0]; kernel_rfl))
    · refine WL.setB 6 hb0 (by kernel_rfl) ?_
      refine WL.run ht hn 5 ⟨[(3, .sv (.one (B (decide (q ≥ n)))))], [.gone]⟩ (by kernel_rfl) ?_
      exact WL.nil (sub_ok (by simp only [hb0]; kernel_rfl))
  · refine En.ret ?_
    exact En.back ht ((decide (q < 0)) || (decide (q ≥ n))) h (by kernel_rfl) rfl
theorem en112 : ∀ args w, (callFunc 112 args).run Try.prog w = .ok (.enter 112 args) w := enters_of Try.func112 (by kernel_rfl) rfl
def detC3_vc (l : (List Int)) (domno : (Int → Prop)) (no : (Int → Bool)) (Q : Bool → Prop) : Prop :=
  l.length ≤ 9223372036854775807 →
  ((∀ x_ ∈ l, domno x_) ∧
  Q (l.any no))
theorem detC3_walk (l : (List Int)) (domno : (Int → Prop)) (no : (Int → Bool)) (Q : Bool → Prop) (h : detC3_vc l domno no Q) : Ct 113 [.sv (.one (LS intT l)), .sv (.one (.ptr 0 0))] [.box [.rd (fvR (fun (x : Int) => [.sv (.one (I x))]) (fun (r : Bool) => .sv (.one (B r))) domno no)] 134 true] Q (fun (r : Bool) => .sv (.one (B r))) := by
  have ht := tab_ok
  refine Ct.body Try.func113 rfl rfl rfl rfl (fun c hn => ?_)
  unfold detC3_vc at h
  refine En.lenL 0 (by rfl) (fun hl => ?_)
  replace h := h hl
  clear hl
  refine En.seq ?_
  refine En.region ?_
  refine WL.run ht hn 1 ⟨[(0, .sv (.one (LS intT l))), (1, .sv (.one (.ptr 0 0)))], [.box [.rd (fvR (fun (x : Int) => [.sv (.one (I x))]) (fun (r : Bool) => .sv (.one (B r))) domno no)] 134 true]⟩ (by kernel_rfl) ?_
  refine WL.nil ?_
  refine En.seq ?_
  refine En.region ?_
  refine WL.run ht hn 2 ⟨[(4, .sv (.one (LS intT l))), (5, .sv (.one (.rd (fvR (fun (x : Int) => [.sv (.one (I x))]) (fun (r : Bool) => .sv (.one (B r))) domno no))))], [.gone]⟩ (by kernel_rfl) ?_
  have hp := h.1
  replace h := h.2
  refine WL.mt0 (K := []) (p := none) hn (by rfl) (mt_call (anyInt_ct l domno no hp) en77 (caps := []) [] rfl (by rfl) (by kernel_rfl) (by kernel_rfl) (by rfl) (by rfl) (by rfl)) (by rfl) (by rfl) (by rfl) ?_
  refine WL.run ht hn 1 ⟨[(3, .sv (.one (B (l.any no))))], [.gone]⟩ (by kernel_rfl) ?_
  refine WL.nil ?_
  refine En.ret ?_
  exact En.back ht (l.any no) h (by kernel_rfl) rfl
theorem en113 : ∀ args w, (callFunc 113 args).run Try.prog w = .ok (.enter 113 args) w := enters_of Try.func113 (by kernel_rfl) rfl
def detC4_vc (m : Int) (Q : Bool → Prop) : Prop :=
  Q ((m != 0) && (m != 1))
theorem detC4_walk (m : Int) (Q : Bool → Prop) (h : detC4_vc m Q) : Ct 114 [.sv (.one (I m))] [] Q (fun (r : Bool) => .sv (.one (B r))) := by
  have ht := tab_ok
  refine Ct.body Try.func114 rfl rfl rfl rfl (fun c hn => ?_)
  unfold detC4_vc at h
  refine En.seq ?_
  refine En.region ?_
  refine WL.run ht hn 1 ⟨[(0, .sv (.one (I m)))], []⟩ (by kernel_rfl) ?_
  refine WL.nil ?_
  refine En.seq ?_
  refine En.region ?_
  refine WL.run ht hn 3 ⟨[(0, .sv (.one (I m))), (5, .sv (.one (B (m != 0))))], []⟩ (by kernel_rfl) ?_
  refine WL.thru ⟨[(2, .sv (.one (B ((m != 0) && (m != 1)))))], []⟩ ?_ ?_
  · refine splitB (m != 0) (fun hb0 => ?_) (fun hb0 => ?_)
    · refine WL.setB 5 hb0 (by kernel_rfl) ?_
      refine WL.run ht hn 4 ⟨[(2, .sv (.one (B (m != 1))))], []⟩ (by kernel_rfl) ?_
      exact WL.nil (sub_ok (by simp only [hb0]; kernel_rfl))
    · refine WL.setB 5 hb0 (by kernel_rfl) ?_
      refine WL.run ht hn 4 ⟨[(2, .sv (.one (B false)))], []⟩ (by kernel_rfl) ?_
      exact WL.nil (sub_ok (by simp only [hb0]; kernel_rfl))
  · refine En.ret ?_
    exact En.back ht ((m != 0) && (m != 1)) h (by kernel_rfl) rfl
theorem en114 : ∀ args w, (callFunc 114 args).run Try.prog w = .ok (.enter 114 args) w := enters_of Try.func114 (by kernel_rfl) rfl
theorem detC1_ct (r : (List Int)) (x : ApiDet)  : Ct 111 [.sv (.one (LS intT r)), .sv (.one (.ptr 0 0))] [.box [I x.fLetters, I x.fStart, LS (lsT intT) x.fNext, LS intT x.fMark] 25 true] (fun (_ : Unit) => True) (fun _ => .sv (.one (B ((r.length : Int) != x.fLetters)))) := by
  refine (detC1_walk r x (fun res_ => res_ = ((r.length : Int) != x.fLetters)) ?_).fun
  exact fun _ => rfl
theorem detC2_ct (q : Int) (n : Int)  : Ct 112 [.sv (.one (I q)), .sv (.one (.ptr 0 0))] [.box [I n] 3 true] (fun (_ : Unit) => True) (fun _ => .sv (.one (B (altNo n q)))) := by
  refine (detC2_walk q n (fun res_ => res_ = (altNo n q)) ?_).fun
  rfl
theorem detC3_ct (l : (List Int)) (domno : (Int → Prop)) (no : (Int → Bool)) (hd : ∀ x ∈ l, domno x) : Ct 113 [.sv (.one (LS intT l)), .sv (.one (.ptr 0 0))] [.box [.rd (fvR (fun (x : Int) => [.sv (.one (I x))]) (fun (r : Bool) => .sv (.one (B r))) domno no)] 134 true] (fun (_ : Unit) => True) (fun _ => .sv (.one (B (l.any no)))) := by
  refine (detC3_walk l domno no (fun res_ => res_ = (l.any no)) ?_).fun
  exact fun _ => ⟨hd, rfl⟩
theorem detC4_ct (m : Int)  : Ct 114 [.sv (.one (I m))] [] (fun (_ : Unit) => True) (fun _ => .sv (.one (B ((m != 0) && (m != 1))))) := by
  refine (detC4_walk m (fun res_ => res_ = ((m != 0) && (m != 1))) ?_).fun
  rfl
def detCheck_vc (x : ApiDet) (Q : Int → Prop) : Prop :=
  x.fNext.length ≤ 9223372036854775807 →
  x.fMark.length ≤ 9223372036854775807 →
  (IfP ((decide (x.fLetters < 1)) || (decide (x.fLetters > 4))) (Q 2) (IfP ((decide ((x.fNext.length : Int) < 1)) || (decide ((x.fNext.length : Int) > 3000))) (Q 1) (∃ J : Bool → Prop, (IfP ((x.fMark.length : Int) != (x.fNext.length : Int)) (J true) ((∀ x_ ∈ x.fNext, (fun _ => True) x_) ∧
  J (x.fNext.any (fun r => (r.length : Int) != (x).fLetters)))) ∧
  (∀ (x32 : Bool), J x32 → IfP x32 (Q 3) (∃ J_2 : Bool → Prop, (((fun _ => True) x.fStart) ∧
  IfP ((altNo (x.fNext.length : Int)) x.fStart) (J_2 true) ((∀ x_ ∈ x.fNext, (fun l => ∀ x ∈ l, (fun _ => True) x) x_) ∧
  J_2 (x.fNext.any (fun l => l.any (altNo (x.fNext.length : Int)))))) ∧
  (∀ (x43 : Bool), J_2 x43 → IfP x43 (Q 2) ((∀ x_ ∈ x.fMark, (fun _ => True) x_) ∧
  IfP (x.fMark.any (fun m => (m != 0) && (m != 1))) (Q 2) (Q 0))))))))
theorem detCheck_walk (x : ApiDet) (Q : Int → Prop) (h : detCheck_vc x Q) : Ct 44 [.sv (.agg [I x.fLetters, I x.fStart, LS (lsT intT) x.fNext, LS intT x.fMark])] [] Q (fun (r : Int) => .sv (.one (I r))) := by
  have ht := tab_ok
  refine Ct.body Try.func44 rfl rfl rfl rfl (fun c hn => ?_)
  unfold detCheck_vc at h
  refine En.lenA 0 2 (by rfl) (by rfl) (fun hl => ?_)
  replace h := h hl
  clear hl
  refine En.lenA 0 3 (by rfl) (by rfl) (fun hl => ?_)
  replace h := h hl
  clear hl
  refine En.seq ?_
  refine En.region ?_
  refine WL.run ht hn 2 ⟨[(1, .sv (.one (.ptr 0 0)))], [.box [I x.fLetters, I x.fStart, LS (lsT intT) x.fNext, LS intT x.fMark] 25 false]⟩ (by kernel_rfl) ?_
  refine WL.nil ?_
  refine En.seq ?_
  refine En.seq ?_
  refine En.region ?_
  refine WL.run ht hn 4 ⟨[(1, .sv (.one (.ptr 0 0))), (8, .sv (.one (B (decide (x.fLetters < 1)))))], [.box [I x.fLetters, I x.fStart, LS (lsT intT) x.fNext, LS intT x.fMark] 25 false]⟩ (by kernel_rfl) ?_
  refine WL.thru ⟨[(1, .sv (.one (.ptr 0 0))), (12, .sv (.one (B ((decide (x.fLetters < 1)) || (decide (x.fLetters > 4))))))], [.box [I x.fLetters, I x.fStart, LS (lsT intT) x.fNext, LS intT x.fMark] 25 false]⟩ ?_ ?_
  · refine splitB (decide (x.fLetters < 1)) (fun hb0 => ?_) (fun hb0 => ?_)
    · refine WL.setB 8 hb0 (by kernel_rfl) ?_
      refine WL.run ht hn 4 ⟨[(1, .sv (.one (.ptr 0 0))), (12, .sv (.one (B true)))], [.box [I x.fLetters, I x.fStart, LS (lsT intT) x.fNext, LS intT x.fMark] 25 false]⟩ (by kernel_rfl) ?_
      exact WL.nil (sub_ok (by simp only [hb0]; kernel_rfl))
    · refine WL.setB 8 hb0 (by kernel_rfl) ?_
      refine WL.run ht hn 4 ⟨[(1, .sv (.one (.ptr 0 0))), (12, .sv (.one (B (decide (x.fLetters > 4)))))], [.box [I x.fLetters, I x.fStart, LS (lsT intT) x.fNext, LS intT x.fMark] 25 false]⟩ (by kernel_rfl) ?_
      exact WL.nil (sub_ok (by simp only [hb0]; kernel_rfl))
  · refine En.cond (b := ((decide (x.fLetters < 1)) || (decide (x.fLetters > 4)))) (by kernel_rfl) (fun hb => ?_) (fun hb => ?_)
    · replace h := h.1 hb
      refine En.seq ?_
      refine En.region ?_
      refine WL.run ht hn 1 ⟨[(2, .sv (.one (I 2)))], [.gone]⟩ (by kernel_rfl) ?_
      refine WL.nil ?_
      refine En.ret ?_
      exact En.back ht 2 h (by kernel_rfl) rfl
    · replace h := h.2 hb
      refine En.skip ?_
      refine En.seq ?_
      refine En.region ?_
      refine WL.run ht hn 5 ⟨[(1, .sv (.one (.ptr 0 0))), (3, .sv (.one (.ptr 1 0)))], [.box [I x.fLetters, I x.fStart, LS (lsT intT) x.fNext, LS intT x.fMark] 25 false, .box [I (x.fNext.length : Int)] 3 false]⟩ (by kernel_rfl) ?_
      refine WL.nil ?_
      refine En.seq ?_
      refine En.seq ?_
      refine En.region ?_
      refine WL.run ht hn 3 ⟨[(1, .sv (.one (.ptr 0 0))), (3, .sv (.one (.ptr 1 0))), (18, .sv (.one (B (decide ((x.fNext.length : Int) < 1)))))], [.box [I x.fLetters, I x.fStart, LS (lsT intT) x.fNext, LS intT x.fMark] 25 false, .box [I (x.fNext.length : Int)] 3 false]⟩ (by kernel_rfl) ?_
      refine WL.thru ⟨[(1, .sv (.one (.ptr 0 0))), (3, .sv (.one (.ptr 1 0))), (21, .sv (.one (B ((decide ((x.fNext.length : Int) < 1)) || (decide ((x.fNext.length : Int) > 3000))))))], [.box [I x.fLetters, I x.fStart, LS (lsT intT) x.fNext, LS intT x.fMark] 25 false, .box [I (x.fNext.length : Int)] 3 false]⟩ ?_ ?_
      · refine splitB (decide ((x.fNext.length : Int) < 1)) (fun hb0 => ?_) (fun hb0 => ?_)
        · refine WL.setB 18 hb0 (by kernel_rfl) ?_
          refine WL.run ht hn 3 ⟨[(1, .sv (.one (.ptr 0 0))), (3, .sv (.one (.ptr 1 0))), (21, .sv (.one (B true)))], [.box [I x.fLetters, I x.fStart, LS (lsT intT) x.fNext, LS intT x.fMark] 25 false, .box [I (x.fNext.length : Int)] 3 false]⟩ (by kernel_rfl) ?_
          exact WL.nil (sub_ok (by simp only [hb0]; kernel_rfl))
        · refine WL.setB 18 hb0 (by kernel_rfl) ?_
          refine WL.run ht hn 3 ⟨[(1, .sv (.one (.ptr 0 0))), (3, .sv (.one (.ptr 1 0))), (21, .sv (.one (B (decide ((x.fNext.length : Int) > 3000)))))], [.box [I x.fLetters, I x.fStart, LS (lsT intT) x.fNext, LS intT x.fMark] 25 false, .box [I (x.fNext.length : Int)] 3 false]⟩ (by kernel_rfl) ?_
          exact WL.nil (sub_ok (by simp only [hb0]; kernel_rfl))
      · refine En.cond (b := ((decide ((x.fNext.length : Int) < 1)) || (decide ((x.fNext.length : Int) > 3000)))) (by kernel_rfl) (fun hb => ?_) (fun hb => ?_)
        · replace h := h.1 hb
          refine En.seq ?_
          refine En.region ?_
          refine WL.run ht hn 1 ⟨[(2, .sv (.one (I 1)))], [.gone, .gone]⟩ (by kernel_rfl) ?_
          refine WL.nil ?_
          refine En.ret ?_
          exact En.back ht 1 h (by kernel_rfl) rfl
        · replace h := h.2 hb
          refine En.skip ?_
          refine En.seq ?_
          obtain ⟨J, h, hJ⟩ := h
          refine En.seqJ (σ := Bool) (fun zz => J zz) (fun zz => ⟨[(1, .sv (.one (.ptr 0 0))), (3, .sv (.one (.ptr 1 0))), (32, .sv (.one (B zz)))], [.box [I x.fLetters, I x.fStart, LS (lsT intT) x.fNext, LS intT x.fMark] 25 false, .box [I (x.fNext.length : Int)] 3 false]⟩) ?_ ?_
          · refine En.region ?_
            refine WL.run ht hn 6 ⟨[(1, .sv (.one (.ptr 0 0))), (3, .sv (.one (.ptr 1 0))), (27, .sv (.one (B ((x.fMark.length : Int) != (x.fNext.length : Int)))))], [.box [I x.fLetters, I x.fStart, LS (lsT intT) x.fNext, LS intT x.fMark] 25 false, .box [I (x.fNext.length : Int)] 3 false]⟩ (by kernel_rfl) ?_
            refine splitB ((x.fMark.length : Int) != (x.fNext.length : Int)) (fun hb => ?_) (fun hb => ?_)
            · replace h := h.1 hb
              refine WL.setB 27 hb (by kernel_rfl) ?_
              refine WL.run ht hn 5 ⟨[(1, .sv (.one (.ptr 0 0))), (3, .sv (.one (.ptr 1 0))), (32, .sv (.one (B true)))], [.box [I x.fLetters, I x.fStart, LS (lsT intT) x.fNext, LS intT x.fMark] 25 false, .box [I (x.fNext.length : Int)] 3 false]⟩ (by kernel_rfl) ?_
              refine WL.nil ?_
              exact En.at (I := fun zz => J zz) (T := fun zz => ⟨[(1, .sv (.one (.ptr 0 0))), (3, .sv (.one (.ptr 1 0))), (32, .sv (.one (B zz)))], [.box [I x.fLetters, I x.fStart, LS (lsT intT) x.fNext, LS intT x.fMark] 25 false, .box [I (x.fNext.length : Int)] 3 false]⟩) true h (by kernel_rfl)
            · replace h := h.2 hb
              refine WL.setB 27 hb (by kernel_rfl) ?_
              refine WL.run ht hn 3 ⟨[(1, .sv (.one (.ptr 0 0))), (3, .sv (.one (.ptr 1 0))), (27, .sv (.one (B false))), (29, .sv (.one (LS (lsT intT) x.fNext))), (30, .sv (.one (.fn 111 [0])))], [.box [I x.fLetters, I x.fStart, LS (lsT intT) x.fNext, LS intT x.fMark] 25 false, .box [I (x.fNext.length : Int)] 3 false]⟩ (by kernel_rfl) ?_
              have hp := h.1
              replace h := h.2
              refine WL.mt0 (K := []) (p := none) hn (by rfl) (mt_lendF [0] (by rfl) (by rfl) (mt_ghost 30 (.sv (.one (.rd (fvR (fun (x_ : (List Int)) => [.sv (.one (LS intT x_))]) (fun (r : Bool) => .sv (.one (B r))) (fun _ => True) (fun r => (r.length : Int) != (x).fLetters))))) (by rfl) (fv_of (M := [.box [I x.fLetters, I x.fStart, LS (lsT intT) x.fNext, LS intT x.fMark] 25 true]) (caps := [0]) (fun x_ _ => detC1_ct x_ x) en111 rfl (by kernel_rfl) (by rfl) (fun _ => rfl)) (mt_call (anyLInt_ct x.fNext (fun _ => True) (fun r => (r.length : Int) != (x).fLetters) hp) en63 (caps := []) [] rfl (by rfl) (by kernel_rfl) (by kernel_rfl) (by rfl) (by rfl) (by rfl)))) (by rfl) (by rfl) (by rfl) ?_
              refine WL.run ht hn 1 ⟨[(1, .sv (.one (.ptr 0 0))), (3, .sv (.one (.ptr 1 0))), (32, .sv (.one (B (x.fNext.any (fun r => (r.length : Int) != (x).fLetters)))))], [.box [I x.fLetters, I x.fStart, LS (lsT intT) x.fNext, LS intT x.fMark] 25 false, .box [I (x.fNext.length : Int)] 3 false]⟩ (by kernel_rfl) ?_
              refine WL.nil ?_
              exact En.at (I := fun zz => J zz) (T := fun zz => ⟨[(1, .sv (.one (.ptr 0 0))), (3, .sv (.one (.ptr 1 0))), (32, .sv (.one (B zz)))], [.box [I x.fLetters, I x.fStart, LS (lsT intT) x.fNext, LS intT x.fMark] 25 false, .box [I (x.fNext.length : Int)] 3 false]⟩) (x.fNext.any (fun r => (r.length : Int) != (x).fLetters)) h (by kernel_rfl)
          · intro x32 h
            replace h := hJ _ h
            show En c ⟨[(1, .sv (.one (.ptr 0 0))), (3, .sv (.one (.ptr 1 0))), (32, .sv (.one (B x32)))], [.box [I x.fLetters, I x.fStart, LS (lsT intT) x.fNext, LS intT x.fMark] 25 false, .box [I (x.fNext.length : Int)] 3 false]⟩ _
            refine En.cond (b := x32) (by kernel_rfl) (fun hb => ?_) (fun hb => ?_)
            · replace h := h.1 hb
              refine En.seq ?_
              refine En.region ?_
              refine WL.run ht hn 1 ⟨[(2, .sv (.one (I 3)))], [.gone, .gone]⟩ (by kernel_rfl) ?_
              refine WL.nil ?_
              refine En.ret ?_
              exact En.back ht 3 h (by kernel_rfl) rfl
            · replace h := h.2 hb
              refine En.skip ?_
              refine En.seq ?_
              refine En.region ?_
              refine WL.run ht hn 3 ⟨[(1, .sv (.one (.ptr 0 0))), (4, .sv (.one (.ptr 2 0)))], [.box [I x.fLetters, I x.fStart, LS (lsT intT) x.fNext, LS intT x.fMark] 25 false, .box [I (x.fNext.length : Int)] 3 false, .box [.fn 112 [1]] 134 false]⟩ (by kernel_rfl) ?_
              refine WL.nil ?_
              refine En.seq ?_
              obtain ⟨J_2, h, hJ_2⟩ := h
              refine En.seqJ (σ := Bool) (fun zz => J_2 zz) (fun zz => ⟨[(1, .sv (.one (.ptr 0 0))), (43, .sv (.one (B zz)))], [.box [I x.fLetters, I x.fStart, LS (lsT intT) x.fNext, LS intT x.fMark] 25 false, .gone, .gone]⟩) ?_ ?_
              · refine En.region ?_
                refine WL.run ht hn 3 ⟨[(1, .sv (.one (.ptr 0 0))), (4, .sv (.one (.ptr 2 0))), (34, .sv (.one (.fn 112 [1]))), (36, .sv (.one (I x.fStart)))], [.box [I x.fLetters, I x.fStart, LS (lsT intT) x.fNext, LS intT x.fMark] 25 false, .box [I (x.fNext.length : Int)] 3 false, .box [.fn 112 [1]] 134 false]⟩ (by kernel_rfl) ?_
                refine WL.freeze [1] (by rfl) ?_
                refine WL.ghost 34 (.sv (.one (.rd (fvR (fun (x_ : Int) => [.sv (.one (I x_))]) (fun (r : Bool) => .sv (.one (B r))) (fun _ => True) (altNo (x.fNext.length : Int)))))) (by rfl) (fv_of (M := [.box [I (x.fNext.length : Int)] 3 true]) (caps := [1]) (fun x_ _ => detC2_ct x_ (x.fNext.length : Int)) en112 rfl (by kernel_rfl) (by rfl) (fun _ => rfl)) ?_
                have hp := h.1
                replace h := h.2
                refine WL.mt0 (K := []) (p := none) hn (by rfl) (mt_callv x.fStart hp rfl (by rfl) (by rfl) (by rfl) (by rfl)) (by rfl) (by rfl) (by rfl) ?_
                refine WL.run ht hn 1 ⟨[(1, .sv (.one (.ptr 0 0))), (4, .sv (.one (.ptr 2 0))), (38, .sv (.one (B ((altNo (x.fNext.length : Int)) x.fStart))))], [.box [I x.fLetters, I x.fStart, LS (lsT intT) x.fNext, LS intT x.fMark] 25 false, .box [I (x.fNext.length : Int)] 3 true, .box [.fn 112 [1]] 134 false]⟩ (by kernel_rfl) ?_
                refine splitB ((altNo (x.fNext.length : Int)) x.fStart) (fun hb => ?_) (fun hb => ?_)
                · replace h := h.1 hb
                  refine WL.setB 38 hb (by kernel_rfl) ?_
                  refine WL.run ht hn 5 ⟨[(1, .sv (.one (.ptr 0 0))), (43, .sv (.one (B true)))], [.box [I x.fLetters, I x.fStart, LS (lsT intT) x.fNext, LS intT x.fMark] 25 false, .gone, .gone]⟩ (by kernel_rfl) ?_
                  refine WL.nil ?_
                  exact En.at (I := fun zz => J_2 zz) (T := fun zz => ⟨[(1, .sv (.one (.ptr 0 0))), (43, .sv (.one (B zz)))], [.box [I x.fLetters, I x.fStart, LS (lsT intT) x.fNext, LS intT x.fMark] 25 false, .gone, .gone]⟩) true h (by kernel_rfl)
                · replace h := h.2 hb
                  refine WL.setB 38 hb (by kernel_rfl) ?_
                  refine WL.run ht hn 3 ⟨[(1, .sv (.one (.ptr 0 0))), (38, .sv (.one (B false))), (40, .sv (.one (LS (lsT intT) x.fNext))), (41, .sv (.one (.fn 113 [2])))], [.box [I x.fLetters, I x.fStart, LS (lsT intT) x.fNext, LS intT x.fMark] 25 false, .box [I (x.fNext.length : Int)] 3 true, .box [.fn 112 [1]] 134 false]⟩ (by kernel_rfl) ?_
                  refine WL.boxTurn (.rd (fvR (fun (x_ : Int) => [.sv (.one (I x_))]) (fun (r : Bool) => .sv (.one (B r))) (fun _ => True) (altNo (x.fNext.length : Int)))) 2 0 (by rfl) (by rfl) (fv_at (fv_of (M := [.box [I (x.fNext.length : Int)] 3 true]) (caps := [1]) (fun x_ _ => detC2_ct x_ (x.fNext.length : Int)) en112 rfl (by kernel_rfl) (by rfl) (fun _ => rfl))) ?_
                  have hp := h.1
                  replace h := h.2
                  refine WL.mt0 (K := []) (p := none) hn (by rfl) (mt_lendF [2] (by rfl) (by rfl) (mt_ghost 41 (.sv (.one (.rd (fvR (fun (x_ : (List Int)) => [.sv (.one (LS intT x_))]) (fun (r : Bool) => .sv (.one (B r))) (fun l => ∀ x ∈ l, (fun _ => True) x) (fun l => l.any (altNo (x.fNext.length : Int))))))) (by rfl) (fv_of (M := [.box [.rd (fvR (fun (x_ : Int) => [.sv (.one (I x_))]) (fun (r : Bool) => .sv (.one (B r))) (fun _ => True) (altNo (x.fNext.length : Int)))] 134 true]) (caps := [2]) (fun x_ hx => detC3_ct x_ (fun _ => True) (altNo (x.fNext.length : Int)) hx) en113 rfl (by kernel_rfl) (by rfl) (fun _ => rfl)) (mt_call (anyLInt_ct x.fNext (fun l => ∀ x ∈ l, (fun _ => True) x) (fun l => l.any (altNo (x.fNext.length : Int))) hp) en63 (caps := []) [] rfl (by rfl) (by kernel_rfl) (by kernel_rfl) (by rfl) (by rfl) (by rfl)))) (by rfl) (by rfl) (by rfl) ?_
                  refine WL.run ht hn 1 ⟨[(1, .sv (.one (.ptr 0 0))), (43, .sv (.one (B (x.fNext.any (fun l => l.any (altNo (x.fNext.length : Int)))))))], [.box [I x.fLetters, I x.fStart, LS (lsT intT) x.fNext, LS intT x.fMark] 25 false, .gone, .gone]⟩ (by kernel_rfl) ?_
                  refine WL.nil ?_
                  exact En.at (I := fun zz => J_2 zz) (T := fun zz => ⟨[(1, .sv (.one (.ptr 0 0))), (43, .sv (.one (B zz)))], [.box [I x.fLetters, I x.fStart, LS (lsT intT) x.fNext, LS intT x.fMark] 25 false, .gone, .gone]⟩) (x.fNext.any (fun l => l.any (altNo (x.fNext.length : Int)))) h (by kernel_rfl)
              · intro x43 h
                replace h := hJ_2 _ h
                show En c ⟨[(1, .sv (.one (.ptr 0 0))), (43, .sv (.one (B x43)))], [.box [I x.fLetters, I x.fStart, LS (lsT intT) x.fNext, LS intT x.fMark] 25 false, .gone, .gone]⟩ _
                refine En.cond (b := x43) (by kernel_rfl) (fun hb => ?_) (fun hb => ?_)
                · replace h := h.1 hb
                  refine En.seq ?_
                  refine En.region ?_
                  refine WL.run ht hn 1 ⟨[(2, .sv (.one (I 2)))], [.gone, .gone, .gone]⟩ (by kernel_rfl) ?_
                  refine WL.nil ?_
                  refine En.ret ?_
                  exact En.back ht 2 h (by kernel_rfl) rfl
                · replace h := h.2 hb
                  refine En.skip ?_
                  refine En.seq ?_
                  refine En.seq ?_
                  refine En.region ?_
                  refine WL.run ht hn 2 ⟨[(45, .sv (.one (LS intT x.fMark)))], [.gone, .gone, .gone]⟩ (by kernel_rfl) ?_
                  have hp := h.1
                  replace h := h.2
                  refine WL.mt0 (K := []) (p := none) hn (by rfl) (mt_call (Ct.args (anyInt_ct x.fMark (fun _ => True) (fun m => (m != 0) && (m != 1)) hp) (argLe_same (argLe_to (fv_const (ins := (fun (x_ : Int) => [.sv (.one (I x_))])) (out := (fun (r : Bool) => .sv (.one (B r)))) (dom := (fun _ => True)) (φ := (fun m => (m != 0) && (m != 1))) (fun x_ _ => detC4_ct x_) en114) argLe_nil))) en77 (caps := []) [] rfl (by rfl) (by kernel_rfl) (by kernel_rfl) (by rfl) (by rfl) (by rfl)) (by rfl) (by rfl) (by rfl) ?_
                  refine WL.nil ?_
                  refine En.cond (b := (x.fMark.any (fun m => (m != 0) && (m != 1)))) (by kernel_rfl) (fun hb => ?_) (fun hb => ?_)
                  · replace h := h.1 hb
                    refine En.seq ?_
                    refine En.region ?_
                    refine WL.run ht hn 1 ⟨[(2, .sv (.one (I 2)))], [.gone, .gone, .gone]⟩ (by kernel_rfl) ?_
                    refine WL.nil ?_
                    refine En.ret ?_
                    exact En.back ht 2 h (by kernel_rfl) rfl
                  · replace h := h.2 hb
                    refine En.skip ?_
                    refine En.seq ?_
                    refine En.region ?_
                    refine WL.run ht hn 1 ⟨[(2, .sv (.one (I 0)))], [.gone, .gone, .gone]⟩ (by kernel_rfl) ?_
                    refine WL.nil ?_
                    refine En.ret ?_
                    exact En.back ht 0 h (by kernel_rfl) rfl
theorem en44 : ∀ args w, (callFunc 44 args).run Try.prog w = .ok (.enter 44 args) w := enters_of Try.func44 (by kernel_rfl) rfl
theorem detCheck_ct (x : ApiDet)  : Ct 44 [.sv (.agg [I x.fLetters, I x.fStart, LS (lsT intT) x.fNext, LS intT x.fMark])] [] (fun (_ : Unit) => True) (fun _ => .sv (.one (I (detErr x)))) := by
  refine (detCheck_walk x (fun res_ => res_ = (detErr x)) ?_).fun
  intro _ _
  refine ⟨fun h1 => ?_, fun h1 => ⟨fun h2 => ?_, fun h2 => ?_⟩⟩
  · show _ = detErr x
    unfold detErr; rw [if_pos h1]
  · show _ = detErr x
    unfold detErr; rw [if_neg (by rw [h1]; decide), if_pos h2]
  refine ⟨fun b => b = (((x.fMark.length : Int) != (x.fNext.length : Int)) || x.fNext.any (fun r => (r.length : Int) != (x).fLetters)), ⟨fun h => by rw [h]; rfl, fun h => ⟨fun _ _ => trivial, by rw [h]; rfl⟩⟩, ?_⟩
  rintro b rfl
  refine ⟨fun h3 => ?_, fun h3 => ?_⟩
  · show _ = detErr x
    unfold detErr; rw [if_neg (by rw [h1]; decide), if_neg (by rw [h2]; decide), if_pos h3]
  refine ⟨fun b => b = (altNo (x.fNext.length : Int) x.fStart || x.fNext.any (fun l => l.any (altNo (x.fNext.length : Int)))), ⟨trivial, fun h => by rw [h]; rfl, fun h => ⟨fun _ _ _ _ => trivial, by rw [h]; rfl⟩⟩, ?_⟩
  rintro b rfl
  refine ⟨fun h4 => ?_, fun h4 => ⟨fun _ _ => trivial, fun h5 => ?_, fun h5 => ?_⟩⟩
  · show _ = detErr x
    unfold detErr; rw [if_neg (by rw [h1]; decide), if_neg (by rw [h2]; decide), if_neg (by rw [h3]; decide), if_pos h4]
  · show _ = detErr x
    unfold detErr; rw [if_neg (by rw [h1]; decide), if_neg (by rw [h2]; decide), if_neg (by rw [h3]; decide), if_neg (by rw [h4]; decide), if_pos h5]
  · show _ = detErr x
    unfold detErr; rw [if_neg (by rw [h1]; decide), if_neg (by rw [h2]; decide), if_neg (by rw [h3]; decide), if_neg (by rw [h4]; decide), if_neg (by rw [h5]; decide)]
end Go.Proofs.Ytiinkohfldopbaa

/- Symbolic states of a walk: cells of arrays of numbers, at places that are told as the program runs. No condition. -/
namespace Go.Proofs.Ytiinkohfldopbaa
open Go.RowKit Go.MapKept
set_option linter.unusedSimpArgs false
set_option linter.unusedVariables false
set_option maxRecDepth 100000
set_option linter.unusedSectionVars false

/-- the number at a place -/
def arrG (l : List Int) (k : Int) : Int := l.getD k.toNat 0
/-- what a cell holds once v is put at k -/
def setE (k : Int) (j : Nat) (v e : Int) : Int := if k = (j : Int) then v else e
def setL (k v : Int) : Nat → List Int → List Int
  | _, [] => []
  | j, e :: es => setE k j v e :: setL k v (j + 1) es
theorem setL_far {k v : Int} : ∀ (l : List Int) (j : Nat), k < (j : Int) → setL k v j l = l
  | [], _, _ => rfl
  | e :: es, j, h => by
    rw [setL, setL_far es (j + 1) (by omega), setE, if_neg (by omega)]
theorem setL_at {k v : Int} : ∀ (l : List Int) (j q : Nat), k = ((j + q : Nat) : Int) → q < l.length → (l.map I).take q ++ [I v] ++ (l.map I).drop (q + 1) = (setL k v j l).map I
  | [], _, _, _, h => absurd h (Nat.not_lt_zero _)
  | e :: es, j, 0, hk, _ => by
    rw [setL, setL_far es (j + 1) (by omega), setE, if_pos (by omega)]
    rfl
  | e :: es, j, q + 1, hk, h => by
    rw [setL, show setE k j v e = e from if_neg (by omega)]
    have := setL_at (k := k) (v := v) es (j + 1) q (by omega) (by simpa using h)
    rw [List.map_cons, List.map_cons, ← this]
    rfl
theorem setA_ok (l : List Int) {k v : Int} (h : 0 ≤ k ∧ k < (l.length : Int)) : (l.map I).take k.toNat ++ [I v] ++ (l.map I).drop (k.toNat + 1) = (setL k v 0 l).map I :=
  setL_at l 0 k.toNat (by omega) (by omega)
theorem arrG_at (l : List Int) {k : Int} (h : 0 ≤ k ∧ k < (l.length : Int)) : (l.map I)[k.toNat]? = some (I (arrG l k)) := by
  have : k.toNat < l.length := by omega
  unfold arrG
  rw [List.getElem?_map, List.getD_eq_getElem?_getD, List.getElem?_eq_getElem this]
  rfl
theorem partE_one {cells : List At} {q : Nat} {y : At} (h : cells[q]? = some y) : partE cells q 1 false = some (.one y) := by
  unfold partE
  rw [h]
section
variable {c : Cfg} {S S1 : St} {o : Oper} {tab : Tab} {n : Nat} {ops : Array Oper} {rest : List Oper} {N : Po}
theorem val_loadPV {i t ty : Nat} {fz : Bool} {ti : TI} {x : Operand} {cells : List At} (l : List Int) {k : Int} (ht : tab.ok) (ho : o.op = .load t x) (h3 : tab t = some ti) (h4 : ti.size = 1) (h5 : ti.agg = false) (hx : evX S.F x = some (.sv (.one (.ptr i k.toNat)))) (hm : S.M[i]? = some (.box cells ty fz)) (hc : cells = l.map I) (hk : 0 ≤ k ∧ k < (l.length : Int)) : Val c S o (.sv (.one (I (arrG l k)))) := fun a w g hs h => by
  obtain ⟨dst, op, type, pos, after, guard⟩ := o
  have ho : op = .load t x := ho
  subst ho
  refine evV_ok ht h ?_
  show evLoad tab S t x = _
  subst hc
  simp only [evLoad, hx, hm, h3, h4, h5, partE_one (arrG_at l hk)]
theorem WL.storePV {t i ty : Nat} {ti : TI} {x y : Operand} {v : Int} {cells r : List At} (l : List Int) {k : Int} (ht : tab.ok) (hn : c.n = n) (hw : wantE ops S.F o = some true) (ho : o.op = .store t x y) (h1 : tab t = some ti) (h4 : ti.size = 1) (hx : evX S.F x = some (.sv (.one (.ptr i k.toNat)))) (hm : S.M[i]? = some (.box cells ty false)) (hy : evX S.F y = some (.sv (.one (I v)))) (hc : cells = l.map I) (hk : 0 ≤ k ∧ k < (l.length : Int)) (hr : (setL k v 0 l).map I = r)
    (e : putE n o.dst (.tup []) ⟨S.F, S.M.set i (.box r ty false)⟩ = some S1) (h : WL c ops rest S1 N) : WL c ops (o :: rest) S N := fun a w ⟨g, hs, hh⟩ => by
  have e' : evM tab n S o = some S1 := by
    unfold evM
    rw [ho]
    subst hc hr
    show evStore tab n S o.dst t x y = _
    have hb : (Nat.beq (svCells (.one (I v))).length ti.size && Nat.ble (k.toNat + (svCells (.one (I v))).length) (l.map I).length) = true := by
      rw [h4]
      show (Nat.beq 1 1 && Nat.ble (k.toNat + 1) (l.map I).length) = true
      rw [List.length_map, Bool.and_eq_true]
      exact ⟨rfl, Nat.ble_eq_true_of_le (by omega)⟩
    unfold evStore
    rw [hx]
    simp only
    rw [hm]
    simp only
    rw [h1]
    simp only
    rw [hy]
    simp only
    rw [hb]
    simp only
    rw [← e, ← setA_ok l hk]
    rfl
  unfold wpList
  rw [if_pos (wantE_ok hh hw)]
  refine .inl ?_
  unfold Oper.wp
  obtain ⟨v, w', hs', h2 | ⟨h2, rfl⟩, h3⟩ := evM_ok ht hh hn e'
  · rw [h2]; exact h _ _ ⟨g, hs', h3⟩
  · rw [h2]; exact h _ _ ⟨g, hs', h3⟩
end
end Go.Proofs.Ytiinkohfldopbaa

/- Going to and fro: ways that leave a place to the right. No program. No condition. -/
namespace Go.Proofs.Ytiinkohfldopbaa
open Go.RowKit Go.MapKept
set_option linter.unusedSimpArgs false
set_option linter.unusedVariables false
set_option maxRecDepth 100000
set_option linter.unusedSectionVars false

/-- what is met without a repetition is not more than there is -/
theorem inj_le {α : Type} {l : List α} {m : Nat} (f : Nat → α) (hf : ∀ i j, i < j → j < m → f i ≠ f j) (hin : ∀ i, i < m → f i ∈ l) : m ≤ l.length := by
  have h1 : ((List.range m).map f).Nodup := by
    rw [List.nodup_iff_pairwise_ne, List.pairwise_map]
    refine List.Pairwise.imp_of_mem ?_ List.pairwise_lt_range
    intro a b _ hb hab
    exact hf a b hab (List.mem_range.1 hb)
  have := nodup_le h1 fun x hx => by
    obtain ⟨i, hi, rfl⟩ := List.mem_map.1 hx
    exact hin i (List.mem_range.1 hi)
  simpa using this
/-- numbers below n -/
def upto (n : Nat) : List Int := (List.range n).map fun (i : Nat) => (i : Int)
theorem mem_upto {n : Nat} {q : Int} : q ∈ upto n ↔ 0 ≤ q ∧ q < (n : Int) := by
  unfold upto
  rw [List.mem_map]
  constructor
  · rintro ⟨i, hi, rfl⟩
    have := List.mem_range.1 hi
    omega
  · intro h
    exact ⟨q.toNat, List.mem_range.2 (by omega), by omega⟩
theorem len_upto {n : Nat} : (upto n).length = n := by simp [upto]
section
variable (nx : Nat → Int → Int) (rt : Nat → Int → Bool)
def stp (c : Int × Int) : Int × Int := if rt c.1.toNat c.2 = true then (c.1 + 1, nx c.1.toNat c.2) else (c.1 - 1, nx c.1.toNat c.2)
def itr : Nat → Int × Int → Int × Int
  | 0, c => c
  | m + 1, c => itr m (stp nx rt c)
/-- who begins at place k in state q leaves k to the right, in state r -/
inductive Ext : Nat → Int → Int → Prop
  | right {k : Nat} {q : Int} (h : rt k q = true) : Ext k q (nx k q)
  | left {k : Nat} {q p r : Int} (h : rt (k + 1) q = false) (h1 : Ext k (nx (k + 1) q) p) (h2 : Ext (k + 1) p r) : Ext (k + 1) q r
/-- who begins at the left in state s leaves k to the right for the first time, in state r -/
inductive E0 (s : Int) : Nat → Int → Prop
  | zero {q : Int} (h : Ext nx rt 0 s q) : E0 s 0 q
  | succ {k : Nat} {p q : Int} (h : E0 s k p) (h2 : Ext nx rt (k + 1) p q) : E0 s (k + 1) q
def Way (m : Nat) (c : Int × Int) (k : Nat) (r : Int) : Prop := itr nx rt m c = ((k : Int) + 1, r) ∧ ∀ i, i < m → 0 ≤ (itr nx rt i c).1 ∧ (itr nx rt i c).1 ≤ (k : Int)
variable {nx rt}
theorem itr_add (a b : Nat) (c : Int × Int) : itr nx rt (a + b) c = itr nx rt b (itr nx rt a c) := by
  induction a generalizing c with
  | zero => rw [Nat.zero_add]; rfl
  | succ a ih => rw [Nat.succ_add]; exact ih _
theorem itr_succ (m : Nat) (c : Int × Int) : itr nx rt (m + 1) c = stp nx rt (itr nx rt m c) := itr_add m 1 c
theorem stp_le (c : Int × Int) : (stp nx rt c).1 ≤ c.1 + 1 := by
  unfold stp
  split <;> simp only <;> omega
theorem Way.comp {m1 m2 : Nat} {c : Int × Int} {k : Nat} {p r : Int} (h1 : Way nx rt m1 c k p) (h2 : Way nx rt m2 ((k : Int) + 1, p) (k + 1) r) : Way nx rt (m1 + m2) c (k + 1) r := by
  refine ⟨by rw [itr_add, h1.1, h2.1], fun i hi => ?_⟩
  by_cases hlt : i < m1
  · have := h1.2 i hlt
    omega
  · have := h2.2 (i - m1) (by omega)
    rw [show i = m1 + (i - m1) by omega, itr_add, h1.1]
    exact this
theorem Ext.way {k : Nat} {q r : Int} (h : Ext nx rt k q r) : ∃ m, Way nx rt m ((k : Int), q) k r := by
  induction h with
  | @right k q h =>
    refine ⟨1, ?_, fun i hi => ?_⟩
    · show stp nx rt _ = _
      unfold stp
      simp only [Int.toNat_natCast]
      rw [if_pos h]
    · have : i = 0 := by omega
      subst this
      show (0 : Int) ≤ (k : Int) ∧ (k : Int) ≤ k
      omega
  | @left k q p r h _ _ ih1 ih2 =>
    obtain ⟨m1, h1⟩ := ih1
    obtain ⟨m2, h2⟩ := ih2
    have hs : stp nx rt (((k + 1 : Nat) : Int), q) = ((k : Int), nx (k + 1) q) := by
      unfold stp
      simp only [Int.toNat_natCast]
      rw [if_neg (by rw [h]; decide)]
      congr 1
      omega
    have h3 := h1.comp (by rw [show ((k : Int) + 1) = ((k + 1 : Nat) : Int) by omega]; exact h2)
    refine ⟨m1 + m2 + 1, ?_, fun i hi => ?_⟩
    · show itr nx rt (m1 + m2) (stp nx rt _) = _
      rw [hs]
      exact h3.1
    · cases i with
      | zero => exact ⟨by show (0 : Int) ≤ ((k + 1 : Nat) : Int); omega, Int.le_refl _⟩
      | succ i =>
        show 0 ≤ (itr nx rt i (stp nx rt _)).1 ∧ (itr nx rt i (stp nx rt _)).1 ≤ _
        rw [hs]
        exact h3.2 i (by omega)
/-- who comes to stand behind k has come to k + 1 -/
theorem crossed {k : Int} : ∀ (m : Nat) (c : Int × Int), c.1 ≤ k → k < (itr nx rt m c).1 → ∃ m1, m1 ≤ m ∧ (itr nx rt m1 c).1 = k + 1 ∧ ∀ i, i < m1 → (itr nx rt i c).1 ≤ k
  | 0, c, h1, h2 => absurd h2 (by show ¬ k < c.1; omega)
  | m + 1, c, h1, h2 => by
    by_cases h : (stp nx rt c).1 ≤ k
    · obtain ⟨m1, h3, h4, h5⟩ := crossed m (stp nx rt c) h h2
      refine ⟨m1 + 1, by omega, h4, fun i hi => ?_⟩
      cases i with
      | zero => exact h1
      | succ i => exact h5 i (by omega)
    · have := stp_le (nx := nx) (rt := rt) c
      refine ⟨1, by omega, ?_, fun i hi => ?_⟩
      · show (stp nx rt c).1 = k + 1
        omega
      · have : i = 0 := by omega
        subst this
        exact h1
theorem way_cut {m m1 : Nat} {c : Int × Int} {k : Nat} {r : Int} (h : Way nx rt m c (k + 1) r) (hm : m1 ≤ m) (h1 : (itr nx rt m1 c).1 = (k : Int) + 1) (h2 : ∀ i, i < m1 → (itr nx rt i c).1 ≤ (k : Int)) :
    Way nx rt m1 c k (itr nx rt m1 c).2 ∧ Way nx rt (m - m1) (((k + 1 : Nat) : Int), (itr nx rt m1 c).2) (k + 1) r := by
  have e : itr nx rt m1 c = (((k + 1 : Nat) : Int), (itr nx rt m1 c).2) := by
    refine Prod.ext ?_ rfl
    rw [h1]
    rfl
  refine ⟨⟨by rw [← h1], fun i hi => ⟨(h.2 i (by omega)).1, h2 i hi⟩⟩, ?_, fun i hi => ?_⟩
  · rw [← e, ← itr_add, show m1 + (m - m1) = m by omega]
    exact h.1
  · rw [← e, ← itr_add]
    exact h.2 (m1 + i) (by omega)
theorem way_ext : ∀ (m k : Nat) (q r : Int), Way nx rt m ((k : Int), q) k r → Ext nx rt k q r := by
  intro m
  induction m using Nat.strongRecOn with
  | _ m ih =>
    intro k q r h
    cases m with
    | zero =>
      have := congrArg Prod.fst h.1
      have : (k : Int) = (k : Int) + 1 := this
      omega
    | succ m =>
      have h1 : itr nx rt m (stp nx rt ((k : Int), q)) = ((k : Int) + 1, r) := h.1
      cases hr : rt k q with
      | true =>
        have hs : stp nx rt ((k : Int), q) = ((k : Int) + 1, nx k q) := by
          unfold stp
          simp only [Int.toNat_natCast]
          rw [if_pos hr]
        cases m with
        | zero =>
          rw [hs] at h1
          have := congrArg Prod.snd h1
          have : nx k q = r := this
          rw [← this]
          exact .right hr
        | succ m =>
          have := (h.2 1 (by omega)).2
          have : (stp nx rt ((k : Int), q)).1 ≤ (k : Int) := this
          rw [hs] at this
          simp only at this
          omega
      | false =>
        have hs : stp nx rt ((k : Int), q) = ((k : Int) - 1, nx k q) := by
          unfold stp
          simp only [Int.toNat_natCast]
          rw [if_neg (by rw [hr]; decide)]
        cases m with
        | zero =>
          rw [hs] at h1
          have : (k : Int) - 1 = (k : Int) + 1 := congrArg Prod.fst h1
          omega
        | succ m =>
          have hb := (h.2 1 (by omega)).1
          have hb : 0 ≤ (stp nx rt ((k : Int), q)).1 := hb
          rw [hs] at hb
          simp only at hb
          obtain ⟨k, rfl⟩ : ∃ j, k = j + 1 := ⟨k - 1, by omega⟩
          have hs : stp nx rt (((k + 1 : Nat) : Int), q) = ((k : Int), nx (k + 1) q) := by
            rw [hs]
            refine Prod.ext ?_ rfl
            show ((k + 1 : Nat) : Int) - 1 = (k : Int)
            omega
          have hw : Way nx rt (m + 1) ((k : Int), nx (k + 1) q) (k + 1) r := by
            refine ⟨by rw [← hs]; exact h1, fun i hi => ?_⟩
            rw [← hs]
            exact h.2 (i + 1) (by omega)
          obtain ⟨m1, h3, h4, h5⟩ := crossed (nx := nx) (rt := rt) (k := (k : Int)) (m + 1) ((k : Int), nx (k + 1) q) (Int.le_refl _) (by rw [hw.1]; show (k : Int) < ((k + 1 : Nat) : Int) + 1; omega)
          obtain ⟨h6, h7⟩ := way_cut hw h3 h4 h5
          exact .left hr (ih m1 (by omega) k _ _ h6) (ih (m + 1 - m1) (by omega) (k + 1) _ _ h7)
theorem E0.way {s : Int} {k : Nat} {q : Int} (h : E0 nx rt s k q) : ∃ m, Way nx rt m (0, s) k q := by
  induction h with
  | zero h => exact h.way
  | @succ k p q _ h2 ih =>
    obtain ⟨m1, h1⟩ := ih
    obtain ⟨m2, h2⟩ := h2.way
    exact ⟨m1 + m2, h1.comp (by rw [show ((k : Int) + 1) = ((k + 1 : Nat) : Int) by omega]; exact h2)⟩
theorem way_e0 {s : Int} : ∀ (k m : Nat) (q : Int), Way nx rt m (0, s) k q → E0 nx rt s k q
  | 0, m, q, h => .zero (way_ext m 0 s q h)
  | k + 1, m, q, h => by
    obtain ⟨m1, h3, h4, h5⟩ := crossed (nx := nx) (rt := rt) (k := (k : Int)) m (0, s) (by show (0 : Int) ≤ k; omega) (by rw [h.1]; show (k : Int) < ((k + 1 : Nat) : Int) + 1; omega)
    obtain ⟨h6, h7⟩ := way_cut h h3 h4 h5
    exact .succ (way_e0 k m1 _ h6) (way_ext _ _ _ _ h7)
/-- a way is no longer than there are places and states -/
theorem way_short {n k m : Nat} {s q : Int} (hs : 0 ≤ s ∧ s < (n : Int)) (hn : ∀ k q, (0 ≤ q ∧ q < (n : Int)) → 0 ≤ nx k q ∧ nx k q < (n : Int)) (h : Way nx rt m (0, s) k q) : m ≤ (k + 1) * n := by
  have hin : ∀ i, 0 ≤ (itr nx rt i (0, s)).2 ∧ (itr nx rt i (0, s)).2 < (n : Int) := by
    intro i
    induction i with
    | zero => exact hs
    | succ i ih =>
      rw [itr_succ]
      unfold stp
      split <;> exact hn _ _ ih
  have hlen : ((upto (k + 1)).flatMap fun a => (upto n).map fun b => (a, b)).length = (k + 1) * n := by
    rw [List.length_flatMap, List.map_congr_left (g := fun _ => n) fun a _ => by rw [List.length_map, len_upto], List.map_const', List.sum_replicate_nat, len_upto]
  rw [← hlen]
  refine inj_le (fun i => itr nx rt i (0, s)) (fun i j hij hj e => ?_) fun i hi => ?_
  · have e : itr nx rt i (0, s) = itr nx rt j (0, s) := e
    have h1 : itr nx rt (i + (m - j)) (0, s) = ((k : Int) + 1, q) := by
      rw [itr_add, e, ← itr_add, show j + (m - j) = m by omega]
      exact h.1
    have h2 := (h.2 (i + (m - j)) (by omega)).2
    rw [h1] at h2
    simp only at h2
    omega
  · have h1 := h.2 i hi
    refine List.mem_flatMap.2 ⟨(itr nx rt i (0, s)).1, mem_upto.2 (by omega), List.mem_map.2 ⟨(itr nx rt i (0, s)).2, mem_upto.2 (hin i), rfl⟩⟩
theorem Ext.in_ {n : Nat} (hn : ∀ k q, (0 ≤ q ∧ q < (n : Int)) → 0 ≤ nx k q ∧ nx k q < (n : Int)) {k : Nat} {q r : Int} (h : Ext nx rt k q r) : 0 ≤ q ∧ q < (n : Int) → 0 ≤ r ∧ r < (n : Int) := by
  induction h with
  | right _ => exact hn _ _
  | left _ _ _ ih1 ih2 => exact fun h => ih2 (ih1 (hn _ _ h))
theorem E0.in_ {n : Nat} (hn : ∀ k q, (0 ≤ q ∧ q < (n : Int)) → 0 ≤ nx k q ∧ nx k q < (n : Int)) {s : Int} (hs : 0 ≤ s ∧ s < (n : Int)) {k : Nat} {r : Int} (h : E0 nx rt s k r) : 0 ≤ r ∧ r < (n : Int) := by
  induction h with
  | zero h => exact h.in_ hn hs
  | succ _ h2 ih => exact h2.in_ hn ih
end
/-- the state in which one leaves a place, where it is known what is ahead of it -/
def lvt (f : Int → Int) (r : Int → Bool) (g : Int → Int) : Nat → Int → Int
  | 0, _ => -1
  | m + 1, q => if r q = true then g q else if f (g q) < 0 then -1 else lvt f r g m (f (g q))
section
variable {f : Int → Int} {r : Int → Bool} {g : Int → Int}
theorem lv_mono {q x : Int} (hx : 0 ≤ x) : ∀ (m : Nat) (q : Int), lvt f r g m q = x → ∀ j, lvt f r g (m + j) q = x
  | 0, q, h, _ => by
    have h : (-1 : Int) = x := h
    omega
  | m + 1, q, h, j => by
    rw [Nat.succ_add]
    unfold lvt at h ⊢
    by_cases h1 : r q = true
    · rw [if_pos h1] at h ⊢; exact h
    · rw [if_neg h1] at h ⊢
      by_cases h2 : f (g q) < 0
      · rw [if_pos h2] at h; omega
      · rw [if_neg h2] at h ⊢
        exact lv_mono (q := q) hx m _ h j
/-- where one is at the i-th visit -/
def vis (f : Int → Int) (g : Int → Int) : Nat → Int → Int
  | 0, q => q
  | i + 1, q => vis f g i (f (g q))
theorem lv_vis {x : Int} (hx : 0 ≤ x) : ∀ (m : Nat) (q : Int), lvt f r g m q = x → (∀ j, j < m → lvt f r g j q ≠ x) → ∀ i, i < m → lvt f r g (m - i) (vis f g i q) = x ∧ ∀ j, lvt f r g (i + j) q = lvt f r g j (vis f g i q)
  | m, q, h, hmin, 0, hi => ⟨h, fun j => by rw [Nat.zero_add]; rfl⟩
  | 0, _, _, _, _ + 1, hi => absurd hi (by omega)
  | m + 1, q, h, hmin, i + 1, hi => by
    have h0 := h
    unfold lvt at h
    by_cases h1 : r q = true
    · exfalso
      refine hmin 1 (by omega) ?_
      rw [if_pos h1] at h
      unfold lvt
      rw [if_pos h1]
      exact h
    · rw [if_neg h1] at h
      by_cases h2 : f (g q) < 0
      · rw [if_pos h2] at h; omega
      · rw [if_neg h2] at h
        have hstep : ∀ j, lvt f r g (j + 1) q = lvt f r g j (f (g q)) := fun j => by
          rw [lvt, if_neg h1, if_neg h2]
        obtain ⟨h3, h4⟩ := lv_vis hx m (f (g q)) h (fun j hj e => hmin (j + 1) (by omega) (by rw [hstep]; exact e)) i (by omega)
        refine ⟨?_, fun j => ?_⟩
        · rw [show m + 1 - (i + 1) = m - i by omega]
          exact h3
        · rw [show i + 1 + j = i + j + 1 by omega, hstep]
          exact h4 j
theorem vis_in {n : Nat} (hg : ∀ q, (0 ≤ q ∧ q < (n : Int)) → 0 ≤ g q ∧ g q < (n : Int)) (hf : ∀ q, (0 ≤ q ∧ q < (n : Int)) → f q < (n : Int)) {x : Int} (hx : 0 ≤ x) : ∀ (m : Nat) (q : Int), lvt f r g m q = x → (∀ j, j < m → lvt f r g j q ≠ x) → (0 ≤ q ∧ q < (n : Int)) → ∀ i, i < m → 0 ≤ vis f g i q ∧ vis f g i q < (n : Int)
  | m, q, _, _, hq, 0, _ => hq
  | 0, _, _, _, _, _ + 1, hi => absurd hi (by omega)
  | m + 1, q, h, hmin, hq, i + 1, hi => by
    unfold lvt at h
    by_cases h1 : r q = true
    · exfalso
      refine hmin 1 (by omega) ?_
      rw [if_pos h1] at h
      unfold lvt
      rw [if_pos h1]
      exact h
    · rw [if_neg h1] at h
      by_cases h2 : f (g q) < 0
      · rw [if_pos h2] at h; omega
      · rw [if_neg h2] at h
        have hstep : ∀ j, lvt f r g (j + 1) q = lvt f r g j (f (g q)) := fun j => by
          rw [lvt, if_neg h1, if_neg h2]
        exact vis_in hg hf hx m (f (g q)) h (fun j hj e => hmin (j + 1) (by omega) (by rw [hstep]; exact e)) ⟨by omega, hf _ (hg _ hq)⟩ i (by omega)
/-- as many visits as there are states are enough -/
theorem lv_enough {n : Nat} (hg : ∀ q, (0 ≤ q ∧ q < (n : Int)) → 0 ≤ g q ∧ g q < (n : Int)) (hf : ∀ q, (0 ≤ q ∧ q < (n : Int)) → f q < (n : Int)) {x : Int} (hx : 0 ≤ x) {m : Nat} {q : Int} (hq : 0 ≤ q ∧ q < (n : Int)) (h : lvt f r g m q = x) : lvt f r g (n + 1) q = x := by
  induction m using Nat.strongRecOn with
  | _ m ih =>
    by_cases hmin : ∃ j, j < m ∧ lvt f r g j q = x
    · obtain ⟨j, hj, e⟩ := hmin
      exact ih j hj e
    · have hmin : ∀ j, j < m → lvt f r g j q ≠ x := fun j hj e => hmin ⟨j, hj, e⟩
      have hle : m ≤ (upto n).length := by
        refine inj_le (fun i => vis f g i q) (fun i j hij hj e => ?_) fun i hi => mem_upto.2 (vis_in hg hf hx m q h hmin hq i hi)
        have e : vis f g i q = vis f g j q := e
        have h1 := (lv_vis hx m q h hmin j hj).1
        have h2 := (lv_vis hx m q h hmin i (by omega)).2 (m - j)
        rw [e, h1] at h2
        exact hmin (i + (m - j)) (by omega) h2
      rw [len_upto] at hle
      rw [show n + 1 = m + (n + 1 - m) by omega]
      exact lv_mono (q := q) hx m q h _
end
section
variable {nx : Nat → Int → Int} {rt : Nat → Int → Bool} {n : Nat}
/-- f tells in which state one leaves place k to the right -/
def IsTab (nx : Nat → Int → Int) (rt : Nat → Int → Bool) (n k : Nat) (f : Int → Int) : Prop := ∀ q, (0 ≤ q ∧ q < (n : Int)) → ∀ x, 0 ≤ x → (f q = x ↔ Ext nx rt k q x)
theorem lv_sound {k : Nat} {f : Int → Int} (hn : ∀ k q, (0 ≤ q ∧ q < (n : Int)) → 0 ≤ nx k q ∧ nx k q < (n : Int)) (hf : IsTab nx rt n k f) {x : Int} (hx : 0 ≤ x) : ∀ (m : Nat) (q : Int), (0 ≤ q ∧ q < (n : Int)) → lvt f (rt (k + 1)) (nx (k + 1)) m q = x → Ext nx rt (k + 1) q x
  | 0, _, _, h => by
    have h : (-1 : Int) = x := h
    omega
  | m + 1, q, hq, h => by
    unfold lvt at h
    cases h1 : rt (k + 1) q with
    | true =>
      rw [if_pos h1] at h
      rw [← h]
      exact .right h1
    | false =>
      rw [if_neg (by rw [h1]; decide)] at h
      by_cases h2 : f (nx (k + 1) q) < 0
      · rw [if_pos h2] at h; omega
      · rw [if_neg h2] at h
        have h3 : Ext nx rt k (nx (k + 1) q) (f (nx (k + 1) q)) := (hf _ (hn _ _ hq) _ (by omega)).1 rfl
        exact .left h1 h3 (lv_sound hn hf hx m _ (h3.in_ hn (hn _ _ hq)) h)
theorem lv_complete {k : Nat} {f : Int → Int} (hn : ∀ k q, (0 ≤ q ∧ q < (n : Int)) → 0 ≤ nx k q ∧ nx k q < (n : Int)) (hf : IsTab nx rt n k f) {K : Nat} {q x : Int} (h : Ext nx rt K q x) : K = k + 1 → (0 ≤ q ∧ q < (n : Int)) → ∃ m, lvt f (rt (k + 1)) (nx (k + 1)) m q = x := by
  induction h with
  | @right K q h =>
    rintro rfl _
    refine ⟨1, ?_⟩
    rw [lvt, if_pos h]
  | @left K q p x h h1 h2 _ ih2 =>
    intro e hq
    have e : K = k := by omega
    subst e
    have hp := h1.in_ hn (hn _ _ hq)
    obtain ⟨m, hm⟩ := ih2 rfl hp
    have h3 := (hf _ (hn _ _ hq) _ hp.1).2 h1
    refine ⟨m + 1, ?_⟩
    rw [lvt, if_neg (by rw [h]; decide), h3, if_neg (by omega)]
    exact hm
/-- one place on -/
theorem IsTab.step {k : Nat} {f : Int → Int} (hn : ∀ k q, (0 ≤ q ∧ q < (n : Int)) → 0 ≤ nx k q ∧ nx k q < (n : Int)) (hf : IsTab nx rt n k f) (hlt : ∀ q, (0 ≤ q ∧ q < (n : Int)) → f q < (n : Int)) : IsTab nx rt n (k + 1) (lvt f (rt (k + 1)) (nx (k + 1)) (n + 1)) := fun q hq x hx => by
  constructor
  · exact lv_sound hn hf hx _ q hq
  · intro h
    obtain ⟨m, hm⟩ := lv_complete hn hf h rfl hq
    exact lv_enough (fun q hq => hn _ q hq) hlt hx hq hm
theorem IsTab.zero : IsTab nx rt n 0 (fun q => if rt 0 q = true then nx 0 q else -1) := fun q hq x hx => by
  constructor
  · intro h
    by_cases h1 : rt 0 q = true
    · have h : (if rt 0 q = true then nx 0 q else -1) = x := h
      rw [if_pos h1] at h
      rw [← h]
      exact .right h1
    · have h : (if rt 0 q = true then nx 0 q else -1) = x := h
      rw [if_neg h1] at h
      omega
  · intro h
    show (if rt 0 q = true then nx 0 q else -1) = x
    cases h with
    | right h => rw [if_pos h]
end
end Go.Proofs.Ytiinkohfldopbaa

/- Contracts towards TwoOne: joining rows, words, det.Accepts. No condition. -/
namespace Go.Proofs.Ytiinkohfldopbaa
open Go.RowKit Go.MapKept
set_option linter.unusedSimpArgs false
set_option linter.unusedVariables false
set_option maxRecDepth 100000

def growNil_vc (n : Int) (Q : (List Int) → Prop) : Prop :=
  IfP (decide (n < 0)) (False) (∃ J : (List Int) → Prop, (IfP (decide ((wr (n - (wr (0 - ((0 : Nat) : Int))))) > 0)) ((0 < (wr (n - (wr (0 - ((0 : Nat) : Int))))) ∧ (wr (n - (wr (0 - ((0 : Nat) : Int))))) * 8 ≤ 140737488355328 ∧ (wr (n - (wr (0 - ((0 : Nat) : Int))))) ≤ 140737488355328) ∧
  (0 ≤ ((0 : Nat) : Int) ∧ ((0 : Nat) : Int) ≤ ((List.replicate ((wr (n - (wr (0 - ((0 : Nat) : Int)))))).toNat (0 : Int)).length : Int)) ∧
  J ((List.replicate ((wr (n - (wr (0 - ((0 : Nat) : Int)))))).toNat (0 : Int)).take (((0 : Nat) : Int) : Int).toNat)) (J ([] : (List Int)))) ∧
  (∀ (l0 : (List Int)), J l0 → Q l0))
theorem growNil_walk (n : Int) (Q : (List Int) → Prop) (h : growNil_vc n Q) : CtJ 127 [.sv (.one (.v (.slice none 0 0))), .sv (.one (I n))] [] Q (fun (r : (List Int)) => rowI 3 intT r) := by
  have ht := tab_ok
  refine CtJ.body Try.func127 rfl rfl rfl rfl (fun c hn hmay => ?_)
  unfold growNil_vc at h
  refine En.seq ?_
  refine En.region ?_
  refine WL.run ht hn 1 ⟨[(0, .sv (.one (.v (.slice none 0 0)))), (1, .sv (.one (I n)))], []⟩ (by kernel_rfl) ?_
  refine WL.nil ?_
  refine En.seq ?_
  refine En.seq ?_
  refine En.region ?_
  refine WL.run ht hn 2 ⟨[(0, .sv (.one (.v (.slice none 0 0)))), (1, .sv (.one (I n))), (6, .sv (.one (B (decide (n < 0)))))], []⟩ (by kernel_rfl) ?_
  refine WL.nil ?_
  refine En.cond (b := (decide (n < 0))) (by kernel_rfl) (fun hb => ?_) (fun hb => ?_)
  · replace h := h.1 hb
    exact h.elim
  · replace h := h.2 hb
    refine En.skip ?_
    obtain ⟨J, h, hJ⟩ := h
    refine En.seqJ (σ := (List Int)) (fun zz => J zz) (fun zz => ⟨[(0, .sv (.one (.own 0)))], [rowI 3 intT zz]⟩) ?_ ?_
    · refine En.seq ?_
      refine En.region ?_
      refine WL.run ht hn 2 ⟨[(0, .sv (.one (.v (.slice none 0 0)))), (8, .sv (.one (I n))), (9, .sv (.one (.v (.slice none 0 0))))], []⟩ (by kernel_rfl) ?_
      refine WL.val hn (by rfl) (val_capNil ht rfl (by rfl) (by rfl) (by rfl)) (by rfl) ?_
      refine WL.run ht hn 5 ⟨[(0, .sv (.one (.v (.slice none 0 0)))), (1, .sv (.one (I (wr (n - (wr (0 - ((0 : Nat) : Int))))))))], []⟩ (by kernel_rfl) ?_
      refine WL.nil ?_
      refine En.seq ?_
      refine En.region ?_
      refine WL.run ht hn 2 ⟨[(0, .sv (.one (.v (.slice none 0 0)))), (1, .sv (.one (I (wr (n - (wr (0 - ((0 : Nat) : Int)))))))), (16, .sv (.one (B (decide ((wr (n - (wr (0 - ((0 : Nat) : Int))))) > 0)))))], []⟩ (by kernel_rfl) ?_
      refine WL.nil ?_
      refine En.cond (b := (decide ((wr (n - (wr (0 - ((0 : Nat) : Int))))) > 0))) (by kernel_rfl) (fun hb => ?_) (fun hb => ?_)
      · replace h := h.1 hb
        refine En.region ?_
        refine WL.run ht hn 2 ⟨[(0, .sv (.one (.v (.slice none 0 0)))), (1, .sv (.one (I (wr (n - (wr (0 - ((0 : Nat) : Int)))))))), (17, .sv (.one (.v (.slice none 0 0)))), (18, .sv (.one (.v (.slice none 0 0))))], []⟩ (by kernel_rfl) ?_
        refine WL.val hn (by rfl) (val_capNil ht rfl (by rfl) (by rfl) (by rfl)) (by rfl) ?_
        refine WL.val hn (by rfl) (val_sliceNil ht rfl (by rfl) (by rfl) (by rfl) (by rfl) (by rfl)) (by rfl) ?_
        refine WL.run ht hn 1 ⟨[(0, .sv (.one (.v (.slice none 0 0)))), (20, .sv (.one (.v (.slice none 0 0)))), (21, .sv (.one (I (wr (n - (wr (0 - ((0 : Nat) : Int))))))))], []⟩ (by kernel_rfl) ?_
        have hp_2 := h.1
        replace h := h.2
        refine WL.mt0 (K := []) (p := some (0, rowI 3 intT (List.replicate ((wr (n - (wr (0 - ((0 : Nat) : Int)))))).toNat (0 : Int)))) hn (by rfl) (mt_appendZ (T := intT) (0 : Int) (zv := (.int .i64 0)) 0 (l := (wr (n - (wr (0 - ((0 : Nat) : Int)))))) ht rfl (by rfl) (by rfl) (by rfl) (by rfl) (by decide) Try.underlying3 (by rfl) (by rfl) hp_2.1 (by exact hp_2.2.1) hp_2.2.2 rfl (fun _ => ⟨rfl, trivial⟩)) (by rfl) (by rfl) (by rfl) ?_
        refine WL.run ht hn 2 ⟨[(22, .sv (.one (.own 0))), (24, .sv (.one (I ((0 : Nat) : Int))))], [rowI 3 intT (List.replicate ((wr (n - (wr (0 - ((0 : Nat) : Int)))))).toNat (0 : Int))]⟩ (by kernel_rfl) ?_
        have hp_3 := h.1
        replace h := h.2
        refine WL.mt (S2 := ⟨[(24, .sv (.one (I ((0 : Nat) : Int))))], [rowI 3 intT (List.replicate ((wr (n - (wr (0 - ((0 : Nat) : Int)))))).toNat (0 : Int))]⟩) (K := [0]) (p := some (0, rowI 3 intT ((List.replicate ((wr (n - (wr (0 - ((0 : Nat) : Int)))))).toNat (0 : Int)).take (((0 : Nat) : Int) : Int).toNat))) hn (by rfl) (mt_sliceO (T := intT) (l := (List.replicate ((wr (n - (wr (0 - ((0 : Nat) : Int)))))).toNat (0 : Int))) (p := 0) (hv := ((0 : Nat) : Int)) ht rfl (by rfl) (by rfl) (by rfl) (by rfl) (by rfl) (by rfl) (by rfl) hp_3) (by kernel_rfl) (by rfl) (by rfl) (by rfl) ?_
        refine WL.run ht hn 1 ⟨[(0, .sv (.one (.own 0)))], [rowI 3 intT ((List.replicate ((wr (n - (wr (0 - ((0 : Nat) : Int)))))).toNat (0 : Int)).take (((0 : Nat) : Int) : Int).toNat)]⟩ (by kernel_rfl) ?_
        refine WL.nil ?_
        exact En.at (I := fun zz => J zz) (T := fun zz => ⟨[(0, .sv (.one (.own 0)))], [rowI 3 intT zz]⟩) ((List.replicate ((wr (n - (wr (0 - ((0 : Nat) : Int)))))).toNat (0 : Int)).take (((0 : Nat) : Int) : Int).toNat) h (by kernel_rfl)
      · replace h := h.2 hb
        refine En.skip ?_
        refine En.rowNil 0 0 3 intT (by rfl) (by rfl) ?_
        exact En.at (I := fun zz => J zz) (T := fun zz => ⟨[(0, .sv (.one (.own 0)))], [rowI 3 intT zz]⟩) ([] : (List Int)) h (by kernel_rfl)
    · intro l0 h
      replace h := hJ _ h
      show En c ⟨[(0, .sv (.one (.own 0)))], [rowI 3 intT l0]⟩ _
      refine En.seq ?_
      refine En.region ?_
      refine WL.run ht hn 2 ⟨[(4, .sv (.one (.own 0)))], [rowI 3 intT l0]⟩ (by kernel_rfl) ?_
      refine WL.nil ?_
      refine En.ret ?_
      exact En.backJ (itf := fun l => rowI 3 intT l) hmay (by rfl) (by rfl) rfl rfl h
theorem en127 : ∀ args w, (callFunc 127 args).run Try.prog w = .ok (.enter 127 args) w := enters_of Try.func127 (by kernel_rfl) rfl
theorem growNil_ct (n : Int) (hp : 0 ≤ n ∧ n ≤ 4611686018427) : CtI 127 [.sv (.one (.v (.slice none 0 0))), .sv (.one (I n))] [] (rowI 3 intT []) := by
  refine (growNil_walk n (fun r => r = []) ?_).fun
  have h0 : wr (0 - ((0 : Nat) : Int)) = 0 := by decide
  have h1 : wr (n - wr (0 - ((0 : Nat) : Int))) = n := by rw [h0, wr_in (by omega) (by omega)]; omega
  refine ⟨fun h => absurd (of_decide_eq_true h) (by omega), fun _ => ⟨fun l => l = [], ⟨fun h => ?_, fun _ => rfl⟩, fun l h => h⟩⟩
  rw [h1] at h ⊢
  exact ⟨⟨of_decide_eq_true h, by omega, by omega⟩, ⟨by decide, by omega⟩, rfl⟩
def concatI_vc (l : (List (List Int))) (Q : (List Int) → Prop) : Prop :=
  l.length ≤ 9223372036854775807 →
  (∃ (Inv : Int → Int → Prop) (mu : Int → Int → Nat), Inv 0 0 ∧
  ∀ (x3 : Int) (x11 : Int) , Inv x3 x11 → (IfP (decide (x11 < (l.length : Int))) (∃ e, idx l x11 = some e ∧
  IfP (decide ((wr (x3 + (e.length : Int))) < 0)) (False) ((Inv (wr (x3 + (e.length : Int))) (wr (x11 + 1)) ∧ mu (wr (x3 + (e.length : Int))) (wr (x11 + 1)) < mu x3 x11))) ((0 ≤ x3 ∧ x3 ≤ 4611686018427) ∧
  ∃ (Inv_2 : Int → (List Int) → Prop) (mu_2 : Int → (List Int) → Nat), Inv_2 0 (([] : List Int)) ∧
  ∀ (x27 : Int) (l0 : (List Int)) , Inv_2 x27 l0 → (IfP (decide (x27 < (l.length : Int))) (∃ e_2, idx l x27 = some e_2 ∧
  capOk l0.length (e_2 : (List Int)).length 8 ∧
  (Inv_2 (wr (x27 + 1)) (l0 ++ e_2) ∧ mu_2 (wr (x27 + 1)) (l0 ++ e_2) < mu_2 x27 l0)) (Q l0)))))
theorem concatI_walk (l : (List (List Int))) (Q : (List Int) → Prop) (h : concatI_vc l Q) : CtJ 59 [.sv (.one (LS (lsT intT) l))] [] Q (fun (r : (List Int)) => rowI 3 intT r) := by
  have ht := tab_ok
  refine CtJ.body Try.func59 rfl rfl rfl rfl (fun c hn hmay => ?_)
  unfold concatI_vc at h
  refine En.lenL 0 (by rfl) (fun hl => ?_)
  replace h := h hl
  clear hl
  refine En.seq ?_
  refine En.region ?_
  refine WL.run ht hn 1 ⟨[(0, .sv (.one (LS (lsT intT) l)))], []⟩ (by kernel_rfl) ?_
  refine WL.nil ?_
  refine En.seq ?_
  refine En.region ?_
  refine WL.run ht hn 1 ⟨[(0, .sv (.one (LS (lsT intT) l))), (3, .sv (.one (I 0)))], []⟩ (by kernel_rfl) ?_
  refine WL.nil ?_
  refine En.seq ?_
  refine En.seq ?_
  refine En.region ?_
  refine WL.run ht hn 3 ⟨[(0, .sv (.one (LS (lsT intT) l))), (3, .sv (.one (I 0))), (9, .sv (.one (LS (lsT intT) l))), (10, .sv (.one (I (l.length : Int)))), (11, .sv (.one (I 0)))], []⟩ (by kernel_rfl) ?_
  refine WL.nil ?_
  refine En.block ?_
  obtain ⟨Inv, mu, h0_2, hI_2⟩ := h
  refine En.loop (σ := Int × Int) (fun zz => Inv zz.1 zz.2) (fun zz => mu zz.1 zz.2) (fun zz => ⟨[(0, .sv (.one (LS (lsT intT) l))), (3, .sv (.one (I zz.1))), (9, .sv (.one (LS (lsT intT) l))), (10, .sv (.one (I (l.length : Int)))), (11, .sv (.one (I zz.2)))], []⟩) (0, 0) h0_2 (sub_ok (by kernel_rfl)) ?_
  rintro ⟨x3, x11⟩ h
  replace h := hI_2 _ _ h
  show En c ⟨[(0, .sv (.one (LS (lsT intT) l))), (3, .sv (.one (I x3))), (9, .sv (.one (LS (lsT intT) l))), (10, .sv (.one (I (l.length : Int)))), (11, .sv (.one (I x11)))], []⟩ _
  refine En.seq ?_
  refine En.region ?_
  refine WL.run ht hn 1 ⟨[(0, .sv (.one (LS (lsT intT) l))), (3, .sv (.one (I x3))), (9, .sv (.one (LS (lsT intT) l))), (10, .sv (.one (I (l.length : Int)))), (11, .sv (.one (I x11))), (12, .sv (.one (B (decide (x11 < (l.length : Int))))))], []⟩ (by kernel_rfl) ?_
  refine WL.nil ?_
  refine En.seq ?_
  refine En.cond (b := (decide (x11 < (l.length : Int)))) (by kernel_rfl) (fun hb => ?_) (fun hb => ?_)
  · replace h := h.1 hb
    refine En.skip ?_
    refine En.seq ?_
    refine En.block ?_
    refine En.seq ?_
    refine En.region ?_
    obtain ⟨e, he, h⟩ := h
    refine WL.val hn (by rfl) (val_index (T := (lsT intT)) (l := l) (i := x11) ht rfl (by rfl) (by rfl) (by rfl) (by rfl) (by rfl) (by rfl) he) (by rfl) ?_
    refine WL.val hn (by rfl) (val_load (s := .one (LS intT e)) ht rfl (by rfl) (by rfl) (by rfl) (by rfl) (by rfl)) (by rfl) ?_
    refine WL.run ht hn 1 ⟨[(0, .sv (.one (LS (lsT intT) l))), (3, .sv (.one (I x3))), (5, .sv (.one (LS intT e))), (9, .sv (.one (LS (lsT intT) l))), (10, .sv (.one (I (l.length : Int)))), (11, .sv (.one (I x11)))], []⟩ (by kernel_rfl) ?_
    refine WL.nil ?_
    refine En.seq ?_
    refine En.region ?_
    refine WL.run ht hn 5 ⟨[(0, .sv (.one (LS (lsT intT) l))), (3, .sv (.one (I (wr (x3 + (e.length : Int)))))), (9, .sv (.one (LS (lsT intT) l))), (10, .sv (.one (I (l.length : Int)))), (11, .sv (.one (I x11)))], []⟩ (by kernel_rfl) ?_
    refine WL.nil ?_
    refine En.seq ?_
    refine En.region ?_
    refine WL.run ht hn 2 ⟨[(0, .sv (.one (LS (lsT intT) l))), (3, .sv (.one (I (wr (x3 + (e.length : Int)))))), (9, .sv (.one (LS (lsT intT) l))), (10, .sv (.one (I (l.length : Int)))), (11, .sv (.one (I x11))), (20, .sv (.one (B (decide ((wr (x3 + (e.length : Int))) < 0)))))], []⟩ (by kernel_rfl) ?_
    refine WL.nil ?_
    refine En.cond (b := (decide ((wr (x3 + (e.length : Int))) < 0))) (by kernel_rfl) (fun hb => ?_) (fun hb => ?_)
    · replace h := h.1 hb
      exact h.elim
    · replace h := h.2 hb
      refine En.skip ?_
      refine En.region ?_
      refine WL.run ht hn 2 ⟨[(0, .sv (.one (LS (lsT intT) l))), (3, .sv (.one (I (wr (x3 + (e.length : Int)))))), (9, .sv (.one (LS (lsT intT) l))), (10, .sv (.one (I (l.length : Int)))), (11, .sv (.one (I (wr (x11 + 1)))))], []⟩ (by kernel_rfl) ?_
      refine WL.nil ?_
      exact En.at (I := fun zz => Inv zz.1 zz.2 ∧ mu zz.1 zz.2 < mu x3 x11) (T := fun zz => ⟨[(0, .sv (.one (LS (lsT intT) l))), (3, .sv (.one (I zz.1))), (9, .sv (.one (LS (lsT intT) l))), (10, .sv (.one (I (l.length : Int)))), (11, .sv (.one (I zz.2)))], []⟩) ((wr (x3 + (e.length : Int))), (wr (x11 + 1))) h (by kernel_rfl)
  · replace h := h.2 hb
    refine En.exit rfl ?_
    refine En.seq ?_
    refine En.region ?_
    refine WL.run ht hn 1 ⟨[(0, .sv (.one (LS (lsT intT) l))), (23, .sv (.one (I x3)))], []⟩ (by kernel_rfl) ?_
    have hp := h.1
    replace h := h.2
    refine WL.mt0 (K := []) (p := some (0, rowI 3 intT (([] : List Int)))) hn (by rfl) (mt_callI 0 (growNil_ct x3 hp) en127 (caps := []) [] rfl rfl (by rfl) (by kernel_rfl) (by kernel_rfl) (by rfl) (by rfl)) (by rfl) (by rfl) (by rfl) ?_
    refine WL.run ht hn 1 ⟨[(0, .sv (.one (LS (lsT intT) l))), (6, .sv (.one (.own 0)))], [rowI 3 intT (([] : List Int))]⟩ (by kernel_rfl) ?_
    refine WL.nil ?_
    refine En.seq ?_
    refine En.seq ?_
    refine En.region ?_
    refine WL.run ht hn 3 ⟨[(6, .sv (.one (.own 0))), (25, .sv (.one (LS (lsT intT) l))), (26, .sv (.one (I (l.length : Int)))), (27, .sv (.one (I 0)))], [rowI 3 intT (([] : List Int))]⟩ (by kernel_rfl) ?_
    refine WL.nil ?_
    refine En.block ?_
    obtain ⟨Inv_2, mu_2, h0, hI⟩ := h
    refine En.loop (σ := Int × (List Int)) (fun zz => Inv_2 zz.1 zz.2) (fun zz => mu_2 zz.1 zz.2) (fun zz => ⟨[(6, .sv (.one (.own 0))), (25, .sv (.one (LS (lsT intT) l))), (26, .sv (.one (I (l.length : Int)))), (27, .sv (.one (I zz.1)))], [rowI 3 intT zz.2]⟩) (0, (([] : List Int))) h0 (sub_ok (by kernel_rfl)) ?_
    rintro ⟨x27, l0⟩ h
    replace h := hI _ _ h
    show En c ⟨[(6, .sv (.one (.own 0))), (25, .sv (.one (LS (lsT intT) l))), (26, .sv (.one (I (l.length : Int)))), (27, .sv (.one (I x27)))], [rowI 3 intT l0]⟩ _
    refine En.seq ?_
    refine En.region ?_
    refine WL.run ht hn 1 ⟨[(6, .sv (.one (.own 0))), (25, .sv (.one (LS (lsT intT) l))), (26, .sv (.one (I (l.length : Int)))), (27, .sv (.one (I x27))), (28, .sv (.one (B (decide (x27 < (l.length : Int))))))], [rowI 3 intT l0]⟩ (by kernel_rfl) ?_
    refine WL.nil ?_
    refine En.seq ?_
    refine En.cond (b := (decide (x27 < (l.length : Int)))) (by kernel_rfl) (fun hb => ?_) (fun hb => ?_)
    · replace h := h.1 hb
      refine En.skip ?_
      refine En.seq ?_
      refine En.block ?_
      refine En.seq ?_
      refine En.region ?_
      obtain ⟨e_2, he_2, h⟩ := h
      refine WL.val hn (by rfl) (val_index (T := (lsT intT)) (l := l) (i := x27) ht rfl (by rfl) (by rfl) (by rfl) (by rfl) (by rfl) (by rfl) he_2) (by rfl) ?_
      refine WL.val hn (by rfl) (val_load (s := .one (LS intT e_2)) ht rfl (by rfl) (by rfl) (by rfl) (by rfl) (by rfl)) (by rfl) ?_
      refine WL.run ht hn 1 ⟨[(6, .sv (.one (.own 0))), (8, .sv (.one (LS intT e_2))), (25, .sv (.one (LS (lsT intT) l))), (26, .sv (.one (I (l.length : Int)))), (27, .sv (.one (I x27)))], [rowI 3 intT l0]⟩ (by kernel_rfl) ?_
      refine WL.nil ?_
      refine En.region ?_
      refine WL.run ht hn 2 ⟨[(25, .sv (.one (LS (lsT intT) l))), (26, .sv (.one (I (l.length : Int)))), (27, .sv (.one (I x27))), (31, .sv (.one (.own 0))), (32, .sv (.one (LS intT e_2)))], [rowI 3 intT l0]⟩ (by kernel_rfl) ?_
      have hp := h.1
      replace h := h.2
      refine WL.mt (S2 := ⟨[(25, .sv (.one (LS (lsT intT) l))), (26, .sv (.one (I (l.length : Int)))), (27, .sv (.one (I x27))), (32, .sv (.one (LS intT e_2)))], [rowI 3 intT l0]⟩) (K := [0]) (p := some (0, rowI 3 intT (l0 ++ e_2))) hn (by rfl) (mt_append (T := intT) (l := l0) (es := e_2) ht rfl (by rfl) (by rfl) (by rfl) (by rfl) (by decide) (by rfl) (by rfl) (srcLS (T := intT) (es := e_2) (fun _ h => by cases h) (by decide) (by rfl)) (by exact hp) (by exact hp.le (by decide))) (by kernel_rfl) (by rfl) (by rfl) (by rfl) ?_
      refine WL.run ht hn 1 ⟨[(6, .sv (.one (.own 0))), (25, .sv (.one (LS (lsT intT) l))), (26, .sv (.one (I (l.length : Int)))), (27, .sv (.one (I x27)))], [rowI 3 intT (l0 ++ e_2)]⟩ (by kernel_rfl) ?_
      refine WL.nil ?_
      refine En.region ?_
      refine WL.run ht hn 2 ⟨[(6, .sv (.one (.own 0))), (25, .sv (.one (LS (lsT intT) l))), (26, .sv (.one (I (l.length : Int)))), (27, .sv (.one (I (wr (x27 + 1)))))], [rowI 3 intT (l0 ++ e_2)]⟩ (by kernel_rfl) ?_
      refine WL.nil ?_
      exact En.at (I := fun zz => Inv_2 zz.1 zz.2 ∧ mu_2 zz.1 zz.2 < mu_2 x27 l0) (T := fun zz => ⟨[(6, .sv (.one (.own 0))), (25, .sv (.one (LS (lsT intT) l))), (26, .sv (.one (I (l.length : Int)))), (27, .sv (.one (I zz.1)))], [rowI 3 intT zz.2]⟩) ((wr (x27 + 1)), (l0 ++ e_2)) h (by kernel_rfl)
    · replace h := h.2 hb
      refine En.exit rfl ?_
      refine En.seq ?_
      refine En.region ?_
      refine WL.run ht hn 2 ⟨[(2, .sv (.one (.own 0)))], [rowI 3 intT l0]⟩ (by kernel_rfl) ?_
      refine WL.nil ?_
      refine En.ret ?_
      exact En.backJ (itf := fun l => rowI 3 intT l) hmay (by rfl) (by rfl) rfl rfl h
theorem en59 : ∀ args w, (callFunc 59 args).run Try.prog w = .ok (.enter 59 args) w := enters_of Try.func59 (by kernel_rfl) rfl
theorem flat_take {α : Type} {l : List (List α)} {k : Nat} (h : k < l.length) : (l.take (k + 1)).flatten = (l.take k).flatten ++ l[k] := by
  rw [List.take_add_one, List.flatten_append, List.getElem?_eq_getElem h]
  simp
theorem flat_le {α : Type} (l : List (List α)) (k : Nat) : (l.take k).flatten.length ≤ l.flatten.length := by
  rw [← List.take_append_drop k l, List.flatten_append, List.length_append]
  rw [List.take_append_drop]
  omega
theorem concatI_ct (l : (List (List Int))) (hp : l.length ≤ 1000000 ∧ l.flatten.length ≤ 1000000)  : CtI 59 [.sv (.one (LS (lsT intT) l))] [] (rowI 3 intT (l.flatten)) := by
  refine (concatI_walk l (fun res_ => res_ = (l.flatten)) ?_).fun
  intro _
  refine ⟨fun s i => ∃ k : Nat, i = k ∧ k ≤ l.length ∧ s = (((l.take k).flatten.length : Nat) : Int), fun _ i => l.length - i.toNat, ⟨0, rfl, Nat.zero_le _, by simp⟩, ?_⟩
  rintro s i ⟨k, rfl, hk, rfl⟩
  refine ⟨fun hb => ?_, fun hb => ?_⟩
  · have hlt := dlt hb
    have h1 := flat_le l (k + 1)
    have h2 := flat_take hlt
    have h3 : wr ((((l.take k).flatten.length : Nat) : Int) + (l[k].length : Int)) = (((l.take (k + 1)).flatten.length : Nat) : Int) := by
      rw [h2, List.length_append] at h1 ⊢
      rw [wr_in (by omega) (by omega)]
      omega
    refine ⟨_, idx_at hlt, fun h => ?_, fun _ => ⟨⟨k + 1, wsucc (by omega), hlt, h3⟩, mu_up hlt (by omega)⟩⟩
    have := of_decide_eq_true h
    omega
  have hk' : k = l.length := by have := dge hb; omega
  subst hk'
  rw [List.take_length]
  refine ⟨⟨by omega, by omega⟩, ?_⟩
  refine ⟨fun i r => ∃ k : Nat, i = k ∧ k ≤ l.length ∧ r = (l.take k).flatten, fun i _ => l.length - i.toNat, ⟨0, rfl, Nat.zero_le _, by simp⟩, ?_⟩
  rintro i r ⟨k, rfl, hk, rfl⟩
  refine ⟨fun hb => ?_, fun hb => ?_⟩
  · have hlt := dlt hb
    have h1 := flat_le l (k + 1)
    have h2 := flat_take hlt
    refine ⟨_, idx_at hlt, capOk_of ?_, ⟨k + 1, wsucc (by omega), hlt, h2.symm⟩, mu_up hlt (by omega)⟩
    rw [h2, List.length_append] at h1
    omega
  · rw [List.take_of_length_le (dge hb)]
def mayW_vc (n : Int) (w : (List Int)) (Q : Int → Prop) : Prop :=
  w.length ≤ 9223372036854775807 →
  (IfP ((decide (n < 1)) || (decide (n > 4))) (Q 2) (IfP (decide ((w.length : Int) > 60)) (Q 1) (∃ (Inv : Int → Prop) (mu : Int → Nat), Inv 0 ∧
  ∀ (x18 : Int) , Inv x18 → (IfP (decide (x18 < (w.length : Int))) (∃ e, idx w x18 = some e ∧
  IfP ((decide (e < 0)) || (decide (e ≥ n))) (Q 2) ((Inv (wr (x18 + 1)) ∧ mu (wr (x18 + 1)) < mu x18))) (Q 0)))))
theorem mayW_walk (n : Int) (w : (List Int)) (Q : Int → Prop) (h : mayW_vc n w Q) : Ct 73 [.sv (.one (I n)), .sv (.one (LS intT w))] [] Q (fun (r : Int) => .sv (.one (I r))) := by
  have ht := tab_ok
  refine Ct.body Try.func73 rfl rfl rfl rfl (fun c hn => ?_)
  unfold mayW_vc at h
  refine En.lenL 1 (by rfl) (fun hl => ?_)
  replace h := h hl
  clear hl
  refine En.seq ?_
  refine En.region ?_
  refine WL.run ht hn 1 ⟨[(0, .sv (.one (I n))), (1, .sv (.one (LS intT w)))], []⟩ (by kernel_rfl) ?_
  refine WL.nil ?_
  refine En.seq ?_
  refine En.seq ?_
  refine En.region ?_
  refine WL.run ht hn 3 ⟨[(0, .sv (.one (I n))), (1, .sv (.one (LS intT w))), (9, .sv (.one (B (decide (n < 1)))))], []⟩ (by kernel_rfl) ?_
  refine WL.thru ⟨[(0, .sv (.one (I n))), (1, .sv (.one (LS intT w))), (12, .sv (.one (B ((decide (n < 1)) || (decide (n > 4))))))], []⟩ ?_ ?_
  · refine splitB (decide (n < 1)) (fun hb0 => ?_) (fun hb0 => ?_)
    · refine WL.setB 9 hb0 (by kernel_rfl) ?_
      refine WL.run ht hn 3 ⟨[(0, .sv (.one (I n))), (1, .sv (.one (LS intT w))), (12, .sv (.one (B true)))], []⟩ (by kernel_rfl) ?_
      exact WL.nil (sub_ok (by simp only [hb0]; kernel_rfl))
    · refine WL.setB 9 hb0 (by kernel_rfl) ?_
      refine WL.run ht hn 3 ⟨[(0, .sv (.one (I n))), (1, .sv (.one (LS intT w))), (12, .sv (.one (B (decide (n > 4)))))], []⟩ (by kernel_rfl) ?_
      exact WL.nil (sub_ok (by simp only [hb0]; kernel_rfl))
  · refine En.cond (b := ((decide (n < 1)) || (decide (n > 4)))) (by kernel_rfl) (fun hb => ?_) (fun hb => ?_)
    · replace h := h.1 hb
      refine En.seq ?_
      refine En.region ?_
      refine WL.run ht hn 1 ⟨[(4, .sv (.one (I 2)))], []⟩ (by kernel_rfl) ?_
      refine WL.nil ?_
      refine En.ret ?_
      exact En.back ht 2 h (by kernel_rfl) rfl
    · replace h := h.2 hb
      refine En.skip ?_
      refine En.seq ?_
      refine En.seq ?_
      refine En.region ?_
      refine WL.run ht hn 3 ⟨[(0, .sv (.one (I n))), (1, .sv (.one (LS intT w))), (15, .sv (.one (B (decide ((w.length : Int) > 60)))))], []⟩ (by kernel_rfl) ?_
      refine WL.nil ?_
      refine En.cond (b := (decide ((w.length : Int) > 60))) (by kernel_rfl) (fun hb => ?_) (fun hb => ?_)
      · replace h := h.1 hb
        refine En.seq ?_
        refine En.region ?_
        refine WL.run ht hn 1 ⟨[(4, .sv (.one (I 1)))], []⟩ (by kernel_rfl) ?_
        refine WL.nil ?_
        refine En.ret ?_
        exact En.back ht 1 h (by kernel_rfl) rfl
      · replace h := h.2 hb
        refine En.skip ?_
        refine En.seq ?_
        refine En.seq ?_
        refine En.region ?_
        refine WL.run ht hn 3 ⟨[(0, .sv (.one (I n))), (16, .sv (.one (LS intT w))), (17, .sv (.one (I (w.length : Int)))), (18, .sv (.one (I 0)))], []⟩ (by kernel_rfl) ?_
        refine WL.nil ?_
        refine En.block ?_
        obtain ⟨Inv, mu, h0, hI⟩ := h
        refine En.loop (σ := Int) (fun zz => Inv zz) (fun zz => mu zz) (fun zz => ⟨[(0, .sv (.one (I n))), (16, .sv (.one (LS intT w))), (17, .sv (.one (I (w.length : Int)))), (18, .sv (.one (I zz)))], []⟩) 0 h0 (sub_ok (by kernel_rfl)) ?_
        intro x18 h
        replace h := hI _ h
        show En c ⟨[(0, .sv (.one (I n))), (16, .sv (.one (LS intT w))), (17, .sv (.one (I (w.length : Int)))), (18, .sv (.one (I x18)))], []⟩ _
        refine En.seq ?_
        refine En.region ?_
        refine WL.run ht hn 1 ⟨[(0, .sv (.one (I n))), (16, .sv (.one (LS intT w))), (17, .sv (.one (I (w.length : Int)))), (18, .sv (.one (I x18))), (19, .sv (.one (B (decide (x18 < (w.length : Int))))))], []⟩ (by kernel_rfl) ?_
        refine WL.nil ?_
        refine En.seq ?_
        refine En.cond (b := (decide (x18 < (w.length : Int)))) (by kernel_rfl) (fun hb => ?_) (fun hb => ?_)
        · replace h := h.1 hb
          refine En.skip ?_
          refine En.seq ?_
          refine En.block ?_
          refine En.seq ?_
          refine En.region ?_
          obtain ⟨e, he, h⟩ := h
          refine WL.val hn (by rfl) (val_index (T := intT) (l := w) (i := x18) ht rfl (by rfl) (by rfl) (by rfl) (by rfl) (by rfl) (by rfl) he) (by rfl) ?_
          refine WL.val hn (by rfl) (val_load (s := .one (I e)) ht rfl (by rfl) (by rfl) (by rfl) (by rfl) (by rfl)) (by rfl) ?_
          refine WL.run ht hn 1 ⟨[(0, .sv (.one (I n))), (6, .sv (.one (I e))), (16, .sv (.one (LS intT w))), (17, .sv (.one (I (w.length : Int)))), (18, .sv (.one (I x18)))], []⟩ (by kernel_rfl) ?_
          refine WL.nil ?_
          refine En.seq ?_
          refine En.region ?_
          refine WL.run ht hn 3 ⟨[(0, .sv (.one (I n))), (6, .sv (.one (I e))), (16, .sv (.one (LS intT w))), (17, .sv (.one (I (w.length : Int)))), (18, .sv (.one (I x18))), (24, .sv (.one (B (decide (e < 0)))))], []⟩ (by kernel_rfl) ?_
          refine WL.thru ⟨[(0, .sv (.one (I n))), (16, .sv (.one (LS intT w))), (17, .sv (.one (I (w.length : Int)))), (18, .sv (.one (I x18))), (28, .sv (.one (B ((decide (e < 0)) || (decide (e ≥ n))))))], []⟩ ?_ ?_
          · refine splitB (decide (e < 0)) (fun hb0 => ?_) (fun hb0 => ?_)
            · refine WL.setB 24 hb0 (by kernel_rfl) ?_
              refine WL.run ht hn 4 ⟨[(0, .sv (.one (I n))), (16, .sv (.one (LS intT w))), (17, .sv (.one (I (w.length : Int)))), (18, .sv (.one (I x18))), (28, .sv (.one (B true)))], []⟩ (by kernel_rfl) ?_
              exact WL.nil (sub_ok (by simp only [hb0]; kernel_rfl))
            · refine WL.setB 24 hb0 (by kernel_rfl) ?_
              refine WL.run ht hn 4 ⟨[(0, .sv (.one (I n))), (16, .sv (.one (LS intT w))), (17, .sv (.one (I (w.length : Int)))), (18, .sv (.one (I x18))), (28, .sv (.one (B (decide (e ≥ n)))))], []⟩ (by kernel_rfl) ?_
              exact WL.nil (sub_ok (by simp only [hb0]; kernel_rfl))
          · refine En.cond (b := ((decide (e < 0)) || (decide (e ≥ n)))) (by kernel_rfl) (fun hb => ?_) (fun hb => ?_)
            · replace h := h.1 hb
              refine En.seq ?_
              refine En.region ?_
              refine WL.run ht hn 1 ⟨[(4, .sv (.one (I 2)))], []⟩ (by kernel_rfl) ?_
              refine WL.nil ?_
              refine En.ret ?_
              exact En.back ht 2 h (by kernel_rfl) rfl
            · replace h := h.2 hb
              refine En.skip ?_
              refine En.region ?_
              refine WL.run ht hn 2 ⟨[(0, .sv (.one (I n))), (16, .sv (.one (LS intT w))), (17, .sv (.one (I (w.length : Int)))), (18, .sv (.one (I (wr (x18 + 1)))))], []⟩ (by kernel_rfl) ?_
              refine WL.nil ?_
              exact En.at (I := fun zz => Inv zz ∧ mu zz < mu x18) (T := fun zz => ⟨[(0, .sv (.one (I n))), (16, .sv (.one (LS intT w))), (17, .sv (.one (I (w.length : Int)))), (18, .sv (.one (I zz)))], []⟩) (wr (x18 + 1)) h (by kernel_rfl)
        · replace h := h.2 hb
          refine En.exit rfl ?_
          refine En.seq ?_
          refine En.region ?_
          refine WL.run ht hn 1 ⟨[(4, .sv (.one (I 0)))], []⟩ (by kernel_rfl) ?_
          refine WL.nil ?_
          refine En.ret ?_
          exact En.back ht 0 h (by kernel_rfl) rfl
theorem en73 : ∀ args w, (callFunc 73 args).run Try.prog w = .ok (.enter 73 args) w := enters_of Try.func73 (by kernel_rfl) rfl
def mayE (n : Int) (w : List Int) : Int := if (decide (n < 1)) || (decide (n > 4)) then 2 else if w.length > 60 then 1 else if w.any (fun a => (decide (a < 0)) || (decide (a ≥ n))) then 2 else 0
theorem mayE_ok {n : Int} {w : List Int} (h : mayE n w = 0) : w.length ≤ 60 ∧ ∀ a ∈ w, 0 ≤ a ∧ a < n := by
  unfold mayE at h
  split at h
  · cases h
  split at h
  · cases h
  split at h
  · cases h
  rename_i _ h2 h3
  refine ⟨by omega, fun a ha => ?_⟩
  have := (Bool.not_eq_true _).mp h3
  rw [List.any_eq_false] at this
  have := this a ha
  simp at this
  omega
theorem mayW_ct (n : Int) (w : (List Int))  : Ct 73 [.sv (.one (I n)), .sv (.one (LS intT w))] [] (fun (_ : Unit) => True) (fun _ => .sv (.one (I (mayE n w)))) := by
  refine (mayW_walk n w (fun res_ => res_ = (mayE n w)) ?_).fun
  intro hl
  refine ⟨fun h => ?_, fun h => ⟨fun h2 => ?_, fun h2 => ?_⟩⟩
  · show _ = mayE n w
    unfold mayE
    rw [if_pos h]
  · show _ = mayE n w
    have := of_decide_eq_true h2
    unfold mayE
    rw [if_neg (by rw [h]; decide), if_pos (by omega)]
  have h2 := of_decide_eq_false h2
  refine ⟨fun i => ∃ k : Nat, i = k ∧ k ≤ w.length ∧ (w.take k).any (fun a => (decide (a < 0)) || (decide (a ≥ n))) = false, fun i => w.length - i.toNat, ⟨0, rfl, Nat.zero_le _, rfl⟩, ?_⟩
  rintro i ⟨k, rfl, hk, ht⟩
  refine ⟨fun hb => ?_, fun hb => ?_⟩
  · have hlt := dlt hb
    refine ⟨_, idx_at hlt, fun hne => ?_, fun he => ⟨⟨k + 1, wsucc (by omega), hlt, ?_⟩, mu_up hlt (by omega)⟩⟩
    · show _ = mayE n w
      unfold mayE
      rw [if_neg (by rw [h]; decide), if_neg (by omega), if_pos (List.any_eq_true.2 ⟨_, List.getElem_mem hlt, hne⟩)]
    · rw [List.take_add_one, List.any_append, ht, List.getElem?_eq_getElem hlt]
      simpa using he
  · have hge := dge hb
    rw [List.take_of_length_le hge] at ht
    show _ = mayE n w
    unfold mayE
    rw [if_neg (by rw [h]; decide), if_neg (by omega), if_neg (by rw [ht]; decide)]
def afterD_vc (x : ApiDet) (q : Int) (w : (List Int)) (Q : Int → Prop) : Prop :=
  x.fNext.length ≤ 9223372036854775807 →
  x.fMark.length ≤ 9223372036854775807 →
  w.length ≤ 9223372036854775807 →
  (∃ (Inv : Int → Int → Prop) (mu : Int → Int → Nat), Inv q 0 ∧
  ∀ (x1 : Int) (x11 : Int) , Inv x1 x11 → (IfP (decide (x11 < (w.length : Int))) (∃ e, idx w x11 = some e ∧
  ∃ e_2, idx x.fNext x1 = some e_2 ∧
  ∃ e_3, idx e_2 e = some e_3 ∧
  (Inv e_3 (wr (x11 + 1)) ∧ mu e_3 (wr (x11 + 1)) < mu x1 x11)) (Q x1)))
theorem afterD_walk (x : ApiDet) (q : Int) (w : (List Int)) (Q : Int → Prop) (h : afterD_vc x q w Q) : Ct 66 [.sv (.agg [I x.fLetters, I x.fStart, LS (lsT intT) x.fNext, LS intT x.fMark]), .sv (.one (I q)), .sv (.one (LS intT w))] [] Q (fun (r : Int) => .sv (.one (I r))) := by
  have ht := tab_ok
  refine Ct.body Try.func66 rfl rfl rfl rfl (fun c hn => ?_)
  unfold afterD_vc at h
  refine En.lenA 0 2 (by rfl) (by rfl) (fun hl => ?_)
  replace h := h hl
  clear hl
  refine En.lenA 0 3 (by rfl) (by rfl) (fun hl => ?_)
  replace h := h hl
  clear hl
  refine En.lenL 2 (by rfl) (fun hl => ?_)
  replace h := h hl
  clear hl
  refine En.seq ?_
  refine En.region ?_
  refine WL.run ht hn 2 ⟨[(1, .sv (.one (I q))), (2, .sv (.one (LS intT w))), (3, .sv (.one (.ptr 0 0)))], [.box [I x.fLetters, I x.fStart, LS (lsT intT) x.fNext, LS intT x.fMark] 25 false]⟩ (by kernel_rfl) ?_
  refine WL.nil ?_
  refine En.seq ?_
  refine En.seq ?_
  refine En.region ?_
  refine WL.run ht hn 3 ⟨[(1, .sv (.one (I q))), (3, .sv (.one (.ptr 0 0))), (9, .sv (.one (LS intT w))), (10, .sv (.one (I (w.length : Int)))), (11, .sv (.one (I 0)))], [.box [I x.fLetters, I x.fStart, LS (lsT intT) x.fNext, LS intT x.fMark] 25 false]⟩ (by kernel_rfl) ?_
  refine WL.nil ?_
  refine En.block ?_
  obtain ⟨Inv, mu, h0, hI⟩ := h
  refine En.loop (σ := Int × Int) (fun zz => Inv zz.1 zz.2) (fun zz => mu zz.1 zz.2) (fun zz => ⟨[(1, .sv (.one (I zz.1))), (3, .sv (.one (.ptr 0 0))), (9, .sv (.one (LS intT w))), (10, .sv (.one (I (w.length : Int)))), (11, .sv (.one (I zz.2)))], [.box [I x.fLetters, I x.fStart, LS (lsT intT) x.fNext, LS intT x.fMark] 25 false]⟩) (q, 0) h0 (sub_ok (by kernel_rfl)) ?_
  rintro ⟨x1, x11⟩ h
  replace h := hI _ _ h
  show En c ⟨[(1, .sv (.one (I x1))), (3, .sv (.one (.ptr 0 0))), (9, .sv (.one (LS intT w))), (10, .sv (.one (I (w.length : Int)))), (11, .sv (.one (I x11)))], [.box [I x.fLetters, I x.fStart, LS (lsT intT) x.fNext, LS intT x.fMark] 25 false]⟩ _
  refine En.seq ?_
  refine En.region ?_
  refine WL.run ht hn 1 ⟨[(1, .sv (.one (I x1))), (3, .sv (.one (.ptr 0 0))), (9, .sv (.one (LS intT w))), (10, .sv (.one (I (w.length : Int)))), (11, .sv (.one (I x11))), (12, .sv (.one (B (decide (x11 < (w.length : Int))))))], [.box [I x.fLetters, I x.fStart, LS (lsT intT) x.fNext, LS intT x.fMark] 25 false]⟩ (by kernel_rfl) ?_
  refine WL.nil ?_
  refine En.seq ?_
  refine En.cond (b := (decide (x11 < (w.length : Int)))) (by kernel_rfl) (fun hb => ?_) (fun hb => ?_)
  · replace h := h.1 hb
    refine En.skip ?_
    refine En.seq ?_
    refine En.block ?_
    refine En.seq ?_
    refine En.region ?_
    obtain ⟨e, he, h⟩ := h
    refine WL.val hn (by rfl) (val_index (T := intT) (l := w) (i := x11) ht rfl (by rfl) (by rfl) (by rfl) (by rfl) (by rfl) (by rfl) he) (by rfl) ?_
    refine WL.val hn (by rfl) (val_load (s := .one (I e)) ht rfl (by rfl) (by rfl) (by rfl) (by rfl) (by rfl)) (by rfl) ?_
    refine WL.run ht hn 1 ⟨[(1, .sv (.one (I x1))), (3, .sv (.one (.ptr 0 0))), (8, .sv (.one (I e))), (9, .sv (.one (LS intT w))), (10, .sv (.one (I (w.length : Int)))), (11, .sv (.one (I x11)))], [.box [I x.fLetters, I x.fStart, LS (lsT intT) x.fNext, LS intT x.fMark] 25 false]⟩ (by kernel_rfl) ?_
    refine WL.nil ?_
    refine En.region ?_
    refine WL.run ht hn 3 ⟨[(3, .sv (.one (.ptr 0 0))), (8, .sv (.one (I e))), (9, .sv (.one (LS intT w))), (10, .sv (.one (I (w.length : Int)))), (11, .sv (.one (I x11))), (16, .sv (.one (LS (lsT intT) x.fNext))), (17, .sv (.one (I x1)))], [.box [I x.fLetters, I x.fStart, LS (lsT intT) x.fNext, LS intT x.fMark] 25 false]⟩ (by kernel_rfl) ?_
    obtain ⟨e_2, he_2, h⟩ := h
    refine WL.val hn (by rfl) (val_index (T := (lsT intT)) (l := x.fNext) (i := x1) ht rfl (by rfl) (by rfl) (by rfl) (by rfl) (by rfl) (by rfl) he_2) (by rfl) ?_
    refine WL.val hn (by rfl) (val_load (s := .one (LS intT e_2)) ht rfl (by rfl) (by rfl) (by rfl) (by rfl) (by rfl)) (by rfl) ?_
    refine WL.run ht hn 1 ⟨[(3, .sv (.one (.ptr 0 0))), (9, .sv (.one (LS intT w))), (10, .sv (.one (I (w.length : Int)))), (11, .sv (.one (I x11))), (19, .sv (.one (LS intT e_2))), (20, .sv (.one (I e)))], [.box [I x.fLetters, I x.fStart, LS (lsT intT) x.fNext, LS intT x.fMark] 25 false]⟩ (by kernel_rfl) ?_
    obtain ⟨e_3, he_3, h⟩ := h
    refine WL.val hn (by rfl) (val_index (T := intT) (l := e_2) (i := e) ht rfl (by rfl) (by rfl) (by rfl) (by rfl) (by rfl) (by rfl) he_3) (by rfl) ?_
    refine WL.val hn (by rfl) (val_load (s := .one (I e_3)) ht rfl (by rfl) (by rfl) (by rfl) (by rfl) (by rfl)) (by rfl) ?_
    refine WL.run ht hn 1 ⟨[(1, .sv (.one (I e_3))), (3, .sv (.one (.ptr 0 0))), (9, .sv (.one (LS intT w))), (10, .sv (.one (I (w.length : Int)))), (11, .sv (.one (I x11)))], [.box [I x.fLetters, I x.fStart, LS (lsT intT) x.fNext, LS intT x.fMark] 25 false]⟩ (by kernel_rfl) ?_
    refine WL.nil ?_
    refine En.region ?_
    refine WL.run ht hn 2 ⟨[(1, .sv (.one (I e_3))), (3, .sv (.one (.ptr 0 0))), (9, .sv (.one (LS intT w))), (10, .sv (.one (I (w.length : Int)))), (11, .sv (.one (I (wr (x11 + 1)))))], [.box [I x.fLetters, I x.fStart, LS (lsT intT) x.fNext, LS intT x.fMark] 25 false]⟩ (by kernel_rfl) ?_
    refine WL.nil ?_
    exact En.at (I := fun zz => Inv zz.1 zz.2 ∧ mu zz.1 zz.2 < mu x1 x11) (T := fun zz => ⟨[(1, .sv (.one (I zz.1))), (3, .sv (.one (.ptr 0 0))), (9, .sv (.one (LS intT w))), (10, .sv (.one (I (w.length : Int)))), (11, .sv (.one (I zz.2)))], [.box [I x.fLetters, I x.fStart, LS (lsT intT) x.fNext, LS intT x.fMark] 25 false]⟩) (e_3, (wr (x11 + 1))) h (by kernel_rfl)
  · replace h := h.2 hb
    refine En.exit rfl ?_
    refine En.seq ?_
    refine En.region ?_
    refine WL.run ht hn 2 ⟨[(6, .sv (.one (I x1)))], [.gone]⟩ (by kernel_rfl) ?_
    refine WL.nil ?_
    refine En.ret ?_
    exact En.back ht x1 h (by kernel_rfl) rfl
theorem en66 : ∀ args w, (callFunc 66 args).run Try.prog w = .ok (.enter 66 args) w := enters_of Try.func66 (by kernel_rfl) rfl
def aftR (x : ApiDet) (q : Int) (w : List Int) : Int := w.foldl (fun q a => (x.fNext.getD q.toNat []).getD a.toNat 0) q
def AftPre (x : ApiDet) (q : Int) (w : List Int) : Prop := DetOk x ∧ (0 ≤ q ∧ q < (x.fNext.length : Int)) ∧ (∀ a ∈ w, 0 ≤ a ∧ a < x.fLetters) ∧ w.length ≤ 60
theorem aft_step {x : ApiDet} (h : DetOk x) {q a : Int} (hq : 0 ≤ q ∧ q < (x.fNext.length : Int)) (ha : 0 ≤ a ∧ a < x.fLetters) : a < ((x.fNext.getD q.toNat []).length : Int) ∧ 0 ≤ (x.fNext.getD q.toNat []).getD a.toNat 0 ∧ (x.fNext.getD q.toNat []).getD a.toNat 0 < (x.fNext.length : Int) := by
  have hm := getD_mem (l := x.fNext) (i := q.toNat) (z := []) (by omega)
  have hr := h.rows _ hm
  have hl : a < ((x.fNext.getD q.toNat []).length : Int) := by omega
  exact ⟨hl, h.in_ _ hm _ (getD_mem (by omega))⟩
theorem aft_in {x : ApiDet} (h : DetOk x) : ∀ (w : List Int) (q : Int), (∀ a ∈ w, 0 ≤ a ∧ a < x.fLetters) → (0 ≤ q ∧ q < (x.fNext.length : Int)) → 0 ≤ aftR x q w ∧ aftR x q w < (x.fNext.length : Int) ∧ (aftR x q w).toNat = (w.map Int.toNat).foldl (stepD x) q.toNat
  | [], q, _, hq => ⟨hq.1, hq.2, rfl⟩
  | a :: w, q, hw, hq => by
    have := aft_step h hq (hw a List.mem_cons_self)
    exact aft_in h w _ (fun b hb => hw b (List.mem_cons_of_mem _ hb)) this.2
def accR (x : ApiDet) (w : List Int) : Bool × Int := if detErr x = 0 then (if mayE x.fLetters w = 0 then ((x.fMark.getD (aftR x x.fStart w).toNat 0 == 1), 0) else (false, mayE x.fLetters w)) else (false, detErr x)
theorem afterD_ct (x : ApiDet) (q : Int) (w : (List Int)) (hd : AftPre x q w) : Ct 66 [.sv (.agg [I x.fLetters, I x.fStart, LS (lsT intT) x.fNext, LS intT x.fMark]), .sv (.one (I q)), .sv (.one (LS intT w))] [] (fun (_ : Unit) => True) (fun _ => .sv (.one (I (aftR x q w)))) := by
  refine (afterD_walk x q w (fun res_ => res_ = (aftR x q w)) ?_).fun
  intro _ _ _
  obtain ⟨hx, hq, hw, hwl⟩ := hd
  refine ⟨fun p i => ∃ k : Nat, i = k ∧ k ≤ w.length ∧ p = aftR x q (w.take k), fun _ i => w.length - i.toNat, ⟨0, rfl, Nat.zero_le _, rfl⟩, ?_⟩
  rintro p i ⟨k, rfl, hk, rfl⟩
  refine ⟨fun hb => ?_, fun hb => ?_⟩
  · have hlt := dlt hb
    have hin := aft_in hx (w.take k) q (fun a ha => hw a (List.mem_of_mem_take ha)) hq
    have hst := aft_step hx ⟨hin.1, hin.2.1⟩ (hw _ (List.getElem_mem hlt))
    refine ⟨_, idx_at hlt, _, idx_of [] hin.1 hin.2.1, _, idx_of 0 (hw _ (List.getElem_mem hlt)).1 hst.1, ⟨k + 1, wsucc (by omega), hlt, ?_⟩, mu_up hlt (by omega)⟩
    rw [List.take_add_one, List.getElem?_eq_getElem hlt]
    unfold aftR
    rw [List.foldl_append]
    rfl
  · rw [List.take_of_length_le (dge hb)]
def acceptsD_vc (x : ApiDet) (w : (List Int)) (Q : (Bool × Int) → Prop) : Prop :=
  x.fNext.length ≤ 9223372036854775807 →
  x.fMark.length ≤ 9223372036854775807 →
  w.length ≤ 9223372036854775807 →
  (IfP ((detErr x) != 0) (Q (false, (detErr x))) (IfP ((mayE x.fLetters w) != 0) (Q (false, (mayE x.fLetters w))) ((AftPre x x.fStart w) ∧
  ∃ e, idx x.fMark (aftR x x.fStart w) = some e ∧
  Q ((e == 1), 0))))
theorem acceptsD_walk (x : ApiDet) (w : (List Int)) (Q : (Bool × Int) → Prop) (h : acceptsD_vc x w Q) : Ct 26 [.sv (.agg [I x.fLetters, I x.fStart, LS (lsT intT) x.fNext, LS intT x.fMark]), .sv (.one (LS intT w))] [] Q (fun (r : (Bool × Int)) => .tup [.one (B r.1), .one (I r.2)]) := by
  have ht := tab_ok
  refine Ct.body Try.func26 rfl rfl rfl rfl (fun c hn => ?_)
  unfold acceptsD_vc at h
  refine En.lenA 0 2 (by rfl) (by rfl) (fun hl => ?_)
  replace h := h hl
  clear hl
  refine En.lenA 0 3 (by rfl) (by rfl) (fun hl => ?_)
  replace h := h hl
  clear hl
  refine En.lenL 1 (by rfl) (fun hl => ?_)
  replace h := h hl
  clear hl
  refine En.seq ?_
  refine En.region ?_
  refine WL.run ht hn 3 ⟨[(1, .sv (.one (LS intT w))), (2, .sv (.one (.ptr 0 0)))], [.box [I x.fLetters, I x.fStart, LS (lsT intT) x.fNext, LS intT x.fMark] 25 false]⟩ (by kernel_rfl) ?_
  refine WL.nil ?_
  refine En.seq ?_
  refine En.seq ?_
  refine En.region ?_
  refine WL.run ht hn 1 ⟨[(1, .sv (.one (LS intT w))), (2, .sv (.one (.ptr 0 0))), (8, .sv (.agg [I x.fLetters, I x.fStart, LS (lsT intT) x.fNext, LS intT x.fMark]))], [.box [I x.fLetters, I x.fStart, LS (lsT intT) x.fNext, LS intT x.fMark] 25 false]⟩ (by kernel_rfl) ?_
  refine WL.mt0 (K := []) (p := none) hn (by rfl) (mt_call (detCheck_ct x) en44 (caps := []) [] rfl (by rfl) (by kernel_rfl) (by kernel_rfl) (by rfl) (by rfl) (by rfl)) (by rfl) (by rfl) (by rfl) ?_
  refine WL.run ht hn 1 ⟨[(1, .sv (.one (LS intT w))), (2, .sv (.one (.ptr 0 0))), (6, .sv (.one (I (detErr x))))], [.box [I x.fLetters, I x.fStart, LS (lsT intT) x.fNext, LS intT x.fMark] 25 false]⟩ (by kernel_rfl) ?_
  refine WL.nil ?_
  refine En.seq ?_
  refine En.region ?_
  refine WL.run ht hn 2 ⟨[(1, .sv (.one (LS intT w))), (2, .sv (.one (.ptr 0 0))), (6, .sv (.one (I (detErr x)))), (11, .sv (.one (B ((detErr x) != 0))))], [.box [I x.fLetters, I x.fStart, LS (lsT intT) x.fNext, LS intT x.fMark] 25 false]⟩ (by kernel_rfl) ?_
  refine WL.nil ?_
  refine En.cond (b := ((detErr x) != 0)) (by kernel_rfl) (fun hb => ?_) (fun hb => ?_)
  · replace h := h.1 hb
    refine En.seq ?_
    refine En.region ?_
    refine WL.run ht hn 3 ⟨[(4, .sv (.one (B false))), (5, .sv (.one (I (detErr x))))], [.gone]⟩ (by kernel_rfl) ?_
    refine WL.nil ?_
    refine En.ret ?_
    exact En.back ht (false, (detErr x)) h (by kernel_rfl) rfl
  · replace h := h.2 hb
    refine En.skip ?_
    refine En.seq ?_
    refine En.seq ?_
    refine En.region ?_
    refine WL.run ht hn 3 ⟨[(1, .sv (.one (LS intT w))), (2, .sv (.one (.ptr 0 0))), (14, .sv (.one (I x.fLetters))), (15, .sv (.one (LS intT w)))], [.box [I x.fLetters, I x.fStart, LS (lsT intT) x.fNext, LS intT x.fMark] 25 false]⟩ (by kernel_rfl) ?_
    refine WL.mt0 (K := []) (p := none) hn (by rfl) (mt_call (mayW_ct x.fLetters w) en73 (caps := []) [] rfl (by rfl) (by kernel_rfl) (by kernel_rfl) (by rfl) (by rfl) (by rfl)) (by rfl) (by rfl) (by rfl) ?_
    refine WL.run ht hn 1 ⟨[(1, .sv (.one (LS intT w))), (2, .sv (.one (.ptr 0 0))), (7, .sv (.one (I (mayE x.fLetters w))))], [.box [I x.fLetters, I x.fStart, LS (lsT intT) x.fNext, LS intT x.fMark] 25 false]⟩ (by kernel_rfl) ?_
    refine WL.nil ?_
    refine En.seq ?_
    refine En.region ?_
    refine WL.run ht hn 2 ⟨[(1, .sv (.one (LS intT w))), (2, .sv (.one (.ptr 0 0))), (7, .sv (.one (I (mayE x.fLetters w)))), (18, .sv (.one (B ((mayE x.fLetters w) != 0))))], [.box [I x.fLetters, I x.fStart, LS (lsT intT) x.fNext, LS intT x.fMark] 25 false]⟩ (by kernel_rfl) ?_
    refine WL.nil ?_
    refine En.cond (b := ((mayE x.fLetters w) != 0)) (by kernel_rfl) (fun hb => ?_) (fun hb => ?_)
    · replace h := h.1 hb
      refine En.seq ?_
      refine En.region ?_
      refine WL.run ht hn 3 ⟨[(4, .sv (.one (B false))), (5, .sv (.one (I (mayE x.fLetters w))))], [.gone]⟩ (by kernel_rfl) ?_
      refine WL.nil ?_
      refine En.ret ?_
      exact En.back ht (false, (mayE x.fLetters w)) h (by kernel_rfl) rfl
    · replace h := h.2 hb
      refine En.skip ?_
      refine En.seq ?_
      have hp_2 := h.1
      replace h := h.2
      obtain ⟨e, he, h⟩ := h
      refine En.regionA ⟨[(1, .sv (.one (LS intT w))), (2, .sv (.one (.ptr 0 0)))], [.sv (.one (.ptr 0 3)), .sv (.one (LS intT x.fMark)), .sv (.agg [I x.fLetters, I x.fStart, LS (lsT intT) x.fNext, LS intT x.fMark]), .sv (.one (.ptr 0 1)), .sv (.one (I x.fStart)), .sv (.one (LS intT w)), .sv (.one (I (aftR x x.fStart w))), .sv (.one (.pe (svR (.one (I e))) 1)), .sv (.one (I e)), .sv (.one (B (e == 1))), .sv (.one (B (e == 1))), .sv (.one (I 0))], [⟨.box [I x.fLetters, I x.fStart, LS (lsT intT) x.fNext, LS intT x.fMark] 25 false, none, none, none⟩]⟩ ⟨[(4, .sv (.one (B (e == 1)))), (5, .sv (.one (I 0)))], [.gone]⟩ (by kernel_rfl) hn (by kernel_rfl) (by rfl) (by kernel_rfl) ?_ (by kernel_rfl) ?_
      · exact ⟨.mt ⟨[(2, .sv (.one (.ptr 0 0)))], []⟩ [] none (by kernel_rfl) (by rfl) (mt_ev ht (by kernel_rfl)) rfl rfl rfl rfl,
    .mt ⟨[(20, .sv (.one (.ptr 0 3)))], [.box [I x.fLetters, I x.fStart, LS (lsT intT) x.fNext, LS intT x.fMark] 25 false]⟩ [] none (by kernel_rfl) (by rfl) (mt_ev ht (by kernel_rfl)) rfl rfl rfl rfl,
    .mt ⟨[(2, .sv (.one (.ptr 0 0)))], [.box [I x.fLetters, I x.fStart, LS (lsT intT) x.fNext, LS intT x.fMark] 25 false]⟩ [] none (by kernel_rfl) (by rfl) (mt_ev ht (by kernel_rfl)) rfl rfl rfl rfl,
    .mt ⟨[(2, .sv (.one (.ptr 0 0)))], []⟩ [] none (by kernel_rfl) (by rfl) (mt_ev ht (by kernel_rfl)) rfl rfl rfl rfl,
    .mt ⟨[(23, .sv (.one (.ptr 0 1)))], [.box [I x.fLetters, I x.fStart, LS (lsT intT) x.fNext, LS intT x.fMark] 25 false]⟩ [] none (by kernel_rfl) (by rfl) (mt_ev ht (by kernel_rfl)) rfl rfl rfl rfl,
    .mt ⟨[(1, .sv (.one (LS intT w)))], []⟩ [] none (by kernel_rfl) (by rfl) (mt_ev ht (by kernel_rfl)) rfl rfl rfl rfl,
    .mt ⟨[(22, .sv (.agg [I x.fLetters, I x.fStart, LS (lsT intT) x.fNext, LS intT x.fMark])), (24, .sv (.one (I x.fStart))), (25, .sv (.one (LS intT w)))], []⟩ [] none (by kernel_rfl) (by rfl) (mt_call (afterD_ct x x.fStart w hp_2) en66 (caps := []) [] rfl (by rfl) (by kernel_rfl) (by kernel_rfl) (by rfl) (by rfl) (by rfl)) rfl rfl rfl rfl,
    .mt ⟨[(21, .sv (.one (LS intT x.fMark))), (26, .sv (.one (I (aftR x x.fStart w))))], []⟩ [] none (by kernel_rfl) (by rfl) (mt_val (val_index (T := intT) (l := x.fMark) (i := (aftR x x.fStart w)) ht rfl (by rfl) (by rfl) (by rfl) (by rfl) (by rfl) (by rfl) he)) rfl rfl rfl rfl,
    .mt ⟨[(27, .sv (.one (.pe (svR (.one (I e))) 1)))], []⟩ [] none (by kernel_rfl) (by rfl) (mt_val (val_load (s := .one (I e)) ht rfl (by rfl) (by rfl) (by rfl) (by rfl) (by rfl))) rfl rfl rfl rfl,
    .mt ⟨[(28, .sv (.one (I e)))], []⟩ [] none (by kernel_rfl) (by rfl) (mt_ev ht (by kernel_rfl)) rfl rfl rfl rfl,
    .mt ⟨[(29, .sv (.one (B (e == 1))))], []⟩ [] none (by kernel_rfl) (by rfl) (mt_ev ht (by kernel_rfl)) rfl rfl rfl rfl,
    .mt ⟨[], []⟩ [] none (by kernel_rfl) (by rfl) (mt_ev ht (by kernel_rfl)) rfl rfl rfl rfl,
    trivial⟩
      · refine En.ret ?_
        exact En.back ht ((e == 1), 0) h (by kernel_rfl) rfl
theorem en26 : ∀ args w, (callFunc 26 args).run Try.prog w = .ok (.enter 26 args) w := enters_of Try.func26 (by kernel_rfl) rfl
theorem acceptsD_ct (x : ApiDet) (w : (List Int))  : Ct 26 [.sv (.agg [I x.fLetters, I x.fStart, LS (lsT intT) x.fNext, LS intT x.fMark]), .sv (.one (LS intT w))] [] (fun (_ : Unit) => True) (fun _ => .tup [.one (B (accR x w).1), .one (I (accR x w).2)]) := by
  refine (acceptsD_walk x w (fun res_ => res_ = (accR x w)) ?_).fun
  intro _ _ _
  refine ⟨fun h => ?_, fun h => ⟨fun h2 => ?_, fun h2 => ?_⟩⟩
  · show _ = accR x w
    unfold accR
    rw [if_neg (by simpa using h)]
  · show _ = accR x w
    unfold accR
    rw [if_pos (by simpa using h), if_neg (by simpa using h2)]
  have h : detErr x = 0 := by simpa using h
  have h2 : mayE x.fLetters w = 0 := by simpa using h2
  have hx := (detErr_iff x).1 h
  have hw := (mayE_ok h2).2
  have hin := aft_in hx w x.fStart hw hx.start
  refine ⟨⟨hx, hx.start, hw, (mayE_ok h2).1⟩, _, idx_of 0 hin.1 (by rw [hx.marks]; exact hin.2.1), ?_⟩
  show _ = accR x w
  unfold accR
  rw [if_pos h, if_pos h2]
end Go.Proofs.Ytiinkohfldopbaa

