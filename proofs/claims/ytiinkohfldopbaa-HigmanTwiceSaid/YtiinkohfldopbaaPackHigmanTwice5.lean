/- Lemmas towards the statement: mirrors of functions, and plain laws. No condition. -/
import Derived.Laws.BitsLemmas
import Derived.Test.YtiinkohfldopbaaPackHigmanTwice4

/- The plain law of exploring: automata of keys, numbered as they are found; the one automaton of a language. No condition. -/
namespace Go.Proofs.Ytiinkohfldopbaa
open Go.RowKit Go.MapKept
set_option linter.unusedSimpArgs false
set_option linter.unusedVariables false
set_option maxRecDepth 100000
set_option linter.unusedSectionVars false

theorem nodup_le {α : Type} : ∀ {l m : List α}, l.Nodup → (∀ x ∈ l, x ∈ m) → l.length ≤ m.length
  | [], _, _, _ => Nat.zero_le _
  | x :: l, m, hn, h => by
    rw [List.nodup_cons] at hn
    obtain ⟨s, t, rfl⟩ := List.append_of_mem (h x List.mem_cons_self)
    have := nodup_le (l := l) (m := s ++ t) hn.2 fun y hy => by
      have h1 := h y (List.mem_cons_of_mem _ hy)
      rw [List.mem_append, List.mem_cons] at h1
      rw [List.mem_append]
      rcases h1 with h1 | rfl | h1
      · exact .inl h1
      · exact absurd hy hn.1
      · exact .inr h1
    simp only [List.length_append, List.length_cons] at this ⊢
    omega
theorem idxOf_left {α : Type} [DecidableEq α] {x : α} : ∀ {l r : List α}, x ∈ l → (l ++ r).idxOf x = l.idxOf x
  | [], _, h => by simp at h
  | y :: l, r, h => by
    rw [List.cons_append, List.idxOf_cons, List.idxOf_cons]
    by_cases e : y = x
    · simp [e]
    · have hm : x ∈ l := by
        rcases List.mem_cons.1 h with h | h
        · exact absurd h.symm e
        · exact h
      simp [e, idxOf_left (r := r) hm]
theorem idxOf_map {α β : Type} [DecidableEq α] [DecidableEq β] {φ : α → β} {x : α} : ∀ {l : List α}, (∀ y ∈ l, φ y = φ x → y = x) → (l.map φ).idxOf (φ x) = l.idxOf x
  | [], _ => rfl
  | y :: l, h => by
    rw [List.map_cons, List.idxOf_cons, List.idxOf_cons]
    have ih := idxOf_map (l := l) fun z hz => h z (List.mem_cons_of_mem _ hz)
    by_cases e : y = x
    · simp [e]
    · have : φ y ≠ φ x := fun e2 => e (h y List.mem_cons_self e2)
      rw [show (φ y == φ x) = false by simpa using this, show (y == x) = false by simpa using e]
      simp [ih]
section
variable {K : Type} [DecidableEq K]
/-- keys that are known, and those behind key k by the letters below n -/
def growTo (go : K → Nat → K) (k : K) : Nat → List K → List K
  | 0, l => l
  | n + 1, l => if go k n ∈ growTo go k n l then growTo go k n l else growTo go k n l ++ [go k n]
/-- keys that are known when the first i were gone through -/
def expl (go : K → Nat → K) (L : Nat) (k0 : K) : Nat → List K
  | 0 => [k0]
  | i + 1 => match (expl go L k0 i)[i]? with
    | some k => growTo go k L (expl go L k0 i)
    | none => expl go L k0 i
variable {go : K → Nat → K} {mark : K → Int} {L : Nat} {k0 : K} {P : K → Prop}
theorem growTo_app (k : K) : ∀ (n : Nat) (l : List K), ∃ r, growTo go k n l = l ++ r
  | 0, l => ⟨[], by simp [growTo]⟩
  | n + 1, l => by
    obtain ⟨r, hr⟩ := growTo_app k n l
    rw [growTo]
    split
    · exact ⟨r, hr⟩
    · exact ⟨r ++ [go k n], by rw [hr, List.append_assoc]⟩
theorem growTo_nodup {k : K} : ∀ {n : Nat} {l : List K}, l.Nodup → (growTo go k n l).Nodup
  | 0, _, h => h
  | n + 1, l, h => by
    have ih := growTo_nodup (k := k) (n := n) h
    rw [growTo]
    split
    · exact ih
    · rename_i hm
      rw [List.nodup_append]
      exact ⟨ih, by simp, fun x hx y hy => by simp at hy; subst hy; exact fun e => hm (e ▸ hx)⟩
theorem growTo_mem {k x : K} : ∀ {n : Nat} {l : List K}, x ∈ growTo go k n l ↔ x ∈ l ∨ ∃ a, a < n ∧ go k a = x
  | 0, l => by simp [growTo]
  | n + 1, l => by
    have ih := growTo_mem (k := k) (x := x) (n := n) (l := l)
    have key : x ∈ growTo go k (n + 1) l ↔ x ∈ growTo go k n l ∨ go k n = x := by
      rw [growTo]
      split
      · rename_i hm
        constructor
        · exact .inl
        · rintro (h | rfl)
          · exact h
          · exact hm
      · rw [List.mem_append, List.mem_singleton]
        constructor
        · rintro (h | rfl)
          · exact .inl h
          · exact .inr rfl
        · rintro (h | rfl)
          · exact .inl h
          · exact .inr rfl
    rw [key, ih]
    constructor
    · rintro ((h | ⟨a, h1, h2⟩) | h)
      · exact .inl h
      · exact .inr ⟨a, by omega, h2⟩
      · exact .inr ⟨n, by omega, h⟩
    · rintro (h | ⟨a, h1, h2⟩)
      · exact .inl (.inl h)
      · by_cases e : a = n
        · subst e; exact .inr h2
        · exact .inl (.inr ⟨a, by omega, h2⟩)
theorem expl_step (i : Nat) : ∃ r, expl go L k0 (i + 1) = expl go L k0 i ++ r := by
  rw [expl]
  split
  · exact growTo_app _ _ _
  · exact ⟨[], by simp⟩
theorem expl_app {i : Nat} : ∀ {j : Nat}, i ≤ j → ∃ r, expl go L k0 j = expl go L k0 i ++ r
  | 0, h => by
    obtain rfl : i = 0 := by omega
    exact ⟨[], by simp⟩
  | j + 1, h => by
    by_cases e : i = j + 1
    · subst e; exact ⟨[], by simp⟩
    · obtain ⟨r, hr⟩ := expl_app (i := i) (j := j) (by omega)
      obtain ⟨r2, hr2⟩ := expl_step (go := go) (L := L) (k0 := k0) j
      exact ⟨r ++ r2, by rw [hr2, hr, List.append_assoc]⟩
theorem expl_nodup : ∀ {i : Nat}, (expl go L k0 i).Nodup
  | 0 => by simp [expl]
  | i + 1 => by
    rw [expl]
    split
    · exact growTo_nodup expl_nodup
    · exact expl_nodup
theorem expl_stop {i : Nat} (h : (expl go L k0 i).length ≤ i) : ∀ {j : Nat}, i ≤ j → expl go L k0 j = expl go L k0 i
  | 0, hj => by
    obtain rfl : i = 0 := by omega
    rfl
  | j + 1, hj => by
    by_cases e : i = j + 1
    · subst e; rfl
    · have ih := expl_stop h (j := j) (by omega)
      rw [expl, ih, List.getElem?_eq_none (by omega)]
theorem expl_one {n m : Nat} (hn : (expl go L k0 n).length = n) (hm : (expl go L k0 m).length = m) : expl go L k0 n = expl go L k0 m := by
  rcases Nat.le_total n m with h | h
  · exact (expl_stop (by omega) h).symm
  · exact expl_stop (by omega) h
theorem expl_mono {i j : Nat} (h : i ≤ j) : (expl go L k0 i).length ≤ (expl go L k0 j).length := by
  obtain ⟨r, hr⟩ := expl_app (go := go) (L := L) (k0 := k0) h
  rw [hr, List.length_append]
  omega
theorem expl_in (h0 : P k0) (hP : ∀ k a, P k → a < L → P (go k a)) : ∀ {i : Nat} {k : K}, k ∈ expl go L k0 i → P k
  | 0, k, h => by
    simp [expl] at h
    exact h ▸ h0
  | i + 1, k, h => by
    rw [expl] at h
    split at h
    · rename_i q hq
      rcases growTo_mem.1 h with h | ⟨a, ha, rfl⟩
      · exact expl_in h0 hP h
      · exact hP _ _ (expl_in h0 hP (List.mem_of_getElem? hq)) ha
    · exact expl_in h0 hP h
theorem expl_first (i : Nat) : (expl go L k0 i)[0]? = some k0 := by
  obtain ⟨r, hr⟩ := expl_app (go := go) (L := L) (k0 := k0) (Nat.zero_le i)
  rw [hr]
  simp [expl]
/-- the key number j is known when the first j were gone through -/
theorem expl_get {n j : Nat} {k : K} (hj : j < n) (hk : (expl go L k0 n)[j]? = some k) : (expl go L k0 j)[j]? = some k := by
  obtain ⟨r, hr⟩ := expl_app (go := go) (L := L) (k0 := k0) (Nat.le_of_lt hj)
  by_cases h : j < (expl go L k0 j).length
  · rw [hr, List.getElem?_append_left h] at hk
    exact hk
  · have e := expl_stop (go := go) (L := L) (k0 := k0) (i := j) (by omega) (j := n) (by omega)
    rw [e, List.getElem?_eq_none (by omega)] at hk
    cases hk
theorem expl_closed {n : Nat} (hn : (expl go L k0 n).length = n) {k : K} (hk : k ∈ expl go L k0 n) {a : Nat} (ha : a < L) : go k a ∈ expl go L k0 n := by
  obtain ⟨j, hj⟩ := List.getElem?_of_mem hk
  have hlt : j < n := by
    have := (List.getElem?_eq_some_iff.1 hj).1
    omega
  have h1 := expl_get hlt hj
  obtain ⟨r, hr⟩ := expl_app (go := go) (L := L) (k0 := k0) (show j + 1 ≤ n from hlt)
  rw [hr]
  refine List.mem_append_left _ ?_
  rw [expl, h1]
  exact growTo_mem.2 (.inr ⟨a, ha, rfl⟩)
/-- where all keys lie in a list, they are found -/
theorem expl_ends {m : List K} (h0 : k0 ∈ m) (hP : ∀ k a, k ∈ m → a < L → go k a ∈ m) : ∃ n, (expl go L k0 n).length = n ∧ n ≤ m.length := by
  have hall : ∀ i, (expl go L k0 i).length ≤ m.length := fun i => nodup_le expl_nodup fun x hx => expl_in (P := fun k => k ∈ m) h0 hP hx
  by_cases h : ∃ n, n ≤ m.length ∧ (expl go L k0 n).length ≤ n
  · obtain ⟨n, h1, h2⟩ := h
    have h3 : (expl go L k0 (expl go L k0 n).length).length ≤ (expl go L k0 n).length := expl_mono h2
    have h4 := expl_stop h3 h2
    exact ⟨(expl go L k0 n).length, by rw [← h4], hall n⟩
  · exfalso
    have := hall m.length
    exact h ⟨m.length, Nat.le_refl _, this⟩
def rowOf (go : K → Nat → K) (L : Nat) (l : List K) (k : K) : List Int := (List.range L).map fun a => (l.idxOf (go k a) : Int)
/-- the automaton of keys -/
def detOf (go : K → Nat → K) (mark : K → Int) (L : Nat) (l : List K) : ApiDet := ⟨L, 0, l.map (rowOf go L l), l.map mark⟩
open Classical in
noncomputable def explL (go : K → Nat → K) (L : Nat) (k0 : K) : List K := if h : ∃ n, (expl go L k0 n).length = n then expl go L k0 h.choose else [k0]
theorem explL_eq {n : Nat} (h : (expl go L k0 n).length = n) : explL go L k0 = expl go L k0 n := by
  unfold explL
  have hx : ∃ n, (expl go L k0 n).length = n := ⟨n, h⟩
  rw [dif_pos hx]
  exact expl_one hx.choose_spec h
noncomputable def explD (go : K → Nat → K) (mark : K → Int) (L : Nat) (k0 : K) : ApiDet := detOf go mark L (explL go L k0)
open Classical in
/-- what exploring hands back -/
noncomputable def explR (go : K → Nat → K) (mark : K → Int) (L : Nat) (k0 : K) (limit : Int) : ApiDet × Bool :=
  if ∃ n : Nat, (expl go L k0 n).length = n ∧ (n : Int) ≤ limit then (explD go mark L k0, true) else (⟨0, 0, [], []⟩, false)
theorem explR_ends {limit : Int} {m : List K} (h0 : k0 ∈ m) (hP : ∀ k a, k ∈ m → a < L → go k a ∈ m) (hl : (m.length : Int) ≤ limit) : explR go mark L k0 limit = (explD go mark L k0, true) := by
  obtain ⟨n, h1, h2⟩ := expl_ends (L := L) h0 hP
  unfold explR
  rw [if_pos ⟨n, h1, by omega⟩]
section
variable {K' : Type} [DecidableEq K'] {go' : K' → Nat → K'} {mark' : K' → Int} {φ : K → K'}
theorem growTo_map (inj : ∀ x y, P x → P y → φ x = φ y → x = y) (hg : ∀ k a, P k → a < L → φ (go k a) = go' (φ k) a) (hP : ∀ k a, P k → a < L → P (go k a)) {k : K} (hk : P k) : ∀ {n : Nat} {l : List K}, n ≤ L → (∀ x ∈ l, P x) → growTo go' (φ k) n (l.map φ) = (growTo go k n l).map φ
  | 0, l, _, _ => rfl
  | n + 1, l, hn, hl => by
    have ih := growTo_map inj hg hP hk (n := n) (l := l) (by omega) hl
    have hin : ∀ x ∈ growTo go k n l, P x := fun x hx => by
      rcases growTo_mem.1 hx with h | ⟨a, ha, rfl⟩
      · exact hl x h
      · exact hP k a hk (by omega)
    have hmem : go' (φ k) n ∈ (growTo go k n l).map φ ↔ go k n ∈ growTo go k n l := by
      rw [← hg k n hk (by omega), List.mem_map]
      constructor
      · rintro ⟨x, hx, e⟩
        exact inj _ _ (hin x hx) (hP k n hk (by omega)) e ▸ hx
      · exact fun h => ⟨_, h, rfl⟩
    rw [growTo, growTo, ih]
    by_cases h : go k n ∈ growTo go k n l
    · rw [if_pos h, if_pos (hmem.2 h)]
    · rw [if_neg h, if_neg (fun e => h (hmem.1 e)), List.map_append, List.map_cons, List.map_nil, hg k n hk (by omega)]
theorem expl_map (h0 : P k0) (inj : ∀ x y, P x → P y → φ x = φ y → x = y) (hg : ∀ k a, P k → a < L → φ (go k a) = go' (φ k) a) (hP : ∀ k a, P k → a < L → P (go k a)) : ∀ {i : Nat}, expl go' L (φ k0) i = (expl go L k0 i).map φ
  | 0 => rfl
  | i + 1 => by
    rw [expl, expl, expl_map h0 inj hg hP, List.getElem?_map]
    cases hk : (expl go L k0 i)[i]? with
    | none => rfl
    | some k =>
      show growTo go' (φ k) L _ = _
      exact growTo_map inj hg hP (expl_in h0 hP (List.mem_of_getElem? hk)) (Nat.le_refl _) fun x hx => expl_in h0 hP hx
theorem explL_map (h0 : P k0) (inj : ∀ x y, P x → P y → φ x = φ y → x = y) (hg : ∀ k a, P k → a < L → φ (go k a) = go' (φ k) a) (hP : ∀ k a, P k → a < L → P (go k a)) : explL go' L (φ k0) = (explL go L k0).map φ := by
  by_cases h : ∃ n, (expl go L k0 n).length = n
  · obtain ⟨n, hn⟩ := h
    rw [explL_eq hn, explL_eq (n := n) (by rw [expl_map h0 inj hg hP, List.length_map]; exact hn), expl_map h0 inj hg hP]
  · have h' : ¬ ∃ n, (expl go' L (φ k0) n).length = n := fun ⟨n, hn⟩ => h ⟨n, by rw [expl_map h0 inj hg hP, List.length_map] at hn; exact hn⟩
    unfold explL
    rw [dif_neg h, dif_neg h']
    rfl
theorem explL_in (h0 : P k0) (hP : ∀ k a, P k → a < L → P (go k a)) {k : K} (hk : k ∈ explL go L k0) : P k := by
  unfold explL at hk
  split at hk
  · exact expl_in h0 hP hk
  · simp at hk
    exact hk ▸ h0
/-- automata of keys that go alike are alike -/
theorem explD_map (h0 : P k0) (inj : ∀ x y, P x → P y → φ x = φ y → x = y) (hg : ∀ k a, P k → a < L → φ (go k a) = go' (φ k) a) (hP : ∀ k a, P k → a < L → P (go k a)) (hm : ∀ k, P k → mark' (φ k) = mark k) : explD go' mark' L (φ k0) = explD go mark L k0 := by
  unfold explD detOf
  rw [explL_map h0 inj hg hP, List.map_map, List.map_map]
  have hin : ∀ k ∈ explL go L k0, P k := fun k hk => explL_in h0 hP hk
  refine congr (congrArg _ (List.map_congr_left fun k hk => ?_)) (List.map_congr_left fun k hk => hm k (hin k hk))
  show rowOf go' L _ (φ k) = rowOf go L _ k
  unfold rowOf
  refine List.map_congr_left fun a ha => ?_
  have ha : a < L := List.mem_range.1 ha
  have hk := hin k hk
  rw [← hg k a hk ha, idxOf_map fun y hy e => inj _ _ (hin y hy) (hP k a hk ha) e]
end
end
/-- what is said of words -/
abbrev Lang := List Nat → Int
noncomputable instance langDec : DecidableEq Lang := fun _ _ => Classical.propDecidable _
/-- of words of L letters alone -/
def rs (L : Nat) (r : Lang) : Lang := fun w => if ∀ a ∈ w, a < L then r w else 0
theorem rs_congr {L : Nat} {r s : Lang} (h : ∀ w, (∀ a ∈ w, a < L) → r w = s w) : rs L r = rs L s := by
  funext w
  unfold rs
  split
  · rename_i hw
    exact h w hw
  · rfl
def der (r : Lang) (a : Nat) : Lang := fun w => r (a :: w)
theorem rs_cons {L : Nat} {r : Lang} {a : Nat} (ha : a < L) {w : List Nat} : rs L r (a :: w) = rs L (der r a) w := by
  unfold rs
  by_cases h : ∀ b ∈ w, b < L
  · rw [if_pos h, if_pos (show ∀ b ∈ a :: w, b < L from fun b hb => (List.mem_cons.1 hb).elim (fun e => e ▸ ha) (h b))]
    rfl
  · rw [if_neg h, if_neg (fun e => h fun b hb => e b (List.mem_cons_of_mem _ hb))]
theorem der_rs {L : Nat} {r : Lang} {a : Nat} (ha : a < L) : der (rs L r) a = rs L (der r a) := funext fun _ => rs_cons ha
theorem rs_rs {L : Nat} {r : Lang} : rs L (rs L r) = rs L r := rs_congr fun w hw => by unfold rs; rw [if_pos hw]
theorem rs_at {L : Nat} {r s : Lang} (h : rs L r = rs L s) {w : List Nat} (hw : ∀ a ∈ w, a < L) : r w = s w := by
  have := congrFun h w
  unfold rs at this
  rw [if_pos hw, if_pos hw] at this
  exact this
/-- the automaton of what is said of words -/
noncomputable def canon (L : Nat) (r : Lang) : ApiDet := explD der (fun r => r []) L (rs L r)
theorem canon_congr {L : Nat} {r s : Lang} (h : ∀ w, (∀ a ∈ w, a < L) → r w = s w) : canon L r = canon L s := by
  unfold canon
  rw [rs_congr h]
section
variable {K : Type} [DecidableEq K] {go : K → Nat → K} {mark : K → Int} {L : Nat} {k0 : K} {P : K → Prop}
/-- what a key says of words -/
def langK (go : K → Nat → K) (mark : K → Int) (k : K) : Lang := fun w => mark (w.foldl go k)
theorem der_lang {k : K} {a : Nat} (ha : a < L) : rs L (langK go mark (go k a)) = der (rs L (langK go mark k)) a := by
  rw [der_rs ha]
  rfl
theorem canon_of (h0 : P k0) (hP : ∀ k a, P k → a < L → P (go k a)) (inj : ∀ x y, P x → P y → rs L (langK go mark x) = rs L (langK go mark y) → x = y) : explD go mark L k0 = canon L (langK go mark k0) := by
  unfold canon
  refine (explD_map (φ := fun k => rs L (langK go mark k)) h0 inj (fun k a _ ha => der_lang ha) hP fun k _ => ?_).symm
  show rs L (langK go mark k) [] = _
  unfold rs
  rw [if_pos (fun b hb => by simp at hb)]
  rfl
end
def stepD (d : ApiDet) (q : Nat) (a : Nat) : Nat := ((d.fNext.getD q []).getD a 0).toNat
/-- what an automaton says of words, from a state on -/
def langD (d : ApiDet) (q : Nat) : Lang := fun w => d.fMark.getD (w.foldl (stepD d) q) 0
section
variable {K : Type} [DecidableEq K] {go : K → Nat → K} {mark : K → Int} {L : Nat} {k0 : K} {P : K → Prop}
theorem getD_of {α : Type} {l : List α} {i : Nat} {d x : α} (h : l[i]? = some x) : l.getD i d = x := by simp [h]
theorem idxOf_get {l : List K} {k : K} (h : k ∈ l) : l[l.idxOf k]? = some k := by
  rw [List.getElem?_eq_getElem (List.idxOf_lt_length_of_mem h)]
  simp
theorem detOf_step {l : List K} {k : K} (hk : k ∈ l) {a : Nat} (ha : a < L) : stepD (detOf go mark L l) (l.idxOf k) a = l.idxOf (go k a) := by
  unfold stepD detOf
  have h1 : (l.map (rowOf go L l)).getD (l.idxOf k) [] = rowOf go L l k := getD_of (by rw [List.getElem?_map, idxOf_get hk]; rfl)
  have h2 : (rowOf go L l k).getD a 0 = (l.idxOf (go k a) : Int) := getD_of (by unfold rowOf; rw [List.getElem?_map, List.getElem?_range ha]; rfl)
  show (((l.map (rowOf go L l)).getD (l.idxOf k) []).getD a 0).toNat = _
  rw [h1, h2]
  simp
theorem detOf_run {l : List K} (hcl : ∀ k ∈ l, ∀ a, a < L → go k a ∈ l) : ∀ {w : List Nat} {k : K}, k ∈ l → (∀ a ∈ w, a < L) → w.foldl (stepD (detOf go mark L l)) (l.idxOf k) = l.idxOf (w.foldl go k)
  | [], k, hk, _ => rfl
  | a :: w, k, hk, hw => by
    have ha := hw a List.mem_cons_self
    rw [List.foldl_cons, List.foldl_cons, detOf_step hk ha, detOf_run hcl (hcl k hk a ha) fun b hb => hw b (List.mem_cons_of_mem _ hb)]
theorem foldl_in {l : List K} (hcl : ∀ k ∈ l, ∀ a, a < L → go k a ∈ l) : ∀ {w : List Nat} {k : K}, k ∈ l → (∀ a ∈ w, a < L) → w.foldl go k ∈ l
  | [], k, hk, _ => hk
  | a :: w, k, hk, hw => foldl_in (w := w) (k := go k a) hcl (hcl k hk a (hw a List.mem_cons_self)) fun b hb => hw b (List.mem_cons_of_mem _ hb)
theorem detOf_lang {l : List K} (hcl : ∀ k ∈ l, ∀ a, a < L → go k a ∈ l) {k : K} (hk : k ∈ l) {w : List Nat} (hw : ∀ a ∈ w, a < L) : langD (detOf go mark L l) (l.idxOf k) w = langK go mark k w := by
  unfold langD langK
  rw [detOf_run hcl hk hw]
  refine getD_of ?_
  show (l.map mark)[_]? = _
  rw [List.getElem?_map, idxOf_get (foldl_in hcl hk hw)]
  rfl
/-- all that is to be known of an explored automaton -/
theorem explD_facts {m : List K} (h0 : k0 ∈ m) (hP : ∀ k a, k ∈ m → a < L → go k a ∈ m) : ∃ l : List K, explL go L k0 = l ∧ l.Nodup ∧ (∀ k ∈ l, k ∈ m) ∧ l.length ≤ m.length ∧ l[0]? = some k0 ∧ ∀ k ∈ l, ∀ a, a < L → go k a ∈ l := by
  obtain ⟨n, h1, h2⟩ := expl_ends (L := L) h0 hP
  exact ⟨_, explL_eq h1, expl_nodup, fun k hk => expl_in (P := fun k => k ∈ m) h0 hP hk, by omega, expl_first n, fun k hk a ha => expl_closed h1 hk ha⟩
theorem idxOf_first {l : List K} (h : l[0]? = some k0) : l.idxOf k0 = 0 := by
  cases l with
  | nil => simp at h
  | cons x l => simp at h; simp [h]
theorem explD_lang {m : List K} (h0 : k0 ∈ m) (hP : ∀ k a, k ∈ m → a < L → go k a ∈ m) {w : List Nat} (hw : ∀ a ∈ w, a < L) : langD (explD go mark L k0) 0 w = langK go mark k0 w := by
  obtain ⟨l, e, _, _, _, h1, h2⟩ := explD_facts (L := L) h0 hP
  unfold explD
  rw [e]
  have := detOf_lang (mark := mark) h2 (List.mem_of_getElem? h1) hw
  rw [idxOf_first h1] at this
  exact this
end
/-- an automaton that may be, but for its marks -/
structure Wf (d : ApiDet) : Prop where
  letters : 0 ≤ d.fLetters
  rows : ∀ r ∈ d.fNext, r.length = d.fLetters.toNat
  next : ∀ r ∈ d.fNext, ∀ x ∈ r, 0 ≤ x ∧ x < (d.fNext.length : Int)
  start : 0 ≤ d.fStart ∧ d.fStart < (d.fNext.length : Int)
  mark : d.fMark.length = d.fNext.length
section
variable {K : Type} [DecidableEq K] {go : K → Nat → K} {mark : K → Int} {L : Nat} {k0 : K} {P : K → Prop}
theorem explD_wf {m : List K} (h0 : k0 ∈ m) (hP : ∀ k a, k ∈ m → a < L → go k a ∈ m) : Wf (explD go mark L k0) := by
  obtain ⟨l, e, _, _, _, h1, h2⟩ := explD_facts (L := L) h0 hP
  unfold explD
  rw [e]
  refine ⟨by simp [detOf], ?_, ?_, ?_, by simp [detOf]⟩
  · intro r hr
    obtain ⟨k, _, rfl⟩ := List.mem_map.1 hr
    simp [rowOf, detOf]
  · intro r hr x hx
    obtain ⟨k, hk, rfl⟩ := List.mem_map.1 hr
    obtain ⟨a, ha, rfl⟩ := List.mem_map.1 hx
    have := List.idxOf_lt_length_of_mem (h2 k hk a (List.mem_range.1 ha))
    simp only [detOf, List.length_map]
    omega
  · have : 0 < l.length := (List.getElem?_eq_some_iff.1 h1).1
    simp only [detOf, List.length_map]
    omega
theorem explD_count {m : List K} (h0 : k0 ∈ m) (hP : ∀ k a, k ∈ m → a < L → go k a ∈ m) : (explD go mark L k0).fNext.length ≤ m.length := by
  obtain ⟨l, e, _, _, h3, _⟩ := explD_facts (L := L) h0 hP
  unfold explD
  rw [e]
  simpa [detOf] using h3
theorem explD_marks {Q : Int → Prop} {m : List K} (h0 : k0 ∈ m) (hP : ∀ k a, k ∈ m → a < L → go k a ∈ m) (hQ : ∀ k ∈ m, Q (mark k)) : ∀ x ∈ (explD go mark L k0).fMark, Q x := fun x hx => by
  obtain ⟨l, e, _, h4, _⟩ := explD_facts (L := L) h0 hP
  unfold explD at hx
  rw [e] at hx
  obtain ⟨k, hk, rfl⟩ := List.mem_map.1 hx
  exact hQ k (h4 k hk)
end
/-- the automaton of what is so of all words -/
theorem canon_const {L : Nat} {c : Int} : canon L (fun _ => c) = ⟨L, 0, [List.replicate L 0], [c]⟩ := by
  have h := canon_of (K := Unit) (go := fun _ _ => ()) (mark := fun _ => c) (L := L) (k0 := ()) (P := fun _ => True) trivial (fun _ _ _ _ => trivial) (fun _ _ _ _ _ => rfl)
  refine (show canon L (fun _ => c) = explD (K := Unit) (fun _ _ => ()) (fun _ => c) L () from h.symm).trans ?_
  have hg : ∀ n : Nat, growTo (K := Unit) (fun _ _ => ()) () n [()] = [()] := fun n => by
    induction n with
    | zero => rfl
    | succ n ih => rw [growTo, ih]; simp
  have h1 : (expl (K := Unit) (fun _ _ => ()) L () 1) = [()] := by
    rw [expl]
    exact hg L
  unfold explD
  rw [explL_eq (n := 1) (by rw [h1]; rfl), h1]
  unfold detOf rowOf
  simp only [List.map_cons, List.map_nil]
  congr 2
  congr 1
  rw [List.eq_replicate_iff]
  refine ⟨by simp, fun x hx => ?_⟩
  obtain ⟨a, _, rfl⟩ := List.mem_map.1 hx
  rfl
/-- marks turned -/
theorem canon_turn {L : Nat} {r : Lang} (f : Int → Int) (inj : ∀ x y, (∃ w, r w = x) → (∃ w, r w = y) → f x = f y → x = y) : canon L (fun w => f (r w)) = { canon L r with fMark := (canon L r).fMark.map f } := by
  have h := explD_map (K := Lang) (K' := Lang) (go := der) (go' := der) (mark := fun s => f (s [])) (mark' := fun s => s []) (L := L) (k0 := rs L r) (φ := fun s => rs L (fun w => f (s w)))
    (P := fun s => ∃ u : List Nat, s = rs L (fun w => r (u ++ w))) ⟨[], rfl⟩
    (by
      rintro x y ⟨u, rfl⟩ ⟨v, rfl⟩ e
      refine rs_congr fun w hw => ?_
      have := rs_at e hw
      simp only [rs, if_pos hw] at this
      exact inj _ _ ⟨_, rfl⟩ ⟨_, rfl⟩ this)
    (fun k a _ ha => by rw [der_rs ha]; rfl)
    (by
      rintro k a ⟨u, rfl⟩ ha
      refine ⟨u ++ [a], ?_⟩
      rw [der_rs ha]
      refine rs_congr fun w _ => ?_
      show r (u ++ a :: w) = _
      rw [List.append_assoc]
      rfl)
    (fun k _ => by simp [rs])
  have e : rs L (fun w => f (rs L r w)) = rs L (fun w => f (r w)) := rs_congr fun w hw => by simp only [rs, if_pos hw]
  unfold canon
  rw [← e]
  refine h.trans ?_
  unfold explD detOf
  simp [Function.comp_def]
end Go.Proofs.Ytiinkohfldopbaa

/- The plain law of det.Explore's mirror: what it hands back. No condition. -/
namespace Go.Proofs.Ytiinkohfldopbaa
open Go.RowKit Go.MapKept
set_option linter.unusedSimpArgs false
set_option linter.unusedVariables false
set_option maxRecDepth 100000
set_option linter.unusedSectionVars false

section
variable {K : Type} [DecidableEq K] {go : K → Nat → K} {mark : K → Int} {L : Nat} {k0 : K} {P : K → Prop}
theorem growTo_mono {k : K} {l : List K} {a : Nat} : ∀ {b : Nat}, a ≤ b → ∃ r, growTo go k b l = growTo go k a l ++ r
  | 0, h => by
    obtain rfl : a = 0 := by omega
    exact ⟨[], by simp⟩
  | b + 1, h => by
    by_cases e : a = b + 1
    · subst e; exact ⟨[], by simp⟩
    · obtain ⟨r, hr⟩ := growTo_mono (k := k) (l := l) (a := a) (b := b) (by omega)
      rw [growTo]
      split
      · exact ⟨r, hr⟩
      · exact ⟨r ++ [go k b], by rw [hr, List.append_assoc]⟩
theorem expl_fails {i a : Nat} {e : K} {limit : Int} (he : (expl go L k0 i)[i]? = some e) (ha : a < L) (hn : go e a ∉ growTo go e a (expl go L k0 i)) (hl : ((growTo go e a (expl go L k0 i)).length : Int) = limit) : ¬ ∃ n : Nat, (expl go L k0 n).length = n ∧ (n : Int) ≤ limit := by
  rintro ⟨n, h1, h2⟩
  have hi := (List.getElem?_eq_some_iff.1 he).1
  have h3 : expl go L k0 (i + 1) = growTo go e L (expl go L k0 i) := by rw [expl, he]
  have h4 : growTo go e (a + 1) (expl go L k0 i) = growTo go e a (expl go L k0 i) ++ [go e a] := by rw [growTo, if_neg hn]
  obtain ⟨r, hr⟩ := growTo_mono (go := go) (k := e) (l := expl go L k0 i) (show a + 1 ≤ L from ha)
  have h5 : (expl go L k0 (i + 1)).length = (growTo go e a (expl go L k0 i)).length + 1 + r.length := by
    rw [h3, hr, h4]
    simp
    omega
  rcases Nat.lt_or_ge n (i + 1) with h | h
  · have := expl_stop (go := go) (L := L) (k0 := k0) (i := n) (by omega) (j := i) (by omega)
    rw [this] at hi
    omega
  · have := expl_mono (go := go) (L := L) (k0 := k0) h
    omega
/-- a map that numbers keys as a list does -/
def MapOf (m : List (K × Int)) (l : List K) : Prop := ∀ k, mget k m = if k ∈ l then some (l.idxOf k : Int) else none
theorem MapOf.one : MapOf (mput k0 0 ([] : List (K × Int))) [k0] := fun k => by
  rw [mget_put]
  by_cases h : k = k0
  · subst h; simp
  · simp [h, mget]
theorem idxOf_last {l : List K} {k : K} (h : k ∉ l) : (l ++ [k]).idxOf k = l.length := by
  induction l with
  | nil => simp
  | cons x l ih =>
    have h1 : x ≠ k := fun e => h (e ▸ List.mem_cons_self)
    have h2 : k ∉ l := fun e => h (List.mem_cons_of_mem _ e)
    rw [List.cons_append, List.idxOf_cons, ih h2, show (x == k) = false by simpa using h1]
    simp
theorem MapOf.push {m : List (K × Int)} {l : List K} (h : MapOf m l) {k : K} (hk : k ∉ l) : MapOf (mput k (l.length : Int) m) (l ++ [k]) := fun q => by
  rw [mget_put]
  by_cases e : q = k
  · subst e
    simp [idxOf_last hk]
  · rw [if_neg e, h q]
    by_cases hq : q ∈ l
    · rw [if_pos hq, if_pos (List.mem_append_left _ hq), idxOf_left hq]
    · rw [if_neg hq, if_neg (by simp [hq, e])]
theorem rowOf_left {l r : List K} {k : K} (h : ∀ a, a < L → go k a ∈ l) : rowOf go L (l ++ r) k = rowOf go L l k := by
  unfold rowOf
  refine List.map_congr_left fun a ha => ?_
  rw [idxOf_left (h a (List.mem_range.1 ha))]
theorem set_row {α : Type} (f : Nat → α) (z : α) {a L : Nat} (h : a < L) : (((List.range a).map f) ++ List.replicate (L - a) z).set a (f a) = (List.range (a + 1)).map f ++ List.replicate (L - (a + 1)) z := by
  refine List.ext_getElem? fun i => ?_
  rw [List.getElem?_set]
  by_cases e : a = i
  · subst e
    rw [if_pos rfl, if_pos (by simp; omega), List.getElem?_append_left (by simp), List.getElem?_map, List.getElem?_range (by omega)]
    rfl
  · rw [if_neg e]
    by_cases h1 : i < a
    · rw [List.getElem?_append_left (by simpa using h1), List.getElem?_append_left (by simp; omega), List.getElem?_map, List.getElem?_map, List.getElem?_range h1, List.getElem?_range (by omega)]
    · rw [List.getElem?_append_right (by simp; omega), List.getElem?_append_right (by simp; omega), List.getElem?_replicate, List.getElem?_replicate]
      simp only [List.length_map, List.length_range]
      by_cases h2 : i < L
      · rw [if_pos (by omega), if_pos (by omega)]
      · rw [if_neg (by omega), if_neg (by omega)]
end
theorem explore_plain {K : Type} [DecidableEq K] (letters : Int) (start : K) (domgo : (K × Int) → Prop) (go : (K × Int) → K) (dommark : K → Prop) (mark : K → Int) (limit : Int) (b : Nat) (Q : (ApiDet × Bool) → Prop)
    (P : K → Prop) (h0 : P start) (hP : ∀ k (a : Nat), P k → (a : Int) < letters → domgo (k, (a : Int)) ∧ P (go (k, (a : Int)))) (hm : ∀ k, P k → dommark k) (hl : 0 ≤ letters ∧ letters ≤ 1000) (hlim : 1 ≤ limit ∧ limit ≤ 2097152) (hb : b ≤ 64)
    (hQ : Q (explR (fun k (a : Nat) => go (k, (a : Int))) mark letters.toNat start limit)) :
  ∃ (Inv : (List (K × Int)) → (List K) → (List (List Int)) → (List Int) → Prop) (mu : (List (K × Int)) → (List K) → (List (List Int)) → (List Int) → Nat), Inv (mput start 0 ([] : List (K × Int))) ([start] : (List K)) ([] : (List (List Int))) ([] : (List Int)) ∧
  ∀ (m2 : (List (K × Int))) (l3 : (List K)) (l6 : (List (List Int))) (l7 : (List Int)) , Inv m2 l3 l6 l7 → (IfP (decide ((l6.length : Int) < (l3.length : Int))) (∃ e, idx l3 (l6.length : Int) = some e ∧
  makeOk letters letters 8 ∧
  ∃ (Inv_2 : Int → (List (K × Int)) → (List K) → (List Int) → Prop) (mu_2 : Int → (List (K × Int)) → (List K) → (List Int) → Nat), Inv_2 0 m2 l3 (List.replicate (letters).toNat (0 : Int)) ∧
  ∀ (x43 : Int) (m2_2 : (List (K × Int))) (l3_2 : (List K)) (l8 : (List Int)) , Inv_2 x43 m2_2 l3_2 l8 → (IfP (decide (x43 < letters)) ((domgo (e, x43)) ∧
  ∃ J : Int → (List (K × Int)) → (List K) → Prop, (IfP (!(mget (go (e, x43)) m2_2).isSome) (IfP ((l3_2.length : Int) == limit) (Q ((ApiDet.mk 0 0 [] []), false)) (capOk l3_2.length (([(go (e, x43))] : (List K)) : (List K)).length b ∧
  J (l3_2.length : Int) (mput (go (e, x43)) (l3_2.length : Int) m2_2) (l3_2 ++ ([(go (e, x43))] : (List K))))) (J ((mget (go (e, x43)) m2_2).getD (0 : Int)) m2_2 l3_2)) ∧
  (∀ (x19 : Int) (m2_3 : (List (K × Int))) (l3_3 : (List K)), J x19 m2_3 l3_3 → ∃ e_2, idx l8 x43 = some e_2 ∧
  (Inv_2 (wr (x43 + 1)) m2_3 l3_3 (l8.set (x43).toNat x19) ∧ mu_2 (wr (x43 + 1)) m2_3 l3_3 (l8.set (x43).toNat x19) < mu_2 x43 m2_2 l3_2 l8))) (capOk l6.length (([l8] : (List (List Int))) : (List (List Int))).length 24 ∧
  (dommark e) ∧
  capOk l7.length (([(mark e)] : (List Int)) : (List Int)).length 8 ∧
  (Inv m2_2 l3_2 (l6 ++ ([l8] : (List (List Int)))) (l7 ++ ([(mark e)] : (List Int))) ∧ mu m2_2 l3_2 (l6 ++ ([l8] : (List (List Int)))) (l7 ++ ([(mark e)] : (List Int))) < mu m2 l3 l6 l7)))) (Q ((ApiDet.mk letters 0 l6 l7), true))) := by
  obtain ⟨L, rfl⟩ : ∃ L : Nat, letters = L := ⟨letters.toNat, by omega⟩
  rw [Int.toNat_natCast] at hQ ⊢
  generalize hg : (fun (k : K) (a : Nat) => go (k, (a : Int))) = g at hQ
  have hgo : ∀ k (a : Nat), go (k, (a : Int)) = g k a := fun k a => by rw [← hg]
  have hPg : ∀ k a, P k → a < L → P (g k a) := fun k a hk ha => by rw [← hgo]; exact (hP k a hk (by omega)).2
  have hin : ∀ i k, k ∈ expl g L start i → P k := fun i k hk => expl_in h0 hPg hk
  refine ⟨fun m2 l3 l6 l7 => ∃ i : Nat, l6.length = i ∧ l7.length = i ∧ l3 = expl g L start i ∧ i ≤ l3.length ∧ (l3.length : Int) ≤ limit ∧ MapOf m2 l3 ∧ l6 = (l3.take i).map (rowOf g L l3) ∧ l7 = (l3.take i).map mark ∧ ∀ k ∈ l3.take i, ∀ a, a < L → g k a ∈ l3,
    fun m2 l3 l6 l7 => (limit + 1).toNat - l6.length, ⟨0, rfl, rfl, rfl, by simp, by simp; omega, MapOf.one, rfl, rfl, fun k hk => by simp at hk⟩, ?_⟩
  rintro m2 l3 l6 l7 ⟨i, hi1, hi1', hl3, hi2, hi3, hmap, hl6, hl7, hcl⟩
  refine ⟨fun hlt => ?_, fun hge => ?_⟩
  · have hlt : i < l3.length := by
      have := of_decide_eq_true hlt
      omega
    have he : l3[i]? = some l3[i] := List.getElem?_eq_getElem hlt
    generalize l3[i] = e at he
    have hPe : P e := hin i e (hl3 ▸ List.mem_of_getElem? he)
    refine ⟨e, by simp [idx, hi1, he], ⟨by omega, by omega, by omega⟩, fun x m l row => ∃ a : Nat, x = a ∧ a ≤ L ∧ l = growTo g e a l3 ∧ MapOf m l ∧ (l.length : Int) ≤ limit ∧ row = (List.range a).map (fun c => (l.idxOf (g e c) : Int)) ++ List.replicate (L - a) 0, fun x _ _ _ => L - x.toNat,
      ⟨0, rfl, Nat.zero_le _, rfl, hmap, hi3, by simp⟩, ?_⟩
    rintro x m l row ⟨a, rfl, ha, hlg, hm2, hl2, hrow⟩
    refine ⟨fun hlt2 => ?_, fun hge2 => ?_⟩
    · have ha : a < L := by
        have := of_decide_eq_true hlt2
        omega
      refine ⟨(hP e a hPe (by omega)).1, fun x19 m3 l4 => l4 = growTo g e (a + 1) l3 ∧ MapOf m3 l4 ∧ (l4.length : Int) ≤ limit ∧ x19 = (l4.idxOf (g e a) : Int) ∧ ∃ r, l4 = l ++ r, ?_, ?_⟩
      · rw [hgo]
        by_cases hmem : g e a ∈ l
        · have h1 : mget (g e a) m = some (l.idxOf (g e a) : Int) := by rw [hm2, if_pos hmem]
          rw [h1]
          refine ⟨fun h => (by cases h), fun _ => ⟨?_, hm2, hl2, rfl, [], by simp⟩⟩
          rw [growTo, ← hlg, if_pos hmem]
        · have h1 : mget (g e a) m = none := by rw [hm2, if_neg hmem]
          rw [h1]
          refine ⟨fun _ => ⟨fun hfull => ?_, fun hroom => ⟨?_, ?_, hm2.push hmem, ?_, ?_, [g e a], rfl⟩⟩, fun h => (by cases h)⟩
          · have hfull : (l.length : Int) = limit := by simpa using hfull
            have hf := expl_fails (go := g) (L := L) (k0 := start) (i := i) (a := a) (e := e) (limit := limit) (by rw [← hl3]; exact he) ha (by rw [← hl3, ← hlg]; exact hmem) (by rw [← hl3, ← hlg]; exact hfull)
            have : explR g mark L start limit = (⟨0, 0, [], []⟩, false) := by
              unfold explR
              rw [if_neg hf]
            rw [this] at hQ
            exact hQ
          · unfold capOk
            simp only [List.length_cons, List.length_nil]
            have h64 : (l.length + (0 + 1)) * b ≤ (l.length + 1) * 64 := Nat.mul_le_mul_left _ hb
            omega
          · rw [growTo, ← hlg, if_neg hmem]
          · have hne : (l.length : Int) ≠ limit := by simpa using hroom
            rw [List.length_append]
            simp only [List.length_cons, List.length_nil]
            omega
          · rw [idxOf_last hmem]
      · rintro x19 m3 l4 ⟨hl4, hm4, hl5, rfl, r, hr⟩
        have hlen : row.length = L := by
          rw [hrow]
          simp
          omega
        refine ⟨row[a]'(by omega), by simp [idx, hlen, ha], ⟨a + 1, ?_, by omega, hl4, hm4, hl5, ?_⟩, ?_⟩
        · rw [wr_in (by omega) (by omega)]
          omega
        · rw [Int.toNat_natCast]
          have hst : ∀ c, c < a → l4.idxOf (g e c) = l.idxOf (g e c) := fun c hc => by
            rw [hr, idxOf_left]
            rw [hlg]
            exact growTo_mem.2 (.inr ⟨c, hc, rfl⟩)
          have : row = (List.range a).map (fun c => (l4.idxOf (g e c) : Int)) ++ List.replicate (L - a) 0 := by
            rw [hrow]
            congr 1
            refine List.map_congr_left fun c hc => ?_
            rw [hst c (List.mem_range.1 hc)]
          rw [this]
          exact set_row (fun c => (l4.idxOf (g e c) : Int)) 0 ha
        · rw [wr_in (by omega) (by omega)]
          simp only
          omega
    · obtain rfl : a = L := by
        have := of_decide_eq_false hge2
        omega
      have hnext : l = expl g a start (i + 1) := by rw [expl, ← hl3, he, hlg]
      obtain ⟨r, hr⟩ := growTo_app (go := g) e a l3
      rw [← hlg] at hr
      have htake : l.take (i + 1) = l3.take i ++ [e] := by
        rw [hr, List.take_append_of_le_length (by omega), List.take_add_one, he]
        rfl
      have hrow' : row = rowOf g a l e := by
        rw [hrow]
        simp [rowOf]
      have hcl' : ∀ k ∈ l.take (i + 1), ∀ c, c < a → g k c ∈ l := fun k hk c hc => by
        rw [htake, List.mem_append, List.mem_singleton] at hk
        rcases hk with hk | rfl
        · rw [hr]
          exact List.mem_append_left _ (hcl k hk c hc)
        · rw [hlg]
          exact growTo_mem.2 (.inr ⟨c, hc, rfl⟩)
      have hge : i + 1 ≤ l.length := by
        rw [hr, List.length_append]
        omega
      refine ⟨?_, hm e hPe, ?_, ⟨i + 1, by simp [hi1], by simp [hi1'], hnext, hge, hl2, hm2, ?_, ?_, hcl'⟩, ?_⟩
      · unfold capOk
        simp only [List.length_cons, List.length_nil]
        omega
      · unfold capOk
        simp only [List.length_cons, List.length_nil]
        omega
      · rw [htake, List.map_append, hl6, hrow', List.map_cons, List.map_nil]
        congr 1
        refine List.map_congr_left fun k hk => ?_
        rw [hr]
        exact (rowOf_left (hcl k hk)).symm
      · rw [htake, List.map_append, hl7]
        rfl
      · simp only [List.length_append, List.length_cons, List.length_nil]
        omega
  · have hge : l3.length = i := by
      have := of_decide_eq_false hge
      omega
    have hdone : (expl g L start i).length = i := by rw [← hl3]; exact hge
    have : explR g mark L start limit = (⟨L, 0, l6, l7⟩, true) := by
      unfold explR
      rw [if_pos ⟨i, hdone, by omega⟩]
      unfold explD
      rw [explL_eq hdone, ← hl3]
      have ht : l3.take i = l3 := by rw [← hge]; exact List.take_length
      rw [ht] at hl6 hl7
      rw [hl6, hl7]
      rfl
    rw [this] at hQ
    exact hQ
end Go.Proofs.Ytiinkohfldopbaa

/- The plain law of det.Classes' mirror: classes tell apart what words tell apart. No condition. -/
namespace Go.Proofs.Ytiinkohfldopbaa
open Go.RowKit Go.MapKept
set_option linter.unusedSimpArgs false
set_option linter.unusedVariables false
set_option maxRecDepth 100000
set_option linter.unusedSectionVars false

/-- a function of the first m numbers onto themselves is one to one -/
theorem onto_inj {m : Nat} {f : Nat → Nat} (hon : ∀ j, j < m → ∃ i, i < m ∧ f i = j) {i j : Nat} (hi : i < m) (hj : j < m) (h : f i = f j) : i = j := by
  refine Decidable.byContradiction fun hne => ?_
  have := nodup_le (l := List.range m) (m := ((List.range m).erase i).map f) List.nodup_range fun x hx => by
    obtain ⟨q, hq, rfl⟩ := hon x (List.mem_range.1 hx)
    rw [List.mem_map]
    by_cases e : q = i
    · subst e
      exact ⟨j, (List.mem_erase_of_ne (fun e => hne e.symm)).2 (List.mem_range.2 hj), h.symm⟩
    · exact ⟨q, (List.mem_erase_of_ne e).2 (List.mem_range.2 hq), rfl⟩
  rw [List.length_range, List.length_map, List.length_erase_of_mem (List.mem_range.2 hi), List.length_range] at this
  omega
theorem onto_le {k m : Nat} {f : Nat → Nat} (hon : ∀ j, j < k → ∃ i, i < m ∧ f i = j) : k ≤ m := by
  have := nodup_le (l := List.range k) (m := (List.range m).map f) List.nodup_range fun x hx => by
    obtain ⟨q, hq, rfl⟩ := hon x (List.mem_range.1 hx)
    exact List.mem_map.2 ⟨q, List.mem_range.2 hq, rfl⟩
  simpa using this
/-- two bytes of a number -/
def two8 (c : Int) : List Int := [c % 256, c / 256 % 256]
theorem two8_inj {c d : Int} (hc : 0 ≤ c ∧ c < 65536) (hd : 0 ≤ d ∧ d < 65536) (h : two8 c = two8 d) : c = d := by
  unfold two8 at h
  simp only [List.cons.injEq] at h
  omega
theorem two8_in {c : Int} : ∀ x ∈ two8 c, 0 ≤ x ∧ x < 256 := by
  intro x hx
  unfold two8 at hx
  simp only [List.mem_cons, List.not_mem_nil, or_false] at hx
  omega
theorem two8_eq (c : Int) : [IntKind.wrap .u8 c, IntKind.wrap .u8 (Int.fdiv c (2 ^ (min 8 64)))] = two8 c := by
  have h : ((2 : Int) ^ (min 8 64)) = 256 := by decide
  rw [h, IntKind.wrap_u8, IntKind.wrap_u8, Int.fdiv_eq_ediv_of_nonneg _ (by omega)]
  rfl
theorem twos_inj : ∀ {l m : List Int}, (∀ x ∈ l, 0 ≤ x ∧ x < 65536) → (∀ x ∈ m, 0 ≤ x ∧ x < 65536) → l.flatMap two8 = m.flatMap two8 → l = m
  | [], [], _, _, _ => rfl
  | [], _ :: _, _, _, h => by simp [two8] at h
  | _ :: _, [], _, _, h => by simp [two8] at h
  | x :: l, y :: m, hl, hm, h => by
    rw [List.flatMap_cons, List.flatMap_cons] at h
    have h1 := List.append_inj h (by simp [two8])
    rw [two8_inj (hl x List.mem_cons_self) (hm y List.mem_cons_self) h1.1, twos_inj (fun z hz => hl z (List.mem_cons_of_mem _ hz)) (fun z hz => hm z (List.mem_cons_of_mem _ hz)) h1.2]
theorem twos_in {l : List Int} : ∀ x ∈ l.flatMap two8, 0 ≤ x ∧ x < 256 := fun x hx => by
  obtain ⟨c, _, h⟩ := List.mem_flatMap.1 hx
  exact two8_in x h
/-- the classes of a row -/
def rowCls (cls : List Int) (r : List Int) : List Int := r.map fun t => cls.getD t.toNat 0
def keyOf (cls : List Int) (q : Nat) (r : List Int) : DetSplit := ⟨cls.getD q 0, bytesOf ((rowCls cls r).flatMap two8)⟩
/-- what one round makes: classes next, m of them, as keys are alike -/
structure RoundOf (N : List (List Int)) (cls next : List Int) (m : Nat) : Prop where
  len : next.length = N.length
  range : ∀ x ∈ next, 0 ≤ x ∧ x < (m : Int)
  onto : ∀ j : Nat, j < m → (j : Int) ∈ next
  same : ∀ (p q : Nat) (r s : List Int) (x y : Int), N[p]? = some r → N[q]? = some s → next[p]? = some x → next[q]? = some y → (x = y ↔ keyOf cls p r = keyOf cls q s)
/-- an automaton whose classes may be asked for -/
structure ClsPre (d : ApiDet) : Prop where
  size : d.fNext.length ≤ 65536
  next : ∀ r ∈ d.fNext, ∀ x ∈ r, 0 ≤ x ∧ x < (d.fNext.length : Int)
  wide : ∀ r ∈ d.fNext, r.length ≤ 1000
  marks : d.fMark.length = d.fNext.length
  small : ∀ x ∈ d.fMark, 0 ≤ x ∧ x < 65536
/-- numbers by keys, in the middle of a round: map m2, and next up to q -/
structure Half (N : List (List Int)) (cls : List Int) (q : Nat) (m2 : List (DetSplit × Int)) (next : List Int) : Prop where
  len : next.length = N.length
  get : ∀ (p : Nat) (r : List Int), p < q → N[p]? = some r → ∃ x : Int, next[p]? = some x ∧ mget (keyOf cls p r) m2 = some x
  range : ∀ (k : DetSplit) (x : Int), mget k m2 = some x → 0 ≤ x ∧ x < (m2.length : Int)
  inj : ∀ (k l : DetSplit) (x : Int), mget k m2 = some x → mget l m2 = some x → k = l
  onto : ∀ j : Nat, j < m2.length → ∃ p : Nat, p < q ∧ next[p]? = some (j : Int)
  size : m2.length ≤ q
theorem mput_length {κ : Type} [DecidableEq κ] {a : κ} {v : Int} : ∀ {D : List (κ × Int)}, mget a D = none → (mput a v D).length = D.length + 1
  | [], _ => rfl
  | x :: D, h => by
    rw [mget] at h
    split at h
    · cases h
    · rename_i e
      rw [mput, if_neg e, List.length_cons, mput_length h, List.length_cons]
theorem Half.start {N : List (List Int)} {cls next : List Int} (h : next.length = N.length) : Half N cls 0 [] next :=
  ⟨h, fun p r hp => absurd hp (Nat.not_lt_zero _), fun k x e => by simp [mget] at e, fun k l x e => by simp [mget] at e, fun j hj => by simp at hj, Nat.le_refl _⟩
theorem Half.known {N : List (List Int)} {cls next : List Int} {q : Nat} {m2 : List (DetSplit × Int)} (h : Half N cls q m2 next) {r : List Int} (hr : N[q]? = some r) {x : Int} (hx : mget (keyOf cls q r) m2 = some x) : Half N cls (q + 1) m2 (next.set q x) := by
  have hq : q < next.length := by rw [h.len]; exact (List.getElem?_eq_some_iff.1 hr).1
  refine ⟨by simp [h.len], fun p s hp hs => ?_, h.range, h.inj, fun j hj => ?_, Nat.le_succ_of_le h.size⟩
  · by_cases e : p = q
    · subst e
      rw [hr] at hs
      cases hs
      exact ⟨x, by rw [List.getElem?_set_self hq], hx⟩
    · obtain ⟨y, h1, h2⟩ := h.get p s (by omega) hs
      exact ⟨y, by rw [List.getElem?_set_ne (Ne.symm e)]; exact h1, h2⟩
  · obtain ⟨p, h1, h2⟩ := h.onto j hj
    exact ⟨p, by omega, by rw [List.getElem?_set_ne (by omega)]; exact h2⟩
theorem Half.new {N : List (List Int)} {cls next : List Int} {q : Nat} {m2 : List (DetSplit × Int)} (h : Half N cls q m2 next) {r : List Int} (hr : N[q]? = some r) (hx : mget (keyOf cls q r) m2 = none) : Half N cls (q + 1) (mput (keyOf cls q r) (m2.length : Int) m2) (next.set q (m2.length : Int)) := by
  have hq : q < next.length := by rw [h.len]; exact (List.getElem?_eq_some_iff.1 hr).1
  have hl := mput_length (v := (m2.length : Int)) hx
  refine ⟨by simp [h.len], fun p s hp hs => ?_, fun k x e => ?_, fun k l x e1 e2 => ?_, fun j hj => ?_, by rw [hl]; have := h.size; omega⟩
  · by_cases e : p = q
    · subst e
      rw [hr] at hs
      cases hs
      exact ⟨_, by rw [List.getElem?_set_self hq], by rw [mget_put, if_pos rfl]⟩
    · obtain ⟨y, h1, h2⟩ := h.get p s (by omega) hs
      refine ⟨y, by rw [List.getElem?_set_ne (Ne.symm e)]; exact h1, ?_⟩
      rw [mget_put, if_neg (fun e2 => by rw [e2, hx] at h2; cases h2)]
      exact h2
  · rw [mget_put] at e
    rw [hl]
    split at e
    · cases e; omega
    · have := h.range k x e
      omega
  · rw [mget_put] at e1 e2
    split at e1 <;> split at e2
    · rename_i a b; rw [a, b]
    · cases e1
      have := h.range l _ e2
      omega
    · cases e2
      have := h.range k _ e1
      omega
    · exact h.inj k l x e1 e2
  · rw [hl] at hj
    by_cases e : j = m2.length
    · subst e
      exact ⟨q, by omega, by rw [List.getElem?_set_self hq]⟩
    · obtain ⟨p, h1, h2⟩ := h.onto j (by omega)
      exact ⟨p, by omega, by rw [List.getElem?_set_ne (by omega)]; exact h2⟩
theorem Half.round {N : List (List Int)} {cls next : List Int} {m2 : List (DetSplit × Int)} (h : Half N cls N.length m2 next) : RoundOf N cls next m2.length := by
  have hget : ∀ (p : Nat) (r : List Int) (x : Int), N[p]? = some r → next[p]? = some x → mget (keyOf cls p r) m2 = some x := fun p r x h1 h2 => by
    obtain ⟨y, h3, h4⟩ := h.get p r (List.getElem?_eq_some_iff.1 h1).1 h1
    rw [h2] at h3
    cases h3
    exact h4
  refine ⟨h.len, fun x hx => ?_, fun j hj => ?_, fun p q r s x y h1 h2 h3 h4 => ?_⟩
  · obtain ⟨p, hp⟩ := List.getElem?_of_mem hx
    have hlt := (List.getElem?_eq_some_iff.1 hp).1
    rw [h.len] at hlt
    exact h.range _ x (hget p _ x (List.getElem?_eq_getElem hlt) hp)
  · obtain ⟨p, _, h2⟩ := h.onto j hj
    exact List.mem_of_getElem? h2
  · have k1 := hget p r x h1 h3
    have k2 := hget q s y h2 h4
    constructor
    · rintro rfl
      exact h.inj _ _ x k1 k2
    · intro e
      rw [e, k2] at k1
      cases k1
      rfl
theorem succ_rs {d : ApiDet} {L p q a : Nat} (h : rs L (langD d p) = rs L (langD d q)) (ha : a < L) : rs L (langD d (stepD d p a)) = rs L (langD d (stepD d q a)) :=
  rs_congr fun w hw => rs_at (w := a :: w) h fun b hb => (List.mem_cons.1 hb).elim (fun e => e ▸ ha) (hw b)
/-- what holds of classes between rounds: no two states that words do not tell apart are told apart, and marks are -/
structure ClsInv (d : ApiDet) (L : Nat) (x4 : Int) (cls : List Int) : Prop where
  len : cls.length = d.fNext.length
  range : ∀ x ∈ cls, 0 ≤ x ∧ x < 65536
  sound : ∀ p q, p < d.fNext.length → q < d.fNext.length → rs L (langD d p) = rs L (langD d q) → cls.getD p 0 = cls.getD q 0
  marks : ∀ p q, p < d.fNext.length → q < d.fNext.length → cls.getD p 0 = cls.getD q 0 → d.fMark.getD p 0 = d.fMark.getD q 0
  count : x4 = 0 ∨ ∃ m : Nat, x4 = m ∧ m ≤ d.fNext.length ∧ (∀ x ∈ cls, 0 ≤ x ∧ x < (m : Int)) ∧ ∀ j : Nat, j < m → (j : Int) ∈ cls
theorem getD_mem {α : Type} {l : List α} {i : Nat} {z : α} (h : i < l.length) : l.getD i z ∈ l := by
  rw [List.getD_eq_getElem?_getD, List.getElem?_eq_getElem h]
  exact List.getElem_mem h
theorem getD_some {α : Type} {l : List α} {i : Nat} {z : α} (h : i < l.length) : l[i]? = some (l.getD i z) := by
  rw [List.getD_eq_getElem?_getD, List.getElem?_eq_getElem h]
  rfl
section
variable {d : ApiDet} (hd : ClsPre d) {L : Nat} (hL : ∀ r ∈ d.fNext, r.length = L)
include hd
theorem ClsPre.step {q a : Nat} (hq : q < d.fNext.length) : stepD d q a < d.fNext.length := by
  unfold stepD
  have hr := getD_mem (z := []) hq
  by_cases h : a < (d.fNext.getD q []).length
  · have := hd.next _ hr _ (getD_mem (z := 0) h)
    omega
  · rw [List.getD_eq_getElem?_getD (l := d.fNext.getD q []), List.getElem?_eq_none (by omega)]
    simp only [Option.getD_none]
    omega
theorem keyOf_iff {cls : List Int} (hr : ∀ x ∈ cls, 0 ≤ x ∧ x < 65536) (hlen : cls.length = d.fNext.length) {p q : Nat} (hp : p < d.fNext.length) (hq : q < d.fNext.length) (hrows : (d.fNext.getD p []).length = (d.fNext.getD q []).length) :
    keyOf cls p (d.fNext.getD p []) = keyOf cls q (d.fNext.getD q []) ↔ cls.getD p 0 = cls.getD q 0 ∧ ∀ a, a < (d.fNext.getD p []).length → cls.getD (stepD d p a) 0 = cls.getD (stepD d q a) 0 := by
  have hin : ∀ r ∈ d.fNext, ∀ x ∈ rowCls cls r, 0 ≤ x ∧ x < 65536 := fun r hr2 x hx => by
    obtain ⟨t, ht, rfl⟩ := List.mem_map.1 hx
    have := hd.next r hr2 t ht
    exact hr _ (getD_mem (by omega))
  unfold keyOf
  simp only [DetSplit.mk.injEq]
  refine and_congr Iff.rfl ⟨fun h a ha => ?_, fun h => ?_⟩
  · have h1 := twos_inj (hin _ (getD_mem hp)) (hin _ (getD_mem hq)) (bytesOf_inj twos_in twos_in h)
    have h2 := congrArg (fun l => l[a]?) h1
    simp only [rowCls, List.getElem?_map, getD_some (z := (0 : Int)) ha, getD_some (z := (0 : Int)) (show a < (d.fNext.getD q []).length by omega), Option.map_some, Option.some.injEq] at h2
    exact h2
  · have : rowCls cls (d.fNext.getD p []) = rowCls cls (d.fNext.getD q []) := by
      unfold rowCls
      refine List.ext_getElem? fun a => ?_
      rw [List.getElem?_map, List.getElem?_map]
      by_cases ha : a < (d.fNext.getD p []).length
      · rw [getD_some (z := (0 : Int)) ha, getD_some (z := (0 : Int)) (show a < (d.fNext.getD q []).length by omega), Option.map_some, Option.map_some]
        exact congrArg some (h a ha)
      · rw [List.getElem?_eq_none (by omega), List.getElem?_eq_none (by omega)]
    rw [this]
include hL
theorem ClsInv.next {cls next : List Int} {x4 : Int} {m : Nat} (h : ClsInv d L x4 cls) (hR : RoundOf d.fNext cls next m) (hm : m ≤ d.fNext.length) : ClsInv d L m next := by
  have hrow : ∀ p, p < d.fNext.length → (d.fNext.getD p []).length = L := fun p hp => hL _ (getD_mem hp)
  have key : ∀ p q, p < d.fNext.length → q < d.fNext.length → (next.getD p 0 = next.getD q 0 ↔ cls.getD p 0 = cls.getD q 0 ∧ ∀ a, a < L → cls.getD (stepD d p a) 0 = cls.getD (stepD d q a) 0) := fun p q hp hq => by
    rw [hR.same p q _ _ _ _ (getD_some (z := []) hp) (getD_some (z := []) hq) (getD_some (z := 0) (by rw [hR.len]; exact hp)) (getD_some (z := 0) (by rw [hR.len]; exact hq)), keyOf_iff hd h.range h.len hp hq (by rw [hrow p hp, hrow q hq]), hrow p hp]
  have h65 := hd.size
  refine ⟨hR.len, fun x hx => by have := hR.range x hx; omega, fun p q hp hq hw => ?_, fun p q hp hq e => h.marks p q hp hq ((key p q hp hq).1 e).1, .inr ⟨m, rfl, hm, hR.range, hR.onto⟩⟩
  exact (key p q hp hq).2 ⟨h.sound p q hp hq hw, fun a ha => h.sound _ _ (hd.step hp) (hd.step hq) (succ_rs hw ha)⟩
theorem ClsInv.factor {cls next : List Int} {x4 : Int} {m : Nat} (h : ClsInv d L x4 cls) (hR : RoundOf d.fNext cls next m) : ∃ f : Nat → Nat, ∀ i, i < d.fNext.length → f (next.getD i 0).toNat = (cls.getD i 0).toNat := by
  have hrow : ∀ p, p < d.fNext.length → (d.fNext.getD p []).length = L := fun p hp => hL _ (getD_mem hp)
  have key : ∀ p q, p < d.fNext.length → q < d.fNext.length → next.getD p 0 = next.getD q 0 → cls.getD p 0 = cls.getD q 0 := fun p q hp hq e =>
    ((keyOf_iff hd h.range h.len hp hq (by rw [hrow p hp, hrow q hq])).1 ((hR.same p q _ _ _ _ (getD_some (z := []) hp) (getD_some (z := []) hq) (getD_some (z := 0) (by rw [hR.len]; exact hp)) (getD_some (z := 0) (by rw [hR.len]; exact hq))).1 e)).1
  have hx : ∀ j : Nat, j < m → ∃ i : Nat, i < d.fNext.length ∧ next.getD i 0 = (j : Int) := fun j hj => by
    obtain ⟨i, hi⟩ := List.getElem?_of_mem (hR.onto j hj)
    have hlt := (List.getElem?_eq_some_iff.1 hi).1
    exact ⟨i, by rw [hR.len] at hlt; exact hlt, by simp [hi]⟩
  refine ⟨fun j => if hj : j < m then (cls.getD (hx j hj).choose 0).toNat else 0, fun i hi => ?_⟩
  have hr := hR.range _ (getD_mem (l := next) (z := 0) (by rw [hR.len]; exact hi))
  have hj : (next.getD i 0).toNat < m := by omega
  show (if hj : _ then _ else _) = _
  rw [dif_pos hj]
  obtain ⟨k1, k2⟩ := (hx _ hj).choose_spec
  rw [key _ i k1 hi (by rw [k2]; omega)]
theorem ClsInv.le {cls next : List Int} {x4 : Int} {m : Nat} (h : ClsInv d L x4 cls) (hR : RoundOf d.fNext cls next m) : x4 ≤ m := by
  rcases h.count with h0 | ⟨m', h1, h2, h3, h4⟩
  · omega
  · obtain ⟨f, hf⟩ := h.factor hd hL hR
    have := onto_le (k := m') (m := m) (f := f) fun j hj => by
      obtain ⟨i, hi⟩ := List.getElem?_of_mem (h4 j hj)
      have hlt := (List.getElem?_eq_some_iff.1 hi).1
      rw [h.len] at hlt
      have hr := hR.range _ (getD_mem (l := next) (z := 0) (by rw [hR.len]; exact hlt))
      refine ⟨(next.getD i 0).toNat, by omega, ?_⟩
      rw [hf i hlt]
      simp [hi]
    omega
/-- when the number of classes stays, the classes are right -/
theorem ClsInv.ends {cls next : List Int} {x4 : Int} {m : Nat} (h : ClsInv d L x4 cls) (hR : RoundOf d.fNext cls next m) (hm : m ≤ d.fNext.length) (he : (m : Int) = x4) : ∀ p q, p < d.fNext.length → q < d.fNext.length → (next.getD p 0 = next.getD q 0 ↔ rs L (langD d p) = rs L (langD d q)) := by
  have hrow : ∀ p, p < d.fNext.length → (d.fNext.getD p []).length = L := fun p hp => hL _ (getD_mem hp)
  have key : ∀ p q, p < d.fNext.length → q < d.fNext.length → (next.getD p 0 = next.getD q 0 ↔ cls.getD p 0 = cls.getD q 0 ∧ ∀ a, a < L → cls.getD (stepD d p a) 0 = cls.getD (stepD d q a) 0) := fun p q hp hq => by
    rw [hR.same p q _ _ _ _ (getD_some (z := []) hp) (getD_some (z := []) hq) (getD_some (z := 0) (by rw [hR.len]; exact hp)) (getD_some (z := 0) (by rw [hR.len]; exact hq)), keyOf_iff hd h.range h.len hp hq (by rw [hrow p hp, hrow q hq]), hrow p hp]
  intro p q hp hq
  -- no class was split
  have stay : ∀ p q, p < d.fNext.length → q < d.fNext.length → cls.getD p 0 = cls.getD q 0 → next.getD p 0 = next.getD q 0 := by
    intro p q hp hq e
    have hnp := hR.range _ (getD_mem (l := next) (z := 0) (by rw [hR.len]; exact hp))
    have hnq := hR.range _ (getD_mem (l := next) (z := 0) (by rw [hR.len]; exact hq))
    rcases h.count with h0 | ⟨m', h1, h2, h3, h4⟩
    · omega
    · have hmm : m' = m := by omega
      subst hmm
      obtain ⟨f, hf⟩ := h.factor hd hL hR
      have hon : ∀ j, j < m' → ∃ i, i < m' ∧ f i = j := fun j hj => by
        obtain ⟨i, hi⟩ := List.getElem?_of_mem (h4 j hj)
        have hlt := (List.getElem?_eq_some_iff.1 hi).1
        rw [h.len] at hlt
        have hr := hR.range _ (getD_mem (l := next) (z := 0) (by rw [hR.len]; exact hlt))
        refine ⟨(next.getD i 0).toNat, by omega, ?_⟩
        rw [hf i hlt]
        simp [hi]
      have := onto_inj hon (i := (next.getD p 0).toNat) (j := (next.getD q 0).toNat) (by omega) (by omega) (by rw [hf p hp, hf q hq, e])
      omega
  constructor
  · intro e
    have go : ∀ (w : List Nat) (p q : Nat), p < d.fNext.length → q < d.fNext.length → next.getD p 0 = next.getD q 0 → (∀ a ∈ w, a < L) → langD d p w = langD d q w := by
      intro w
      induction w with
      | nil => exact fun p q hp hq e _ => h.marks p q hp hq ((key p q hp hq).1 e).1
      | cons a w ih =>
        intro p q hp hq e hw
        exact ih (stepD d p a) (stepD d q a) (hd.step hp) (hd.step hq) (stay _ _ (hd.step hp) (hd.step hq) (((key p q hp hq).1 e).2 a (hw a List.mem_cons_self))) fun b hb => hw b (List.mem_cons_of_mem _ hb)
    exact rs_congr fun w hw => go w p q hp hq e hw
  · exact fun e => (key p q hp hq).2 ⟨h.sound p q hp hq e, fun a ha => h.sound _ _ (hd.step hp) (hd.step hq) (succ_rs e ha)⟩
end
end Go.Proofs.Ytiinkohfldopbaa

/- Contracts of det.Explore and det.Classes. No condition. -/
namespace Go.Proofs.Ytiinkohfldopbaa
open Go.RowKit Go.MapKept
set_option linter.unusedSimpArgs false
set_option linter.unusedVariables false
set_option maxRecDepth 100000
set_option linter.unusedSectionVars false

/-- an automaton whose classes may be asked for -/
structure ClsOk (d : ApiDet) : Prop where
  wf : Wf d
  size : d.fNext.length ≤ 65536
  wide : d.fLetters ≤ 1000
  small : ∀ x ∈ d.fMark, 0 ≤ x ∧ x < 65536
theorem ClsOk.pre {d : ApiDet} (h : ClsOk d) : ClsPre d :=
  ⟨h.size, h.wf.next, fun r hr => by have := h.wf.rows r hr; have := h.wide; have := h.wf.letters; omega, h.wf.mark, h.small⟩
/-- classes that tell apart what words tell apart -/
structure IsClass (d : ApiDet) (cls : List Int) : Prop where
  len : cls.length = d.fNext.length
  range : ∀ x ∈ cls, 0 ≤ x ∧ x < (d.fNext.length : Int)
  same : ∀ p q, p < d.fNext.length → q < d.fNext.length → (cls.getD p 0 = cls.getD q 0 ↔ rs d.fLetters.toNat (langD d p) = rs d.fLetters.toNat (langD d q))
theorem classes_plain (d : ApiDet) (h : ClsOk d) : classes_vc d (IsClass d) := by
  have hd := h.pre
  have hsz := h.size
  have hL : ∀ r ∈ d.fNext, r.length = d.fLetters.toNat := h.wf.rows
  intro _ _
  refine ⟨by rw [h.wf.mark]; omega, fun x4 l1 => ClsInv d d.fLetters.toNat x4 l1, fun x4 _ => ((d.fNext.length : Int) + 1 - x4).toNat, ⟨h.wf.mark, h.small, fun p q _ _ e => ?_, fun p q _ _ e => e, .inl rfl⟩, ?_⟩
  · exact rs_at (w := []) e fun b hb => by simp at hb
  intro x4 l1 hI
  refine ⟨⟨by omega, Int.le_refl _, by rw [hI.len]; omega⟩, fun x m next => ∃ q : Nat, x = q ∧ q ≤ d.fNext.length ∧ Half d.fNext l1 q m next, fun x _ _ => d.fNext.length - x.toNat, ⟨0, rfl, Nat.zero_le _, Half.start (by simp [hI.len])⟩, ?_⟩
  rintro x m2 l3 ⟨q, rfl, hq, hH⟩
  refine ⟨fun hb => ?_, fun hb => ?_⟩
  · have hlt : q < d.fNext.length := by
      have := of_decide_eq_true hb
      omega
    have he : d.fNext[q]? = some d.fNext[q] := List.getElem?_eq_getElem hlt
    generalize d.fNext[q] = e at he
    have hem := List.mem_of_getElem? he
    have hew := hd.wide e hem
    refine ⟨e, by simp [idx, he], fun x l => ∃ a : Nat, x = a ∧ a ≤ e.length ∧ l = ((rowCls l1 e).take a).flatMap two8, fun x _ => e.length - x.toNat, ⟨0, rfl, Nat.zero_le _, by simp⟩, ?_⟩
    rintro x l4 ⟨a, rfl, ha, rfl⟩
    refine ⟨fun hb2 => ?_, fun hb2 => ?_⟩
    · have hlt2 : a < e.length := by
        have := of_decide_eq_true hb2
        omega
      have hx := hd.next e hem _ (List.getElem_mem hlt2)
      have hg : idx l1 e[a] = some (l1.getD e[a].toNat 0) := by
        unfold idx
        rw [if_pos hx.1]
        exact getD_some (by rw [hI.len]; omega)
      have hlen : (((rowCls l1 e).take a).flatMap two8).length = 2 * a := by
        rw [List.length_flatMap]
        have : (List.map (fun x => (two8 x).length) (List.take a (rowCls l1 e))) = List.replicate a 2 := by
          rw [List.eq_replicate_iff]
          refine ⟨by simp [rowCls]; omega, fun z hz => ?_⟩
          obtain ⟨y, _, rfl⟩ := List.mem_map.1 hz
          rfl
        rw [this]
        simp
        omega
      refine ⟨e[a], by simp [idx, hlt2], _, hg, _, hg, ?_, ?_, ?_⟩
      · unfold capOk
        rw [hlen]
        simp only [List.length_cons, List.length_nil]
        omega
      · refine ⟨a + 1, ?_, hlt2, ?_⟩
        · rw [wr_in (by omega) (by omega)]
          omega
        · rw [two8_eq, List.take_add_one, List.flatMap_append]
          congr 1
          have : (rowCls l1 e)[a]? = some (l1.getD e[a].toNat 0) := by
            unfold rowCls
            rw [List.getElem?_map, List.getElem?_eq_getElem hlt2]
            rfl
          rw [this]
          simp
      · rw [wr_in (by omega) (by omega)]
        simp only
        omega
    · have hae : a = e.length := by
        have := of_decide_eq_false hb2
        omega
      subst hae
      have hall : (rowCls l1 e).take e.length = rowCls l1 e := List.take_of_length_le (by simp [rowCls])
      rw [hall]
      have hq1 : idx l1 (q : Int) = some (l1.getD q 0) := by
        unfold idx
        rw [if_pos (by omega), Int.toNat_natCast]
        exact getD_some (by rw [hI.len]; exact hlt)
      have hkey : (DetSplit.mk (l1.getD q 0) (bytesOf ((rowCls l1 e).flatMap two8))) = keyOf l1 q e := rfl
      refine ⟨l1.getD q 0, hq1, fun m => Half d.fNext l1 (q + 1) m (l3.set q ((mget (keyOf l1 q e) m).getD 0)), ?_, ?_⟩
      · rw [hkey]
        cases hm : mget (keyOf l1 q e) m2 with
        | none =>
          refine ⟨fun _ => ?_, fun h => (by cases h)⟩
          show Half _ _ _ _ (l3.set q ((mget (keyOf l1 q e) (mput (keyOf l1 q e) (m2.length : Int) m2)).getD 0))
          rw [mget_put, if_pos rfl]
          exact hH.new he hm
        | some y =>
          refine ⟨fun h => (by cases h), fun _ => ?_⟩
          show Half _ _ _ _ (l3.set q ((mget (keyOf l1 q e) m2).getD 0))
          rw [hm]
          exact hH.known he hm
      · intro m3 hm3
        refine ⟨l3.getD q 0, ?_, ⟨q + 1, ?_, hlt, ?_⟩, ?_⟩
        · unfold idx
          rw [if_pos (by omega), Int.toNat_natCast]
          exact getD_some (by rw [hH.len]; exact hlt)
        · rw [wr_in (by omega) (by omega)]
          omega
        · rw [Int.toNat_natCast, hkey]
          exact hm3
        · rw [wr_in (by omega) (by omega)]
          simp only
          omega
  · have hqe : q = d.fNext.length := by
      have := of_decide_eq_false hb
      omega
    subst hqe
    have hR := hH.round
    have hle := hH.size
    refine ⟨fun he => ?_, fun he => ⟨hI.next hd hL hR hle, ?_⟩⟩
    · have he : (m2.length : Int) = x4 := by simpa using he
      exact ⟨hR.len, fun x hx => by have := hR.range x hx; omega, hI.ends hd hL hR hle he⟩
    · have he : (m2.length : Int) ≠ x4 := by simpa using he
      have := hI.le hd hL hR
      simp only
      omega
theorem classes_ct (d : ApiDet) (h : ClsOk d) : Ct 115 [.sv (.agg [I d.fLetters, I d.fStart, LS (lsT intT) d.fNext, LS intT d.fMark])] [] (IsClass d) (fun r => .sv (.one (LS intT r))) := classes_walk d _ (classes_plain d h)
end Go.Proofs.Ytiinkohfldopbaa

/- Contracts of det.Explore and det.Smallest. No condition. -/
namespace Go.Proofs.Ytiinkohfldopbaa
open Go.RowKit Go.MapKept
set_option linter.unusedSimpArgs false
set_option linter.unusedVariables false
set_option maxRecDepth 100000

/-- exploring may go on -/
def ExplPre {K : Type} (letters : Int) (start : K) (domgo : (K × Int) → Prop) (go : (K × Int) → K) (dommark : K → Prop) (limit : Int) : Prop :=
  (0 ≤ letters ∧ letters ≤ 1000) ∧ (1 ≤ limit ∧ limit ≤ 2097152) ∧ ∃ P : K → Prop, P start ∧ (∀ k (a : Nat), P k → (a : Int) < letters → domgo (k, (a : Int)) ∧ P (go (k, (a : Int)))) ∧ ∀ k, P k → dommark k
theorem exploreDetCouple_ct (letters : Int) (start : DetCouple) (domgo : ((DetCouple × Int) → Prop)) (go : ((DetCouple × Int) → DetCouple)) (dommark : (DetCouple → Prop)) (mark : (DetCouple → Int)) (limit : Int) (hp : ExplPre letters start domgo go dommark limit) : Ct 52 [.sv (.one (I letters)), .sv (.agg [I start.fE0, I start.fE1]), .sv (.one (.rd (fvR (fun (x : (DetCouple × Int)) => [.sv (.agg [I x.1.fE0, I x.1.fE1]), .sv (.one (I x.2))]) (fun (r : DetCouple) => .sv (.agg [I r.fE0, I r.fE1])) domgo go))), .sv (.one (.rd (fvR (fun (x : DetCouple) => [.sv (.agg [I x.fE0, I x.fE1])]) (fun (r : Int) => .sv (.one (I r))) dommark mark))), .sv (.one (I limit))] [] (fun (_ : Unit) => True) (fun _ => .tup [.agg [I (explR (fun k (a : Nat) => go (k, (a : Int))) mark letters.toNat start limit).1.fLetters, I (explR (fun k (a : Nat) => go (k, (a : Int))) mark letters.toNat start limit).1.fStart, LS (lsT intT) (explR (fun k (a : Nat) => go (k, (a : Int))) mark letters.toNat start limit).1.fNext, LS intT (explR (fun k (a : Nat) => go (k, (a : Int))) mark letters.toNat start limit).1.fMark], .one (B (explR (fun k (a : Nat) => go (k, (a : Int))) mark letters.toNat start limit).2)]) := by
  refine (exploreDetCouple_walk letters start domgo go dommark mark limit (fun res_ => res_ = (explR (fun k (a : Nat) => go (k, (a : Int))) mark letters.toNat start limit)) ?_).fun
  obtain ⟨h1, h2, P, h3, h4, h5⟩ := hp
  exact explore_plain letters start domgo go dommark mark limit 16 (fun r => r = explR (fun k (a : Nat) => go (k, (a : Int))) mark letters.toNat start limit) P h3 h4 h5 h1 h2 (by decide) rfl
theorem exploreTwoTable_ct (letters : Int) (start : TwoTable) (domgo : ((TwoTable × Int) → Prop)) (go : ((TwoTable × Int) → TwoTable)) (dommark : (TwoTable → Prop)) (mark : (TwoTable → Int)) (limit : Int) (hp : ExplPre letters start domgo go dommark limit) : Ct 70 [.sv (.one (I letters)), .sv (.agg [I start.fE0, I start.fE1, I start.fE2, I start.fE3, I start.fE4]), .sv (.one (.rd (fvR (fun (x : (TwoTable × Int)) => [.sv (.agg [I x.1.fE0, I x.1.fE1, I x.1.fE2, I x.1.fE3, I x.1.fE4]), .sv (.one (I x.2))]) (fun (r : TwoTable) => .sv (.agg [I r.fE0, I r.fE1, I r.fE2, I r.fE3, I r.fE4])) domgo go))), .sv (.one (.rd (fvR (fun (x : TwoTable) => [.sv (.agg [I x.fE0, I x.fE1, I x.fE2, I x.fE3, I x.fE4])]) (fun (r : Int) => .sv (.one (I r))) dommark mark))), .sv (.one (I limit))] [] (fun (_ : Unit) => True) (fun _ => .tup [.agg [I (explR (fun k (a : Nat) => go (k, (a : Int))) mark letters.toNat start limit).1.fLetters, I (explR (fun k (a : Nat) => go (k, (a : Int))) mark letters.toNat start limit).1.fStart, LS (lsT intT) (explR (fun k (a : Nat) => go (k, (a : Int))) mark letters.toNat start limit).1.fNext, LS intT (explR (fun k (a : Nat) => go (k, (a : Int))) mark letters.toNat start limit).1.fMark], .one (B (explR (fun k (a : Nat) => go (k, (a : Int))) mark letters.toNat start limit).2)]) := by
  refine (exploreTwoTable_walk letters start domgo go dommark mark limit (fun res_ => res_ = (explR (fun k (a : Nat) => go (k, (a : Int))) mark letters.toNat start limit)) ?_).fun
  obtain ⟨h1, h2, P, h3, h4, h5⟩ := hp
  exact explore_plain letters start domgo go dommark mark limit 40 (fun r => r = explR (fun k (a : Nat) => go (k, (a : Int))) mark letters.toNat start limit) P h3 h4 h5 h1 h2 (by decide) rfl
theorem exploreInt_ct (letters : Int) (start : Int) (domgo : ((Int × Int) → Prop)) (go : ((Int × Int) → Int)) (dommark : (Int → Prop)) (mark : (Int → Int)) (limit : Int) (hp : ExplPre letters start domgo go dommark limit) : Ct 94 [.sv (.one (I letters)), .sv (.one (I start)), .sv (.one (.rd (fvR (fun (x : (Int × Int)) => [.sv (.one (I x.1)), .sv (.one (I x.2))]) (fun (r : Int) => .sv (.one (I r))) domgo go))), .sv (.one (.rd (fvR (fun (x : Int) => [.sv (.one (I x))]) (fun (r : Int) => .sv (.one (I r))) dommark mark))), .sv (.one (I limit))] [] (fun (_ : Unit) => True) (fun _ => .tup [.agg [I (explR (fun k (a : Nat) => go (k, (a : Int))) mark letters.toNat start limit).1.fLetters, I (explR (fun k (a : Nat) => go (k, (a : Int))) mark letters.toNat start limit).1.fStart, LS (lsT intT) (explR (fun k (a : Nat) => go (k, (a : Int))) mark letters.toNat start limit).1.fNext, LS intT (explR (fun k (a : Nat) => go (k, (a : Int))) mark letters.toNat start limit).1.fMark], .one (B (explR (fun k (a : Nat) => go (k, (a : Int))) mark letters.toNat start limit).2)]) := by
  refine (exploreInt_walk letters start domgo go dommark mark limit (fun res_ => res_ = (explR (fun k (a : Nat) => go (k, (a : Int))) mark letters.toNat start limit)) ?_).fun
  obtain ⟨h1, h2, P, h3, h4, h5⟩ := hp
  exact explore_plain letters start domgo go dommark mark limit 8 (fun r => r = explR (fun k (a : Nat) => go (k, (a : Int))) mark letters.toNat start limit) P h3 h4 h5 h1 h2 (by decide) rfl
theorem exploreOwn_ct (letters : Int) (start : Int) (domgo : ((Int × Int) → Prop)) (go : ((Int × Int) → Int)) (dommark : (Int → Prop)) (mark : (Int → Int)) (limit : Int) (hp : ExplPre letters start domgo go dommark limit) : CtS 94 [.sv (.one (I letters)), .sv (.one (I start)), .sv (.one (.rd (fvR (fun (x : (Int × Int)) => [.sv (.one (I x.1)), .sv (.one (I x.2))]) (fun (r : Int) => .sv (.one (I r))) domgo go))), .sv (.one (.rd (fvR (fun (x : Int) => [.sv (.one (I x))]) (fun (r : Int) => .sv (.one (I r))) dommark mark))), .sv (.one (I limit))] [] (fun (_ : Unit) => True) (fun _ => .tup [.agg [I (explR (fun k (a : Nat) => go (k, (a : Int))) mark letters.toNat start limit).1.fLetters, I (explR (fun k (a : Nat) => go (k, (a : Int))) mark letters.toNat start limit).1.fStart, LS (lsT intT) (explR (fun k (a : Nat) => go (k, (a : Int))) mark letters.toNat start limit).1.fNext, .own 0], .one (B (explR (fun k (a : Nat) => go (k, (a : Int))) mark letters.toNat start limit).2)]) (fun _ => rowI 3 intT (explR (fun k (a : Nat) => go (k, (a : Int))) mark letters.toNat start limit).1.fMark) := by
  refine (exploreOwn_walk letters start domgo go dommark mark limit (fun res_ => res_ = (explR (fun k (a : Nat) => go (k, (a : Int))) mark letters.toNat start limit)) ?_).fun
  obtain ⟨h1, h2, P, h3, h4, h5⟩ := hp
  exact explore_plain letters start domgo go dommark mark limit 8 (fun r => r = explR (fun k (a : Nat) => go (k, (a : Int))) mark letters.toNat start limit) P h3 h4 h5 h1 h2 (by decide) rfl
def smGo_vc (k : Int) (a : Int) (cls : (List Int)) (d : ApiDet) (back : (List Int)) (Q : Int → Prop) : Prop :=
  ∃ e, idx back k = some e ∧
  ∃ e_2, idx d.fNext e = some e_2 ∧
  ∃ e_3, idx e_2 a = some e_3 ∧
  ∃ e_4, idx cls e_3 = some e_4 ∧
  Q e_4
theorem smGo_walk (k : Int) (a : Int) (cls : (List Int)) (d : ApiDet) (back : (List Int)) (Q : Int → Prop) (h : smGo_vc k a cls d back Q) : Ct 116 [.sv (.one (I k)), .sv (.one (I a)), .sv (.one (.ptr 0 0)), .sv (.one (.ptr 1 0)), .sv (.one (.ptr 2 0))] [.box [LS intT cls] 23 true, .box [I d.fLetters, I d.fStart, LS (lsT intT) d.fNext, LS intT d.fMark] 25 true, .box [LS intT back] 23 true] Q (fun (r : Int) => .sv (.one (I r))) := by
  have ht := tab_ok
  refine Ct.body Try.func116 rfl rfl rfl rfl (fun c hn => ?_)
  unfold smGo_vc at h
  refine En.seq ?_
  refine En.region ?_
  refine WL.run ht hn 1 ⟨[(0, .sv (.one (I k))), (1, .sv (.one (I a))), (2, .sv (.one (.ptr 0 0))), (3, .sv (.one (.ptr 1 0))), (4, .sv (.one (.ptr 2 0)))], [.box [LS intT cls] 23 true, .box [I d.fLetters, I d.fStart, LS (lsT intT) d.fNext, LS intT d.fMark] 25 true, .box [LS intT back] 23 true]⟩ (by kernel_rfl) ?_
  refine WL.nil ?_
  refine En.seq ?_
  refine En.regionS (by kernel_rfl) (by kernel_rfl) ?_
  refine SL.run ht hn 5 ⟨[(0, .sv (.one (I k))), (1, .sv (.one (I a))), (2, .sv (.one (.ptr 0 0))), (3, .sv (.one (.ptr 1 0))), (4, .sv (.one (.ptr 2 0))), (8, .sv (.one (LS intT cls))), (9, .sv (.one (.ptr 1 2))), (10, .sv (.one (LS (lsT intT) d.fNext))), (11, .sv (.one (LS intT back))), (12, .sv (.one (I k)))], [.box [LS intT cls] 23 true, .box [I d.fLetters, I d.fStart, LS (lsT intT) d.fNext, LS intT d.fMark] 25 true, .box [LS intT back] 23 true]⟩ (by kernel_rfl) ?_
  obtain ⟨e, he, h⟩ := h
  refine SL.val hn (by rfl) (val_index (T := intT) (l := back) (i := k) ht rfl (by rfl) (by rfl) (by rfl) (by rfl) (by rfl) (by rfl) he) (by rfl) ?_
  refine SL.val hn (by rfl) (val_load (s := .one (I e)) ht rfl (by rfl) (by rfl) (by rfl) (by rfl) (by rfl)) (by rfl) ?_
  obtain ⟨e_2, he_2, h⟩ := h
  refine SL.val hn (by rfl) (val_index (T := (lsT intT)) (l := d.fNext) (i := e) ht rfl (by rfl) (by rfl) (by rfl) (by rfl) (by rfl) (by rfl) he_2) (by rfl) ?_
  refine SL.val hn (by rfl) (val_load (s := .one (LS intT e_2)) ht rfl (by rfl) (by rfl) (by rfl) (by rfl) (by rfl)) (by rfl) ?_
  refine SL.run ht hn 1 ⟨[(0, .sv (.one (I k))), (1, .sv (.one (I a))), (2, .sv (.one (.ptr 0 0))), (3, .sv (.one (.ptr 1 0))), (4, .sv (.one (.ptr 2 0))), (8, .sv (.one (LS intT cls))), (9, .sv (.one (.ptr 1 2))), (10, .sv (.one (LS (lsT intT) d.fNext))), (11, .sv (.one (LS intT back))), (12, .sv (.one (I k))), (13, .sv (.one (.pe (svR (.one (I e))) 1))), (14, .sv (.one (I e))), (15, .sv (.one (.pe (svR (.one (LS intT e_2))) 1))), (16, .sv (.one (LS intT e_2))), (17, .sv (.one (I a)))], [.box [LS intT cls] 23 true, .box [I d.fLetters, I d.fStart, LS (lsT intT) d.fNext, LS intT d.fMark] 25 true, .box [LS intT back] 23 true]⟩ (by kernel_rfl) ?_
  obtain ⟨e_3, he_3, h⟩ := h
  refine SL.val hn (by rfl) (val_index (T := intT) (l := e_2) (i := a) ht rfl (by rfl) (by rfl) (by rfl) (by rfl) (by rfl) (by rfl) he_3) (by rfl) ?_
  refine SL.val hn (by rfl) (val_load (s := .one (I e_3)) ht rfl (by rfl) (by rfl) (by rfl) (by rfl) (by rfl)) (by rfl) ?_
  obtain ⟨e_4, he_4, h⟩ := h
  refine SL.val hn (by rfl) (val_index (T := intT) (l := cls) (i := e_3) ht rfl (by rfl) (by rfl) (by rfl) (by rfl) (by rfl) (by rfl) he_4) (by rfl) ?_
  refine SL.val hn (by rfl) (val_load (s := .one (I e_4)) ht rfl (by rfl) (by rfl) (by rfl) (by rfl) (by rfl)) (by rfl) ?_
  refine SL.run ht hn 1 ⟨[(0, .sv (.one (I k))), (1, .sv (.one (I a))), (2, .sv (.one (.ptr 0 0))), (3, .sv (.one (.ptr 1 0))), (4, .sv (.one (.ptr 2 0))), (7, .sv (.one (I e_4))), (8, .sv (.one (LS intT cls))), (9, .sv (.one (.ptr 1 2))), (10, .sv (.one (LS (lsT intT) d.fNext))), (11, .sv (.one (LS intT back))), (12, .sv (.one (I k))), (13, .sv (.one (.pe (svR (.one (I e))) 1))), (14, .sv (.one (I e))), (15, .sv (.one (.pe (svR (.one (LS intT e_2))) 1))), (16, .sv (.one (LS intT e_2))), (17, .sv (.one (I a))), (18, .sv (.one (.pe (svR (.one (I e_3))) 1))), (19, .sv (.one (I e_3))), (20, .sv (.one (.pe (svR (.one (I e_4))) 1))), (21, .sv (.one (I e_4)))], [.box [LS intT cls] 23 true, .box [I d.fLetters, I d.fStart, LS (lsT intT) d.fNext, LS intT d.fMark] 25 true, .box [LS intT back] 23 true]⟩ (by kernel_rfl) ?_
  refine SL.nil ⟨by kernel_rfl, ?_⟩
  refine En.ret ?_
  exact En.back ht e_4 h (by kernel_rfl) rfl
theorem en116 : ∀ args w, (callFunc 116 args).run Try.prog w = .ok (.enter 116 args) w := enters_of Try.func116 (by kernel_rfl) rfl
def smMark_vc (k : Int) (d : ApiDet) (back : (List Int)) (Q : Int → Prop) : Prop :=
  ∃ e, idx back k = some e ∧
  ∃ e_2, idx d.fMark e = some e_2 ∧
  Q e_2
theorem smMark_walk (k : Int) (d : ApiDet) (back : (List Int)) (Q : Int → Prop) (h : smMark_vc k d back Q) : Ct 117 [.sv (.one (I k)), .sv (.one (.ptr 0 0)), .sv (.one (.ptr 1 0))] [.box [I d.fLetters, I d.fStart, LS (lsT intT) d.fNext, LS intT d.fMark] 25 true, .box [LS intT back] 23 true] Q (fun (r : Int) => .sv (.one (I r))) := by
  have ht := tab_ok
  refine Ct.body Try.func117 rfl rfl rfl rfl (fun c hn => ?_)
  unfold smMark_vc at h
  refine En.seq ?_
  refine En.region ?_
  refine WL.run ht hn 1 ⟨[(0, .sv (.one (I k))), (1, .sv (.one (.ptr 0 0))), (2, .sv (.one (.ptr 1 0)))], [.box [I d.fLetters, I d.fStart, LS (lsT intT) d.fNext, LS intT d.fMark] 25 true, .box [LS intT back] 23 true]⟩ (by kernel_rfl) ?_
  refine WL.nil ?_
  refine En.seq ?_
  refine En.regionS (by kernel_rfl) (by kernel_rfl) ?_
  refine SL.run ht hn 4 ⟨[(0, .sv (.one (I k))), (1, .sv (.one (.ptr 0 0))), (2, .sv (.one (.ptr 1 0))), (5, .sv (.one (.ptr 0 3))), (6, .sv (.one (LS intT d.fMark))), (7, .sv (.one (LS intT back))), (8, .sv (.one (I k)))], [.box [I d.fLetters, I d.fStart, LS (lsT intT) d.fNext, LS intT d.fMark] 25 true, .box [LS intT back] 23 true]⟩ (by kernel_rfl) ?_
  obtain ⟨e, he, h⟩ := h
  refine SL.val hn (by rfl) (val_index (T := intT) (l := back) (i := k) ht rfl (by rfl) (by rfl) (by rfl) (by rfl) (by rfl) (by rfl) he) (by rfl) ?_
  refine SL.val hn (by rfl) (val_load (s := .one (I e)) ht rfl (by rfl) (by rfl) (by rfl) (by rfl) (by rfl)) (by rfl) ?_
  obtain ⟨e_2, he_2, h⟩ := h
  refine SL.val hn (by rfl) (val_index (T := intT) (l := d.fMark) (i := e) ht rfl (by rfl) (by rfl) (by rfl) (by rfl) (by rfl) (by rfl) he_2) (by rfl) ?_
  refine SL.val hn (by rfl) (val_load (s := .one (I e_2)) ht rfl (by rfl) (by rfl) (by rfl) (by rfl) (by rfl)) (by rfl) ?_
  refine SL.run ht hn 1 ⟨[(0, .sv (.one (I k))), (1, .sv (.one (.ptr 0 0))), (2, .sv (.one (.ptr 1 0))), (4, .sv (.one (I e_2))), (5, .sv (.one (.ptr 0 3))), (6, .sv (.one (LS intT d.fMark))), (7, .sv (.one (LS intT back))), (8, .sv (.one (I k))), (9, .sv (.one (.pe (svR (.one (I e))) 1))), (10, .sv (.one (I e))), (11, .sv (.one (.pe (svR (.one (I e_2))) 1))), (12, .sv (.one (I e_2)))], [.box [I d.fLetters, I d.fStart, LS (lsT intT) d.fNext, LS intT d.fMark] 25 true, .box [LS intT back] 23 true]⟩ (by kernel_rfl) ?_
  refine SL.nil ⟨by kernel_rfl, ?_⟩
  refine En.ret ?_
  exact En.back ht e_2 h (by kernel_rfl) rfl
theorem en117 : ∀ args w, (callFunc 117 args).run Try.prog w = .ok (.enter 117 args) w := enters_of Try.func117 (by kernel_rfl) rfl
def smGo (cls : List Int) (d : ApiDet) (back : List Int) (c a : Int) : Int := cls.getD ((d.fNext.getD (back.getD c.toNat 0).toNat []).getD a.toNat 0).toNat 0
def smDom (cls : List Int) (d : ApiDet) (back : List Int) (c a : Int) : Prop := (0 ≤ c ∧ c < (back.length : Int)) ∧ (0 ≤ back.getD c.toNat 0 ∧ back.getD c.toNat 0 < (d.fNext.length : Int)) ∧ (0 ≤ a ∧ a < ((d.fNext.getD (back.getD c.toNat 0).toNat []).length : Int)) ∧ 0 ≤ (d.fNext.getD (back.getD c.toNat 0).toNat []).getD a.toNat 0 ∧ (d.fNext.getD (back.getD c.toNat 0).toNat []).getD a.toNat 0 < (cls.length : Int)
def smMark (d : ApiDet) (back : List Int) (c : Int) : Int := d.fMark.getD (back.getD c.toNat 0).toNat 0
def smMarkDom (d : ApiDet) (back : List Int) (c : Int) : Prop := (0 ≤ c ∧ c < (back.length : Int)) ∧ 0 ≤ back.getD c.toNat 0 ∧ back.getD c.toNat 0 < (d.fMark.length : Int)
theorem idx_getD {α : Type} {l : List α} {i : Int} (z : α) (h0 : 0 ≤ i) (h1 : i < (l.length : Int)) : idx l i = some (l.getD i.toNat z) := by
  unfold idx
  rw [if_pos h0]
  exact getD_some (by omega)
theorem smGo_ct (k : Int) (a : Int) (cls : (List Int)) (d : ApiDet) (back : (List Int)) (hd : smDom cls d back k a) : Ct 116 [.sv (.one (I k)), .sv (.one (I a)), .sv (.one (.ptr 0 0)), .sv (.one (.ptr 1 0)), .sv (.one (.ptr 2 0))] [.box [LS intT cls] 23 true, .box [I d.fLetters, I d.fStart, LS (lsT intT) d.fNext, LS intT d.fMark] 25 true, .box [LS intT back] 23 true] (fun (_ : Unit) => True) (fun _ => .sv (.one (I (smGo cls d back k a)))) := by
  refine (smGo_walk k a cls d back (fun res_ => res_ = (smGo cls d back k a)) ?_).fun
  obtain ⟨⟨h1, h2⟩, ⟨h3, h4⟩, ⟨h5, h6⟩, h7, h8⟩ := hd
  exact ⟨_, idx_getD 0 h1 h2, _, idx_getD [] h3 h4, _, idx_getD 0 h5 h6, _, idx_getD 0 h7 h8, rfl⟩
theorem smMark_ct (k : Int) (d : ApiDet) (back : (List Int)) (hd : smMarkDom d back k) : Ct 117 [.sv (.one (I k)), .sv (.one (.ptr 0 0)), .sv (.one (.ptr 1 0))] [.box [I d.fLetters, I d.fStart, LS (lsT intT) d.fNext, LS intT d.fMark] 25 true, .box [LS intT back] 23 true] (fun (_ : Unit) => True) (fun _ => .sv (.one (I (smMark d back k)))) := by
  refine (smMark_walk k d back (fun res_ => res_ = (smMark d back k)) ?_).fun
  obtain ⟨⟨h1, h2⟩, h3, h4⟩ := hd
  exact ⟨_, idx_getD 0 h1 h2, _, idx_getD 0 h3 h4, rfl⟩
def smallest_vc (d : ApiDet) (Q : ApiDet → Prop) : Prop :=
  d.fNext.length ≤ 9223372036854775807 →
  d.fMark.length ≤ 9223372036854775807 →
  ((ClsOk d) ∧
  ∀ r : (List Int), (IsClass d) r →
  (makeOk (r.length : Int) (r.length : Int) 8 ∧
  ∃ (Inv : Int → (List Int) → Prop) (mu : Int → (List Int) → Nat), Inv 0 (List.replicate ((r.length : Int)).toNat (0 : Int)) ∧
  ∀ (x16 : Int) (l3 : (List Int)) , Inv x16 l3 → (IfP (decide (x16 < (r.length : Int))) (∃ e, idx r x16 = some e ∧
  ∃ e_2, idx l3 e = some e_2 ∧
  (Inv (wr (x16 + 1)) (l3.set (e).toNat x16) ∧ mu (wr (x16 + 1)) (l3.set (e).toNat x16) < mu x16 l3)) (∃ e_3, idx r d.fStart = some e_3 ∧
  (ExplPre d.fLetters e_3 (fun (x : Int × Int) => smDom r d l3 x.1 x.2) (fun (x : Int × Int) => smGo r d l3 x.1 x.2) (smMarkDom d l3) (wr ((r.length : Int) + 1))) ∧
  Q (explR (fun k (a : Nat) => (fun (x : Int × Int) => smGo r d l3 x.1 x.2) (k, (a : Int))) (smMark d l3) (d.fLetters).toNat e_3 (wr ((r.length : Int) + 1))).1))))
theorem smallest_walk (d : ApiDet) (Q : ApiDet → Prop) (h : smallest_vc d Q) : Ct 45 [.sv (.agg [I d.fLetters, I d.fStart, LS (lsT intT) d.fNext, LS intT d.fMark])] [] Q (fun (r : ApiDet) => .sv (.agg [I r.fLetters, I r.fStart, LS (lsT intT) r.fNext, LS intT r.fMark])) := by
  have ht := tab_ok
  refine Ct.body Try.func45 rfl rfl rfl rfl (fun c hn => ?_)
  unfold smallest_vc at h
  refine En.lenA 0 2 (by rfl) (by rfl) (fun hl => ?_)
  replace h := h hl
  clear hl
  refine En.lenA 0 3 (by rfl) (by rfl) (fun hl => ?_)
  replace h := h hl
  clear hl
  refine En.seq ?_
  refine En.region ?_
  refine WL.run ht hn 2 ⟨[(1, .sv (.one (.ptr 0 0))), (2, .sv (.one (.ptr 1 0)))], [.box [I d.fLetters, I d.fStart, LS (lsT intT) d.fNext, LS intT d.fMark] 25 false, .box [I 0, I 0, .v (.slice none 0 0), .v (.slice none 0 0)] 25 false]⟩ (by kernel_rfl) ?_
  refine WL.nil ?_
  refine En.seq ?_
  refine En.region ?_
  refine WL.run ht hn 1 ⟨[(1, .sv (.one (.ptr 0 0))), (2, .sv (.one (.ptr 1 0))), (9, .sv (.agg [I d.fLetters, I d.fStart, LS (lsT intT) d.fNext, LS intT d.fMark]))], [.box [I d.fLetters, I d.fStart, LS (lsT intT) d.fNext, LS intT d.fMark] 25 false, .box [I 0, I 0, .v (.slice none 0 0), .v (.slice none 0 0)] 25 false]⟩ (by kernel_rfl) ?_
  have hp := h.1
  replace h := h.2
  refine WL.mtQ (Q := IsClass d) (x := fun (r : (List Int)) => .sv (.one (LS intT r))) (p := fun _ => none) hn (by rfl) (mtq_call (classes_ct d hp) en115 (caps := []) [] rfl (by rfl) (by kernel_rfl) (by kernel_rfl) (by rfl) (fun _ => rfl) (by rfl)) (fun r hr_2 => ⟨by rfl, _, by rfl, ?_⟩)
  replace h := h r hr_2
  refine WL.run ht hn 2 ⟨[(1, .sv (.one (.ptr 0 0))), (2, .sv (.one (.ptr 1 0))), (3, .sv (.one (.ptr 2 0)))], [.box [I d.fLetters, I d.fStart, LS (lsT intT) d.fNext, LS intT d.fMark] 25 false, .box [I 0, I 0, .v (.slice none 0 0), .v (.slice none 0 0)] 25 false, .box [LS intT r] 23 false]⟩ (by kernel_rfl) ?_
  refine WL.nil ?_
  refine En.seq ?_
  refine En.region ?_
  refine WL.run ht hn 2 ⟨[(1, .sv (.one (.ptr 0 0))), (2, .sv (.one (.ptr 1 0))), (3, .sv (.one (.ptr 2 0))), (12, .sv (.one (I (r.length : Int))))], [.box [I d.fLetters, I d.fStart, LS (lsT intT) d.fNext, LS intT d.fMark] 25 false, .box [I 0, I 0, .v (.slice none 0 0), .v (.slice none 0 0)] 25 false, .box [LS intT r] 23 false]⟩ (by kernel_rfl) ?_
  have hp := h.1
  replace h := h.2
  refine WL.mt0 (K := []) (p := some (3, rowI 3 intT (List.replicate ((r.length : Int)).toNat (0 : Int)))) hn (by rfl) (mt_make (T := intT) (0 : Int) (zv := (.int .i64 0)) 3 (l := (r.length : Int)) (cp := (r.length : Int)) ht rfl (by rfl) (by rfl) (by rfl) (by rfl) (by decide) (by rfl) (by rfl) hp.1 hp.2.1 hp.2.2 (hp.le (by decide)) rfl (fun _ => ⟨rfl, trivial⟩)) (by rfl) (by rfl) (by rfl) ?_
  refine WL.run ht hn 2 ⟨[(1, .sv (.one (.ptr 0 0))), (2, .sv (.one (.ptr 1 0))), (3, .sv (.one (.ptr 2 0))), (4, .sv (.one (.ptr 4 0)))], [.box [I d.fLetters, I d.fStart, LS (lsT intT) d.fNext, LS intT d.fMark] 25 false, .box [I 0, I 0, .v (.slice none 0 0), .v (.slice none 0 0)] 25 false, .box [LS intT r] 23 false, rowI 3 intT (List.replicate ((r.length : Int)).toNat (0 : Int)), .box [.own 3] 23 false]⟩ (by kernel_rfl) ?_
  refine WL.nil ?_
  refine En.seq ?_
  refine En.seq ?_
  refine En.region ?_
  refine WL.run ht hn 3 ⟨[(1, .sv (.one (.ptr 0 0))), (2, .sv (.one (.ptr 1 0))), (3, .sv (.one (.ptr 2 0))), (4, .sv (.one (.ptr 4 0))), (14, .sv (.one (LS intT r))), (15, .sv (.one (I (r.length : Int)))), (16, .sv (.one (I 0)))], [.box [I d.fLetters, I d.fStart, LS (lsT intT) d.fNext, LS intT d.fMark] 25 false, .box [I 0, I 0, .v (.slice none 0 0), .v (.slice none 0 0)] 25 false, .box [LS intT r] 23 false, rowI 3 intT (List.replicate ((r.length : Int)).toNat (0 : Int)), .box [.own 3] 23 false]⟩ (by kernel_rfl) ?_
  refine WL.nil ?_
  refine En.block ?_
  obtain ⟨Inv, mu, h0, hI⟩ := h
  refine En.loop (σ := Int × (List Int)) (fun zz => Inv zz.1 zz.2) (fun zz => mu zz.1 zz.2) (fun zz => ⟨[(1, .sv (.one (.ptr 0 0))), (2, .sv (.one (.ptr 1 0))), (3, .sv (.one (.ptr 2 0))), (4, .sv (.one (.ptr 4 0))), (14, .sv (.one (LS intT r))), (15, .sv (.one (I (r.length : Int)))), (16, .sv (.one (I zz.1)))], [.box [I d.fLetters, I d.fStart, LS (lsT intT) d.fNext, LS intT d.fMark] 25 false, .box [I 0, I 0, .v (.slice none 0 0), .v (.slice none 0 0)] 25 false, .box [LS intT r] 23 false, rowI 3 intT zz.2, .box [.own 3] 23 false]⟩) (0, (List.replicate ((r.length : Int)).toNat (0 : Int))) h0 (sub_ok (by kernel_rfl)) ?_
  rintro ⟨x16, l3⟩ h
  replace h := hI _ _ h
  show En c ⟨[(1, .sv (.one (.ptr 0 0))), (2, .sv (.one (.ptr 1 0))), (3, .sv (.one (.ptr 2 0))), (4, .sv (.one (.ptr 4 0))), (14, .sv (.one (LS intT r))), (15, .sv (.one (I (r.length : Int)))), (16, .sv (.one (I x16)))], [.box [I d.fLetters, I d.fStart, LS (lsT intT) d.fNext, LS intT d.fMark] 25 false, .box [I 0, I 0, .v (.slice none 0 0), .v (.slice none 0 0)] 25 false, .box [LS intT r] 23 false, rowI 3 intT l3, .box [.own 3] 23 false]⟩ _
  refine En.seq ?_
  refine En.region ?_
  refine WL.run ht hn 1 ⟨[(1, .sv (.one (.ptr 0 0))), (2, .sv (.one (.ptr 1 0))), (3, .sv (.one (.ptr 2 0))), (4, .sv (.one (.ptr 4 0))), (14, .sv (.one (LS intT r))), (15, .sv (.one (I (r.length : Int)))), (16, .sv (.one (I x16))), (17, .sv (.one (B (decide (x16 < (r.length : Int))))))], [.box [I d.fLetters, I d.fStart, LS (lsT intT) d.fNext, LS intT d.fMark] 25 false, .box [I 0, I 0, .v (.slice none 0 0), .v (.slice none 0 0)] 25 false, .box [LS intT r] 23 false, rowI 3 intT l3, .box [.own 3] 23 false]⟩ (by kernel_rfl) ?_
  refine WL.nil ?_
  refine En.seq ?_
  refine En.cond (b := (decide (x16 < (r.length : Int)))) (by kernel_rfl) (fun hb => ?_) (fun hb => ?_)
  · replace h := h.1 hb
    refine En.skip ?_
    refine En.seq ?_
    refine En.block ?_
    refine En.seq ?_
    refine En.region ?_
    refine WL.run ht hn 1 ⟨[(1, .sv (.one (.ptr 0 0))), (2, .sv (.one (.ptr 1 0))), (3, .sv (.one (.ptr 2 0))), (4, .sv (.one (.ptr 4 0))), (14, .sv (.one (LS intT r))), (15, .sv (.one (I (r.length : Int)))), (16, .sv (.one (I x16))), (18, .sv (.one (I x16)))], [.box [I d.fLetters, I d.fStart, LS (lsT intT) d.fNext, LS intT d.fMark] 25 false, .box [I 0, I 0, .v (.slice none 0 0), .v (.slice none 0 0)] 25 false, .box [LS intT r] 23 false, rowI 3 intT l3, .box [.own 3] 23 false]⟩ (by kernel_rfl) ?_
    obtain ⟨e, he, h⟩ := h
    refine WL.val hn (by rfl) (val_index (T := intT) (l := r) (i := x16) ht rfl (by rfl) (by rfl) (by rfl) (by rfl) (by rfl) (by rfl) he) (by rfl) ?_
    refine WL.val hn (by rfl) (val_load (s := .one (I e)) ht rfl (by rfl) (by rfl) (by rfl) (by rfl) (by rfl)) (by rfl) ?_
    refine WL.run ht hn 2 ⟨[(1, .sv (.one (.ptr 0 0))), (2, .sv (.one (.ptr 1 0))), (3, .sv (.one (.ptr 2 0))), (4, .sv (.one (.ptr 4 0))), (5, .sv (.one (I x16))), (6, .sv (.one (I e))), (14, .sv (.one (LS intT r))), (15, .sv (.one (I (r.length : Int)))), (16, .sv (.one (I x16)))], [.box [I d.fLetters, I d.fStart, LS (lsT intT) d.fNext, LS intT d.fMark] 25 false, .box [I 0, I 0, .v (.slice none 0 0), .v (.slice none 0 0)] 25 false, .box [LS intT r] 23 false, rowI 3 intT l3, .box [.own 3] 23 false]⟩ (by kernel_rfl) ?_
    refine WL.nil ?_
    refine En.region ?_
    refine WL.run ht hn 3 ⟨[(1, .sv (.one (.ptr 0 0))), (2, .sv (.one (.ptr 1 0))), (3, .sv (.one (.ptr 2 0))), (4, .sv (.one (.ptr 4 0))), (14, .sv (.one (LS intT r))), (15, .sv (.one (I (r.length : Int)))), (16, .sv (.one (I x16))), (21, .sv (.one (.own 3))), (22, .sv (.one (I e))), (23, .sv (.one (I x16)))], [.box [I d.fLetters, I d.fStart, LS (lsT intT) d.fNext, LS intT d.fMark] 25 false, .box [I 0, I 0, .v (.slice none 0 0), .v (.slice none 0 0)] 25 false, .box [LS intT r] 23 false, rowI 3 intT l3, .box [.own 3] 23 false]⟩ (by kernel_rfl) ?_
    obtain ⟨e_2, he_2, h⟩ := h
    refine WL.val hn (by rfl) (val_indexO (T := intT) (l := l3) (k := e) ht rfl (by rfl) (by rfl) (by rfl) (by rfl) (by decide) (by rfl) (by rfl) (by rfl) he_2) (by rfl) ?_
    refine WL.storeO (T := intT) (l := l3) (y := x16) ht hn (by rfl) rfl (by rfl) (by rfl) (fun _ h => by cases h) (by rfl) (by rfl) (idx_lt he_2) (by rfl) (by rfl) (by rfl) (by rfl) ?_
    refine WL.nil ?_
    refine En.region ?_
    refine WL.run ht hn 2 ⟨[(1, .sv (.one (.ptr 0 0))), (2, .sv (.one (.ptr 1 0))), (3, .sv (.one (.ptr 2 0))), (4, .sv (.one (.ptr 4 0))), (14, .sv (.one (LS intT r))), (15, .sv (.one (I (r.length : Int)))), (16, .sv (.one (I (wr (x16 + 1)))))], [.box [I d.fLetters, I d.fStart, LS (lsT intT) d.fNext, LS intT d.fMark] 25 false, .box [I 0, I 0, .v (.slice none 0 0), .v (.slice none 0 0)] 25 false, .box [LS intT r] 23 false, rowI 3 intT (l3.set (e).toNat x16), .box [.own 3] 23 false]⟩ (by kernel_rfl) ?_
    refine WL.nil ?_
    exact En.at (I := fun zz => Inv zz.1 zz.2 ∧ mu zz.1 zz.2 < mu x16 l3) (T := fun zz => ⟨[(1, .sv (.one (.ptr 0 0))), (2, .sv (.one (.ptr 1 0))), (3, .sv (.one (.ptr 2 0))), (4, .sv (.one (.ptr 4 0))), (14, .sv (.one (LS intT r))), (15, .sv (.one (I (r.length : Int)))), (16, .sv (.one (I zz.1)))], [.box [I d.fLetters, I d.fStart, LS (lsT intT) d.fNext, LS intT d.fMark] 25 false, .box [I 0, I 0, .v (.slice none 0 0), .v (.slice none 0 0)] 25 false, .box [LS intT r] 23 false, rowI 3 intT zz.2, .box [.own 3] 23 false]⟩) ((wr (x16 + 1)), (l3.set (e).toNat x16)) h (by kernel_rfl)
  · replace h := h.2 hb
    refine En.exit rfl ?_
    refine En.seq ?_
    refine En.seal (T := intT) (l := l3) (e := 3) 3 rfl ?_
    refine En.freeze [2, 0, 4] (by rfl) ?_
    obtain ⟨e_3, he_3, h⟩ := h
    have hp_2 := h.1
    replace h := h.2
    refine En.regionA ⟨[(1, .sv (.one (.ptr 0 0))), (2, .sv (.one (.ptr 1 0))), (3, .sv (.one (.ptr 2 0))), (4, .sv (.one (.ptr 4 0)))], [.sv (.one (.ptr 0 0)), .sv (.one (I d.fLetters)), .sv (.one (LS intT r)), .sv (.one (.ptr 0 1)), .sv (.one (I d.fStart)), .sv (.one (.pe (svR (.one (I e_3))) 1)), .sv (.one (I e_3)), .sv (.one (.rd (fvR (fun (x_ : (Int × Int)) => [.sv (.one (I x_.1)), .sv (.one (I x_.2))]) (fun (r : Int) => .sv (.one (I r))) (fun (x : Int × Int) => smDom r d l3 x.1 x.2) (fun (x : Int × Int) => smGo r d l3 x.1 x.2)))), .sv (.one (.rd (fvR (fun (x_ : Int) => [.sv (.one (I x_))]) (fun (r : Int) => .sv (.one (I r))) (smMarkDom d l3) (smMark d l3)))), .sv (.one (LS intT r)), .sv (.one (I (r.length : Int))), .sv (.one (I (wr ((r.length : Int) + 1)))), .tup [.agg [I (explR (fun k (a : Nat) => (fun (x : Int × Int) => smGo r d l3 x.1 x.2) (k, (a : Int))) (smMark d l3) (d.fLetters).toNat e_3 (wr ((r.length : Int) + 1))).1.fLetters, I (explR (fun k (a : Nat) => (fun (x : Int × Int) => smGo r d l3 x.1 x.2) (k, (a : Int))) (smMark d l3) (d.fLetters).toNat e_3 (wr ((r.length : Int) + 1))).1.fStart, LS (lsT intT) (explR (fun k (a : Nat) => (fun (x : Int × Int) => smGo r d l3 x.1 x.2) (k, (a : Int))) (smMark d l3) (d.fLetters).toNat e_3 (wr ((r.length : Int) + 1))).1.fNext, LS intT (explR (fun k (a : Nat) => (fun (x : Int × Int) => smGo r d l3 x.1 x.2) (k, (a : Int))) (smMark d l3) (d.fLetters).toNat e_3 (wr ((r.length : Int) + 1))).1.fMark], .one (B (explR (fun k (a : Nat) => (fun (x : Int × Int) => smGo r d l3 x.1 x.2) (k, (a : Int))) (smMark d l3) (d.fLetters).toNat e_3 (wr ((r.length : Int) + 1))).2)], .tup [.agg [I (explR (fun k (a : Nat) => (fun (x : Int × Int) => smGo r d l3 x.1 x.2) (k, (a : Int))) (smMark d l3) (d.fLetters).toNat e_3 (wr ((r.length : Int) + 1))).1.fLetters, I (explR (fun k (a : Nat) => (fun (x : Int × Int) => smGo r d l3 x.1 x.2) (k, (a : Int))) (smMark d l3) (d.fLetters).toNat e_3 (wr ((r.length : Int) + 1))).1.fStart, LS (lsT intT) (explR (fun k (a : Nat) => (fun (x : Int × Int) => smGo r d l3 x.1 x.2) (k, (a : Int))) (smMark d l3) (d.fLetters).toNat e_3 (wr ((r.length : Int) + 1))).1.fNext, LS intT (explR (fun k (a : Nat) => (fun (x : Int × Int) => smGo r d l3 x.1 x.2) (k, (a : Int))) (smMark d l3) (d.fLetters).toNat e_3 (wr ((r.length : Int) + 1))).1.fMark], .one (B (explR (fun k (a : Nat) => (fun (x : Int × Int) => smGo r d l3 x.1 x.2) (k, (a : Int))) (smMark d l3) (d.fLetters).toNat e_3 (wr ((r.length : Int) + 1))).2)], .sv (.agg [I (explR (fun k (a : Nat) => (fun (x : Int × Int) => smGo r d l3 x.1 x.2) (k, (a : Int))) (smMark d l3) (d.fLetters).toNat e_3 (wr ((r.length : Int) + 1))).1.fLetters, I (explR (fun k (a : Nat) => (fun (x : Int × Int) => smGo r d l3 x.1 x.2) (k, (a : Int))) (smMark d l3) (d.fLetters).toNat e_3 (wr ((r.length : Int) + 1))).1.fStart, LS (lsT intT) (explR (fun k (a : Nat) => (fun (x : Int × Int) => smGo r d l3 x.1 x.2) (k, (a : Int))) (smMark d l3) (d.fLetters).toNat e_3 (wr ((r.length : Int) + 1))).1.fNext, LS intT (explR (fun k (a : Nat) => (fun (x : Int × Int) => smGo r d l3 x.1 x.2) (k, (a : Int))) (smMark d l3) (d.fLetters).toNat e_3 (wr ((r.length : Int) + 1))).1.fMark]), .sv (.one (B (explR (fun k (a : Nat) => (fun (x : Int × Int) => smGo r d l3 x.1 x.2) (k, (a : Int))) (smMark d l3) (d.fLetters).toNat e_3 (wr ((r.length : Int) + 1))).2)), .sv (.one (.ptr 5 0)), .tup [], .sv (.one (B (explR (fun k (a : Nat) => (fun (x : Int × Int) => smGo r d l3 x.1 x.2) (k, (a : Int))) (smMark d l3) (d.fLetters).toNat e_3 (wr ((r.length : Int) + 1))).2))], [⟨.box [I d.fLetters, I d.fStart, LS (lsT intT) d.fNext, LS intT d.fMark] 25 true, none, none, none⟩, ⟨.box [I 0, I 0, .v (.slice none 0 0), .v (.slice none 0 0)] 25 false, none, none, none⟩, ⟨.box [LS intT r] 23 true, none, none, none⟩, ⟨.gone, none, none, none⟩, ⟨.box [LS intT l3] 23 true, none, none, none⟩, ⟨.box [I 0, I 0, .v (.slice none 0 0), .v (.slice none 0 0)] 25 false, some 16, none, some (17, .box [I (explR (fun k (a : Nat) => (fun (x : Int × Int) => smGo r d l3 x.1 x.2) (k, (a : Int))) (smMark d l3) (d.fLetters).toNat e_3 (wr ((r.length : Int) + 1))).1.fLetters, I (explR (fun k (a : Nat) => (fun (x : Int × Int) => smGo r d l3 x.1 x.2) (k, (a : Int))) (smMark d l3) (d.fLetters).toNat e_3 (wr ((r.length : Int) + 1))).1.fStart, LS (lsT intT) (explR (fun k (a : Nat) => (fun (x : Int × Int) => smGo r d l3 x.1 x.2) (k, (a : Int))) (smMark d l3) (d.fLetters).toNat e_3 (wr ((r.length : Int) + 1))).1.fNext, LS intT (explR (fun k (a : Nat) => (fun (x : Int × Int) => smGo r d l3 x.1 x.2) (k, (a : Int))) (smMark d l3) (d.fLetters).toNat e_3 (wr ((r.length : Int) + 1))).1.fMark] 25 false)⟩]⟩ ⟨[(2, .sv (.one (.ptr 1 0))), (7, .sv (.one (.ptr 5 0)))], [.gone, .box [I 0, I 0, .v (.slice none 0 0), .v (.slice none 0 0)] 25 false, .gone, .gone, .gone, .box [I (explR (fun k (a : Nat) => (fun (x : Int × Int) => smGo r d l3 x.1 x.2) (k, (a : Int))) (smMark d l3) (d.fLetters).toNat e_3 (wr ((r.length : Int) + 1))).1.fLetters, I (explR (fun k (a : Nat) => (fun (x : Int × Int) => smGo r d l3 x.1 x.2) (k, (a : Int))) (smMark d l3) (d.fLetters).toNat e_3 (wr ((r.length : Int) + 1))).1.fStart, LS (lsT intT) (explR (fun k (a : Nat) => (fun (x : Int × Int) => smGo r d l3 x.1 x.2) (k, (a : Int))) (smMark d l3) (d.fLetters).toNat e_3 (wr ((r.length : Int) + 1))).1.fNext, LS intT (explR (fun k (a : Nat) => (fun (x : Int × Int) => smGo r d l3 x.1 x.2) (k, (a : Int))) (smMark d l3) (d.fLetters).toNat e_3 (wr ((r.length : Int) + 1))).1.fMark] 25 false]⟩ (by kernel_rfl) hn (by kernel_rfl) (by rfl) (by kernel_rfl) ?_ (by kernel_rfl) ?_
    · exact ⟨.mt ⟨[(1, .sv (.one (.ptr 0 0)))], []⟩ [] none (by kernel_rfl) (by rfl) (mt_ev ht (by kernel_rfl)) rfl rfl rfl rfl,
    .mt ⟨[(27, .sv (.one (.ptr 0 0)))], [.box [I d.fLetters, I d.fStart, LS (lsT intT) d.fNext, LS intT d.fMark] 25 true]⟩ [] none (by kernel_rfl) (by rfl) (mt_ev ht (by kernel_rfl)) rfl rfl rfl rfl,
    .mt ⟨[(3, .sv (.one (.ptr 2 0)))], [.gone, .gone, .box [LS intT r] 23 true]⟩ [] none (by kernel_rfl) (by rfl) (mt_ev ht (by kernel_rfl)) rfl rfl rfl rfl,
    .mt ⟨[(1, .sv (.one (.ptr 0 0)))], []⟩ [] none (by kernel_rfl) (by rfl) (mt_ev ht (by kernel_rfl)) rfl rfl rfl rfl,
    .mt ⟨[(30, .sv (.one (.ptr 0 1)))], [.box [I d.fLetters, I d.fStart, LS (lsT intT) d.fNext, LS intT d.fMark] 25 true]⟩ [] none (by kernel_rfl) (by rfl) (mt_ev ht (by kernel_rfl)) rfl rfl rfl rfl,
    .mt ⟨[(29, .sv (.one (LS intT r))), (31, .sv (.one (I d.fStart)))], []⟩ [] none (by kernel_rfl) (by rfl) (mt_val (val_index (T := intT) (l := r) (i := d.fStart) ht rfl (by rfl) (by rfl) (by rfl) (by rfl) (by rfl) (by rfl) he_3)) rfl rfl rfl rfl,
    .mt ⟨[(32, .sv (.one (.pe (svR (.one (I e_3))) 1)))], []⟩ [] none (by kernel_rfl) (by rfl) (mt_val (val_load (s := .one (I e_3)) ht rfl (by rfl) (by rfl) (by rfl) (by rfl) (by rfl))) rfl rfl rfl rfl,
    .mt ⟨[(1, .sv (.one (.ptr 0 0))), (3, .sv (.one (.ptr 2 0))), (4, .sv (.one (.ptr 4 0)))], [.box [I d.fLetters, I d.fStart, LS (lsT intT) d.fNext, LS intT d.fMark] 25 true, .gone, .box [LS intT r] 23 true, .gone, .box [LS intT l3] 23 true]⟩ [] none (by kernel_rfl) (by rfl) (mt_fv (x := .sv (.one (.fn 116 [2, 0, 4]))) ht (by kernel_rfl) (fv_of (M := [.box [LS intT r] 23 true, .box [I d.fLetters, I d.fStart, LS (lsT intT) d.fNext, LS intT d.fMark] 25 true, .box [LS intT l3] 23 true]) (caps := [2, 0, 4]) (fun x_ hx => smGo_ct x_.1 x_.2 r d l3 hx) en116 rfl (by kernel_rfl) (by rfl) (fun _ => rfl))) rfl rfl rfl rfl,
    .mt ⟨[(1, .sv (.one (.ptr 0 0))), (4, .sv (.one (.ptr 4 0)))], [.box [I d.fLetters, I d.fStart, LS (lsT intT) d.fNext, LS intT d.fMark] 25 true, .gone, .gone, .gone, .box [LS intT l3] 23 true]⟩ [] none (by kernel_rfl) (by rfl) (mt_fv (x := .sv (.one (.fn 117 [0, 4]))) ht (by kernel_rfl) (fv_of (M := [.box [I d.fLetters, I d.fStart, LS (lsT intT) d.fNext, LS intT d.fMark] 25 true, .box [LS intT l3] 23 true]) (caps := [0, 4]) (fun x_ hx => smMark_ct x_ d l3 hx) en117 rfl (by kernel_rfl) (by rfl) (fun _ => rfl))) rfl rfl rfl rfl,
    .mt ⟨[(3, .sv (.one (.ptr 2 0)))], [.gone, .gone, .box [LS intT r] 23 true]⟩ [] none (by kernel_rfl) (by rfl) (mt_ev ht (by kernel_rfl)) rfl rfl rfl rfl,
    .mt ⟨[(36, .sv (.one (LS intT r)))], []⟩ [] none (by kernel_rfl) (by rfl) (mt_ev ht (by kernel_rfl)) rfl rfl rfl rfl,
    .mt ⟨[(37, .sv (.one (I (r.length : Int))))], []⟩ [] none (by kernel_rfl) (by rfl) (mt_ev ht (by kernel_rfl)) rfl rfl rfl rfl,
    .mt ⟨[(28, .sv (.one (I d.fLetters))), (33, .sv (.one (I e_3))), (34, .sv (.one (.rd (fvR (fun (x_ : (Int × Int)) => [.sv (.one (I x_.1)), .sv (.one (I x_.2))]) (fun (r : Int) => .sv (.one (I r))) (fun (x : Int × Int) => smDom r d l3 x.1 x.2) (fun (x : Int × Int) => smGo r d l3 x.1 x.2))))), (35, .sv (.one (.rd (fvR (fun (x_ : Int) => [.sv (.one (I x_))]) (fun (r : Int) => .sv (.one (I r))) (smMarkDom d l3) (smMark d l3))))), (38, .sv (.one (I (wr ((r.length : Int) + 1)))))], []⟩ [] none (by kernel_rfl) (by rfl) (mt_call (exploreInt_ct d.fLetters e_3 (fun (x : Int × Int) => smDom r d l3 x.1 x.2) (fun (x : Int × Int) => smGo r d l3 x.1 x.2) (smMarkDom d l3) (smMark d l3) (wr ((r.length : Int) + 1)) hp_2) en94 (caps := []) [] rfl (by rfl) (by kernel_rfl) (by kernel_rfl) (by rfl) (by rfl) (by rfl)) rfl rfl rfl rfl,
    .mt ⟨[(39, .tup [.agg [I (explR (fun k (a : Nat) => (fun (x : Int × Int) => smGo r d l3 x.1 x.2) (k, (a : Int))) (smMark d l3) (d.fLetters).toNat e_3 (wr ((r.length : Int) + 1))).1.fLetters, I (explR (fun k (a : Nat) => (fun (x : Int × Int) => smGo r d l3 x.1 x.2) (k, (a : Int))) (smMark d l3) (d.fLetters).toNat e_3 (wr ((r.length : Int) + 1))).1.fStart, LS (lsT intT) (explR (fun k (a : Nat) => (fun (x : Int × Int) => smGo r d l3 x.1 x.2) (k, (a : Int))) (smMark d l3) (d.fLetters).toNat e_3 (wr ((r.length : Int) + 1))).1.fNext, LS intT (explR (fun k (a : Nat) => (fun (x : Int × Int) => smGo r d l3 x.1 x.2) (k, (a : Int))) (smMark d l3) (d.fLetters).toNat e_3 (wr ((r.length : Int) + 1))).1.fMark], .one (B (explR (fun k (a : Nat) => (fun (x : Int × Int) => smGo r d l3 x.1 x.2) (k, (a : Int))) (smMark d l3) (d.fLetters).toNat e_3 (wr ((r.length : Int) + 1))).2)])], []⟩ [] none (by kernel_rfl) (by rfl) (mt_ev ht (by kernel_rfl)) rfl rfl rfl rfl,
    .mt ⟨[(26, .tup [.agg [I (explR (fun k (a : Nat) => (fun (x : Int × Int) => smGo r d l3 x.1 x.2) (k, (a : Int))) (smMark d l3) (d.fLetters).toNat e_3 (wr ((r.length : Int) + 1))).1.fLetters, I (explR (fun k (a : Nat) => (fun (x : Int × Int) => smGo r d l3 x.1 x.2) (k, (a : Int))) (smMark d l3) (d.fLetters).toNat e_3 (wr ((r.length : Int) + 1))).1.fStart, LS (lsT intT) (explR (fun k (a : Nat) => (fun (x : Int × Int) => smGo r d l3 x.1 x.2) (k, (a : Int))) (smMark d l3) (d.fLetters).toNat e_3 (wr ((r.length : Int) + 1))).1.fNext, LS intT (explR (fun k (a : Nat) => (fun (x : Int × Int) => smGo r d l3 x.1 x.2) (k, (a : Int))) (smMark d l3) (d.fLetters).toNat e_3 (wr ((r.length : Int) + 1))).1.fMark], .one (B (explR (fun k (a : Nat) => (fun (x : Int × Int) => smGo r d l3 x.1 x.2) (k, (a : Int))) (smMark d l3) (d.fLetters).toNat e_3 (wr ((r.length : Int) + 1))).2)])], []⟩ [] none (by kernel_rfl) (by rfl) (mt_ev ht (by kernel_rfl)) rfl rfl rfl rfl,
    .mt ⟨[(26, .tup [.agg [I (explR (fun k (a : Nat) => (fun (x : Int × Int) => smGo r d l3 x.1 x.2) (k, (a : Int))) (smMark d l3) (d.fLetters).toNat e_3 (wr ((r.length : Int) + 1))).1.fLetters, I (explR (fun k (a : Nat) => (fun (x : Int × Int) => smGo r d l3 x.1 x.2) (k, (a : Int))) (smMark d l3) (d.fLetters).toNat e_3 (wr ((r.length : Int) + 1))).1.fStart, LS (lsT intT) (explR (fun k (a : Nat) => (fun (x : Int × Int) => smGo r d l3 x.1 x.2) (k, (a : Int))) (smMark d l3) (d.fLetters).toNat e_3 (wr ((r.length : Int) + 1))).1.fNext, LS intT (explR (fun k (a : Nat) => (fun (x : Int × Int) => smGo r d l3 x.1 x.2) (k, (a : Int))) (smMark d l3) (d.fLetters).toNat e_3 (wr ((r.length : Int) + 1))).1.fMark], .one (B (explR (fun k (a : Nat) => (fun (x : Int × Int) => smGo r d l3 x.1 x.2) (k, (a : Int))) (smMark d l3) (d.fLetters).toNat e_3 (wr ((r.length : Int) + 1))).2)])], []⟩ [] none (by kernel_rfl) (by rfl) (mt_ev ht (by kernel_rfl)) rfl rfl rfl rfl,
    .mt ⟨[], []⟩ [] (some 5) (by kernel_rfl) (by rfl) (mt_alloc2 5 25 ht rfl (by rfl) (by rfl)) rfl rfl rfl rfl,
    .mu ⟨[(7, .sv (.one (.ptr 5 0))), (40, .sv (.agg [I (explR (fun k (a : Nat) => (fun (x : Int × Int) => smGo r d l3 x.1 x.2) (k, (a : Int))) (smMark d l3) (d.fLetters).toNat e_3 (wr ((r.length : Int) + 1))).1.fLetters, I (explR (fun k (a : Nat) => (fun (x : Int × Int) => smGo r d l3 x.1 x.2) (k, (a : Int))) (smMark d l3) (d.fLetters).toNat e_3 (wr ((r.length : Int) + 1))).1.fStart, LS (lsT intT) (explR (fun k (a : Nat) => (fun (x : Int × Int) => smGo r d l3 x.1 x.2) (k, (a : Int))) (smMark d l3) (d.fLetters).toNat e_3 (wr ((r.length : Int) + 1))).1.fNext, LS intT (explR (fun k (a : Nat) => (fun (x : Int × Int) => smGo r d l3 x.1 x.2) (k, (a : Int))) (smMark d l3) (d.fLetters).toNat e_3 (wr ((r.length : Int) + 1))).1.fMark]))], [.gone, .gone, .gone, .gone, .gone, .box [I 0, I 0, .v (.slice none 0 0), .v (.slice none 0 0)] 25 false]⟩ 5 _ _ rfl rfl (by kernel_rfl) (by rfl) (mu_store2 ht rfl (by rfl) (by rfl) (by rfl) (by rfl) (fun h => by cases h) (by rfl) (by rfl)) rfl rfl rfl rfl rfl rfl rfl,
    .mt ⟨[(41, .sv (.one (B (explR (fun k (a : Nat) => (fun (x : Int × Int) => smGo r d l3 x.1 x.2) (k, (a : Int))) (smMark d l3) (d.fLetters).toNat e_3 (wr ((r.length : Int) + 1))).2)))], []⟩ [] none (by kernel_rfl) (by rfl) (mt_ev ht (by kernel_rfl)) rfl rfl rfl rfl,
    trivial⟩
    · refine En.seq ?_
      refine En.region ?_
      refine WL.run ht hn 2 ⟨[(2, .sv (.one (.ptr 1 0)))], [.gone, .box [I (explR (fun k (a : Nat) => (fun (x : Int × Int) => smGo r d l3 x.1 x.2) (k, (a : Int))) (smMark d l3) (d.fLetters).toNat e_3 (wr ((r.length : Int) + 1))).1.fLetters, I (explR (fun k (a : Nat) => (fun (x : Int × Int) => smGo r d l3 x.1 x.2) (k, (a : Int))) (smMark d l3) (d.fLetters).toNat e_3 (wr ((r.length : Int) + 1))).1.fStart, LS (lsT intT) (explR (fun k (a : Nat) => (fun (x : Int × Int) => smGo r d l3 x.1 x.2) (k, (a : Int))) (smMark d l3) (d.fLetters).toNat e_3 (wr ((r.length : Int) + 1))).1.fNext, LS intT (explR (fun k (a : Nat) => (fun (x : Int × Int) => smGo r d l3 x.1 x.2) (k, (a : Int))) (smMark d l3) (d.fLetters).toNat e_3 (wr ((r.length : Int) + 1))).1.fMark] 25 false, .gone, .gone, .gone, .gone]⟩ (by kernel_rfl) ?_
      refine WL.nil ?_
      refine En.ret ?_
      exact En.back ht (explR (fun k (a : Nat) => (fun (x : Int × Int) => smGo r d l3 x.1 x.2) (k, (a : Int))) (smMark d l3) (d.fLetters).toNat e_3 (wr ((r.length : Int) + 1))).1 h (by kernel_rfl) rfl
theorem en45 : ∀ args w, (callFunc 45 args).run Try.prog w = .ok (.enter 45 args) w := enters_of Try.func45 (by kernel_rfl) rfl
def smallestOwn_vc (d : ApiDet) (Q : ApiDet → Prop) : Prop :=
  d.fNext.length ≤ 9223372036854775807 →
  d.fMark.length ≤ 9223372036854775807 →
  ((ClsOk d) ∧
  ∀ r : (List Int), (IsClass d) r →
  (makeOk (r.length : Int) (r.length : Int) 8 ∧
  ∃ (Inv : Int → (List Int) → Prop) (mu : Int → (List Int) → Nat), Inv 0 (List.replicate ((r.length : Int)).toNat (0 : Int)) ∧
  ∀ (x16 : Int) (l3 : (List Int)) , Inv x16 l3 → (IfP (decide (x16 < (r.length : Int))) (∃ e, idx r x16 = some e ∧
  ∃ e_2, idx l3 e = some e_2 ∧
  (Inv (wr (x16 + 1)) (l3.set (e).toNat x16) ∧ mu (wr (x16 + 1)) (l3.set (e).toNat x16) < mu x16 l3)) (∃ e_3, idx r d.fStart = some e_3 ∧
  (ExplPre d.fLetters e_3 (fun (x : Int × Int) => smDom r d l3 x.1 x.2) (fun (x : Int × Int) => smGo r d l3 x.1 x.2) (smMarkDom d l3) (wr ((r.length : Int) + 1))) ∧
  Q (explR (fun k (a : Nat) => (fun (x : Int × Int) => smGo r d l3 x.1 x.2) (k, (a : Int))) (smMark d l3) (d.fLetters).toNat e_3 (wr ((r.length : Int) + 1))).1))))
theorem smallestOwn_walk (d : ApiDet) (Q : ApiDet → Prop) (h : smallestOwn_vc d Q) : CtS 45 [.sv (.agg [I d.fLetters, I d.fStart, LS (lsT intT) d.fNext, LS intT d.fMark])] [] Q (fun (r : ApiDet) => .sv (.agg [I r.fLetters, I r.fStart, LS (lsT intT) r.fNext, .own 0])) (fun (r : ApiDet) => rowI 3 intT r.fMark) := by
  have ht := tab_ok
  refine CtS.body Try.func45 rfl rfl rfl rfl (fun c hn hmay => ?_)
  unfold smallestOwn_vc at h
  refine En.lenA 0 2 (by rfl) (by rfl) (fun hl => ?_)
  replace h := h hl
  clear hl
  refine En.lenA 0 3 (by rfl) (by rfl) (fun hl => ?_)
  replace h := h hl
  clear hl
  refine En.seq ?_
  refine En.region ?_
  refine WL.run ht hn 2 ⟨[(1, .sv (.one (.ptr 0 0))), (2, .sv (.one (.ptr 1 0)))], [.box [I d.fLetters, I d.fStart, LS (lsT intT) d.fNext, LS intT d.fMark] 25 false, .box [I 0, I 0, .v (.slice none 0 0), .v (.slice none 0 0)] 25 false]⟩ (by kernel_rfl) ?_
  refine WL.nil ?_
  refine En.seq ?_
  refine En.region ?_
  refine WL.run ht hn 1 ⟨[(1, .sv (.one (.ptr 0 0))), (2, .sv (.one (.ptr 1 0))), (9, .sv (.agg [I d.fLetters, I d.fStart, LS (lsT intT) d.fNext, LS intT d.fMark]))], [.box [I d.fLetters, I d.fStart, LS (lsT intT) d.fNext, LS intT d.fMark] 25 false, .box [I 0, I 0, .v (.slice none 0 0), .v (.slice none 0 0)] 25 false]⟩ (by kernel_rfl) ?_
  have hp := h.1
  replace h := h.2
  refine WL.mtQ (Q := IsClass d) (x := fun (r : (List Int)) => .sv (.one (LS intT r))) (p := fun _ => none) hn (by rfl) (mtq_call (classes_ct d hp) en115 (caps := []) [] rfl (by rfl) (by kernel_rfl) (by kernel_rfl) (by rfl) (fun _ => rfl) (by rfl)) (fun r hr_2 => ⟨by rfl, _, by rfl, ?_⟩)
  replace h := h r hr_2
  refine WL.run ht hn 2 ⟨[(1, .sv (.one (.ptr 0 0))), (2, .sv (.one (.ptr 1 0))), (3, .sv (.one (.ptr 2 0)))], [.box [I d.fLetters, I d.fStart, LS (lsT intT) d.fNext, LS intT d.fMark] 25 false, .box [I 0, I 0, .v (.slice none 0 0), .v (.slice none 0 0)] 25 false, .box [LS intT r] 23 false]⟩ (by kernel_rfl) ?_
  refine WL.nil ?_
  refine En.seq ?_
  refine En.region ?_
  refine WL.run ht hn 2 ⟨[(1, .sv (.one (.ptr 0 0))), (2, .sv (.one (.ptr 1 0))), (3, .sv (.one (.ptr 2 0))), (12, .sv (.one (I (r.length : Int))))], [.box [I d.fLetters, I d.fStart, LS (lsT intT) d.fNext, LS intT d.fMark] 25 false, .box [I 0, I 0, .v (.slice none 0 0), .v (.slice none 0 0)] 25 false, .box [LS intT r] 23 false]⟩ (by kernel_rfl) ?_
  have hp := h.1
  replace h := h.2
  refine WL.mt0 (K := []) (p := some (3, rowI 3 intT (List.replicate ((r.length : Int)).toNat (0 : Int)))) hn (by rfl) (mt_make (T := intT) (0 : Int) (zv := (.int .i64 0)) 3 (l := (r.length : Int)) (cp := (r.length : Int)) ht rfl (by rfl) (by rfl) (by rfl) (by rfl) (by decide) (by rfl) (by rfl) hp.1 hp.2.1 hp.2.2 (hp.le (by decide)) rfl (fun _ => ⟨rfl, trivial⟩)) (by rfl) (by rfl) (by rfl) ?_
  refine WL.run ht hn 2 ⟨[(1, .sv (.one (.ptr 0 0))), (2, .sv (.one (.ptr 1 0))), (3, .sv (.one (.ptr 2 0))), (4, .sv (.one (.ptr 4 0)))], [.box [I d.fLetters, I d.fStart, LS (lsT intT) d.fNext, LS intT d.fMark] 25 false, .box [I 0, I 0, .v (.slice none 0 0), .v (.slice none 0 0)] 25 false, .box [LS intT r] 23 false, rowI 3 intT (List.replicate ((r.length : Int)).toNat (0 : Int)), .box [.own 3] 23 false]⟩ (by kernel_rfl) ?_
  refine WL.nil ?_
  refine En.seq ?_
  refine En.seq ?_
  refine En.region ?_
  refine WL.run ht hn 3 ⟨[(1, .sv (.one (.ptr 0 0))), (2, .sv (.one (.ptr 1 0))), (3, .sv (.one (.ptr 2 0))), (4, .sv (.one (.ptr 4 0))), (14, .sv (.one (LS intT r))), (15, .sv (.one (I (r.length : Int)))), (16, .sv (.one (I 0)))], [.box [I d.fLetters, I d.fStart, LS (lsT intT) d.fNext, LS intT d.fMark] 25 false, .box [I 0, I 0, .v (.slice none 0 0), .v (.slice none 0 0)] 25 false, .box [LS intT r] 23 false, rowI 3 intT (List.replicate ((r.length : Int)).toNat (0 : Int)), .box [.own 3] 23 false]⟩ (by kernel_rfl) ?_
  refine WL.nil ?_
  refine En.block ?_
  obtain ⟨Inv, mu, h0, hI⟩ := h
  refine En.loop (σ := Int × (List Int)) (fun zz => Inv zz.1 zz.2) (fun zz => mu zz.1 zz.2) (fun zz => ⟨[(1, .sv (.one (.ptr 0 0))), (2, .sv (.one (.ptr 1 0))), (3, .sv (.one (.ptr 2 0))), (4, .sv (.one (.ptr 4 0))), (14, .sv (.one (LS intT r))), (15, .sv (.one (I (r.length : Int)))), (16, .sv (.one (I zz.1)))], [.box [I d.fLetters, I d.fStart, LS (lsT intT) d.fNext, LS intT d.fMark] 25 false, .box [I 0, I 0, .v (.slice none 0 0), .v (.slice none 0 0)] 25 false, .box [LS intT r] 23 false, rowI 3 intT zz.2, .box [.own 3] 23 false]⟩) (0, (List.replicate ((r.length : Int)).toNat (0 : Int))) h0 (sub_ok (by kernel_rfl)) ?_
  rintro ⟨x16, l3⟩ h
  replace h := hI _ _ h
  show En c ⟨[(1, .sv (.one (.ptr 0 0))), (2, .sv (.one (.ptr 1 0))), (3, .sv (.one (.ptr 2 0))), (4, .sv (.one (.ptr 4 0))), (14, .sv (.one (LS intT r))), (15, .sv (.one (I (r.length : Int)))), (16, .sv (.one (I x16)))], [.box [I d.fLetters, I d.fStart, LS (lsT intT) d.fNext, LS intT d.fMark] 25 false, .box [I 0, I 0, .v (.slice none 0 0), .v (.slice none 0 0)] 25 false, .box [LS intT r] 23 false, rowI 3 intT l3, .box [.own 3] 23 false]⟩ _
  refine En.seq ?_
  refine En.region ?_
  refine WL.run ht hn 1 ⟨[(1, .sv (.one (.ptr 0 0))), (2, .sv (.one (.ptr 1 0))), (3, .sv (.one (.ptr 2 0))), (4, .sv (.one (.ptr 4 0))), (14, .sv (.one (LS intT r))), (15, .sv (.one (I (r.length : Int)))), (16, .sv (.one (I x16))), (17, .sv (.one (B (decide (x16 < (r.length : Int))))))], [.box [I d.fLetters, I d.fStart, LS (lsT intT) d.fNext, LS intT d.fMark] 25 false, .box [I 0, I 0, .v (.slice none 0 0), .v (.slice none 0 0)] 25 false, .box [LS intT r] 23 false, rowI 3 intT l3, .box [.own 3] 23 false]⟩ (by kernel_rfl) ?_
  refine WL.nil ?_
  refine En.seq ?_
  refine En.cond (b := (decide (x16 < (r.length : Int)))) (by kernel_rfl) (fun hb => ?_) (fun hb => ?_)
  · replace h := h.1 hb
    refine En.skip ?_
    refine En.seq ?_
    refine En.block ?_
    refine En.seq ?_
    refine En.region ?_
    refine WL.run ht hn 1 ⟨[(1, .sv (.one (.ptr 0 0))), (2, .sv (.one (.ptr 1 0))), (3, .sv (.one (.ptr 2 0))), (4, .sv (.one (.ptr 4 0))), (14, .sv (.one (LS intT r))), (15, .sv (.one (I (r.length : Int)))), (16, .sv (.one (I x16))), (18, .sv (.one (I x16)))], [.box [I d.fLetters, I d.fStart, LS (lsT intT) d.fNext, LS intT d.fMark] 25 false, .box [I 0, I 0, .v (.slice none 0 0), .v (.slice none 0 0)] 25 false, .box [LS intT r] 23 false, rowI 3 intT l3, .box [.own 3] 23 false]⟩ (by kernel_rfl) ?_
    obtain ⟨e, he, h⟩ := h
    refine WL.val hn (by rfl) (val_index (T := intT) (l := r) (i := x16) ht rfl (by rfl) (by rfl) (by rfl) (by rfl) (by rfl) (by rfl) he) (by rfl) ?_
    refine WL.val hn (by rfl) (val_load (s := .one (I e)) ht rfl (by rfl) (by rfl) (by rfl) (by rfl) (by rfl)) (by rfl) ?_
    refine WL.run ht hn 2 ⟨[(1, .sv (.one (.ptr 0 0))), (2, .sv (.one (.ptr 1 0))), (3, .sv (.one (.ptr 2 0))), (4, .sv (.one (.ptr 4 0))), (5, .sv (.one (I x16))), (6, .sv (.one (I e))), (14, .sv (.one (LS intT r))), (15, .sv (.one (I (r.length : Int)))), (16, .sv (.one (I x16)))], [.box [I d.fLetters, I d.fStart, LS (lsT intT) d.fNext, LS intT d.fMark] 25 false, .box [I 0, I 0, .v (.slice none 0 0), .v (.slice none 0 0)] 25 false, .box [LS intT r] 23 false, rowI 3 intT l3, .box [.own 3] 23 false]⟩ (by kernel_rfl) ?_
    refine WL.nil ?_
    refine En.region ?_
    refine WL.run ht hn 3 ⟨[(1, .sv (.one (.ptr 0 0))), (2, .sv (.one (.ptr 1 0))), (3, .sv (.one (.ptr 2 0))), (4, .sv (.one (.ptr 4 0))), (14, .sv (.one (LS intT r))), (15, .sv (.one (I (r.length : Int)))), (16, .sv (.one (I x16))), (21, .sv (.one (.own 3))), (22, .sv (.one (I e))), (23, .sv (.one (I x16)))], [.box [I d.fLetters, I d.fStart, LS (lsT intT) d.fNext, LS intT d.fMark] 25 false, .box [I 0, I 0, .v (.slice none 0 0), .v (.slice none 0 0)] 25 false, .box [LS intT r] 23 false, rowI 3 intT l3, .box [.own 3] 23 false]⟩ (by kernel_rfl) ?_
    obtain ⟨e_2, he_2, h⟩ := h
    refine WL.val hn (by rfl) (val_indexO (T := intT) (l := l3) (k := e) ht rfl (by rfl) (by rfl) (by rfl) (by rfl) (by decide) (by rfl) (by rfl) (by rfl) he_2) (by rfl) ?_
    refine WL.storeO (T := intT) (l := l3) (y := x16) ht hn (by rfl) rfl (by rfl) (by rfl) (fun _ h => by cases h) (by rfl) (by rfl) (idx_lt he_2) (by rfl) (by rfl) (by rfl) (by rfl) ?_
    refine WL.nil ?_
    refine En.region ?_
    refine WL.run ht hn 2 ⟨[(1, .sv (.one (.ptr 0 0))), (2, .sv (.one (.ptr 1 0))), (3, .sv (.one (.ptr 2 0))), (4, .sv (.one (.ptr 4 0))), (14, .sv (.one (LS intT r))), (15, .sv (.one (I (r.length : Int)))), (16, .sv (.one (I (wr (x16 + 1)))))], [.box [I d.fLetters, I d.fStart, LS (lsT intT) d.fNext, LS intT d.fMark] 25 false, .box [I 0, I 0, .v (.slice none 0 0), .v (.slice none 0 0)] 25 false, .box [LS intT r] 23 false, rowI 3 intT (l3.set (e).toNat x16), .box [.own 3] 23 false]⟩ (by kernel_rfl) ?_
    refine WL.nil ?_
    exact En.at (I := fun zz => Inv zz.1 zz.2 ∧ mu zz.1 zz.2 < mu x16 l3) (T := fun zz => ⟨[(1, .sv (.one (.ptr 0 0))), (2, .sv (.one (.ptr 1 0))), (3, .sv (.one (.ptr 2 0))), (4, .sv (.one (.ptr 4 0))), (14, .sv (.one (LS intT r))), (15, .sv (.one (I (r.length : Int)))), (16, .sv (.one (I zz.1)))], [.box [I d.fLetters, I d.fStart, LS (lsT intT) d.fNext, LS intT d.fMark] 25 false, .box [I 0, I 0, .v (.slice none 0 0), .v (.slice none 0 0)] 25 false, .box [LS intT r] 23 false, rowI 3 intT zz.2, .box [.own 3] 23 false]⟩) ((wr (x16 + 1)), (l3.set (e).toNat x16)) h (by kernel_rfl)
  · replace h := h.2 hb
    refine En.exit rfl ?_
    refine En.seq ?_
    refine En.seal (T := intT) (l := l3) (e := 3) 3 rfl ?_
    refine En.freeze [2, 0, 4] (by rfl) ?_
    obtain ⟨e_3, he_3, h⟩ := h
    have hp_2 := h.1
    replace h := h.2
    refine En.regionA ⟨[(1, .sv (.one (.ptr 0 0))), (2, .sv (.one (.ptr 1 0))), (3, .sv (.one (.ptr 2 0))), (4, .sv (.one (.ptr 4 0)))], [.sv (.one (.ptr 0 0)), .sv (.one (I d.fLetters)), .sv (.one (LS intT r)), .sv (.one (.ptr 0 1)), .sv (.one (I d.fStart)), .sv (.one (.pe (svR (.one (I e_3))) 1)), .sv (.one (I e_3)), .sv (.one (.rd (fvR (fun (x_ : (Int × Int)) => [.sv (.one (I x_.1)), .sv (.one (I x_.2))]) (fun (r : Int) => .sv (.one (I r))) (fun (x : Int × Int) => smDom r d l3 x.1 x.2) (fun (x : Int × Int) => smGo r d l3 x.1 x.2)))), .sv (.one (.rd (fvR (fun (x_ : Int) => [.sv (.one (I x_))]) (fun (r : Int) => .sv (.one (I r))) (smMarkDom d l3) (smMark d l3)))), .sv (.one (LS intT r)), .sv (.one (I (r.length : Int))), .sv (.one (I (wr ((r.length : Int) + 1)))), .tup [.agg [I (explR (fun k (a : Nat) => (fun (x : Int × Int) => smGo r d l3 x.1 x.2) (k, (a : Int))) (smMark d l3) (d.fLetters).toNat e_3 (wr ((r.length : Int) + 1))).1.fLetters, I (explR (fun k (a : Nat) => (fun (x : Int × Int) => smGo r d l3 x.1 x.2) (k, (a : Int))) (smMark d l3) (d.fLetters).toNat e_3 (wr ((r.length : Int) + 1))).1.fStart, LS (lsT intT) (explR (fun k (a : Nat) => (fun (x : Int × Int) => smGo r d l3 x.1 x.2) (k, (a : Int))) (smMark d l3) (d.fLetters).toNat e_3 (wr ((r.length : Int) + 1))).1.fNext, .own 5], .one (B (explR (fun k (a : Nat) => (fun (x : Int × Int) => smGo r d l3 x.1 x.2) (k, (a : Int))) (smMark d l3) (d.fLetters).toNat e_3 (wr ((r.length : Int) + 1))).2)], .tup [.agg [I (explR (fun k (a : Nat) => (fun (x : Int × Int) => smGo r d l3 x.1 x.2) (k, (a : Int))) (smMark d l3) (d.fLetters).toNat e_3 (wr ((r.length : Int) + 1))).1.fLetters, I (explR (fun k (a : Nat) => (fun (x : Int × Int) => smGo r d l3 x.1 x.2) (k, (a : Int))) (smMark d l3) (d.fLetters).toNat e_3 (wr ((r.length : Int) + 1))).1.fStart, LS (lsT intT) (explR (fun k (a : Nat) => (fun (x : Int × Int) => smGo r d l3 x.1 x.2) (k, (a : Int))) (smMark d l3) (d.fLetters).toNat e_3 (wr ((r.length : Int) + 1))).1.fNext, .own 5], .one (B (explR (fun k (a : Nat) => (fun (x : Int × Int) => smGo r d l3 x.1 x.2) (k, (a : Int))) (smMark d l3) (d.fLetters).toNat e_3 (wr ((r.length : Int) + 1))).2)], .sv (.agg [I (explR (fun k (a : Nat) => (fun (x : Int × Int) => smGo r d l3 x.1 x.2) (k, (a : Int))) (smMark d l3) (d.fLetters).toNat e_3 (wr ((r.length : Int) + 1))).1.fLetters, I (explR (fun k (a : Nat) => (fun (x : Int × Int) => smGo r d l3 x.1 x.2) (k, (a : Int))) (smMark d l3) (d.fLetters).toNat e_3 (wr ((r.length : Int) + 1))).1.fStart, LS (lsT intT) (explR (fun k (a : Nat) => (fun (x : Int × Int) => smGo r d l3 x.1 x.2) (k, (a : Int))) (smMark d l3) (d.fLetters).toNat e_3 (wr ((r.length : Int) + 1))).1.fNext, .own 5]), .sv (.one (B (explR (fun k (a : Nat) => (fun (x : Int × Int) => smGo r d l3 x.1 x.2) (k, (a : Int))) (smMark d l3) (d.fLetters).toNat e_3 (wr ((r.length : Int) + 1))).2)), .sv (.one (.ptr 6 0)), .tup [], .sv (.one (B (explR (fun k (a : Nat) => (fun (x : Int × Int) => smGo r d l3 x.1 x.2) (k, (a : Int))) (smMark d l3) (d.fLetters).toNat e_3 (wr ((r.length : Int) + 1))).2))], [⟨.box [I d.fLetters, I d.fStart, LS (lsT intT) d.fNext, LS intT d.fMark] 25 true, none, none, none⟩, ⟨.box [I 0, I 0, .v (.slice none 0 0), .v (.slice none 0 0)] 25 false, none, none, none⟩, ⟨.box [LS intT r] 23 true, none, none, none⟩, ⟨.gone, none, none, none⟩, ⟨.box [LS intT l3] 23 true, none, none, none⟩, ⟨rowI 3 intT (explR (fun k (a : Nat) => (fun (x : Int × Int) => smGo r d l3 x.1 x.2) (k, (a : Int))) (smMark d l3) (d.fLetters).toNat e_3 (wr ((r.length : Int) + 1))).1.fMark, some 12, none, none⟩, ⟨.box [I 0, I 0, .v (.slice none 0 0), .v (.slice none 0 0)] 25 false, some 16, none, some (17, .box [I (explR (fun k (a : Nat) => (fun (x : Int × Int) => smGo r d l3 x.1 x.2) (k, (a : Int))) (smMark d l3) (d.fLetters).toNat e_3 (wr ((r.length : Int) + 1))).1.fLetters, I (explR (fun k (a : Nat) => (fun (x : Int × Int) => smGo r d l3 x.1 x.2) (k, (a : Int))) (smMark d l3) (d.fLetters).toNat e_3 (wr ((r.length : Int) + 1))).1.fStart, LS (lsT intT) (explR (fun k (a : Nat) => (fun (x : Int × Int) => smGo r d l3 x.1 x.2) (k, (a : Int))) (smMark d l3) (d.fLetters).toNat e_3 (wr ((r.length : Int) + 1))).1.fNext, .own 5] 25 false)⟩]⟩ ⟨[(2, .sv (.one (.ptr 1 0))), (7, .sv (.one (.ptr 6 0)))], [.gone, .box [I 0, I 0, .v (.slice none 0 0), .v (.slice none 0 0)] 25 false, .gone, .gone, .gone, rowI 3 intT (explR (fun k (a : Nat) => (fun (x : Int × Int) => smGo r d l3 x.1 x.2) (k, (a : Int))) (smMark d l3) (d.fLetters).toNat e_3 (wr ((r.length : Int) + 1))).1.fMark, .box [I (explR (fun k (a : Nat) => (fun (x : Int × Int) => smGo r d l3 x.1 x.2) (k, (a : Int))) (smMark d l3) (d.fLetters).toNat e_3 (wr ((r.length : Int) + 1))).1.fLetters, I (explR (fun k (a : Nat) => (fun (x : Int × Int) => smGo r d l3 x.1 x.2) (k, (a : Int))) (smMark d l3) (d.fLetters).toNat e_3 (wr ((r.length : Int) + 1))).1.fStart, LS (lsT intT) (explR (fun k (a : Nat) => (fun (x : Int × Int) => smGo r d l3 x.1 x.2) (k, (a : Int))) (smMark d l3) (d.fLetters).toNat e_3 (wr ((r.length : Int) + 1))).1.fNext, .own 5] 25 false]⟩ (by kernel_rfl) hn (by kernel_rfl) (by rfl) (by kernel_rfl) ?_ (by kernel_rfl) ?_
    · exact ⟨.mt ⟨[(1, .sv (.one (.ptr 0 0)))], []⟩ [] none (by kernel_rfl) (by rfl) (mt_ev ht (by kernel_rfl)) rfl rfl rfl rfl,
    .mt ⟨[(27, .sv (.one (.ptr 0 0)))], [.box [I d.fLetters, I d.fStart, LS (lsT intT) d.fNext, LS intT d.fMark] 25 true]⟩ [] none (by kernel_rfl) (by rfl) (mt_ev ht (by kernel_rfl)) rfl rfl rfl rfl,
    .mt ⟨[(3, .sv (.one (.ptr 2 0)))], [.gone, .gone, .box [LS intT r] 23 true]⟩ [] none (by kernel_rfl) (by rfl) (mt_ev ht (by kernel_rfl)) rfl rfl rfl rfl,
    .mt ⟨[(1, .sv (.one (.ptr 0 0)))], []⟩ [] none (by kernel_rfl) (by rfl) (mt_ev ht (by kernel_rfl)) rfl rfl rfl rfl,
    .mt ⟨[(30, .sv (.one (.ptr 0 1)))], [.box [I d.fLetters, I d.fStart, LS (lsT intT) d.fNext, LS intT d.fMark] 25 true]⟩ [] none (by kernel_rfl) (by rfl) (mt_ev ht (by kernel_rfl)) rfl rfl rfl rfl,
    .mt ⟨[(29, .sv (.one (LS intT r))), (31, .sv (.one (I d.fStart)))], []⟩ [] none (by kernel_rfl) (by rfl) (mt_val (val_index (T := intT) (l := r) (i := d.fStart) ht rfl (by rfl) (by rfl) (by rfl) (by rfl) (by rfl) (by rfl) he_3)) rfl rfl rfl rfl,
    .mt ⟨[(32, .sv (.one (.pe (svR (.one (I e_3))) 1)))], []⟩ [] none (by kernel_rfl) (by rfl) (mt_val (val_load (s := .one (I e_3)) ht rfl (by rfl) (by rfl) (by rfl) (by rfl) (by rfl))) rfl rfl rfl rfl,
    .mt ⟨[(1, .sv (.one (.ptr 0 0))), (3, .sv (.one (.ptr 2 0))), (4, .sv (.one (.ptr 4 0)))], [.box [I d.fLetters, I d.fStart, LS (lsT intT) d.fNext, LS intT d.fMark] 25 true, .gone, .box [LS intT r] 23 true, .gone, .box [LS intT l3] 23 true]⟩ [] none (by kernel_rfl) (by rfl) (mt_fv (x := .sv (.one (.fn 116 [2, 0, 4]))) ht (by kernel_rfl) (fv_of (M := [.box [LS intT r] 23 true, .box [I d.fLetters, I d.fStart, LS (lsT intT) d.fNext, LS intT d.fMark] 25 true, .box [LS intT l3] 23 true]) (caps := [2, 0, 4]) (fun x_ hx => smGo_ct x_.1 x_.2 r d l3 hx) en116 rfl (by kernel_rfl) (by rfl) (fun _ => rfl))) rfl rfl rfl rfl,
    .mt ⟨[(1, .sv (.one (.ptr 0 0))), (4, .sv (.one (.ptr 4 0)))], [.box [I d.fLetters, I d.fStart, LS (lsT intT) d.fNext, LS intT d.fMark] 25 true, .gone, .gone, .gone, .box [LS intT l3] 23 true]⟩ [] none (by kernel_rfl) (by rfl) (mt_fv (x := .sv (.one (.fn 117 [0, 4]))) ht (by kernel_rfl) (fv_of (M := [.box [I d.fLetters, I d.fStart, LS (lsT intT) d.fNext, LS intT d.fMark] 25 true, .box [LS intT l3] 23 true]) (caps := [0, 4]) (fun x_ hx => smMark_ct x_ d l3 hx) en117 rfl (by kernel_rfl) (by rfl) (fun _ => rfl))) rfl rfl rfl rfl,
    .mt ⟨[(3, .sv (.one (.ptr 2 0)))], [.gone, .gone, .box [LS intT r] 23 true]⟩ [] none (by kernel_rfl) (by rfl) (mt_ev ht (by kernel_rfl)) rfl rfl rfl rfl,
    .mt ⟨[(36, .sv (.one (LS intT r)))], []⟩ [] none (by kernel_rfl) (by rfl) (mt_ev ht (by kernel_rfl)) rfl rfl rfl rfl,
    .mt ⟨[(37, .sv (.one (I (r.length : Int))))], []⟩ [] none (by kernel_rfl) (by rfl) (mt_ev ht (by kernel_rfl)) rfl rfl rfl rfl,
    .mt ⟨[(28, .sv (.one (I d.fLetters))), (33, .sv (.one (I e_3))), (34, .sv (.one (.rd (fvR (fun (x_ : (Int × Int)) => [.sv (.one (I x_.1)), .sv (.one (I x_.2))]) (fun (r : Int) => .sv (.one (I r))) (fun (x : Int × Int) => smDom r d l3 x.1 x.2) (fun (x : Int × Int) => smGo r d l3 x.1 x.2))))), (35, .sv (.one (.rd (fvR (fun (x_ : Int) => [.sv (.one (I x_))]) (fun (r : Int) => .sv (.one (I r))) (smMarkDom d l3) (smMark d l3))))), (38, .sv (.one (I (wr ((r.length : Int) + 1)))))], []⟩ [] (some 5) (by kernel_rfl) (by rfl) (mt_callS (x := .tup [.agg [I (explR (fun k (a : Nat) => (fun (x : Int × Int) => smGo r d l3 x.1 x.2) (k, (a : Int))) (smMark d l3) (d.fLetters).toNat e_3 (wr ((r.length : Int) + 1))).1.fLetters, I (explR (fun k (a : Nat) => (fun (x : Int × Int) => smGo r d l3 x.1 x.2) (k, (a : Int))) (smMark d l3) (d.fLetters).toNat e_3 (wr ((r.length : Int) + 1))).1.fStart, LS (lsT intT) (explR (fun k (a : Nat) => (fun (x : Int × Int) => smGo r d l3 x.1 x.2) (k, (a : Int))) (smMark d l3) (d.fLetters).toNat e_3 (wr ((r.length : Int) + 1))).1.fNext, .own 5], .one (B (explR (fun k (a : Nat) => (fun (x : Int × Int) => smGo r d l3 x.1 x.2) (k, (a : Int))) (smMark d l3) (d.fLetters).toNat e_3 (wr ((r.length : Int) + 1))).2)]) 5 (exploreOwn_ct d.fLetters e_3 (fun (x : Int × Int) => smDom r d l3 x.1 x.2) (fun (x : Int × Int) => smGo r d l3 x.1 x.2) (smMarkDom d l3) (smMark d l3) (wr ((r.length : Int) + 1)) hp_2) en94 (caps := []) [] rfl (by rfl) rfl (by rfl) (by kernel_rfl) (by kernel_rfl) (by rfl) (by rfl)) rfl rfl rfl rfl,
    .mt ⟨[(39, .tup [.agg [I (explR (fun k (a : Nat) => (fun (x : Int × Int) => smGo r d l3 x.1 x.2) (k, (a : Int))) (smMark d l3) (d.fLetters).toNat e_3 (wr ((r.length : Int) + 1))).1.fLetters, I (explR (fun k (a : Nat) => (fun (x : Int × Int) => smGo r d l3 x.1 x.2) (k, (a : Int))) (smMark d l3) (d.fLetters).toNat e_3 (wr ((r.length : Int) + 1))).1.fStart, LS (lsT intT) (explR (fun k (a : Nat) => (fun (x : Int × Int) => smGo r d l3 x.1 x.2) (k, (a : Int))) (smMark d l3) (d.fLetters).toNat e_3 (wr ((r.length : Int) + 1))).1.fNext, .own 5], .one (B (explR (fun k (a : Nat) => (fun (x : Int × Int) => smGo r d l3 x.1 x.2) (k, (a : Int))) (smMark d l3) (d.fLetters).toNat e_3 (wr ((r.length : Int) + 1))).2)])], []⟩ [] none (by kernel_rfl) (by rfl) (mt_ev ht (by kernel_rfl)) rfl rfl rfl rfl,
    .mt ⟨[(26, .tup [.agg [I (explR (fun k (a : Nat) => (fun (x : Int × Int) => smGo r d l3 x.1 x.2) (k, (a : Int))) (smMark d l3) (d.fLetters).toNat e_3 (wr ((r.length : Int) + 1))).1.fLetters, I (explR (fun k (a : Nat) => (fun (x : Int × Int) => smGo r d l3 x.1 x.2) (k, (a : Int))) (smMark d l3) (d.fLetters).toNat e_3 (wr ((r.length : Int) + 1))).1.fStart, LS (lsT intT) (explR (fun k (a : Nat) => (fun (x : Int × Int) => smGo r d l3 x.1 x.2) (k, (a : Int))) (smMark d l3) (d.fLetters).toNat e_3 (wr ((r.length : Int) + 1))).1.fNext, .own 5], .one (B (explR (fun k (a : Nat) => (fun (x : Int × Int) => smGo r d l3 x.1 x.2) (k, (a : Int))) (smMark d l3) (d.fLetters).toNat e_3 (wr ((r.length : Int) + 1))).2)])], []⟩ [] none (by kernel_rfl) (by rfl) (mt_ev ht (by kernel_rfl)) rfl rfl rfl rfl,
    .mt ⟨[(26, .tup [.agg [I (explR (fun k (a : Nat) => (fun (x : Int × Int) => smGo r d l3 x.1 x.2) (k, (a : Int))) (smMark d l3) (d.fLetters).toNat e_3 (wr ((r.length : Int) + 1))).1.fLetters, I (explR (fun k (a : Nat) => (fun (x : Int × Int) => smGo r d l3 x.1 x.2) (k, (a : Int))) (smMark d l3) (d.fLetters).toNat e_3 (wr ((r.length : Int) + 1))).1.fStart, LS (lsT intT) (explR (fun k (a : Nat) => (fun (x : Int × Int) => smGo r d l3 x.1 x.2) (k, (a : Int))) (smMark d l3) (d.fLetters).toNat e_3 (wr ((r.length : Int) + 1))).1.fNext, .own 5], .one (B (explR (fun k (a : Nat) => (fun (x : Int × Int) => smGo r d l3 x.1 x.2) (k, (a : Int))) (smMark d l3) (d.fLetters).toNat e_3 (wr ((r.length : Int) + 1))).2)])], []⟩ [] none (by kernel_rfl) (by rfl) (mt_ev ht (by kernel_rfl)) rfl rfl rfl rfl,
    .mt ⟨[], []⟩ [] (some 6) (by kernel_rfl) (by rfl) (mt_alloc2 6 25 ht rfl (by rfl) (by rfl)) rfl rfl rfl rfl,
    .mu ⟨[(7, .sv (.one (.ptr 6 0))), (40, .sv (.agg [I (explR (fun k (a : Nat) => (fun (x : Int × Int) => smGo r d l3 x.1 x.2) (k, (a : Int))) (smMark d l3) (d.fLetters).toNat e_3 (wr ((r.length : Int) + 1))).1.fLetters, I (explR (fun k (a : Nat) => (fun (x : Int × Int) => smGo r d l3 x.1 x.2) (k, (a : Int))) (smMark d l3) (d.fLetters).toNat e_3 (wr ((r.length : Int) + 1))).1.fStart, LS (lsT intT) (explR (fun k (a : Nat) => (fun (x : Int × Int) => smGo r d l3 x.1 x.2) (k, (a : Int))) (smMark d l3) (d.fLetters).toNat e_3 (wr ((r.length : Int) + 1))).1.fNext, .own 5]))], [.gone, .gone, .gone, .gone, .gone, .gone, .box [I 0, I 0, .v (.slice none 0 0), .v (.slice none 0 0)] 25 false]⟩ 6 _ _ rfl rfl (by kernel_rfl) (by rfl) (mu_store2 ht rfl (by rfl) (by rfl) (by rfl) (by rfl) (fun h => by cases h) (by rfl) (by rfl)) rfl rfl rfl rfl rfl rfl rfl,
    .mt ⟨[(41, .sv (.one (B (explR (fun k (a : Nat) => (fun (x : Int × Int) => smGo r d l3 x.1 x.2) (k, (a : Int))) (smMark d l3) (d.fLetters).toNat e_3 (wr ((r.length : Int) + 1))).2)))], []⟩ [] none (by kernel_rfl) (by rfl) (mt_ev ht (by kernel_rfl)) rfl rfl rfl rfl,
    trivial⟩
    · refine En.seq ?_
      refine En.region ?_
      refine WL.run ht hn 2 ⟨[(2, .sv (.one (.ptr 1 0)))], [.gone, .box [I (explR (fun k (a : Nat) => (fun (x : Int × Int) => smGo r d l3 x.1 x.2) (k, (a : Int))) (smMark d l3) (d.fLetters).toNat e_3 (wr ((r.length : Int) + 1))).1.fLetters, I (explR (fun k (a : Nat) => (fun (x : Int × Int) => smGo r d l3 x.1 x.2) (k, (a : Int))) (smMark d l3) (d.fLetters).toNat e_3 (wr ((r.length : Int) + 1))).1.fStart, LS (lsT intT) (explR (fun k (a : Nat) => (fun (x : Int × Int) => smGo r d l3 x.1 x.2) (k, (a : Int))) (smMark d l3) (d.fLetters).toNat e_3 (wr ((r.length : Int) + 1))).1.fNext, .own 5] 25 false, .gone, .gone, .gone, rowI 3 intT (explR (fun k (a : Nat) => (fun (x : Int × Int) => smGo r d l3 x.1 x.2) (k, (a : Int))) (smMark d l3) (d.fLetters).toNat e_3 (wr ((r.length : Int) + 1))).1.fMark, .gone]⟩ (by kernel_rfl) ?_
      refine WL.nil ?_
      refine En.ret ?_
      exact En.backS ht 5 (explR (fun k (a : Nat) => (fun (x : Int × Int) => smGo r d l3 x.1 x.2) (k, (a : Int))) (smMark d l3) (d.fLetters).toNat e_3 (wr ((r.length : Int) + 1))).1 hmay h (by kernel_rfl) (by rfl) rfl rfl
end Go.Proofs.Ytiinkohfldopbaa

/- The contract of det.Smallest: it is the one automaton of its language. No condition. -/
namespace Go.Proofs.Ytiinkohfldopbaa
open Go.RowKit Go.MapKept
set_option linter.unusedSimpArgs false
set_option linter.unusedVariables false
set_option maxRecDepth 100000
set_option linter.unusedSectionVars false

/-- of each class one of its states -/
def BackOk (cls back : List Int) (n : Nat) : Prop := back.length = n ∧ ∀ q, q < n → ∃ p : Nat, p < n ∧ back.getD (cls.getD q 0).toNat 0 = (p : Int) ∧ cls.getD p 0 = cls.getD q 0
section
variable {d : ApiDet} {cls back : List Int}
theorem smGo_at (hb : BackOk cls back d.fNext.length) {q : Nat} (hq : q < d.fNext.length) : ∃ p : Nat, p < d.fNext.length ∧ cls.getD p 0 = cls.getD q 0 ∧ (∀ a : Nat, smGo cls d back (cls.getD q 0) a = cls.getD (stepD d p a) 0) ∧ smMark d back (cls.getD q 0) = d.fMark.getD p 0 := by
  obtain ⟨p, h1, h2, h3⟩ := hb.2 q hq
  refine ⟨p, h1, h3, fun a => ?_, ?_⟩
  · unfold smGo stepD
    rw [h2, Int.toNat_natCast, Int.toNat_natCast]
  · unfold smMark
    rw [h2, Int.toNat_natCast]
theorem smLang (h : ClsOk d) (hc : IsClass d cls) (hb : BackOk cls back d.fNext.length) : ∀ (w : List Nat) (q : Nat), q < d.fNext.length → (∀ a ∈ w, a < d.fLetters.toNat) → langK (fun k (a : Nat) => smGo cls d back k (a : Int)) (smMark d back) (cls.getD q 0) w = langD d q w := by
  intro w
  induction w with
  | nil =>
    intro q hq _
    obtain ⟨p, h1, h2, _, h4⟩ := smGo_at hb hq
    show smMark d back (cls.getD q 0) = d.fMark.getD q 0
    rw [h4]
    exact rs_at (w := []) ((hc.same p q h1 hq).1 h2) fun b hb => by simp at hb
  | cons a w ih =>
    intro q hq hw
    obtain ⟨p, h1, h2, h3, _⟩ := smGo_at hb hq
    show langK (fun k (a : Nat) => smGo cls d back k (a : Int)) (smMark d back) (smGo cls d back (cls.getD q 0) a) w = _
    rw [h3, ih (stepD d p a) (h.pre.step h1) fun b hb => hw b (List.mem_cons_of_mem _ hb)]
    exact rs_at (w := a :: w) ((hc.same p q h1 hq).1 h2) hw
theorem smKeys (h : ClsOk d) (hc : IsClass d cls) (hb : BackOk cls back d.fNext.length) {k : Int} (hk : k ∈ cls) (a : Nat) : smGo cls d back k a ∈ cls := by
  obtain ⟨q, hq⟩ := List.getElem?_of_mem hk
  have hlt := (List.getElem?_eq_some_iff.1 hq).1
  rw [hc.len] at hlt
  obtain ⟨p, h1, _, h3, _⟩ := smGo_at (cls := cls) hb hlt
  rw [show k = cls.getD q 0 by simp [hq], h3]
  exact getD_mem (by rw [hc.len]; exact h.pre.step h1)
theorem smCanon (h : ClsOk d) (hc : IsClass d cls) (hb : BackOk cls back d.fNext.length) {q : Nat} (hq : q < d.fNext.length) (limit : Int) (hl : (cls.length : Int) ≤ limit) :
    explR (fun k (a : Nat) => smGo cls d back k (a : Int)) (smMark d back) d.fLetters.toNat (cls.getD q 0) limit = (canon d.fLetters.toNat (langD d q), true) := by
  have h0 : cls.getD q 0 ∈ cls := getD_mem (by rw [hc.len]; exact hq)
  rw [explR_ends h0 (fun k a hk _ => smKeys h hc hb hk a) hl]
  congr 1
  rw [canon_of (P := fun k => k ∈ cls) h0 (fun k a hk _ => smKeys h hc hb hk a) ?_]
  · exact canon_congr fun w hw => smLang h hc hb w q hq hw
  · intro x y hx hy e
    obtain ⟨p, hp⟩ := List.getElem?_of_mem hx
    obtain ⟨s, hs⟩ := List.getElem?_of_mem hy
    have hpl := (List.getElem?_eq_some_iff.1 hp).1
    have hsl := (List.getElem?_eq_some_iff.1 hs).1
    rw [hc.len] at hpl hsl
    have ex : x = cls.getD p 0 := by simp [hp]
    have ey : y = cls.getD s 0 := by simp [hs]
    rw [ex, ey] at e ⊢
    refine (hc.same p s hpl hsl).2 (rs_congr fun w hw => ?_)
    rw [← smLang h hc hb w p hpl hw, ← smLang h hc hb w s hsl hw]
    exact rs_at e hw
theorem smDom_at (h : ClsOk d) (hc : IsClass d cls) (hb : BackOk cls back d.fNext.length) {k : Int} (hk : k ∈ cls) : (∀ a : Nat, (a : Int) < d.fLetters → smDom cls d back k a) ∧ smMarkDom d back k := by
  obtain ⟨q, hq⟩ := List.getElem?_of_mem hk
  have hlt := (List.getElem?_eq_some_iff.1 hq).1
  rw [hc.len] at hlt
  obtain ⟨p, h1, h2, h3⟩ := hb.2 q hlt
  have hkr := hc.range k hk
  have ek : k = cls.getD q 0 := by simp [hq]
  rw [← ek] at h2
  have hb1 := hb.1
  have hrow := h.wf.rows _ (getD_mem (l := d.fNext) (z := []) h1)
  have hlet := h.wf.letters
  refine ⟨fun a ha => ?_, ?_⟩
  · unfold smDom
    rw [h2, Int.toNat_natCast, Int.toNat_natCast, hrow]
    have hn := h.wf.next _ (getD_mem (l := d.fNext) (z := []) h1) _ (getD_mem (l := d.fNext.getD p []) (i := a) (z := 0) (by omega))
    rw [hc.len]
    omega
  · unfold smMarkDom
    rw [h2, h.wf.mark]
    omega
end
theorem smallest_plain (d : ApiDet) (h : ClsOk d) : smallest_vc d (fun r => r = canon d.fLetters.toNat (langD d d.fStart.toNat)) := by
  intro _ _
  have hsz := h.size
  refine ⟨h, fun cls hc => ⟨⟨by omega, Int.le_refl _, by rw [hc.len]; omega⟩, fun x l => ∃ k : Nat, x = k ∧ k ≤ cls.length ∧ l.length = cls.length ∧ ∀ q, q < k → ∃ p : Nat, p < cls.length ∧ l.getD (cls.getD q 0).toNat 0 = (p : Int) ∧ cls.getD p 0 = cls.getD q 0, fun x _ => cls.length - x.toNat,
    ⟨0, rfl, Nat.zero_le _, by simp, fun q hq => absurd hq (Nat.not_lt_zero _)⟩, ?_⟩⟩
  rintro x l ⟨k, rfl, hk, hl, hg⟩
  refine ⟨fun hb => ?_, fun hb => ?_⟩
  · have hlt : k < cls.length := by
      have := of_decide_eq_true hb
      omega
    have hr := hc.range _ (getD_mem (z := 0) hlt)
    have hcl := hc.len
    refine ⟨cls.getD k 0, by rw [idx_getD 0 (by omega) (by omega), Int.toNat_natCast], l.getD (cls.getD k 0).toNat 0, idx_getD 0 hr.1 (by omega), ⟨k + 1, ?_, hlt, by simp [hl], fun q hq => ?_⟩, ?_⟩
    · rw [wr_in (by omega) (by omega)]
      omega
    · by_cases e : cls.getD q 0 = cls.getD k 0
      · refine ⟨k, hlt, ?_, e.symm⟩
        rw [e]
        have : (l.set (cls.getD k 0).toNat (k : Int))[(cls.getD k 0).toNat]? = some (k : Int) := List.getElem?_set_self (by omega)
        rw [List.getD_eq_getElem?_getD, this]
        rfl
      · have hqk : q < k := by
          rcases Nat.lt_or_ge q k with h | h
          · exact h
          · exact absurd (by rw [show q = k by omega]) e
        obtain ⟨p, h1, h2, h3⟩ := hg q hqk
        refine ⟨p, h1, ?_, h3⟩
        have hrq := hc.range _ (getD_mem (l := cls) (i := q) (z := 0) (by omega))
        rw [List.getD_eq_getElem?_getD, List.getElem?_set_ne (by omega), ← List.getD_eq_getElem?_getD]
        exact h2
    · rw [wr_in (by omega) (by omega)]
      simp only
      omega
  · have hke : k = cls.length := by
      have := of_decide_eq_false hb
      omega
    subst hke
    have hst := h.wf.start
    have hback : BackOk cls l d.fNext.length := ⟨by rw [hl, hc.len], by rw [← hc.len]; exact hg⟩
    have hcl := hc.len
    have h0 : cls.getD d.fStart.toNat 0 ∈ cls := getD_mem (by omega)
    refine ⟨cls.getD d.fStart.toNat 0, idx_getD 0 hst.1 (by omega), ⟨⟨h.wf.letters, h.wide⟩, ?_, fun k => k ∈ cls, h0, fun k a hk ha => ⟨(smDom_at h hc hback hk).1 a ha, smKeys h hc hback hk a⟩, fun k hk => (smDom_at h hc hback hk).2⟩, ?_⟩
    · rw [wr_in (by omega) (by omega)]
      omega
    · rw [wr_in (by omega) (by omega)]
      have := smCanon h hc hback (q := d.fStart.toNat) (by omega) ((cls.length : Int) + 1) (by omega)
      exact congrArg Prod.fst this
theorem smallest_ct (d : ApiDet) (h : ClsOk d) : Ct 45 [.sv (.agg [I d.fLetters, I d.fStart, LS (lsT intT) d.fNext, LS intT d.fMark])] [] (fun (_ : Unit) => True) (fun _ => .sv (.agg [I (canon d.fLetters.toNat (langD d d.fStart.toNat)).fLetters, I (canon d.fLetters.toNat (langD d d.fStart.toNat)).fStart, LS (lsT intT) (canon d.fLetters.toNat (langD d d.fStart.toNat)).fNext, LS intT (canon d.fLetters.toNat (langD d d.fStart.toNat)).fMark])) :=
  (smallest_walk d (fun r => r = canon d.fLetters.toNat (langD d d.fStart.toNat)) (smallest_plain d h)).fun
theorem smallestOwn_ct (d : ApiDet) (h : ClsOk d) : CtS 45 [.sv (.agg [I d.fLetters, I d.fStart, LS (lsT intT) d.fNext, LS intT d.fMark])] [] (fun (_ : Unit) => True) (fun _ => .sv (.agg [I (canon d.fLetters.toNat (langD d d.fStart.toNat)).fLetters, I (canon d.fLetters.toNat (langD d d.fStart.toNat)).fStart, LS (lsT intT) (canon d.fLetters.toNat (langD d d.fStart.toNat)).fNext, .own 0])) (fun _ => rowI 3 intT (canon d.fLetters.toNat (langD d d.fStart.toNat)).fMark) :=
  (smallestOwn_walk d (fun r => r = canon d.fLetters.toNat (langD d d.fStart.toNat)) (smallest_plain d h)).fun
end Go.Proofs.Ytiinkohfldopbaa

/- Plain laws of sets that stand as bits of a number. No condition. -/
namespace Go.Proofs.Ytiinkohfldopbaa
open Go.RowKit Go.MapKept
set_option linter.unusedSimpArgs false
set_option linter.unusedVariables false
set_option maxRecDepth 100000

theorem wr_j : ∀ n : Int, 0 ≤ n → n < 2 ^ 62 → IntKind.i64.wrap n = n := fun n h0 h1 => wr_in (by omega) (by omega)
theorem band {a b : Nat} (ha : a < 2 ^ 62) (hb : b < 2 ^ 62) : bitsI .and .i64 (a : Int) (b : Int) = ((a &&& b : Nat) : Int) := (bits_nat .i64 62 (by decide) wr_j a b ha hb).1
theorem bor {a b : Nat} (ha : a < 2 ^ 62) (hb : b < 2 ^ 62) : bitsI .or .i64 (a : Int) (b : Int) = ((a ||| b : Nat) : Int) := (bits_nat .i64 62 (by decide) wr_j a b ha hb).2
theorem bandNot {a b : Nat} (ha : a < 2 ^ 62) (hb : b < 2 ^ 62) : bitsI .andNot .i64 (a : Int) (b : Int) = ((a ^^^ (a &&& b) : Nat) : Int) := by
  have key : (BitVec.ofInt 64 (a : Int) &&& ~~~(BitVec.ofInt 64 (b : Int))).toNat = a ^^^ (a &&& b) := by
    refine Nat.eq_of_testBit_eq fun i => ?_
    rw [BitVec.testBit_toNat, BitVec.getLsbD_and, BitVec.getLsbD_not, BitVec.ofInt_natCast, BitVec.ofInt_natCast, BitVec.getLsbD_ofNat, BitVec.getLsbD_ofNat, Nat.testBit_xor, Nat.testBit_and]
    by_cases hi : i < 64
    · simp only [hi, decide_true, Bool.true_and]
      cases a.testBit i <;> cases b.testBit i <;> rfl
    · have h1 : a.testBit i = false := Nat.testBit_lt_two_pow (Nat.lt_of_lt_of_le ha (Nat.pow_le_pow_right (by decide) (by omega)))
      simp [hi, h1]
  show IntKind.i64.wrap ((BitVec.ofInt 64 (a : Int) &&& ~~~(BitVec.ofInt 64 (b : Int))).toNat : Nat) = _
  rw [key]
  refine wr_j _ (Int.natCast_nonneg _) ?_
  have : a ^^^ (a &&& b) < 2 ^ 62 := Nat.xor_lt_two_pow ha (Nat.and_lt_two_pow _ hb)
  exact_mod_cast this
theorem bshr (a : Nat) {p : Nat} (hp : p ≤ 64) : Int.fdiv (a : Int) (2 ^ (min p 64)) = ((a >>> p : Nat) : Int) := by
  rw [Nat.min_eq_left hp, Nat.shiftRight_eq_div_pow, Int.fdiv_eq_ediv_of_nonneg _ (Int.pow_nonneg (by decide))]
  simp
theorem bshl {p : Nat} (hp : p < 62) : wr (1 * 2 ^ (min p 64)) = ((2 ^ p : Nat) : Int) := by
  rw [Nat.min_eq_left (by omega), Int.one_mul]
  have h : (2 : Nat) ^ p < 2 ^ 62 := Nat.pow_lt_pow_right (by decide) hp
  rw [show ((2 : Int) ^ p) = ((2 ^ p : Nat) : Int) by simp]
  exact wr_j _ (Int.natCast_nonneg _) (by exact_mod_cast h)
/-- is it in the set? -/
theorem btest {a p : Nat} (ha : a < 2 ^ 62) (hp : p ≤ 64) : bitsI .and .i64 (Int.fdiv (a : Int) (2 ^ (min p 64))) 1 = if a.testBit p then 1 else 0 := by
  rw [bshr a hp]
  have h1 : a >>> p < 2 ^ 62 := by
    rw [Nat.shiftRight_eq_div_pow]
    exact Nat.lt_of_le_of_lt (Nat.div_le_self _ _) ha
  have := band (a := a >>> p) (b := 1) h1 (by decide)
  rw [show ((1 : Nat) : Int) = 1 from rfl] at this
  rw [this]
  rw [Nat.and_one_is_mod, Nat.testBit_eq_decide_div_mod_eq, Nat.shiftRight_eq_div_pow]
  have := Nat.mod_two_eq_zero_or_one (a / 2 ^ p)
  rcases this with h | h <;> simp [h]
/-- the set of those below n that are so -/
def maskOf (f : Nat → Bool) : Nat → Nat
  | 0 => 0
  | n + 1 => bif f n then maskOf f n ||| 2 ^ n else maskOf f n
theorem maskOf_test (f : Nat → Bool) (i : Nat) : ∀ n, (maskOf f n).testBit i = (decide (i < n) && f i)
  | 0 => by simp [maskOf]
  | n + 1 => by
    have ih := maskOf_test f i n
    rw [maskOf]
    cases hf : f n with
    | true =>
      show (maskOf f n ||| 2 ^ n).testBit i = _
      rw [Nat.testBit_or, ih, Nat.testBit_two_pow]
      by_cases e : n = i
      · subst e; simp [hf]
      · by_cases h : i < n
        · simp [h, e, show i < n + 1 by omega]
        · simp [h, e, show ¬ i < n + 1 by omega]
    | false =>
      show (maskOf f n).testBit i = _
      rw [ih]
      by_cases e : i = n
      · subst e; simp [hf]
      · by_cases h : i < n
        · simp [h, show i < n + 1 by omega]
        · simp [h, show ¬ i < n + 1 by omega]
theorem maskOf_lt (f : Nat → Bool) : ∀ n, maskOf f n < 2 ^ n
  | 0 => by simp [maskOf]
  | n + 1 => by
    have ih := maskOf_lt f n
    have h1 : 2 ^ n < 2 ^ (n + 1) := Nat.pow_lt_pow_right (by decide) (by omega)
    rw [maskOf]
    cases f n with
    | true => exact Nat.or_lt_two_pow (by omega) h1
    | false => show maskOf f n < _; omega
theorem maskOf_lt62 (f : Nat → Bool) {n : Nat} (h : n ≤ 62) : maskOf f n < 2 ^ 62 := Nat.lt_of_lt_of_le (maskOf_lt f n) (Nat.pow_le_pow_right (by decide) h)
theorem maskOf_congr {f g : Nat → Bool} : ∀ {n : Nat}, (∀ i, i < n → f i = g i) → maskOf f n = maskOf g n
  | 0, _ => rfl
  | n + 1, h => by rw [maskOf, maskOf, h n (by omega), maskOf_congr fun i hi => h i (by omega)]
/-- one more, in the loop -/
theorem mask_or {f : Nat → Bool} {n : Nat} (hn : n < 62) (hf : f n = true) : bitsI .or .i64 (maskOf f n : Int) (wr (1 * 2 ^ (min n 64))) = (maskOf f (n + 1) : Int) := by
  have h : (2 : Nat) ^ n < 2 ^ 62 := Nat.pow_lt_pow_right (by decide) hn
  rw [bshl hn, bor (maskOf_lt62 f (by omega)) h, maskOf, hf]
  rfl
theorem mask_no {f : Nat → Bool} {n : Nat} (hf : f n = false) : maskOf f (n + 1) = maskOf f n := by
  rw [maskOf, hf]
  rfl
/-- is p in the set s? -/
def hasB (s p : Int) : Bool := s.toNat.testBit p.toNat
theorem btestI {s p : Int} (hs : 0 ≤ s ∧ s < 4611686018427387904) (hp : 0 ≤ p ∧ p ≤ 64) : bitsI .and .i64 (Int.fdiv s (2 ^ (min p.toNat 64))) 1 = if hasB s p then 1 else 0 := by
  obtain ⟨a, rfl⟩ := Int.eq_ofNat_of_zero_le hs.1
  obtain ⟨q, rfl⟩ := Int.eq_ofNat_of_zero_le hp.1
  unfold hasB
  rw [Int.toNat_natCast, Int.toNat_natCast]
  exact btest (by omega) (by omega)
theorem hasB_mask {f : Nat → Bool} {n : Nat} {p : Int} (h : 0 ≤ p) : hasB (maskOf f n : Int) p = (decide (p < (n : Int)) && f p.toNat) := by
  unfold hasB
  rw [Int.toNat_natCast, maskOf_test]
  congr 1
  rw [decide_eq_decide]
  omega
-- loops that count
theorem dlt {k n : Nat} (h : decide ((k : Int) < (n : Int)) = true) : k < n := by
  have := of_decide_eq_true h
  omega
theorem dge {k n : Nat} (h : decide ((k : Int) < (n : Int)) = false) : n ≤ k := by
  have := of_decide_eq_false h
  omega
theorem wsucc {k : Nat} (h : k < 4611686018427387904) : wr ((k : Int) + 1) = ((k + 1 : Nat) : Int) := by
  rw [wr_in (by omega) (by omega)]
  rfl
theorem mu_up {n k : Nat} (h : k < n) (hk : k < 4611686018427387904) : n - (wr ((k : Int) + 1)).toNat < n - (k : Int).toNat := by
  rw [wsucc hk, Int.toNat_natCast, Int.toNat_natCast]
  omega
theorem idx_at {α : Type} {l : List α} {k : Nat} (h : k < l.length) : idx l (k : Int) = some l[k] := by simp [idx, h]
theorem idx_of {α : Type} {l : List α} {i : Int} (z : α) (h0 : 0 ≤ i) (h1 : i < (l.length : Int)) : idx l i = some (l.getD i.toNat z) := by
  have h : i.toNat < l.length := by omega
  unfold idx
  rw [if_pos h0, List.getD_eq_getElem?_getD, List.getElem?_eq_getElem h]
  rfl
theorem take_any {α : Type} {l : List α} {k : Nat} (h : k < l.length) (f : α → Bool) : (l.take (k + 1)).any f = ((l.take k).any f || f l[k]) := by
  rw [List.take_add_one, List.any_append, List.getElem?_eq_getElem h]
  simp
theorem take_map {α β : Type} {l : List α} {k : Nat} (h : k < l.length) (f : α → β) : (l.take (k + 1)).map f = (l.take k).map f ++ [f l[k]] := by
  rw [List.take_add_one, List.map_append, List.getElem?_eq_getElem h]
  rfl
theorem capOk_of {n m b : Nat} (h : (n + m) * b ≤ 140737488355328) : capOk n m b := h
end Go.Proofs.Ytiinkohfldopbaa

/- What is to be known of automata of languages: that they may be, and what they say. No condition. -/
namespace Go.Proofs.Ytiinkohfldopbaa
open Go.RowKit Go.MapKept
set_option linter.unusedSimpArgs false
set_option linter.unusedVariables false
set_option maxRecDepth 100000
set_option linter.unusedSectionVars false

theorem foldl_der : ∀ (w : List Nat) (k : Lang) (u : List Nat), (w.foldl der k) u = k (w ++ u)
  | [], _, _ => rfl
  | a :: w, k, u => by
    rw [List.foldl_cons, foldl_der w]
    rfl
theorem langK_der (k : Lang) (w : List Nat) : langK der (fun r => r []) k w = k w := by
  show (w.foldl der k) [] = _
  rw [foldl_der, List.append_nil]
/-- facts of the automaton of a language that has few states -/
structure CanonOk (L : Nat) (r : Lang) (n : Nat) : Prop where
  wf : Wf (canon L r)
  letters : (canon L r).fLetters = L
  start : (canon L r).fStart = 0
  count : (canon L r).fNext.length ≤ n
  lang : ∀ w, (∀ a ∈ w, a < L) → langD (canon L r) 0 w = r w
  marks : ∀ m ∈ (canon L r).fMark, ∃ u, m = r u
theorem canon_vals {L : Nat} {r : Lang} : ∀ m ∈ (canon L r).fMark, ∃ u, m = r u := fun m hm => by
  unfold canon explD detOf at hm
  obtain ⟨k, hk, rfl⟩ := List.mem_map.1 hm
  obtain ⟨u, rfl⟩ := explL_in (P := fun s : Lang => ∃ u : List Nat, s = rs L (fun w => r (u ++ w))) ⟨[], rfl⟩ (by
    rintro k a ⟨u, rfl⟩ ha
    refine ⟨u ++ [a], ?_⟩
    rw [der_rs ha]
    refine rs_congr fun w _ => ?_
    show r (u ++ a :: w) = _
    rw [List.append_assoc]
    rfl) hk
  exact ⟨u, by simp [rs]⟩
/-- of keys in a list -/
theorem canonOk_keys {K : Type} {go : K → Nat → K} {mark : K → Int} {L : Nat} {k0 : K} {m : List K} (h0 : k0 ∈ m) (hP : ∀ k a, k ∈ m → a < L → go k a ∈ m) : CanonOk L (langK go mark k0) m.length := by
  have h1 : rs L (langK go mark k0) ∈ m.map fun k => rs L (langK go mark k) := List.mem_map.2 ⟨k0, h0, rfl⟩
  have h2 : ∀ s a, s ∈ (m.map fun k => rs L (langK go mark k)) → a < L → der s a ∈ m.map fun k => rs L (langK go mark k) := fun s a hs ha => by
    obtain ⟨k, hk, rfl⟩ := List.mem_map.1 hs
    exact List.mem_map.2 ⟨go k a, hP k a hk ha, by rw [der_rs ha]; rfl⟩
  have hc := explD_count (mark := fun r : Lang => r []) h1 h2
  rw [List.length_map] at hc
  refine ⟨explD_wf (mark := fun r : Lang => r []) h1 h2, rfl, rfl, hc, fun w hw => ?_, canon_vals⟩
  have := explD_lang (mark := fun r : Lang => r []) h1 h2 hw
  rw [langK_der] at this
  refine this.trans ?_
  unfold rs
  rw [if_pos hw]
theorem CanonOk.congr {L n : Nat} {r s : Lang} (h : CanonOk L r n) (e : ∀ w, (∀ a ∈ w, a < L) → r w = s w) : CanonOk L s n := by
  have hc := canon_congr e
  refine ⟨by rw [← hc]; exact h.wf, by rw [← hc]; exact h.letters, by rw [← hc]; exact h.start, by rw [← hc]; exact h.count, fun w hw => ?_, canon_vals⟩
  rw [← hc, h.lang w hw, e w hw]
theorem CanonOk.mono {L n k : Nat} {r : Lang} (h : CanonOk L r n) (hk : n ≤ k) : CanonOk L r k := ⟨h.wf, h.letters, h.start, Nat.le_trans h.count hk, h.lang, h.marks⟩
/-- of an automaton -/
theorem canonOk_det {d : ApiDet} (h : ClsPre d) {L q : Nat} (hq : q < d.fNext.length) : CanonOk L (langD d q) d.fNext.length := by
  have := canonOk_keys (go := stepD d) (mark := fun q => d.fMark.getD q 0) (L := L) (k0 := q) (m := List.range d.fNext.length) (List.mem_range.2 hq) fun k a hk _ => List.mem_range.2 (h.step (List.mem_range.1 hk))
  rw [List.length_range] at this
  exact this
/-- canonical forms of canonical forms -/
theorem canon_canon {L n : Nat} {r : Lang} (h : CanonOk L r n) : canon L (langD (canon L r) 0) = canon L r := canon_congr h.lang
end Go.Proofs.Ytiinkohfldopbaa

/- The plain law of words that stand in words: closings upwards and downwards. No condition. -/
namespace Go.Proofs.Ytiinkohfldopbaa
open Go.RowKit Go.MapKept
set_option linter.unusedSimpArgs false
set_option linter.unusedVariables false
set_option maxRecDepth 100000
set_option linter.unusedSectionVars false

def orS (s t : Int) : Int := ((s.toNat ||| t.toNat : Nat) : Int)
theorem orS_has {s t p : Int} : hasB (orS s t) p = (hasB s p || hasB t p) := by
  unfold hasB orS
  rw [Int.toNat_natCast, Nat.testBit_or]
/-- where a letter leads from a set of states -/
def stepS (d : ApiDet) (s a : Int) : Int := (maskOf (fun q => (List.range d.fNext.length).any fun p => hasB s (p : Int) && (stepD d p a.toNat == q)) d.fNext.length : Int)
section
variable {d : ApiDet}
theorem stepS_has {s a : Int} {q : Nat} : hasB (stepS d s a) (q : Int) = true ↔ q < d.fNext.length ∧ ∃ p, p < d.fNext.length ∧ hasB s (p : Int) = true ∧ stepD d p a.toNat = q := by
  unfold stepS
  rw [hasB_mask (by omega), Bool.and_eq_true, decide_eq_true_eq, Int.toNat_natCast, List.any_eq_true]
  refine and_congr (by omega) ⟨?_, ?_⟩
  · rintro ⟨p, hp, h⟩
    rw [Bool.and_eq_true, beq_iff_eq] at h
    exact ⟨p, List.mem_range.1 hp, h.1, h.2⟩
  · rintro ⟨p, hp, h1, h2⟩
    exact ⟨p, List.mem_range.2 hp, by rw [Bool.and_eq_true, beq_iff_eq]; exact ⟨h1, h2⟩⟩
/-- the set goes on to hold what it held -/
theorem up_run (hd : ClsPre d) : ∀ (w : List Nat) (s : Int) (q : Nat), (∀ p : Nat, hasB s (p : Int) = true → p < d.fNext.length) → (hasB (w.foldl (fun s (a : Nat) => orS s (stepS d s (a : Int))) s) (q : Int) = true ↔ ∃ p : Nat, hasB s (p : Int) = true ∧ ∃ u : List Nat, u.Sublist w ∧ u.foldl (stepD d) p = q)
  | [], s, q, hs => by
    constructor
    · exact fun h => ⟨q, h, [], List.Sublist.refl _, rfl⟩
    · rintro ⟨p, hp, u, hu, rfl⟩
      rw [List.sublist_nil.1 hu]
      exact hp
  | a :: w, s, q, hs => by
    have hs' : ∀ p : Nat, hasB (orS s (stepS d s (a : Int))) (p : Int) = true → p < d.fNext.length := fun p hp => by
      rw [orS_has, Bool.or_eq_true] at hp
      rcases hp with hp | hp
      · exact hs p hp
      · exact (stepS_has.1 hp).1
    rw [List.foldl_cons, up_run hd w _ q hs']
    constructor
    · rintro ⟨p, hp, u, hu, e⟩
      rw [orS_has, Bool.or_eq_true] at hp
      rcases hp with hp | hp
      · exact ⟨p, hp, u, hu.cons a, e⟩
      · obtain ⟨_, p0, _, h2, h3⟩ := stepS_has.1 hp
        rw [Int.toNat_natCast] at h3
        exact ⟨p0, h2, a :: u, hu.cons_cons a, by rw [List.foldl_cons, h3]; exact e⟩
    · rintro ⟨p, hp, u, hu, e⟩
      cases hu with
      | cons _ hu => exact ⟨p, by rw [orS_has, hp]; rfl, u, hu, e⟩
      | cons_cons _ hu =>
        rename_i u
        refine ⟨stepD d p a, ?_, u, hu, e⟩
        rw [orS_has, Bool.or_eq_true]
        exact .inr (stepS_has.2 ⟨hd.step (hs p hp), p, hs p hp, hp, by rw [Int.toNat_natCast]⟩)
open Classical in
/-- all states that can be come to from a set -/
noncomputable def clo (d : ApiDet) (L : Nat) (s : Int) : Int := (maskOf (fun q => decide (∃ p : Nat, p < d.fNext.length ∧ hasB s (p : Int) = true ∧ ∃ v : List Nat, (∀ a ∈ v, a < L) ∧ v.foldl (stepD d) p = q)) d.fNext.length : Int)
theorem run_lt (hd : ClsPre d) : ∀ (v : List Nat) {p : Nat}, p < d.fNext.length → v.foldl (stepD d) p < d.fNext.length
  | [], _, h => h
  | _ :: v, _, h => run_lt hd v (hd.step h)
open Classical in
theorem clo_has (hd : ClsPre d) {L : Nat} {s : Int} {q : Nat} : hasB (clo d L s) (q : Int) = true ↔ ∃ p : Nat, p < d.fNext.length ∧ hasB s (p : Int) = true ∧ ∃ v : List Nat, (∀ a ∈ v, a < L) ∧ v.foldl (stepD d) p = q := by
  unfold clo
  rw [hasB_mask (by omega), Bool.and_eq_true, decide_eq_true_eq, Int.toNat_natCast, decide_eq_true_eq]
  constructor
  · exact fun h => h.2
  · rintro ⟨p, hp, h1, v, h2, rfl⟩
    exact ⟨by have := run_lt hd v hp; omega, p, hp, h1, v, h2, rfl⟩
/-- a set that nothing leads out of -/
def shutS (d : ApiDet) (L : Nat) (s : Int) : Prop := (∀ p : Nat, hasB s (p : Int) = true → p < d.fNext.length) ∧ ∀ (p : Nat) (v : List Nat), hasB s (p : Int) = true → (∀ a ∈ v, a < L) → hasB s (v.foldl (stepD d) p : Nat) = true
theorem clo_shut (hd : ClsPre d) {L : Nat} {s : Int} : shutS d L (clo d L s) := by
  refine ⟨fun p hp => ?_, fun p v hp hv => ?_⟩
  · obtain ⟨q, h1, _, u, _, rfl⟩ := (clo_has hd).1 hp
    exact run_lt hd u h1
  · obtain ⟨q, h1, h2, u, h3, rfl⟩ := (clo_has hd).1 hp
    refine (clo_has hd).2 ⟨q, h1, h2, u ++ v, fun a ha => ?_, by rw [List.foldl_append]⟩
    rcases List.mem_append.1 ha with h | h
    · exact h3 a h
    · exact hv a h
theorem down_run (hd : ClsPre d) {L : Nat} : ∀ (w : List Nat) (s : Int) (q : Nat), (∀ a ∈ w, a < L) → shutS d L s → (hasB (w.foldl (fun s (a : Nat) => clo d L (stepS d s (a : Int))) s) (q : Int) = true ↔ ∃ p : Nat, hasB s (p : Int) = true ∧ ∃ v : List Nat, (∀ a ∈ v, a < L) ∧ w.Sublist v ∧ v.foldl (stepD d) p = q)
  | [], s, q, _, hs => by
    constructor
    · exact fun h => ⟨q, h, [], (fun a h => by simp at h), List.Sublist.refl _, rfl⟩
    · rintro ⟨p, hp, v, hv, _, rfl⟩
      exact hs.2 p v hp hv
  | a :: w, s, q, hw, hs => by
    have ha := hw a List.mem_cons_self
    rw [List.foldl_cons, down_run hd w _ q (fun b hb => hw b (List.mem_cons_of_mem _ hb)) (clo_shut hd)]
    constructor
    · rintro ⟨p, hp, v, hv, hwv, e⟩
      obtain ⟨p1, h1, h2, x, hx, rfl⟩ := (clo_has hd).1 hp
      obtain ⟨_, p0, h4, h5, h6⟩ := stepS_has.1 h2
      rw [Int.toNat_natCast] at h6
      refine ⟨p0, h5, a :: (x ++ v), fun b hb => ?_, (hwv.trans (List.sublist_append_right x v)).cons_cons a, ?_⟩
      · rcases List.mem_cons.1 hb with rfl | hb
        · exact ha
        · rcases List.mem_append.1 hb with hb | hb
          · exact hx b hb
          · exact hv b hb
      · rw [List.foldl_cons, h6, List.foldl_append]
        exact e
    · rintro ⟨p, hp, v, hv, hwv, rfl⟩
      obtain ⟨y, z, rfl, hz⟩ : ∃ y z, v = y ++ a :: z ∧ w.Sublist z := by
        clear hv
        generalize hl : a :: w = l at hwv
        induction hwv with
        | slnil => cases hl
        | cons b h ih =>
          obtain ⟨y, z, rfl, hz⟩ := ih hl
          exact ⟨b :: y, z, rfl, hz⟩
        | cons_cons b h ih =>
          cases hl
          exact ⟨[], _, rfl, h⟩
      have hy := hs.2 p y hp fun b hb => hv b (List.mem_append_left _ hb)
      have hyn := hs.1 _ hy
      refine ⟨stepD d (y.foldl (stepD d) p) a, (clo_has hd).2 ⟨_, hd.step hyn, stepS_has.2 ⟨hd.step hyn, _, hyn, hy, by rw [Int.toNat_natCast]⟩, [], (fun b hb => by simp at hb), rfl⟩, z, fun b hb => hv b (List.mem_append_right _ (List.mem_cons_of_mem _ hb)), hz, ?_⟩
      rw [List.foldl_append, List.foldl_cons]
open Classical in
noncomputable def upLang (d : ApiDet) : Lang := fun w => if ∃ u : List Nat, u.Sublist w ∧ langD d d.fStart.toNat u = 1 then 1 else 0
open Classical in
noncomputable def downLang (d : ApiDet) (L : Nat) : Lang := fun w => if ∃ v : List Nat, (∀ a ∈ v, a < L) ∧ w.Sublist v ∧ langD d d.fStart.toNat v = 1 then 1 else 0
theorem upLang_iff {w : List Nat} : upLang d w = 1 ↔ ∃ u : List Nat, u.Sublist w ∧ langD d d.fStart.toNat u = 1 := by
  unfold upLang
  split
  · rename_i h; exact ⟨fun _ => h, fun _ => rfl⟩
  · rename_i h; exact ⟨(fun e => by cases e), fun e => absurd e h⟩
theorem downLang_iff {L : Nat} {w : List Nat} : downLang d L w = 1 ↔ ∃ v : List Nat, (∀ a ∈ v, a < L) ∧ w.Sublist v ∧ langD d d.fStart.toNat v = 1 := by
  unfold downLang
  split
  · rename_i h; exact ⟨fun _ => h, fun _ => rfl⟩
  · rename_i h; exact ⟨(fun e => by cases e), fun e => absurd e h⟩
theorem upLang_01 (w : List Nat) : upLang d w = 0 ∨ upLang d w = 1 := by
  unfold upLang
  split
  · exact .inr rfl
  · exact .inl rfl
theorem downLang_01 {L : Nat} (w : List Nat) : downLang d L w = 0 ∨ downLang d L w = 1 := by
  unfold downLang
  split
  · exact .inr rfl
  · exact .inl rfl
/-- numbers that are nothing or one are told by where they are one -/
theorem eq01 {x y : Int} (hx : x = 0 ∨ x = 1) (hy : y = 0 ∨ y = 1) (h : x = 1 ↔ y = 1) : x = y := by
  rcases hx with rfl | rfl <;> rcases hy with rfl | rfl
  · rfl
  · exact absurd (h.2 rfl) (by decide)
  · exact absurd (h.1 rfl) (by decide)
  · rfl
end
end Go.Proofs.Ytiinkohfldopbaa

