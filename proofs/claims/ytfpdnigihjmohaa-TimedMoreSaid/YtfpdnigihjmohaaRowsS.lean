/- Rows of structs: what append reads of them, and copies. No condition. -/
import Derived.Test.YtfpdnigihjmohaaPush
namespace Go.Proofs.Ytfpdnigihjmohaa
open Go.RowKit
set_option linter.unusedSimpArgs false
set_option linter.unusedVariables false
set_option maxRecDepth 100000
attribute [local irreducible] wpList

theorem list_ex {α : Type} {P : Nat → α → Prop} (n : Nat) : (∀ i, i < n → ∃ a, P i a) → ∃ l : List α, l.length = n ∧ ∀ i a, l[i]? = some a → P i a := by
  induction n with
  | zero => exact fun _ => ⟨[], rfl, fun i a h => by simp at h⟩
  | succ n ih =>
    intro h
    obtain ⟨l, hl, hp⟩ := ih fun i hi => h i (by omega)
    obtain ⟨a, ha⟩ := h n (by omega)
    refine ⟨l ++ [a], by simp [hl], fun i b hb => ?_⟩
    by_cases hi : i < n
    · exact hp i b (by rwa [List.getElem?_append_left (by omega)] at hb)
    · rw [List.getElem?_append_right (by omega)] at hb
      have : i - l.length = 0 := by
        have := (List.getElem?_eq_some_iff.1 hb).1
        simp at this
        omega
      rw [this] at hb
      simp at hb
      subst hb
      rwa [show i = n from by omega]
theorem flat_len {us : List Value} {s : Nat} (hs : ∀ u ∈ us, u.cells.size = s) : (us.flatMap (·.cells.toList)).length = us.length * s := by
  induction us with
  | nil => simp
  | cons u us ih =>
    rw [List.flatMap_cons, List.length_append, ih (fun x hx => hs x (by simp [hx])), List.length_cons, Nat.succ_mul]
    have := hs u (by simp)
    simp [this]
    omega
/-- what values read by R have in their cells is of one cell each -/
def Flat {α : Type} (R : World → Value → α → Prop) : Prop := ∀ w u a, R w u a → ∀ c ∈ u.cells.toList, c.oneCell' = true
theorem SliceOf.flat {α : Type} {s : Nat} {R : World → Value → α → Prop} {w : World} {v : Value} {l : List α} (h : SliceOf s R w v l) (hs : 0 < s) (hf : Flat R) :
    ∃ us : List Value, us.length = l.length ∧ (∀ (q : Nat) (u : Value) (a : α), us[q]? = some u → l[q]? = some a → R w u a) ∧ (∀ u ∈ us, u.cells.size = s) ∧ SrcRow w s v l.length (us.flatMap (·.cells.toList)) := by
  obtain ⟨ao, n, cap, rfl, rfl, h1, h2, h3, hr⟩ := h
  obtain ⟨us, hl, hp⟩ := list_ex (P := fun q u => ∀ a, l[q]? = some a → ∃ b o, ao = some ⟨b, o, none⟩ ∧ R w u a ∧ u.cells.size = s ∧ ∀ j c, u.cells[j]? = some c → w.cell? ⟨b, o + q * s + j, none⟩ = some c) l.length (fun q hq => by
    obtain ⟨b, o, u, x1, x2, x3, x4⟩ := hr q l[q] (by simp [hq])
    refine ⟨u, fun a ha => ?_⟩
    simp [hq] at ha
    subst ha
    exact ⟨b, o, x1, x2, x3, x4⟩)
  have hat : ∀ q u, us[q]? = some u → ∃ a, l[q]? = some a := fun q u hu => by
    have := (List.getElem?_eq_some_iff.1 hu).1
    have hq : q < l.length := by omega
    exact ⟨_, List.getElem?_eq_getElem hq⟩
  have hsz : ∀ u ∈ us, u.cells.size = s := fun u hu => by
    obtain ⟨q, hq⟩ := List.mem_iff_getElem?.1 hu
    obtain ⟨a, ha⟩ := hat q u hq
    obtain ⟨_, _, _, _, x, _⟩ := hp q u hq a ha
    exact x
  refine ⟨us, hl, fun q u a hu ha => ?_, hsz, ao, cap, rfl, fun e => ⟨h3 e, by have := h3 e; omega⟩, by rw [flat_len hsz, hl], fun j c hj => ?_, fun c hc => ?_⟩
  · obtain ⟨_, _, _, x, _⟩ := hp q u hu a ha
    exact x
  · have hjl := (List.getElem?_eq_some_iff.1 hj).1
    rw [flat_len hsz, hl] at hjl
    have hq : j / s < l.length := by
      rw [Nat.div_lt_iff_lt_mul hs]
      exact hjl
    have hmod : j % s < s := Nat.mod_lt _ hs
    obtain ⟨u, hu⟩ : ∃ u, us[j / s]? = some u := ⟨_, List.getElem?_eq_getElem (by rw [hl]; exact hq)⟩
    have hus := hsz u (List.mem_of_getElem? hu)
    have hj2 := flat_at (q := j / s) (j := j % s) (c := u.cells[j % s]'(by omega)) hsz hu (by simp [hus, hmod])
    rw [show j / s * s + j % s = j from by rw [Nat.mul_comm]; exact Nat.div_add_mod j s] at hj2
    rw [hj2] at hj
    simp at hj
    obtain ⟨a, ha⟩ := hat _ _ hu
    obtain ⟨b, o, x1, _, _, x4⟩ := hp _ u hu a ha
    refine ⟨b, o, x1, ?_⟩
    have := x4 (j % s) c (by rw [← hj]; simp [hus, hmod])
    rw [Nat.add_assoc, show j / s * s + j % s = j from by rw [Nat.mul_comm]; exact Nat.div_add_mod j s] at this
    exact this
  · obtain ⟨u, hu, hc⟩ := List.mem_flatMap.1 hc
    obtain ⟨q, hq⟩ := List.mem_iff_getElem?.1 hu
    obtain ⟨a, ha⟩ := hat q u hq
    obtain ⟨_, _, _, x, _⟩ := hp q u hq a ha
    exact hf w u a x c hc
theorem SrcRow.up {w w' : World} {s m : Nat} {x : Value} {news : List Value} (h : SrcRow w s x m news) (hb : Below w.heap.size w w') : SrcRow w' s x m news := by
  obtain ⟨ao, c, e1, e2, e3, e4, e5⟩ := h
  refine ⟨ao, c, e1, e2, e3, fun j u hj => ?_, e5⟩
  obtain ⟨b, o, h1, h2⟩ := e4 j u hj
  exact ⟨b, o, h1, cell_up h2 hb⟩
/-- a new row that reads as l -/
def NewRow {α : Type} (s : Nat) (e : TypeId) (R : World → Value → α → Prop) (w : World) (l : List α) (en : Ending) (w' : World) : Prop :=
  ∃ (v' : Value) (us : List Value), en = .returned v' ∧ w'.ownsRow w.heap.size e s v' l.length (us.flatMap (·.cells.toList)) ∧ us.length = l.length ∧ (∀ (q : Nat) (u : Value) (a : α), us[q]? = some u → l[q]? = some a → R w' u a) ∧ (∀ u ∈ us, u.cells.size = s) ∧ SliceOf s R w' v' l ∧ Below w.heap.size w w'
end Go.Proofs.Ytfpdnigihjmohaa
