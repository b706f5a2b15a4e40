/- What slices and structs in memory read as, and how such readings last while memory grows. It is used in all walks of this seat; no condition. -/
import Derived.WalkKit
import Derived.WalkSpells
import Derived.WalkLawsBesides
import Derived.Lib.Hide
import Derived.Deep.QuietTactic
import Derived.BigQuiet
import Derived.Deep.RegionHeld3
import Derived.Deep.DeepCutAuto
import Derived.StillTailTactics
import Derived.Laws.CopyOwn
import Derived.Outline
namespace Go.Proofs.Ytfpdnigihjmohaa
open Go.RowKit
set_option linter.unusedSimpArgs false
set_option linter.unusedVariables false
set_option maxRecDepth 100000

/-- A reading that lasts while memory grows above what was there. -/
class Stab {α : Type} (R : World → Value → α → Prop) : Prop where
  up : ∀ {w w' : World} {v : Value} {a : α}, R w v a → Below w.heap.size w w' → R w' v a

/-- an int -/
def IntR (_ : World) (v : Value) (n : Int) : Prop := v = .int .i64 n ∧ -9223372036854775808 ≤ n ∧ n ≤ 9223372036854775807
instance : Stab IntR := ⟨fun h _ => h⟩
/-- a bool -/
def BoolR (_ : World) (v : Value) (n : Bool) : Prop := v = .bool n
instance : Stab BoolR := ⟨fun h _ => h⟩

/-- the value v is a slice, with elements of s cells each, that reads as l, element by element by R -/
def SliceOf {α : Type} (s : Nat) (R : World → Value → α → Prop) (w : World) (v : Value) (l : List α) : Prop :=
  ∃ ao n cap, v = .slice ao n cap ∧ n = l.length ∧ n ≤ cap ∧ cap ≤ maxLen ∧ (ao = none → cap = 0) ∧
    ∀ q a, l[q]? = some a → ∃ b o u, ao = some ⟨b, o, none⟩ ∧ R w u a ∧ u.cells.size = s ∧ ∀ j c, u.cells[j]? = some c → w.cell? ⟨b, o + q * s + j, none⟩ = some c

abbrev Ints := SliceOf 1 IntR
abbrev Rows2 := SliceOf 1 Ints

theorem cell_up {w w' : World} {p : Addr} {c : Value} (h : w.cell? p = some c) (hb : Below w.heap.size w w') : w'.cell? p = some c :=
  (hb.cell (World.block_lt_of_cell? w p h)).trans h

instance {α : Type} {s : Nat} {R : World → Value → α → Prop} [Stab R] : Stab (SliceOf s R) :=
  ⟨fun ⟨ao, n, cap, hv, hn, h1, h2, h3, h⟩ hb => ⟨ao, n, cap, hv, hn, h1, h2, h3, fun q a hq =>
    let ⟨b, o, u, hao, hR, hs, hc⟩ := h q a hq
    ⟨b, o, u, hao, Stab.up hR hb, hs, fun j c hj => cell_up (hc j c hj) hb⟩⟩⟩

theorem SliceOf.up {α : Type} {s : Nat} {R : World → Value → α → Prop} [Stab R] {w w' : World} {v : Value} {l : List α} (h : SliceOf s R w v l) (hb : Below w.heap.size w w') : SliceOf s R w' v l :=
  Stab.up h hb

section
variable {α : Type} {s : Nat} {R : World → Value → α → Prop} {w : World} {l : List α}
/-- the value's shape -/
theorem SliceOf.shape {v : Value} (h : SliceOf s R w v l) : ∃ ao n cap, v = .slice ao n cap ∧ SliceOf s R w (.slice ao n cap) l ∧ Hid (n = l.length) ∧ n ≤ cap ∧ cap ≤ 9223372036854775807 := by
  have h' := h
  obtain ⟨ao, n, cap, rfl, hn, h1, h2, _⟩ := h
  exact ⟨ao, n, cap, rfl, h', hn, h1, by simpa [maxLen] using h2⟩
theorem SliceOf.len {ao : Option Addr} {n cap : Nat} (h : SliceOf s R w (.slice ao n cap) l) : n = l.length := by
  obtain ⟨ao', n', cap', hv, hn, _⟩ := h
  cases hv
  exact hn
theorem SliceOf.lenLe {v : Value} (h : SliceOf s R w v l) : l.length ≤ 9223372036854775807 := by
  obtain ⟨ao, n, cap, rfl, hn, h1, h2, _⟩ := h
  have : cap ≤ 9223372036854775807 := by simpa [maxLen] using h2
  omega
end

/-- an element of a slice of ints -/
theorem SliceOf.int {w : World} {l : List Int} {ao : Option Addr} {n cap : Nat} (h : Ints w (.slice ao n cap) l) {k : Nat} (hk : k < n) :
    ∃ b o, ao = some ⟨b, o, none⟩ ∧ w.cell? ⟨b, o + k, none⟩ = some (.int .i64 (l.getD k 0)) ∧ b < w.heap.size ∧ -9223372036854775808 ≤ l.getD k 0 ∧ l.getD k 0 ≤ 9223372036854775807 := by
  obtain ⟨ao', n', cap', hv, hn, h1, h2, h3, hr⟩ := h
  cases hv
  subst hn
  obtain ⟨b, o, u, hao, ⟨rfl, hb⟩, hs, hc⟩ := hr k l[k] (by simp [hk])
  have e : l.getD k 0 = l[k] := by simp [hk]
  have : w.cell? ⟨b, o + k * 1 + 0, none⟩ = some (.int .i64 l[k]) := hc 0 _ rfl
  rw [e]
  refine ⟨b, o, hao, by simpa using this, World.block_lt_of_cell? w _ this, hb⟩
/-- an element of a slice of slices -/
theorem SliceOf.row {α : Type} {R : World → Value → α → Prop} {s : Nat} {w : World} {l : List (List α)} {ao : Option Addr} {n cap : Nat} (h : SliceOf 1 (SliceOf s R) w (.slice ao n cap) l) {k : Nat} (hk : k < n) :
    ∃ b o u, ao = some ⟨b, o, none⟩ ∧ w.cell? ⟨b, o + k, none⟩ = some u ∧ b < w.heap.size ∧ SliceOf s R w u (l.getD k []) := by
  obtain ⟨ao', n', cap', hv, hn, h1, h2, h3, hr⟩ := h
  cases hv
  subst hn
  obtain ⟨b, o, u, hao, hu, hs, hc⟩ := hr k l[k] (by simp [hk])
  have e : l.getD k [] = l[k] := by simp [hk]
  rw [e]
  have hu' := hu
  obtain ⟨ao2, n2, cap2, rfl, _⟩ := hu
  have : w.cell? ⟨b, o + k * 1 + 0, none⟩ = some (.slice ao2 n2 cap2) := hc 0 _ rfl
  exact ⟨b, o, _, hao, by simpa using this, World.block_lt_of_cell? w _ this, hu'⟩

/-- a piece of a slice: what lies from k on -/
theorem SliceOf.drop {α : Type} {s : Nat} {R : World → Value → α → Prop} {w : World} {l : List α} {ao : Option Addr} {n cap : Nat} (h : SliceOf s R w (.slice ao n cap) l) {k : Nat} (hk : k ≤ n) :
    SliceOf s R w (sliced ao k n cap s) (l.drop k) := by
  obtain ⟨ao', n', cap', hv, hn, h1, h2, h3, hr⟩ := h
  cases hv
  subst hn
  refine ⟨if cap = k then ao else ao.map (·.add (k * s)), l.length - k, cap - k, by simp only [sliced], by simp, by omega, by omega, ?_, ?_⟩
  · intro h0
    split at h0
    · omega
    · cases ao with
      | none => have := h3 rfl; omega
      | some a => simp at h0
  · intro q a hq
    rw [List.getElem?_drop] at hq
    obtain ⟨b, o, u, rfl, hR, hs, hc⟩ := hr _ a hq
    have hlt : k + q < l.length := (List.getElem?_eq_some_iff.1 hq).1
    refine ⟨b, o + k * s, u, ?_, hR, hs, fun j c hj => ?_⟩
    · rw [if_neg (by omega)]
      simp [Addr.add_lit]
    · have := hc j c hj
      rw [Nat.add_mul] at this
      rw [← this]
      congr 2
      omega
/-- a piece of a slice: what lies below k -/
theorem SliceOf.take {α : Type} {s : Nat} {R : World → Value → α → Prop} {w : World} {l : List α} {ao : Option Addr} {n cap : Nat} (h : SliceOf s R w (.slice ao n cap) l) {k : Nat} (hk : k ≤ n) :
    SliceOf s R w (sliced ao 0 k cap s) (l.take k) := by
  obtain ⟨ao', n', cap', hv, hn, h1, h2, h3, hr⟩ := h
  cases hv
  subst hn
  refine ⟨if cap = 0 then ao else ao.map (·.add (0 * s)), k, cap, by simp only [sliced, Nat.sub_zero], by simp; omega, by omega, h2, ?_, ?_⟩
  · intro h0
    split at h0
    · exact h3 h0
    · cases ao with
      | none => exact h3 rfl
      | some a => simp at h0
  · intro q a hq
    rw [List.getElem?_take] at hq
    split at hq
    · obtain ⟨b, o, u, rfl, hR, hs, hc⟩ := hr _ a hq
      refine ⟨b, o, u, ?_, hR, hs, hc⟩
      split
      · rfl
      · simp [Addr.add_lit]
    · cases hq

theorem Option.map_add0 (ao : Option Addr) : ao.map (fun x => x.add 0) = ao := by cases ao <;> simp [Addr.add]
/-- x[:k] as the walk writes it -/
theorem SliceOf.takeV {α : Type} {s : Nat} {R : World → Value → α → Prop} {w : World} {l : List α} {ao : Option Addr} {n cap : Nat} (h : SliceOf s R w (.slice ao n cap) l) {k : Nat} (hk : k ≤ n) :
    SliceOf s R w (.slice ao k cap) (l.take k) := by
  have := h.take hk
  simp only [sliced, Nat.zero_mul, Nat.sub_zero, Option.map_add0, ite_self] at this
  exact this
/-- x[k:] as the walk writes it, k below the capacity -/
theorem SliceOf.dropV {α : Type} {R : World → Value → α → Prop} {w : World} {l : List α} {ao : Option Addr} {n cap : Nat} (h : SliceOf 1 R w (.slice ao n cap) l) {k : Nat} (hk : k ≤ n) (hc : k < cap) :
    SliceOf 1 R w (.slice (ao.map (fun x => x.add k)) (n - k) (cap - k)) (l.drop k) := by
  have := h.drop hk
  simp only [sliced, Nat.mul_one, if_neg (show ¬ cap = k by omega)] at this
  exact this

/-- what was there stays, the cells and marks too -/
theorem bcell {B : Nat} {W w1 : World} (hb : Below B W w1) : (∀ b o, b < B → w1.cell? ⟨b, o, none⟩ = W.cell? ⟨b, o, none⟩) ∧ (∀ b o, b < B → w1.frozen? ⟨b, o, none⟩ = W.frozen? ⟨b, o, none⟩) :=
  ⟨fun b o h => hb.cell (p := ⟨b, o, none⟩) h, fun b o h => hb.frozen (p := ⟨b, o, none⟩) h⟩
theorem Below.drewN {B : Nat} {a w : World} (h : Below B a w) (n : Nat) : Below B a (w.drewN n) := ⟨h.os, h.tape, h.output, h.size, h.block⟩
end Go.Proofs.Ytfpdnigihjmohaa
