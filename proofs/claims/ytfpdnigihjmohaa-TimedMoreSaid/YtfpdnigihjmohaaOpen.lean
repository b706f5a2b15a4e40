/- Arguments opened: what came in, read as data, reads as the walks ask it. It is used in the proof of each law of this seat; no condition. -/
import Derived.Test.YtfpdnigihjmohaaRows
import Derived.Test.YtfpdnigihjmohaaLib
import Derived.ProofKit
import Derived.OpenShut
import Derived.ShutString
import Derived.ChangeOld
import Derived.Lib.SmallJoins
import Derived.JoinedCond
namespace Go.Proofs.Ytfpdnigihjmohaa
open Go.ChangeShapes Go.WideShapes Go.ChangeAt Go.RowKit
set_option linter.unusedSimpArgs false
set_option linter.unusedVariables false
set_option maxRecDepth 100000
set_option maxRecDepth 100000

/-- cells of type t, s of them, that read as data read as some a by R -/
def Reads {α : Type} (t : TypeId) (s : Nat) (R : World → Value → α → Prop) : Prop :=
  ∀ (H : Type) (enc : TypeId × Value → H) (w : World) (base : Nat) (spare : Nat → Bool) (held : Bool) (fuel : Nat) (cs : List Value) (x : DataW H × List MemPlace),
    DataW.trod enc Try.prog w base spare held fuel t cs = some x → ∃ u a, u.cells.toList = cs ∧ u.cells.size = s ∧ R w u a

theorem reads_int {t : TypeId} (ht : Try.prog.underlying t = some (.int .i64)) : Reads t 1 IntR := by
  intro H enc w base spare held fuel cs x h
  obtain ⟨n, rfl, _, hw⟩ := DataW.trod_int ht h
  have hb : -9223372036854775808 ≤ n ∧ n ≤ 9223372036854775807 := by simpa [Lit.wf, IntKind.min, IntKind.max, IntKind.signed, IntKind.bits] using hw
  exact ⟨.int .i64 n, n, rfl, rfl, rfl, hb⟩

theorem list_of {α : Type} {P : Nat → α → Prop} (n : Nat) : (∀ i, i < n → ∃ a, P i a) → ∃ l : List α, l.length = n ∧ ∀ i a, l[i]? = some a → P i a := by
  induction n with
  | zero => exact fun _ => ⟨[], rfl, fun i a h => by simp at h⟩
  | succ n ih =>
    intro h
    obtain ⟨l, hl, hp⟩ := ih fun i hi => h i (by omega)
    obtain ⟨a, ha⟩ := h n (by omega)
    refine ⟨l ++ [a], by simp [hl], fun i b hb => ?_⟩
    by_cases hi : i < n
    · exact hp i b (by rwa [List.getElem?_append_left (by omega)] at hb)
    · rw [List.getElem?_append_right (by omega)] at hb
      have : i - l.length = 0 := by
        have := (List.getElem?_eq_some_iff.1 hb).1
        simp at this
        omega
      rw [this] at hb
      simp at hb
      subst hb
      rwa [show i = n from by omega]

theorem reads_slice {α : Type} {t e : TypeId} {s : Nat} {R : World → Value → α → Prop} (ht : Try.prog.underlying t = some (.slice e)) (hc : Try.prog.cellsOf e = s) (hs : 0 < s) (he : Reads e s R) : Reads t 1 (SliceOf s R) := by
  intro H enc w base spare held fuel cs x h
  rcases DataW.trod_slice ht h with ⟨rfl, _⟩ | ⟨a, len, cap, elems, rest, n, _, rfl, _, _, hl, hm, hlen, hel, _⟩
  · exact ⟨.slice none 0 0, [], rfl, rfl, none, 0, 0, rfl, rfl, Nat.le_refl _, Nat.zero_le _, fun _ => rfl, fun q a h => by simp at h⟩
  · rw [hc] at hel
    have each : ∀ i, i < len → ∃ y : α, ∃ b o u, some a = some (⟨b, o, none⟩ : Addr) ∧ R w u y ∧ u.cells.size = s ∧ ∀ j c, u.cells[j]? = some c → w.cell? ⟨b, o + i * s + j, none⟩ = some c := by
      intro i hi
      have h1 := hel i hi
      rw [List.getElem?_eq_getElem (by omega)] at h1
      obtain ⟨cs', hcs, htr⟩ := Option.bind_eq_some_iff.1 h1
      obtain ⟨u, y, e1, e2, hR⟩ := he H enc w base spare held n cs' _ htr
      obtain ⟨_, hcl, hcell⟩ := World.cells?_some hcs
      have hsp : a.spot = none := by
        have h0 := hcell 0 hs
        rw [List.getElem?_eq_getElem (by omega)] at h0
        by_cases hz : i * s = 0
        · rw [hz] at h0
          simpa [Addr.add] using World.cell?_spot h0
        · rcases a with ⟨b, o, sp⟩
          have hi0 : i ≠ 0 := fun e => by simp [e] at hz
          have hi1 : i = i - 1 + 1 := by omega
          have h2 := hel 0 (by omega)
          rw [List.getElem?_eq_getElem (by omega)] at h2
          obtain ⟨cs2, hcs2, _⟩ := Option.bind_eq_some_iff.1 h2
          obtain ⟨_, hcl2, hcell2⟩ := World.cells?_some hcs2
          have h3 := hcell2 0 hs
          rw [List.getElem?_eq_getElem (by omega)] at h3
          simpa [Addr.add] using World.cell?_spot h3
      obtain ⟨b, o, sp⟩ := a
      simp only at hsp
      subst hsp
      refine ⟨y, b, o, u, rfl, hR, e2, fun j c hj => ?_⟩
      have hj' : cs'[j]? = some c := by rw [← e1]; simpa using hj
      have hlt : j < s := by rw [← hcl]; exact (List.getElem?_eq_some_iff.1 hj').1
      have h5 := (hcell j hlt).trans hj'
      simpa [Addr.add_lit] using h5
    obtain ⟨l, hll, hp⟩ := list_of len each
    exact ⟨.slice (some a) len cap, l, rfl, rfl, some a, len, cap, rfl, hll.symm, hl, hm, (fun h => by cases h), hp⟩

/-- a struct of two fields of one cell each -/
def Agg2 {α β : Type} (R : World → Value → α → Prop) (S : World → Value → β → Prop) (w : World) (v : Value) (a : α × β) : Prop := ∃ x y, v = .agg #[x, y] ∧ R w x a.1 ∧ S w y a.2 ∧ x.cells = #[x] ∧ y.cells = #[y]
instance {α β : Type} {R : World → Value → α → Prop} {S : World → Value → β → Prop} [Stab R] [Stab S] : Stab (Agg2 R S) :=
  ⟨fun ⟨x, y, hv, hR, hS, hx, hy⟩ hb => ⟨x, y, hv, Stab.up hR hb, Stab.up hS hb, hx, hy⟩⟩
/-- values of one cell that are no struct -/
def One {α : Type} (R : World → Value → α → Prop) : Prop := ∀ w v a, R w v a → v.cells = #[v]
theorem one_int : One IntR := fun w v a h => by obtain ⟨rfl, _⟩ := h; rfl
theorem one_slice {α : Type} {s : Nat} {R : World → Value → α → Prop} : One (SliceOf s R) := fun w v a h => by obtain ⟨ao, n, cap, rfl, _⟩ := h; rfl
theorem reads_one {α : Type} {t : TypeId} {R : World → Value → α → Prop} (hr : Reads t 1 R) (ho : One R) {H : Type} {enc : TypeId × Value → H} {w : World} {base : Nat} {spare : Nat → Bool} {held : Bool} {fuel : Nat} {c : Value} {x : DataW H × List MemPlace}
    (h : DataW.trod enc Try.prog w base spare held fuel t [c] = some x) : ∃ a, R w c a := by
  obtain ⟨u, a, h1, _, hR⟩ := hr H enc w base spare held fuel [c] x h
  rw [ho w u a hR] at h1
  simp at h1
  exact ⟨a, h1 ▸ hR⟩
theorem reads_agg2 {α β : Type} {t : TypeId} {f0 f1 : Field} {R : World → Value → α → Prop} {S : World → Value → β → Prop} (ht : Try.prog.underlying t = some (.struct #[f0, f1])) (hc : Try.prog.cellsOf t = 2) (hone : Go.Deep.oneCellFields Try.prog #[f0, f1] = true)
    (h0 : Reads f0.type 1 R) (h1 : Reads f1.type 1 S) (o0 : One R) (o1 : One S) : Reads t 2 (Agg2 R S) := by
  intro H enc w base spare held fuel cs x h
  obtain ⟨y0, y1, n, _, hlen, e0, e1⟩ := trod_struct2 ht h
  obtain ⟨k0, l0⟩ := Go.Deep.hone_of hone 0 f0 rfl
  obtain ⟨k1, l1⟩ := Go.Deep.hone_of hone 1 f1 rfl
  rw [hc] at hlen
  obtain ⟨c0, c1, rfl⟩ : ∃ c0 c1, cs = [c0, c1] := by
    match cs, hlen with
    | [c0, c1], _ => exact ⟨c0, c1, rfl⟩
  rw [k0, l0] at e0
  rw [k1, l1] at e1
  obtain ⟨a, hR⟩ := reads_one h0 o0 e0
  obtain ⟨b, hS⟩ := reads_one h1 o1 e1
  exact ⟨.agg #[c0, c1], (a, b), by simp only [Value.cells], by simp [Value.cells], c0, c1, rfl, hR, hS, o0 _ _ _ hR, o1 _ _ _ hS⟩

/-- an argument that is a slice -/
theorem top_slice {α : Type} {H : Type} {enc : TypeId × Value → H} {w : World} {t e : TypeId} {s : Nat} {R : World → Value → α → Prop} {r : Reach} {b base : Nat} {spare : Nat → Bool} {held : Bool} {v : Value} {d : DataW H} {p : List MemPlace} (ht : Try.prog.underlying t = some (.slice e))
    (hr : Reads t 1 (SliceOf s R)) (hv : Value.okWide Try.prog w r b t v) (h : DataW.Trod enc Try.prog w base spare held t v d p) : ∃ l, SliceOf s R w v l := by
  obtain ⟨a, len, cap, rfl⟩ := okWide_slice ht hv
  obtain ⟨fuel, hf⟩ := h
  have e : (Value.slice a len cap).cells.toList = [.slice a len cap] := by simp only [Value.cells]
  rw [e] at hf
  exact reads_one hr one_slice hf
/-- an argument that is a struct of two fields -/
theorem top_agg2 {α β : Type} {H : Type} {enc : TypeId × Value → H} {w : World} {t : TypeId} {fs : Array Field} {R : World → Value → α → Prop} {S : World → Value → β → Prop} {r : Reach} {b base : Nat} {spare : Nat → Bool} {held : Bool} {v : Value} {d : DataW H} {p : List MemPlace} (ht : Try.prog.underlying t = some (.struct fs))
    (hr : Reads t 2 (Agg2 R S)) (hv : Value.okWide Try.prog w r b t v) (h : DataW.Trod enc Try.prog w base spare held t v d p) : ∃ a, Agg2 R S w v a := by
  obtain ⟨cs, rfl, _⟩ := okWide_struct ht hv
  obtain ⟨fuel, hf⟩ := h
  obtain ⟨u, a, h1, _, hR⟩ := hr H enc w base spare held fuel _ _ hf
  have hR' := hR
  obtain ⟨x, y, rfl, _⟩ := hR
  have : cs = #[x, y] := by
    simp only [Value.cells] at h1
    exact (Array.toList_inj.1 h1).symm
  subst this
  exact ⟨a, hR'⟩
/-- an argument that is an int -/
theorem top_int {H : Type} {enc : TypeId × Value → H} {w : World} {t : TypeId} {r : Reach} {b base : Nat} {spare : Nat → Bool} {held : Bool} {v : Value} {d : DataW H} {p : List MemPlace} (ht : Try.prog.underlying t = some (.int .i64))
    (hv : Value.okWide Try.prog w r b t v) (h : DataW.Trod enc Try.prog w base spare held t v d p) : ∃ n : Int, v = .int .i64 n ∧ -9223372036854775808 ≤ n ∧ n ≤ 9223372036854775807 := by
  obtain ⟨x, rfl, rfl, rfl, wx⟩ := open_int ht hv h
  exact ⟨x, rfl, by simpa [Lit.wf, IntKind.min, IntKind.max, IntKind.signed, IntKind.bits] using wx⟩

theorem laidOut : laidOutB Try.prog = true := by kernel_rfl
theorem ownK : ownKnob Try.prog.godebug = none := by kernel_rfl
theorem places_lt {H : Type} {enc : TypeId × Value → H} {w : World} {base : Nat} {spare : Nat → Bool} {held : Bool} {t : TypeId} {v : Value} {d : DataW H} {p : List MemPlace} (h : DataW.Trod enc Try.prog w base spare held t v d p) : ∀ x ∈ p, x.block < w.heap.size := by
  obtain ⟨m, hm⟩ := h
  exact DataW.trod_lt m _ _ _ hm
end Go.Proofs.Ytfpdnigihjmohaa
