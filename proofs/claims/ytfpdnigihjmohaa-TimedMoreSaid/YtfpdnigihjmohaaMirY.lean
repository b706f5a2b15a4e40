/- Arguments opened for contracts: what reads as data reads as plain data. No condition. -/
import Derived.Test.YtfpdnigihjmohaaMirX
import Derived.Test.YtfpdnigihjmohaaOpenS
namespace Go.Proofs.Ytfpdnigihjmohaa
open Go.ChangeShapes Go.WideShapes Go.ChangeAt Go.RowKit
set_option linter.unusedSimpArgs false
set_option linter.unusedVariables false
set_option maxRecDepth 100000

/-- the value u reads as a, in the world as it is -/
def RT {α : Type} (T : Ty α) : World → Value → α → Prop := fun w u a => (T.sv a).ok w.gh hs0 u
theorem gh_cell {w : World} {p : Addr} {v : Value} (h : w.cell? p = some v) : w.gh.cell p = some v := by
  unfold World.cell? at h
  unfold Gh.cell World.gh
  exact h
theorem RT.slice {α : Type} {T : Ty α} {w : World} {v : Value} {l : List α} (h : SliceOf T.s (RT T) w v l) : RT (lsT T) w v l := by
  obtain ⟨ao, n, cap, rfl, rfl, h1, h2, h3, h4⟩ := h
  refine ⟨⟨⟨ao, l.length, cap, rfl, rfl, h1, h2, h3, fun q a hq => ?_⟩, ao, cap, rfl⟩, trivial⟩
  obtain ⟨b, o, u, k1, k2, k3, k4⟩ := h4 q a hq
  exact ⟨b, o, u, k1, k2, k3, fun j c hj => gh_cell (k4 j c hj)⟩
theorem readsT_int {t : TypeId} (ht : Try.prog.underlying t = some (.int .i64)) : Reads t 1 (RT intT) := (reads_int ht).imp fun w u a h => ⟨a, by obtain ⟨rfl, _⟩ := h; exact ⟨rfl, trivial⟩⟩
theorem readsT_slice {α : Type} {T : Ty α} {t e : TypeId} (ht : Try.prog.underlying t = some (.slice e)) (hc : Try.prog.cellsOf e = T.s) (hs : 0 < T.s) (he : Reads e T.s (RT T)) : Reads t 1 (RT (lsT T)) := (reads_slice ht hc hs he).imp fun w u a h => ⟨a, RT.slice h⟩
theorem oneT {α : Type} {T : Ty α} (h : ∀ a, ∃ x, T.sv a = .one x ∧ x ≠ .junk) : One (RT T) := fun w v a hR => by
  obtain ⟨x, h1, h2⟩ := h a
  unfold RT at hR
  rw [h1] at hR
  have : cellV v := by
    have h3 := hR.2
    cases x <;> first | exact h3 | exact absurd rfl h2
  exact this.cells
theorem one_intT : One (RT intT) := oneT fun a => ⟨_, rfl, by simp⟩
theorem one_lsT {α : Type} {T : Ty α} : One (RT (lsT T)) := oneT fun a => ⟨_, rfl, by simp⟩
theorem topT_struct {α : Type} {T : Ty α} {H : Type} {enc : TypeId × Value → H} {w : World} {t : TypeId} {fs : Array Field} {r : Reach} {b base : Nat} {spare : Nat → Bool} {held : Bool} {v : Value} {d : DataW H} {p : List MemPlace} (ht : Try.prog.underlying t = some (.struct fs))
    (hT : ∀ a, ∃ cells, T.sv a = .agg cells) (hr : Reads t T.s (RT T)) (hv : Value.okWide Try.prog w r b t v) (h : DataW.Trod enc Try.prog w base spare held t v d p) : ∃ a, RT T w v a := by
  obtain ⟨cs, rfl, _⟩ := okWide_struct ht hv
  obtain ⟨fuel, hf⟩ := h
  obtain ⟨u, a, h1, _, hR⟩ := hr H enc w base spare held fuel _ _ hf
  refine ⟨a, ?_⟩
  obtain ⟨cells, hc⟩ := hT a
  have hR' := hR
  unfold RT at hR'
  rw [hc] at hR'
  obtain ⟨us, rfl, _⟩ := hR'
  have : cs = us.toArray := by
    simp only [Value.cells] at h1
    exact (Array.toList_inj.1 h1).symm
  subst this
  exact hR
theorem topT_slice {α : Type} {T : Ty α} {H : Type} {enc : TypeId × Value → H} {w : World} {t e : TypeId} {r : Reach} {b base : Nat} {spare : Nat → Bool} {held : Bool} {v : Value} {d : DataW H} {p : List MemPlace} (ht : Try.prog.underlying t = some (.slice e))
    (hr : Reads t 1 (RT (lsT T))) (hv : Value.okWide Try.prog w r b t v) (h : DataW.Trod enc Try.prog w base spare held t v d p) : ∃ a, RT (lsT T) w v a := by
  obtain ⟨a, len, cap, rfl⟩ := okWide_slice ht hv
  obtain ⟨fuel, hf⟩ := h
  have e : (Value.slice a len cap).cells.toList = [.slice a len cap] := by simp only [Value.cells]
  rw [e] at hf
  exact reads_one hr one_lsT hf
theorem topT_int {H : Type} {enc : TypeId × Value → H} {w : World} {t : TypeId} {r : Reach} {b base : Nat} {spare : Nat → Bool} {held : Bool} {v : Value} {d : DataW H} {p : List MemPlace} (ht : Try.prog.underlying t = some (.int .i64))
    (hv : Value.okWide Try.prog w r b t v) (h : DataW.Trod enc Try.prog w base spare held t v d p) : ∃ n : Int, RT intT w v n ∧ -9223372036854775808 ≤ n ∧ n ≤ 9223372036854775807 := by
  obtain ⟨n, rfl, h1⟩ := top_int ht hv h
  exact ⟨n, ⟨rfl, trivial⟩, h1⟩
theorem Base.below {w w' : World} {g' : Gh} (h : Base (cfg0 0 w w.gh) w' g') : Below w.heap.size w w' := ⟨h.os, h.tape, h.output, h.grows, fun b hb => h.frame b hb (fun h => h)⟩
/-- a law that is always true -/
theorem Ct.row {f : Nat} {ins : List SC} {w : World} {args : List Value} (h : Ct f ins [] (fun (_ : Unit) => True) (fun _ => .sv (.one (B true)))) (ha : okArgs w.gh hs0 ins args) : Calls Try.prog f args.toArray w (fun e w' => e = .returned (.bool true) ∧ Below w.heap.size w w') :=
  (h w w.gh hs0 args (gh_pers w) ha (fun i it hi => by simp at hi)).mono fun e w' ⟨v, g', _, h1, _, h2, h3⟩ => ⟨by rw [h1]; congr 1; exact h2.1, h3.below⟩
end Go.Proofs.Ytfpdnigihjmohaa
