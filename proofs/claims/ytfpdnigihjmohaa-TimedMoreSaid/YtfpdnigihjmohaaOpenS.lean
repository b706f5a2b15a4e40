/- Arguments opened: structs of any number of fields of one cell each. No condition. -/
import Derived.Test.YtfpdnigihjmohaaOpen
namespace Go.Proofs.Ytfpdnigihjmohaa
open Go.ChangeShapes Go.WideShapes Go.ChangeAt Go.RowKit
set_option linter.unusedSimpArgs false
set_option linter.unusedVariables false
set_option maxRecDepth 100000

/-- one cell of type t that reads as data is as S says -/
def Reads1 (t : TypeId) (S : World → Value → Prop) : Prop :=
  ∀ (H : Type) (enc : TypeId × Value → H) (w : World) (base : Nat) (spare : Nat → Bool) (held : Bool) (fuel : Nat) (c : Value) (x : DataW H × List MemPlace),
    DataW.trod enc Try.prog w base spare held fuel t [c] = some x → S w c ∧ c.cells = #[c]
theorem Reads.one {α : Type} {t : TypeId} {R : World → Value → α → Prop} (h : Reads t 1 R) (ho : One R) : Reads1 t (fun w c => ∃ a, R w c a) := by
  intro H enc w base spare held fuel c x hx
  obtain ⟨u, a, h1, _, hR⟩ := h H enc w base spare held fuel [c] x hx
  rw [ho w u a hR] at h1
  simp at h1
  subst h1
  exact ⟨⟨a, hR⟩, ho _ _ _ hR⟩
/-- a struct of one-cell fields -/
def AggOf (Ss : List (World → Value → Prop)) (w : World) (v : Value) : Prop :=
  ∃ cs : List Value, v = .agg cs.toArray ∧ cs.length = Ss.length ∧ ∀ (i : Nat) (S : World → Value → Prop) (c : Value), Ss[i]? = some S → cs[i]? = some c → S w c ∧ c.cells = #[c]
/-- each field by its own reading -/
def FieldsBy (fs : Array Field) (Ss : List (World → Value → Prop)) : Prop := fs.size = Ss.length ∧ ∀ (i : Nat) (f : Field) (S : World → Value → Prop), fs[i]? = some f → Ss[i]? = some S → Reads1 f.type S
theorem reads_agg {t : TypeId} {fs : Array Field} {Ss : List (World → Value → Prop)} (ht : Try.prog.underlying t = some (.struct fs)) (hc : Try.prog.cellsOf t = fs.size) (hone : Go.Deep.oneCellFields Try.prog fs = true) (hS : FieldsBy fs Ss) :
    Reads t fs.size (fun w u (_ : Unit) => AggOf Ss w u) := by
  intro H enc w base spare held fuel cs x h
  obtain ⟨xs, n, _, _, hl, hlen, hf⟩ := DataW.trod_struct ht h
  rw [hc] at hl
  refine ⟨.agg cs.toArray, (), by simp only [Value.cells, List.toList_toArray], by simp [Value.cells, hl], cs, rfl, by rw [hl, hS.1], fun i S c h1 h2 => ?_⟩
  have hi : i < fs.size := by
    have := (List.getElem?_eq_some_iff.1 h2).1
    omega
  obtain ⟨k0, k1⟩ := Go.Deep.hone_of hone i fs[i] (by simp [hi])
  have hx := hf i fs[i] (by simp [hi])
  rw [List.getElem?_eq_getElem (by omega)] at hx
  rw [k0, k1] at hx
  have e : (cs.drop i).take 1 = [c] := by
    have hi2 : i < cs.length := by omega
    rw [List.drop_eq_getElem_cons hi2]
    have : cs[i] = c := by
      rw [List.getElem?_eq_getElem hi2] at h2
      simpa using h2
    simp [this]
  rw [e] at hx
  exact hS.2 i fs[i] S (by simp [hi]) h1 H enc w base spare held n c _ hx
theorem Reads.imp {α β : Type} {t : TypeId} {s : Nat} {R : World → Value → α → Prop} {R' : World → Value → β → Prop} (h : Reads t s R) (hi : ∀ w u a, R w u a → ∃ b, R' w u b) : Reads t s R' := by
  intro H enc w base spare held fuel cs x hx
  obtain ⟨u, a, h1, h2, hR⟩ := h H enc w base spare held fuel cs x hx
  obtain ⟨b, hb⟩ := hi w u a hR
  exact ⟨u, b, h1, h2, hb⟩
/-- an argument that is a struct -/
theorem top_agg {H : Type} {enc : TypeId × Value → H} {w : World} {t : TypeId} {fs : Array Field} {Ss : List (World → Value → Prop)} {r : Reach} {b base : Nat} {spare : Nat → Bool} {held : Bool} {v : Value} {d : DataW H} {p : List MemPlace} (ht : Try.prog.underlying t = some (.struct fs))
    (hr : Reads t fs.size (fun w u (_ : Unit) => AggOf Ss w u)) (hv : Value.okWide Try.prog w r b t v) (h : DataW.Trod enc Try.prog w base spare held t v d p) : AggOf Ss w v := by
  obtain ⟨cs, rfl, _⟩ := okWide_struct ht hv
  obtain ⟨fuel, hf⟩ := h
  obtain ⟨u, _, h1, _, cs', rfl, h2⟩ := hr H enc w base spare held fuel _ _ hf
  have : cs = cs'.toArray := by
    simp only [Value.cells] at h1
    exact (Array.toList_inj.1 h1).symm
  subst this
  exact ⟨cs', rfl, h2⟩
theorem fields_nil : FieldsBy #[] [] := ⟨rfl, fun i f S h => by simp at h⟩
theorem fields_of (l : List (Field × (World → Value → Prop))) (h : ∀ x ∈ l, Reads1 x.1.type x.2) : FieldsBy (l.map (·.1)).toArray (l.map (·.2)) := by
  refine ⟨by simp, fun i f S h1 h2 => ?_⟩
  simp only [List.getElem?_toArray, List.getElem?_map] at h1 h2
  cases hl : l[i]? with
  | none => simp [hl] at h1
  | some x =>
    simp [hl] at h1 h2
    subst h1 h2
    exact h x (List.mem_of_getElem? hl)
theorem fields1 {f0 : Field} {S0 : World → Value → Prop} (h0 : Reads1 f0.type S0) : FieldsBy #[f0] [S0] :=
  fields_of [(f0, S0)] (fun x hx => by
    simp only [List.mem_cons, List.not_mem_nil, or_false] at hx
    rcases hx with rfl
    exact h0)
theorem fields2 {f0 f1 : Field} {S0 S1 : World → Value → Prop} (h0 : Reads1 f0.type S0) (h1 : Reads1 f1.type S1) : FieldsBy #[f0, f1] [S0, S1] :=
  fields_of [(f0, S0), (f1, S1)] (fun x hx => by
    simp only [List.mem_cons, List.not_mem_nil, or_false] at hx
    rcases hx with rfl | rfl
    · exact h0
    · exact h1)
theorem fields3 {f0 f1 f2 : Field} {S0 S1 S2 : World → Value → Prop} (h0 : Reads1 f0.type S0) (h1 : Reads1 f1.type S1) (h2 : Reads1 f2.type S2) : FieldsBy #[f0, f1, f2] [S0, S1, S2] :=
  fields_of [(f0, S0), (f1, S1), (f2, S2)] (fun x hx => by
    simp only [List.mem_cons, List.not_mem_nil, or_false] at hx
    rcases hx with rfl | rfl | rfl
    · exact h0
    · exact h1
    · exact h2)
theorem fields4 {f0 f1 f2 f3 : Field} {S0 S1 S2 S3 : World → Value → Prop} (h0 : Reads1 f0.type S0) (h1 : Reads1 f1.type S1) (h2 : Reads1 f2.type S2) (h3 : Reads1 f3.type S3) : FieldsBy #[f0, f1, f2, f3] [S0, S1, S2, S3] :=
  fields_of [(f0, S0), (f1, S1), (f2, S2), (f3, S3)] (fun x hx => by
    simp only [List.mem_cons, List.not_mem_nil, or_false] at hx
    rcases hx with rfl | rfl | rfl | rfl
    · exact h0
    · exact h1
    · exact h2
    · exact h3)
theorem fields5 {f0 f1 f2 f3 f4 : Field} {S0 S1 S2 S3 S4 : World → Value → Prop} (h0 : Reads1 f0.type S0) (h1 : Reads1 f1.type S1) (h2 : Reads1 f2.type S2) (h3 : Reads1 f3.type S3) (h4 : Reads1 f4.type S4) : FieldsBy #[f0, f1, f2, f3, f4] [S0, S1, S2, S3, S4] :=
  fields_of [(f0, S0), (f1, S1), (f2, S2), (f3, S3), (f4, S4)] (fun x hx => by
    simp only [List.mem_cons, List.not_mem_nil, or_false] at hx
    rcases hx with rfl | rfl | rfl | rfl | rfl
    · exact h0
    · exact h1
    · exact h2
    · exact h3
    · exact h4)
theorem fields6 {f0 f1 f2 f3 f4 f5 : Field} {S0 S1 S2 S3 S4 S5 : World → Value → Prop} (h0 : Reads1 f0.type S0) (h1 : Reads1 f1.type S1) (h2 : Reads1 f2.type S2) (h3 : Reads1 f3.type S3) (h4 : Reads1 f4.type S4) (h5 : Reads1 f5.type S5) : FieldsBy #[f0, f1, f2, f3, f4, f5] [S0, S1, S2, S3, S4, S5] :=
  fields_of [(f0, S0), (f1, S1), (f2, S2), (f3, S3), (f4, S4), (f5, S5)] (fun x hx => by
    simp only [List.mem_cons, List.not_mem_nil, or_false] at hx
    rcases hx with rfl | rfl | rfl | rfl | rfl | rfl
    · exact h0
    · exact h1
    · exact h2
    · exact h3
    · exact h4
    · exact h5)
theorem fields7 {f0 f1 f2 f3 f4 f5 f6 : Field} {S0 S1 S2 S3 S4 S5 S6 : World → Value → Prop} (h0 : Reads1 f0.type S0) (h1 : Reads1 f1.type S1) (h2 : Reads1 f2.type S2) (h3 : Reads1 f3.type S3) (h4 : Reads1 f4.type S4) (h5 : Reads1 f5.type S5) (h6 : Reads1 f6.type S6) : FieldsBy #[f0, f1, f2, f3, f4, f5, f6] [S0, S1, S2, S3, S4, S5, S6] :=
  fields_of [(f0, S0), (f1, S1), (f2, S2), (f3, S3), (f4, S4), (f5, S5), (f6, S6)] (fun x hx => by
    simp only [List.mem_cons, List.not_mem_nil, or_false] at hx
    rcases hx with rfl | rfl | rfl | rfl | rfl | rfl | rfl
    · exact h0
    · exact h1
    · exact h2
    · exact h3
    · exact h4
    · exact h5
    · exact h6)
def IntS (_ : World) (v : Value) : Prop := ∃ n : Int, v = .int .i64 n ∧ -9223372036854775808 ≤ n ∧ n ≤ 9223372036854775807
theorem reads1_int {t : TypeId} (ht : Try.prog.underlying t = some (.int .i64)) : Reads1 t IntS := (reads_int ht).one one_int
end Go.Proofs.Ytfpdnigihjmohaa
