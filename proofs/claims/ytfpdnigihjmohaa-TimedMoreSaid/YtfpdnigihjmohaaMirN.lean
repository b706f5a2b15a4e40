/- Symbolic states of a walk: slices of the call's own. No condition. -/
import Derived.Test.YtfpdnigihjmohaaMirM
import Derived.Test.YtfpdnigihjmohaaRowsS
import Derived.Maps.AppendAt
namespace Go.Proofs.Ytfpdnigihjmohaa
open Go.RowKit Go.MapKept
set_option linter.unusedSimpArgs false
set_option linter.unusedVariables false
set_option maxRecDepth 100000

/-- cells that read as a list -/
def rowRead {α : Type} (T : Ty α) (l : List α) (g : Gh) (cs : List Value) : Prop := ∃ us : List Value, cs = us.flatMap (·.cells.toList) ∧ us.length = l.length ∧ ∀ (q : Nat) (u : Value) (a : α), us[q]? = some u → l[q]? = some a → (T.sv a).ok g hs0 u ∧ u.cells.size = T.s
def rowR {α : Type} (T : Ty α) (l : List α) : Rl (List Value) := ⟨rowRead T l, fun g g' cs h ⟨us, h1, h2, h3⟩ => ⟨us, h1, h2, fun q u a hu ha => ⟨SV.mono h (h3 q u a hu ha).1, (h3 q u a hu ha).2⟩⟩⟩
theorem rowRead.sizes {α : Type} {T : Ty α} {l : List α} {g : Gh} {us : List Value} (h2 : us.length = l.length) (h3 : ∀ (q : Nat) (u : Value) (a : α), us[q]? = some u → l[q]? = some a → (T.sv a).ok g hs0 u ∧ u.cells.size = T.s) : ∀ u ∈ us, u.cells.size = T.s := fun u hu => by
  obtain ⟨q, hq⟩ := List.mem_iff_getElem?.1 hu
  have hlt := (List.getElem?_eq_some_iff.1 hq).1
  exact (h3 q u (l[q]'(by omega)) hq (by simp)).2
theorem rowRead.length {α : Type} {T : Ty α} {l : List α} {g : Gh} {cs : List Value} (h : rowRead T l g cs) : cs.length = l.length * T.s := by
  obtain ⟨us, rfl, h2, h3⟩ := h
  rw [flat_len (rowRead.sizes h2 h3), h2]
theorem rowRead.append {α : Type} {T : Ty α} {l l' : List α} {g : Gh} {cs cs' : List Value} (h : rowRead T l g cs) (h' : rowRead T l' g cs') : rowRead T (l ++ l') g (cs ++ cs') := by
  obtain ⟨us, rfl, h2, h3⟩ := h
  obtain ⟨us', rfl, h2', h3'⟩ := h'
  refine ⟨us ++ us', by simp, by simp [h2, h2'], fun q u a hu ha => ?_⟩
  by_cases hq : q < us.length
  · rw [List.getElem?_append_left hq] at hu
    rw [List.getElem?_append_left (by omega)] at ha
    exact h3 q u a hu ha
  · rw [List.getElem?_append_right (by omega)] at hu
    rw [List.getElem?_append_right (by omega), ← h2] at ha
    exact h3' _ u a hu ha
theorem rowRead.nil {α : Type} {T : Ty α} {g : Gh} : rowRead T [] g [] := ⟨[], rfl, rfl, fun q u a hu => by simp at hu⟩
/-- no element is without a form -/
def Ty.solid {α : Type} (T : Ty α) : Prop := ∀ a, T.sv a ≠ .one .junk
theorem rowRead.cells {α : Type} {T : Ty α} {l : List α} {g : Gh} {cs : List Value} (hT : T.solid) (h : rowRead T l g cs) : ∀ c ∈ cs, cellV c := by
  obtain ⟨us, rfl, h2, h3⟩ := h
  intro c hc
  obtain ⟨u, hu, hc⟩ := List.mem_flatMap.1 hc
  obtain ⟨q, hq⟩ := List.mem_iff_getElem?.1 hu
  have hlt := (List.getElem?_eq_some_iff.1 hq).1
  have := sv_cells (hT _) (h3 q u (l[q]'(by omega)) hq (by simp)).1
  exact oks_cells this c hc
theorem cellV.one {v : Value} (h : cellV v) : v.oneCell' = true := by cases v <;> first | rfl | exact h.elim
/-- a slice that is only read, as what is appended -/
theorem src_LS {α : Type} {T : Ty α} {l : List α} {g : Gh} {w : World} {v : Value} (hT : T.solid) (hs : 0 < T.s) (hp : Pers g w) (h : slRead T l g v) : ∃ cs, SrcRow w T.s v l.length cs ∧ rowRead T l g cs := by
  obtain ⟨ao, n, cap, rfl, rfl, h1, h2, h3, hr⟩ := h
  obtain ⟨us, hl, hpp⟩ := list_ex (P := fun q u => ∀ a, l[q]? = some a → ∃ b o, ao = some ⟨b, o, none⟩ ∧ (T.sv a).ok g hs0 u ∧ u.cells.size = T.s ∧ ∀ j c, u.cells[j]? = some c → g.cell ⟨b, o + q * T.s + j, none⟩ = some c) l.length (fun q hq => by
    obtain ⟨b, o, u, x1, x2, x3, x4⟩ := hr q l[q] (by simp [hq])
    refine ⟨u, fun a ha => ?_⟩
    simp [hq] at ha
    subst ha
    exact ⟨b, o, x1, x2, x3, x4⟩)
  have hat : ∀ q u, us[q]? = some u → ∃ a, l[q]? = some a := fun q u hu => by
    have := (List.getElem?_eq_some_iff.1 hu).1
    have hq : q < l.length := by omega
    exact ⟨_, List.getElem?_eq_getElem hq⟩
  have hrow : rowRead T l g (us.flatMap (·.cells.toList)) := ⟨us, rfl, hl, fun q u a hu ha => by
    obtain ⟨_, _, _, x, y, _⟩ := hpp q u hu a ha
    exact ⟨x, y⟩⟩
  have hsz : ∀ u ∈ us, u.cells.size = T.s := fun u hu => by
    obtain ⟨q, hq⟩ := List.mem_iff_getElem?.1 hu
    obtain ⟨a, ha⟩ := hat q u hq
    obtain ⟨_, _, _, _, x, _⟩ := hpp q u hq a ha
    exact x
  refine ⟨us.flatMap (·.cells.toList), ⟨ao, cap, rfl, fun e => ⟨h3 e, by have := h3 e; omega⟩, by rw [flat_len hsz, hl], fun j c hj => ?_, fun c hc => (hrow.cells hT c hc).one⟩, hrow⟩
  have hjl := (List.getElem?_eq_some_iff.1 hj).1
  rw [flat_len hsz, hl] at hjl
  have hq : j / T.s < l.length := by
    rw [Nat.div_lt_iff_lt_mul hs]
    exact hjl
  have hmod : j % T.s < T.s := Nat.mod_lt _ hs
  obtain ⟨u, hu⟩ : ∃ u, us[j / T.s]? = some u := ⟨_, List.getElem?_eq_getElem (by rw [hl]; exact hq)⟩
  have hus := hsz u (List.mem_of_getElem? hu)
  have hj2 := flat_at (q := j / T.s) (j := j % T.s) (c := u.cells[j % T.s]'(by omega)) hsz hu (by simp [hus, hmod])
  rw [show j / T.s * T.s + j % T.s = j from by rw [Nat.mul_comm]; exact Nat.div_add_mod j T.s] at hj2
  rw [hj2] at hj
  simp at hj
  obtain ⟨a, ha⟩ := hat _ _ hu
  obtain ⟨b, o, x1, _, _, x4⟩ := hpp _ u hu a ha
  refine ⟨b, o, x1, ?_⟩
  have := x4 (j % T.s) c (by rw [← hj]; simp [hus, hmod])
  rw [Nat.add_assoc, show j / T.s * T.s + j % T.s = j from by rw [Nat.mul_comm]; exact Nat.div_add_mod j T.s] at this
  exact hp.cell this
/-- the cells of a list's elements -/
def cellsOf {α : Type} (T : Ty α) (es : List α) : List At := es.flatMap fun a => svCells (T.sv a)
theorem sv_of_cells {g : Gh} {s : SV} {cs : List Value} (h : oks g hs0 (svCells s) cs) : ∃ u : Value, u.cells.toList = cs ∧ s.ok g hs0 u := by
  cases s with
  | one a =>
    match cs, h with
    | [u], h => exact ⟨u, by rw [cellV.cells h.2.1], h.1⟩
  | agg l => exact ⟨.agg cs.toArray, by simp [Value.cells], cs, rfl, h⟩
theorem rowRead.of_oks {α : Type} {T : Ty α} {g : Gh} {hs : Nat → Value} (hT : T.solid) (hz : ∀ a, (svCells (T.sv a)).length = T.s) (hc : ∀ a, (T.sv a).refs = []) : ∀ {es : List α} {cs : List Value}, oks g hs (cellsOf T es) cs → rowRead T es g cs
  | [], cs, h => by
    cases cs with
    | nil => exact rowRead.nil
    | cons _ _ => exact h.elim
  | e :: es, cs, h => by
    have h1 := oks_take (svCells (T.sv e)).length h
    have h2 := oks_drop (svCells (T.sv e)).length h
    have e0 : cellsOf T (e :: es) = svCells (T.sv e) ++ cellsOf T es := by simp [cellsOf]
    rw [e0, List.take_left] at h1
    rw [e0, List.drop_left] at h2
    have ih := rowRead.of_oks hT hz hc h2
    have hclosed : oks g hs0 (svCells (T.sv e)) (cs.take (svCells (T.sv e)).length) := oks_hs (fun i hi => by
      have h3 := hc e
      cases hsv : T.sv e with
      | one a => rw [hsv] at hi h3; simp [svCells] at hi; simp only [SV.refs] at h3; rw [h3] at hi; cases hi
      | agg l => rw [hsv] at hi h3; simp only [svCells] at hi; simp only [SV.refs] at h3; rw [h3] at hi; cases hi) h1
    obtain ⟨u, hu, hok⟩ := sv_of_cells hclosed
    have hlen := oks_length hclosed
    have hone : rowRead T [e] g (cs.take (svCells (T.sv e)).length) := ⟨[u], by simp [hu], rfl, fun q u' a' hu' ha => by
      cases q with
      | zero =>
        simp at hu' ha
        subst hu' ha
        refine ⟨hok, ?_⟩
        rw [← Array.length_toList, hu, ← hlen]
        exact hz _
      | succ q => simp at hu'⟩
    have := hone.append ih
    simpa using this
end Go.Proofs.Ytfpdnigihjmohaa
