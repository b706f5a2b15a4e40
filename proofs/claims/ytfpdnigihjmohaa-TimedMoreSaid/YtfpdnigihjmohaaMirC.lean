/- Symbolic states of a walk: operations on values, reckoned by program; that the machine does just so. No condition. -/
import Derived.Test.YtfpdnigihjmohaaMirB
namespace Go.Proofs.Ytfpdnigihjmohaa
open Go.RowKit Go.MapKept
set_option linter.unusedSimpArgs false
set_option linter.unusedVariables false
set_option maxRecDepth 100000

section ti
variable {t : Nat} {i : TI} (h : TI.ok t i)
include h
theorem TI.ok.run_size (w : World) : (sizeOf t).run Try.prog w = .ok i.size w := by
  have h1 := h.info
  cases hx : Try.prog.info? t with
  | none => rw [hx] at h1; simp at h1
  | some x =>
    rw [hx] at h1
    simp at h1
    simp [sizeOf, typeInfo, Go.program, Sem.run, hx, h1.1]
theorem TI.ok.run_zero : ∃ z : Value, z.cells.toList = i.zero ∧ ∀ w, (zeroValue t).run Try.prog w = .ok z w := by
  have h1 := h.info
  cases hx : Try.prog.info? t with
  | none => rw [hx] at h1; simp at h1
  | some x =>
    rw [hx] at h1
    simp at h1
    obtain ⟨_, ⟨z, hz, hz2⟩, _⟩ := h1
    exact ⟨z, hz2, fun w => by simp [zeroValue, typeInfo, Go.program, Sem.run, hx, hz]⟩
theorem TI.ok.run_isAgg (w : World) : (isAgg t).run Try.prog w = .ok i.agg w := by
  have h1 := h.agg
  unfold aggT at h1
  cases hx : Try.prog.underlying t with
  | none => rw [hx] at h1; simp at h1
  | some d =>
    rw [hx] at h1
    simp only [isAgg, Sem.run_bind, run_underlying hx, Result.andThen_ok]
    cases d <;> simp at h1 <;> simp [← h1]
end ti
theorem run_isAgg_of {t : Nat} {b : Bool} (h1 : aggT t = some b) (w : World) : (isAgg t).run Try.prog w = .ok b w := by
  unfold aggT at h1
  cases hx : Try.prog.underlying t with
  | none => rw [hx] at h1; simp at h1
  | some d =>
    rw [hx] at h1
    simp only [isAgg, Sem.run_bind, run_underlying hx, Result.andThen_ok]
    cases d <;> simp at h1 <;> simp [← h1]
theorem run_sizeOf_of {t s : Nat} (h1 : Try.prog.cellsOf t = s + 1) (w : World) : (sizeOf t).run Try.prog w = .ok (s + 1) w := by
  unfold Program.cellsOf at h1
  cases hx : Try.prog.info? t with
  | none => rw [hx] at h1; simp at h1
  | some x =>
    rw [hx] at h1
    simp at h1
    simp [sizeOf, typeInfo, Go.program, Sem.run, hx, h1]
/-- what fields a struct has -/
theorem TI.ok.field {t : Nat} {i : TI} (h : TI.ok t i) (hst : i.st = true) {f fo sz : Nat} {ag : Bool} (hf : i.offs[f]? = some (fo, sz, ag)) :
    ∃ fs x, Try.prog.underlying t = some (.struct fs) ∧ fs[f]? = some x ∧ x.offset = fo ∧ Try.prog.cellsOf x.type = sz ∧ aggT x.type = some ag := by
  have h1 := h.st
  rw [hst] at h1
  unfold stT at h1
  split at h1
  · rename_i fs hu
    have h2 := h.offs
    unfold fieldsT at h2
    rw [hu] at h2
    simp only at h2
    have h3 := congrArg (·[f]?) h2
    simp [hf] at h3
    obtain ⟨x, hx, e1, e2, e3⟩ := h3
    exact ⟨fs, x, hu, hx, e1, e2, e3⟩
  · cases h1
def partE (l : List At) (off sz : Nat) (ag : Bool) : Option SV := match ag with
  | true => match Nat.beq ((l.drop off).take sz).length sz with
    | true => some (.agg ((l.drop off).take sz))
    | false => none
  | false => match l[off]? with
    | some a => some (.one a)
    | none => none
theorem run_part {t off sz : Nat} {ag : Bool} (h1 : aggT t = some ag) (h2 : Try.prog.cellsOf t = sz) (hsz : 0 < sz) {g : Gh} {hs : Nat → Value} {l : List At} {cs : List Value} (hl : oks g hs l cs) {x : SV} (e : partE l off sz ag = some x) (w : World) :
    ∃ v, (part t cs.toArray off).run Try.prog w = .ok v w ∧ x.ok g hs v := by
  obtain ⟨s, rfl⟩ : ∃ s, sz = s + 1 := ⟨sz - 1, by omega⟩
  simp only [part, Sem.run_bind, run_isAgg_of h1, Result.andThen_ok]
  cases ag with
  | true =>
    simp only [partE] at e
    split at e
    · cases e
      refine ⟨.agg (cs.toArray.extract off (off + (s + 1))), by simp [run_sizeOf_of h2], ((cs.drop off).take (s + 1)), ?_, oks_take _ (oks_drop _ hl)⟩
      simp [List.extract_eq_take_drop]
    · cases e
  | false =>
    simp only [partE] at e
    split at e
    · rename_i a ha
      cases e
      obtain ⟨u, hu, h3, h4⟩ := oks_get hl ha
      exact ⟨u, by simp [hu], h3⟩
    · cases e
theorem cell_box {w : World} {b : Nat} {cs : List Value} {ty : Nat} {fr : Nat × Nat} (h : w.heap[b]? = some (.cells cs.toArray ty fr)) (o : Nat) : w.cell? ⟨b, o, none⟩ = cs[o]? := by
  unfold World.cell?
  simp [h]
theorem run_loadVar_box {t off : Nat} {i : TI} (ht : TI.ok t i) {w : World} {b : Nat} {cs : List Value} {ty : Nat} {fr : Nat × Nat} (hb : w.heap[b]? = some (.cells cs.toArray ty fr)) {g : Gh} {hs : Nat → Value} {l : List At} (hl : oks g hs l cs) {x : SV} (e : partE l off i.size i.agg = some x) :
    ∃ v, (loadVar t ⟨b, off, none⟩).run Try.prog w = .ok v w ∧ x.ok g hs v := by
  simp only [loadVar, Sem.run_bind, ht.run_isAgg, Result.andThen_ok]
  cases hag : i.agg with
  | true =>
    rw [hag] at e
    simp only [partE] at e
    split at e
    · rename_i hle
      have hle := Nat.eq_of_beq_eq_true hle
      cases e
      have ho := oks_take i.size (oks_drop off hl)
      have hlen : ((cs.drop off).take i.size).length = i.size := by rw [← oks_length ho, hle]
      have hrun := run_loadCells_list (P := Try.prog) w ⟨b, off, none⟩ ((cs.drop off).take i.size) (fun j v hj => by
        rw [Addr.add_lit, cell_box hb]
        rw [List.getElem?_take] at hj
        split at hj
        · rwa [List.getElem?_drop] at hj
        · cases hj)
      rw [hlen] at hrun
      exact ⟨_, by simp [ht.run_size, hrun], _, rfl, ho⟩
    · cases e
  | false =>
    rw [hag] at e
    simp only [partE] at e
    split at e
    · rename_i a ha
      cases e
      obtain ⟨u, hu, h3, h4⟩ := oks_get hl ha
      refine ⟨u, ?_, h3⟩
      simp [load, Sem.run, cell_box hb, hu]
    · cases e

/-- building a struct or an array -/
def fillE (offs : List (Nat × Nat × Bool)) (cells : List At) : List (Nat × List At) → Option (List At)
  | [] => some cells
  | (i, l) :: rest => match offs[i]? with
    | none => none
    | some (off, sz, _) => match Nat.beq l.length sz && Nat.ble (off + l.length) cells.length with
      | true => fillE offs (cells.take off ++ l ++ cells.drop (off + l.length)) rest
      | false => none
theorem set_cells (off : Nat) : ∀ (l : List Value) (cells : List Value) (k : Nat), off + k + l.length ≤ cells.length →
    (l.zipIdx k).foldl (fun (cs : Array Value) (x : Value × Nat) => cs.setIfInBounds (off + x.2) x.1) cells.toArray = (cells.take (off + k) ++ l ++ cells.drop (off + k + l.length)).toArray
  | [], cells, k, h => by simp
  | x :: l, cells, k, h => by
    simp only [List.length_cons] at h
    rw [List.zipIdx_cons, List.foldl_cons, List.setIfInBounds_toArray, set_cells off l (cells.set (off + k) x) (k + 1) (by simp; omega)]
    congr 1
    apply List.ext_getElem?
    intro j
    simp only [List.getElem?_append, List.length_append, List.length_take, List.length_set, List.getElem?_take, List.getElem?_drop, List.getElem?_set, List.length_cons]
    have e1 : min (off + (k + 1)) cells.length = off + k + 1 := by omega
    have e2 : min (off + k) cells.length = off + k := by omega
    rw [e1, e2]
    by_cases c1 : j < off + k
    · simp [c1, show j < off + k + 1 by omega, show j < off + k + 1 + l.length by omega, show j < off + k + (l.length + 1) by omega, show ¬ off + k = j by omega]
      omega
    · by_cases c2 : j = off + k
      · subst c2
        simp [show off + k < off + k + 1 + l.length by omega, show off + k < off + (k + 1) by omega, show off + k < cells.length by omega]
      · by_cases c3 : j < off + k + 1 + l.length
        · simp [c1, c3, show ¬ j < off + k + 1 by omega, show j < off + k + (l.length + 1) by omega]
          rw [show j - (off + k) = (j - (off + k + 1)) + 1 by omega]
          simp
        · simp [c3, show ¬ j < off + k + (l.length + 1) by omega, show off + (k + 1) + l.length + (j - (off + k + 1 + l.length)) = off + k + (l.length + 1) + (j - (off + k + (l.length + 1))) by omega]
          intro h1
          omega
def svCells : SV → List At
  | .one a => [a]
  | .agg l => l
theorem svCells_ok {g : Gh} {hs : Nat → Value} {x : SV} {v : Value} (h : x.ok g hs v) (hj : ∀ a, x = .one a → cellV v) : oks g hs (svCells x) v.cells.toList := by
  cases x with
  | one a =>
    have hc := hj a rfl
    rw [cellV.cells hc]
    exact ⟨h, hc, trivial⟩
  | agg l =>
    obtain ⟨cs, rfl, h⟩ := h
    simpa [Value.cells, svCells] using h
def evP (F : List (Nat × SC)) : List (Nat × Operand) → Option (List (Nat × List At))
  | [] => some []
  | (i, o) :: r => match evX F o with
    | some (.sv (.agg l)) => match evP F r with
      | some rs => some ((i, l) :: rs)
      | none => none
    | some (.sv (.one .junk)) => none
    | some (.sv (.one a)) => match evP F r with
      | some rs => some ((i, [a]) :: rs)
      | none => none
    | _ => none
/-- parts and their values -/
def PartsOk (g : Gh) (hs : Nat → Value) : List (Nat × List At) → List (Nat × Value) → Prop
  | [], [] => True
  | (i, l) :: r, (j, v) :: r' => i = j ∧ oks g hs l v.cells.toList ∧ PartsOk g hs r r'
  | _, _ => False
theorem evP_ok {c : Cfg} {S : St} {a : Act} {w : World} {g : Gh} {hs : Nat → Value} (h : Ok' c S a w g hs) : ∀ {l : List (Nat × Operand)} {r : List (Nat × List At)}, evP S.F l = some r → PartsOk g hs r (l.map fun x => (x.1, a.eval x.2))
  | [], r, e => by cases e; trivial
  | (i, o) :: l, r, e => by
    unfold evP at e
    split at e
    · rename_i x hx
      split at e
      · rename_i rs hr
        cases e
        exact ⟨rfl, svCells_ok (x := .agg x) (evX_ok h hx) (fun _ h => by cases h), evP_ok h hr⟩
      · cases e
    · cases e
    · rename_i x hne hx
      split at e
      · rename_i rs hr
        cases e
        have hk := evX_ok h hx
        refine ⟨rfl, svCells_ok (x := .one x) hk (fun _ _ => ?_), evP_ok h hr⟩
        have hk2 : x.ok g hs (a.eval o) := hk
        have := hk2.2
        cases x <;> first | exact this | exact absurd rfl hne
      · cases e
    · cases e
theorem fill_ok {g : Gh} {hs : Nat → Value} {offs : List (Nat × Nat × Bool)} {place : Nat → Option (Nat × Nat)} (hp : ∀ i off sz ag, offs[i]? = some (off, sz, ag) → place i = some (off, sz)) :
    ∀ {ps : List (Nat × List At)} {vs : List (Nat × Value)} {cells : List At} {us : List Value} {r : List At}, PartsOk g hs ps vs → oks g hs cells us → fillE offs cells ps = some r → ∃ us', Instr.fill place us.toArray vs = some us'.toArray ∧ oks g hs r us'
  | [], [], cells, us, r, _, hc, e => by cases e; exact ⟨us, rfl, hc⟩
  | [], _ :: _, _, _, _, h, _, _ => h.elim
  | _ :: _, [], _, _, _, h, _, _ => h.elim
  | (i, l) :: ps, (j, v) :: vs, cells, us, r, h, hc, e => by
    obtain ⟨rfl, hl, h⟩ := h
    unfold fillE at e
    split at e
    · cases e
    · rename_i off sz ag ho
      split at e
      · rename_i hb
        obtain ⟨b1, b2⟩ := (Bool.and_eq_true _ _).mp hb
        replace b1 := Nat.eq_of_beq_eq_true b1
        replace b2 := Nat.le_of_ble_eq_true b2
        have l1 := oks_length hl
        have l2 := oks_length hc
        simp only [Array.length_toList] at l1
        unfold Instr.fill
        rw [hp _ _ _ _ ho]
        simp only
        rw [if_neg (by simp; omega)]
        have hset := set_cells off v.cells.toList us 0 (by simp; omega)
        have e3 : Array.foldl (fun (cs : Array Value) (x : Value × Nat) => cs.setIfInBounds (off + x.2) x.1) us.toArray v.cells.zipIdx = (us.take off ++ v.cells.toList ++ us.drop (off + v.cells.toList.length)).toArray := by
          rw [← Array.foldl_toList]
          simpa using hset
        simp only [Array.length_toList] at e3
        rw [e3]
        have hn := oks_append (oks_append (oks_take off hc) hl) (oks_drop (off + l.length) hc)
        rw [l1] at hn e
        exact fill_ok hp h hn e
      · cases e
end Go.Proofs.Ytfpdnigihjmohaa
