/- Symbolic states of a walk: slices that are only read. No condition. -/
import Derived.Test.YtfpdnigihjmohaaMirI
namespace Go.Proofs.Ytfpdnigihjmohaa
open Go.RowKit Go.MapKept
set_option linter.unusedSimpArgs false
set_option linter.unusedVariables false
set_option maxRecDepth 100000

/-- how an element lies in memory -/
structure Ty (α : Type) where
  s : Nat
  sv : α → SV
def svR (s : SV) : Rd := ⟨fun g v => s.ok g hs0 v, fun _ _ _ h => SV.mono h⟩
def slRead {α : Type} (T : Ty α) (l : List α) (g : Gh) (v : Value) : Prop :=
  ∃ ao n cap, v = .slice ao n cap ∧ n = l.length ∧ n ≤ cap ∧ cap ≤ maxLen ∧ (ao = none → cap = 0) ∧
    ∀ q a, l[q]? = some a → ∃ b o u, ao = some ⟨b, o, none⟩ ∧ (T.sv a).ok g hs0 u ∧ u.cells.size = T.s ∧ ∀ j c, u.cells[j]? = some c → g.cell ⟨b, o + q * T.s + j, none⟩ = some c
def slR {α : Type} (T : Ty α) (l : List α) : Rd := ⟨slRead T l, fun g g' v h ⟨ao, n, cap, h1, h2, h3, h4, h5, h6⟩ => ⟨ao, n, cap, h1, h2, h3, h4, h5, fun q a hq => by
  obtain ⟨b, o, u, k1, k2, k3, k4⟩ := h6 q a hq
  exact ⟨b, o, u, k1, SV.mono h k2, k3, fun j c hj => Gh.cell_up h (k4 j c hj)⟩⟩⟩
/-- a slice that reads as a list -/
abbrev LS {α : Type} (T : Ty α) (l : List α) : At := .sl (slR T l) l.length
def intT : Ty Int := ⟨1, fun x => .one (I x)⟩
def boolT : Ty Bool := ⟨1, fun x => .one (B x)⟩
def lsT {α : Type} (T : Ty α) : Ty (List α) := ⟨1, fun l => .one (LS T l)⟩
/-- an element by its index -/
def idx {α : Type} (l : List α) (i : Int) : Option α := if 0 ≤ i then l[i.toNat]? else none
theorem idx_some {α : Type} {l : List α} {i : Int} {a : α} (h : idx l i = some a) : 0 ≤ i ∧ i < l.length ∧ l[i.toNat]? = some a := by
  unfold idx at h
  split at h
  · rename_i h0
    have := (List.getElem?_eq_some_iff.1 h).1
    exact ⟨h0, by omega, h⟩
  · cases h
/-- the operation o yields what is as x says -/
def Val (c : Cfg) (S : St) (o : Oper) (x : SC) : Prop := ∀ a w g hs, Ok' c S a w g hs → ∃ v, (execOp a.eval o).run Try.prog w = .ok (.value v) w ∧ x.ok g hs v
section
variable {c : Cfg} {S S' : St} {a : Act} {w : World} {g : Gh} {hs : Nat → Value} {tab : Tab} {n : Nat} {o : Oper} {ops : Array Oper} {rest : List Oper} {N : Po}
theorem WL.val {x : SC} (hn : c.n = n) (hw : wantE ops S.F o = some true) (hv : Val c S o x) (e : putE n o.dst x S = some S') (h : WL c ops rest S' N) : WL c ops (o :: rest) S N := fun a w ⟨g, hs, hk⟩ => by
  unfold wpList
  rw [if_pos (wantE_ok hk hw)]
  refine .inl ?_
  unfold Oper.wp
  obtain ⟨v, h1, h2⟩ := hv a w g hs hk
  rw [h1]
  exact h _ _ ⟨g, hs, putE_ok hk hn h2 e⟩
theorem svs_add (b o k : Nat) : (⟨b, o, none⟩ : Addr).add k = ⟨b, o + k, none⟩ := Addr.add_lit _ _ _
/-- the address of an element -/
theorem val_index {α : Type} {T : Ty α} {l : List α} {i : Int} {y : α} {t el : Nat} {ti te : TI} {x ix : Operand} {k : IntKind} {m : Nat} (ht : tab.ok) (ho : o.op = .indexAddr t x ix) (h1 : tab t = some ti) (h2 : ti.sl = some el) (h3 : tab el = some te) (h4 : te.size = T.s)
    (hx : evX S.F x = some (.sv (.one (.sl (slR T l) m)))) (hi : evK S.F ix = some (.int k i)) (hy : idx l i = some y) : Val c S o (.sv (.one (.pe (svR (T.sv y)) T.s))) := fun a w g hs h => by
  obtain ⟨h5, h6, h7⟩ := idx_some hy
  have hu := slT_some ((ht t ti h1).sl.trans h2)
  obtain ⟨⟨⟨ao, n', cap, e1, e2, e3, e4, e5, e6⟩, _⟩, _⟩ := evX_ok h hx
  obtain ⟨b, off, u, rfl, k2, k3, k4⟩ := e6 _ _ h7
  refine ⟨.pointer (some ⟨b, off + i.toNat * T.s, none⟩), ?_, ⟨b, _, u, rfl, k2, k3, k4⟩, trivial⟩
  have : (execOp a.eval o) = (do pure (.value (← Instr.indexAt t (a.eval x) (a.eval ix))) : Sem Next) := by unfold execOp; rw [ho]
  rw [this]
  refine run_val ?_
  have hlt : 0 ≤ i ∧ i < (n' : Int) := ⟨h5, by rw [e2]; exact h6⟩
  simp only [Instr.indexAt, evK_ok h hi, asIntOf, e1, Sem.run_bind, Sem.run_pure, Result.andThen_ok, run_underlying hu, if_pos hlt, (ht el te h3).run_size, h4, svs_add]
/-- is this the form of such a value? -/
def svFits (ti : TI) : SV → Bool
  | .agg _ => ti.agg
  | .one .junk => false
  | .one _ => !ti.agg
/-- what lies at an address -/
theorem val_load {s : SV} {sz t : Nat} {ti : TI} {x : Operand} (ht : tab.ok) (ho : o.op = .load t x) (h1 : tab t = some ti) (h2 : ti.size = sz) (h3 : svFits ti s = true) (hx : evX S.F x = some (.sv (.one (.pe (svR s) sz)))) (hc : s.refs = []) : Val c S o (.sv s) := fun a w g hs h => by
  obtain ⟨⟨b, off, u, e1, e2, e3, e4⟩, _⟩ := evX_ok h hx
  have htk := ht t ti h1
  have : (execOp a.eval o) = (do pure (.value (← Instr.loadAt t (a.eval x))) : Sem Next) := by unfold execOp; rw [ho]
  rw [this]
  have e2' : s.ok g hs u := SV.ok_hs (fun i hi => by rw [hc] at hi; cases hi) e2
  refine ⟨u, run_val ?_, e2'⟩
  have hcell : ∀ j v, u.cells.toList[j]? = some v → w.cell? ((⟨b, off, none⟩ : Addr).add j) = some v := fun j v hj => by
    rw [svs_add]
    exact h.base.pers.cell (e4 j v (by simpa using hj))
  simp only [Instr.loadAt, e1, Instr.sureAddr, loadVar, Sem.run_bind, Sem.run_pure, Result.andThen_ok, htk.run_isAgg]
  cases s with
  | agg l =>
    simp only [svFits] at h3
    rw [h3]
    obtain ⟨cs, rfl, _⟩ := e2
    have hl := run_loadCells_list (P := Try.prog) w ⟨b, off, none⟩ cs (by simpa [Value.cells] using hcell)
    have e5 : cs.length = ti.size := by rw [h2, ← e3]; simp [Value.cells]
    rw [e5] at hl
    simp [htk.run_size, hl]
  | one x =>
    have h3' : ti.agg = false ∧ cellV u := by
      have h6 := e2.2
      cases x <;> first | exact ⟨by simpa [svFits] using h3, h6⟩ | (simp [svFits] at h3)
    have hcv : u.cells = #[u] := cellV.cells h3'.2
    rw [h3'.1]
    have := hcell 0 u (by rw [hcv]; rfl)
    rw [svs_add, Nat.add_zero] at this
    simp [load, Sem.run, this]
/-- the address of a part of what lies at an address -/
theorem val_field {l : List At} {sz t f fo fs : Nat} {ag : Bool} {ti : TI} {x : Operand} {r : SV} (ht : tab.ok) (ho : o.op = .fieldAddr t x f) (h1 : tab t = some ti) (h2 : ti.st = true) (h3 : ti.offs[f]? = some (fo, fs + 1, ag)) (h4 : partE l fo (fs + 1) ag = some r)
    (hx : evX S.F x = some (.sv (.one (.pe (svR (.agg l)) sz)))) (h6 : (svCells r).length = fs + 1) : Val c S o (.sv (.one (.pe (svR r) (fs + 1)))) := fun a w g hs h => by
  obtain ⟨⟨b, off, u, e1, ⟨cs, rfl, e2⟩, e3, e4⟩, _⟩ := evX_ok h hx
  obtain ⟨fss, fx, k1, k2, k3, k4, k5⟩ := (ht t ti h1).field h2 h3
  have : (execOp a.eval o) = (do pure (.value (← Instr.fieldAt t (a.eval x) f)) : Sem Next) := by unfold execOp; rw [ho]
  rw [this]
  have key : ∃ v : Value, r.ok g hs0 v ∧ v.cells.size = fs + 1 ∧ ∀ j c, v.cells[j]? = some c → cs[fo + j]? = some c := by
    cases ag with
    | true =>
      simp only [partE] at h4
      split at h4
      · rename_i hb
        cases h4
        have ho := oks_take (fs + 1) (oks_drop fo e2)
        have hl := oks_length ho
        refine ⟨.agg ((cs.drop fo).take (fs + 1)).toArray, ⟨_, rfl, ho⟩, by simp only [Value.cells, List.size_toArray]; rw [← hl]; exact h6, fun j c hj => ?_⟩
        simp only [Value.cells, List.getElem?_toArray, List.getElem?_take] at hj
        split at hj
        · rwa [List.getElem?_drop] at hj
        · cases hj
      · cases h4
    | false =>
      simp only [partE] at h4
      split at h4
      · rename_i y hy
        cases h4
        obtain ⟨v, hv, h7, h8⟩ := oks_get e2 hy
        have h9 : fs + 1 = 1 := by simpa [svCells] using h6.symm
        refine ⟨v, h7, by rw [cellV.cells h8, h9]; rfl, fun j c hj => ?_⟩
        rw [cellV.cells h8] at hj
        cases j with
        | zero => simp at hj; subst hj; exact hv
        | succ j => simp at hj
      · cases h4
  obtain ⟨v, v1, v2, v3⟩ := key
  refine ⟨.pointer (some ⟨b, off + fo, none⟩), run_val ?_, ⟨b, off + fo, v, rfl, v1, v2, fun j c hj => ?_⟩, trivial⟩
  · simp only [Instr.fieldAt, Sem.run_bind, run_underlying k1, Result.andThen_ok, k2, e1, Instr.sureAddr, Sem.run_pure, fieldPlace, run_sizeOf_of k4]
    simp [k3, Addr.add_lit]
  · rw [Nat.add_assoc]
    exact e4 (fo + j) c (by simpa [Value.cells] using v3 j c hj)
end
end Go.Proofs.Ytfpdnigihjmohaa
