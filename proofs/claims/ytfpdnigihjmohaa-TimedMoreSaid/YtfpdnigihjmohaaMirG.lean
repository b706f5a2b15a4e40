/- Symbolic states of a walk: runs of operations that make memory of the call's own, reckoned by program. No condition. -/
import Derived.Test.YtfpdnigihjmohaaMirF
namespace Go.Proofs.Ytfpdnigihjmohaa
open Go.RowKit Go.MapKept
set_option linter.unusedSimpArgs false
set_option linter.unusedVariables false
set_option maxRecDepth 100000

def putE (n : Nat) (dst : Option Nat) (x : SC) (S : St) : Option St := match dst with
  | none => some S
  | some d => match Nat.blt d n with
    | true => some (S.put (some d) x)
    | false => none
def wantE (ops : Array Oper) (F : List (Nat × SC)) (o : Oper) : Option Bool := match o.guard with
  | none => some true
  | some (j, b) => match ops[j]? with
    | none => none
    | some oj => match oj.dst with
      | none => none
      | some t => match look t F with
        | some (.sv (.one (.v (.bool c)))) => some (c == b)
        | some (.tup []) => some false
        | _ => none
/-- new memory of the call's own -/
def newE (n : Nat) (dst : Option Nat) (it : Item) (x : SC) (S : St) : Option St := match S.refsAll (fun i => Nat.blt i S.M.length) && it.refs.all (fun i => Nat.blt i S.M.length) with
  | true => putE n dst x ⟨S.F, S.M ++ [it]⟩
  | false => none
def rlNil : Rl (Array MapEntry × Nat) := ⟨fun _ D => D = (#[], 0), fun _ _ _ _ h => h⟩
def evStore (tab : Tab) (n : Nat) (S : St) (dst : Option Nat) (t : Nat) (x y : Operand) : Option St := match evX S.F x with
  | some (.sv (.one (.ptr i off))) => match S.M[i]? with
    | some (.box cells ty false) => match tab t with
      | some ti => match evX S.F y with
        | some (.sv s) => match s with
          | .one .junk => none
          | s => match Nat.beq (svCells s).length ti.size && Nat.ble (off + (svCells s).length) cells.length with
            | true => putE n dst (.tup []) ⟨S.F, S.M.set i (.box (cells.take off ++ svCells s ++ cells.drop (off + (svCells s).length)) ty false)⟩
            | false => none
        | _ => none
      | none => none
    | _ => none
  | _ => none
def evM (tab : Tab) (n : Nat) (S : St) (o : Oper) : Option St := match o.op with
  | .alloc t => match tab t with
    | some ti => newE n o.dst (.box (ti.zero.map .v) t false) (.sv (.one (.ptr S.M.length 0))) S
    | none => none
  | .box t x => match evX S.F x with
    | some (.sv s) => match s with
      | .one .junk => none
      | s => newE n o.dst (.box (svCells s) t false) (.sv (.one (.ptr S.M.length 0))) S
    | _ => none
  | .store t x y => evStore tab n S o.dst t x y
  | .makeMap _ r => match r with
    | none => newE n o.dst (.map rlNil) (.sv (.one (.own S.M.length))) S
    | some _ => none
  | .buildSlice t len parts => match tab t with
    | some ti => match ti.sl with
      | some el => match tab el with
        | some te => match Nat.ble (len * te.size) 16777216 && Nat.blt 0 (len * te.size) with
          | true => match evP S.F parts.toList with
            | some ps => match fillE ((List.range len).map fun i => (i * te.size, te.size, te.agg)) ((List.range (len * te.size)).map fun j => .v (te.zero.getD (j % te.size) undef)) ps with
              | some r => newE n o.dst (.box r el false) (.sv (.one (.bsl S.M.length len))) S
              | none => none
            | none => none
          | false => none
        | none => none
      | none => none
    | none => none
  | _ => none
section
variable {c : Cfg} {S S' : St} {a : Act} {w : World} {g : Gh} {hs : Nat → Value} {tab : Tab} {n : Nat}
theorem putE_ok (h : Ok' c S a w g hs) (hn : c.n = n) {dst : Option Nat} {x : SC} {v : Value} (hx : x.ok g hs v) (e : putE n dst x S = some S') : Ok' c S' (a.put dst v) w g hs := by
  unfold putE at e
  split at e
  · cases e; exact h
  · rename_i d
    split at e
    · rename_i hd
      cases e
      have := Nat.le_of_ble_eq_true hd
      exact h.put (fun d' hd' => by cases hd'; rw [hn]; exact this) (fun _ _ => hx)
    · cases e
theorem wantE_ok (h : Ok' c S a w g hs) {ops : Array Oper} {o : Oper} {r : Bool} (e : wantE ops S.F o = some r) : Region.wanted o (yielded ops a.tmps) = r := by
  unfold wantE at e
  unfold Region.wanted
  split at e
  · rename_i hg
    rw [hg]
    cases e
    rfl
  · rename_i j b hg
    rw [hg]
    simp only
    split at e
    · cases e
    · rename_i oj hoj
      split at e
      · cases e
      · rename_i t ht
        rw [RM.yielded_eq, hoj]
        simp only [Option.bind_some, ht]
        split at e
        · rename_i cc hl
          cases e
          have := (h.slots t _ (look_mem hl)).1
          rw [this]
          cases cc <;> cases b <;> rfl
        · rename_i hl
          cases e
          obtain ⟨us, h1, h2⟩ := h.slots t _ (look_mem hl)
          cases us with
          | nil => rw [h1]; rfl
          | cons _ _ => exact h2.elim
        · cases e
theorem grown_alloc (w : World) (o : Obj) : w.grownBy (w.alloc o) none := World.grownBy_alloc w o none
theorem newE_ok (h : Ok' c S a w g hs) (hn : c.n = n) {dst : Option Nat} {it : Item} {x : SC} {v h0 : Value} {w' : World} (hg : w.grownBy w' none) (hb : ∀ b, blk h0 = some b → w.heap.size ≤ b ∧ b < w'.heap.size) (hf : it.fz = false)
    (hi : it.ok g hs w' h0) (hx : ∀ hs' : Nat → Value, hs' S.M.length = h0 → x.ok g hs' v) (e : newE n dst it x S = some S') : ∃ hs', Ok' c S' (a.put dst v) w' g hs' := by
  unfold newE at e
  split at e
  case h_2 => cases e
  rename_i hr
  obtain ⟨h1, h2⟩ := (Bool.and_eq_true _ _).mp hr
  have hk := h.new h1 (x := h0) (it := it) hg hb (Item.ok_hs (fun i hi => by
    have := Nat.le_of_ble_eq_true ((List.all_eq_true.1 h2) i hi)
    rw [if_neg (by omega)]) hi)
  exact ⟨_, putE_ok hk hn (hx _ (by simp)) e⟩
theorem sv_cells {s : SV} {v : Value} (hs1 : s ≠ .one .junk) (h : s.ok g hs v) : oks g hs (svCells s) v.cells.toList :=
  svCells_ok h fun a ha => by
    subst ha
    have := h.2
    cases a <;> first | exact this | exact absurd rfl hs1
/-- what a step that makes or writes memory does -/
def StepTo (c : Cfg) (S' : St) (o : Oper) (a : Act) (w : World) (g : Gh) : Prop := ∃ v w' hs', ((execOp a.eval o).run Try.prog w = .ok (.value v) w' ∨ (execOp a.eval o).run Try.prog w = .ok .skip w' ∧ v = undef) ∧ Ok' c S' (a.put o.dst v) w' g hs'
theorem run_valW {e : Sem Value} {v : Value} {w w' : World} (h : e.run Try.prog w = .ok v w') : (do pure (.value (← e)) : Sem Next).run Try.prog w = .ok (.value v) w' := by
  rw [Sem.run_bind, h]
  simp
theorem newBox_ok (h : Ok' c S a w g hs) (hn : c.n = n) {o : Oper} {cells : List At} {cs : List Value} {t : Nat} {x : SC} {v : Value} (hc : oks g hs cells cs)
    (hrun : (execOp a.eval o).run Try.prog w = .ok (.value v) (w.alloc (.cells cs.toArray t))) (hx : ∀ hs' : Nat → Value, hs' S.M.length = .pointer (some ⟨w.heap.size, 0, none⟩) → x.ok g hs' v)
    (e : newE n o.dst (.box cells t false) x S = some S') : StepTo c S' o a w g := by
  obtain ⟨hs', hk⟩ := newE_ok (it := .box cells t false) h hn (w' := w.alloc (.cells cs.toArray t)) (h0 := .pointer (some ⟨w.heap.size, 0, none⟩)) (v := v) (grown_alloc _ _)
    (fun b hb => by simp only [blk, Option.some.injEq] at hb; subst hb; simp) rfl ⟨w.heap.size, cs, rfl, hc, heap_alloc_new w _, fun h => by cases h⟩ hx e
  exact ⟨v, _, hs', .inl hrun, hk⟩
theorem ptr_new {i : Nat} {hs' : Nat → Value} {b : Nat} (e : hs' i = .pointer (some ⟨b, 0, none⟩)) : SC.ok g hs' (.sv (.one (.ptr i 0))) (.pointer (some ⟨b, 0, none⟩)) := ⟨⟨b, e, rfl⟩, trivial⟩
theorem evM_ok (ht : tab.ok) (h : Ok' c S a w g hs) (hn : c.n = n) {o : Oper} (e : evM tab n S o = some S') : StepTo c S' o a w g := by
  obtain ⟨dst, op, type, pos, after, guard⟩ := o
  cases op <;> simp only [evM] at e <;> try (cases e; done)
  case alloc t =>
    split at e
    case h_2 => cases e
    rename_i ti hti
    have htk := ht t ti hti
    obtain ⟨z, hz1, hz2⟩ := htk.run_zero
    have hzc : z.cells = ti.zero.toArray := by simp [← hz1]
    refine newBox_ok (cs := ti.zero) h hn (oks_v htk.zc) (run_valW (v := .pointer (some ⟨w.heap.size, 0, none⟩)) ?_) (fun hs' e => ptr_new e) e
    simp only [Instr.alloc, Sem.run_bind, hz2, Result.andThen_ok, newVar, newRow, newObj, Sem.run, Sem.run_pure, hzc]
    rfl
  case box t x =>
    split at e
    case h_2 => cases e
    rename_i s hs1
    split at e
    · cases e
    · rename_i hne
      have hv := evX_ok h hs1
      have hc := sv_cells (fun e => hne e) hv
      refine newBox_ok (cs := (a.eval x).cells.toList) h hn hc (run_valW (v := .pointer (some ⟨w.heap.size, 0, none⟩)) ?_) (fun hs' e => ptr_new e) e
      simp [Instr.box, newVar, newRow, newObj, Sem.run]
  case store t x y =>
    unfold evStore at e
    split at e
    case h_2 => cases e
    rename_i i off hx
    split at e
    case h_2 => cases e
    rename_i cells ty hm
    split at e
    case h_2 => cases e
    rename_i ti hti
    split at e
    case h_2 => cases e
    rename_i s hs1
    split at e
    · cases e
    · rename_i hne
      split at e
      case h_2 => cases e
      rename_i hb
      obtain ⟨b1, b2⟩ := (Bool.and_eq_true _ _).mp hb
      replace b1 := Nat.eq_of_beq_eq_true b1
      replace b2 := Nat.le_of_ble_eq_true b2
      have hv := evX_ok h hs1
      have hc := sv_cells (fun e => hne e) hv
      have htk := ht t ti hti
      obtain ⟨⟨b, hb1, hv1⟩, _⟩ := evX_ok h hx
      obtain ⟨b', cs, h1, h2, h3, h4⟩ := h.items i _ hm
      rw [hb1] at h1
      simp at h1
      subst h1
      have l1 := oks_length hc
      have l2 := oks_length h2
      have hst := run_storeCells_at (P := Try.prog) b off ty (a.eval y).cells.toList 0 cs.toArray w h3 (by simp at l1 ⊢; omega) (fun v hv => by
        have := oks_cells hc v hv
        cases v <;> first | rfl | exact this.elim)
      simp only [Nat.add_zero] at hst
      have hup := h.upd (w' := w.setRow b (cs.take off ++ (a.eval y).cells.toList ++ cs.drop (off + (a.eval y).cells.toList.length)).toArray) (it' := .box (cells.take off ++ svCells s ++ cells.drop (off + (svCells s).length)) ty false) hm rfl rfl ?_ ?_
      · refine ⟨undef, _, hs, .inr ⟨?_, rfl⟩, putE_ok (x := .tup []) hup hn (v := undef) ⟨[], rfl, trivial⟩ e⟩
        simp only [execOp, Instr.storeAt, hv1, Instr.sureAddr, storeVar, Sem.run_bind, Sem.run_pure, Result.andThen_ok, htk.run_size]
        rw [if_neg (by simp at l1; simp; omega)]
        simp only [hst, Result.andThen_ok]
      · rw [hb1]
        exact ⟨rfl, rfl, rfl, by simp, fun k hk hne => setRow_other w b k _ (fun e => hne (by rw [e]; rfl))⟩
      · refine ⟨b, _, hb1, ?_, setRow_heap w b _ _ _ _ h3, fun h => by cases h⟩
        have e1 : (a.eval y).cells.toList.length = (svCells s).length := l1.symm
        rw [e1]
        exact oks_append (oks_append (oks_take off h2) hc) (oks_drop _ h2)
  case makeMap t r =>
    split at e
    case h_2 => cases e
    obtain ⟨hs', hk⟩ := newE_ok (it := .map rlNil) h hn (w' := w.alloc (.map #[] 0)) (x := .sv (.one (.own S.M.length))) (h0 := .map (some w.heap.size)) (v := .map (some w.heap.size)) (grown_alloc _ _)
      (fun b hb => by simp only [blk, Option.some.injEq] at hb; subst hb; simp) rfl ⟨w.heap.size, #[], 0, rfl, heap_alloc_new w _, rfl⟩ (fun hs' e => ⟨e.symm, trivial⟩) e
    refine ⟨_, _, hs', .inl (run_valW (v := .map (some w.heap.size)) ?_), hk⟩
    simp [Instr.makeMap, newObj, Sem.run]
  case buildSlice t len parts =>
    split at e
    case h_2 => cases e
    rename_i ti hti
    split at e
    case h_2 => cases e
    rename_i el hel
    split at e
    case h_2 => cases e
    rename_i te hte
    split at e
    case h_2 => cases e
    rename_i hb
    obtain ⟨b1, b2⟩ := (Bool.and_eq_true _ _).mp hb
    replace b1 := Nat.le_of_ble_eq_true b1
    replace b2 := Nat.le_of_ble_eq_true b2
    split at e
    case h_2 => cases e
    rename_i ps hps
    split at e
    case h_2 => cases e
    rename_i r hr
    have hu := slT_some ((ht t ti hti).sl.trans hel)
    have htk := ht el te hte
    obtain ⟨z, hz1, hz2⟩ := htk.run_zero
    have hzc : z.cells = te.zero.toArray := by simp [← hz1]
    have hp := evP_ok h hps
    have hz0 : oks g hs ((List.range (len * te.size)).map fun j => .v (te.zero.getD (j % te.size) undef)) ((List.range (len * te.size)).map fun j => te.zero.getD (j % te.size) undef) := by
      have := oks_v (g := g) (hs := hs) (l := (List.range (len * te.size)).map fun j => te.zero.getD (j % te.size) undef) (by
        rw [List.all_eq_true]
        intro x hx
        obtain ⟨j, hj, rfl⟩ := List.mem_map.1 hx
        have hs0 : 0 < te.size := by
          rcases Nat.eq_zero_or_pos te.size with h0 | h0
          · rw [h0] at b2; omega
          · exact h0
        have hlt : j % te.size < te.zero.length := by rw [htk.zs]; exact Nat.mod_lt _ hs0
        have := List.all_eq_true.1 htk.zc (te.zero[j % te.size]) (by simp)
        simpa [List.getD, hlt] using this)
      rw [List.map_map] at this
      exact this
    obtain ⟨us', h1, h2⟩ := fill_ok (place := fun i => some (i * te.size, te.size)) (fun i off sz ag hi => by
      rw [List.getElem?_map] at hi
      cases h3 : (List.range len)[i]? with
      | none => rw [h3] at hi; cases hi
      | some j =>
        have hj : j = i := by
          have := (List.getElem?_eq_some_iff.1 h3).2
          simpa using this.symm
        subst hj
        rw [h3] at hi
        simp at hi
        obtain ⟨e1, e2, _⟩ := hi
        subst e1 e2
        rfl) hp hz0 hr
    refine newBox_ok (cs := us') (x := .sv (.one (.bsl S.M.length len))) (v := .slice (some ⟨w.heap.size, 0, none⟩) len len) h hn h2 (run_valW ?_) (fun hs' e => ⟨⟨w.heap.size, e, rfl⟩, trivial⟩) e
    have hpl : (Array.map (fun (x : Nat × Operand) => (x.1, a.eval x.2)) parts).toList = parts.toList.map fun x => (x.1, a.eval x.2) := by simp
    have hza : (Array.range (len * te.size)).map (fun j => te.zero.toArray[j % te.zero.toArray.size]!) = ((List.range (len * te.size)).map fun j => te.zero.getD (j % te.size) undef).toArray := by
      have hs0 : 0 < te.size := by
        rcases Nat.eq_zero_or_pos te.size with h0 | h0
        · rw [h0] at b2; omega
        · exact h0
      apply Array.toList_inj.1
      simp only [Array.toList_map, Array.toList_range]
      refine List.map_congr_left fun j _ => ?_
      have hlt : j % te.size < te.zero.length := by rw [htk.zs]; exact Nat.mod_lt _ hs0
      have hlt2 : j % te.zero.length < te.zero.length := by rw [htk.zs] at hlt ⊢; exact hlt
      simp only [List.size_toArray, htk.zs]
      simp [List.getD, hlt]
    simp only [Instr.buildSlice, Sem.run_bind, run_underlying hu, Result.andThen_ok, htk.run_size]
    rw [if_neg (by omega)]
    rw [if_neg (show ¬ len * te.size = 0 by omega)]
    simp only [Sem.run_bind, Sem.run_pure, Result.andThen_ok, hz2, hzc, hza, hpl, h1, newRow, newObj, Sem.run]
    rfl
end
def ev1 (tab : Tab) (n : Nat) (ops : Array Oper) (S : St) (o : Oper) : Option St := match wantE ops S.F o with
  | some true => match evV tab S o with
    | some x => putE n o.dst x S
    | none => evM tab n S o
  | some false => putE n o.dst (.tup []) S
  | none => none
def evL (tab : Tab) (n : Nat) (ops : Array Oper) : List Oper → St → Option St
  | [], S => some S
  | o :: l, S => match ev1 tab n ops S o with
    | some S' => evL tab n ops l S'
    | none => none
/-- a run of operations, walked from a symbolic state on -/
def WL (c : Cfg) (ops : Array Oper) (L : List Oper) (S : St) (N : Act → World → Prop) : Prop := ∀ a w, Ok c S a w → wpList Try.prog ops (RM.Only N) L a w
section
variable {c : Cfg} {S S' : St} {ops : Array Oper} {rest : List Oper} {N : Act → World → Prop} {tab : Tab} {n : Nat}
theorem undef_ok {g : Gh} {hs : Nat → Value} : SC.ok g hs (.tup []) undef := ⟨[], rfl, trivial⟩
theorem ev1_step (ht : tab.ok) (hn : c.n = n) {o : Oper} (e : ev1 tab n ops S o = some S') {a : Act} {w : World} (h : Ok c S a w) (hk : ∀ a' w', Ok c S' a' w' → wpList Try.prog ops (RM.Only N) rest a' w') : wpList Try.prog ops (RM.Only N) (o :: rest) a w := by
  obtain ⟨g, hs, h⟩ := h
  unfold ev1 at e
  unfold wpList
  split at e
  · rename_i hw
    rw [if_pos (wantE_ok h hw)]
    refine .inl ?_
    unfold Oper.wp
    split at e
    · rename_i x hx
      obtain ⟨v, h1, h2⟩ := evV_ok ht h hx
      rw [h1]
      exact hk _ _ ⟨g, hs, putE_ok h hn h2 e⟩
    · obtain ⟨v, w', hs', h1 | ⟨h1, rfl⟩, h2⟩ := evM_ok ht h hn e
      · rw [h1]
        exact hk _ _ ⟨g, hs', h2⟩
      · rw [h1]
        exact hk _ _ ⟨g, hs', h2⟩
  · rename_i hw
    rw [if_neg (by rw [wantE_ok h hw]; exact Bool.false_ne_true)]
    exact hk _ _ ⟨g, hs, putE_ok h hn undef_ok e⟩
  · cases e
theorem evL_step (ht : tab.ok) (hn : c.n = n) : ∀ (l : List Oper) {S : St}, evL tab n ops l S = some S' → WL c ops rest S' N → WL c ops (l ++ rest) S N
  | [], S, e, h => by cases e; exact h
  | o :: l, S, e, h => fun a w hk => by
    unfold evL at e
    split at e
    · rename_i S1 h1
      exact ev1_step ht hn h1 hk (evL_step ht hn l e h)
    · cases e
/-- the first k operations, reckoned -/
theorem WL.ev (ht : tab.ok) (hn : c.n = n) (k : Nat) (S' : St) {L : List Oper} (e : evL tab n ops (L.take k) S = some S') (h : WL c ops (L.drop k) S' N) : WL c ops L S N := by
  have := evL_step (N := N) ht hn (L.take k) e h
  rwa [List.take_append_drop] at this
theorem WL.nil (h : ∀ a w, Ok c S a w → N a w) : WL c ops [] S N := h
end
end Go.Proofs.Ytfpdnigihjmohaa
