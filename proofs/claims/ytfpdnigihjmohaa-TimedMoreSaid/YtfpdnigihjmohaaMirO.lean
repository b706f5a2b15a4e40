/- Symbolic states of a walk: operations on slices of the call's own. No condition. -/
import Derived.Test.YtfpdnigihjmohaaMirN
namespace Go.Proofs.Ytfpdnigihjmohaa
open Go.RowKit Go.MapKept
set_option linter.unusedSimpArgs false
set_option linter.unusedVariables false
set_option maxRecDepth 100000

abbrev rowI {α : Type} (ty : Nat) (T : Ty α) (l : List α) : Item := .row ty T.s (rowR T l) l.length
theorem TI.ok.parts {t : Nat} {i : TI} (h : TI.ok t i) : ∃ x z, Try.prog.info? t = some x ∧ x.zero = some z ∧ x.size = i.size ∧ x.bytes = i.bytes ∧ z.cells.toList = i.zero := by
  have h1 := h.info
  cases hx : Try.prog.info? t with
  | none => rw [hx] at h1; simp at h1
  | some x =>
    rw [hx] at h1
    simp at h1
    obtain ⟨e1, ⟨z, hz, hz2⟩, e3⟩ := h1
    exact ⟨x, z, rfl, hz, e1, e3, hz2⟩
theorem blk_slice {v : Value} (h : ∃ ao n cap, v = .slice ao n cap) : blk v = v.ownBlock := by
  obtain ⟨ao, n, cap, rfl⟩ := h
  cases ao <;> rfl
theorem ownsRow_slice {w : World} {base : Nat} {e : TypeId} {s : Nat} {v : Value} {n : Nat} {xs : List Value} (h : w.ownsRow base e s v n xs) : ∃ ao m cap, v = .slice ao m cap := by
  rcases h.2 with ⟨rfl, _⟩ | ⟨g, cap, cur, rfl, _⟩ <;> exact ⟨_, _, _, rfl⟩
theorem run_append_src {w : World} {t ty e : Nat} {ti te : TI} (hu : Try.prog.underlying t = some (.slice e)) (hte : TI.ok e te) (hs : 0 < te.size) {v : Value} {n : Nat} {xs : List Value} (hown : w.ownsRow 0 e te.size v n xs)
    {vx : Value} {m : Nat} {news : List Value} (hsrc : SrcRow w te.size vx m news) (h63 : n + m ≤ maxLen) (hbytes : (n + m) * te.bytes ≤ 140737488355328) :
    ∃ v' w', (Builtin.append_ #[t, t] ty #[v, vx]).run Try.prog w = .ok v' w' ∧ w'.ownsRow 0 e te.size v' (n + m) (xs ++ news) ∧ w.grownBy w' v.ownBlock ∧ (v'.ownBlock = v.ownBlock ∨ v'.ownBlock = some w.heap.size) := by
  obtain ⟨x, z, h1, h2, h3, h4, h5⟩ := hte.parts
  obtain ⟨ao, c, rfl, hnil, hl, hcells, hone⟩ := hsrc
  have hzs : z.cells.size = te.size := by rw [← Array.length_toList, h5, hte.zs]
  cases ao with
  | none =>
    obtain ⟨rfl, rfl⟩ := hnil rfl
    have hn : news = [] := List.eq_nil_of_length_eq_zero (by simpa using hl)
    subst hn
    exact ⟨v, w, run_append_owned_none w 0 t ty e x te.size hu h1 v n xs hown, by simpa using hown, ⟨rfl, rfl, rfl, Nat.le_refl _, fun _ _ _ => rfl⟩, .inl rfl⟩
  | some a =>
    obtain ⟨v', w', r1, r2, r3, _, r5⟩ := run_append_own_at w 0 t ty e x z te.size te.bytes hu h1 h2 h3 h4 hzs hs v n xs hown a m c news hl (fun j u hj => by
      obtain ⟨b, o, e1, e2⟩ := hcells j u hj
      cases e1
      rw [svs_add]
      exact e2) hone h63 hbytes (Nat.zero_le _)
    exact ⟨v', w', r1, r2, r3, r5⟩
section
variable {c : Cfg} {S S1 : St} {a : Act} {w : World} {g : Gh} {hs : Nat → Value} {tab : Tab} {n : Nat} {o : Oper} {ops : Array Oper} {rest L : List Oper} {N : Po}
/-- what is appended -/
def SrcOk {α : Type} (c : Cfg) (S : St) (y : Operand) (T : Ty α) (es : List α) : Prop := ∀ a w g hs, Ok' c S a w g hs → ∃ cs, SrcRow w T.s (a.eval y) es.length cs ∧ rowRead T es g cs
theorem srcLS {α : Type} {T : Ty α} {es : List α} {y : Operand} {m : Nat} (hT : T.solid) (hs : 0 < T.s) (hy : evX S.F y = some (.sv (.one (.sl (slR T es) m)))) : SrcOk c S y T es := fun a w g hs' h =>
  src_LS hT hs h.base.pers (evX_ok h hy).1.1
theorem srcBsl {α : Type} {T : Ty α} (es : List α) {y : Operand} {j m ty : Nat} {fz : Bool} {cells : List At} (hT : T.solid) (hz : ∀ a, (svCells (T.sv a)).length = T.s) (hc : ∀ a, (T.sv a).refs = []) (hy : evX S.F y = some (.sv (.one (.bsl j m)))) (hm : S.M[j]? = some (.box cells ty fz)) (he : cells = cellsOf T es) (hl : m = es.length) : SrcOk c S y T es := fun a w g hs' h => by
  obtain ⟨⟨b, hb, hv⟩, _⟩ := evX_ok h hy
  obtain ⟨b', cs, h1, h2, h3, _⟩ := h.items j _ hm
  rw [hb] at h1
  simp at h1
  subst h1
  subst he hl
  have hr := rowRead.of_oks hT hz hc h2
  refine ⟨cs, ⟨some ⟨b, 0, none⟩, es.length, hv, (fun e => by cases e), hr.length, fun j u hj => ⟨b, 0, rfl, ?_⟩, fun u hu => (oks_cells h2 u hu).one⟩, hr⟩
  rw [Nat.zero_add, cell_box h3]
  exact hj
/-- append -/
theorem mt_append {α : Type} {T : Ty α} {l es : List α} {i p : Nat} {x y : Operand} {t e : Nat} {ti te : TI} (ht : tab.ok) (ho : o.op = .call ⟨.builtin .append, #[x, y], #[t, t]⟩) (h1 : tab t = some ti) (h2 : ti.sl = some e) (h3 : tab e = some te) (h4 : te.size = T.s) (h5 : 0 < T.s)
    (hx : evX S.F x = some (.sv (.one (.own i)))) (hm : S.M[i]? = some (rowI e T l)) (hsrc : SrcOk c S y T es) (hb : (l.length + es.length) * te.bytes ≤ 140737488355328) (hb2 : l.length + es.length ≤ 140737488355328) : MT c S o (.sv (.one (.own p))) [i] (some (p, rowI e T (l ++ es))) := fun a w g hs h N Z hN => by
  have hu := slT_some ((ht t ti h1).sl.trans h2)
  have hv : a.eval x = hs i := (evX_ok h hx).1
  obtain ⟨cs, r1, r2⟩ := h.items i _ hm
  obtain ⟨cs', r3, r4⟩ := hsrc a w g hs h
  rw [← h4] at r1 r3 h5
  obtain ⟨v', w', k1, k2, k3, k4⟩ := run_append_src (ty := o.type) (ti := ti) hu (ht e te h3) h5 r1 r3 (by simp only [maxLen]; omega) hb
  unfold Oper.wp
  have hrun : (execOp a.eval o).run Try.prog w = .ok (.value v') w' := by
    have : execOp a.eval o = (do pure (.value (← Builtin.append_ #[t, t] o.type #[a.eval x, a.eval y])) : Sem Next) := by
      unfold execOp
      rw [ho]
      simp [resolve, invoke, builtin]
    rw [this, hv]
    exact run_valW k1
  rw [hrun]
  have hsl := ownsRow_slice r1
  have hsl' := ownsRow_slice k2
  have hbi : ∀ b, (hs i).ownBlock = some b → g b = none := fun b hb => ((h.mine i _ hm (by simp) b (by rw [blk_slice hsl]; exact hb)).2 rfl).2
  refine hN v' w' g v' ⟨k3.os, k3.tape, k3.output, k3.size, fun b hb hk => k3.block b hb (fun e => hk i (by simp) (by rw [blk_slice hsl]; exact e.symm)), Gh.le.refl g, fun b o e => .inl e, fun b o e => ?_⟩ ⟨?_, ?_⟩ ⟨⟨cs ++ cs', ?_, r2.append r4⟩, fun b hb => ?_⟩
  · refine (k3.block b (h.base.pers.lt e) (fun e2 => ?_)).trans (h.base.pers b o e)
    rw [hbi b e2.symm] at e
    cases e
  · show v' = (if p = p then v' else hs p)
    rw [if_pos rfl]
  · obtain ⟨ao, m, cap, rfl⟩ := hsl'
    trivial
  · rw [List.length_append, ← h4]
    exact k2
  · rw [blk_slice hsl'] at hb
    rcases k4 with e | e
    · rw [hb] at e
      obtain ⟨m1, m2⟩ := h.mine i _ hm (by simp) b (by rw [blk_slice hsl]; exact e.symm)
      exact ⟨Nat.lt_of_lt_of_le m1 k3.size, fun _ => (m2 rfl).2, .inr ⟨i, by simp, by rw [blk_slice hsl]; exact e.symm⟩⟩
    · rw [hb] at e
      cases e
      have := k2.lt w.heap.size hb
      refine ⟨this.2, fun _ => ?_, .inl (Nat.le_refl _)⟩
      cases hgb : g w.heap.size with
      | none => rfl
      | some o => have := h.base.pers.lt hgb; omega
theorem Eff.refl (h : Base c w g) : Eff hs [] w g w g := ⟨rfl, rfl, rfl, Nat.le_refl _, fun _ _ _ => rfl, Gh.le.refl g, fun _ _ e => .inl e, h.pers⟩
/-- an empty slice, as one of the call's own -/
theorem WL.rowNil {α : Type} (t p e : Nat) (T : Ty α) (hl : look t S.F = some (.sv (.one (.v (.slice none 0 0))))) (hr : S.refsAll (fun i => !(Nat.beq i p)) = true)
    (h : WL c ops L ⟨(t, .sv (.one (.own p))) :: S.F, newM S.M [] (some (p, rowI e T []))⟩ N) : WL c ops L S N := fun a w ⟨g, hs, hk⟩ => by
  have hv := (hk.slots t _ (look_mem hl)).1
  have he := hk.eff (K := []) (p := some (p, rowI e T [])) (h' := .slice none 0 0) (Eff.refl hk.base) ⟨⟨[], World.ownsRow_nil _ _ _ _, rowRead.nil⟩, fun b hb => by cases hb⟩ hr rfl
  refine h a w ⟨g, _, he.size, he.defers, he.base, fun t' y hy => ?_, he.items, he.sep, he.mine⟩
  rcases List.mem_cons.1 hy with hy | hy
  · cases hy
    refine ⟨?_, by rw [hv]; trivial⟩
    show _ = (if p = p then _ else hs p)
    rw [if_pos rfl]
    exact hv
  · exact he.slots t' y hy
/-- a slice whose elements were written out, as one of the call's own -/
theorem WL.rowLit {α : Type} (t j e : Nat) (T : Ty α) (es : List α) {m : Nat} {cells : List At} (S2 : St) (hl : look t S.F = some (.sv (.one (.bsl j m)))) (hm : S.M[j]? = some (.box cells e false)) (hT : T.solid) (hz : ∀ a, (svCells (T.sv a)).length = T.s) (hc : ∀ a, (T.sv a).refs = [])
    (he : cells = cellsOf T es) (hlen : m = es.length) (hml : es.length ≤ 140737488355328) (h2 : subE S2 S = subX S2) (hr : S2.refsAll (fun i => !(Nat.beq i j)) = true) (hj : (match S2.M[j]? with | some it => !it.fz | none => false) = true)
    (h : WL c ops L ⟨(t, .sv (.one (.own j))) :: S2.F, newM S2.M [j] (some (j, rowI e T es))⟩ N) : WL c ops L S N := fun a w ⟨g, hs, hk⟩ => by
  obtain ⟨⟨b, hb, hv⟩, _⟩ := hk.slots t _ (look_mem hl)
  obtain ⟨b', cs, k1, k2, k3, _⟩ := hk.items j _ hm
  rw [hb] at k1
  simp at k1
  subst k1
  subst he hlen
  have hrow := rowRead.of_oks hT hz hc k2
  have hmine := hk.mine j _ hm (by simp) b (by rw [hb]; rfl)
  have hk2 := sub_ok' h2 a w g hs hk
  have hown : w.ownsRow 0 e T.s (.slice (some ⟨b, 0, none⟩) es.length es.length) es.length cs := ⟨hrow.length, .inr ⟨b, es.length, cs.toArray, rfl, Nat.zero_le _, k3, Nat.le_refl _, by simp only [maxLen]; omega, by simpa using hrow.length, by simpa using (List.take_of_length_le (by rw [hrow.length]; exact Nat.le_refl _))⟩⟩
  have he := hk2.eff (K := [j]) (p := some (j, rowI e T es)) (h' := .slice (some ⟨b, 0, none⟩) es.length es.length) ⟨rfl, rfl, rfl, Nat.le_refl _, fun _ _ _ => rfl, Gh.le.refl g, fun _ _ e => .inl e, hk.base.pers⟩
    ⟨⟨cs, hown, hrow⟩, fun b' hb' => by
      cases hb'
      exact ⟨hmine.1, fun _ => (hmine.2 rfl).2, .inr ⟨j, by simp, by rw [hb]; rfl⟩⟩⟩ hr (by simp only [usable, List.all_cons, List.all_nil, Bool.and_true]; exact hj)
  refine h a w ⟨g, _, he.size, he.defers, he.base, fun t' y hy => ?_, he.items, he.sep, he.mine⟩
  rcases List.mem_cons.1 hy with hy | hy
  · cases hy
    refine ⟨?_, by rw [hv]; trivial⟩
    show _ = (if j = j then _ else hs j)
    rw [if_pos rfl]
    exact hv
  · exact he.slots t' y hy
/-- the address of an element -/
theorem val_indexO {α : Type} {T : Ty α} {l : List α} {i : Nat} {k : Int} {y : α} {t el : Nat} {ti te : TI} {x ix : Operand} {ik : IntKind} (ht : tab.ok) (ho : o.op = .indexAddr t x ix) (h1 : tab t = some ti) (h2 : ti.sl = some el) (h3 : tab el = some te) (h4 : te.size = T.s) (h5 : 0 < T.s)
    (hx : evX S.F x = some (.sv (.one (.own i)))) (hm : S.M[i]? = some (rowI el T l)) (hi : evK S.F ix = some (.int ik k)) (hy : idx l k = some y) : Val c S o (.sv (.one (.oe i k.toNat T.s))) := fun a w g hs h => by
  obtain ⟨g5, g6, g7⟩ := idx_some hy
  have hu := slT_some ((ht t ti h1).sl.trans h2)
  have hv : a.eval x = hs i := (evX_ok h hx).1
  obtain ⟨cs, ⟨hl0, r1⟩, r2⟩ := h.items i _ hm
  rcases r1 with ⟨e1, e2⟩ | ⟨gb, cap, cur, e1, _⟩
  · omega
  · refine ⟨.pointer (some ⟨gb, k.toNat * T.s, none⟩), ?_, ⟨gb, l.length, cap, e1, rfl⟩, trivial⟩
    have : (execOp a.eval o) = (do pure (.value (← Instr.indexAt t (a.eval x) (a.eval ix))) : Sem Next) := by unfold execOp; rw [ho]
    rw [this]
    refine run_val ?_
    have hlt : 0 ≤ k ∧ k < (l.length : Int) := ⟨g5, g6⟩
    simp only [Instr.indexAt, evK_ok h hi, asIntOf, hv, e1, Sem.run_bind, Sem.run_pure, Result.andThen_ok, run_underlying hu, if_pos hlt, (ht el te h3).run_size, h4, svs_add, Nat.zero_add]
theorem row_elem {α : Type} {T : Ty α} {l : List α} {cs : List Value} (h : rowRead T l g cs) {k : Nat} {y : α} (hy : l[k]? = some y) : ∃ u : Value, (T.sv y).ok g hs0 u ∧ u.cells.size = T.s ∧ ∀ j c, u.cells[j]? = some c → cs[k * T.s + j]? = some c := by
  obtain ⟨us, rfl, h2, h3⟩ := h
  have hlt := (List.getElem?_eq_some_iff.1 hy).1
  have hu : us[k]? = some (us[k]'(by omega)) := by simp
  obtain ⟨x1, x2⟩ := h3 k _ y hu hy
  exact ⟨_, x1, x2, fun j c hj => flat_at (rowRead.sizes h2 h3) hu hj⟩
/-- an element -/
theorem val_loadO {α : Type} {T : Ty α} {l : List α} {i k t el : Nat} {y : α} {ti : TI} {x : Operand} (ht : tab.ok) (ho : o.op = .load t x) (h1 : tab t = some ti) (h2 : ti.size = T.s) (h3 : svFits ti (T.sv y) = true)
    (hx : evX S.F x = some (.sv (.one (.oe i k T.s)))) (hm : S.M[i]? = some (rowI el T l)) (hy : l[k]? = some y) (hc : (T.sv y).refs = []) : Val c S o (.sv (T.sv y)) := fun a w g hs h => by
  obtain ⟨⟨b, nn, cap, e1, e2⟩, _⟩ := evX_ok h hx
  obtain ⟨cs, ⟨hl0, r1⟩, r2⟩ := h.items i _ hm
  have htk := ht t ti h1
  obtain ⟨u, u1, u2, u3⟩ := row_elem r2 hy
  have : (execOp a.eval o) = (do pure (.value (← Instr.loadAt t (a.eval x))) : Sem Next) := by unfold execOp; rw [ho]
  rw [this]
  have u1' : (T.sv y).ok g hs u := SV.ok_hs (fun i hi => by rw [hc] at hi; cases hi) u1
  refine ⟨u, run_val ?_, u1'⟩
  have hcell : ∀ j v, u.cells.toList[j]? = some v → w.cell? ((⟨b, k * T.s, none⟩ : Addr).add j) = some v := fun j v hj => by
    rw [svs_add]
    have hj' := u3 j v (by simpa using hj)
    rcases r1 with ⟨e3, _⟩ | ⟨gb, cap', cur, e3, _, e4, _, _, _, e5⟩
    · rw [e1] at e3; cases e3
    · rw [e1] at e3
      simp at e3
      obtain ⟨rfl, rfl, rfl⟩ := e3
      unfold World.cell?
      rw [e4]
      rw [← e5, List.getElem?_take] at hj'
      split at hj'
      · simpa using hj'
      · cases hj'
  simp only [Instr.loadAt, e2, Instr.sureAddr, loadVar, Sem.run_bind, Sem.run_pure, Result.andThen_ok, htk.run_isAgg]
  cases hsv : T.sv y with
  | agg l' =>
    rw [hsv] at h3 u1
    simp only [svFits] at h3
    rw [h3]
    obtain ⟨cs', rfl, _⟩ := u1
    have hl := run_loadCells_list (P := Try.prog) w ⟨b, k * T.s, none⟩ cs' (by simpa [Value.cells] using hcell)
    have e5 : cs'.length = ti.size := by rw [h2, ← u2]; simp [Value.cells]
    rw [e5] at hl
    simp [htk.run_size, hl]
  | one x =>
    rw [hsv] at h3 u1
    have h3' : ti.agg = false ∧ cellV u := by
      have h6 := u1.2
      cases x <;> first | exact ⟨by simpa [svFits] using h3, h6⟩ | (simp [svFits] at h3)
    have hcv : u.cells = #[u] := cellV.cells h3'.2
    rw [h3'.1]
    have := hcell 0 u (by rw [hcv]; rfl)
    rw [svs_add, Nat.add_zero] at this
    simp [load, Sem.run, this]
theorem rowRead.set {α : Type} {T : Ty α} {l : List α} {cs : List Value} (h : rowRead T l g cs) {k : Nat} (hk : k < l.length) {y : α} {u : Value} (hu : (T.sv y).ok g hs0 u) (hs : u.cells.size = T.s) :
    rowRead T (l.set k y) g (cs.take (k * T.s) ++ u.cells.toList ++ cs.drop (k * T.s + u.cells.toList.length)) := by
  obtain ⟨us, rfl, h2, h3⟩ := h
  have hsz := rowRead.sizes h2 h3
  have key : ∀ (us : List Value) (k : Nat), (∀ u ∈ us, u.cells.size = T.s) → k < us.length → (us.set k u).flatMap (·.cells.toList) = (us.flatMap (·.cells.toList)).take (k * T.s) ++ u.cells.toList ++ (us.flatMap (·.cells.toList)).drop (k * T.s + u.cells.toList.length) := by
    intro us
    induction us with
    | nil => intro k _ h; simp at h
    | cons x us ih =>
      intro k hz hk
      have hx : x.cells.toList.length = T.s := by simpa using hz x (by simp)
      have hul : u.cells.toList.length = T.s := by simpa using hs
      cases k with
      | zero =>
        simp only [List.set_cons_zero, List.flatMap_cons, Nat.zero_mul, List.take_zero, List.nil_append, Nat.zero_add]
        rw [hul, ← hx, List.drop_left]
      | succ k =>
        have := ih k (fun y hy => hz y (by simp [hy])) (by simpa using hk)
        simp only [List.set_cons_succ, List.flatMap_cons]
        rw [this]
        have e1 : (k + 1) * T.s = x.cells.toList.length + k * T.s := by rw [hx, Nat.succ_mul, Nat.add_comm]
        rw [e1, List.take_length_add_append, Nat.add_assoc, List.drop_length_add_append]
        simp
  refine ⟨us.set k u, (key us k hsz (by omega)).symm, by simp [h2], fun q x a hx ha => ?_⟩
  rw [List.getElem?_set] at hx ha
  by_cases e : k = q
  · rw [if_pos e] at hx ha
    rw [if_pos (by omega)] at hx
    rw [if_pos (by omega)] at ha
    simp at hx ha
    subst hx ha
    exact ⟨hu, hs⟩
  · rw [if_neg e] at hx ha
    exact h3 q x a hx ha
theorem seg_take {α : Type} (A u : List α) (K m L : Nat) (hu : u.length = m) (h1 : K + m ≤ L) (h2 : L ≤ A.length) : (A.take K ++ u ++ A.drop (K + m)).take L = (A.take L).take K ++ u ++ (A.take L).drop (K + m) := by
  have hl : (A.take K ++ u).length = K + m := by simp [hu]; omega
  rw [List.take_append, hl, List.take_of_length_le (by rw [hl]; exact h1), List.take_take, List.drop_take]
  congr 3
  omega
/-- an element is written -/
theorem WL.storeO {α : Type} {T : Ty α} {l : List α} {i k t el : Nat} {y : α} {ti : TI} {x v : Operand} {S1 : St} (ht : tab.ok) (hn : c.n = n) (hw : wantE ops S.F o = some true) (ho : o.op = .store t x v) (h1 : tab t = some ti) (h2 : ti.size = T.s) (hT : T.solid)
    (hx : evX S.F x = some (.sv (.one (.oe i k T.s)))) (hm : S.M[i]? = some (rowI el T l)) (hk : k < l.length) (hv : evX S.F v = some (.sv (T.sv y))) (hz : (svCells (T.sv y)).length = T.s) (hc : (T.sv y).refs = [])
    (e : putE n o.dst (.tup []) ⟨S.F, S.M.set i (rowI el T (l.set k y))⟩ = some S1) (h : WL c ops rest S1 N) : WL c ops (o :: rest) S N := fun a w ⟨g, hs, hh⟩ => by
  unfold wpList
  rw [if_pos (wantE_ok hh hw)]
  refine .inl ?_
  unfold Oper.wp
  obtain ⟨⟨b, nn, cap, e1, e2⟩, _⟩ := evX_ok hh hx
  obtain ⟨cs, ⟨hl0, r1⟩, r2⟩ := hh.items i _ hm
  have htk := ht t ti h1
  have hval : (T.sv y).ok g hs (a.eval v) := evX_ok hh hv
  have hval0 : (T.sv y).ok g hs0 (a.eval v) := SV.ok_hs (fun i hi => by rw [hc] at hi; cases hi) hval
  have hcells := sv_cells (hT y) hval0
  have hlen : (a.eval v).cells.toList.length = T.s := by rw [← oks_length hcells]; exact hz
  rcases r1 with ⟨e3, e4⟩ | ⟨gb, cap', cur, e3, _, e4, e5, e6, e7, e8⟩
  · omega
  · rw [e1] at e3
    simp at e3
    obtain ⟨rfl, rfl, rfl⟩ := e3
    have hkl : k * T.s + T.s ≤ l.length * T.s := by rw [← Nat.succ_mul]; exact Nat.mul_le_mul_right _ hk
    have hlc : l.length * T.s ≤ cur.size := by rw [e7]; exact Nat.mul_le_mul_right _ e5
    have hst := run_storeCells_at (P := Try.prog) b (k * T.s) el (a.eval v).cells.toList 0 cur w e4 (by rw [hlen]; omega) (fun u hu => (oks_cells hcells u hu).one)
    simp only [Nat.add_zero] at hst
    have hup := hh.upd (w' := w.setRow b (cur.toList.take (k * T.s) ++ (a.eval v).cells.toList ++ cur.toList.drop (k * T.s + (a.eval v).cells.toList.length)).toArray) (it' := rowI el T (l.set k y)) hm rfl rfl ?_ ?_
    · have hrun : (execOp a.eval o).run Try.prog w = .ok .skip (w.setRow b (cur.toList.take (k * T.s) ++ (a.eval v).cells.toList ++ cur.toList.drop (k * T.s + (a.eval v).cells.toList.length)).toArray) := by
        have : execOp a.eval o = (do Instr.storeAt t (a.eval x) (a.eval v); pure .skip : Sem Next) := by unfold execOp; rw [ho]
        rw [this]
        simp only [Instr.storeAt, e2, Instr.sureAddr, storeVar, Sem.run_bind, Sem.run_pure, Result.andThen_ok, htk.run_size]
        rw [if_neg (by rw [h2]; simp at hlen; simp [hlen])]
        simp only [hst, Result.andThen_ok, Sem.run_pure]
      rw [hrun]
      exact h _ _ ⟨g, hs, putE_ok hup hn undef_ok e⟩
    · rw [e1]
      exact ⟨rfl, rfl, rfl, by simp, fun q hq hne => setRow_other w b q _ (fun e => hne (by rw [e]; rfl))⟩
    · have hset := r2.set hk hval0 (by rw [← hlen]; simp)
      refine ⟨_, ⟨hset.length.trans (by simp), .inr ⟨b, cap, _, by rw [e1]; simp, Nat.zero_le _, setRow_heap w b _ _ _ _ e4, by simpa using e5, e6, ?_, ?_⟩⟩, hset⟩
      · simp only [List.size_toArray, List.length_append, List.length_take, List.length_drop, Array.length_toList] at hlen ⊢
        omega
      · simp only [List.length_set]
        rw [← e8, hlen]
        have e9 : cur.toList.length = cap * T.s := by simpa using e7
        exact seg_take cur.toList (a.eval v).cells.toList (k * T.s) T.s (l.length * T.s) hlen hkl (by rw [Array.length_toList]; exact hlc)
end
end Go.Proofs.Ytfpdnigihjmohaa
