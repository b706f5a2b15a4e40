/- Symbolic states of a walk: going over a map, each entry once, in whatever order. No condition. -/
import Derived.Test.YtfpdnigihjmohaaMirU
namespace Go.Proofs.Ytfpdnigihjmohaa
open Go.RowKit Go.ChangeMaps Go.MapKept
set_option linter.unusedSimpArgs false
set_option linter.unusedVariables false
set_option maxRecDepth 100000

section plain
variable {β : Type}
/-- the entries that were not seen -/
def unseen : List β → List MapEntry → Array Nat → List β
  | d :: D, e :: E, s => if s.contains e.born then unseen D E s else d :: unseen D E s
  | _, _, _ => []
theorem unseen_none : ∀ {D : List β} {E : List MapEntry}, D.length = E.length → unseen D E #[] = D
  | [], [], _ => rfl
  | d :: D, e :: E, h => by
    rw [unseen, if_neg (by simp), unseen_none (by simpa using h)]
theorem unseen_all : ∀ {D : List β} {E : List MapEntry} {s : Array Nat}, (∀ e ∈ E, s.contains e.born = true) → unseen D E s = []
  | [], _, _, _ => by rw [unseen]; intros; simp_all
  | _ :: _, [], _, _ => by rw [unseen]; intros; simp_all
  | d :: D, e :: E, s, h => by
    rw [unseen, if_pos (h e (by simp)), unseen_all (fun e he => h e (by simp [he]))]
theorem unseen_push_ne : ∀ {D : List β} {E : List MapEntry} {s : Array Nat} {b : Nat}, (∀ e ∈ E, e.born ≠ b) → unseen D E (s.push b) = unseen D E s
  | [], E, _, _, _ => by cases E <;> rfl
  | _ :: _, [], _, _, _ => rfl
  | d :: D, e :: E, s, b, h => by
    have h1 : (s.push b).contains e.born = s.contains e.born := by
      rw [Bool.eq_iff_iff]
      simp [Array.mem_push, h e (by simp)]
    rw [unseen, unseen, h1, unseen_push_ne (fun e he => h e (by simp [he]))]
theorem unseen_next : ∀ {D : List β} {E : List MapEntry} {s : Array Nat} {j : Nat} {e : MapEntry}, D.length = E.length → (E.map (·.born)).Nodup → E[j]? = some e → s.contains e.born = false →
    ∃ x l1 l2, D[j]? = some x ∧ unseen D E s = l1 ++ x :: l2 ∧ unseen D E (s.push e.born) = l1 ++ l2
  | [], [], _, _, _, _, _, h, _ => by simp at h
  | d :: D, f :: E, s, 0, e, hl, hn, h, hs => by
    simp at h
    subst h
    rw [List.map_cons, List.nodup_cons] at hn
    refine ⟨d, [], unseen D E s, rfl, by rw [unseen, if_neg (by rw [hs]; exact Bool.false_ne_true)]; rfl, ?_⟩
    rw [unseen, if_pos (by simp [Array.contains_push])]
    exact unseen_push_ne fun x hx e => hn.1 (by rw [← e]; exact List.mem_map_of_mem (f := (·.born)) hx)
  | d :: D, f :: E, s, j + 1, e, hl, hn, h, hs => by
    rw [List.map_cons, List.nodup_cons] at hn
    have he : e ∈ E := List.mem_of_getElem? (by simpa using h)
    have hne : f.born ≠ e.born := fun x => hn.1 (by rw [x]; exact List.mem_map_of_mem (f := (·.born)) he)
    have hc : (s.push e.born).contains f.born = s.contains f.born := by
      rw [Bool.eq_iff_iff]
      simp [Array.mem_push, hne]
    obtain ⟨x, l1, l2, h1, h2, h3⟩ := unseen_next (s := s) (D := D) (by simpa using hl) hn.2 (by simpa using h) hs
    by_cases hf : s.contains f.born = true
    · exact ⟨x, l1, l2, by simpa using h1, by rw [unseen, if_pos hf, h2], by rw [unseen, if_pos (by rw [hc]; exact hf), h3]⟩
    · exact ⟨x, d :: l1, l2, by simpa using h1, by rw [unseen, if_neg hf, h2]; rfl, by rw [unseen, if_neg (by rw [hc]; exact hf), h3]; rfl⟩
end plain
section
variable {κ α : Type} {enc : κ → Value} {T : Ty α} {D : List (κ × α)} {es : Array MapEntry} {clock : Nat}
def curOk (D : List (κ × α)) (es : Array MapEntry) (cur : Option (κ × α)) (seen : Array Nat) : Prop := ∀ x, cur = some x → ∃ (j : Nat) (e : MapEntry) (s : Array Nat), es.toList[j]? = some e ∧ D[j]? = some x ∧ seen = s.push e.born
def iterP (D : List (κ × α)) (es : Array MapEntry) (clock : Nat) (left : List (κ × α)) (cur : Option (κ × α)) (q : Nat × Array Nat) : Prop := q.1 = clock ∧ left = unseen D es.toList q.2 ∧ curOk D es cur q.2
/-- going over item i: what is left, and what came last -/
abbrev iterX (i : Nat) (D : List (κ × α)) (es : Array MapEntry) (clock : Nat) (left : List (κ × α)) (cur : Option (κ × α)) : Item := .iter i (iterP D es clock left cur)
theorem mapRead.at {g : Gh} {p : Array MapEntry × Nat} (h : mapRead enc T D g p) : D.length = p.1.toList.length ∧ (p.1.toList.map (·.born)).Nodup ∧ (∀ e ∈ p.1.toList, e.born < p.2) ∧ ∀ (j : Nat) (e : MapEntry) (x : κ × α), p.1.toList[j]? = some e → D[j]? = some x → e.key = enc x.1 ∧ (T.sv x.2).ok g hs0 e.val := by
  obtain ⟨D0, ⟨h1, h2, h3⟩, h4, h5, h6⟩ := h
  have l1 := congrArg List.length h1
  have l2 := congrArg List.length h4
  simp only [List.length_map] at l1 l2
  refine ⟨by omega, h2.imp (fun h => by omega), h3, fun j e x he hx => ?_⟩
  have hlt := (List.getElem?_eq_some_iff.1 he).1
  obtain ⟨y, hy⟩ : ∃ y, D0[j]? = some y := ⟨D0[j]'(by omega), List.getElem?_eq_getElem _⟩
  have a1 := congrArg (·[j]?) h1
  have a2 := congrArg (·[j]?) h4
  simp only [List.getElem?_map, he, hy, hx, Option.map_some, Option.some.injEq, Prod.mk.injEq] at a1 a2
  rw [a1.1, a1.2, a2]
  exact ⟨rfl, h6 j y x hy hx⟩
variable {c : Cfg} {S S1 : St} {a : Act} {w : World} {g : Gh} {hs : Nat → Value} {tab : Tab} {n : Nat} {o : Oper} {ops : Array Oper} {rest L : List Oper} {N : Po}
/-- an item told otherwise -/
theorem Ok'.retell (h : Ok' c S a w g hs) {i : Nat} {it it' : Item} (hi : S.M[i]? = some it) (hf : it.fz = false) (hf' : it'.fz = false) (ho : it'.ok g hs w (hs i)) : Ok' c ⟨S.F, S.M.set i it'⟩ a w g hs :=
  h.upd hi hf hf' ⟨rfl, rfl, rfl, Nat.le_refl _, fun _ _ _ => rfl⟩ ho
theorem opens (h : Ok' c S a w g hs) {i : Nat} (hi : S.M[i]? = some (mapI enc T D)) : ∃ es clock, Ok' c ⟨S.F, S.M.set i (mapX enc T D es clock)⟩ a w g hs := by
  obtain ⟨m, es, clock, h1, h2, h3⟩ := h.items i _ hi
  exact ⟨es, clock, h.retell hi rfl rfl ⟨m, es, clock, h1, h2, rfl, h3⟩⟩
theorem closes (h : Ok' c S a w g hs) {i : Nat} (hi : S.M[i]? = some (mapX enc T D es clock)) : Ok' c ⟨S.F, S.M.set i (mapI enc T D)⟩ a w g hs := by
  obtain ⟨m, es', clock', h1, h2, h3⟩ := h.items i _ hi
  exact h.retell hi rfl rfl ⟨m, es', clock', h1, h2, h3.2⟩
theorem WL.openM (i : Nat) (hi : S.M[i]? = some (mapI enc T D)) (h : ∀ es clock, WL c ops L ⟨S.F, S.M.set i (mapX enc T D es clock)⟩ N) : WL c ops L S N := fun a w ⟨g, hs, hk⟩ => by
  obtain ⟨es, clock, hk'⟩ := opens hk hi
  exact h es clock a w ⟨g, hs, hk'⟩
theorem WL.closeM (i : Nat) (hi : S.M[i]? = some (mapX enc T D es clock)) (h : WL c ops L ⟨S.F, S.M.set i (mapI enc T D)⟩ N) : WL c ops L S N := fun a w ⟨g, hs, hk⟩ => h a w ⟨g, hs, closes hk hi⟩
theorem En.closeM (i : Nat) (hi : S.M[i]? = some (mapX enc T D es clock)) (h : En c ⟨S.F, S.M.set i (mapI enc T D)⟩ N) : En c S N := fun a w ⟨g, hs, hk⟩ => h a w ⟨g, hs, closes hk hi⟩
theorem mt_range (p : Nat) {i t kt e : Nat} {m : Operand} (ho : o.op = .range t m) (ht : Try.prog.underlying t = some (.map kt e)) (hm : evX S.F m = some (.sv (.one (.own i)))) (hi : S.M[i]? = some (mapX enc T D es clock)) (hne : Nat.beq i p = false) : MT c S o (.sv (.one (.own p))) [] (some (p, iterX i D es clock D none)) := fun a w g hs h N Z hN => by
  unfold Oper.wp
  obtain ⟨mb, es', clock', h1, h2, h3, h4⟩ := h.items i _ hi
  cases h3
  have hu : (Go.underlying t).run Try.prog w = .ok (.map kt e) w := run_underlying ht w
  have hrun : (execOp a.eval o).run Try.prog w = .ok (.value (.pointer (some ⟨w.heap.size, 0, none⟩))) (w.alloc (.mapIter (some mb) clock #[] clock)) := by
    have : execOp a.eval o = (do pure (.value (← Instr.range t (a.eval m))) : Sem Next) := by unfold execOp; rw [ho]
    rw [this, show a.eval m = .map (some mb) from (evX_ok h hm).1.trans h1]
    refine run_valW ?_
    simp only [Instr.range, Sem.run_bind, hu, Result.andThen_ok, getObj, Sem.run, h2, Sem.run_pure, newObj]
    rfl
  rw [hrun]
  have hnp : i ≠ p := fun e => by subst e; simp at hne
  refine hN _ _ g (.pointer (some ⟨w.heap.size, 0, none⟩)) ⟨rfl, rfl, rfl, by simp, fun b hb _ => (World.grownBy_alloc w _ none).block b hb (by simp), Gh.le.refl g, fun b o e => .inl e, fun b o e => ?_⟩ ⟨?_, trivial⟩ ⟨⟨w.heap.size, mb, clock, #[], rfl, ?_, heap_alloc_new w _, rfl, (unseen_none h4.at.1).symm, fun x hx => by cases hx⟩, fun b hb => ?_⟩
  · exact ((World.grownBy_alloc w _ none).block b (h.base.pers.lt e) (by simp)).trans (h.base.pers b o e)
  · show _ = (if p = p then _ else hs p)
    rw [if_pos rfl]
  · show (if i = p then _ else hs i) = _
    rw [if_neg hnp]
    exact h1
  · cases hb
    refine ⟨by simp, fun _ => ?_, .inl (Nat.le_refl _)⟩
    cases hgb : g w.heap.size with
    | none => rfl
    | some o => have := h.base.pers.lt hgb; omega
/-- the next entry: none is left, or one of those that are -/
theorem WL.nextM {Tk : Ty κ} {left : List (κ × α)} {cur : Option (κ × α)} {i r : Nat} {x : Operand} (hn : c.n = n) (hw : wantE ops S.F o = some true) (ho : o.op = .next x false) (hx : evX S.F x = some (.sv (.one (.own r)))) (hr : S.M[r]? = some (iterX i D es clock left cur)) (hi : S.M[i]? = some (mapX enc T D es clock))
    (hk : ∀ k g hs, (Tk.sv k).ok g hs (enc k)) (hc : ∀ y, (T.sv y).refs = [])
    (e1 : putE n o.dst (.tup [.one (B false)]) S = some S1) (h1 : left = [] → WL c ops rest S1 N)
    (h2 : ∀ l1 y l2, left = l1 ++ y :: l2 → ∃ S2, putE n o.dst (.tup [.one (B true), Tk.sv y.1, T.sv y.2]) ⟨S.F, S.M.set r (iterX i D es clock (l1 ++ l2) (some y))⟩ = some S2 ∧ WL c ops rest S2 N) : WL c ops (o :: rest) S N := fun a w ⟨g, hs, h⟩ => by
  unfold wpList
  rw [if_pos (wantE_ok h hw)]
  refine .inl ?_
  unfold Oper.wp
  obtain ⟨mb, es', clock', i1, i2, i3, i4⟩ := h.items i _ hi
  cases i3
  obtain ⟨rb, mb', clock', seen, r1, r2, r3, r4, r5, r6⟩ := h.items r _ hr
  simp only at r4
  subst r4
  rw [i1] at r2
  cases r2
  obtain ⟨q1, q2, q3, q4⟩ := i4.at
  have hxv : a.eval x = .pointer (some ⟨rb, 0, none⟩) := (evX_ok h hx).1.trans r1
  have hop : execOp a.eval o = (do pure (.value (← Instr.next (a.eval x) false o.type)) : Sem Next) := by unfold execOp; rw [ho]
  rcases run_next_at (P := Try.prog) (ty := o.type) w rb mb clock' clock' seen es clock' r3 i2 q3 (Nat.le_refl _) with ⟨hz, hrun⟩ | ⟨e, he, w1, hw1, hrun⟩
  · rw [hop, hxv, run_valW hrun]
    have hz' : (leftOf es seen).toList = [] := by rw [Array.eq_empty_of_size_eq_zero hz]
    refine h1 ?_ _ _ ⟨g, hs, putE_ok h hn (x := .tup [.one (B false)]) ⟨[.bool false], rfl, ⟨rfl, trivial⟩, trivial⟩ e1⟩
    rw [r5]
    refine unseen_all fun e he => ?_
    unfold leftOf at hz'
    rw [Array.toList_filter, List.filter_eq_nil_iff] at hz'
    simpa using hz' e he
  · rw [hop, hxv, run_valW hrun]
    obtain ⟨he1, he2⟩ : e ∈ es.toList ∧ seen.contains e.born = false := by
      unfold leftOf at he
      rw [Array.toList_filter, List.mem_filter] at he
      exact ⟨he.1, by simpa using he.2⟩
    obtain ⟨j, hj⟩ := List.mem_iff_getElem?.1 he1
    obtain ⟨y, l1, l2, u1, u2, u3⟩ := unseen_next q1 q2 hj he2
    obtain ⟨v1, v2⟩ := q4 j e y hj u1
    obtain ⟨S2, hp, hW⟩ := h2 l1 y l2 (by rw [r5, u2])
    have hr1 : w1.heap = w.heap := by rcases hw1 with rfl | rfl <;> rfl
    have hrlt : rb < w1.heap.size := by rw [hr1]; exact (Array.getElem?_eq_some_iff.1 r3).1
    have hg : w.grownBy (setBlock w1 rb (.mapIter (some mb) clock' (seen.push e.born) clock')) (some rb) := by
      rcases hw1 with rfl | rfl
      · exact ⟨rfl, rfl, rfl, by simp [setBlock], fun i _ hi => by
          show (w1.heap.setIfInBounds rb _)[i]? = _
          rw [Array.getElem?_setIfInBounds_ne (fun e => hi (by rw [e]))]⟩
      · exact ⟨rfl, rfl, rfl, by simp [setBlock], fun i _ hi => by
          show (w.heap.setIfInBounds rb _)[i]? = _
          rw [Array.getElem?_setIfInBounds_ne (fun e => hi (by rw [e]))]⟩
    have hup := h.upd (it' := iterX i D es clock' (l1 ++ l2) (some y)) hr rfl rfl (by rw [r1]; exact hg) ⟨rb, mb, clock', seen.push e.born, r1, i1, ?_, rfl, u3.symm, fun x hx => ?_⟩
    · refine hW _ _ ⟨g, hs, putE_ok hup hn (x := .tup [.one (B true), Tk.sv y.1, T.sv y.2]) ⟨[.bool true, e.key, e.val], rfl, ⟨rfl, trivial⟩, ?_, ?_, trivial⟩ hp⟩
      · rw [v1]; exact hk _ _ _
      · exact SV.ok_hs (fun i hi => by rw [hc] at hi; cases hi) v2
    · show (w1.heap.setIfInBounds rb _)[rb]? = _
      rw [Array.getElem?_setIfInBounds_self_of_lt hrlt]
    · cases hx
      exact ⟨j, e, seen, hj, u1, rfl⟩
theorem val_entryM {Tk : Ty κ} {left : List (κ × α)} {y : κ × α} {i r : Nat} {x : Operand} (ho : o.op = .entry x) (hx : evX S.F x = some (.sv (.one (.own r)))) (hr : S.M[r]? = some (iterX i D es clock left (some y))) (hi : S.M[i]? = some (mapX enc T D es clock))
    (hk : ∀ k g hs, (Tk.sv k).ok g hs (enc k)) (hc : ∀ y, (T.sv y).refs = []) : Val c S o (.tup [Tk.sv y.1, T.sv y.2]) := fun a w g hs h => by
  obtain ⟨mb, es', clock', i1, i2, i3, i4⟩ := h.items i _ hi
  cases i3
  obtain ⟨rb, mb', clock', seen, r1, r2, r3, r4, r5, r6⟩ := h.items r _ hr
  simp only at r4
  subst r4
  rw [i1] at r2
  cases r2
  obtain ⟨q1, q2, q3, q4⟩ := i4.at
  have hxv : a.eval x = .pointer (some ⟨rb, 0, none⟩) := (evX_ok h hx).1.trans r1
  have hop : execOp a.eval o = (do pure (.value (← Instr.entry (a.eval x))) : Sem Next) := by unfold execOp; rw [ho]
  obtain ⟨j, e, s, hj, hy, hs'⟩ := r6 y rfl
  simp only at hs'
  subst hs'
  obtain ⟨v1, v2⟩ := q4 j e y hj hy
  refine ⟨.tuple #[e.key, e.val], ?_, [e.key, e.val], rfl, ?_, ?_, trivial⟩
  · rw [hop, hxv]
    exact run_val (run_entry_at w rb mb clock' s es clock' e r3 i2 (List.mem_of_getElem? hj) q2)
  · rw [v1]; exact hk _ _ _
  · exact SV.ok_hs (fun i hi => by rw [hc] at hi; cases hi) v2
end
end Go.Proofs.Ytfpdnigihjmohaa
