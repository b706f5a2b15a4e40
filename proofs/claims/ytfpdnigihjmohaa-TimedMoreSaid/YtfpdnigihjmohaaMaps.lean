/- Maps that a call makes for itself, with keys of any kind that can be compared at once: what they hold, looked up, stored, ranged over. No condition. -/
import Derived.Test.YtfpdnigihjmohaaPush
import Derived.Maps.OwnOps
import Derived.Maps.RangeRun
import Derived.Maps.RangeWalk
namespace Go.Proofs.Ytfpdnigihjmohaa
open Go.RowKit Go.ChangeMaps Go.MapKept
set_option linter.unusedSimpArgs false
set_option linter.unusedVariables false
set_option maxRecDepth 100000
set_option linter.unusedSectionVars false

/-- keys of type kt that stand as enc says -/
structure KeyLaw {κ : Type} [DecidableEq κ] (kt : TypeId) (enc : κ → Value) : Prop where
  check : ∀ (b : Bool) (a : κ) w, (Instr.checkKey b 10000 kt (enc a)).run Try.prog w = .ok () w
  bits : ∀ a, Instr.sameBits 10000 (enc a) (enc a) = true
  now : ∃ d, Try.prog.underlying kt = some d ∧ ((∀ a b, Instr.sameNow d (enc a) (enc b) = none) ∨ ∀ a b, Instr.sameNow d (enc a) (enc b) = some (decide (a = b)))
  equal : ∀ (a b : κ) w, (Op.equal kt (enc a) (enc b)).run Try.prog w = .ok (decide (a = b)) w
section
variable {κ : Type} [DecidableEq κ] {kt : TypeId} {enc : κ → Value}
/-- where a key stands, and with what -/
def findD (a : κ) : List (κ × Value) → Nat → Option (Nat × Value)
  | [], _ => none
  | x :: D, i => if a = x.1 then some (i, x.2) else findD a D (i + 1)
def lookD (a : κ) (D : List (κ × Value)) : Option Value := (findD a D 0).map (·.2)
theorem run_findAsking (K : KeyLaw kt enc) (a : κ) (w : World) : ∀ (es : List MapEntry) (D : List (κ × Value)) (i : Nat), es.map (fun e => (e.key, e.val)) = D.map (fun x => (enc x.1, x.2)) → (Instr.findAsking kt (enc a) es i).run Try.prog w = .ok (findD a D i) w
  | [], [], i, _ => by simp [Instr.findAsking, findD]
  | [], _ :: _, _, h => by simp at h
  | _ :: _, [], _, h => by simp at h
  | e :: es, x :: D, i, h => by
    simp only [List.map_cons, List.cons.injEq, Prod.mk.injEq] at h
    obtain ⟨⟨h1, h2⟩, h3⟩ := h
    have ih := run_findAsking K a w es D (i + 1) h3
    simp only [Instr.findAsking, h1, h2, Sem.run_bind, K.equal, Result.andThen_ok, findD]
    by_cases e : a = x.1
    · simp [e]
    · simp [e, ih]
theorem findNow_none {d : TypeDesc} (a : κ) (hn : ∀ a b, Instr.sameNow d (enc a) (enc b) = none) : ∀ (es : List MapEntry) (D : List (κ × Value)) (i : Nat), es.map (fun e => (e.key, e.val)) = D.map (fun x => (enc x.1, x.2)) → Instr.findNow d (enc a) es i = some (findD a D i) ∨ Instr.findNow d (enc a) es i = none
  | [], [], i, _ => .inl (by simp [Instr.findNow, findD])
  | [], _ :: _, _, h => by simp at h
  | _ :: _, [], _, h => by simp at h
  | e :: es, x :: D, i, h => by
    simp only [List.map_cons, List.cons.injEq, Prod.mk.injEq] at h
    exact .inr (by simp [Instr.findNow, h.1.1, hn])
theorem findNow_some {d : TypeDesc} (a : κ) (hn : ∀ a b, Instr.sameNow d (enc a) (enc b) = some (decide (a = b))) : ∀ (es : List MapEntry) (D : List (κ × Value)) (i : Nat), es.map (fun e => (e.key, e.val)) = D.map (fun x => (enc x.1, x.2)) → Instr.findNow d (enc a) es i = some (findD a D i)
  | [], [], i, _ => by simp [Instr.findNow, findD]
  | [], _ :: _, _, h => by simp at h
  | _ :: _, [], _, h => by simp at h
  | e :: es, x :: D, i, h => by
    simp only [List.map_cons, List.cons.injEq, Prod.mk.injEq] at h
    have ih := findNow_some a hn es D (i + 1) h.2
    by_cases e : a = x.1
    · simp [Instr.findNow, h.1.1, h.1.2, hn, findD, e]
    · simp [Instr.findNow, h.1.1, hn, findD, e, ih]
theorem run_findKey (K : KeyLaw kt enc) (a : κ) (w : World) (es : List MapEntry) (D : List (κ × Value)) (h : es.map (fun e => (e.key, e.val)) = D.map (fun x => (enc x.1, x.2))) : (Instr.findKey kt (enc a) es).run Try.prog w = .ok (findD a D 0) w := by
  obtain ⟨d, hd, hn⟩ := K.now
  have hu : (Go.underlying kt).run Try.prog w = .ok d w := run_underlying hd w
  simp only [Instr.findKey, Sem.run_bind, hu, Result.andThen_ok]
  rcases hn with hn | hn
  · rcases findNow_none a hn es D 0 h with e | e
    · rw [e]; simp
    · rw [e]; exact run_findAsking K a w es D 0 h
  · rw [findNow_some a hn es D 0 h]; simp

/-- block m is a map that holds D, its entries laid one behind the other -/
def OwnMap (enc : κ → Value) (w : World) (m : Nat) (D : List (κ × Value)) : Prop :=
  ∃ (es : Array MapEntry) (clock : Nat), w.heap[m]? = some (.map es clock) ∧ es.toList.map (fun e => (e.key, e.val)) = D.map (fun x => (enc x.1, x.2)) ∧ (D.map (·.1)).Nodup ∧ (es.toList.map (·.born)).Pairwise (· < ·) ∧ ∀ e ∈ es.toList, e.born < clock
theorem OwnMap.up {w w' : World} {m : Nat} {D : List (κ × Value)} (h : OwnMap enc w m D) (hb : Below w.heap.size w w') : OwnMap enc w' m D := by
  obtain ⟨es, clock, h1, r⟩ := h
  exact ⟨es, clock, (hb.block m (Array.getElem?_eq_some_iff.1 h1).1).trans h1, r⟩
theorem OwnMap.upB {B : Nat} {w w' : World} {m : Nat} {D : List (κ × Value)} (h : OwnMap enc w m D) (hb : Below B w w') (hm : m < B) : OwnMap enc w' m D := by
  obtain ⟨es, clock, h1, r⟩ := h
  exact ⟨es, clock, (hb.block m hm).trans h1, r⟩
theorem OwnMap.lt {w : World} {m : Nat} {D : List (κ × Value)} (h : OwnMap enc w m D) : m < w.heap.size := by
  obtain ⟨es, clock, h1, _⟩ := h
  exact (Array.getElem?_eq_some_iff.1 h1).1
theorem OwnMap.nodup {w : World} {m : Nat} {D : List (κ × Value)} (h : OwnMap enc w m D) : (D.map (·.1)).Nodup := by
  obtain ⟨es, clock, h1, h2, h3, _⟩ := h
  exact h3
theorem OwnMap.made (w : World) : OwnMap enc (w.alloc (.map #[] 0)) w.heap.size ([] : List (κ × Value)) :=
  ⟨#[], 0, (MapKept.heap_alloc w _).1, by simp, by simp, by simp, by simp⟩

/-- what is laid -/
def putD (a : κ) (v : Value) : List (κ × Value) → List (κ × Value)
  | [] => [(a, v)]
  | x :: D => if a = x.1 then (a, v) :: D else x :: putD a v D
theorem findD_lt {a : κ} : ∀ {D : List (κ × Value)} {i j : Nat} {v : Value}, findD a D i = some (j, v) → i ≤ j ∧ D[j - i]? = some (a, v)
  | [], i, j, v, h => by simp [findD] at h
  | x :: D, i, j, v, h => by
    unfold findD at h
    split at h
    · rename_i e
      simp at h
      obtain ⟨rfl, rfl⟩ := h
      simp [e]
    · obtain ⟨h1, h2⟩ := findD_lt h
      refine ⟨by omega, ?_⟩
      rw [show j - i = (j - (i + 1)) + 1 from by omega]
      simpa using h2
theorem findD_none {a : κ} : ∀ {D : List (κ × Value)} {i : Nat}, findD a D i = none ↔ a ∉ D.map (·.1)
  | [], i => by simp [findD]
  | x :: D, i => by
    unfold findD
    split
    · rename_i e
      simp [e]
    · rename_i e
      rw [findD_none]
      simp [e]
theorem putD_none {a : κ} {v : Value} : ∀ {D : List (κ × Value)}, a ∉ D.map (·.1) → putD a v D = D ++ [(a, v)]
  | [], _ => rfl
  | x :: D, h => by
    simp only [List.map_cons, List.mem_cons, not_or] at h
    rw [putD, if_neg h.1, putD_none h.2]
    rfl
theorem putD_some {a : κ} {v : Value} : ∀ {D : List (κ × Value)} {i j : Nat} {u : Value}, findD a D i = some (j, u) → putD a v D = D.set (j - i) (a, v)
  | [], i, j, u, h => by simp [findD] at h
  | x :: D, i, j, u, h => by
    have hj := (findD_lt h).1
    unfold findD at h
    rw [putD]
    split at h
    · rename_i e
      simp at h
      obtain ⟨rfl, rfl⟩ := h
      rw [if_pos e]
      simp
    · rename_i e
      have hj2 := (findD_lt h).1
      rw [if_neg e, putD_some h, show j - i = (j - (i + 1)) + 1 from by omega]
      rfl
theorem putD_keys {a : κ} {v : Value} {D : List (κ × Value)} : (putD a v D).map (·.1) = if a ∈ D.map (·.1) then D.map (·.1) else D.map (·.1) ++ [a] := by
  induction D with
  | nil => simp [putD]
  | cons x D ih =>
    rw [putD]
    split
    · rename_i e
      simp [e]
    · rename_i e
      rw [List.map_cons, ih]
      by_cases h : a ∈ D.map (·.1)
      · rw [if_pos h, if_pos (by simp [h])]; simp
      · rw [if_neg h, if_neg (by simp [e]; simpa using h)]; simp
theorem lookD_put {a b : κ} {v : Value} {D : List (κ × Value)} : lookD b (putD a v D) = if b = a then some v else lookD b D := by
  have key : ∀ (D : List (κ × Value)) i, (findD b (putD a v D) i).map (·.2) = if b = a then some v else (findD b D i).map (·.2) := by
    intro D
    induction D with
    | nil => intro i; simp only [putD, findD]; split <;> simp
    | cons x D ih =>
      intro i
      rw [putD]
      split
      · rename_i e
        simp only [findD, ← e]
        split <;> simp_all
      · rename_i e
        simp only [findD]
        split
        · rename_i e2
          have : b ≠ a := fun e3 => e (by rw [← e3, e2])
          simp [this]
        · exact ih (i + 1)
  exact key D 0
theorem lookD_mem {a : κ} {v : Value} {D : List (κ × Value)} (hn : (D.map (·.1)).Nodup) : lookD a D = some v ↔ (a, v) ∈ D := by
  have key : ∀ (D : List (κ × Value)) i, (D.map (·.1)).Nodup → ((findD a D i).map (·.2) = some v ↔ (a, v) ∈ D) := by
    intro D
    induction D with
    | nil => intro i _; simp [findD]
    | cons x D ih =>
      intro i hn
      rw [List.map_cons, List.nodup_cons] at hn
      simp only [findD]
      split
      · rename_i e
        subst e
        simp only [Option.map_some, Option.some.injEq, List.mem_cons]
        constructor
        · rintro rfl; exact .inl rfl
        · rintro (h | h)
          · rw [← h]
          · exact absurd (List.mem_map_of_mem (f := (·.1)) h) hn.1
      · rename_i e
        rw [ih (i + 1) hn.2, List.mem_cons]
        constructor
        · exact .inr
        · rintro (h | h)
          · exact absurd (by rw [← h]) e
          · exact h
  exact key D 0 hn
/-- how a look-up answers -/
def lookV (ok : Bool) (z : Value) (r : Option Value) : Value := if ok then .tuple #[r.getD z, .bool r.isSome] else r.getD z
theorem OwnMap.look (K : KeyLaw kt enc) {w : World} {m : Nat} {D : List (κ × Value)} (h : OwnMap enc w m D) {t e : TypeId} {z : Value} (ht : Try.prog.underlying t = some (.map kt e)) (hz : ∀ w, (zeroValue e).run Try.prog w = .ok z w) (a : κ) (ok : Bool) :
    (Instr.lookup t (.map (some m)) (enc a) ok).run Try.prog w = .ok (lookV ok z (lookD a D)) w := by
  obtain ⟨es, clock, h1, h2, _⟩ := h
  have hu : (Go.underlying t).run Try.prog w = .ok (.map kt e) w := run_underlying ht w
  have hf := run_findKey K a w es.toList D h2
  simp only [Instr.lookup, Sem.run_bind, hu, Result.andThen_ok, getObj, Sem.run, h1, K.check, hf, Sem.run_pure]
  unfold lookV lookD
  cases findD a D 0 with
  | none => simp only [hz, Sem.run_bind, Result.andThen_ok, Sem.run_pure]; cases ok <;> rfl
  | some x => simp only [Sem.run_pure, Result.andThen_ok]; cases ok <;> rfl
theorem OwnMap.put (K : KeyLaw kt enc) {w : World} {m : Nat} {D : List (κ × Value)} (h : OwnMap enc w m D) {t e : TypeId} (ht : Try.prog.underlying t = some (.map kt e)) (a : κ) (v : Value) :
    ∃ w', (Instr.mapUpdate t (.map (some m)) (enc a) v).run Try.prog w = .ok () w' ∧ OwnMap enc w' m (putD a v D) ∧ w.grownBy w' (some m) := by
  obtain ⟨es, clock, h1, h2, h3, h4, h5⟩ := h
  have hu : (Go.underlying t).run Try.prog w = .ok (.map kt e) w := run_underlying ht w
  have hf := run_findKey K a w es.toList D h2
  have hlt := (Array.getElem?_eq_some_iff.1 h1).1
  have hset : ∀ o, (setObj m o).run Try.prog w = .ok () (setBlock w m o) := fun o => by simp [setObj, Sem.run, h1, setBlock]
  have hgr : ∀ o, w.grownBy (setBlock w m o) (some m) := fun o => ⟨rfl, rfl, rfl, by simp [setBlock], fun i _ hi => heap_setBlock_other h1 _ (fun e => hi (by rw [e]))⟩
  cases hfd : findD a D 0 with
  | none =>
    rw [hfd] at hf
    have hn := findD_none.1 hfd
    refine ⟨setBlock w m (.map (es.push { key := enc a, val := v, born := clock }) (clock + 1)), ?_, ⟨_, _, heap_setBlock_same h1 _, ?_, ?_, ?_, ?_⟩, hgr _⟩
    · simp only [Instr.mapUpdate, Sem.run_bind, hu, Result.andThen_ok, getObj, Sem.run, h1, K.check, hf, hset]
    · rw [putD_none hn]
      simp [h2]
    · rw [putD_keys, if_neg hn, List.nodup_append]
      exact ⟨h3, by simp, fun x hx y hy => by simp at hy; subst hy; exact fun e => hn (e ▸ hx)⟩
    · simp only [Array.toList_push, List.map_append, List.map_cons, List.map_nil]
      rw [List.pairwise_append]
      exact ⟨h4, by simp, fun x hx y hy => by
        simp at hy
        subst hy
        obtain ⟨e, he, rfl⟩ := List.mem_map.1 hx
        exact h5 e he⟩
    · intro x hx
      simp at hx
      rcases hx with hx | rfl
      · have := h5 x (by simpa using hx); omega
      · simp
  | some y =>
    obtain ⟨i, u⟩ := y
    rw [hfd] at hf
    obtain ⟨_, hD⟩ := findD_lt hfd
    rw [Nat.sub_zero] at hD
    have hi : i < es.size := by
      have e1 := congrArg List.length h2
      simp at e1
      have := (List.getElem?_eq_some_iff.1 hD).1
      omega
    have he : es[i]? = some es[i] := by simp [hi]
    have hk : es[i].key = enc a := by
      have := congrArg (·[i]?) h2
      simp [hi, hD] at this
      exact this.1
    refine ⟨setBlock w m (.map (es.modify i fun e => { e with key := enc a, val := v }) clock), ?_, ⟨_, _, heap_setBlock_same h1 _, ?_, ?_, ?_, ?_⟩, hgr _⟩
    · simp only [Instr.mapUpdate, Sem.run_bind, hu, Result.andThen_ok, getObj, Sem.run, h1, K.check, hf, he, Option.map_some, Option.getD_some, hk, Instr.keyThatStays, K.bits, if_true, Sem.run_pure, hset]
    · rw [putD_some hfd, Nat.sub_zero]
      apply List.ext_getElem?
      intro j
      have hj := congrArg (·[j]?) h2
      simp only [List.getElem?_map, Array.getElem?_toList] at hj ⊢
      rw [Array.getElem?_modify, List.getElem?_set]
      by_cases e : i = j
      · subst e
        simp [hi, (List.getElem?_eq_some_iff.1 hD).1]
      · rw [if_neg e, if_neg e]
        exact hj
    · rw [putD_keys, if_pos]
      · exact h3
      · exact List.mem_map.2 ⟨_, List.mem_of_getElem? hD, rfl⟩
    · have : (es.modify i fun e => { e with key := enc a, val := v }).toList.map (·.born) = es.toList.map (·.born) := by
        apply List.ext_getElem?
        intro j
        simp only [List.getElem?_map, Array.getElem?_toList, Array.getElem?_modify]
        split
        · rename_i e; subst e; simp [hi]
        · rfl
      rw [this]
      exact h4
    · intro x hx
      obtain ⟨j, hj⟩ := List.mem_iff_getElem?.1 hx
      rw [Array.getElem?_toList, Array.getElem?_modify] at hj
      split at hj
      · rename_i e
        simp at hj
        obtain ⟨y, hy, rfl⟩ := hj
        exact h5 y (List.mem_of_getElem? (by rw [Array.getElem?_toList]; exact hy))
      · exact h5 x (List.mem_of_getElem? (by rw [Array.getElem?_toList]; exact hj))
/-- block r goes over the map m: what is left, and what came last -/
def RangeM (enc : κ → Value) (w : World) (r m : Nat) (D left : List (κ × Value)) (cur : Option (κ × Value)) : Prop :=
  r ≠ m ∧ ∃ (es : Array MapEntry) (clock : Nat) (seen : Array Nat), w.heap[m]? = some (.map es clock) ∧ es.toList.map (fun e => (e.key, e.val)) = D.map (fun x => (enc x.1, x.2)) ∧ (D.map (·.1)).Nodup ∧ (es.toList.map (·.born)).Pairwise (· < ·) ∧ (∀ e ∈ es.toList, e.born < clock) ∧
    w.heap[r]? = some (.mapIter (some m) clock seen clock) ∧ (leftOf es seen).toList.map (fun e => (e.key, e.val)) = left.map (fun x => (enc x.1, x.2)) ∧ (∀ x, cur = some x → ∃ e ∈ es.toList, ∃ s : Array Nat, seen = s.push e.born ∧ e.key = enc x.1 ∧ e.val = x.2) ∧ ∀ x ∈ left, x ∈ D
theorem RangeM.own {w : World} {r m : Nat} {D left : List (κ × Value)} {cur : Option (κ × Value)} (h : RangeM enc w r m D left cur) : OwnMap enc w m D := by
  obtain ⟨_, es, clock, seen, h1, h2, h3, h4, h5, _⟩ := h
  exact ⟨es, clock, h1, h2, h3, h4, h5⟩
theorem RangeM.sub {w : World} {r m : Nat} {D left : List (κ × Value)} {cur : Option (κ × Value)} (h : RangeM enc w r m D left cur) : ∀ x ∈ left, x ∈ D := by
  obtain ⟨_, es, clock, seen, _, _, _, _, _, _, _, _, h⟩ := h
  exact h
theorem RangeM.up {w w' : World} {r m : Nat} {D left : List (κ × Value)} {cur : Option (κ × Value)} (h : RangeM enc w r m D left cur) (hb : Below w.heap.size w w') : RangeM enc w' r m D left cur := by
  obtain ⟨h0, es, clock, seen, h1, h2, h3, h4, h5, h6, h7⟩ := h
  exact ⟨h0, es, clock, seen, (hb.block m (Array.getElem?_eq_some_iff.1 h1).1).trans h1, h2, h3, h4, h5, (hb.block r (Array.getElem?_eq_some_iff.1 h6).1).trans h6, h7⟩
/-- the map and the iterator stand while other blocks are written -/
theorem RangeM.kept {w w' : World} {r m : Nat} {D left : List (κ × Value)} {cur : Option (κ × Value)} (h : RangeM enc w r m D left cur) (h1' : w'.heap[m]? = w.heap[m]?) (h2' : w'.heap[r]? = w.heap[r]?) : RangeM enc w' r m D left cur := by
  obtain ⟨h0, es, clock, seen, h1, h2, h3, h4, h5, h6, h7⟩ := h
  exact ⟨h0, es, clock, seen, h1'.trans h1, h2, h3, h4, h5, h2'.trans h6, h7⟩
theorem RangeM.lt {w : World} {r m : Nat} {D left : List (κ × Value)} {cur : Option (κ × Value)} (h : RangeM enc w r m D left cur) : r < w.heap.size := by
  obtain ⟨h0, es, clock, seen, h1, h2, h3, h4, h5, h6, h7⟩ := h
  exact (Array.getElem?_eq_some_iff.1 h6).1
theorem born_nodup {l : List MapEntry} (h : (l.map (·.born)).Pairwise (· < ·)) : (l.map (·.born)).Nodup := h.imp (fun h => by omega)
theorem OwnMap.range {w : World} {m : Nat} {D : List (κ × Value)} (h : OwnMap enc w m D) {t e : TypeId} (ht : Try.prog.underlying t = some (.map kt e)) :
    ∃ o, (Instr.range t (.map (some m))).run Try.prog w = .ok (.pointer (some ⟨w.heap.size, 0, none⟩)) (w.alloc o) ∧ RangeM enc (w.alloc o) w.heap.size m D D none := by
  obtain ⟨es, clock, h1, h2, h3, h4, h5⟩ := h
  have hlt := (Array.getElem?_eq_some_iff.1 h1).1
  have hu : (Go.underlying t).run Try.prog w = .ok (.map kt e) w := run_underlying ht w
  refine ⟨.mapIter (some m) clock #[] clock, ?_, by omega, es, clock, #[], ?_, h2, h3, h4, h5, (MapKept.heap_alloc w _).1, ?_, (fun x hx => by cases hx), fun x hx => hx⟩
  · simp only [Instr.range, Sem.run_bind, hu, Result.andThen_ok, getObj, Sem.run, h1, Sem.run_pure, newObj]
    rfl
  · exact ((Below.refl w.heap.size w).alloc (Nat.le_refl _) _ |>.block m hlt).trans h1
  · show ((es.filter fun e => !(#[] : Array Nat).contains e.born).toList.map _) = _
    rw [Array.toList_filter, List.filter_eq_self.2 (fun _ _ => by simp)]
    exact h2
theorem filter_drop {l : List MapEntry} (hn : (l.map (·.born)).Nodup) {e : MapEntry} (he : e ∈ l) : ∃ l1 l2, l = l1 ++ e :: l2 ∧ l.filter (fun x => x.born != e.born) = l1 ++ l2 := by
  obtain ⟨l1, l2, rfl⟩ := List.append_of_mem he
  refine ⟨l1, l2, rfl, ?_⟩
  rw [List.map_append, List.map_cons, List.nodup_append] at hn
  obtain ⟨n1, n2, n3⟩ := hn
  rw [List.nodup_cons] at n2
  rw [List.filter_append, List.filter_cons, if_neg (by simp)]
  congr 1
  · rw [List.filter_eq_self]
    intro x hx
    have := n3 _ (List.mem_map_of_mem (f := (·.born)) hx) e.born (by simp)
    simpa using this
  · rw [List.filter_eq_self]
    intro x hx
    have : x.born ≠ e.born := fun h => n2.1 (h ▸ List.mem_map_of_mem (f := (·.born)) hx)
    simpa using this
theorem RangeM.next {w : World} {r m : Nat} {D left : List (κ × Value)} {cur : Option (κ × Value)} (h : RangeM enc w r m D left cur) :
    (left = [] ∧ ∀ ty, (Instr.next (.pointer (some ⟨r, 0, none⟩)) false ty).run Try.prog w = .ok (.tuple #[.bool false]) w) ∨
    ∃ l1 x l2 w', left = l1 ++ x :: l2 ∧ (∀ ty, (Instr.next (.pointer (some ⟨r, 0, none⟩)) false ty).run Try.prog w = .ok (.tuple #[.bool true, enc x.1, x.2]) w') ∧ RangeM enc w' r m D (l1 ++ l2) (some x) ∧ w.grownBy w' (some r) := by
  obtain ⟨h0, es, clock, seen, h1, h2, h3, h4, h5, h6, h7, h8, h9⟩ := h
  rcases run_next_at w 0 r m clock clock seen es clock h6 h1 h5 (Nat.le_refl _) with ⟨hz, hrun⟩ | ⟨e, he, w1, hw1, hrun⟩
  · refine .inl ⟨?_, fun ty => hrun⟩
    have : (leftOf es seen).toList = [] := by
      have := Array.eq_empty_of_size_eq_zero hz
      rw [this]
    rw [this] at h7
    simpa using h7.symm
  · right
    have hes : e ∈ es.toList := by
      unfold leftOf at he
      simp at he
      simpa using he.1
    have hln : ((leftOf es seen).toList.map (·.born)).Nodup := by
      have : (leftOf es seen).toList.Sublist es.toList := by
        unfold leftOf
        rw [Array.toList_filter]
        exact List.filter_sublist
      exact List.Sublist.nodup (this.map _) (born_nodup h4)
    obtain ⟨e1, e2, hsplit, hdrop⟩ := filter_drop hln he
    have h7' := h7
    rw [hsplit, List.map_append, List.map_cons] at h7'
    obtain ⟨l1, l2', rfl, k1, k2⟩ := List.append_eq_map_iff.1 h7'
    obtain ⟨x, l2, rfl, k3, k4⟩ := List.map_eq_cons_iff.1 k2
    simp only [Prod.mk.injEq] at k3
    have hr1 : w1.heap = w.heap := by rcases hw1 with rfl | rfl <;> rfl
    have g1 : w1.heap[r]? = some (.mapIter (some m) clock seen clock) := by rw [hr1]; exact h6
    have hrlt := (Array.getElem?_eq_some_iff.1 g1).1
    refine ⟨l1, x, l2, setBlock w1 r (.mapIter (some m) clock (seen.push e.born) clock), rfl, fun ty => ?_, ?_, ?_⟩
    · rw [k3.1, k3.2]
      exact hrun
    · refine ⟨h0, es, clock, seen.push e.born, ?_, h2, h3, h4, h5, ?_, ?_, ?_, fun y hy => h9 y ?_⟩
      · show (w1.heap.setIfInBounds r _)[m]? = _
        rw [Array.getElem?_setIfInBounds_ne h0, hr1]
        exact h1
      · show (w1.heap.setIfInBounds r _)[r]? = _
        rw [Array.getElem?_setIfInBounds_self_of_lt hrlt]
      · have : (leftOf es (seen.push e.born)).toList = (leftOf es seen).toList.filter (fun x => x.born != e.born) := by
          unfold leftOf
          rw [Array.toList_filter, Array.toList_filter, List.filter_filter]
          congr 1
          funext y
          rw [Bool.eq_iff_iff]
          simp [Array.mem_push, not_or, and_comm]
        rw [this, hdrop, List.map_append, List.map_append, k1, k4]
      · intro y hy
        cases hy
        exact ⟨e, hes, seen, rfl, k3.1.symm, k3.2.symm⟩
      · rw [List.mem_append] at hy ⊢
        rcases hy with hy | hy
        · exact .inl hy
        · exact .inr (List.mem_cons_of_mem _ hy)
    · rcases hw1 with rfl | rfl
      · exact ⟨rfl, rfl, rfl, by simp [setBlock], fun i _ hi => by
          show (w1.heap.setIfInBounds r _)[i]? = _
          rw [Array.getElem?_setIfInBounds_ne (fun e => hi (by rw [e]))]⟩
      · exact ⟨rfl, rfl, rfl, by simp [setBlock], fun i _ hi => by
          show (w.heap.setIfInBounds r _)[i]? = _
          rw [Array.getElem?_setIfInBounds_ne (fun e => hi (by rw [e]))]⟩
theorem RangeM.entry {w : World} {r m : Nat} {D left : List (κ × Value)} {x : κ × Value} (h : RangeM enc w r m D left (some x)) : (Instr.entry (.pointer (some ⟨r, 0, none⟩))).run Try.prog w = .ok (.tuple #[enc x.1, x.2]) w := by
  obtain ⟨h0, es, clock, seen, h1, h2, h3, h4, h5, h6, h7, h8, h9⟩ := h
  obtain ⟨e, he, s, rfl, k1, k2⟩ := h8 x rfl
  rw [← k1, ← k2]
  exact run_entry_at w r m clock s es clock e h6 h1 he (born_nodup h4)
end
/-- all cells stand as they stood: so it is where only a map is turned, and new blocks are laid -/
def CellsUp (w w' : World) : Prop := (∀ p v, w.cell? p = some v → w'.cell? p = some v) ∧ w.heap.size ≤ w'.heap.size
theorem CellsUp.refl (w : World) : CellsUp w w := ⟨fun _ _ h => h, Nat.le_refl _⟩
theorem CellsUp.trans {a b c : World} (h : CellsUp a b) (h2 : CellsUp b c) : CellsUp a c := ⟨fun p v e => h2.1 p v (h.1 p v e), Nat.le_trans h.2 h2.2⟩
theorem CellsUp.below {a b : World} (h : Below a.heap.size a b) : CellsUp a b := ⟨fun p v e => cell_up e h, h.size⟩
theorem CellsUp.grown {κ : Type} [DecidableEq κ] {enc : κ → Value} {a b : World} {m : Nat} {D : List (κ × Value)} (ho : OwnMap enc a m D) (h : a.grownBy b (some m)) : CellsUp a b := by
  refine ⟨fun p v e => ?_, h.size⟩
  obtain ⟨es, clock, hm, _⟩ := ho
  have hne : p.block ≠ m := fun e2 => by
    unfold World.cell? at e
    rw [e2, hm] at e
    simp at e
  exact (World.cell?_of_block (w := a) (w' := b) (a := p) (h.block p.block (World.block_lt_of_cell? _ _ e) (fun e2 => hne (Option.some.inj e2)))).trans e
theorem SliceOf.upC {α : Type} {s : Nat} {R : World → Value → α → Prop} {w w' : World} {v : Value} {l : List α} (h : SliceOf s R w v l) (hR : ∀ u a, R w u a → R w' u a) (hc : CellsUp w w') : SliceOf s R w' v l := by
  obtain ⟨ao, n, cap, hv, hn, h1, h2, h3, h⟩ := h
  refine ⟨ao, n, cap, hv, hn, h1, h2, h3, fun q a hq => ?_⟩
  obtain ⟨b, o, u, hao, hu, hs, hj⟩ := h q a hq
  exact ⟨b, o, u, hao, hR u a hu, hs, fun j c hjc => hc.1 _ _ (hj j c hjc)⟩
end Go.Proofs.Ytfpdnigihjmohaa
