/- Symbolic states of a walk: maps of the call's own. No condition. -/
import Derived.Test.YtfpdnigihjmohaaMirP
import Derived.Test.YtfpdnigihjmohaaMaps
namespace Go.Proofs.Ytfpdnigihjmohaa
open Go.RowKit Go.MapKept
set_option linter.unusedSimpArgs false
set_option linter.unusedVariables false
set_option maxRecDepth 100000

section plain
variable {κ α : Type} [DecidableEq κ]
/-- what a map holds -/
def mget (k : κ) : List (κ × α) → Option α
  | [] => none
  | x :: D => if k = x.1 then some x.2 else mget k D
def mput (k : κ) (v : α) : List (κ × α) → List (κ × α)
  | [] => [(k, v)]
  | x :: D => if k = x.1 then (k, v) :: D else x :: mput k v D
theorem mput_keys {a : κ} {v : α} {D : List (κ × α)} : (mput a v D).map (·.1) = if a ∈ D.map (·.1) then D.map (·.1) else D.map (·.1) ++ [a] := by
  induction D with
  | nil => simp [mput]
  | cons x D ih =>
    rw [mput]
    split
    · rename_i e
      simp [e]
    · rename_i e
      rw [List.map_cons, ih]
      by_cases h : a ∈ D.map (·.1)
      · rw [if_pos h, if_pos (by simp [h])]; simp
      · rw [if_neg h, if_neg (by simp [e]; simpa using h)]; simp
theorem mput_nodup {a : κ} {v : α} {D : List (κ × α)} (hn : (D.map (·.1)).Nodup) : ((mput a v D).map (·.1)).Nodup := by
  rw [mput_keys]
  split
  · exact hn
  · rename_i h
    rw [List.nodup_append]
    exact ⟨hn, by simp, fun x hx y hy => by simp at hy; subst hy; exact fun e => h (e ▸ hx)⟩
theorem mget_put {a b : κ} {v : α} {D : List (κ × α)} : mget b (mput a v D) = if b = a then some v else mget b D := by
  induction D with
  | nil => simp only [mput, mget]
  | cons x D ih =>
    rw [mput]
    split
    · rename_i e
      simp only [mget, ← e]
      split <;> simp_all
    · rename_i e
      simp only [mget]
      split
      · rename_i e2
        have : b ≠ a := fun e3 => e (by rw [← e3, e2])
        simp [this]
      · exact ih
theorem mget_mem {a : κ} {v : α} {D : List (κ × α)} (hn : (D.map (·.1)).Nodup) : mget a D = some v ↔ (a, v) ∈ D := by
  induction D with
  | nil => simp [mget]
  | cons x D ih =>
    rw [List.map_cons, List.nodup_cons] at hn
    simp only [mget]
    split
    · rename_i e
      subst e
      simp only [Option.some.injEq, List.mem_cons]
      constructor
      · rintro rfl; exact .inl rfl
      · rintro (h | h)
        · rw [← h]
        · exact absurd (List.mem_map_of_mem (f := (·.1)) h) hn.1
    · rename_i e
      rw [ih hn.2, List.mem_cons]
      constructor
      · exact .inr
      · rintro (h | h)
        · exact absurd (by rw [← h]) e
        · exact h
theorem mget_none {a : κ} {D : List (κ × α)} : mget a D = none ↔ a ∉ D.map (·.1) := by
  induction D with
  | nil => simp [mget]
  | cons x D ih =>
    simp only [mget]
    split
    · rename_i e; simp [e]
    · rename_i e
      rw [ih]
      simp [e]
end plain
section
variable {κ α : Type} [DecidableEq κ]
def mapRead (enc : κ → Value) (T : Ty α) (D : List (κ × α)) (g : Gh) (L : Array MapEntry × Nat) : Prop :=
  ∃ D0 : List (κ × Value), (L.1.toList.map (fun e => (e.key, e.val)) = D0.map (fun x => (enc x.1, x.2)) ∧ (L.1.toList.map (·.born)).Pairwise (· < ·) ∧ ∀ e ∈ L.1.toList, e.born < L.2) ∧ D0.map (·.1) = D.map (·.1) ∧ (D.map (·.1)).Nodup ∧ ∀ (q : Nat) (x : κ × Value) (y : κ × α), D0[q]? = some x → D[q]? = some y → (T.sv y.2).ok g hs0 x.2
def mapR (enc : κ → Value) (T : Ty α) (D : List (κ × α)) : Rl (Array MapEntry × Nat) := ⟨mapRead enc T D, fun g g' L h ⟨D0, h1, h2, h3, h4⟩ => ⟨D0, h1, h2, h3, fun q x y hx hy => SV.mono h (h4 q x y hx hy)⟩⟩
/-- a reading of a map tells at least this -/
def MapAs (enc : κ → Value) (T : Ty α) (D : List (κ × α)) (r : Rl (Array MapEntry × Nat)) : Prop := ∀ g p, r.R g p → mapRead enc T D g p
omit [DecidableEq κ] in
theorem mapAs (enc : κ → Value) (T : Ty α) (D : List (κ × α)) : MapAs enc T D (mapR enc T D) := fun _ _ h => h
/-- a map that is gone over: its entries are told -/
def mapXR (enc : κ → Value) (T : Ty α) (D : List (κ × α)) (es : Array MapEntry) (clock : Nat) : Rl (Array MapEntry × Nat) := ⟨fun g p => p = (es, clock) ∧ mapRead enc T D g p, fun g g' L h ⟨e, k⟩ => ⟨e, (mapR enc T D).mono g g' L h k⟩⟩
abbrev mapX (enc : κ → Value) (T : Ty α) (D : List (κ × α)) (es : Array MapEntry) (clock : Nat) : Item := .map (mapXR enc T D es clock)
omit [DecidableEq κ] in
theorem mapXAs (enc : κ → Value) (T : Ty α) (D : List (κ × α)) (es : Array MapEntry) (clock : Nat) : MapAs enc T D (mapXR enc T D es clock) := fun _ _ h => h.2
abbrev mapI (enc : κ → Value) (T : Ty α) (D : List (κ × α)) : Item := .map (mapR enc T D)
theorem pairs_get {T : Ty α} {g : Gh} {k : κ} : ∀ {D0 : List (κ × Value)} {D : List (κ × α)}, D0.map (·.1) = D.map (·.1) → (∀ (q : Nat) (x : κ × Value) (y : κ × α), D0[q]? = some x → D[q]? = some y → (T.sv y.2).ok g hs0 x.2) →
    (lookD k D0 = none ∧ mget k D = none) ∨ ∃ v y, lookD k D0 = some v ∧ mget k D = some y ∧ (T.sv y).ok g hs0 v := by
  have key : ∀ (D0 : List (κ × Value)) (D : List (κ × α)) (i : Nat), D0.map (·.1) = D.map (·.1) → (∀ (q : Nat) (x : κ × Value) (y : κ × α), D0[q]? = some x → D[q]? = some y → (T.sv y.2).ok g hs0 x.2) →
      ((findD k D0 i).map (·.2) = none ∧ mget k D = none) ∨ ∃ v y, (findD k D0 i).map (·.2) = some v ∧ mget k D = some y ∧ (T.sv y).ok g hs0 v := by
    intro D0
    induction D0 with
    | nil => intro D i h _; cases D with
      | nil => exact .inl ⟨rfl, rfl⟩
      | cons _ _ => cases h
    | cons x D0 ih =>
      intro D i h hp
      cases D with
      | nil => cases h
      | cons y D =>
        simp only [List.map_cons, List.cons.injEq] at h
        simp only [findD, mget, ← h.1]
        split
        · exact .inr ⟨x.2, y.2, rfl, rfl, hp 0 x y rfl rfl⟩
        · exact ih D (i + 1) h.2 (fun q a b ha hb => hp (q + 1) a b (by simpa using ha) (by simpa using hb))
  intro D0 D h1 h2
  exact key D0 D 0 h1 h2
theorem pairs_put {T : Ty α} {g : Gh} {k : κ} {v : Value} {y : α} (hv : (T.sv y).ok g hs0 v) : ∀ {D0 : List (κ × Value)} {D : List (κ × α)}, D0.map (·.1) = D.map (·.1) → (∀ (q : Nat) (x : κ × Value) (y : κ × α), D0[q]? = some x → D[q]? = some y → (T.sv y.2).ok g hs0 x.2) →
    (putD k v D0).map (·.1) = (mput k y D).map (·.1) ∧ ∀ (q : Nat) (x : κ × Value) (y' : κ × α), (putD k v D0)[q]? = some x → (mput k y D)[q]? = some y' → (T.sv y'.2).ok g hs0 x.2 := by
  intro D0
  induction D0 with
  | nil => intro D h _; cases D with
    | nil =>
      refine ⟨rfl, fun q x y' hx hy => ?_⟩
      cases q with
      | zero => simp [putD, mput] at hx hy; subst hx hy; exact hv
      | succ q => simp [putD] at hx
    | cons _ _ => cases h
  | cons x D0 ih =>
    intro D h hp
    cases D with
    | nil => cases h
    | cons z D =>
      simp only [List.map_cons, List.cons.injEq] at h
      simp only [putD, mput, ← h.1]
      split
      · refine ⟨by simp [h.2], fun q a b ha hb => ?_⟩
        cases q with
        | zero => simp at ha hb; subst ha hb; exact hv
        | succ q => exact hp (q + 1) a b (by simpa using ha) (by simpa using hb)
      · obtain ⟨i1, i2⟩ := ih h.2 (fun q a b ha hb => hp (q + 1) a b (by simpa using ha) (by simpa using hb))
        refine ⟨by simp [h.1, i1], fun q a b ha hb => ?_⟩
        cases q with
        | zero => simp at ha hb; subst ha hb; exact hp 0 x z rfl rfl
        | succ q => exact i2 q a b (by simpa using ha) (by simpa using hb)
end
/-- of an operand: a value that is wholly known -/
def knownL : List At → Option (List Value)
  | [] => some []
  | .v x :: l => match knownL l with
    | some r => some (x :: r)
    | none => none
  | _ :: _ => none
def evKV (F : List (Nat × SC)) (o : Operand) : Option Value := match evX F o with
  | some (.sv (.one (.v x))) => some x
  | some (.sv (.agg l)) => match knownL l with
    | some r => some (.agg r.toArray)
    | none => none
  | _ => none
theorem knownL_ok {g : Gh} {hs : Nat → Value} : ∀ {l : List At} {r us : List Value}, knownL l = some r → oks g hs l us → us = r
  | [], r, us, e, h => by
    cases e
    cases us with
    | nil => rfl
    | cons _ _ => exact h.elim
  | a :: l, r, us, e, h => by
    cases a <;> try (cases e; done)
    rename_i x
    simp only [knownL] at e
    split at e
    case h_2 => cases e
    rename_i r' hr
    cases e
    cases us with
    | nil => exact h.elim
    | cons u us =>
      have h1 : u = x := h.1.1
      rw [h1, knownL_ok hr h.2.2]
section
variable {κ α : Type} [DecidableEq κ] {enc : κ → Value} {T : Ty α} {D : List (κ × α)}
variable {c : Cfg} {S S1 : St} {a : Act} {w : World} {g : Gh} {hs : Nat → Value} {tab : Tab} {n : Nat} {o : Oper} {ops : Array Oper} {rest L : List Oper} {N : Po}
theorem evKV_ok (h : Ok' c S a w g hs) {x : Operand} {v : Value} (e : evKV S.F x = some v) : a.eval x = v := by
  unfold evKV at e
  split at e
  · rename_i y hy
    cases e
    exact (evX_ok h hy).1
  · rename_i l hl
    split at e
    case h_2 => cases e
    rename_i r hr
    cases e
    obtain ⟨cs, h1, h2⟩ := evX_ok h hl
    rw [h1, knownL_ok hr h2]
  · cases e
omit [DecidableEq κ] in
theorem map_ownR {r : Rl (Array MapEntry × Nat)} (h : Ok' c S a w g hs) {i : Nat} (hm : S.M[i]? = some (.map r)) (hr : MapAs enc T D r) : ∃ m D0, hs i = .map (some m) ∧ OwnMap enc w m D0 ∧ D0.map (·.1) = D.map (·.1) ∧ (D.map (·.1)).Nodup ∧ ∀ (q : Nat) (x : κ × Value) (y : κ × α), D0[q]? = some x → D[q]? = some y → (T.sv y.2).ok g hs0 x.2 := by
  obtain ⟨m, es, clock, h1, h2, hx⟩ := h.items i _ hm
  obtain ⟨D0, ⟨h6, h4, h5⟩, h7, h8, h9⟩ := hr _ _ hx
  exact ⟨m, D0, h1, ⟨es, clock, h2, h6, by rw [h7]; exact h8, h4, h5⟩, h7, h8, h9⟩
omit [DecidableEq κ] in
theorem map_own (h : Ok' c S a w g hs) {i : Nat} (hm : S.M[i]? = some (mapI enc T D)) : ∃ m D0, hs i = .map (some m) ∧ OwnMap enc w m D0 ∧ D0.map (·.1) = D.map (·.1) ∧ (D.map (·.1)).Nodup ∧ ∀ (q : Nat) (x : κ × Value) (y : κ × α), D0[q]? = some x → D[q]? = some y → (T.sv y.2).ok g hs0 x.2 := map_ownR h hm (mapAs enc T D)
omit [DecidableEq κ] in
/-- a new map -/
theorem mt_makeMap (enc : κ → Value) (T : Ty α) (p : Nat) {t : Nat} (ho : o.op = .makeMap t none) : MT c S o (.sv (.one (.own p))) [] (some (p, mapI enc T [])) := fun a w g hs h N Z hN => by
  unfold Oper.wp
  have hrun : (execOp a.eval o).run Try.prog w = .ok (.value (.map (some w.heap.size))) (w.alloc (.map #[] 0)) := by
    have : execOp a.eval o = (do pure (.value (← Instr.makeMap t none)) : Sem Next) := by unfold execOp; rw [ho]; rfl
    rw [this]
    refine run_valW ?_
    simp [Instr.makeMap, newObj, Sem.run]
  rw [hrun]
  refine hN _ _ g (.map (some w.heap.size)) ⟨rfl, rfl, rfl, by simp, fun b hb _ => (World.grownBy_alloc w _ none).block b hb (by simp), Gh.le.refl g, fun b o e => .inl e, fun b o e => ?_⟩ ⟨?_, trivial⟩ ⟨⟨w.heap.size, #[], 0, rfl, heap_alloc_new w _, [], ⟨rfl, by simp, by simp⟩, rfl, by simp, fun q x y hx => by simp at hx⟩, fun b hb => ?_⟩
  · exact ((World.grownBy_alloc w _ none).block b (h.base.pers.lt e) (by simp)).trans (h.base.pers b o e)
  · show _ = (if p = p then _ else hs p)
    rw [if_pos rfl]
  · cases hb
    refine ⟨by simp, fun _ => ?_, .inl (Nat.le_refl _)⟩
    cases hgb : g w.heap.size with
    | none => rfl
    | some o => have := h.base.pers.lt hgb; omega
/-- what a look-up hands back -/
def lookOut (T : Ty α) (z : α) (r : Option α) (ok : Bool) : SC := match ok with
  | true => .tup [T.sv (r.getD z), .one (B r.isSome)]
  | false => .sv (T.sv (r.getD z))
theorem val_lookup {kt e t i : Nat} (K : KeyLaw kt enc) {k : κ} {m x : Operand} {ok : Bool} (z : α) {zv : Value} (ho : o.op = .lookup t m x ok) (ht : Try.prog.underlying t = some (.map kt e)) (hz : ∀ w, (zeroValue e).run Try.prog w = .ok zv w) (hz2 : ∀ g, (T.sv z).ok g hs0 zv)
    {r : Rl (Array MapEntry × Nat)} (hr : MapAs enc T D r) (hm : evX S.F m = some (.sv (.one (.own i)))) (hi : S.M[i]? = some (.map r)) (hx : evKV S.F x = some (enc k)) (hc : ∀ a, (T.sv a).refs = []) : Val c S o (lookOut T z (mget k D) ok) := fun a w g hs h => by
  obtain ⟨b, D0, h1, h2, h3, h4, h5⟩ := map_ownR h hi hr
  have hv : a.eval m = .map (some b) := (evX_ok h hm).1.trans h1
  have hrun := h2.look K ht hz k ok
  have : (execOp a.eval o).run Try.prog w = .ok (.value (lookV ok zv (lookD k D0))) w := by
    have e : execOp a.eval o = (do pure (.value (← Instr.lookup t (a.eval m) (a.eval x) ok)) : Sem Next) := by unfold execOp; rw [ho]
    rw [e, hv, evKV_ok h hx]
    exact run_val hrun
  refine ⟨_, this, ?_⟩
  have up : ∀ {s : SV} {v : Value}, s.refs = [] → s.ok g hs0 v → s.ok g hs v := fun hc h => SV.ok_hs (fun i hi => by rw [hc] at hi; cases hi) h
  rcases pairs_get (k := k) h3 h5 with ⟨e1, e2⟩ | ⟨v, y, e1, e2, e3⟩
  · rw [e1, e2]
    cases ok with
    | true => exact ⟨[zv, .bool false], rfl, up (hc _) (hz2 g), ⟨rfl, trivial⟩, trivial⟩
    | false => exact up (hc _) (hz2 g)
  · rw [e1, e2]
    cases ok with
    | true => exact ⟨[v, .bool true], rfl, up (hc _) e3, ⟨rfl, trivial⟩, trivial⟩
    | false => exact up (hc _) e3
/-- a store -/
theorem WL.mapPut {kt e t i : Nat} (K : KeyLaw kt enc) {k : κ} {y : α} {m x v : Operand} (hn : c.n = n) (hw : wantE ops S.F o = some true) (ho : o.op = .mapUpdate t m x v ∨ o.op = .insert t m x v) (ht : Try.prog.underlying t = some (.map kt e))
    (hm : evX S.F m = some (.sv (.one (.own i)))) (hi : S.M[i]? = some (mapI enc T D)) (hx : evKV S.F x = some (enc k)) (hv : evX S.F v = some (.sv (T.sv y))) (hc : (T.sv y).refs = [])
    (e : putE n o.dst (.tup []) ⟨S.F, S.M.set i (mapI enc T (mput k y D))⟩ = some S1) (h : WL c ops rest S1 N) : WL c ops (o :: rest) S N := fun a w ⟨g, hs, hk⟩ => by
  unfold wpList
  rw [if_pos (wantE_ok hk hw)]
  refine .inl ?_
  unfold Oper.wp
  obtain ⟨b, D0, h1, h2, h3, h4, h5⟩ := map_own hk hi
  have hmv : a.eval m = .map (some b) := (evX_ok hk hm).1.trans h1
  have hval : (T.sv y).ok g hs0 (a.eval v) := SV.ok_hs (fun i hi => by rw [hc] at hi; cases hi) (evX_ok hk hv)
  obtain ⟨w', r1, ⟨es, clock, r2, r3, _, r4, r5⟩, rg⟩ := h2.put K ht k (a.eval v)
  have hrun : (execOp a.eval o).run Try.prog w = .ok .skip w' := by
    have e : execOp a.eval o = (do Instr.mapUpdate t (a.eval m) (a.eval x) (a.eval v); pure .skip : Sem Next) := by
      unfold execOp
      rcases ho with ho | ho <;> rw [ho]
    rw [e, hmv, evKV_ok hk hx, Sem.run_bind, r1]
    simp
  rw [hrun]
  obtain ⟨p1, p2⟩ := pairs_put (k := k) hval h3 h5
  have hup := hk.upd (w' := w') (it' := mapI enc T (mput k y D)) hi rfl rfl (by rw [h1]; exact rg) ⟨b, es, clock, h1, r2, putD k (a.eval v) D0, ⟨r3, r4, r5⟩, p1, mput_nodup h4, p2⟩
  exact h _ _ ⟨g, hs, putE_ok hup hn undef_ok e⟩
end
end Go.Proofs.Ytfpdnigihjmohaa
