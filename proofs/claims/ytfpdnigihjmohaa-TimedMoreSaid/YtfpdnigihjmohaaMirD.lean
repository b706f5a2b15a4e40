/- Symbolic states of a walk: how they last while memory changes. No condition. -/
import Derived.Test.YtfpdnigihjmohaaMirC
namespace Go.Proofs.Ytfpdnigihjmohaa
open Go.RowKit Go.MapKept
set_option linter.unusedSimpArgs false
set_option linter.unusedVariables false
set_option maxRecDepth 100000

def At.refs : At → List Nat
  | .ptr i _ => [i]
  | .own i => [i]
  | .oe i _ _ => [i]
  | .fn _ l => l
  | .bsl i _ => [i]
  | _ => []
theorem At.ok_hs {g : Gh} {hs hs' : Nat → Value} {a : At} {u : Value} (e : ∀ i ∈ a.refs, hs' i = hs i) (h : a.ok g hs u) : a.ok g hs' u := by
  refine ⟨?_, by have := h.2; cases a <;> exact this⟩
  have h1 := h.1
  cases a <;> simp only [At.raw, At.refs] at h1 e ⊢
  case ptr i off => rw [e i (by simp)]; exact h1
  case own i => rw [e i (by simp)]; exact h1
  case oe i k s => rw [e i (by simp)]; exact h1
  case fn f l =>
    rw [h1]
    congr 2
    exact List.map_congr_left fun i hi => (e i hi).symm
  case bsl i n => rw [e i (by simp)]; exact h1
  all_goals exact h1
def SV.refs : SV → List Nat
  | .one a => a.refs
  | .agg l => l.flatMap At.refs
def SC.refs : SC → List Nat
  | .sv s => s.refs
  | .tup l => l.flatMap SV.refs
theorem oks_hs {g : Gh} {hs hs' : Nat → Value} : ∀ {l : List At} {us : List Value}, (∀ i ∈ l.flatMap At.refs, hs' i = hs i) → oks g hs l us → oks g hs' l us
  | [], [], _, _ => trivial
  | [], _ :: _, _, h => h.elim
  | _ :: _, [], _, h => h.elim
  | a :: l, u :: us, e, h => ⟨At.ok_hs (fun i hi => e i (by simp [hi])) h.1, h.2.1, oks_hs (fun i hi => e i (by rw [List.flatMap_cons, List.mem_append]; exact .inr hi)) h.2.2⟩
theorem SV.ok_hs {g : Gh} {hs hs' : Nat → Value} {a : SV} {u : Value} (e : ∀ i ∈ a.refs, hs' i = hs i) (h : a.ok g hs u) : a.ok g hs' u := by
  cases a with
  | one a => exact At.ok_hs e h
  | agg l =>
    obtain ⟨cs, h1, h2⟩ := h
    exact ⟨cs, h1, oks_hs e h2⟩
theorem svs_hs {g : Gh} {hs hs' : Nat → Value} : ∀ {l : List SV} {us : List Value}, (∀ i ∈ l.flatMap SV.refs, hs' i = hs i) → SV.oks g hs l us → SV.oks g hs' l us
  | [], [], _, _ => trivial
  | [], _ :: _, _, h => h.elim
  | _ :: _, [], _, h => h.elim
  | a :: l, u :: us, e, h => ⟨SV.ok_hs (fun i hi => e i (by simp [hi])) h.1, svs_hs (fun i hi => e i (by rw [List.flatMap_cons, List.mem_append]; exact .inr hi)) h.2⟩
theorem SC.ok_hs {g : Gh} {hs hs' : Nat → Value} {a : SC} {u : Value} (e : ∀ i ∈ a.refs, hs' i = hs i) (h : a.ok g hs u) : a.ok g hs' u := by
  cases a with
  | sv s => exact SV.ok_hs e h
  | tup l =>
    obtain ⟨cs, h1, h2⟩ := h
    exact ⟨cs, h1, svs_hs e h2⟩
def Item.refs : Item → List Nat
  | .box cells _ _ => cells.flatMap At.refs
  | .iter j _ => [j]
  | _ => []
theorem Item.ok_hs {g : Gh} {hs hs' : Nat → Value} {w : World} {x : Value} {it : Item} (e : ∀ i ∈ it.refs, hs' i = hs i) (h : it.ok g hs w x) : it.ok g hs' w x := by
  cases it with
  | box cells ty fz =>
    obtain ⟨b, cs, h1, h2, h3⟩ := h
    exact ⟨b, cs, h1, oks_hs e h2, h3⟩
  | row _ _ _ _ => exact h
  | map _ => exact h
  | iter j r =>
    obtain ⟨rb, m, clock, seen, h1, h2, h3⟩ := h
    exact ⟨rb, m, clock, seen, h1, (e j (by simp [Item.refs])).trans h2, h3⟩
  | gone => trivial
/-- all references of a state -/
def St.refsAll (S : St) (p : Nat → Bool) : Bool := S.F.all (fun x => x.2.refs.all p) && S.M.all (fun it => it.refs.all p)
theorem St.refs_F {S : St} {p : Nat → Bool} (h : S.refsAll p = true) {t : Nat} {x : SC} (hx : (t, x) ∈ S.F) : ∀ i ∈ x.refs, p i = true := by
  simp only [St.refsAll, Bool.and_eq_true, List.all_eq_true] at h
  exact h.1 _ hx
theorem St.refs_M {S : St} {p : Nat → Bool} (h : S.refsAll p = true) {j : Nat} {it : Item} (hx : S.M[j]? = some it) : ∀ i ∈ it.refs, p i = true := by
  simp only [St.refsAll, Bool.and_eq_true, List.all_eq_true] at h
  exact h.2 _ (List.mem_of_getElem? hx)
theorem ownBlock_blk {v : Value} {b : Nat} (h : v.ownBlock = some b) : blk v = some b := by
  unfold Value.ownBlock at h
  split at h
  · exact h
  · cases h
theorem Item.kept {g : Gh} {hs : Nat → Value} {w w' : World} {k : Option Nat} (hg : w.grownBy w' k) {x : Value} {it : Item} (hb : ∀ b, blk x = some b → b < w.heap.size ∧ some b ≠ k) (h : it.ok g hs w x) : it.ok g hs w' x := by
  cases it with
  | box cells ty fz =>
    obtain ⟨b, cs, rfl, h2, h3, h4⟩ := h
    obtain ⟨h5, h6⟩ := hb b rfl
    exact ⟨b, cs, rfl, h2, (hg.block b h5 h6).trans h3, h4⟩
  | row ty s r n =>
    obtain ⟨cs, h1, h2⟩ := h
    refine ⟨cs, h1.kept hg ?_, h2⟩
    cases hx : x.ownBlock with
    | none => exact .inl rfl
    | some b => exact .inr (by obtain ⟨_, h6⟩ := hb b (ownBlock_blk hx); exact h6)
  | map r =>
    obtain ⟨m, es, clock, rfl, h1, h3⟩ := h
    obtain ⟨h5, h6⟩ := hb m rfl
    exact ⟨m, es, clock, rfl, (hg.block m h5 h6).trans h1, h3⟩
  | iter j r =>
    obtain ⟨rb, m, clock, seen, rfl, h2, h3, h4⟩ := h
    obtain ⟨h5, h6⟩ := hb rb rfl
    exact ⟨rb, m, clock, seen, rfl, h2, (hg.block rb h5 h6).trans h3, h4⟩
  | gone => trivial
theorem Base.kept {c : Cfg} {w w' : World} {g : Gh} (h : Base c w g) {k : Option Nat} (hg : w.grownBy w' k) (hk : ∀ b, k = some b → (c.may b ∨ c.w0.heap.size ≤ b) ∧ g b = none) : Base c w' g := by
  refine ⟨hg.os.trans h.os, hg.tape.trans h.tape, hg.output.trans h.output, Nat.le_trans h.grows hg.size, fun b hb hm => ?_, h.ghle, h.ghnew, fun b o e => ?_⟩
  · have hne : some b ≠ k := fun e => by
      rcases (hk b e.symm).1 with h1 | h1
      · exact hm h1
      · omega
    exact (hg.block b (Nat.lt_of_lt_of_le hb h.grows) hne).trans (h.frame b hb hm)
  · have hne : some b ≠ k := fun e2 => by
      have := (hk b e2.symm).2
      rw [this] at e
      cases e
    exact (hg.block b (h.pers.lt e) hne).trans (h.pers b o e)
theorem fz_gone {it : Item} (h : it.fz = false) : it ≠ .gone := fun e => by subst e; cases h
section
variable {c : Cfg} {S : St} {a : Act} {w w' : World} {g : Gh} {hs : Nat → Value}
/-- nothing of the call's own is written -/
theorem Ok'.grown (h : Ok' c S a w g hs) (hg : w.grownBy w' none) : Ok' c S a w' g hs := by
  refine ⟨h.size, h.defers, h.base.kept hg (fun b e => by cases e), h.slots, fun i it hi => ?_, h.sep, fun i it hi hn b hb => ?_⟩
  · by_cases hn : it = .gone
    · subst hn; trivial
    · exact Item.kept hg (h := h.items i it hi) fun b hb => ⟨(h.mine i it hi hn b hb).1, by simp⟩
  · obtain ⟨h2, h3⟩ := h.mine i it hi hn b hb
    exact ⟨Nat.lt_of_lt_of_le h2 hg.size, h3⟩
/-- one piece of memory is written -/
theorem Ok'.upd (h : Ok' c S a w g hs) {i : Nat} {it it' : Item} (hi : S.M[i]? = some it) (hf : it.fz = false) (hf' : it'.fz = false) (hg : w.grownBy w' (blk (hs i))) (ho : it'.ok g hs w' (hs i)) : Ok' c ⟨S.F, S.M.set i it'⟩ a w' g hs := by
  have hlt : i < S.M.length := (List.getElem?_eq_some_iff.1 hi).1
  have hn := fz_gone hf
  have hset : ∀ (j : Nat) (jt : Item), (S.M.set i it')[j]? = some jt → (j = i ∧ jt = it') ∨ (j ≠ i ∧ S.M[j]? = some jt) := fun j jt hj => by
    rw [List.getElem?_set] at hj
    by_cases e : i = j
    · rw [if_pos e] at hj
      rw [if_pos hlt] at hj
      simp at hj
      exact .inl ⟨e.symm, hj.symm⟩
    · rw [if_neg e] at hj; exact .inr ⟨Ne.symm e, hj⟩
  have hold : ∀ (j : Nat) (jt : Item), (S.M.set i it')[j]? = some jt → jt ≠ .gone → ∃ x, S.M[j]? = some x ∧ x ≠ .gone ∧ (jt.fz = false → x.fz = false) := fun j jt hj hnj => by
    rcases hset j jt hj with ⟨rfl, _⟩ | ⟨_, hj⟩
    · exact ⟨it, hi, hn, fun _ => hf⟩
    · exact ⟨jt, hj, hnj, fun h => h⟩
  refine ⟨h.size, h.defers, h.base.kept hg (fun b e => (h.mine i it hi hn b e).2 hf), h.slots, fun j jt hj => ?_, fun j k jt kt hjk hj hk hfj hnk b hb => ?_, fun j jt hj hnj b hb => ?_⟩
  · rcases hset j jt hj with ⟨rfl, rfl⟩ | ⟨hne, hj⟩
    · exact ho
    · by_cases hnj : jt = .gone
      · subst hnj; trivial
      · exact Item.kept hg (h := h.items j jt hj) fun b hb => ⟨(h.mine j jt hj hnj b hb).1, fun e => h.sep i j it jt (Ne.symm hne) hi hj hf hnj b e.symm hb⟩
  · obtain ⟨jt', hj', hnj', hfj'⟩ := hold j jt hj (fz_gone hfj)
    obtain ⟨kt', hk', hnk', _⟩ := hold k kt hk hnk
    exact h.sep j k jt' kt' hjk hj' hk' (hfj' hfj) hnk' b hb
  · obtain ⟨jt', hj', hnj', hfj'⟩ := hold j jt hj hnj
    obtain ⟨h2, h3⟩ := h.mine j jt' hj' hnj' b hb
    exact ⟨Nat.lt_of_lt_of_le h2 hg.size, fun hf => h3 (hfj' hf)⟩
/-- handles that nothing speaks of -/
theorem Ok'.handles (h : Ok' c S a w g hs) {p : Nat → Bool} (hp : S.refsAll p = true) {hs' : Nat → Value} (e : ∀ i, p i = true → hs' i = hs i) (e2 : ∀ (i : Nat) (it : Item), S.M[i]? = some it → it ≠ .gone → hs' i = hs i) : Ok' c S a w g hs' := by
  refine ⟨h.size, h.defers, h.base, fun t x hx => SC.ok_hs (fun i hi => e i (St.refs_F hp hx i hi)) (h.slots t x hx), fun i it hi => ?_, fun i j it jt hij hi hj hfi hnj => ?_, fun i it hi hni => ?_⟩
  · by_cases hn : it = .gone
    · subst hn; trivial
    · rw [e2 i it hi hn]
      exact Item.ok_hs (fun j hj => e j (St.refs_M hp hi j hj)) (h.items i it hi)
  · rw [e2 i it hi (fz_gone hfi), e2 j jt hj hnj]
    exact h.sep i j it jt hij hi hj hfi hnj
  · rw [e2 i it hi hni]
    exact h.mine i it hi hni
/-- a new piece of memory -/
theorem Ok'.new (h : Ok' c S a w g hs) (hp : S.refsAll (fun i => Nat.blt i S.M.length) = true) {x : Value} {it : Item} (hg : w.grownBy w' none) (hb : ∀ b, blk x = some b → w.heap.size ≤ b ∧ b < w'.heap.size)
    (ho : it.ok g (fun j => if j = S.M.length then x else hs j) w' x) : Ok' c ⟨S.F, S.M ++ [it]⟩ a w' g (fun j => if j = S.M.length then x else hs j) := by
  have h1 := h.grown hg
  have h2 := h1.handles hp (hs' := fun j => if j = S.M.length then x else hs j) (fun i hi => by
    have := Nat.le_of_ble_eq_true hi
    rw [if_neg (by omega)]) (fun i it hi _ => by
    have := (List.getElem?_eq_some_iff.1 hi).1
    rw [if_neg (by omega)])
  have hset : ∀ (j : Nat) (jt : Item), (S.M ++ [it])[j]? = some jt → (j = S.M.length ∧ jt = it) ∨ (j < S.M.length ∧ S.M[j]? = some jt) := fun j jt hj => by
    rw [List.getElem?_append] at hj
    split at hj
    · rename_i e; exact .inr ⟨e, hj⟩
    · rename_i e
      by_cases e2 : j = S.M.length
      · subst e2
        simp at hj
        exact .inl ⟨rfl, hj.symm⟩
      · rw [List.getElem?_eq_none (by simp; omega)] at hj
        cases hj
  have hold : ∀ (j : Nat) (jt : Item), S.M[j]? = some jt → jt ≠ .gone → ∀ b, blk (hs j) = some b → b < w.heap.size := fun j jt hj hn b hb => (h.mine j jt hj hn b hb).1
  refine ⟨h2.size, h2.defers, h2.base, h2.slots, fun j jt hj => ?_, fun j k jt kt hjk hj hk hfj hnk b hb1 => ?_, fun j jt hj hnj b hb1 => ?_⟩
  · rcases hset j jt hj with ⟨rfl, rfl⟩ | ⟨_, hj⟩
    · simp only [if_true]
      exact ho
    · exact h2.items j jt hj
  · rcases hset j jt hj with ⟨rfl, rfl⟩ | ⟨j1, hj'⟩
    · rcases hset k kt hk with ⟨rfl, rfl⟩ | ⟨k1, hk'⟩
      · exact absurd rfl hjk
      · simp only [if_true] at hb1
        rw [if_neg (by omega)]
        intro e
        have := hold k kt hk' hnk b e
        have := hb b hb1
        omega
    · rcases hset k kt hk with ⟨rfl, rfl⟩ | ⟨k1, hk'⟩
      · rw [if_neg (by omega)] at hb1
        intro e
        rw [if_pos rfl] at e
        have := hold j jt hj' (fz_gone hfj) b hb1
        have := hb b e
        omega
      · exact h2.sep j k jt kt hjk hj' hk' hfj hnk b hb1
  · rcases hset j jt hj with ⟨rfl, rfl⟩ | ⟨j1, hj'⟩
    · simp only [if_true] at hb1
      obtain ⟨x1, x2⟩ := hb b hb1
      refine ⟨x2, fun _ => ⟨.inr (Nat.le_trans h.base.grows x1), ?_⟩⟩
      cases hgb : g b with
      | none => rfl
      | some o => have := h.base.pers.lt hgb; omega
    · exact h2.mine j jt hj' hnj b hb1
end
end Go.Proofs.Ytfpdnigihjmohaa
