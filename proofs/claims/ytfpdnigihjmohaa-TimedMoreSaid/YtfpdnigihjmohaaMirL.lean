/- Symbolic states of a walk: operations that use up pieces of memory of the call's own and make new ones; what they leave alone. No condition. -/
import Derived.Test.YtfpdnigihjmohaaMirK
namespace Go.Proofs.Ytfpdnigihjmohaa
open Go.RowKit Go.MapKept
set_option linter.unusedSimpArgs false
set_option linter.unusedVariables false
set_option maxRecDepth 100000

/-- what an operation does to memory, where it uses up the pieces K -/
structure Eff (hs : Nat → Value) (K : List Nat) (w : World) (g : Gh) (w' : World) (g' : Gh) : Prop where
  os : w'.os = w.os
  tape : w'.tape = w.tape
  output : w'.output = w.output
  size : w.heap.size ≤ w'.heap.size
  block : ∀ b, b < w.heap.size → (∀ k ∈ K, blk (hs k) ≠ some b) → w'.heap[b]? = w.heap[b]?
  ghle : Gh.le g g'
  ghnew : ∀ b o, g' b = some o → g b = some o ∨ w.heap.size ≤ b ∨ ∃ k ∈ K, blk (hs k) = some b
  pers : Pers g' w'
def setM (M : List Item) (p : Nat) (it : Item) : List Item := if p < M.length then M.set p it else M ++ List.replicate (p - M.length) .gone ++ [it]
def goneM (M : List Item) : List Nat → List Item
  | [] => M
  | k :: K => goneM (M.set k .gone) K
def newM (M : List Item) (K : List Nat) : Option (Nat × Item) → List Item
  | none => goneM M K
  | some (p, it) => setM (goneM M K) p it
def newH (hs : Nat → Value) (p : Option (Nat × Item)) (h' : Value) : Nat → Value := match p with
  | none => hs
  | some (p, _) => fun i => if i = p then h' else hs i
def newOk (hs : Nat → Value) (K : List Nat) (w : World) (w' : World) (g' : Gh) (h' : Value) : Option (Nat × Item) → Prop
  | none => True
  | some (p, it) => it.ok g' (fun i => if i = p then h' else hs i) w' h' ∧ ∀ b, blk h' = some b → b < w'.heap.size ∧ (it.fz = false → g' b = none) ∧ (w.heap.size ≤ b ∨ ∃ k ∈ K, blk (hs k) = some b)
/-- operation o, from S on: it yields what is as x says, uses up K, and makes p -/
def MT (c : Cfg) (S : St) (o : Oper) (x : SC) (K : List Nat) (p : Option (Nat × Item)) : Prop :=
  ∀ a w g hs, Ok' c S a w g hs → ∀ N Z : Po, (∀ v w' g' h', Eff hs K w g w' g' → x.ok g' (newH hs p h') v → newOk hs K w w' g' h' p → N (a.put o.dst v) w') → o.wp Try.prog a w N (RM.Only Z)
theorem setM_get {M : List Item} {p : Nat} {it : Item} : ∀ (i : Nat) (jt : Item), (setM M p it)[i]? = some jt → (i = p ∧ jt = it) ∨ (i ≠ p ∧ (M[i]? = some jt ∨ jt = .gone)) := fun i jt h => by
  unfold setM at h
  split at h
  · rw [List.getElem?_set] at h
    by_cases e : p = i
    · rw [if_pos e] at h
      subst e
      rename_i hp
      rw [if_pos hp] at h
      simp at h
      exact .inl ⟨rfl, h.symm⟩
    · rw [if_neg e] at h
      exact .inr ⟨Ne.symm e, .inl h⟩
  · rename_i hlt
    rw [List.getElem?_append, List.getElem?_append] at h
    simp only [List.length_append, List.length_replicate] at h
    split at h
    · rename_i h1
      split at h
      · exact .inr ⟨by omega, .inl h⟩
      · rw [List.getElem?_replicate] at h
        split at h
        · simp at h; exact .inr ⟨by omega, .inr h.symm⟩
        · cases h
    · rename_i h1
      by_cases e : i = p
      · subst e
        rw [show i - (M.length + (i - M.length)) = 0 by omega] at h
        simp at h
        exact .inl ⟨rfl, h.symm⟩
      · rw [List.getElem?_eq_none (by simp; omega)] at h
        cases h
theorem goneM_get : ∀ {K : List Nat} {M : List Item} (i : Nat) (jt : Item), (goneM M K)[i]? = some jt → jt ≠ .gone → i ∉ K ∧ M[i]? = some jt
  | [], M, i, jt, h, _ => ⟨by simp, h⟩
  | k :: K, M, i, jt, h, hn => by
    obtain ⟨h1, h2⟩ := goneM_get (K := K) (M := M.set k .gone) i jt h hn
    rw [List.getElem?_set] at h2
    by_cases e : k = i
    · rw [if_pos e] at h2
      split at h2
      · simp at h2; exact absurd h2.symm hn
      · cases h2
    · rw [if_neg e] at h2
      exact ⟨by simp; exact ⟨Ne.symm e, h1⟩, h2⟩
theorem Item.mono {g g' : Gh} {hs : Nat → Value} {w : World} {x : Value} (hg : Gh.le g g') {it : Item} (h : it.ok g hs w x) : it.ok g' hs w x := by
  cases it with
  | box cells ty fz =>
    obtain ⟨b, cs, h1, h2, h3, h4⟩ := h
    exact ⟨b, cs, h1, oks_mono hg h2, h3, fun h => hg _ _ (h4 h)⟩
  | row ty s r n =>
    obtain ⟨cs, h1, h2⟩ := h
    exact ⟨cs, h1, r.mono _ _ _ hg h2⟩
  | map r =>
    obtain ⟨m, es, clock, h1, h2, h3⟩ := h
    exact ⟨m, es, clock, h1, h2, r.mono _ _ _ hg h3⟩
  | iter _ _ => exact h
  | gone => trivial
theorem Item.same {g g' : Gh} {hs : Nat → Value} {w w' : World} {x : Value} {it : Item} (hg : Gh.le g g') (hb : ∀ b, blk x = some b → w'.heap[b]? = w.heap[b]?) (h : it.ok g hs w x) : it.ok g' hs w' x := by
  refine Item.mono hg ?_
  cases it with
  | box cells ty fz =>
    obtain ⟨b, cs, rfl, h2, h3, h4⟩ := h
    exact ⟨b, cs, rfl, h2, (hb b rfl).trans h3, h4⟩
  | row ty s r n =>
    obtain ⟨cs, ⟨h0, h1⟩, h2⟩ := h
    refine ⟨cs, ⟨h0, ?_⟩, h2⟩
    rcases h1 with h1 | ⟨gb, cap, cur, rfl, h3, h4, h5⟩
    · exact .inl h1
    · exact .inr ⟨gb, cap, cur, rfl, h3, (hb gb rfl).trans h4, h5⟩
  | map r =>
    obtain ⟨m, es, clock, rfl, h1, h3⟩ := h
    exact ⟨m, es, clock, rfl, (hb m rfl).trans h1, h3⟩
  | iter j r =>
    obtain ⟨rb, m, clock, seen, rfl, h2, h3, h4⟩ := h
    exact ⟨rb, m, clock, seen, rfl, h2, (hb rb rfl).trans h3, h4⟩
  | gone => trivial
section
variable {c : Cfg} {S S1 : St} {a : Act} {w : World} {g : Gh} {hs : Nat → Value} {tab : Tab} {n : Nat} {o : Oper} {ops : Array Oper} {rest : List Oper} {N : Po}
def refsNe (S : St) : Option (Nat × Item) → Bool
  | none => true
  | some (p, _) => S.refsAll (fun i => !(Nat.beq i p))
def usable (S : St) (K : List Nat) : Bool := K.all fun k => match S.M[k]? with
  | some it => !it.fz
  | none => false
theorem Ok'.eff (h : Ok' c S a w g hs) {K : List Nat} {w' : World} {g' : Gh} {h' : Value} {p : Option (Nat × Item)} (he : Eff hs K w g w' g') (hp : newOk hs K w w' g' h' p) (hr : refsNe S p = true) (hu : usable S K = true) : Ok' c ⟨S.F, newM S.M K p⟩ a w' g' (newH hs p h') := by
  have hK : ∀ k ∈ K, ∃ kt, S.M[k]? = some kt ∧ kt.fz = false := fun k hk => by
    have := List.all_eq_true.1 hu k hk
    cases hm : S.M[k]? with
    | none => rw [hm] at this; cases this
    | some kt => rw [hm] at this; exact ⟨kt, rfl, by simpa using this⟩
  have hKm : ∀ k ∈ K, ∀ b, blk (hs k) = some b → (c.may b ∨ c.w0.heap.size ≤ b) ∧ g b = none ∧ b < w.heap.size := fun k hk b hb => by
    obtain ⟨kt, h1, h2⟩ := hK k hk
    obtain ⟨h3, h4⟩ := h.mine k kt h1 (fz_gone h2) b hb
    exact ⟨(h4 h2).1, (h4 h2).2, h3⟩
  have hbase : Base c w' g' := by
    refine ⟨he.os.trans h.base.os, he.tape.trans h.base.tape, he.output.trans h.base.output, Nat.le_trans h.base.grows he.size, fun b hb hm => ?_, h.base.ghle.trans he.ghle, fun b o e => ?_, he.pers⟩
    · refine (he.block b (Nat.lt_of_lt_of_le hb h.base.grows) fun k hk e => ?_).trans (h.base.frame b hb hm)
      rcases (hKm k hk b e).1 with h1 | h1
      · exact hm h1
      · omega
    · rcases he.ghnew b o e with h1 | h1 | ⟨k, hk, h1⟩
      · exact h.base.ghnew b o h1
      · exact .inr (.inr (Nat.le_trans h.base.grows h1))
      · rcases (hKm k hk b h1).1 with h2 | h2
        · exact .inr (.inl h2)
        · exact .inr (.inr h2)
  have hH : ∀ i, (∀ q, p = some q → i ≠ q.1) → newH hs p h' i = hs i := fun i hi => by
    cases p with
    | none => rfl
    | some q =>
      obtain ⟨q, it⟩ := q
      show (if i = q then h' else hs i) = hs i
      rw [if_neg (hi _ rfl)]
  have hold : ∀ (i : Nat) (it : Item), (newM S.M K p)[i]? = some it → it ≠ .gone → (∃ q, p = some (i, q) ∧ it = q) ∨ ((∀ q, p = some q → i ≠ q.1) ∧ i ∉ K ∧ S.M[i]? = some it) := fun i it hi hn => by
    cases p with
    | none =>
      obtain ⟨h1, h2⟩ := goneM_get i it hi hn
      exact .inr ⟨fun q e => by (cases e), h1, h2⟩
    | some q =>
      obtain ⟨q, jt⟩ := q
      rcases setM_get i it hi with ⟨rfl, rfl⟩ | ⟨h1, h2⟩
      · exact .inl ⟨it, rfl, rfl⟩
      · rcases h2 with h2 | h2
        · obtain ⟨h3, h4⟩ := goneM_get i it h2 hn
          exact .inr ⟨fun q e => by (cases e; exact h1), h3, h4⟩
        · exact absurd h2 hn
  have hapart : ∀ (i : Nat) (it : Item), S.M[i]? = some it → it ≠ .gone → i ∉ K → ∀ b, blk (hs i) = some b → b < w.heap.size ∧ ∀ k ∈ K, blk (hs k) ≠ some b := fun i it hi hn hik b hb => by
    refine ⟨(h.mine i it hi hn b hb).1, fun k hk e => ?_⟩
    obtain ⟨kt, h1, h2⟩ := hK k hk
    exact h.sep k i kt it (fun e => hik (e ▸ hk)) h1 hi h2 hn b e hb
  have hrefs : ∀ q, p = some q → S.refsAll (fun i => !(Nat.beq i q.1)) = true := fun q e => by
    subst e
    obtain ⟨q, it⟩ := q
    exact hr
  have hne : ∀ q, p = some q → ∀ i, (!(Nat.beq i q.1)) = true → i ≠ q.1 := fun q _ i hi e => by
    subst e
    simp at hi
  refine ⟨h.size, h.defers, hbase, fun t x hx => ?_, fun i it hi => ?_, fun i j it jt hij hi hj hfi hnj b hb => ?_, fun i it hi hn b hb => ?_⟩
  · refine SC.mono he.ghle (SC.ok_hs (fun i hi => ?_) (h.slots t x hx))
    refine hH i fun q e => hne q e i ?_
    exact St.refs_F (hrefs q e) hx i hi
  · by_cases hn : it = .gone
    · subst hn; trivial
    · rcases hold i it hi hn with ⟨q, rfl, rfl⟩ | ⟨h1, h2, h3⟩
      · have : newH hs (some (i, it)) h' i = h' := by show (if i = i then h' else hs i) = h'; rw [if_pos rfl]
        rw [this]
        exact hp.1
      · rw [hH i h1]
        refine Item.ok_hs (fun j hj => hH j fun q e => hne q e j (St.refs_M (hrefs q e) h3 j hj)) ?_
        exact Item.same he.ghle (fun b hb => by
          obtain ⟨h4, h5⟩ := hapart i it h3 hn h2 b hb
          exact he.block b h4 h5) (h.items i it h3)
  · have hni := fz_gone hfi
    rcases hold i it hi hni with ⟨q, rfl, rfl⟩ | ⟨h1, h2, h3⟩
    · rcases hold j jt hj hnj with ⟨q2, e2, _⟩ | ⟨k1, k2, k3⟩
      · cases e2
        exact absurd rfl hij
      · rw [hH j k1]
        have e0 : newH hs (some (i, it)) h' i = h' := by show (if i = i then h' else hs i) = h'; rw [if_pos rfl]
        rw [e0] at hb
        intro e
        obtain ⟨x1, x2⟩ := hapart j jt k3 hnj k2 b e
        obtain ⟨_, _, y | ⟨k, hk, y⟩⟩ := hp.2 b hb
        · omega
        · exact x2 k hk y
    · rw [hH i h1] at hb
      rcases hold j jt hj hnj with ⟨q2, rfl, rfl⟩ | ⟨k1, k2, k3⟩
      · have e0 : newH hs (some (j, jt)) h' j = h' := by show (if j = j then h' else hs j) = h'; rw [if_pos rfl]
        rw [e0]
        intro e
        obtain ⟨x1, x2⟩ := hapart i it h3 hni h2 b hb
        obtain ⟨_, _, y | ⟨k, hk, y⟩⟩ := hp.2 b e
        · omega
        · exact x2 k hk y
      · rw [hH j k1]
        exact h.sep i j it jt hij h3 k3 hfi hnj b hb
  · rcases hold i it hi hn with ⟨q, rfl, rfl⟩ | ⟨h1, h2, h3⟩
    · have e0 : newH hs (some (i, it)) h' i = h' := by show (if i = i then h' else hs i) = h'; rw [if_pos rfl]
      rw [e0] at hb
      obtain ⟨x1, x2, x3⟩ := hp.2 b hb
      refine ⟨x1, fun hf => ⟨?_, x2 hf⟩⟩
      rcases x3 with y | ⟨k, hk, y⟩
      · exact .inr (Nat.le_trans h.base.grows y)
      · exact (hKm k hk b y).1
    · rw [hH i h1] at hb
      obtain ⟨x1, x2⟩ := h.mine i it h3 hn b hb
      refine ⟨Nat.lt_of_lt_of_le x1 he.size, fun hf => ⟨(x2 hf).1, ?_⟩⟩
      cases hgb : g' b with
      | none => rfl
      | some o =>
        exfalso
        obtain ⟨y1, y2⟩ := hapart i it h3 hn h2 b hb
        rcases he.ghnew b o hgb with z | z | ⟨k, hk, z⟩
        · rw [(x2 hf).2] at z; cases z
        · omega
        · exact y2 k hk z
/-- one operation (S2: what is left of S, so that nothing speaks of what is used up) -/
theorem WL.mt {S2 : St} {x : SC} {K : List Nat} {p : Option (Nat × Item)} (hn : c.n = n) (hw : wantE ops S.F o = some true) (hm : MT c S o x K p) (h2 : subE S2 S = subX S2) (hr : refsNe S2 p = true) (hu : usable S2 K = true) (e : putE n o.dst x ⟨S2.F, newM S2.M K p⟩ = some S1) (h : WL c ops rest S1 N) : WL c ops (o :: rest) S N := fun a w ⟨g, hs, hk⟩ => by
  unfold wpList
  rw [if_pos (wantE_ok hk hw)]
  refine .inl (hm a w g hs hk _ N fun v w' g' h' h1 h3 h4 => ?_)
  exact h _ _ ⟨g', _, putE_ok ((sub_ok' h2 a w g hs hk).eff h1 h4 hr hu) hn h3 e⟩
end
end Go.Proofs.Ytfpdnigihjmohaa
