/- Symbolic states of a walk: statements, loops, joins, calls and returns. No condition. -/
import Derived.Test.YtfpdnigihjmohaaMirG
namespace Go.Proofs.Ytfpdnigihjmohaa
open Go.RowKit Go.MapKept
set_option linter.unusedSimpArgs false
set_option linter.unusedVariables false
set_option maxRecDepth 100000

/-- from a state on, this holds -/
def En (c : Cfg) (S : St) (N : Act → World → Prop) : Prop := ∀ a w, Ok c S a w → N a w
abbrev Po := Act → World → Prop
abbrev cwp (code : Code) (Q : Exit → Act → World → Prop) : Po := fun a w => Code.wp Try.prog code Q a w
def lookE : List (Nat × Po) → Nat → Po
  | [], _ => fun _ _ => False
  | (k, p) :: l, i => match Nat.beq k i with
    | true => p
    | false => lookE l i
/-- ends of a statement: as the next one wants it; by an exit; by return -/
def PQ (N : Po) (E : List (Nat × Po)) (R : Po) : Exit → Act → World → Prop
  | .normal, a, w => N a w
  | .exit i, a, w => lookE E i a w
  | .ret, a, w => R a w
  | _, _, _ => False
section
variable {c : Cfg} {S S' : St} {N R : Po} {E : List (Nat × Po)}
theorem En.seq {x y : Code} (h : En c S (cwp x (PQ (cwp y (PQ N E R)) E R))) : En c S (cwp (.seq x y) (PQ N E R)) := fun a w hk => by
  refine wp_seq (Code.wp_mono (fun e a w q => ?_) (h a w hk))
  cases e <;> exact q
/-- ways that meet again -/
theorem En.seqJ {σ : Type} (J : σ → Prop) (T : σ → St) {x y : Code} (h : En c S (cwp x (PQ (fun a w => ∃ s, J s ∧ Ok c (T s) a w) E R))) (h2 : ∀ s, J s → En c (T s) (cwp y (PQ N E R))) : En c S (cwp (.seq x y) (PQ N E R)) := fun a w hk => by
  refine wp_seq (Code.wp_mono (fun e a w q => ?_) (h a w hk))
  cases e <;> try exact q
  obtain ⟨s, h3, h4⟩ := q
  exact h2 s h3 a w h4
theorem En.skip (h : En c S N) : En c S (cwp .skip (PQ N E R)) := fun a w hk => wp_skip (h a w hk)
theorem En.ret (h : En c S R) : En c S (cwp .ret (PQ N E R)) := fun a w hk => wp_ret (h a w hk)
theorem En.exit {i : Nat} {p : Po} (e : lookE E i = p) (h : En c S p) : En c S (cwp (.exit i) (PQ N E R)) := fun a w hk => wp_exit (by show lookE E i a w; rw [e]; exact h a w hk)
theorem En.block {i : Nat} {x : Code} (h : En c S (cwp x (PQ N ((i, N) :: E) R))) : En c S (cwp (.block i x) (PQ N E R)) := fun a w hk => by
  refine wp_block (Code.wp_mono (fun e a w q => ?_) (h a w hk))
  cases e <;> try exact q
  rename_i j
  have q' : lookE ((i, N) :: E) j a w := q
  show if j = i then N a w else lookE E j a w
  have e : lookE ((i, N) :: E) j = match Nat.beq i j with
    | true => N
    | false => lookE E j := rfl
  rw [e] at q'
  cases hb : Nat.beq i j with
  | true =>
    rw [hb] at q'
    rw [if_pos (Nat.eq_of_beq_eq_true hb).symm]
    exact q'
  | false =>
    rw [hb] at q'
    rw [if_neg (fun h => by subst h; simp at hb)]
    exact q'
theorem En.scope {x : Code} (h : En c S (cwp x (PQ N E R))) : En c S (cwp (.scope x) (PQ N E R)) := fun a w hk => by
  refine wp_scope_straight (Code.wp_mono (fun e a w q => ?_) (h a w hk))
  cases e <;> exact q
theorem En.cond {b : Bool} {o : Operand} {x y : Code} {Q : Exit → Act → World → Prop} (hb : evK S.F o = some (.bool b)) (ht : b = true → En c S (cwp x Q)) (hf : b = false → En c S (cwp y Q)) : En c S (cwp (.cond o x y) Q) := fun a w hk => by
  obtain ⟨g, hs, h⟩ := hk
  refine wp_cond_split (t := b) (evK_ok h hb) (fun e => ht e a w ⟨g, hs, h⟩) (fun e => hf e a w ⟨g, hs, h⟩)
theorem En.region {id : Nat} {l : List Oper} (h : WL c l.toArray l S N) : En c S (cwp (.region id l.toArray false) (PQ N E R)) := fun a w hk => by
  refine Code.wp_mono (fun e a w q => ?_) (wp_region_lit (h a w hk))
  cases e <;> first | exact q | exact (q : False).elim
/-- a loop -/
theorem En.loop {σ : Type} (I : σ → Prop) (μ : σ → Nat) (T : σ → St) (s0 : σ) {x : Code} (h0 : I s0) (hS : ∀ a w, Ok c S a w → Ok c (T s0) a w)
    (h : ∀ s, I s → En c (T s) (cwp x (PQ (fun a w => ∃ s', (I s' ∧ μ s' < μ s) ∧ Ok c (T s') a w) E R))) : En c S (cwp (.loop x) (PQ N E R)) := fun a w hk => by
  classical
  let J : Act → World → Nat → Prop := fun a w k => ∃ s, I s ∧ μ s = k ∧ Ok c (T s) a w
  have hmin : ∀ a w, (∃ k, J a w k) → ∃ k, J a w k ∧ ∀ j, J a w j → k ≤ j := fun a w ⟨k, hk⟩ => by
    induction k using Nat.strongRecOn with
    | _ k ih =>
      by_cases hh : ∃ j, J a w j ∧ j < k
      · obtain ⟨j, h1, h2⟩ := hh
        exact ih j h2 h1
      · exact ⟨k, hk, fun j hj => Nat.le_of_not_lt fun hlt => hh ⟨j, hj, hlt⟩⟩
  refine wp_loop (fun a w => ∃ k, J a w k) (fun a w => if hh : ∃ k, J a w k then (hmin a w hh).choose else 0) ⟨_, s0, h0, rfl, hS a w hk⟩ fun a w hI => ?_
  obtain ⟨hj, hle⟩ := (hmin a w hI).choose_spec
  obtain ⟨s, h1, h2, h3⟩ := hj
  refine Code.wp_mono (fun e a' w' q => ?_) (h s h1 a w h3)
  cases e <;> try exact q
  obtain ⟨s', ⟨h4, h5⟩, h6⟩ := q
  have hex : ∃ k, J a' w' k := ⟨_, s', h4, rfl, h6⟩
  refine ⟨hex, ?_⟩
  rw [dif_pos hI, dif_pos hex]
  have h7 := (hmin a' w' hex).choose_spec.2 _ ⟨s', h4, rfl, h6⟩
  omega
theorem En.next {σ : Type} {I : σ → Prop} {T : σ → St} (s : σ) (h : I s) (hS : ∀ a w, Ok c S a w → Ok c (T s) a w) : En c S (fun a w => ∃ s, I s ∧ Ok c (T s) a w) := fun a w hk => ⟨s, h, hS a w hk⟩
/-- what is not needed any more is left out -/
def itemsOf (M : List Item) (M' : List Item) : Prop := ∀ (i : Nat) (it : Item), M'[i]? = some it → it = .gone ∨ M[i]? = some it
def dropM : List Item → List Item → List (Option Item) × List (Option Item)
  | [], _ => ([], [])
  | .gone :: l, M => let r := dropM l (M.drop 1); (none :: r.1, none :: r.2)
  | it :: l, M => let r := dropM l (M.drop 1); (some it :: r.1, M[0]? :: r.2)
theorem dropM_ok : ∀ {M' M : List Item}, (dropM M' M).1 = (dropM M' M).2 → itemsOf M M'
  | [], _, _, i, it, h => by simp at h
  | x :: l, M, e, 0, it, h => by
    simp at h
    subst h
    by_cases hx : x = .gone
    · exact .inl hx
    · right
      have : (dropM (x :: l) M) = (some x :: (dropM l (M.drop 1)).1, M[0]? :: (dropM l (M.drop 1)).2) := by
        cases x <;> first | rfl | exact absurd rfl hx
      rw [this] at e
      simp only [List.cons.injEq] at e
      exact e.1.symm
  | x :: l, M, e, i + 1, it, h => by
    have hl : (dropM l (M.drop 1)).1 = (dropM l (M.drop 1)).2 := by
      cases x <;> (simp only [dropM, List.cons.injEq] at e; exact e.2)
    rcases dropM_ok hl i it (by simpa using h) with h1 | h1
    · exact .inl h1
    · exact .inr (by simpa [Nat.add_comm] using h1)
theorem Ok.sub (hF : (S'.F.map fun e => look e.1 S.F) = S'.F.map fun e => some e.2) (hM : (dropM S'.M S.M).1 = (dropM S'.M S.M).2) : ∀ a w, Ok c S a w → Ok c S' a w := fun a w ⟨g, hs, h⟩ => by
  have hM := dropM_ok hM
  have hm : ∀ (i : Nat) (it : Item), S'.M[i]? = some it → it ≠ .gone → S.M[i]? = some it := fun i it hi hn => (hM i it hi).resolve_left hn
  refine ⟨g, hs, h.size, h.defers, h.base, fun t x hx => ?_, fun i it hi => ?_, fun i j it jt hij hi hj hfi hnj => h.sep i j it jt hij (hm i it hi (fz_gone hfi)) (hm j jt hj hnj) hfi hnj, fun i it hi hni => h.mine i it (hm i it hi hni) hni⟩
  · obtain ⟨j, hj⟩ := List.getElem?_of_mem hx
    have := congrArg (·[j]?) hF
    simp [hj] at this
    exact h.slots t x (look_mem this)
  · rcases hM i it hi with rfl | h1
    · trivial
    · exact h.items i it h1
theorem En.sub (S' : St) (hF : (S'.F.map fun e => look e.1 S.F) = S'.F.map fun e => some e.2) (hM : (dropM S'.M S.M).1 = (dropM S'.M S.M).2) (h : En c S' N) : En c S N := fun a w hk => h a w (Ok.sub hF hM a w hk)
end
end Go.Proofs.Ytfpdnigihjmohaa
