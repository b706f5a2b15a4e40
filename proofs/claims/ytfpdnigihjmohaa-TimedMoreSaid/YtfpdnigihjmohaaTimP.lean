/- The plain law of timed automata: what can be come to, and that an edge more lets come to no less. No condition. -/
import Derived.Test.YtfpdnigihjmohaaTimN
namespace Go.Proofs.Ytfpdnigihjmohaa
open Go.RowKit Go.MapKept
set_option linter.unusedSimpArgs false
set_option linter.unusedVariables false
set_option maxRecDepth 100000

/-- a place and the clock in halves -/
abbrev Spot := TimedSpot
def stayOk (S : List Int) (s : Spot) : Prop := S.getD s.fPlace.toNat 0 < 0 ∨ s.fClock ≤ 2 * S.getD s.fPlace.toNat 0
/-- an edge, gone behind a wait -/
def goneTo (S : List Int) (s : Spot) (wait : Nat) (e : ApiEdge) (s' : Spot) : Prop :=
  (∀ k : Nat, k ≤ wait → 0 < k → stayOk S ⟨s.fPlace, min 13 (s.fClock + k)⟩) ∧ e.fFrom = s.fPlace ∧ 2 * e.fLow + e.fOpen ≤ min 13 (s.fClock + wait) ∧ min 13 (s.fClock + wait) ≤ 2 * e.fHigh - e.fOpen ∧ s' = ⟨e.fTo, if e.fReset = 1 then 0 else min 13 (s.fClock + wait)⟩ ∧ stayOk S s'
inductive Comes (S : List Int) (E : List ApiEdge) : Spot → Prop
  | start : Comes S E ⟨0, 0⟩
  | go {s s' : Spot} {wait : Nat} {e : ApiEdge} : Comes S E s → wait < 14 → e ∈ E → goneTo S s wait e s' → Comes S E s'
theorem Comes.more {S : List Int} {E : List ApiEdge} {s : Spot} (h : Comes S E s) (x : ApiEdge) : Comes S (E ++ [x]) s := by
  induction h with
  | start => exact .start
  | go _ h2 h3 h4 ih => exact .go ih h2 (List.mem_append_left _ h3) h4
def Goal (S : List Int) (E : List ApiEdge) (g : Int) : Prop := ∃ s, Comes S E s ∧ s.fPlace = g
theorem Goal.more {S : List Int} {E : List ApiEdge} {g : Int} (h : Goal S E g) (x : ApiEdge) : Goal S (E ++ [x]) g := by
  obtain ⟨s, hs, e⟩ := h
  exact ⟨s, hs.more x, e⟩
/-- what is closed holds all that can be come to -/
theorem Comes.within {S : List Int} {E : List ApiEdge} {D : Spot → Prop} (h0 : D ⟨0, 0⟩) (h : ∀ s s' wait e, D s → wait < 14 → e ∈ E → goneTo S s wait e s' → D s') {s : Spot} (hs : Comes S E s) : D s := by
  induction hs with
  | start => exact h0
  | go _ h2 h3 h4 ih => exact h _ _ _ _ ih h2 h3 h4

theorem mem_put {κ : Type} [DecidableEq κ] {a b : κ} {u v : TimedWay} {M : List (κ × TimedWay)} (hn : (M.map (·.1)).Nodup) : (b, u) ∈ mput a v M ↔ (b = a ∧ u = v) ∨ (b ≠ a ∧ (b, u) ∈ M) := by
  induction M with
  | nil => simp [mput]
  | cons x M ih =>
    rw [List.map_cons, List.nodup_cons] at hn
    rw [mput]
    split
    · rename_i e
      subst e
      constructor
      · intro h
        rcases List.mem_cons.1 h with h | h
        · cases h; exact .inl ⟨rfl, rfl⟩
        · exact .inr ⟨fun e => hn.1 (e ▸ List.mem_map_of_mem (f := (·.1)) h), List.mem_cons_of_mem _ h⟩
      · rintro (⟨rfl, rfl⟩ | ⟨h1, h2⟩)
        · exact List.mem_cons_self
        · rcases List.mem_cons.1 h2 with h2 | h2
          · exact absurd (by rw [← h2]) h1
          · exact List.mem_cons_of_mem _ h2
    · rename_i e
      rw [List.mem_cons, ih hn.2, List.mem_cons]
      constructor
      · rintro (h | ⟨rfl, rfl⟩ | ⟨h1, h2⟩)
        · exact .inr ⟨fun e2 => e (by rw [← e2, ← h]), .inl h⟩
        · exact .inl ⟨rfl, rfl⟩
        · exact .inr ⟨h1, .inr h2⟩
      · rintro (⟨rfl, rfl⟩ | ⟨h1, h2 | h2⟩)
        · exact .inr (.inl ⟨rfl, rfl⟩)
        · exact .inl h2
        · exact .inr (.inr ⟨h1, h2⟩)
theorem key_put {κ : Type} [DecidableEq κ] {a b : κ} {v : TimedWay} {M : List (κ × TimedWay)} : b ∈ (mput a v M).map (·.1) ↔ b = a ∨ b ∈ M.map (·.1) := by
  rw [mput_keys]
  split
  · rename_i h
    constructor
    · exact .inr
    · rintro (rfl | h2)
      · exact h
      · exact h2
  · rw [List.mem_append, List.mem_singleton]
    exact Or.comm

/-- what holds of the ways that are known -/
structure Ways (S : List Int) (E : List ApiEdge) (M : List (Spot × TimedWay)) : Prop where
  nodup : (M.map (·.1)).Nodup
  spot : ∀ s ∈ M.map (·.1), 0 ≤ s.fPlace ∧ s.fPlace < (S.length : Int) ∧ 0 ≤ s.fClock ∧ s.fClock ≤ 13 ∧ Comes S E s
  start : ⟨0, 0⟩ ∈ M.map (·.1)
  order : ∀ s v s' v', (s, v) ∈ M → (s', v') ∈ M → v.fDone = true → v'.fDone = false → v.fTime ≤ v'.fTime
/-- all of those that are done are closed, but for one -/
def Closed (S : List Int) (E : List ApiEdge) (M : List (Spot × TimedWay)) (but : Spot → Prop) : Prop := ∀ s v, (s, v) ∈ M → v.fDone = true → ¬ but s → ∀ wait e s', wait < 14 → e ∈ E → goneTo S s wait e s' → s' ∈ M.map (·.1)
/-- of one that is in hand: what has been looked at -/
def Looked (S : List Int) (E : List ApiEdge) (M : List (Spot × TimedWay)) (s : Spot) (i k : Nat) : Prop := ∀ wait (j : Nat) s', (wait < i ∨ (wait = i ∧ j < k)) → wait < 14 → j < E.length → goneTo S s wait (E.getD j default) s' → s' ∈ M.map (·.1)
theorem Closed.put {S : List Int} {E : List ApiEdge} {M : List (Spot × TimedWay)} {but : Spot → Prop} (h : Closed S E M but) (hn : (M.map (·.1)).Nodup) {a : Spot} {v : TimedWay} (hv : v.fDone = false) : Closed S E (mput a v M) but := fun s u hs hd hb wait e s' h1 h2 h3 => by
  rcases (mem_put hn).1 hs with ⟨_, rfl⟩ | ⟨_, hs⟩
  · rw [hv] at hd; cases hd
  · exact key_put.2 (.inr (h s u hs hd hb wait e s' h1 h2 h3))
theorem Looked.put {S : List Int} {E : List ApiEdge} {M : List (Spot × TimedWay)} {s : Spot} {i k : Nat} (h : Looked S E M s i k) {a : Spot} {v : TimedWay} : Looked S E (mput a v M) s i k := fun wait j s' h1 h2 h3 h4 => key_put.2 (.inr (h wait j s' h1 h2 h3 h4))
theorem keys_all {S : List Int} {E : List ApiEdge} {M : List (Spot × TimedWay)} (hW : Ways S E M) (hC : Closed S E M (fun _ => False)) (hd : ∀ x ∈ M, x.2.fDone = true) (s : Spot) : s ∈ M.map (·.1) ↔ Comes S E s := by
  constructor
  · exact fun h => (hW.spot s h).2.2.2.2
  · intro h
    refine Comes.within (D := fun s => s ∈ M.map (·.1)) hW.start (fun s s' wait e hs h1 h2 h3 => ?_) h
    obtain ⟨⟨s, v⟩, hm, rfl⟩ := List.mem_map.1 hs
    exact hC s v hm (hd _ hm) (fun h => h) wait e s' h1 h2 h3
/-- all ways that are done are no later than T, all others no sooner -/
def Parted (M : List (Spot × TimedWay)) (T : Int) : Prop := ∀ x ∈ M, (x.2.fDone = true → x.2.fTime ≤ T) ∧ (x.2.fDone = false → T ≤ x.2.fTime)
theorem Parted.order {M : List (Spot × TimedWay)} {T : Int} (h : Parted M T) (s : Spot) (v : TimedWay) (s' : Spot) (v' : TimedWay) (h1 : (s, v) ∈ M) (h2 : (s', v') ∈ M) (h3 : v.fDone = true) (h4 : v'.fDone = false) : v.fTime ≤ v'.fTime :=
  Int.le_trans ((h _ h1).1 h3) ((h _ h2).2 h4)
theorem Parted.put {M : List (Spot × TimedWay)} {T : Int} (h : Parted M T) (hn : (M.map (·.1)).Nodup) {a : Spot} {v : TimedWay} (hv : (v.fDone = true → v.fTime ≤ T) ∧ (v.fDone = false → T ≤ v.fTime)) : Parted (mput a v M) T := fun x hx => by
  obtain ⟨b, u⟩ := x
  rcases (mem_put hn).1 hx with ⟨_, rfl⟩ | ⟨_, hx⟩
  · exact hv
  · exact h _ hx
theorem nodup_put {κ : Type} [DecidableEq κ] {a : κ} {v : TimedWay} {M : List (κ × TimedWay)} (hn : (M.map (·.1)).Nodup) : ((mput a v M).map (·.1)).Nodup := by
  rw [mput_keys]
  split
  · exact hn
  · rename_i h
    rw [List.nodup_append]
    exact ⟨hn, by simp, fun x hx y hy => by simp at hy; subst hy; exact fun e => h (e ▸ hx)⟩
theorem filter_put {κ : Type} [DecidableEq κ] {a : κ} {v va : TimedWay} : ∀ {M : List (κ × TimedWay)}, (M.map (·.1)).Nodup → (a, va) ∈ M → va.fDone = false → v.fDone = true → ((mput a v M).filter (fun x => x.2.fDone)).length = (M.filter (fun x => x.2.fDone)).length + 1
  | [], _, h, _, _ => by simp at h
  | x :: M, hn, h, h1, h2 => by
    rw [List.map_cons, List.nodup_cons] at hn
    rw [mput]
    split
    · rename_i e
      have hx : x = (a, va) := by
        rcases List.mem_cons.1 h with h | h
        · exact h.symm
        · exact absurd (e ▸ List.mem_map_of_mem (f := (·.1)) h) hn.1
      subst hx
      rw [List.filter_cons, if_pos h2, List.filter_cons, if_neg (by simp [h1])]
      rfl
    · rename_i e
      have hm : (a, va) ∈ M := by
        rcases List.mem_cons.1 h with h | h
        · exact absurd (by rw [← h]) e
        · exact h
      have ih := filter_put hn.2 hm h1 h2
      rw [List.filter_cons, List.filter_cons]
      split
      · rw [List.length_cons, List.length_cons, ih]
      · exact ih
theorem filter_same {κ : Type} [DecidableEq κ] {a : κ} {v : TimedWay} (hv : v.fDone = false) : ∀ {M : List (κ × TimedWay)}, (M.map (·.1)).Nodup → (∀ u, (a, u) ∈ M → u.fDone = false) → ((mput a v M).filter (fun x => x.2.fDone)).length = (M.filter (fun x => x.2.fDone)).length
  | [], _, _ => by simp [mput, hv]
  | x :: M, hn, h => by
    rw [List.map_cons, List.nodup_cons] at hn
    rw [mput]
    split
    · rename_i e
      have := h x.2 (by rw [e]; simp)
      rw [List.filter_cons, if_neg (by simp [hv]), List.filter_cons, if_neg (by simp [this])]
    · have ih := filter_same hv hn.2 (fun u hu => h u (List.mem_cons_of_mem _ hu))
      rw [List.filter_cons, List.filter_cons]
      split
      · rw [List.length_cons, List.length_cons, ih]
      · exact ih
/-- the one in hand is marked -/
theorem Ways.mark {S : List Int} {E : List ApiEdge} {M : List (Spot × TimedWay)} (hW : Ways S E M) (hC : Closed S E M (fun _ => False)) {a : Spot} {va v : TimedWay} (ha : (a, va) ∈ M) (hd : va.fDone = false) (hmin : ∀ x ∈ M, x.2.fDone = false → va.fTime ≤ x.2.fTime) (hv : v.fDone = true) (ht : v.fTime = va.fTime) :
    Ways S E (mput a v M) ∧ Closed S E (mput a v M) (fun s => s = a) ∧ Parted (mput a v M) (va.fTime) := by
  have hp : Parted (mput a v M) (va.fTime) := fun x hx => by
    obtain ⟨b, u⟩ := x
    rcases (mem_put hW.nodup).1 hx with ⟨_, rfl⟩ | ⟨_, hx⟩
    · exact ⟨fun _ => by rw [ht]; exact Int.le_refl _, fun h => by rw [hv] at h; cases h⟩
    · exact ⟨fun h => hW.order _ _ _ _ hx ha h hd, fun h => hmin _ hx h⟩
  refine ⟨⟨nodup_put hW.nodup, fun s hs => ?_, key_put.2 (.inr hW.start), fun s v s' v' h1 h2 h3 h4 => hp.order s v s' v' h1 h2 h3 h4⟩, ?_, hp⟩
  · rcases key_put.1 hs with rfl | hs
    · exact hW.spot _ (List.mem_map.2 ⟨_, ha, rfl⟩)
    · exact hW.spot s hs
  · intro s u hs hdu hb wait e s' h1 h2 h3
    rcases (mem_put hW.nodup).1 hs with ⟨rfl, _⟩ | ⟨_, hs⟩
    · exact absurd rfl hb
    · exact key_put.2 (.inr (hC s u hs hdu (fun h => h) wait e s' h1 h2 h3))
theorem nodup_lt : ∀ (N : Nat) (l : List Nat), l.Nodup → (∀ x ∈ l, x < N) → l.length ≤ N
  | 0, l, _, h => by
    cases l with
    | nil => simp
    | cons x l => exact absurd (h x (by simp)) (Nat.not_lt_zero _)
  | N + 1, l, hn, h => by
    have h1 := nodup_lt N (l.erase N) (hn.erase N) (fun x hx => by
      have h2 := h x (List.mem_of_mem_erase hx)
      have h3 : x ≠ N := fun e => by
        subst e
        exact (List.Nodup.not_mem_erase hn) hx
      omega)
    have h2 := List.length_erase (a := N) (l := l)
    split at h2 <;> omega
theorem spots_le {n : Nat} {l : List Spot} (hn : l.Nodup) (h : ∀ s ∈ l, 0 ≤ s.fPlace ∧ s.fPlace < (n : Int) ∧ 0 ≤ s.fClock ∧ s.fClock ≤ 13) : l.length ≤ n * 14 := by
  have := nodup_lt (n * 14) (l.map fun s => s.fPlace.toNat * 14 + s.fClock.toNat) ?_ ?_
  · simpa using this
  · rw [List.nodup_iff_pairwise_ne, List.pairwise_map]
    refine List.Pairwise.imp_of_mem (fun {a b} ha hb hab e => hab ?_) (List.nodup_iff_pairwise_ne.1 hn)
    have h1 := h a ha
    have h2 := h b hb
    cases a; cases b; simp only [TimedSpot.mk.injEq]; simp only at e h1 h2; constructor <;> omega
  · intro x hx
    obtain ⟨s, hs, rfl⟩ := List.mem_map.1 hx
    have := h s hs
    omega
theorem Ways.count {S : List Int} {E : List ApiEdge} {M : List (Spot × TimedWay)} (hW : Ways S E M) (h8 : S.length ≤ 8) : (M.filter (fun x => x.2.fDone)).length ≤ 112 := by
  have h1 := spots_le (n := S.length) hW.nodup (fun s hs => by have := hW.spot s hs; exact ⟨this.1, this.2.1, this.2.2.1, this.2.2.2.1⟩)
  have h2 := List.length_filter_le (fun x : Spot × TimedWay => x.2.fDone) M
  rw [List.length_map] at h1
  omega
/-- a way that is found -/
theorem Ways.relax {S : List Int} {E : List ApiEdge} {M : List (Spot × TimedWay)} {T : Int} (hW : Ways S E M) (hP : Parted M T) {a s' : Spot} {wait : Nat} {e : ApiEdge} {v : TimedWay} (ha : a ∈ M.map (·.1)) (h1 : wait < 14) (he : e ∈ E) (hg : goneTo S a wait e s') (ht0 : 0 ≤ e.fTo) (ht1 : e.fTo < (S.length : Int)) (hd : v.fDone = false) (ht : T ≤ v.fTime) :
    Ways S E (mput s' v M) ∧ Parted (mput s' v M) T := by
  have hp := hP.put hW.nodup (a := s') (v := v) ⟨(fun h => by rw [hd] at h; cases h), fun _ => ht⟩
  refine ⟨⟨nodup_put hW.nodup, fun s hs => ?_, key_put.2 (.inr hW.start), fun s v s' v' h1 h2 h3 h4 => hp.order s v s' v' h1 h2 h3 h4⟩, hp⟩
  rcases key_put.1 hs with rfl | hs
  · obtain ⟨x1, x2, x3, x4, x5⟩ := hW.spot a ha
    have hc := Comes.go x5 h1 he hg
    obtain ⟨_, _, _, _, rfl, _⟩ := hg
    refine ⟨ht0, ht1, ?_, ?_, hc⟩
    · show 0 ≤ (if e.fReset = 1 then (0 : Int) else min 13 (a.fClock + wait))
      split <;> omega
    · show (if e.fReset = 1 then (0 : Int) else min 13 (a.fClock + wait)) ≤ 13
      split <;> omega
  · exact hW.spot s hs
/-- one is in hand: waits below i, and of the wait i edges below k, have been looked at -/
structure InHand (S : List Int) (E : List ApiEdge) (M : List (Spot × TimedWay)) (a : Spot) (T : Int) (K i k : Nat) : Prop where
  ways : Ways S E M
  closed : Closed S E M (fun s => s = a)
  part : Parted M T
  here : ∃ va, (a, va) ∈ M ∧ va.fDone = true
  looked : Looked S E M a i k
  count : (M.filter (fun x => x.2.fDone)).length = K + 1
theorem InHand.skip {S : List Int} {E : List ApiEdge} {M : List (Spot × TimedWay)} {a : Spot} {T : Int} {K i k : Nat} (h : InHand S E M a T K i k) (hn : ∀ s', goneTo S a i (E.getD k default) s' → s' ∈ M.map (·.1)) : InHand S E M a T K i (k + 1) :=
  ⟨h.ways, h.closed, h.part, h.here, fun wait j s' h1 h2 h3 h4 => by
    by_cases e : wait = i ∧ j = k
    · obtain ⟨rfl, rfl⟩ := e
      exact hn s' h4
    · exact h.looked wait j s' (by omega) h2 h3 h4, h.count⟩
theorem InHand.laid {S : List Int} {E : List ApiEdge} {M : List (Spot × TimedWay)} {a : Spot} {T : Int} {K i k : Nat} (h : InHand S E M a T K i k) {s' : Spot} {v : TimedWay} (hi : i < 14) (hk : k < E.length) (hg : goneTo S a i (E.getD k default) s') (ht0 : 0 ≤ (E.getD k default).fTo) (ht1 : (E.getD k default).fTo < (S.length : Int)) (hd : v.fDone = false) (ht : T ≤ v.fTime)
    (hu : ∀ u, (s', u) ∈ M → u.fDone = false) : InHand S E (mput s' v M) a T K i (k + 1) := by
  obtain ⟨va, h1, h2⟩ := h.here
  have hm : E.getD k default ∈ E := by simp [hk]
  obtain ⟨r1, r2⟩ := h.ways.relax h.part (List.mem_map.2 ⟨_, h1, rfl⟩) hi hm hg ht0 ht1 hd ht
  have hne : a ≠ s' := fun e => by
    have := hu va (e ▸ h1)
    rw [h2] at this
    cases this
  have hq : InHand S E (mput s' v M) a T K i k := ⟨r1, h.closed.put h.ways.nodup hd, r2, ⟨va, (mem_put h.ways.nodup).2 (.inr ⟨hne, h1⟩), h2⟩, h.looked.put, by rw [filter_same hd h.ways.nodup hu]; exact h.count⟩
  refine hq.skip fun s2 hg2 => ?_
  obtain ⟨_, _, _, _, e1, _⟩ := hg
  obtain ⟨_, _, _, _, e2, _⟩ := hg2
  rw [e2, ← e1]
  exact key_put.2 (.inl rfl)
theorem InHand.wait {S : List Int} {E : List ApiEdge} {M : List (Spot × TimedWay)} {a : Spot} {T : Int} {K i : Nat} (h : InHand S E M a T K i E.length) : InHand S E M a T K (i + 1) 0 :=
  ⟨h.ways, h.closed, h.part, h.here, fun wait j s' h1 h2 h3 h4 => h.looked wait j s' (by omega) h2 h3 h4, h.count⟩
theorem InHand.all {S : List Int} {E : List ApiEdge} {M : List (Spot × TimedWay)} {a : Spot} {T : Int} {K i k : Nat} (h : InHand S E M a T K i k) (hb : ∀ wait s' e, wait < 14 → i ≤ wait → ¬ goneTo S a wait e s') : Closed S E M (fun _ => False) := fun s v hs hd _ wait e s' h1 h2 h3 => by
  by_cases e2 : s = a
  · subst e2
    obtain ⟨j, hj, rfl⟩ := List.mem_iff_getElem.1 h2
    by_cases hw : wait < i
    · exact h.looked wait j s' (.inl hw) h1 hj (by rwa [show E.getD j default = E[j] from by simp [hj]])
    · exact absurd h3 (hb wait s' _ h1 (by omega))
  · exact h.closed s v hs hd e2 wait e s' h1 h2 h3
/-- a bar at one wait bars all that are longer -/
theorem bar {S : List Int} {a : Spot} {i : Nat} (h0 : 0 < i) (h : ¬ stayOk S ⟨a.fPlace, min 13 (a.fClock + i)⟩) (wait : Nat) (s' : Spot) (e : ApiEdge) (_ : wait < 14) (hw : i ≤ wait) : ¬ goneTo S a wait e s' := fun hg => h (hg.1 i hw h0)
def Pick (M left : List (Spot × TimedWay)) (b : Bool) (a : Spot) : Prop :=
  (b = true → ∃ va, (a, va) ∈ M ∧ va.fDone = false ∧ ∀ x ∈ M, x ∉ left → x.2.fDone = false → va.fTime ≤ x.2.fTime) ∧ (b = false → ∀ x ∈ M, x ∉ left → x.2.fDone = true)
theorem mem_mid {α : Type} {l1 l2 : List α} {x y : α} (h : y ∉ l1 ++ l2) : y = x ∨ y ∉ l1 ++ x :: l2 := by
  by_cases e : y = x
  · exact .inl e
  · right
    intro h2
    rw [List.mem_append, List.mem_cons] at h2
    rw [List.mem_append] at h
    rcases h2 with h2 | h2 | h2
    · exact h (.inl h2)
    · exact e h2
    · exact h (.inr h2)
theorem Pick.done {M l1 l2 : List (Spot × TimedWay)} {x : Spot × TimedWay} {b : Bool} {a : Spot} (h : Pick M (l1 ++ x :: l2) b a) (hd : x.2.fDone = true) : Pick M (l1 ++ l2) b a := by
  refine ⟨fun hb => ?_, fun hb y hy hl => ?_⟩
  · obtain ⟨va, h1, h2, h3⟩ := h.1 hb
    refine ⟨va, h1, h2, fun y hy hl hdy => ?_⟩
    rcases mem_mid (x := x) hl with rfl | hl
    · rw [hd] at hdy; cases hdy
    · exact h3 y hy hl hdy
  · rcases mem_mid (x := x) hl with rfl | hl
    · exact hd
    · exact h.2 hb y hy hl
theorem Pick.first {M l1 l2 : List (Spot × TimedWay)} {s : Spot} {v : TimedWay} {a : Spot} (h : Pick M (l1 ++ (s, v) :: l2) false a) (hm : (s, v) ∈ M) (hd : v.fDone = false) : Pick M (l1 ++ l2) true s := by
  refine ⟨fun _ => ⟨v, hm, hd, fun y hy hl hdy => ?_⟩, fun h => by cases h⟩
  rcases mem_mid (x := (s, v)) hl with rfl | hl
  · exact Int.le_refl _
  · rw [h.2 rfl y hy hl] at hdy; cases hdy
theorem Pick.less {M l1 l2 : List (Spot × TimedWay)} {s : Spot} {v va : TimedWay} {a : Spot} (hn : (M.map (·.1)).Nodup) (h : Pick M (l1 ++ (s, v) :: l2) true a) (hm : (s, v) ∈ M) (hd : v.fDone = false) (ha : (a, va) ∈ M) (hl : v.fTime < va.fTime) : Pick M (l1 ++ l2) true s := by
  obtain ⟨va', h1, h2, h3⟩ := h.1 rfl
  have e : va' = va := by
    have x1 := (mget_mem hn).2 h1
    have x2 := (mget_mem hn).2 ha
    rw [x1] at x2
    exact Option.some.inj x2
  subst e
  refine ⟨fun _ => ⟨v, hm, hd, fun y hy hl2 hdy => ?_⟩, fun h => by cases h⟩
  rcases mem_mid (x := (s, v)) hl2 with rfl | hl2
  · exact Int.le_refl _
  · exact Int.le_trans (Int.le_of_lt hl) (h3 y hy hl2 hdy)
theorem Pick.more {M l1 l2 : List (Spot × TimedWay)} {s : Spot} {v va : TimedWay} {a : Spot} (hn : (M.map (·.1)).Nodup) (h : Pick M (l1 ++ (s, v) :: l2) true a) (ha : (a, va) ∈ M) (hl : va.fTime ≤ v.fTime) : Pick M (l1 ++ l2) true a := by
  obtain ⟨va', h1, h2, h3⟩ := h.1 rfl
  have e : va' = va := by
    have x1 := (mget_mem hn).2 h1
    have x2 := (mget_mem hn).2 ha
    rw [x1] at x2
    exact Option.some.inj x2
  subst e
  refine ⟨fun _ => ⟨va', h1, h2, fun y hy hl2 hdy => ?_⟩, fun h => by cases h⟩
  rcases mem_mid (x := (s, v)) hl2 with rfl | hl2
  · exact hl
  · exact h3 y hy hl2 hdy

/-- a timed automaton that is let in -/
structure TimedOk (t : ApiTimed) : Prop where
  some : 1 ≤ t.fStay.length
  few : t.fStay.length ≤ 8
  edges : t.fEdges.length ≤ 16
  stay : ∀ x ∈ t.fStay, -1 ≤ x ∧ x ≤ 6
  edge : ∀ e ∈ t.fEdges, (0 ≤ e.fFrom ∧ e.fFrom < (t.fStay.length : Int)) ∧ (0 ≤ e.fTo ∧ e.fTo < (t.fStay.length : Int)) ∧ (0 ≤ e.fLow ∧ e.fLow ≤ 6) ∧ (0 ≤ e.fHigh ∧ e.fHigh ≤ 6) ∧ (0 ≤ e.fOpen ∧ e.fOpen ≤ 1) ∧ (0 ≤ e.fReset ∧ e.fReset ≤ 1)
def FoundOk (t : ApiTimed) (r : List (TimedSpot × TimedWay)) : Prop := (r.map (·.1)).Nodup ∧ ∀ s, s ∈ r.map (·.1) ↔ Comes t.fStay t.fEdges s
def WayOk (K : Nat) (m : List (TimedSpot × TimedWay)) : Prop := ∀ x ∈ m, x.2.fLegs.length ≤ K ∧ 0 ≤ x.2.fTime ∧ x.2.fTime ≤ 13 * K
theorem WayOk.put {K K' : Nat} {m : List (TimedSpot × TimedWay)} (hn : (m.map (·.1)).Nodup) (h : WayOk K m) (hK : K ≤ K') {s : TimedSpot} {v : TimedWay} (hv : v.fLegs.length ≤ K' ∧ 0 ≤ v.fTime ∧ v.fTime ≤ 13 * K') : WayOk K' (mput s v m) := fun x hx => by
  obtain ⟨b, u⟩ := x
  rcases (mem_put hn).1 hx with ⟨_, rfl⟩ | ⟨_, hx⟩
  · exact hv
  · have := h _ hx
    simp only at this ⊢
    omega
theorem stayB_iff {S : List Int} {s : TimedSpot} : stayB S s = true ↔ stayOk S s := by
  unfold stayB stayOk
  simp
def doneN (m : List (TimedSpot × TimedWay)) : Nat := (m.filter (fun x => x.2.fDone)).length
theorem found_plain (t : ApiTimed) (ok : TimedOk t) : found_vc t (FoundOk t) := by
  intro _ _
  have hS0 := ok.some
  have hS8 := ok.few
  have hE := ok.edges
  refine ⟨fun m => Ways t.fStay t.fEdges m ∧ Closed t.fStay t.fEdges m (fun _ => False) ∧ WayOk (doneN m) m, fun m => 112 - doneN m, ⟨⟨by simp [mput], fun s hs => ?_, by simp [mput], fun s v s' v' h1 h2 h3 h4 => ?_⟩, fun s v h1 h2 => ?_, fun x hx => ?_⟩, ?_⟩
  · simp [mput] at hs
    subst hs
    exact ⟨by simp, by simp; omega, by simp, by simp, .start⟩
  · simp [mput] at h1 h2
    rw [h1.2, h2.2]
    simp
  · simp [mput] at h1
    rw [h1.2] at h2
    cases h2
  · simp [mput] at hx
    subst hx
    simp
    omega
  rintro m1 ⟨hW, hC, hK⟩
  refine ⟨fun b a left cur => (∀ x ∈ left, x ∈ m1) ∧ Pick m1 left b a, fun _ _ left _ => left.length, ⟨fun x hx => hx, ⟨(fun h => by cases h), fun _ x hx hl => absurd hx hl⟩⟩, ?_⟩
  rintro b a left cur ⟨hl, hp⟩
  refine ⟨fun hnil => ⟨fun hb => ?_, fun hb => ?_⟩, ?_⟩
  · subst hnil
    simp at hb
    subst hb
    exact ⟨hW.nodup, fun s => keys_all hW hC (fun x hx => hp.2 rfl x hx (by simp)) s⟩
  · subst hnil
    simp at hb
    subst hb
    obtain ⟨va, ha, hd, hmin⟩ := hp.1 rfl
    have hget : mget a m1 = some va := (mget_mem hW.nodup).2 ha
    rw [hget]
    simp only [Option.getD_some]
    obtain ⟨hka, hk0, hk1⟩ := hK _ ha
    simp only at hka hk0 hk1
    obtain ⟨sp1, sp2, sp3, sp4, sp5⟩ := hW.spot a (List.mem_map.2 ⟨_, ha, rfl⟩)
    obtain ⟨mW, mC, mP⟩ := hW.mark hC ha hd (fun x hx hx2 => hmin x hx (by simp) hx2) (v := ⟨va.fTime, va.fLegs, true⟩) rfl rfl
    have mN : doneN (mput a ⟨va.fTime, va.fLegs, true⟩ m1) = doneN m1 + 1 := filter_put hW.nodup ha hd rfl
    have hcap : doneN m1 + 1 ≤ 112 := by
      have : doneN (mput a ⟨va.fTime, va.fLegs, true⟩ m1) ≤ 112 := mW.count hS8
      omega
    have done : ∀ (m : List (TimedSpot × TimedWay)) (i k : Nat), InHand t.fStay t.fEdges m a va.fTime (doneN m1) i k → WayOk (doneN m1 + 1) m → (∀ wait s' e, wait < 14 → i ≤ wait → ¬ goneTo t.fStay a wait e s') → (Ways t.fStay t.fEdges m ∧ Closed t.fStay t.fEdges m (fun _ => False) ∧ WayOk (doneN m) m) ∧ 112 - doneN m < 112 - doneN m1 := fun m i k h hw hb => by
      have hc : doneN m = doneN m1 + 1 := h.count
      exact ⟨⟨h.ways, h.all hb, by rw [hc]; exact hw⟩, by rw [hc]; omega⟩
    refine ⟨fun i m => ∃ k : Nat, i = k ∧ k ≤ 14 ∧ InHand t.fStay t.fEdges m a va.fTime (doneN m1) k 0 ∧ WayOk (doneN m1 + 1) m ∧ ∀ q : Nat, q < k → 0 < q → stayOk t.fStay ⟨a.fPlace, min 13 (a.fClock + q)⟩, fun i _ => 14 - i.toNat, ⟨0, rfl, by omega, ⟨mW, mC, mP, ⟨_, (mem_put hW.nodup).2 (.inl ⟨rfl, rfl⟩), rfl⟩, fun wait j s' h => by omega, mN⟩, hK.put hW.nodup (by omega) ⟨by simp only; omega, by simp only; omega, by simp only; omega⟩, fun q h => by omega⟩, ?_⟩
    rintro i m ⟨k, rfl, hk, hI, hw, hst⟩
    refine ⟨fun hb => ?_, fun hb => ?_⟩
    · have hk14 : k < 14 := by
        have : (k : Int) < 14 := by simpa using hb
        omega
      have hcl : (if wr (a.fClock + (k : Int)) < 13 then wr (a.fClock + (k : Int)) else 13) = min 13 (a.fClock + k) := by
        rw [wr_in (by omega) (by omega)]
        split <;> omega
      rw [hcl]
      refine ⟨fun r => r = true ↔ (0 < k ∧ ¬ stayOk t.fStay ⟨a.fPlace, min 13 (a.fClock + k)⟩), ⟨fun hb => ⟨⟨⟨sp1, sp2⟩, ok.stay⟩, ?_⟩, fun hb => ?_⟩, fun r hr => ⟨fun hbr => ?_, fun hbr => ?_⟩⟩
      · have : 0 < k := by simpa using hb
        unfold mayB
        rw [← stayB_iff]
        simp [this]
      · have : ¬ 0 < k := by simpa using hb
        simp [this]
      · obtain ⟨h0, h1⟩ := hr.1 hbr
        exact done m k 0 hI hw (fun wait s' e => bar h0 h1 wait s' e)
      · have hst' : ∀ q : Nat, q ≤ k → 0 < q → stayOk t.fStay ⟨a.fPlace, min 13 (a.fClock + q)⟩ := fun q hq h0 => by
          rcases Nat.lt_or_eq_of_le hq with h | rfl
          · exact hst q h h0
          · by_cases hs : stayOk t.fStay ⟨a.fPlace, min 13 (a.fClock + q)⟩
            · exact hs
            · rw [hr.2 ⟨h0, hs⟩] at hbr; cases hbr
        refine ⟨fun j m => ∃ q : Nat, j = q ∧ q ≤ t.fEdges.length ∧ InHand t.fStay t.fEdges m a va.fTime (doneN m1) k q ∧ WayOk (doneN m1 + 1) m, fun j _ => t.fEdges.length - j.toNat, ⟨0, rfl, by omega, hI, hw⟩, ?_⟩
        rintro j m2 ⟨q, rfl, hq, hI2, hw2⟩
        refine ⟨fun hb => ?_, fun hb => ?_⟩
        · have hlt : q < t.fEdges.length := by simpa using hb
          have hgd : t.fEdges.getD q default = t.fEdges[q] := by simp [hlt]
          obtain ⟨⟨e1, e2⟩, ⟨e3, e4⟩, ⟨e5, e6⟩, ⟨e7, e8⟩, ⟨e9, e10⟩, ⟨e11, e12⟩⟩ := ok.edge _ (List.getElem_mem hlt)
          refine ⟨fun m => InHand t.fStay t.fEdges m a va.fTime (doneN m1) k (q + 1) ∧ WayOk (doneN m1 + 1) m, ⟨t.fEdges[q], by simp [idx, hlt], ?_⟩, fun m hm => ⟨⟨q + 1, by rw [wr_in (by omega) (by omega)]; omega, hlt, hm⟩, by simp only; rw [wr_in (by omega) (by omega)]; omega⟩⟩
          generalize hge : t.fEdges[q] = e at *
          have w1 : wr (2 * e.fLow) = 2 * e.fLow := wr_in (by omega) (by omega)
          have w2 : wr (2 * e.fLow + e.fOpen) = 2 * e.fLow + e.fOpen := wr_in (by omega) (by omega)
          have w3 : wr (2 * e.fHigh) = 2 * e.fHigh := wr_in (by omega) (by omega)
          have w4 : wr (2 * e.fHigh - e.fOpen) = 2 * e.fHigh - e.fOpen := wr_in (by omega) (by omega)
          rw [w1, w2, w3, w4]
          refine ⟨fun hb => ⟨hI2.skip fun s' hg => ?_, hw2⟩, fun hb => ?_⟩
          · exfalso
            rw [hgd] at hg
            obtain ⟨_, g1, g2, g3, _⟩ := hg
            simp [g1] at hb
            omega
          · have hb' : e.fFrom = a.fPlace ∧ 2 * e.fLow + e.fOpen ≤ min 13 (a.fClock + k) ∧ min 13 (a.fClock + k) ≤ 2 * e.fHigh - e.fOpen := by
              simp at hb
              omega
            obtain ⟨b1, b2, b3⟩ := hb'
            refine ⟨fun y => y = if e.fReset = 1 then 0 else min 13 (a.fClock + k), ⟨fun h => ?_, fun h => ?_⟩, fun y hy => ⟨⟨⟨e3, e4⟩, ok.stay⟩, fun hb => ?_, fun hb => ?_⟩⟩
            · rw [if_pos (by simpa using h)]
            · rw [if_neg (by simpa using h)]
            · rw [Bool.and_eq_true] at hb
              obtain ⟨c1, c2⟩ := hb
              have hg : goneTo t.fStay a k (t.fEdges.getD q default) ⟨e.fTo, y⟩ := by
                rw [hgd]
                exact ⟨hst', b1, b2, b3, by rw [hy], stayB_iff.1 c1⟩
              have wt : wr (va.fTime + (k : Int)) = va.fTime + k := wr_in (by omega) (by omega)
              simp only [wt] at c2 ⊢
              refine ⟨by omega, by unfold capOk; simp; omega, hI2.laid hk14 hlt hg (by rw [hgd]; exact e3) (by rw [hgd]; exact e4) rfl (by simp only; omega) (fun u hu => ?_), hw2.put hI2.ways.nodup (Nat.le_refl _) ⟨by simp; omega, by simp only; omega, by simp only; omega⟩⟩
              rw [(mget_mem hI2.ways.nodup).2 hu] at c2
              simp at c2
              cases hdu : u.fDone with
              | false => rfl
              | true =>
                have := (hI2.part _ hu).1 hdu
                simp only at this
                omega
            · refine ⟨hI2.skip fun s' hg => ?_, hw2⟩
              rw [hgd] at hg
              obtain ⟨_, _, _, _, rfl, g5⟩ := hg
              rw [← hy] at g5 ⊢
              rw [Bool.and_eq_false_iff] at hb
              rcases hb with hb | hb
              · have := stayB_iff.2 g5
                unfold mayB at hb
                rw [hb] at this
                cases this
              · cases hx : mget (⟨e.fTo, y⟩ : TimedSpot) m2 with
                | none => rw [hx] at hb; simp at hb
                | some u => exact List.mem_map.2 ⟨_, (mget_mem hI2.ways.nodup).1 hx, rfl⟩
        · have hq' : q = t.fEdges.length := by simp at hb; omega
          subst hq'
          rw [wr_in (by omega) (by omega)]
          exact ⟨⟨k + 1, by omega, by omega, hI2.wait, hw2, fun q hq h0 => hst' q (by omega) h0⟩, by simp only; omega⟩
    · have hk14 : k = 14 := by simp at hb; omega
      subst hk14
      exact done m 14 0 hI hw (fun wait s' e h1 h2 => by omega)
  · rintro l1 ⟨s, v⟩ l2 rfl
    have hm : (s, v) ∈ m1 := hl _ (by simp)
    have hl' : ∀ x ∈ l1 ++ l2, x ∈ m1 := fun x hx => hl x (by rw [List.mem_append, List.mem_cons]; rcases List.mem_append.1 hx with h | h <;> simp [h])
    refine ⟨fun r => (r = true → Pick m1 (l1 ++ l2) true s) ∧ (r = false → Pick m1 (l1 ++ l2) b a), ⟨fun hb => ⟨fun hx => ⟨fun _ => ?_, fun h => by cases h⟩, fun hx => ?_⟩, fun hb => ⟨fun h => (by cases h), fun _ => hp.done (by simpa using hb)⟩⟩, fun r hr => ⟨fun hb => ⟨⟨hl', hr.1 hb⟩, by simp⟩, fun hb => ⟨⟨hl', hr.2 hb⟩, by simp⟩⟩⟩
    · simp at hb hx
      subst hx
      exact hp.first hm hb
    · simp at hb hx
      subst hx
      obtain ⟨va, ha, _⟩ := hp.1 rfl
      rw [(mget_mem hW.nodup).2 ha]
      refine ⟨fun h => hp.less hW.nodup hm hb ha (by simpa using h), fun h => hp.more hW.nodup ha (by simpa using h)⟩
end Go.Proofs.Ytfpdnigihjmohaa
