/- Symbolic states of a walk: regions that draw their order. No condition. -/
import Derived.Test.YtfpdnigihjmohaaMirR
namespace Go.Proofs.Ytfpdnigihjmohaa
open Go.RowKit Go.MapKept
set_option linter.unusedSimpArgs false
set_option linter.unusedVariables false
set_option maxRecDepth 100000

def LB (listed : Array Bool) : Nat → Bool := fun i => listed.getD i false
theorem ready_mem {ops : List Oper} {listed : Array Bool} (hs : listed.size = ops.length) {i : Nat} (h : i ∈ Region.ready .any ops.toArray listed) : ∃ o, ops[i]? = some o ∧ LB listed i = false ∧ ∀ j ∈ onE o, LB listed j = true := by
  unfold Region.ready at h
  rw [List.mem_filter, List.mem_range] at h
  obtain ⟨h1, h2⟩ := h
  simp only [Bool.and_eq_true, Bool.not_eq_true'] at h2
  obtain ⟨h3, h4⟩ := h2
  have hlt : i < ops.length := by simpa using h1
  have ho : ops.toArray[i]? = some ops[i] := by simp [hlt]
  rw [ho] at h4
  refine ⟨ops[i], by simp, ?_, fun j hj => ?_⟩
  · unfold LB
    rw [Array.getD_eq_getD_getElem?] at h3 ⊢
    have : listed[i]? = some listed[i] := by simp [hs, hlt]
    rw [this] at h3 ⊢
    exact h3
  · simp only [Option.map_some, Option.getD_some] at h4
    unfold onE at hj
    obtain ⟨e, he, rfl⟩ := List.mem_map.1 hj
    obtain ⟨he1, he2⟩ := List.mem_filter.1 he
    have := (Array.all_eq_true_iff_forall_mem.1 h4) e (by simpa using he1)
    rw [he2] at this
    simpa [LB] using this
theorem ready_nil {ops : List Oper} {listed : Array Bool} (hs : listed.size = ops.length) (hb : ∀ (i : Nat) (o : Oper), ops[i]? = some o → ∀ j ∈ onE o, j < i) (h : Region.ready .any ops.toArray listed = []) : ∀ i, i < ops.length → LB listed i = true := by
  intro i
  induction i using Nat.strongRecOn with
  | _ i ih =>
    intro hi
    cases hL : LB listed i with
    | true => rfl
    | false =>
      exfalso
      have hmem : i ∈ Region.ready .any ops.toArray listed := by
        unfold Region.ready
        rw [List.mem_filter, List.mem_range]
        refine ⟨by simpa using hi, ?_⟩
        have ho : ops.toArray[i]? = some ops[i] := by simp [hi]
        simp only [ho, Option.map_some, Option.getD_some, Bool.and_eq_true, Bool.not_eq_true']
        constructor
        · unfold LB at hL
          rw [Array.getD_eq_getD_getElem?] at hL ⊢
          have : listed[i]? = some listed[i] := by simp [hs, hi]
          rw [this] at hL ⊢
          exact hL
        · rw [Array.all_eq_true_iff_forall_mem]
          intro e he
          cases hbind : Region.binds .any e with
          | false => rfl
          | true =>
            have hj : e.on ∈ onE ops[i] := List.mem_map.2 ⟨e, List.mem_filter.2 ⟨by simpa using he, hbind⟩, rfl⟩
            have hlt := hb i ops[i] (by simp [hi]) e.on hj
            have := ih e.on hlt (by omega)
            simpa [LB] using this
      rw [h] at hmem
      cases hmem
theorem LB_set {listed : Array Bool} {i : Nat} (hi : i < listed.size) : LB (listed.setIfInBounds i true) = addL (LB listed) i := by
  funext j
  unfold LB addL
  simp only [Array.getD_eq_getD_getElem?, Array.getElem?_setIfInBounds]
  by_cases e : i = j
  · subst e; simp [hi]
  · rw [if_neg e, if_neg (Ne.symm e)]
theorem count_set (l : List Bool) (i : Nat) (h : l[i]? = some false) : ((l.set i true).filter id).length = (l.filter id).length + 1 := by
  induction l generalizing i with
  | nil => simp at h
  | cons x l ih =>
    cases i with
    | zero => simp at h; subst h; simp
    | succ i =>
      have := ih i (by simpa using h)
      cases x <;> simp [this]
theorem count_all (l : List Bool) (h : (l.filter id).length = l.length) : ∀ b ∈ l, b = true := fun b hb => by
  have := List.length_filter_eq_length_iff.1 h b hb
  simpa using this
section
variable {c : Cfg} {C : Cert} {l : List Oper} {n : Nat} {N : Po}
theorem any_ok (hk : Chk C l) (hn : c.n = n) (hd : (l.all fun o => match o.dst with | some d => Nat.blt d n | none => true) = true) (hs : StepsOk c C l 0 l) (hN : ∀ a w, Ok c ⟨C.FL l (fun i => Nat.blt i l.length), C.ML (fun i => Nat.blt i l.length)⟩ a w → N a w) :
    ∀ (fuel : Nat) (listed : Array Bool) (a : Act) (w : World), listed.size = l.length → Closed' l (LB listed) → (listed.toList.filter id).length + fuel = l.length → Ok c ⟨C.FL l (LB listed), C.ML (LB listed)⟩ a w → wpAny Try.prog .any l.toArray (RM.Only N) fuel listed a w := by
  have full : ∀ listed : Array Bool, listed.size = l.length → (∀ i, i < l.length → LB listed i = true) → LB listed = fun i => Nat.blt i l.length := fun listed hsz h => by
    funext i
    by_cases hi : i < l.length
    · rw [h i hi]
      exact (Nat.ble_eq_true_of_le hi).symm
    · have : LB listed i = false := by
        unfold LB
        rw [Array.getD_eq_getD_getElem?]
        have : listed[i]? = none := by simp; omega
        rw [this]
        rfl
      rw [this]
      cases hb : Nat.blt i l.length with
      | false => rfl
      | true => exact absurd (Nat.le_of_ble_eq_true hb) hi
  intro fuel
  induction fuel with
  | zero =>
    intro listed a w hsz hcl hcnt hok
    have hall : ∀ i, i < l.length → LB listed i = true := fun i hi => by
      have hlen : listed.toList.length = l.length := by simpa using hsz
      have := count_all listed.toList (by omega) (listed[i]'(by omega)) (by simp)
      unfold LB
      rw [Array.getD_eq_getD_getElem?]
      simp [hsz, hi, this]
    refine ⟨?_, hN a w (by rw [← full listed hsz hall]; exact hok)⟩
    cases hr : Region.ready .any l.toArray listed with
    | nil => rfl
    | cons i r =>
      obtain ⟨o, ho, hL, _⟩ := ready_mem hsz (i := i) (by rw [hr]; simp)
      rw [hall i (List.getElem?_eq_some_iff.1 ho).1] at hL
      cases hL
  | succ fuel ih =>
    intro listed a w hsz hcl hcnt hok
    refine ⟨fun hr => hN a w (by rw [← full listed hsz (ready_nil hsz hk.below hr)]; exact hok), fun i hi => ?_⟩
    obtain ⟨o, ho, hL, hon⟩ := ready_mem hsz hi
    have hlt := (List.getElem?_eq_some_iff.1 ho).1
    have hst := stepsOk_get hs i o ho
    rw [Nat.zero_add] at hst
    have hset := LB_set (listed := listed) (i := i) (by omega)
    have hnext : ∀ a' w', Ok c ⟨C.FL l (addL (LB listed) i), C.ML (addL (LB listed) i)⟩ a' w' → wpAny Try.prog .any l.toArray (RM.Only N) fuel (listed.setIfInBounds i true) a' w' := fun a' w' h' => by
      refine ih _ a' w' (by simpa using hsz) ?_ ?_ (by rw [hset]; exact h')
      · rw [hset]
        intro j hj
        unfold addL at hj ⊢
        by_cases e : j = i
        · subst e
          refine ⟨hlt, fun k hk' => ?_⟩
          rw [onI_eq ho] at hk'
          split
          · rfl
          · exact hon k hk'
        · rw [if_neg e] at hj
          obtain ⟨h1, h2⟩ := hcl j hj
          refine ⟨h1, fun k hk' => ?_⟩
          split
          · rfl
          · exact h2 k hk'
      · rw [Array.toList_setIfInBounds, count_set]
        · omega
        · unfold LB at hL
          rw [Array.getD_eq_getD_getElem?] at hL
          have : listed[i]? = some listed[i] := by simp [hsz, hlt]
          rw [this] at hL
          simp at hL
          rw [Array.getElem?_toList, this, hL]
    have := step_ok (Z := N) hk hcl hn hd ho hL hon hst hok hnext
    unfold wpOp
    have ho' : l.toArray[i]? = some o := by simpa using ho
    rw [ho']
    simp only
    split
    · rename_i hw
      rw [if_pos hw] at this
      exact .inl this
    · rename_i hw
      rw [if_neg hw] at this
      exact this
/-- a region that draws its order -/
theorem En.regionA {S : St} {id : Nat} {E : List (Nat × Po)} {R : Po} (C : Cert) (fin : St) (hm : Try.prog.follows .mixedOrders = true) (hn : c.n = n) (hk : chkE C l = true) (hd : (l.all fun o => match o.dst with | some d => Nat.blt d n | none => true) = true)
    (h0 : subE ⟨C.FL l (fun _ => false), C.ML (fun _ => false)⟩ S = subX ⟨C.FL l (fun _ => false), C.ML (fun _ => false)⟩) (hs : StepsOk c C l 0 l)
    (h1 : subE fin ⟨C.FL l (fun i => Nat.blt i l.length), C.ML (fun i => Nat.blt i l.length)⟩ = subX fin) (h2 : En c fin N) : En c S (cwp (.region id l.toArray true) (PQ N E R)) := fun a w ⟨g, hs', hok⟩ => by
  have hok1 : Ok' c S a w.drew g hs' := hok.grown (grown_drew w)
  have hL : LB (Array.replicate l.length false) = fun _ => false := by
    funext i
    unfold LB
    rw [Array.getD_eq_getD_getElem?, Array.getElem?_replicate]
    split <;> rfl
  refine Code.wp_mono (fun e a w q => ?_) (wp_region_any (Q := RM.Only N) hm (any_ok (chk_of hk) hn hd hs (fun a w h => h2 a w (sub_ok h1 a w h)) l.toArray.size _ a w.drew (by simp) ?_ ?_ ?_))
  · cases e <;> first | exact q | exact (q : False).elim
  · intro i hi
    simp only [List.size_toArray] at hi
    rw [hL] at hi
    cases hi
  · simp only [List.size_toArray, Array.toList_replicate]
    rw [List.filter_replicate_of_neg (by simp)]
    simp
  · simp only [List.size_toArray]
    rw [hL]
    exact sub_ok h0 a w.drew ⟨g, hs', hok1⟩
end
end Go.Proofs.Ytfpdnigihjmohaa
