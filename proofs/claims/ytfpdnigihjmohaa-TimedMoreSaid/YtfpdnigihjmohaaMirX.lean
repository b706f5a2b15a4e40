/- Symbolic states of a walk: calls whose result is one of several. No condition. -/
import Derived.Test.YtfpdnigihjmohaaMirW
namespace Go.Proofs.Ytfpdnigihjmohaa
open Go.RowKit Go.MapKept
set_option linter.unusedSimpArgs false
set_option linter.unusedVariables false
set_option maxRecDepth 100000

/-- operation o, from S on: for some r of which Q holds it yields what is as x r says, and makes p r -/
def MTQ {β : Type} (c : Cfg) (S : St) (o : Oper) (Q : β → Prop) (x : β → SC) (p : β → Option (Nat × Item)) : Prop :=
  ∀ a w g hs, Ok' c S a w g hs → ∀ N Z : Po, (∀ r, Q r → ∀ v w' g' h', Eff hs [] w g w' g' → (x r).ok g' (newH hs (p r) h') v → newOk hs [] w w' g' h' (p r) → N (a.put o.dst v) w') → o.wp Try.prog a w N (RM.Only Z)
section
variable {c : Cfg} {S S1 : St} {a : Act} {w : World} {g : Gh} {hs : Nat → Value} {tab : Tab} {n : Nat} {o : Oper} {ops : Array Oper} {rest L : List Oper} {N : Po}
theorem WL.mtQ {β : Type} {Q : β → Prop} {x : β → SC} {p : β → Option (Nat × Item)} (hn : c.n = n) (hw : wantE ops S.F o = some true) (hm : MTQ c S o Q x p) (h : ∀ r, Q r → refsNe S (p r) = true ∧ ∃ S1, putE n o.dst (x r) ⟨S.F, newM S.M [] (p r)⟩ = some S1 ∧ WL c ops rest S1 N) : WL c ops (o :: rest) S N := fun a w ⟨g, hs, hk⟩ => by
  unfold wpList
  rw [if_pos (wantE_ok hk hw)]
  refine .inl (hm a w g hs hk _ N fun r hq v w' g' h' h1 h3 h4 => ?_)
  obtain ⟨hr, S1, e, hW⟩ := h r hq
  exact hW _ _ ⟨g', _, putE_ok (hk.eff h1 h4 hr rfl) hn h3 e⟩
theorem mtq_call {β : Type} {Q : β → Prop} {x : β → SC} {f : Nat} {ins : List SC} {M : List Item} (ct : Ct f ins M Q x) (en : ∀ args w, (callFunc f args).run Try.prog w = .ok (.enter f args) w) {caps : List Nat} (rn : List Nat) {fo : Operand} {args : Array Operand} {ats : Array TypeId}
    (ho : o.op = .call ⟨.value fo, args, ats⟩) (hf : evX S.F fo = some (.sv (.one (.fn f caps)))) (ha : (match evXs S.F args.toList with | some l => some (l ++ caps.map fun i => .sv (.one (.ptr i 0))) | none => none) = some (ins.map (SC.ren fun i => rn.getD i 0)))
    (hM : fzE S.M (fun i => rn.getD i 0) 0 M = M.map fun it => some (it.ren fun i => rn.getD i 0)) (hz : M.all fzB = true) (hcl : ∀ r, (x r).refs = []) (hcb : caps.all (boxB S) = true) : MTQ c S o Q x (fun _ => none) := fun a w g hs h N Z hN => by
  unfold Oper.wp
  have hfv : a.eval fo = .func (.func f) #[] (caps.map hs).toArray := (evX_ok h hf).1
  split at ha
  case h_2 => cases ha
  rename_i l hl
  simp only [Option.some.injEq] at ha
  have h1 := evXs_ok h hl
  have hcp : ∀ i ∈ caps, ∃ b, hs i = .pointer (some ⟨b, 0, none⟩) := fun i hi => by
    have := List.all_eq_true.1 hcb i hi
    unfold boxB at this
    cases hm : S.M[i]? with
    | none => rw [hm] at this; cases this
    | some it =>
      rw [hm] at this
      cases it <;> try (cases this; done)
      obtain ⟨b, cs, h1, _⟩ := h.items i _ hm
      exact ⟨b, h1⟩
  have h2 : okArgs g hs (caps.map fun i => SC.sv (.one (.ptr i 0))) (caps.map hs) := by
    clear ha hf hfv hcb
    induction caps with
    | nil => trivial
    | cons i caps ih =>
      refine ⟨?_, ih (fun j hj => hcp j (List.mem_cons_of_mem _ hj))⟩
      obtain ⟨b, hb⟩ := hcp i (by simp)
      exact ⟨⟨b, hb, hb⟩, by rw [hb]; trivial⟩
  have h3 := okArgs_append h1 h2
  rw [ha] at h3
  have h4 := okArgs_ren h3
  have hrun : (execOp a.eval o).run Try.prog w = .ok (.enter f ((args.toList.map a.eval) ++ caps.map hs).toArray) w := by
    unfold execOp
    simp only [ho, resolve, hfv, Deferred.ofValue, Sem.run_bind, Sem.run_pure, Result.andThen_ok, invoke]
    rw [show (#[] ++ Array.map a.eval args ++ (List.map hs caps).toArray : Array Value) = (args.toList.map a.eval ++ caps.map hs).toArray by simp]
    exact en _ _
  rw [hrun]
  refine (ct w g (fun i => hs (rn.getD i 0)) _ h.base.pers h4 (fun i it hi => ?_)).mono ?_
  · have h5 := fzE_ok hM i it hi
    rw [Nat.zero_add] at h5
    exact fz_of h5 (List.all_eq_true.1 hz it (List.mem_of_getElem? hi)) h
  · rintro e w' ⟨v, g', r, rfl, h5, h6, h7⟩
    exact hN r h5 v w' g' undef (Eff.of_base h7) (SC.ok_closed' (hcl r) h6) trivial
theorem mtq_callJ {β : Type} {Q : β → Prop} {itf : β → Item} (p : Nat) {f : Nat} {ins : List SC} {M : List Item} (ct : CtJ f ins M Q itf) (en : ∀ args w, (callFunc f args).run Try.prog w = .ok (.enter f args) w) {caps : List Nat} (rn : List Nat) {fo : Operand} {args : Array Operand} {ats : Array TypeId} (hir : ∀ r, (itf r).refs = [])
    (ho : o.op = .call ⟨.value fo, args, ats⟩) (hf : evX S.F fo = some (.sv (.one (.fn f caps)))) (ha : (match evXs S.F args.toList with | some l => some (l ++ caps.map fun i => .sv (.one (.ptr i 0))) | none => none) = some (ins.map (SC.ren fun i => rn.getD i 0)))
    (hM : fzE S.M (fun i => rn.getD i 0) 0 M = M.map fun it => some (it.ren fun i => rn.getD i 0)) (hz : M.all fzB = true) (hcb : caps.all (boxB S) = true) : MTQ c S o Q (fun _ => .sv (.one (.own p))) (fun r => some (p, itf r)) := fun a w g hs h N Z hN => by
  unfold Oper.wp
  have hfv : a.eval fo = .func (.func f) #[] (caps.map hs).toArray := (evX_ok h hf).1
  split at ha
  case h_2 => cases ha
  rename_i l' hl
  simp only [Option.some.injEq] at ha
  have h1 := evXs_ok h hl
  have hcp : ∀ i ∈ caps, ∃ b, hs i = .pointer (some ⟨b, 0, none⟩) := fun i hi => by
    have := List.all_eq_true.1 hcb i hi
    unfold boxB at this
    cases hm : S.M[i]? with
    | none => rw [hm] at this; cases this
    | some it =>
      rw [hm] at this
      cases it <;> try (cases this; done)
      obtain ⟨b, cs, h1, _⟩ := h.items i _ hm
      exact ⟨b, h1⟩
  have h2 : okArgs g hs (caps.map fun i => SC.sv (.one (.ptr i 0))) (caps.map hs) := by
    clear ha hf hfv hcb
    induction caps with
    | nil => trivial
    | cons i caps ih =>
      refine ⟨?_, ih (fun j hj => hcp j (List.mem_cons_of_mem _ hj))⟩
      obtain ⟨b, hb⟩ := hcp i (by simp)
      exact ⟨⟨b, hb, hb⟩, by rw [hb]; trivial⟩
  have h3 := okArgs_append h1 h2
  rw [ha] at h3
  have h4 := okArgs_ren h3
  have hrun : (execOp a.eval o).run Try.prog w = .ok (.enter f ((args.toList.map a.eval) ++ caps.map hs).toArray) w := by
    unfold execOp
    simp only [ho, resolve, hfv, Deferred.ofValue, Sem.run_bind, Sem.run_pure, Result.andThen_ok, invoke]
    rw [show (#[] ++ Array.map a.eval args ++ (List.map hs caps).toArray : Array Value) = (args.toList.map a.eval ++ caps.map hs).toArray by simp]
    exact en _ _
  rw [hrun]
  refine (ct w g (fun i => hs (rn.getD i 0)) _ h.base.pers h4 (fun i it hi => ?_)).mono ?_
  · have h5 := fzE_ok hM i it hi
    rw [Nat.zero_add] at h5
    exact fz_of (f := fun i => rn.getD i 0) (i := i) h5 (List.all_eq_true.1 hz it (List.mem_of_getElem? hi)) h
  · rintro e' w' ⟨v, g', r, rfl, hq, h5, hcv, h6, h8⟩
    refine hN r hq v w' g' v (Eff.of_base h5) ⟨?_, ?_⟩ ⟨Item.ok_hs (fun j hj => by rw [hir r] at hj; cases hj) h6, fun b hb => ?_⟩
    · show v = (if p = p then v else hs p)
      rw [if_pos rfl]
    · exact hcv
    · exact ⟨(h8 b hb).1, fun _ => (h8 b hb).2.2, .inl (h8 b hb).2.1⟩
/-- a slice whose elements are written out -/
theorem mt_lit {α : Type} {T : Ty α} (es : List α) {p e m : Nat} (h : MT c S o (.sv (.one (.bsl p m))) [] (some (p, .box (cellsOf T es) e false))) (hT : T.solid) (hz : ∀ a, (svCells (T.sv a)).length = T.s) (hc : ∀ a, (T.sv a).refs = []) (hlen : m = es.length) (hml : es.length ≤ 140737488355328) : MT c S o (.sv (.one (.own p))) [] (some (p, rowI e T es)) := fun a w g hs hk N Z hN => by
  refine h a w g hs hk N Z fun v w' g' h' h1 h2 h3 => ?_
  obtain ⟨⟨b, cs, rfl, k2, k3, _⟩, hb⟩ := h3
  obtain ⟨⟨b', hb', hv⟩, _⟩ := h2
  have hbb : b = b' := by
    have : (if p = p then (Value.pointer (some ⟨b, 0, none⟩)) else hs p) = .pointer (some ⟨b', 0, none⟩) := hb'
    rw [if_pos rfl] at this
    simpa using this
  subst hbb hlen
  have hrow := rowRead.of_oks hT hz hc k2
  have hown : w'.ownsRow 0 e T.s (.slice (some ⟨b, 0, none⟩) es.length es.length) es.length cs := ⟨hrow.length, .inr ⟨b, es.length, cs.toArray, rfl, Nat.zero_le _, k3, Nat.le_refl _, by simp only [maxLen]; omega, by simpa using hrow.length, by simpa using (List.take_of_length_le (by rw [hrow.length]; exact Nat.le_refl _))⟩⟩
  refine hN v w' g' (.slice (some ⟨b, 0, none⟩) es.length es.length) h1 ⟨?_, by rw [hv]; trivial⟩ ⟨⟨cs, hown, hrow⟩, fun b2 hb2 => ?_⟩
  · show v = (if p = p then _ else hs p)
    rw [if_pos rfl]
    exact hv
  · cases hb2
    obtain ⟨x1, x2, x3⟩ := hb b rfl
    exact ⟨x1, fun _ => x2 rfl, x3⟩
end
end Go.Proofs.Ytfpdnigihjmohaa
