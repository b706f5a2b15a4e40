/- Symbolic states of a walk: variables that nobody writes any more; function values. No condition. -/
import Derived.Test.YtfpdnigihjmohaaMirL
namespace Go.Proofs.Ytfpdnigihjmohaa
open Go.RowKit Go.MapKept
set_option linter.unusedSimpArgs false
set_option linter.unusedVariables false
set_option maxRecDepth 100000

section
variable {c : Cfg} {S S1 : St} {a : Act} {w : World} {g : Gh} {hs : Nat → Value} {tab : Tab} {n : Nat} {o : Oper} {ops : Array Oper} {rest L : List Oper} {N : Po}
theorem Eff.of_base {w' : World} {g' : Gh} (h : Base (cfg0 n w g) w' g') : Eff hs [] w g w' g' :=
  ⟨h.os, h.tape, h.output, h.grows, fun b hb _ => h.frame b hb (fun h => h), h.ghle, fun b o e => by
    rcases h.ghnew b o e with h1 | h1 | h1
    · exact .inl h1
    · exact h1.elim
    · exact .inr (.inl h1), h.pers⟩
/-- a call of a function that is known, whose result is known -/
theorem mt_call {f : Nat} {ins : List SC} {M : List Item} {x : SC} (ct : Ct f ins M (fun (_ : Unit) => True) (fun _ => x)) (en : ∀ args w, (callFunc f args).run Try.prog w = .ok (.enter f args) w) {caps : List Nat} (rn : List Nat) {fo : Operand} {args : Array Operand} {ats : Array TypeId}
    (ho : o.op = .call ⟨.value fo, args, ats⟩) (hf : evX S.F fo = some (.sv (.one (.fn f caps)))) (ha : (match evXs S.F args.toList with | some l => some (l ++ caps.map fun i => .sv (.one (.ptr i 0))) | none => none) = some (ins.map (SC.ren fun i => rn.getD i 0)))
    (hM : fzE S.M (fun i => rn.getD i 0) 0 M = M.map fun it => some (it.ren fun i => rn.getD i 0)) (hz : M.all fzB = true) (hcl : x.refs = []) (hcb : caps.all (boxB S) = true) : MT c S o x [] none := fun a w g hs h N Z hN => by
  unfold Oper.wp
  have hfv : a.eval fo = .func (.func f) #[] (caps.map hs).toArray := (evX_ok h hf).1
  split at ha
  case h_2 => cases ha
  rename_i l hl
  simp only [Option.some.injEq] at ha
  have h1 := evXs_ok h hl
  have hcp : ∀ i ∈ caps, ∃ b, hs i = .pointer (some ⟨b, 0, none⟩) := fun i hi => by
    have := List.all_eq_true.1 hcb i hi
    unfold boxB at this
    cases hm : S.M[i]? with
    | none => rw [hm] at this; cases this
    | some it =>
      rw [hm] at this
      cases it <;> try (cases this; done)
      obtain ⟨b, cs, h1, _⟩ := h.items i _ hm
      exact ⟨b, h1⟩
  have h2 : okArgs g hs (caps.map fun i => SC.sv (.one (.ptr i 0))) (caps.map hs) := by
    clear ha hf hfv hcb
    induction caps with
    | nil => trivial
    | cons i caps ih =>
      refine ⟨?_, ih (fun j hj => hcp j (List.mem_cons_of_mem _ hj))⟩
      obtain ⟨b, hb⟩ := hcp i (by simp)
      exact ⟨⟨b, hb, hb⟩, by rw [hb]; trivial⟩
  have h3 := okArgs_append h1 h2
  rw [ha] at h3
  have h4 := okArgs_ren h3
  have hrun : (execOp a.eval o).run Try.prog w = .ok (.enter f ((args.toList.map a.eval) ++ caps.map hs).toArray) w := by
    unfold execOp
    simp only [ho, resolve, hfv, Deferred.ofValue, Sem.run_bind, Sem.run_pure, Result.andThen_ok, invoke]
    rw [show (#[] ++ Array.map a.eval args ++ (List.map hs caps).toArray : Array Value) = (args.toList.map a.eval ++ caps.map hs).toArray by simp]
    exact en _ _
  rw [hrun]
  refine (ct w g (fun i => hs (rn.getD i 0)) _ h.base.pers h4 (fun i it hi => ?_)).mono ?_
  · have h5 := fzE_ok hM i it hi
    rw [Nat.zero_add] at h5
    exact fz_of h5 (List.all_eq_true.1 hz it (List.mem_of_getElem? hi)) h
  · rintro e w' ⟨v, g', r, rfl, h5, h6, h7⟩
    exact hN v w' g' undef (Eff.of_base h7) (SC.ok_closed' hcl h6) trivial
/-- nobody writes this variable any more -/
theorem Ok'.freeze (h : Ok' c S a w g hs) {i ty : Nat} {cells : List At} (hi : S.M[i]? = some (.box cells ty false)) : ∃ g', Ok' c ⟨S.F, S.M.set i (.box cells ty true)⟩ a w g' hs := by
  classical
  obtain ⟨b, cs, h1, h2, h3, _⟩ := h.items i _ hi
  have hb : blk (hs i) = some b := by rw [h1]; rfl
  obtain ⟨m1, m2⟩ := h.mine i _ hi (by simp) b hb
  have m3 := m2 rfl
  let g' : Gh := fun x => if x = b then some (.cells cs.toArray ty (0, 0)) else g x
  have hle : Gh.le g g' := fun x o e => by
    show (if x = b then _ else g x) = some o
    by_cases hx : x = b
    · subst hx; rw [m3.2] at e; cases e
    · rw [if_neg hx]; exact e
  have hg'b : g' b = some (.cells cs.toArray ty (0, 0)) := if_pos rfl
  have hg'n : ∀ x, x ≠ b → g' x = g x := fun x hx => if_neg hx
  have hlt : i < S.M.length := (List.getElem?_eq_some_iff.1 hi).1
  have hset : ∀ (j : Nat) (jt : Item), (S.M.set i (.box cells ty true))[j]? = some jt → (j = i ∧ jt = .box cells ty true) ∨ (j ≠ i ∧ S.M[j]? = some jt) := fun j jt hj => by
    rw [List.getElem?_set] at hj
    by_cases e : i = j
    · rw [if_pos e, if_pos hlt] at hj
      simp at hj
      exact .inl ⟨e.symm, hj.symm⟩
    · rw [if_neg e] at hj; exact .inr ⟨Ne.symm e, hj⟩
  refine ⟨g', h.size, h.defers, ⟨h.base.os, h.base.tape, h.base.output, h.base.grows, h.base.frame, h.base.ghle.trans hle, fun x o e => ?_, fun x o e => ?_⟩, fun t x hx => SC.mono hle (h.slots t x hx), fun j jt hj => ?_, fun j k jt kt hjk hj hk hfj hnk x hx => ?_, fun j jt hj hnj x hx => ?_⟩
  · by_cases hx : x = b
    · subst hx
      exact .inr (m3.1)
    · rw [hg'n x hx] at e
      exact h.base.ghnew x o e
  · by_cases hx : x = b
    · subst hx
      rw [hg'b] at e
      cases e
      exact h3
    · rw [hg'n x hx] at e
      exact h.base.pers x o e
  · rcases hset j jt hj with ⟨rfl, rfl⟩ | ⟨hne, hj⟩
    · exact ⟨b, cs, h1, oks_mono hle h2, h3, fun _ => hg'b⟩
    · exact Item.mono hle (h.items j jt hj)
  · rcases hset j jt hj with ⟨rfl, rfl⟩ | ⟨hne, hj'⟩
    · cases hfj
    · rcases hset k kt hk with ⟨rfl, rfl⟩ | ⟨hne2, hk'⟩
      · exact h.sep j k jt _ hjk hj' hi hfj (by simp) x hx
      · exact h.sep j k jt kt hjk hj' hk' hfj hnk x hx
  · rcases hset j jt hj with ⟨rfl, rfl⟩ | ⟨hne, hj⟩
    · exact ⟨(h.mine j _ hi (by simp) x hx).1, fun h => by cases h⟩
    · obtain ⟨y1, y2⟩ := h.mine j jt hj hnj x hx
      refine ⟨y1, fun hf => ⟨(y2 hf).1, ?_⟩⟩
      have hxb : x ≠ b := fun e => by
        subst e
        exact h.sep j i jt _ hne hj hi hf (by simp) x hx hb
      rw [hg'n x hxb]
      exact (y2 hf).2
def fzSet (M : List Item) (i : Nat) : Option (List Item) := match M[i]? with
  | some (.box cells ty false) => some (M.set i (.box cells ty true))
  | _ => none
def fzSets (M : List Item) : List Nat → Option (List Item)
  | [] => some M
  | i :: l => match fzSet M i with
    | some M' => fzSets M' l
    | none => none
theorem freezes : ∀ {l : List Nat} {M M' : List Item} {F : List (Nat × SC)} {g : Gh}, fzSets M l = some M' → Ok' c ⟨F, M⟩ a w g hs → ∃ g', Ok' c ⟨F, M'⟩ a w g' hs
  | [], M, M', F, g, e, h => by cases e; exact ⟨g, h⟩
  | i :: l, M, M', F, g, e, h => by
    unfold fzSets at e
    split at e
    case h_2 => cases e
    rename_i M1 h1
    unfold fzSet at h1
    split at h1
    case h_2 => cases h1
    rename_i cells ty hm
    cases h1
    obtain ⟨g1, h2⟩ := h.freeze (i := i) hm
    exact freezes e h2
theorem WL.freeze (l : List Nat) {M' : List Item} (e : fzSets S.M l = some M') (h : WL c ops L ⟨S.F, M'⟩ N) : WL c ops L S N := fun a w ⟨g, hs, hk⟩ => by
  obtain ⟨g', hk'⟩ := freezes (F := S.F) e hk
  exact h a w ⟨g', hs, hk'⟩
/-- a slot's content, said in another way -/
theorem WL.ghost (t : Nat) {x : SC} (x' : SC) (hl : look t S.F = some x) (hx : ∀ a w g hs, Ok' c S a w g hs → ∀ u, x.ok g hs u → x'.ok g hs u) (h : WL c ops L ⟨(t, x') :: S.F, S.M⟩ N) : WL c ops L S N := fun a w ⟨g, hs, hk⟩ => by
  refine h a w ⟨g, hs, hk.size, hk.defers, hk.base, fun t' y hy => ?_, hk.items, hk.sep, hk.mine⟩
  rcases List.mem_cons.1 hy with hy | hy
  · cases hy
    exact hx a w g hs hk _ (hk.slots t x (look_mem hl))
  · exact hk.slots t' y hy
/-- a function value: of arguments in dom, it hands back φ -/
def fvR {α β : Type} (ins : α → List SC) (out : β → SC) (dom : α → Prop) (φ : α → β) : Rd :=
  ⟨fun g v => ∃ f caps, v = .func (.func f) #[] caps ∧ (∀ args w, (callFunc f args).run Try.prog w = .ok (.enter f args) w) ∧
    ∀ x, dom x → ∀ w g' args, Gh.le g g' → Pers g' w → okArgs g' hs0 (ins x) args → Calls Try.prog f (args ++ caps.toList).toArray w (RetP w g' (fun (_ : Unit) => True) (fun _ => out (φ x))),
   fun g g' v h ⟨f, caps, h1, h2, h3⟩ => ⟨f, caps, h1, h2, fun x hx w g2 args hle => h3 x hx w g2 args (h.trans hle)⟩⟩
def capsSC (k : Nat) : List SC := (List.range k).map fun i => .sv (.one (.ptr i 0))
theorem okArgs_closed {l : List SC} (hc : l.all (fun x => x.refs.isEmpty) = true) {us : List Value} {hs hs' : Nat → Value} (h : okArgs g hs l us) : okArgs g hs' l us := by
  induction l generalizing us with
  | nil => cases us with
    | nil => trivial
    | cons _ _ => exact h.elim
  | cons x l ih => cases us with
    | nil => exact h.elim
    | cons u us =>
      simp only [List.all_cons, Bool.and_eq_true, List.isEmpty_iff] at hc
      exact ⟨SC.ok_hs (fun i hi => by rw [hc.1] at hi; cases hi) h.1, ih hc.2 h.2⟩
/-- a closure, as a function value -/
theorem fv_of {α β : Type} {ins : α → List SC} {out : β → SC} {dom : α → Prop} {φ : α → β} {f : Nat} {M : List Item} {caps : List Nat} (ct : ∀ x, dom x → Ct f (ins x ++ capsSC M.length) M (fun (_ : Unit) => True) (fun _ => out (φ x)))
    (en : ∀ args w, (callFunc f args).run Try.prog w = .ok (.enter f args) w) (hl : caps.length = M.length) (hM : fzE S.M (fun i => caps.getD i 0) 0 M = M.map fun it => some (it.ren fun i => caps.getD i 0)) (hz : M.all fzB = true) (hc : ∀ x, (ins x).all (fun x => x.refs.isEmpty) = true) :
    ∀ a w g hs, Ok' c S a w g hs → ∀ u, SC.ok g hs (.sv (.one (.fn f caps))) u → SC.ok g hs (.sv (.one (.rd (fvR ins out dom φ)))) u := fun a w g hs h u hu => by
  refine ⟨⟨f, (caps.map hs).toArray, hu.1, en, fun x hx w' g' args hle hp ha => ?_⟩, hu.2⟩
  have hz' : ∀ (i : Nat) (it : Item), M[i]? = some it → fzOk g' (fun i => hs (caps.getD i 0)) (hs (caps.getD i 0)) it := fun i it hi => by
    have h5 := fzE_ok hM i it hi
    rw [Nat.zero_add] at h5
    have h6 := fz_of (f := fun i => caps.getD i 0) (i := i) h5 (List.all_eq_true.1 hz it (List.mem_of_getElem? hi)) h
    cases it with
    | box cells ty fz =>
      cases fz
      · exact h6.elim
      · obtain ⟨b, cs, k1, k2, k3⟩ := h6
        exact ⟨b, cs, k1, oks_mono hle k2, hle _ _ k3⟩
    | _ => exact h6.elim
  have hcaps : okArgs g' (fun i => hs (caps.getD i 0)) (capsSC M.length) (caps.map hs) := by
    have key : ∀ (k : Nat) (l : List Nat), (∀ j, j < l.length → l[j]? = caps[k + j]?) → k + l.length ≤ M.length → okArgs g' (fun i => hs (caps.getD i 0)) ((List.range' k l.length).map fun i => .sv (.one (.ptr i 0))) (l.map hs) := by
      intro k l
      induction l generalizing k with
      | nil => intro _ _; trivial
      | cons y l ih =>
        intro hj hk
        simp only [List.length_cons] at hk hj
        have h0 := hj 0 (by omega)
        simp at h0
        have hy : caps.getD k 0 = y := by simp [List.getD, ← h0]
        obtain ⟨it, hit⟩ : ∃ it, M[k]? = some it := ⟨M[k]'(by omega), by simp⟩
        have h7 := hz' k it hit
        refine ⟨?_, ih (k + 1) (fun j hj2 => ?_) (by omega)⟩
        · cases it with
          | box cells ty fz =>
            cases fz
            · exact h7.elim
            · obtain ⟨b, cs, k1, k2, k3⟩ := h7
              rw [hy] at k1
              refine ⟨⟨b, ?_, k1⟩, by rw [k1]; trivial⟩
              show hs (caps.getD k 0) = _
              rw [hy]
              exact k1
          | _ => exact h7.elim
        · have := hj (j + 1) (by omega)
          rw [show k + 1 + j = k + (j + 1) by omega]
          simpa using this
    have := key 0 caps (fun j _ => by simp) (by omega)
    rw [hl] at this
    unfold capsSC
    rw [List.range_eq_range']
    exact this
  have h8 := ct x hx w' g' (fun i => hs (caps.getD i 0)) (args ++ caps.map hs) hp (okArgs_append (okArgs_closed (hc x) ha) hcaps) hz'
  simpa using h8
/-- a call of a function value -/
theorem mt_callv {α β : Type} {ins : α → List SC} {out : β → SC} {dom : α → Prop} {φ : α → β} (x : α) (hd : dom x) {fo : Operand} {args : Array Operand} {ats : Array TypeId}
    (ho : o.op = .call ⟨.value fo, args, ats⟩) (hf : evX S.F fo = some (.sv (.one (.rd (fvR ins out dom φ))))) (ha : evXs S.F args.toList = some (ins x)) (hc : (ins x).all (fun x => x.refs.isEmpty) = true) (hcl : (out (φ x)).refs = []) : MT c S o (out (φ x)) [] none := fun a w g hs h N Z hN => by
  unfold Oper.wp
  obtain ⟨⟨f, caps, h1, en, h2⟩, _⟩ := evX_ok h hf
  have h3 := evXs_ok h ha
  have hrun : (execOp a.eval o).run Try.prog w = .ok (.enter f ((args.toList.map a.eval) ++ caps.toList).toArray) w := by
    unfold execOp
    simp only [ho, resolve, h1, Deferred.ofValue, Sem.run_bind, Sem.run_pure, Result.andThen_ok, invoke]
    rw [show (#[] ++ Array.map a.eval args ++ caps : Array Value) = (args.toList.map a.eval ++ caps.toList).toArray by simp]
    exact en _ _
  rw [hrun]
  refine (h2 x hd w g _ (Gh.le.refl g) h.base.pers (okArgs_closed hc h3)).mono ?_
  rintro e w' ⟨v, g', r, rfl, h5, h6, h7⟩
  exact hN v w' g' undef (Eff.of_base h7) (SC.ok_closed' hcl h6) trivial
end
end Go.Proofs.Ytfpdnigihjmohaa
