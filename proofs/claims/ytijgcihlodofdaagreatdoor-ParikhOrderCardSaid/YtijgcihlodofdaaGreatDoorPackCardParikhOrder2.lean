/- Lemmas towards the statement: mirrors of functions, and plain laws. No condition. -/
import Derived.Maps.AppendAt
import Derived.Laws.MakeOwn
import Derived.Test.YtijgcihlodofdaaGreatDoorPackCardParikhOrder1
namespace Go.Proofs.YtijgcihlodofdaaGreatDoor
open Go.RowKit Go.MapKept
set_option linter.unusedSimpArgs false
set_option linter.unusedVariables false
set_option maxRecDepth 100000
theorem At.mono {g g' : Gh} {hs : Nat → Value} (hg : Gh.le g g') {a : At} {u : Value} (h : a.ok g hs u) : a.ok g' hs u := by
  refine ⟨?_, by have := h.2; cases a <;> exact this⟩
  have h1 := h.1
  cases a <;> simp only [At.raw] at h1 ⊢
  case rd r => exact r.mono _ _ _ hg h1
  case sl r n => exact ⟨r.mono _ _ _ hg h1.1, h1.2⟩
  case pe r s =>
    obtain ⟨b, o, x, h2, h3, h4, h5⟩ := h1
    exact ⟨b, o, x, h2, r.mono _ _ _ hg h3, h4, fun j c hj => Gh.cell_up hg (h5 j c hj)⟩
  all_goals exact h1
theorem oks_mono {g g' : Gh} {hs : Nat → Value} (hg : Gh.le g g') : ∀ {l : List At} {us : List Value}, oks g hs l us → oks g' hs l us
  | [], [], _ => trivial
  | [], _ :: _, h => h.elim
  | _ :: _, [], h => h.elim
  | _ :: _, _ :: _, h => ⟨At.mono hg h.1, h.2.1, oks_mono hg h.2.2⟩
theorem SV.mono {g g' : Gh} {hs : Nat → Value} (hg : Gh.le g g') {a : SV} {u : Value} (h : a.ok g hs u) : a.ok g' hs u := by
  cases a with
  | one a => exact At.mono hg h
  | agg l =>
    obtain ⟨cs, h1, h2⟩ := h
    exact ⟨cs, h1, oks_mono hg h2⟩
theorem svs_mono {g g' : Gh} {hs : Nat → Value} (hg : Gh.le g g') : ∀ {l : List SV} {us : List Value}, SV.oks g hs l us → SV.oks g' hs l us
  | [], [], _ => trivial
  | [], _ :: _, h => h.elim
  | _ :: _, [], h => h.elim
  | _ :: _, _ :: _, h => ⟨SV.mono hg h.1, svs_mono hg h.2⟩
theorem SC.mono {g g' : Gh} {hs : Nat → Value} (hg : Gh.le g g') {a : SC} {u : Value} (h : a.ok g hs u) : a.ok g' hs u := by
  cases a with
  | sv s => exact SV.mono hg h
  | tup l =>
    obtain ⟨cs, h1, h2⟩ := h
    exact ⟨cs, h1, svs_mono hg h2⟩
def At.ren (f : Nat → Nat) : At → At
  | .ptr i off => .ptr (f i) off
  | .own i => .own (f i)
  | .oe i k s => .oe (f i) k s
  | .fn g l => .fn g (l.map f)
  | .bsl i n => .bsl (f i) n
  | .pptr i off b => .pptr (f i) off b
  | .pown i x => .pown (f i) x
  | .opt i => .opt (f i)
  | .pfn g l => .pfn g (l.map fun p => (f p.1, p.2))
  | .gs i k => .gs (f i) k
  | .ge i k q s => .ge (f i) k q s
  | .vw i lo m s => .vw (f i) lo m s
  | a => a
theorem At.ok_ren {g : Gh} {hs : Nat → Value} {f : Nat → Nat} {a : At} {u : Value} (h : (a.ren f).ok g hs u) : a.ok g (fun i => hs (f i)) u := by
  refine ⟨?_, by have := h.2; cases a <;> exact this⟩
  have h1 := h.1
  cases a <;> simp only [At.raw, At.ren] at h1 ⊢
  case fn _ l => rw [h1, List.map_map]; rfl
  case pfn _ l =>
    refine ⟨fun p hp => h1.1 _ (List.mem_map_of_mem (f := fun p : Nat × Nat => (f p.1, p.2)) hp), ?_⟩
    rw [h1.2]
    simp only [List.map_map]
    rfl
  all_goals exact h1
def SV.ren (f : Nat → Nat) : SV → SV
  | .one a => .one (a.ren f)
  | .agg l => .agg (l.map (At.ren f))
def SC.ren (f : Nat → Nat) : SC → SC
  | .sv s => .sv (s.ren f)
  | .tup l => .tup (l.map (SV.ren f))
theorem oks_ren {g : Gh} {hs : Nat → Value} {f : Nat → Nat} : ∀ {l : List At} {us : List Value}, oks g hs (l.map (At.ren f)) us → oks g (fun i => hs (f i)) l us
  | [], [], _ => trivial
  | [], _ :: _, h => h.elim
  | _ :: _, [], h => h.elim
  | _ :: _, _ :: _, h => ⟨At.ok_ren h.1, h.2.1, oks_ren h.2.2⟩
theorem SV.ok_ren {g : Gh} {hs : Nat → Value} {f : Nat → Nat} {a : SV} {u : Value} (h : (a.ren f).ok g hs u) : a.ok g (fun i => hs (f i)) u := by
  cases a with
  | one a => exact At.ok_ren h
  | agg l =>
    obtain ⟨cs, h1, h2⟩ := h
    exact ⟨cs, h1, oks_ren h2⟩
theorem svs_ren {g : Gh} {hs : Nat → Value} {f : Nat → Nat} : ∀ {l : List SV} {us : List Value}, SV.oks g hs (l.map (SV.ren f)) us → SV.oks g (fun i => hs (f i)) l us
  | [], [], _ => trivial
  | [], _ :: _, h => h.elim
  | _ :: _, [], h => h.elim
  | _ :: _, _ :: _, h => ⟨SV.ok_ren h.1, svs_ren h.2⟩
theorem SC.ok_ren {g : Gh} {hs : Nat → Value} {f : Nat → Nat} {a : SC} {u : Value} (h : (a.ren f).ok g hs u) : a.ok g (fun i => hs (f i)) u := by
  cases a with
  | sv s => exact SV.ok_ren h
  | tup l =>
    obtain ⟨cs, h1, h2⟩ := h
    exact ⟨cs, h1, svs_ren h2⟩
def Item.ren (f : Nat → Nat) : Item → Item
  | .box cells ty fz => .box (cells.map (At.ren f)) ty fz
  | it => it
def fzOk (g : Gh) (hs : Nat → Value) (h : Value) : Item → Prop
  | .box cells ty true => ∃ b cs, h = .pointer (some ⟨b, 0, none⟩) ∧ oks g hs cells cs ∧ g b = some (.cells cs.toArray ty (0, 0))
  | _ => False
def okArgs (g : Gh) (hs : Nat → Value) : List SC → List Value → Prop
  | [], [] => True
  | a :: l, u :: us => a.ok g hs u ∧ okArgs g hs l us
  | _, _ => False
def cfg0 (n : Nat) (w : World) (g : Gh) : Cfg := ⟨n, w, g, fun _ => False, [], fun _ _ _ => False⟩
def hs0 : Nat → Value := fun _ => undef
def RetP {β : Type} (w : World) (g : Gh) (post : β → Prop) (out : β → SC) (e : Ending) (w' : World) : Prop := ∃ v g' r, e = .returned v ∧ post r ∧ (out r).ok g' hs0 v ∧ Base (cfg0 0 w g) w' g'
def Ct {β : Type} (f : Nat) (ins : List SC) (M : List Item) (post : β → Prop) (out : β → SC) : Prop := ∀ (w : World) (g : Gh) (hs : Nat → Value) (args : List Value), Pers g w → okArgs g hs ins args → (∀ (i : Nat) (it : Item), M[i]? = some it → fzOk g hs (hs i) it) →
  Calls Tryz.prog f args.toArray w (RetP w g post out)
theorem Ct.imp {β : Type} {f : Nat} {ins : List SC} {M : List Item} {post post' : β → Prop} {out : β → SC} (h : Ct f ins M post out) (hp : ∀ r, post r → post' r) : Ct f ins M post' out := fun w g hs args h1 h2 h3 =>
  (h w g hs args h1 h2 h3).mono fun e w' ⟨v, g', r, e1, e2, e3⟩ => ⟨v, g', r, e1, hp r e2, e3⟩
def resR (rs : Array ResultVar) (tmps : Array Value) : Sem Value := do
  let vs ← rs.mapM fun
    | .tmp t => pure (tmps.getD t undef)
    | .cell a t => do loadVar t (← asAddr (tmps.getD a undef))
  pure (if h : vs.size = 1 then vs[0] else .tuple vs)
def RetA {β : Type} (c : Cfg) (rs : Array ResultVar) (post : β → Prop) (out : β → SC) : Po := fun a w => a.defers = c.dfr ∧ ∃ v g' r, (resR rs a.tmps).run Tryz.prog w = .ok v w ∧ post r ∧ (out r).ok g' hs0 v ∧ Base c w g'
def enumF : Nat → List SC → List (Nat × SC)
  | _, [] => []
  | k, x :: l => (k, x) :: enumF (k + 1) l
theorem okArgs_length {g : Gh} {hs : Nat → Value} : ∀ {l : List SC} {us : List Value}, okArgs g hs l us → l.length = us.length
  | [], [], _ => rfl
  | [], _ :: _, h => h.elim
  | _ :: _, [], h => h.elim
  | _ :: l, _ :: us, h => by simp [okArgs_length h.2]
theorem enumF_ok {g : Gh} {hs : Nat → Value} : ∀ {l : List SC} {us : List Value} {k t : Nat} {x : SC}, okArgs g hs l us → (t, x) ∈ enumF k l → ∃ u, us[t - k]? = some u ∧ k ≤ t ∧ x.ok g hs u
  | [], _, _, _, _, _, h => by simp [enumF] at h
  | _ :: _, [], _, _, _, h, _ => h.elim
  | y :: l, u :: us, k, t, x, h, hm => by
    simp only [enumF, List.mem_cons] at hm
    rcases hm with hm | hm
    · cases hm
      exact ⟨u, by simp, Nat.le_refl _, h.1⟩
    · obtain ⟨v, h1, h2, h3⟩ := enumF_ok (k := k + 1) h.2 hm
      refine ⟨v, ?_, by omega, h3⟩
      rw [show t - k = (t - (k + 1)) + 1 by omega]
      simpa using h1
def fzAll (M : List Item) : Bool := M.all fun it => match it with
  | .box _ _ true => true
  | _ => false
theorem Ct.body {β : Type} {f : Nat} {fn : Func} {code : Code} {n : Nat} {rs : Array ResultVar} {ins : List SC} {M : List Item} {post : β → Prop} {out : β → SC} (hf : Tryz.prog.funcs[f]? = some fn) (hb : fn.body = some code) (hn : fn.ntmps = n) (hr : fn.results = rs)
    (hl : Nat.ble ins.length n = true) (h : ∀ c : Cfg, c.n = n → En c ⟨enumF 0 ins, M⟩ (cwp code (PQ c (RetA c rs post out) [] (RetA c rs post out)))) : Ct f ins M post out := fun w g hs args hp ha hm => by
  have hl := Nat.le_of_ble_eq_true hl
  have hla := okArgs_length ha
  refine calls_of_wp hf hb (Code.wp_mono (fun e a w' q => ?_) (h (cfg0 n w g) rfl { tmps := args.toArray ++ Array.replicate (fn.ntmps - args.toArray.size) undef, defers := [] } w ⟨g, hs, ?_⟩))
  · have key : RetA (cfg0 n w g) rs post out a w' → a.defers = [] ∧ ∃ v, (results fn a.tmps).run Tryz.prog w' = .ok v w' ∧ RetP w g post out (.returned v) w' := fun ⟨h1, v, g', r, h2, h3, h4, h5⟩ => by
      refine ⟨h1, v, ?_, v, g', r, rfl, h3, h4, h5.os, h5.tape, h5.output, h5.grows, h5.frame, h5.ghle, h5.ghnew, h5.pers⟩
      subst hr
      exact h2
    cases e <;> first | exact key q | exact (q : False).elim | exact (q.2 : False).elim
  · refine ⟨?_, rfl, ⟨rfl, rfl, rfl, Nat.le_refl _, fun _ _ _ => rfl, Gh.le.refl g, fun b o e => .inl e, hp⟩, fun t x hx => ?_, fun i it hi => ?_, ?_, ?_⟩
    · simp [cfg0, hn]
      omega
    · obtain ⟨u, h1, _, h3⟩ := enumF_ok ha hx
      simp only [Nat.sub_zero] at h1
      have hlt := (List.getElem?_eq_some_iff.1 h1).1
      have : (args.toArray ++ Array.replicate (fn.ntmps - args.toArray.size) undef).getD t undef = u := by
        rw [Array.getD_eq_getD_getElem?, Array.getElem?_append_left (by simpa using hlt)]
        simp [h1]
      rw [this]
      exact h3
    · have := hm i it hi
      cases it <;> try exact this.elim
      rename_i cells ty fz
      cases fz
      · exact this.elim
      · obtain ⟨b, cs, h1, h2, h3⟩ := this
        exact ⟨b, cs, h1, h2, hp _ _ h3, fun _ => h3⟩
    · intro i j it jt _ hi _ hfi
      have := hm i it hi
      cases it <;> try exact this.elim
      rename_i cells ty fz
      cases fz
      · exact this.elim
      · cases hfi
    · intro i it hi hnn b hb
      clear hnn
      have := hm i it hi
      cases it <;> try exact this.elim
      rename_i cells ty fz
      cases fz
      · exact this.elim
      · obtain ⟨b', cs, h1, h2, h3⟩ := this
        rw [h1] at hb
        cases hb
        exact ⟨hp.lt h3, fun h => by cases h⟩
def evR1 (tab : Tab) (S : St) : ResultVar → Option SV
  | .tmp t => match look t S.F with
    | some (.sv s) => some s
    | _ => none
  | .cell a t => match evLoad tab S t (.tmp a) with
    | some (.sv s) => some s
    | _ => none
def evRs (tab : Tab) (S : St) : List ResultVar → Option (List SV)
  | [] => some []
  | r :: l => match evR1 tab S r with
    | some s => match evRs tab S l with
      | some ss => some (s :: ss)
      | none => none
    | none => none
def evR (tab : Tab) (S : St) (rs : Array ResultVar) : Option SC := match evRs tab S rs.toList with
  | some [s] => some (.sv s)
  | some l => some (.tup l)
  | none => none
def runR1 (tmps : Array Value) : ResultVar → Sem Value
  | .tmp t => pure (tmps.getD t undef)
  | .cell a t => do loadVar t (← asAddr (tmps.getD a undef))
section
variable {c : Cfg} {S S' : St} {a : Act} {w : World} {g : Gh} {hs : Nat → Value} {tab : Tab} {n : Nat}
theorem evR1_ok (ht : tab.ok) (h : Ok' c S a w g hs) {r : ResultVar} {s : SV} (e : evR1 tab S r = some s) : ∃ v, (runR1 a.tmps r).run Tryz.prog w = .ok v w ∧ s.ok g hs v := by
  cases r with
  | tmp t =>
    simp only [evR1] at e
    split at e
    case h_2 => cases e
    rename_i x hx
    cases e
    exact ⟨_, by simp [runR1], h.slots t _ (look_mem hx)⟩
  | cell b t =>
    simp only [evR1] at e
    split at e
    case h_2 => cases e
    rename_i x hx
    cases e
    unfold evLoad at hx
    split at hx
    case h_2 => cases hx
    rename_i i off hp
    split at hx
    case h_2 => cases hx
    rename_i cells ty fz hm
    split at hx
    case h_2 => cases hx
    rename_i ti hti
    split at hx
    case h_2 => cases hx
    rename_i r hr
    cases hx
    obtain ⟨⟨bb, hb, hv⟩, _⟩ := evX_ok h hp
    obtain ⟨b', cs, h1, h2, h3, h4⟩ := h.items i _ hm
    rw [hb] at h1
    simp at h1
    subst h1
    obtain ⟨v, h5, h6⟩ := run_loadVar_box (ht t ti hti) h3 h2 hr
    refine ⟨v, ?_, h6⟩
    have hv' : a.tmps.getD b undef = .pointer (some ⟨bb, off, none⟩) := hv
    simp [runR1, hv', asAddr, h5]
theorem evRs_ok (ht : tab.ok) (h : Ok' c S a w g hs) : ∀ {l : List ResultVar} {ss : List SV}, evRs tab S l = some ss → ∃ vs, (l.mapM (runR1 a.tmps)).run Tryz.prog w = .ok vs w ∧ SV.oks g hs ss vs
  | [], ss, e => by cases e; exact ⟨[], by simp, trivial⟩
  | r :: l, ss, e => by
    unfold evRs at e
    split at e
    case h_2 => cases e
    rename_i s hs1
    split at e
    case h_2 => cases e
    rename_i ss' hss
    cases e
    obtain ⟨v, h1, h2⟩ := evR1_ok ht h hs1
    obtain ⟨vs, h3, h4⟩ := evRs_ok ht h hss
    exact ⟨v :: vs, by simp [List.mapM_cons, Sem.run_bind, h1, h3], h2, h4⟩
theorem evR_ok (ht : tab.ok) (h : Ok' c S a w g hs) {rs : Array ResultVar} {x : SC} (e : evR tab S rs = some x) : ∃ v, (resR rs a.tmps).run Tryz.prog w = .ok v w ∧ x.ok g hs v := by
  unfold evR at e
  have hrun : ∀ vs : List Value, (rs.toList.mapM (runR1 a.tmps)).run Tryz.prog w = .ok vs w → (resR rs a.tmps).run Tryz.prog w = .ok (if h : vs.toArray.size = 1 then vs.toArray[0] else .tuple vs.toArray) w := fun vs hvs => by
    unfold resR
    rw [Sem.run_bind]
    have : (rs.mapM (runR1 a.tmps)).run Tryz.prog w = .ok vs.toArray w := by
      rw [Array.mapM_eq_mapM_toList, map_eq_pure_bind, Sem.run_bind, hvs]
      simp
    have e2 : (fun (x : ResultVar) => (match x with
      | .tmp t => pure (a.tmps.getD t undef)
      | .cell a_1 t => do loadVar t (← asAddr (a.tmps.getD a_1 undef)) : Sem Value)) = runR1 a.tmps := by
      funext x
      cases x <;> rfl
    rw [e2, this]
    simp
  split at e
  · rename_i s hl
    cases e
    obtain ⟨vs, h1, h2⟩ := evRs_ok ht h hl
    match vs, h2 with
    | [v], h2 => exact ⟨v, by have := hrun _ h1; simpa using this, h2.1⟩
  · rename_i l hne hl
    cases e
    obtain ⟨vs, h1, h2⟩ := evRs_ok ht h hl
    have hlen : ∀ {l : List SV} {us : List Value}, SV.oks g hs l us → l.length = us.length := by
      intro l
      induction l with
      | nil => intro us h; cases us with
        | nil => rfl
        | cons _ _ => exact h.elim
      | cons x l ih => intro us h; cases us with
        | nil => exact h.elim
        | cons u us => simp [ih h.2]
    have h3 := hlen h2
    have h4 : vs.length ≠ 1 := fun e => by
      rw [e] at h3
      match l, h3 with
      | [s], _ => exact hne s rfl
    exact ⟨.tuple vs.toArray, by have := hrun _ h1; rw [this]; simp [h4], vs, rfl, h2⟩
  · cases e
theorem SC.ok_closed {x : SC} (hc : x.refs = []) {v : Value} (h : x.ok g hs v) : x.ok g hs0 v := SC.ok_hs (fun i hi => by rw [hc] at hi; cases hi) h
theorem SC.ok_closed' {x : SC} (hc : x.refs = []) {v : Value} (h : x.ok g hs0 v) : x.ok g hs v := SC.ok_hs (fun i hi => by rw [hc] at hi; cases hi) h
theorem En.back {β : Type} {post : β → Prop} {out : β → SC} {rs : Array ResultVar} (ht : tab.ok) (r : β) (hp : post r) (e : evR tab S rs = some (out r)) (hc : (out r).refs = []) : En c S (RetA c rs post out) := fun a w ⟨g, hs, h⟩ => by
  obtain ⟨v, h1, h2⟩ := evR_ok ht h e
  exact ⟨h.defers, v, g, r, h1, hp, SC.ok_closed hc h2, h.base⟩
def evXs (F : List (Nat × SC)) : List Operand → Option (List SC)
  | [] => some []
  | o :: l => match evX F o with
    | some x => match evXs F l with
      | some xs => some (x :: xs)
      | none => none
    | none => none
theorem evXs_ok (h : Ok' c S a w g hs) : ∀ {l : List Operand} {xs : List SC}, evXs S.F l = some xs → okArgs g hs xs (l.map a.eval)
  | [], xs, e => by cases e; trivial
  | o :: l, xs, e => by
    unfold evXs at e
    split at e
    case h_2 => cases e
    rename_i x hx
    split at e
    case h_2 => cases e
    rename_i xs' hxs
    cases e
    exact ⟨evX_ok h hx, evXs_ok h hxs⟩
theorem okArgs_append {l l' : List SC} {us us' : List Value} : okArgs g hs l us → okArgs g hs l' us' → okArgs g hs (l ++ l') (us ++ us') := by
  induction l generalizing us with
  | nil => intro h h'; cases us with
    | nil => exact h'
    | cons _ _ => exact h.elim
  | cons x l ih => intro h h'; cases us with
    | nil => exact h.elim
    | cons u us => exact ⟨h.1, ih h.2 h'⟩
theorem okArgs_ren {f : Nat → Nat} : ∀ {l : List SC} {us : List Value}, okArgs g hs (l.map (SC.ren f)) us → okArgs g (fun i => hs (f i)) l us
  | [], [], _ => trivial
  | [], _ :: _, h => h.elim
  | _ :: _, [], h => h.elim
  | _ :: _, _ :: _, h => ⟨SC.ok_ren h.1, okArgs_ren h.2⟩
theorem Base.trans {w w' : World} {g g' : Gh} (h : Base c w g) (h' : Base (cfg0 n w g) w' g') : Base c w' g' := by
  refine ⟨h'.os.trans h.os, h'.tape.trans h.tape, h'.output.trans h.output, Nat.le_trans h.grows h'.grows, fun b hb hm => (h'.frame b (Nat.lt_of_lt_of_le hb h.grows) (fun h => h)).trans (h.frame b hb hm), h.ghle.trans h'.ghle, fun b o e => ?_, h'.pers⟩
  rcases h'.ghnew b o e with h1 | h1 | h1
  · exact h.ghnew b o h1
  · exact h1.elim
  · exact .inr (.inr (Nat.le_trans h.grows h1))
theorem Ok'.called (h : Ok' c S a w g hs) {w' : World} {g' : Gh} (hb : Base (cfg0 n w g) w' g') : Ok' c S a w' g' hs := by
  refine ⟨h.size, h.defers, h.base.trans hb, fun t x hx => SC.mono hb.ghle (h.slots t x hx), fun i it hi => ?_, h.sep, fun i it hi hn b hb1 => ?_⟩
  · by_cases hn : it = .gone
    · subst hn; trivial
    · have hk : it.ok g hs w' (hs i) := Item.kept (k := none) ⟨hb.os, hb.tape, hb.output, hb.grows, fun k hk _ => hb.frame k hk (fun h => h)⟩ (h := h.items i it hi) fun b hb => ⟨(h.mine i it hi hn b hb).1, by simp⟩
      cases it with
      | box cells ty fz =>
        obtain ⟨b, cs, h1, h2, h3, h4⟩ := hk
        exact ⟨b, cs, h1, oks_mono hb.ghle h2, h3, fun h => hb.ghle _ _ (h4 h)⟩
      | row ty s r n =>
        obtain ⟨cs, h1, h2⟩ := hk
        exact ⟨cs, h1, r.mono _ _ _ hb.ghle h2⟩
      | map r =>
        obtain ⟨m, es, clock, h1, h2, h3⟩ := hk
        exact ⟨m, es, clock, h1, h2, r.mono _ _ _ hb.ghle h3⟩
      | iter _ _ => exact hk
      | siter _ _ => exact hk
      | ext X => exact X.mono _ _ _ _ hb.ghle hk
      | grid tyo ty s rows link =>
        obtain ⟨us, ocs, h1, h2, h3, h3', h4, h4', hlk, h5⟩ := hk
        exact ⟨us, ocs, h1, h2, h3, h3', fun p r n hp => by
          obtain ⟨h0, cs, h6, h7⟩ := h4 p r n hp
          exact ⟨h0, cs, h6, r.mono _ _ _ hb.ghle h7⟩, h4', hlk, h5⟩
      | gone => trivial
  · obtain ⟨h1, h2⟩ := h.mine i it hi hn b hb1
    refine ⟨Nat.lt_of_lt_of_le h1 hb.grows, fun hf => ⟨(h2 hf).1, ?_⟩⟩
    cases hgb : g' b with
    | none => rfl
    | some o =>
      rcases hb.ghnew b o hgb with h3 | h3 | h3
      · have h4 := (h2 hf).2
        have h5 : g b = some o := h3
        rw [h4] at h5
        cases h5
      · exact h3.elim
      · have h5 : w.heap.size ≤ b := h3
        omega
def fzIn (M : List Item) (f : Nat → Nat) (M' : List Item) : Prop := ∀ (i : Nat) (it : Item), M'[i]? = some it → M[f i]? = some (it.ren f) ∧ (it.ren f).fz = true ∧ (match it with | .box _ _ _ => True | _ => False)
def fzE (M : List Item) (f : Nat → Nat) : Nat → List Item → List (Option Item)
  | _, [] => []
  | k, _ :: l => M[f k]? :: fzE M f (k + 1) l
def fzB : Item → Bool
  | .box _ _ fz => fz
  | _ => false
theorem fzE_ok {M : List Item} {f : Nat → Nat} : ∀ {M' : List Item} {k : Nat}, fzE M f k M' = (M'.map fun it => some (it.ren f)) → ∀ (i : Nat) (it : Item), M'[i]? = some it → M[f (k + i)]? = some (it.ren f)
  | [], _, _, i, it, h => by simp at h
  | x :: l, k, e, 0, it, h => by
    simp at h
    subst h
    simp only [fzE, List.map_cons, List.cons.injEq] at e
    exact e.1
  | x :: l, k, e, i + 1, it, h => by
    simp only [fzE, List.map_cons, List.cons.injEq] at e
    have := fzE_ok e.2 i it (by simpa using h)
    rw [show k + (i + 1) = k + 1 + i by omega]
    exact this
theorem fz_of {it : Item} {f : Nat → Nat} {i : Nat} (hi : S.M[f i]? = some (it.ren f)) (hz : fzB it = true) (h : Ok' c S a w g hs) : fzOk g (fun i => hs (f i)) (hs (f i)) it := by
  cases it with
  | box cells ty fz =>
    have hz : fz = true := hz
    subst hz
    obtain ⟨b, cs, h1, h2, h3, h4⟩ := h.items _ _ hi
    exact ⟨b, cs, h1, oks_ren h2, h4 rfl⟩
  | _ => cases hz
def boxB (S : St) (i : Nat) : Bool := match S.M[i]? with
  | some (.box _ _ _) => true
  | _ => false
theorem call_step {β : Type} {f : Nat} {ins : List SC} {M : List Item} {post : β → Prop} {out : β → SC} (ct : Ct f ins M post out) (en : ∀ args w, (callFunc f args).run Tryz.prog w = .ok (.enter f args) w) {caps : List Nat} (rn : List Nat) {ops : Array Oper} {o : Oper} {fo : Operand} {args : Array Operand} {ats : Array TypeId} {N : Po} {rest : List Oper}
    (hn : c.n = n) (hw : wantE ops S.F o = some true) (ho : o.op = .call ⟨.value fo, args, ats⟩) (hf : evX S.F fo = some (.sv (.one (.fn f caps)))) (ha : (match evXs S.F args.toList with | some l => some (l ++ caps.map fun i => .sv (.one (.ptr i 0))) | none => none) = some (ins.map (SC.ren fun i => rn.getD i 0)))
    (hM : fzE S.M (fun i => rn.getD i 0) 0 M = M.map fun it => some (it.ren fun i => rn.getD i 0)) (hz : M.all fzB = true) (hd : (match o.dst with | some d => Nat.blt d n | none => true) = true) (hcl : ∀ r, (out r).refs = []) (hcb : caps.all (boxB S) = true)
    (h : Ok' c S a w g hs) (hk : ∀ r, post r → ∀ a' w', Ok c (S.put o.dst (out r)) a' w' → wpList Tryz.prog ops (OnlyP c N) rest a' w') : wpList Tryz.prog ops (OnlyP c N) (o :: rest) a w := by
  unfold wpList
  rw [if_pos (wantE_ok h hw)]
  refine .inl ?_
  unfold Oper.wp
  have hfv : a.eval fo = .func (.func f) #[] (caps.map hs).toArray := (evX_ok h hf).1
  split at ha
  case h_2 => cases ha
  rename_i l hl
  simp only [Option.some.injEq] at ha
  have h1 := evXs_ok h hl
  have hlb : evXs S.F args.toList = some l := hl
  have hcp : ∀ i ∈ caps, ∃ b, hs i = .pointer (some ⟨b, 0, none⟩) := fun i hi => by
    have := List.all_eq_true.1 hcb i hi
    unfold boxB at this
    cases hm : S.M[i]? with
    | none => rw [hm] at this; cases this
    | some it =>
      rw [hm] at this
      cases it <;> try (cases this; done)
      obtain ⟨b, cs, h1, _⟩ := h.items i _ hm
      exact ⟨b, h1⟩
  · have h2 : okArgs g hs (caps.map fun i => SC.sv (.one (.ptr i 0))) (caps.map hs) := by
      clear ha hf hfv hcb
      induction caps with
      | nil => trivial
      | cons i caps ih =>
        refine ⟨?_, ih (fun j hj => hcp j (List.mem_cons_of_mem _ hj))⟩
        obtain ⟨b, hb⟩ := hcp i (by simp)
        exact ⟨⟨b, hb, hb⟩, by rw [hb]; trivial⟩
    have h3 := okArgs_append h1 h2
    rw [ha] at h3
    have h4 := okArgs_ren h3
    have hrun : (execOp a.eval o).run Tryz.prog w = .ok (.enter f ((args.toList.map a.eval) ++ caps.map hs).toArray) w := by
      unfold execOp
      simp only [ho, resolve, hfv, Deferred.ofValue, Sem.run_bind, Sem.run_pure, Result.andThen_ok, invoke]
      rw [show (#[] ++ Array.map a.eval args ++ (List.map hs caps).toArray : Array Value) = (args.toList.map a.eval ++ caps.map hs).toArray by simp]
      exact en _ _
    rw [hrun]
    refine (ct w g (fun i => hs (rn.getD i 0)) _ h.base.pers h4 (fun i it hi => ?_)).mono ?_
    · have h5 := fzE_ok hM i it hi
      rw [Nat.zero_add] at h5
      exact fz_of h5 (List.all_eq_true.1 hz it (List.mem_of_getElem? hi)) h
    · rintro e w' ⟨v, g', r, rfl, h5, h6, h7⟩
      refine hk r h5 _ _ ⟨g', hs, (h.called (n := 0) h7).put (fun d e => ?_) (fun _ _ => SC.ok_closed' (hcl r) h6)⟩
      rw [e] at hd
      rw [hn]
      exact Nat.le_of_ble_eq_true hd
theorem WL.call {β : Type} {f : Nat} {ins : List SC} {M : List Item} {post : β → Prop} {out : β → SC} (ct : Ct f ins M post out) (en : ∀ args w, (callFunc f args).run Tryz.prog w = .ok (.enter f args) w) {caps : List Nat} (rn : List Nat) {ops : Array Oper} {o : Oper} {fo : Operand} {args : Array Operand} {ats : Array TypeId} {N : Po} {rest : List Oper}
    (hn : c.n = n) (hw : wantE ops S.F o = some true) (ho : o.op = .call ⟨.value fo, args, ats⟩) (hf : evX S.F fo = some (.sv (.one (.fn f caps)))) (ha : (match evXs S.F args.toList with | some l => some (l ++ caps.map fun i => .sv (.one (.ptr i 0))) | none => none) = some (ins.map (SC.ren fun i => rn.getD i 0)))
    (hM : fzE S.M (fun i => rn.getD i 0) 0 M = M.map fun it => some (it.ren fun i => rn.getD i 0)) (hz : M.all fzB = true) (hd : (match o.dst with | some d => Nat.blt d n | none => true) = true) (hcl : ∀ r, (out r).refs = []) (hcb : caps.all (boxB S) = true)
    (hk : ∀ r, post r → WL c ops rest (S.put o.dst (out r)) N) : WL c ops (o :: rest) S N := fun a w ⟨g, hs, h⟩ => call_step ct en rn hn hw ho hf ha hM hz hd hcl hcb h hk
end
structure Ty (α : Type) where
  s : Nat
  sv : α → SV
def svR (s : SV) : Rd := ⟨fun g v => s.ok g hs0 v, fun _ _ _ h => SV.mono h⟩
def slRead {α : Type} (T : Ty α) (l : List α) (g : Gh) (v : Value) : Prop :=
  ∃ ao n cap, v = .slice ao n cap ∧ n = l.length ∧ n ≤ cap ∧ cap ≤ maxLen ∧ (ao = none → cap = 0) ∧
    ∀ q a, l[q]? = some a → ∃ b o u, ao = some ⟨b, o, none⟩ ∧ (T.sv a).ok g hs0 u ∧ u.cells.size = T.s ∧ ∀ j c, u.cells[j]? = some c → g.cell ⟨b, o + q * T.s + j, none⟩ = some c
def slR {α : Type} (T : Ty α) (l : List α) : Rd := ⟨slRead T l, fun g g' v h ⟨ao, n, cap, h1, h2, h3, h4, h5, h6⟩ => ⟨ao, n, cap, h1, h2, h3, h4, h5, fun q a hq => by
  obtain ⟨b, o, u, k1, k2, k3, k4⟩ := h6 q a hq
  exact ⟨b, o, u, k1, SV.mono h k2, k3, fun j c hj => Gh.cell_up h (k4 j c hj)⟩⟩⟩
abbrev LS {α : Type} (T : Ty α) (l : List α) : At := .sl (slR T l) l.length
def intT : Ty Int := ⟨1, fun x => .one (I x)⟩
def boolT : Ty Bool := ⟨1, fun x => .one (B x)⟩
def lsT {α : Type} (T : Ty α) : Ty (List α) := ⟨1, fun l => .one (LS T l)⟩
def idx {α : Type} (l : List α) (i : Int) : Option α := if 0 ≤ i then l[i.toNat]? else none
theorem idx_some {α : Type} {l : List α} {i : Int} {a : α} (h : idx l i = some a) : 0 ≤ i ∧ i < l.length ∧ l[i.toNat]? = some a := by
  unfold idx at h
  split at h
  · rename_i h0
    have := (List.getElem?_eq_some_iff.1 h).1
    exact ⟨h0, by omega, h⟩
  · cases h
def Val (c : Cfg) (S : St) (o : Oper) (x : SC) : Prop := ∀ a w g hs, Ok' c S a w g hs → ∃ v, (execOp a.eval o).run Tryz.prog w = .ok (.value v) w ∧ x.ok g hs v
section
variable {c : Cfg} {S S' : St} {a : Act} {w : World} {g : Gh} {hs : Nat → Value} {tab : Tab} {n : Nat} {o : Oper} {ops : Array Oper} {rest : List Oper} {N : Po}
theorem WL.val {x : SC} (hn : c.n = n) (hw : wantE ops S.F o = some true) (hv : Val c S o x) (e : putE n o.dst x S = some S') (h : WL c ops rest S' N) : WL c ops (o :: rest) S N := fun a w ⟨g, hs, hk⟩ => by
  unfold wpList
  rw [if_pos (wantE_ok hk hw)]
  refine .inl ?_
  unfold Oper.wp
  obtain ⟨v, h1, h2⟩ := hv a w g hs hk
  rw [h1]
  exact h _ _ ⟨g, hs, putE_ok hk hn h2 e⟩
theorem svs_add (b o k : Nat) : (⟨b, o, none⟩ : Addr).add k = ⟨b, o + k, none⟩ := Addr.add_lit _ _ _
theorem val_index {α : Type} {T : Ty α} {l : List α} {i : Int} {y : α} {t el : Nat} {ti te : TI} {x ix : Operand} {k : IntKind} {m : Nat} (ht : tab.ok) (ho : o.op = .indexAddr t x ix) (h1 : tab t = some ti) (h2 : ti.sl = some el) (h3 : tab el = some te) (h4 : te.size = T.s)
    (hx : evX S.F x = some (.sv (.one (.sl (slR T l) m)))) (hi : evK S.F ix = some (.int k i)) (hy : idx l i = some y) : Val c S o (.sv (.one (.pe (svR (T.sv y)) T.s))) := fun a w g hs h => by
  obtain ⟨h5, h6, h7⟩ := idx_some hy
  have hu := slT_some ((ht t ti h1).sl.trans h2)
  obtain ⟨⟨⟨ao, n', cap, e1, e2, e3, e4, e5, e6⟩, _⟩, _⟩ := evX_ok h hx
  obtain ⟨b, off, u, rfl, k2, k3, k4⟩ := e6 _ _ h7
  refine ⟨.pointer (some ⟨b, off + i.toNat * T.s, none⟩), ?_, ⟨b, _, u, rfl, k2, k3, k4⟩, trivial⟩
  have : (execOp a.eval o) = (do pure (.value (← Instr.indexAt t (a.eval x) (a.eval ix))) : Sem Next) := by unfold execOp; rw [ho]
  rw [this]
  refine run_val ?_
  have hlt : 0 ≤ i ∧ i < (n' : Int) := ⟨h5, by rw [e2]; exact h6⟩
  simp only [Instr.indexAt, evK_ok h hi, asIntOf, e1, Sem.run_bind, Sem.run_pure, Result.andThen_ok, run_underlying hu, if_pos hlt, (ht el te h3).run_size, h4, svs_add]
def svFits (ti : TI) : SV → Bool
  | .agg _ => ti.agg
  | .one .junk => false
  | .one _ => !ti.agg
theorem val_load {s : SV} {sz t : Nat} {ti : TI} {x : Operand} (ht : tab.ok) (ho : o.op = .load t x) (h1 : tab t = some ti) (h2 : ti.size = sz) (h3 : svFits ti s = true) (hx : evX S.F x = some (.sv (.one (.pe (svR s) sz)))) (hc : s.refs = []) : Val c S o (.sv s) := fun a w g hs h => by
  obtain ⟨⟨b, off, u, e1, e2, e3, e4⟩, _⟩ := evX_ok h hx
  have htk := ht t ti h1
  have : (execOp a.eval o) = (do pure (.value (← Instr.loadAt t (a.eval x))) : Sem Next) := by unfold execOp; rw [ho]
  rw [this]
  have e2' : s.ok g hs u := SV.ok_hs (fun i hi => by rw [hc] at hi; cases hi) e2
  refine ⟨u, run_val ?_, e2'⟩
  have hcell : ∀ j v, u.cells.toList[j]? = some v → w.cell? ((⟨b, off, none⟩ : Addr).add j) = some v := fun j v hj => by
    rw [svs_add]
    exact h.base.pers.cell (e4 j v (by simpa using hj))
  simp only [Instr.loadAt, e1, Instr.sureAddr, loadVar, Sem.run_bind, Sem.run_pure, Result.andThen_ok, htk.run_isAgg]
  cases s with
  | agg l =>
    simp only [svFits] at h3
    rw [h3]
    obtain ⟨cs, rfl, _⟩ := e2
    have hl := run_loadCells_list (P := Tryz.prog) w ⟨b, off, none⟩ cs (by simpa [Value.cells] using hcell)
    have e5 : cs.length = ti.size := by rw [h2, ← e3]; simp [Value.cells]
    rw [e5] at hl
    simp [htk.run_size, hl]
  | one x =>
    have h3' : ti.agg = false ∧ cellV u := by
      have h6 := e2.2
      cases x <;> first | exact ⟨by simpa [svFits] using h3, h6⟩ | (simp [svFits] at h3)
    have hcv : u.cells = #[u] := cellV.cells h3'.2
    rw [h3'.1]
    have := hcell 0 u (by rw [hcv]; rfl)
    rw [svs_add, Nat.add_zero] at this
    simp [load, Sem.run, this]
theorem val_field {l : List At} {sz t f fo fs : Nat} {ag : Bool} {ti : TI} {x : Operand} {r : SV} (ht : tab.ok) (ho : o.op = .fieldAddr t x f) (h1 : tab t = some ti) (h2 : ti.st = true) (h3 : ti.offs[f]? = some (fo, fs + 1, ag)) (h4 : partE l fo (fs + 1) ag = some r)
    (hx : evX S.F x = some (.sv (.one (.pe (svR (.agg l)) sz)))) (h6 : (svCells r).length = fs + 1) : Val c S o (.sv (.one (.pe (svR r) (fs + 1)))) := fun a w g hs h => by
  obtain ⟨⟨b, off, u, e1, ⟨cs, rfl, e2⟩, e3, e4⟩, _⟩ := evX_ok h hx
  obtain ⟨fss, fx, k1, k2, k3, k4, k5⟩ := (ht t ti h1).field h2 h3
  have : (execOp a.eval o) = (do pure (.value (← Instr.fieldAt t (a.eval x) f)) : Sem Next) := by unfold execOp; rw [ho]
  rw [this]
  have key : ∃ v : Value, r.ok g hs0 v ∧ v.cells.size = fs + 1 ∧ ∀ j c, v.cells[j]? = some c → cs[fo + j]? = some c := by
    cases ag with
    | true =>
      simp only [partE] at h4
      split at h4
      · rename_i hb
        cases h4
        have ho := oks_take (fs + 1) (oks_drop fo e2)
        have hl := oks_length ho
        refine ⟨.agg ((cs.drop fo).take (fs + 1)).toArray, ⟨_, rfl, ho⟩, by simp only [Value.cells, List.size_toArray]; rw [← hl]; exact h6, fun j c hj => ?_⟩
        simp only [Value.cells, List.getElem?_toArray, List.getElem?_take] at hj
        split at hj
        · rwa [List.getElem?_drop] at hj
        · cases hj
      · cases h4
    | false =>
      simp only [partE] at h4
      split at h4
      · rename_i y hy
        cases h4
        obtain ⟨v, hv, h7, h8⟩ := oks_get e2 hy
        have h9 : fs + 1 = 1 := by simpa [svCells] using h6.symm
        refine ⟨v, h7, by rw [cellV.cells h8, h9]; rfl, fun j c hj => ?_⟩
        rw [cellV.cells h8] at hj
        cases j with
        | zero => simp at hj; subst hj; exact hv
        | succ j => simp at hj
      · cases h4
  obtain ⟨v, v1, v2, v3⟩ := key
  refine ⟨.pointer (some ⟨b, off + fo, none⟩), run_val ?_, ⟨b, off + fo, v, rfl, v1, v2, fun j c hj => ?_⟩, trivial⟩
  · simp only [Instr.fieldAt, Sem.run_bind, run_underlying k1, Result.andThen_ok, k2, e1, Instr.sureAddr, Sem.run_pure, fieldPlace, run_sizeOf_of k4]
    simp [k3, Addr.add_lit]
  · rw [Nat.add_assoc]
    exact e4 (fo + j) c (by simpa [Value.cells] using v3 j c hj)
end
def subE (S' S1 : St) : List (Option SC) × List (Option Item) := (S'.F.map fun e => look e.1 S1.F, (dropM S'.M S1.M).2)
def subX (S' : St) : List (Option SC) × List (Option Item) := (S'.F.map fun e => some e.2, (dropM S'.M S'.M).1)
theorem dropM_fst : ∀ (M' A C : List Item), (dropM M' A).1 = (dropM M' C).1
  | [], _, _ => rfl
  | x :: l, A, C => by
    have ih := dropM_fst l (A.drop 1) (C.drop 1)
    cases x <;> simp only [dropM, ih]
section
variable {c : Cfg} {S S1 : St} {a : Act} {w : World} {g : Gh} {hs : Nat → Value} {tab : Tab} {n : Nat} {o : Oper} {ops : Array Oper} {rest L : List Oper} {N : Po}
theorem sub_ok {S' : St} (e : subE S' S1 = subX S') : ∀ a w, Ok c S1 a w → Ok c S' a w := by
  have e1 := congrArg Prod.fst e
  have e2 := congrArg Prod.snd e
  refine Ok.sub e1 ?_
  rw [dropM_fst S'.M S1.M S'.M]
  exact e2.symm
theorem En.sub' (S' : St) (e : subE S' S = subX S') (h : En c S' N) : En c S N := fun a w hk => h a w (sub_ok e a w hk)
theorem En.at {σ : Type} {I : σ → Prop} {T : σ → St} (s : σ) (h : I s) (e : subE (T s) S = subX (T s)) : En c S (fun a w => ∃ s, I s ∧ Ok c (T s) a w) := fun a w hk => ⟨s, h, sub_ok e a w hk⟩
theorem map_some {α β : Type} {x : Option α} {f : α → β} {y : β} (e : x.map f = some y) : ∃ z, x = some z ∧ f z = y := by
  cases x with
  | none => cases e
  | some z => exact ⟨z, rfl, Option.some.inj e⟩
theorem WL.run (ht : tab.ok) (hn : c.n = n) (k : Nat) (S' : St) (e : (evL tab n ops (L.take k) S).map (subE S') = some (subX S')) (h : WL c ops (L.drop k) S' N) : WL c ops L S N := by
  obtain ⟨S2, e1, e2⟩ := map_some e
  exact WL.ev ht hn k S2 e1 (fun a w hk => h a w (sub_ok e2 a w hk))
theorem WL.sub (S' : St) (e : subE S' S = subX S') (h : WL c ops L S' N) : WL c ops L S N := fun a w hk => h a w (sub_ok e a w hk)
theorem B_inj {b b' : Bool} {v : Value} (h : v = .bool b) (e : b = b') : v = .bool b' := by rw [h, e]
theorem setB_ok (t : Nat) {b b' : Bool} (hl : look t S.F = some (.sv (.one (.v (.bool b))))) (e : b = b') : Ok' c S a w g hs → Ok' c ⟨(t, .sv (.one (.v (.bool b')))) :: S.F, S.M⟩ a w g hs := fun h => by
  subst e
  refine ⟨h.size, h.defers, h.base, fun t' x hx => ?_, h.items, h.sep, h.mine⟩
  rcases List.mem_cons.1 hx with hx | hx
  · cases hx
    exact h.slots t _ (look_mem hl)
  · exact h.slots t' x hx
theorem WL.setB (t : Nat) {b b' : Bool} (e : b = b') (hl : look t S.F = some (.sv (.one (.v (.bool b))))) (h : WL c ops L ⟨(t, .sv (.one (.v (.bool b')))) :: S.F, S.M⟩ N) : WL c ops L S N := fun a w ⟨g, hs, hk⟩ => h a w ⟨g, hs, setB_ok t hl e hk⟩
theorem En.setB (t : Nat) {b b' : Bool} (e : b = b') (hl : look t S.F = some (.sv (.one (.v (.bool b))))) (h : En c ⟨(t, .sv (.one (.v (.bool b')))) :: S.F, S.M⟩ N) : En c S N := fun a w ⟨g, hs, hk⟩ => h a w ⟨g, hs, setB_ok t hl e hk⟩
theorem splitB {p : Prop} (b : Bool) (h1 : b = true → p) (h2 : b = false → p) : p := by
  cases b
  · exact h2 rfl
  · exact h1 rfl
def SL (c : Cfg) (ops : Array Oper) (L : List Oper) (S : St) (K : St → Prop) : Prop := ∀ a w g hs, Ok' c S a w g hs → ∃ S' aE, K S' ∧ Ok' c S' aE w g hs ∧ ∀ N : Po, N aE w → wpList Tryz.prog ops (RM.Only N) L a w
variable {K : St → Prop}
theorem SL.nil (h : K S) : SL c ops [] S K := fun a w _ _ hk => ⟨S, a, h, hk, fun _ hN => hN⟩
theorem SL.val {x : SC} (hn : c.n = n) (hw : wantE ops S.F o = some true) (hv : Val c S o x) (e : putE n o.dst x S = some S1) (h : SL c ops rest S1 K) : SL c ops (o :: rest) S K := fun a w g hs hk => by
  obtain ⟨v, h1, h2⟩ := hv a w g hs hk
  obtain ⟨S', aE, h3, h4, h5⟩ := h _ w g hs (putE_ok hk hn h2 e)
  refine ⟨S', aE, h3, h4, fun N hN => ?_⟩
  unfold wpList
  rw [if_pos (wantE_ok hk hw)]
  refine .inl ?_
  unfold Oper.wp
  rw [h1]
  exact h5 N hN
def es1 (tab : Tab) (n : Nat) (ops : Array Oper) (S : St) (o : Oper) : Option St := match wantE ops S.F o with
  | some true => match evV tab S o with
    | some x => putE n o.dst x S
    | none => none
  | some false => putE n o.dst (.tup []) S
  | none => none
def esL (tab : Tab) (n : Nat) (ops : Array Oper) : List Oper → St → Option St
  | [], S => some S
  | o :: l, S => match es1 tab n ops S o with
    | some S' => esL tab n ops l S'
    | none => none
theorem SL.one (ht : tab.ok) (hn : c.n = n) (e : es1 tab n ops S o = some S1) (h : SL c ops rest S1 K) : SL c ops (o :: rest) S K := by
  unfold es1 at e
  split at e
  · rename_i hw
    split at e
    · rename_i x hx
      exact SL.val hn hw (fun a w g hs hk => evV_ok ht hk hx) e h
    · cases e
  · rename_i hw
    intro a w g hs hk
    obtain ⟨S', aE, h3, h4, h5⟩ := h _ w g hs (putE_ok hk hn undef_ok e)
    refine ⟨S', aE, h3, h4, fun N hN => ?_⟩
    unfold wpList
    rw [if_neg (by rw [wantE_ok hk hw]; exact Bool.false_ne_true)]
    exact h5 N hN
  · cases e
theorem SL.steps (ht : tab.ok) (hn : c.n = n) : ∀ (l : List Oper) {S : St}, esL tab n ops l S = some S1 → SL c ops rest S1 K → SL c ops (l ++ rest) S K
  | [], S, e, h => by cases e; exact h
  | o :: l, S, e, h => by
    unfold esL at e
    split at e
    · rename_i S2 h2
      exact SL.one ht hn h2 (SL.steps ht hn l e h)
    · cases e
theorem SL.weaken {S' : St} (hsub : ∀ a w g hs, Ok' c S a w g hs → Ok' c S' a w g hs) (h : SL c ops L S' K) : SL c ops L S K := fun a w g hs hk => h a w g hs (hsub a w g hs hk)
theorem sub_ok' {S' : St} (e : subE S' S1 = subX S') : ∀ a w g hs, Ok' c S1 a w g hs → Ok' c S' a w g hs := by
  intro a w g hs h
  have hF := congrArg Prod.fst e
  have hM0 := congrArg Prod.snd e
  have hM := dropM_ok (M := S1.M) (M' := S'.M) (by rw [dropM_fst S'.M S1.M S'.M]; exact hM0.symm)
  have hm : ∀ (i : Nat) (it : Item), S'.M[i]? = some it → it ≠ .gone → S1.M[i]? = some it := fun i it hi hn => (hM i it hi).resolve_left hn
  refine ⟨h.size, h.defers, h.base, fun t x hx => ?_, fun i it hi => ?_, fun i j it jt hij hi hj hfi hnj => h.sep i j it jt hij (hm i it hi (fz_gone hfi)) (hm j jt hj hnj) hfi hnj, fun i it hi hni => h.mine i it (hm i it hi hni) hni⟩
  · obtain ⟨j, hj⟩ := List.getElem?_of_mem hx
    have := congrArg (·[j]?) hF
    simp [subE, subX, hj] at this
    exact h.slots t x (look_mem this)
  · rcases hM i it hi with rfl | h1
    · trivial
    · exact h.items i it h1
theorem SL.run (ht : tab.ok) (hn : c.n = n) (k : Nat) (S' : St) (e : (esL tab n ops (L.take k) S).map (subE S') = some (subX S')) (h : SL c ops (L.drop k) S' K) : SL c ops L S K := by
  obtain ⟨S2, e1, e2⟩ := map_some e
  have := SL.steps (rest := L.drop k) ht hn (L.take k) e1 (SL.weaken (sub_ok' e2) h)
  rwa [List.take_append_drop] at this
theorem SL.setB (t : Nat) {b b' : Bool} (e : b = b') (hl : look t S.F = some (.sv (.one (.v (.bool b))))) (h : SL c ops L ⟨(t, .sv (.one (.v (.bool b')))) :: S.F, S.M⟩ K) : SL c ops L S K := fun a w g hs hk => h a w g hs (setB_ok t hl e hk)
def sideE (S : St) : Op → Bool
  | .binOp _ _ x y _ => match evK S.F x with
    | some (.int _ _) => match evK S.F y with
      | some (.int _ _) => true
      | _ => false
    | _ => false
  | .load _ x => match evX S.F x with
    | some (.sv (.one (.ptr i off))) => match S.M[i]? with
      | some (.box cells _ _) => Nat.blt off cells.length
      | _ => false
    | some (.sv (.one (.pe _ s))) => Nat.blt 0 s
    | _ => false
  | .nilCheck x => match evX S.F x with
    | some (.sv (.one (.ptr _ _))) => true
    | some (.sv (.one (.pe _ _))) => true
    | _ => false
  | .call c => match c.callee with
    | .builtin .len => match c.args.toList with
      | [x] => match evX S.F x with
        | some (.sv (.one (.sl _ _))) => true
        | some (.sv (.one (.own i))) => match S.M[i]? with
          | some (.row _ _ _ _) => true
          | _ => false
        | some (.sv (.one (.v (.slice _ _ _)))) => true
        | some (.sv (.one (.v (.string _)))) => true
        | _ => false
      | _ => false
    | _ => true
  | _ => true
def sidesE (ops : Array Oper) (S : St) : List Oper → Bool
  | [] => true
  | o :: l => (match wantE ops S.F o with
    | some false => true
    | _ => sideE S o.op) && sidesE ops S l
theorem low_box {b off : Nat} {cells : List At} {cs : List Value} {ty : Nat} {fr : Nat × Nat} (h2 : oks g hs cells cs) (h3 : w.heap[b]? = some (.cells cs.toArray ty fr)) (hlt : off < cells.length) : RM.lowV w.heap.size w (.pointer (some ⟨b, off, none⟩)) := by
  refine ⟨(Array.getElem?_eq_some_iff.1 h3).1, ?_⟩
  rw [cell_box h3]
  rw [oks_length h2] at hlt
  simp [hlt]
theorem sideE_ok (h : Ok' c S a w g hs) {op : Op} (e : sideE S op = true) : RM.side w.heap.size w a.eval op := by
  cases op <;> simp only [RM.side] <;> try trivial
  case binOp bop t x y yt =>
    simp only [sideE] at e
    split at e
    case h_2 => cases e
    rename_i hx
    split at e
    case h_2 => cases e
    rename_i hy
    rw [evK_ok h hx, evK_ok h hy]
    exact ⟨trivial, trivial⟩
  case load t x =>
    simp only [sideE] at e
    split at e
    · rename_i i off hx
      split at e
      case h_2 => cases e
      rename_i cells ty fz hm
      have hlt : off < cells.length := Nat.le_of_ble_eq_true e
      obtain ⟨⟨b, hb, hv⟩, _⟩ := evX_ok h hx
      obtain ⟨b', cs, h1, h2, h3, _⟩ := h.items i _ hm
      rw [hb] at h1
      simp at h1
      subst h1
      rw [hv]
      exact low_box h2 h3 hlt
    · rename_i r s hx
      obtain ⟨⟨b, o, x, hv, _, h3, h4⟩, _⟩ := evX_ok h hx
      have hs0 : 0 < s := Nat.le_of_ble_eq_true e
      have hc := h.base.pers.cell (h4 0 (x.cells[0]'(by omega)) (by simp))
      rw [hv]
      refine ⟨?_, by rw [Nat.add_zero] at hc; rw [hc]; rfl⟩
      have := World.block_lt_of_cell? w _ hc
      exact this
    · cases e
  case nilCheck x =>
    simp only [sideE] at e
    split at e
    · rename_i i off hx
      obtain ⟨⟨b, hb, hv⟩, _⟩ := evX_ok h hx
      rw [hv]; trivial
    · rename_i r s hx
      obtain ⟨⟨b, o, x, hv, _, h3, h4⟩, _⟩ := evX_ok h hx
      rw [hv]; trivial
    · cases e
  case call cl =>
    obtain ⟨callee, args, argTypes⟩ := cl
    cases callee <;> try trivial
    rename_i b
    cases b <;> try trivial
    show ∀ x ∈ args.toList, RM.slV (a.eval x)
    simp only [sideE] at e
    split at e
    case h_2 => cases e
    rename_i x hx
    rw [hx]
    intro y hy
    simp at hy
    subst hy
    split at e
    · rename_i r n hx
      obtain ⟨⟨_, ao, cap, hv⟩, _⟩ := evX_ok h hx
      rw [hv]; trivial
    · rename_i i hx
      split at e
      case h_2 => cases e
      rename_i ty s r n hm
      have hv : a.eval y = hs i := (evX_ok h hx).1
      obtain ⟨cs, ⟨_, h1⟩, _⟩ := h.items i _ hm
      rcases h1 with ⟨h1, _⟩ | ⟨gb, of, cap, cur, h1, _⟩ <;> (rw [hv, h1]; trivial)
    · rename_i ao n cap hx
      have hv : a.eval y = .slice ao n cap := (evX_ok h hx).1
      rw [hv]; trivial
    · rename_i st hx
      have hv : a.eval y = .string st := (evX_ok h hx).1
      rw [hv]; trivial
    · cases e
theorem sidesE_ok (h : Ok' c S a w g hs) : ∀ {l : List Oper}, sidesE ops S l = true → RM.sides w.heap.size w ops a l
  | [], _ => trivial
  | o :: l, e => by
    simp only [sidesE, Bool.and_eq_true] at e
    refine ⟨fun _ hw => ?_, sidesE_ok h e.2⟩
    have e1 := e.1
    split at e1
    · rename_i hh
      rw [wantE_ok h hh] at hw
      cases hw
    · exact sideE_ok h e1
theorem grown_drew (w : World) : w.grownBy w.drew none := ⟨rfl, rfl, rfl, Nat.le_refl _, fun _ _ _ => rfl⟩
theorem En.regionS {id : Nat} {l : List Oper} {E : List (Nat × Po)} {R : Po} (hm : Tryz.prog.follows .mixedOrders = true)
    (hc : (Region.noSelect l.toArray && RM.covers Tryz.prog .any l.toArray (.soft (List.range l.length) .done) l.length (Array.replicate l.length false) none) = true)
    (h : SL c l.toArray l S (fun S' => sidesE l.toArray S' l = true ∧ En c S' N)) : En c S (cwp (.region id l.toArray true) (PQ c N E R)) := fun a w ⟨g, hs, hk⟩ => by
  have hk' : Ok' c S a w.drew g hs := hk.grown (grown_drew w)
  obtain ⟨S', aE, ⟨h1, h2⟩, h3, h4⟩ := h a w.drew g hs hk'
  exact RM.wp_region_soft hm hc (fun K hK => h4 K hK) (sidesE_ok h3 h1) (h2 _ _ ⟨g, hs, h3⟩)
theorem WL.thru (T : St) (h1 : WL c ops L S (Ok c T)) (h2 : En c T N) : WL c ops L S N := by
  have key : ∀ (L : List Oper) a w, wpList Tryz.prog ops (OnlyP c (Ok c T)) L a w → wpList Tryz.prog ops (OnlyP c N) L a w := by
    intro L
    induction L with
    | nil => intro a w h; exact h2 a w h
    | cons o l ih =>
      intro a w h
      unfold wpList at h ⊢
      split
      · rename_i hw
        rw [if_pos hw] at h
        rcases h with h | ⟨_, _, _, hf⟩
        · exact .inl (upon_onlyP (Oper.wp_mono (fun a' w' h' => ih a' w' h') h))
        · exact hf.elim
      · rename_i hw
        rw [if_neg hw] at h
        exact ih _ _ h
  exact fun a w hk => key L a w (h1 a w hk)
theorem SL.thru (T : St) {l : List Oper} (h1 : SL c ops L S (fun S' => sidesE ops S' l = true ∧ ∀ a w, Ok c S' a w → Ok c T a w)) (h2 : En c T N) : SL c ops L S (fun S' => sidesE ops S' l = true ∧ En c S' N) := fun a w g hs hk => by
  obtain ⟨S', aE, ⟨h3, h4⟩, h5, h6⟩ := h1 a w g hs hk
  exact ⟨S', aE, ⟨h3, fun a w hk => h2 a w (h4 a w hk)⟩, h5, h6⟩
end
def IfP (b : Bool) (p q : Prop) : Prop := (b = true → p) ∧ (b = false → q)
theorem ifP_iff {b : Bool} {p q : Prop} : IfP b p q ↔ if b = true then p else q := by cases b <;> simp [IfP]
abbrev wr (n : Int) : Int := IntKind.wrap .i64 n
theorem wr_in {n : Int} (h1 : -9223372036854775808 ≤ n) (h2 : n ≤ 9223372036854775807) : wr n = n := by
  unfold wr IntKind.wrap
  simp only [IntKind.signed, IntKind.bits, Bool.true_and]
  split
  · rename_i h
    simp at h ⊢
    omega
  · rename_i h
    simp at h ⊢
    omega
def intKT (k : IntKind) : Ty Int := ⟨1, fun x => .one (.v (.int k x))⟩
def tabL : List (Nat × TI) → Tab
  | [], _ => none
  | (k, i) :: l, t => match Nat.beq k t with
    | true => some i
    | false => tabL l t
theorem tabL_ok : ∀ {l : List (Nat × TI)}, (∀ x ∈ l, TI.ok x.1 x.2) → Tab.ok (tabL l)
  | [], _ => fun t i h => by cases h
  | (k, j) :: l, hl => fun t i h => by
    have hd : (tabL ((k, j) :: l) t) = match Nat.beq k t with
      | true => some j
      | false => tabL l t := rfl
    rw [hd] at h
    cases hb : Nat.beq k t with
    | true =>
      rw [hb] at h
      cases h
      have := Nat.eq_of_beq_eq_true hb
      subst this
      exact hl (k, j) (by simp)
    | false =>
      rw [hb] at h
      exact tabL_ok (fun x hx => hl x (List.mem_cons_of_mem _ hx)) t i h
theorem Ct.fun {β : Type} {f : Nat} {ins : List SC} {M : List Item} {r : β} {out : β → SC} (h : Ct f ins M (fun x => x = r) out) : Ct f ins M (fun (_ : Unit) => True) (fun _ => out r) := fun w g hs args h1 h2 h3 =>
  (h w g hs args h1 h2 h3).mono fun e w' ⟨v, g', r', e1, e2, e3, e4⟩ => ⟨v, g', (), e1, trivial, by subst e2; exact e3, e4⟩
structure Eff (hs : Nat → Value) (K : List Nat) (w : World) (g : Gh) (w' : World) (g' : Gh) : Prop where
  os : w'.os = w.os
  tape : w'.tape = w.tape
  output : w'.output = w.output
  size : w.heap.size ≤ w'.heap.size
  block : ∀ b, b < w.heap.size → (∀ k ∈ K, ¬ Blk (hs k) b) → w'.heap[b]? = w.heap[b]?
  ghle : Gh.le g g'
  ghnew : ∀ b o, g' b = some o → g b = some o ∨ w.heap.size ≤ b ∨ ∃ k ∈ K, Blk (hs k) b
  pers : Pers g' w'
def setM (M : List Item) (p : Nat) (it : Item) : List Item := if p < M.length then M.set p it else M ++ List.replicate (p - M.length) .gone ++ [it]
def goneM (M : List Item) : List Nat → List Item
  | [] => M
  | k :: K => goneM (M.set k .gone) K
def newM (M : List Item) (K : List Nat) : Option (Nat × Item) → List Item
  | none => goneM M K
  | some (p, it) => setM (goneM M K) p it
def newH (hs : Nat → Value) (p : Option (Nat × Item)) (h' : Value) : Nat → Value := match p with
  | none => hs
  | some (p, _) => fun i => if i = p then h' else hs i
def newOk (hs : Nat → Value) (K : List Nat) (w : World) (w' : World) (g' : Gh) (h' : Value) : Option (Nat × Item) → Prop
  | none => True
  | some (p, it) => it.ok g' (fun i => if i = p then h' else hs i) w' h' ∧ ∀ b, Blk h' b → b < w'.heap.size ∧ (it.fz = false → g' b = none) ∧ (w.heap.size ≤ b ∨ ∃ k ∈ K, Blk (hs k) b)
def MT (c : Cfg) (S : St) (o : Oper) (x : SC) (K : List Nat) (p : Option (Nat × Item)) : Prop :=
  ∀ a w g hs, Ok' c S a w g hs → ∀ N Z : Po, (∀ v w' g' h', Eff hs K w g w' g' → x.ok g' (newH hs p h') v → newOk hs K w w' g' h' p → N (a.put o.dst v) w') → o.wp Tryz.prog a w N (OnlyP c Z)
theorem setM_get {M : List Item} {p : Nat} {it : Item} : ∀ (i : Nat) (jt : Item), (setM M p it)[i]? = some jt → (i = p ∧ jt = it) ∨ (i ≠ p ∧ (M[i]? = some jt ∨ jt = .gone)) := fun i jt h => by
  unfold setM at h
  split at h
  · rw [List.getElem?_set] at h
    by_cases e : p = i
    · rw [if_pos e] at h
      subst e
      rename_i hp
      rw [if_pos hp] at h
      simp at h
      exact .inl ⟨rfl, h.symm⟩
    · rw [if_neg e] at h
      exact .inr ⟨Ne.symm e, .inl h⟩
  · rename_i hlt
    rw [List.getElem?_append, List.getElem?_append] at h
    simp only [List.length_append, List.length_replicate] at h
    split at h
    · rename_i h1
      split at h
      · exact .inr ⟨by omega, .inl h⟩
      · rw [List.getElem?_replicate] at h
        split at h
        · simp at h; exact .inr ⟨by omega, .inr h.symm⟩
        · cases h
    · rename_i h1
      by_cases e : i = p
      · subst e
        rw [show i - (M.length + (i - M.length)) = 0 by omega] at h
        simp at h
        exact .inl ⟨rfl, h.symm⟩
      · rw [List.getElem?_eq_none (by simp; omega)] at h
        cases h
theorem goneM_get : ∀ {K : List Nat} {M : List Item} (i : Nat) (jt : Item), (goneM M K)[i]? = some jt → jt ≠ .gone → i ∉ K ∧ M[i]? = some jt
  | [], M, i, jt, h, _ => ⟨by simp, h⟩
  | k :: K, M, i, jt, h, hn => by
    obtain ⟨h1, h2⟩ := goneM_get (K := K) (M := M.set k .gone) i jt h hn
    rw [List.getElem?_set] at h2
    by_cases e : k = i
    · rw [if_pos e] at h2
      split at h2
      · simp at h2; exact absurd h2.symm hn
      · cases h2
    · rw [if_neg e] at h2
      exact ⟨by simp; exact ⟨Ne.symm e, h1⟩, h2⟩
theorem Item.mono {g g' : Gh} {hs : Nat → Value} {w : World} {x : Value} (hg : Gh.le g g') {it : Item} (h : it.ok g hs w x) : it.ok g' hs w x := by
  cases it with
  | box cells ty fz =>
    obtain ⟨b, cs, h1, h2, h3, h4⟩ := h
    exact ⟨b, cs, h1, oks_mono hg h2, h3, fun h => hg _ _ (h4 h)⟩
  | row ty s r n =>
    obtain ⟨cs, h1, h2⟩ := h
    exact ⟨cs, h1, r.mono _ _ _ hg h2⟩
  | map r =>
    obtain ⟨m, es, clock, h1, h2, h3⟩ := h
    exact ⟨m, es, clock, h1, h2, r.mono _ _ _ hg h3⟩
  | iter _ _ => exact h
  | siter _ _ => exact h
  | ext X => exact X.mono _ _ _ _ hg h
  | grid tyo ty s rows link =>
    obtain ⟨us, ocs, h1, h2, h3, h3', h4, h4', hlk, h5⟩ := h
    exact ⟨us, ocs, h1, h2, h3, h3', fun p r n hp => by
      obtain ⟨h0, cs, h6, h7⟩ := h4 p r n hp
      exact ⟨h0, cs, h6, r.mono _ _ _ hg h7⟩, h4', hlk, h5⟩
  | gone => trivial
theorem Item.same {g g' : Gh} {hs : Nat → Value} {w w' : World} {x : Value} {it : Item} (hg : Gh.le g g') (hb : ∀ b, Blk x b → w'.heap[b]? = w.heap[b]?) (h : it.ok g hs w x) : it.ok g' hs w' x := by
  refine Item.mono hg ?_
  cases it with
  | box cells ty fz =>
    obtain ⟨b, cs, rfl, h2, h3, h4⟩ := h
    exact ⟨b, cs, rfl, h2, (hb b rfl).trans h3, h4⟩
  | row ty s r n =>
    obtain ⟨cs, ⟨h0, h1⟩, h2⟩ := h
    refine ⟨cs, ⟨h0, ?_⟩, h2⟩
    rcases h1 with h1 | ⟨gb, of, cap, cur, rfl, h4, h5⟩
    · exact .inl h1
    · exact .inr ⟨gb, of, cap, cur, rfl, (hb gb rfl).trans h4, h5⟩
  | map r =>
    obtain ⟨m, es, clock, rfl, h1, h3⟩ := h
    exact ⟨m, es, clock, rfl, (hb m rfl).trans h1, h3⟩
  | iter j r =>
    obtain ⟨rb, m, clock, seen, rfl, h2, h3, h4⟩ := h
    exact ⟨rb, m, clock, seen, rfl, h2, (hb rb rfl).trans h3, h4⟩
  | siter s pos =>
    obtain ⟨rb, rfl, h3⟩ := h
    exact ⟨rb, rfl, (hb rb rfl).trans h3⟩
  | grid tyo ty s rows link =>
    obtain ⟨us, ocs, h1, h2, h3, h3', h4, h4', hlk, h5⟩ := h
    exact ⟨us, ocs, h1, h2, World.ownsAt_same h3 (fun b e => hb b (Blk.part h1 (by omega) e)), h3', fun p r n hp => by
      obtain ⟨h0, cs, h6, h7⟩ := h4 p r n hp
      have := (List.getElem?_eq_some_iff.1 hp).1
      exact ⟨h0, cs, World.ownsAt_same h6 (fun b e => hb b (Blk.part h1 (by omega) e)), h7⟩, h4', hlk, h5⟩
  | ext X => exact X.same g _ _ x hb h
  | gone => trivial
section
variable {c : Cfg} {S S1 : St} {a : Act} {w : World} {g : Gh} {hs : Nat → Value} {tab : Tab} {n : Nat} {o : Oper} {ops : Array Oper} {rest : List Oper} {N : Po}
def refsNe (S : St) : Option (Nat × Item) → Bool
  | none => true
  | some (p, _) => S.refsAll (fun i => !(Nat.beq i p))
def usable (S : St) (K : List Nat) : Bool := K.all fun k => match S.M[k]? with
  | some it => !it.fz
  | none => false
theorem Ok'.eff (h : Ok' c S a w g hs) {K : List Nat} {w' : World} {g' : Gh} {h' : Value} {p : Option (Nat × Item)} (he : Eff hs K w g w' g') (hp : newOk hs K w w' g' h' p) (hr : refsNe S p = true) (hu : usable S K = true) : Ok' c ⟨S.F, newM S.M K p⟩ a w' g' (newH hs p h') := by
  have hK : ∀ k ∈ K, ∃ kt, S.M[k]? = some kt ∧ kt.fz = false := fun k hk => by
    have := List.all_eq_true.1 hu k hk
    cases hm : S.M[k]? with
    | none => rw [hm] at this; cases this
    | some kt => rw [hm] at this; exact ⟨kt, rfl, by simpa using this⟩
  have hKm : ∀ k ∈ K, ∀ b, Blk (hs k) b → (c.may b ∨ c.w0.heap.size ≤ b) ∧ g b = none ∧ b < w.heap.size := fun k hk b hb => by
    obtain ⟨kt, h1, h2⟩ := hK k hk
    obtain ⟨h3, h4⟩ := h.mine k kt h1 (fz_gone h2) b hb
    exact ⟨(h4 h2).1, (h4 h2).2, h3⟩
  have hbase : Base c w' g' := by
    refine ⟨he.os.trans h.base.os, he.tape.trans h.base.tape, he.output.trans h.base.output, Nat.le_trans h.base.grows he.size, fun b hb hm => ?_, h.base.ghle.trans he.ghle, fun b o e => ?_, he.pers⟩
    · refine (he.block b (Nat.lt_of_lt_of_le hb h.base.grows) fun k hk e => ?_).trans (h.base.frame b hb hm)
      rcases (hKm k hk b e).1 with h1 | h1
      · exact hm h1
      · omega
    · rcases he.ghnew b o e with h1 | h1 | ⟨k, hk, h1⟩
      · exact h.base.ghnew b o h1
      · exact .inr (.inr (Nat.le_trans h.base.grows h1))
      · rcases (hKm k hk b h1).1 with h2 | h2
        · exact .inr (.inl h2)
        · exact .inr (.inr h2)
  have hH : ∀ i, (∀ q, p = some q → i ≠ q.1) → newH hs p h' i = hs i := fun i hi => by
    cases p with
    | none => rfl
    | some q =>
      obtain ⟨q, it⟩ := q
      show (if i = q then h' else hs i) = hs i
      rw [if_neg (hi _ rfl)]
  have hold : ∀ (i : Nat) (it : Item), (newM S.M K p)[i]? = some it → it ≠ .gone → (∃ q, p = some (i, q) ∧ it = q) ∨ ((∀ q, p = some q → i ≠ q.1) ∧ i ∉ K ∧ S.M[i]? = some it) := fun i it hi hn => by
    cases p with
    | none =>
      obtain ⟨h1, h2⟩ := goneM_get i it hi hn
      exact .inr ⟨fun q e => by (cases e), h1, h2⟩
    | some q =>
      obtain ⟨q, jt⟩ := q
      rcases setM_get i it hi with ⟨rfl, rfl⟩ | ⟨h1, h2⟩
      · exact .inl ⟨it, rfl, rfl⟩
      · rcases h2 with h2 | h2
        · obtain ⟨h3, h4⟩ := goneM_get i it h2 hn
          exact .inr ⟨fun q e => by (cases e; exact h1), h3, h4⟩
        · exact absurd h2 hn
  have hapart : ∀ (i : Nat) (it : Item), S.M[i]? = some it → it ≠ .gone → i ∉ K → ∀ b, Blk (hs i) b → b < w.heap.size ∧ ∀ k ∈ K, ¬ Blk (hs k) b := fun i it hi hn hik b hb => by
    refine ⟨(h.mine i it hi hn b hb).1, fun k hk e => ?_⟩
    obtain ⟨kt, h1, h2⟩ := hK k hk
    exact h.sep k i kt it (fun e => hik (e ▸ hk)) h1 hi h2 hn b e hb
  have hrefs : ∀ q, p = some q → S.refsAll (fun i => !(Nat.beq i q.1)) = true := fun q e => by
    subst e
    obtain ⟨q, it⟩ := q
    exact hr
  have hne : ∀ q, p = some q → ∀ i, (!(Nat.beq i q.1)) = true → i ≠ q.1 := fun q _ i hi e => by
    subst e
    simp at hi
  refine ⟨h.size, h.defers, hbase, fun t x hx => ?_, fun i it hi => ?_, fun i j it jt hij hi hj hfi hnj b hb => ?_, fun i it hi hn b hb => ?_⟩
  · refine SC.mono he.ghle (SC.ok_hs (fun i hi => ?_) (h.slots t x hx))
    refine hH i fun q e => hne q e i ?_
    exact St.refs_F (hrefs q e) hx i hi
  · by_cases hn : it = .gone
    · subst hn; trivial
    · rcases hold i it hi hn with ⟨q, rfl, rfl⟩ | ⟨h1, h2, h3⟩
      · have : newH hs (some (i, it)) h' i = h' := by show (if i = i then h' else hs i) = h'; rw [if_pos rfl]
        rw [this]
        exact hp.1
      · rw [hH i h1]
        refine Item.ok_hs (fun j hj => hH j fun q e => hne q e j (St.refs_M (hrefs q e) h3 j hj)) ?_
        exact Item.same he.ghle (fun b hb => by
          obtain ⟨h4, h5⟩ := hapart i it h3 hn h2 b hb
          exact he.block b h4 h5) (h.items i it h3)
  · have hni := fz_gone hfi
    rcases hold i it hi hni with ⟨q, rfl, rfl⟩ | ⟨h1, h2, h3⟩
    · rcases hold j jt hj hnj with ⟨q2, e2, _⟩ | ⟨k1, k2, k3⟩
      · cases e2
        exact absurd rfl hij
      · rw [hH j k1]
        have e0 : newH hs (some (i, it)) h' i = h' := by show (if i = i then h' else hs i) = h'; rw [if_pos rfl]
        rw [e0] at hb
        intro e
        obtain ⟨x1, x2⟩ := hapart j jt k3 hnj k2 b e
        obtain ⟨_, _, y | ⟨k, hk, y⟩⟩ := hp.2 b hb
        · omega
        · exact x2 k hk y
    · rw [hH i h1] at hb
      rcases hold j jt hj hnj with ⟨q2, rfl, rfl⟩ | ⟨k1, k2, k3⟩
      · have e0 : newH hs (some (j, jt)) h' j = h' := by show (if j = j then h' else hs j) = h'; rw [if_pos rfl]
        rw [e0]
        intro e
        obtain ⟨x1, x2⟩ := hapart i it h3 hni h2 b hb
        obtain ⟨_, _, y | ⟨k, hk, y⟩⟩ := hp.2 b e
        · omega
        · exact x2 k hk y
      · rw [hH j k1]
        exact h.sep i j it jt hij h3 k3 hfi hnj b hb
  · rcases hold i it hi hn with ⟨q, rfl, rfl⟩ | ⟨h1, h2, h3⟩
    · have e0 : newH hs (some (i, it)) h' i = h' := by show (if i = i then h' else hs i) = h'; rw [if_pos rfl]
      rw [e0] at hb
      obtain ⟨x1, x2, x3⟩ := hp.2 b hb
      refine ⟨x1, fun hf => ⟨?_, x2 hf⟩⟩
      rcases x3 with y | ⟨k, hk, y⟩
      · exact .inr (Nat.le_trans h.base.grows y)
      · exact (hKm k hk b y).1
    · rw [hH i h1] at hb
      obtain ⟨x1, x2⟩ := h.mine i it h3 hn b hb
      refine ⟨Nat.lt_of_lt_of_le x1 he.size, fun hf => ⟨(x2 hf).1, ?_⟩⟩
      cases hgb : g' b with
      | none => rfl
      | some o =>
        exfalso
        obtain ⟨y1, y2⟩ := hapart i it h3 hn h2 b hb
        rcases he.ghnew b o hgb with z | z | ⟨k, hk, z⟩
        · rw [(x2 hf).2] at z; cases z
        · omega
        · exact y2 k hk z
theorem WL.mt {S2 : St} {x : SC} {K : List Nat} {p : Option (Nat × Item)} (hn : c.n = n) (hw : wantE ops S.F o = some true) (hm : MT c S o x K p) (h2 : subE S2 S = subX S2) (hr : refsNe S2 p = true) (hu : usable S2 K = true) (e : putE n o.dst x ⟨S2.F, newM S2.M K p⟩ = some S1) (h : WL c ops rest S1 N) : WL c ops (o :: rest) S N := fun a w ⟨g, hs, hk⟩ => by
  unfold wpList
  rw [if_pos (wantE_ok hk hw)]
  refine .inl (hm a w g hs hk _ N fun v w' g' h' h1 h3 h4 => ?_)
  exact h _ _ ⟨g', _, putE_ok ((sub_ok' h2 a w g hs hk).eff h1 h4 hr hu) hn h3 e⟩
end
section
variable {c : Cfg} {S S1 : St} {a : Act} {w : World} {g : Gh} {hs : Nat → Value} {tab : Tab} {n : Nat} {o : Oper} {ops : Array Oper} {rest L : List Oper} {N : Po}
theorem Eff.of_base {w' : World} {g' : Gh} (h : Base (cfg0 n w g) w' g') : Eff hs [] w g w' g' :=
  ⟨h.os, h.tape, h.output, h.grows, fun b hb _ => h.frame b hb (fun h => h), h.ghle, fun b o e => by
    rcases h.ghnew b o e with h1 | h1 | h1
    · exact .inl h1
    · exact h1.elim
    · exact .inr (.inl h1), h.pers⟩
theorem mt_call {f : Nat} {ins : List SC} {M : List Item} {x : SC} (ct : Ct f ins M (fun (_ : Unit) => True) (fun _ => x)) (en : ∀ args w, (callFunc f args).run Tryz.prog w = .ok (.enter f args) w) {caps : List Nat} (rn : List Nat) {fo : Operand} {args : Array Operand} {ats : Array TypeId}
    (ho : o.op = .call ⟨.value fo, args, ats⟩) (hf : evX S.F fo = some (.sv (.one (.fn f caps)))) (ha : (match evXs S.F args.toList with | some l => some (l ++ caps.map fun i => .sv (.one (.ptr i 0))) | none => none) = some (ins.map (SC.ren fun i => rn.getD i 0)))
    (hM : fzE S.M (fun i => rn.getD i 0) 0 M = M.map fun it => some (it.ren fun i => rn.getD i 0)) (hz : M.all fzB = true) (hcl : x.refs = []) (hcb : caps.all (boxB S) = true) : MT c S o x [] none := fun a w g hs h N Z hN => by
  unfold Oper.wp
  have hfv : a.eval fo = .func (.func f) #[] (caps.map hs).toArray := (evX_ok h hf).1
  split at ha
  case h_2 => cases ha
  rename_i l hl
  simp only [Option.some.injEq] at ha
  have h1 := evXs_ok h hl
  have hcp : ∀ i ∈ caps, ∃ b, hs i = .pointer (some ⟨b, 0, none⟩) := fun i hi => by
    have := List.all_eq_true.1 hcb i hi
    unfold boxB at this
    cases hm : S.M[i]? with
    | none => rw [hm] at this; cases this
    | some it =>
      rw [hm] at this
      cases it <;> try (cases this; done)
      obtain ⟨b, cs, h1, _⟩ := h.items i _ hm
      exact ⟨b, h1⟩
  have h2 : okArgs g hs (caps.map fun i => SC.sv (.one (.ptr i 0))) (caps.map hs) := by
    clear ha hf hfv hcb
    induction caps with
    | nil => trivial
    | cons i caps ih =>
      refine ⟨?_, ih (fun j hj => hcp j (List.mem_cons_of_mem _ hj))⟩
      obtain ⟨b, hb⟩ := hcp i (by simp)
      exact ⟨⟨b, hb, hb⟩, by rw [hb]; trivial⟩
  have h3 := okArgs_append h1 h2
  rw [ha] at h3
  have h4 := okArgs_ren h3
  have hrun : (execOp a.eval o).run Tryz.prog w = .ok (.enter f ((args.toList.map a.eval) ++ caps.map hs).toArray) w := by
    unfold execOp
    simp only [ho, resolve, hfv, Deferred.ofValue, Sem.run_bind, Sem.run_pure, Result.andThen_ok, invoke]
    rw [show (#[] ++ Array.map a.eval args ++ (List.map hs caps).toArray : Array Value) = (args.toList.map a.eval ++ caps.map hs).toArray by simp]
    exact en _ _
  rw [hrun]
  refine (ct w g (fun i => hs (rn.getD i 0)) _ h.base.pers h4 (fun i it hi => ?_)).mono ?_
  · have h5 := fzE_ok hM i it hi
    rw [Nat.zero_add] at h5
    exact fz_of h5 (List.all_eq_true.1 hz it (List.mem_of_getElem? hi)) h
  · rintro e w' ⟨v, g', r, rfl, h5, h6, h7⟩
    exact hN v w' g' undef (Eff.of_base h7) (SC.ok_closed' hcl h6) trivial
theorem Ok'.freeze (h : Ok' c S a w g hs) {i ty : Nat} {cells : List At} (hi : S.M[i]? = some (.box cells ty false)) : ∃ g', Ok' c ⟨S.F, S.M.set i (.box cells ty true)⟩ a w g' hs := by
  classical
  obtain ⟨b, cs, h1, h2, h3, _⟩ := h.items i _ hi
  have hb : Blk (hs i) b := by rw [h1]; rfl
  obtain ⟨m1, m2⟩ := h.mine i _ hi (by simp) b hb
  have m3 := m2 rfl
  let g' : Gh := fun x => if x = b then some (.cells cs.toArray ty (0, 0)) else g x
  have hle : Gh.le g g' := fun x o e => by
    show (if x = b then _ else g x) = some o
    by_cases hx : x = b
    · subst hx; rw [m3.2] at e; cases e
    · rw [if_neg hx]; exact e
  have hg'b : g' b = some (.cells cs.toArray ty (0, 0)) := if_pos rfl
  have hg'n : ∀ x, x ≠ b → g' x = g x := fun x hx => if_neg hx
  have hlt : i < S.M.length := (List.getElem?_eq_some_iff.1 hi).1
  have hset : ∀ (j : Nat) (jt : Item), (S.M.set i (.box cells ty true))[j]? = some jt → (j = i ∧ jt = .box cells ty true) ∨ (j ≠ i ∧ S.M[j]? = some jt) := fun j jt hj => by
    rw [List.getElem?_set] at hj
    by_cases e : i = j
    · rw [if_pos e, if_pos hlt] at hj
      simp at hj
      exact .inl ⟨e.symm, hj.symm⟩
    · rw [if_neg e] at hj; exact .inr ⟨Ne.symm e, hj⟩
  refine ⟨g', h.size, h.defers, ⟨h.base.os, h.base.tape, h.base.output, h.base.grows, h.base.frame, h.base.ghle.trans hle, fun x o e => ?_, fun x o e => ?_⟩, fun t x hx => SC.mono hle (h.slots t x hx), fun j jt hj => ?_, fun j k jt kt hjk hj hk hfj hnk x hx => ?_, fun j jt hj hnj x hx => ?_⟩
  · by_cases hx : x = b
    · subst hx
      exact .inr (m3.1)
    · rw [hg'n x hx] at e
      exact h.base.ghnew x o e
  · by_cases hx : x = b
    · subst hx
      rw [hg'b] at e
      cases e
      exact h3
    · rw [hg'n x hx] at e
      exact h.base.pers x o e
  · rcases hset j jt hj with ⟨rfl, rfl⟩ | ⟨hne, hj⟩
    · exact ⟨b, cs, h1, oks_mono hle h2, h3, fun _ => hg'b⟩
    · exact Item.mono hle (h.items j jt hj)
  · rcases hset j jt hj with ⟨rfl, rfl⟩ | ⟨hne, hj'⟩
    · cases hfj
    · rcases hset k kt hk with ⟨rfl, rfl⟩ | ⟨hne2, hk'⟩
      · exact h.sep j k jt _ hjk hj' hi hfj (by simp) x hx
      · exact h.sep j k jt kt hjk hj' hk' hfj hnk x hx
  · rcases hset j jt hj with ⟨rfl, rfl⟩ | ⟨hne, hj⟩
    · exact ⟨(h.mine j _ hi (by simp) x hx).1, fun h => by cases h⟩
    · obtain ⟨y1, y2⟩ := h.mine j jt hj hnj x hx
      refine ⟨y1, fun hf => ⟨(y2 hf).1, ?_⟩⟩
      have hxb : x ≠ b := fun e => by
        subst e
        exact h.sep j i jt _ hne hj hi hf (by simp) x hx hb
      rw [hg'n x hxb]
      exact (y2 hf).2
def fzSet (M : List Item) (i : Nat) : Option (List Item) := match M[i]? with
  | some (.box cells ty false) => some (M.set i (.box cells ty true))
  | _ => none
def fzSets (M : List Item) : List Nat → Option (List Item)
  | [] => some M
  | i :: l => match fzSet M i with
    | some M' => fzSets M' l
    | none => none
theorem freezes : ∀ {l : List Nat} {M M' : List Item} {F : List (Nat × SC)} {g : Gh}, fzSets M l = some M' → Ok' c ⟨F, M⟩ a w g hs → ∃ g', Ok' c ⟨F, M'⟩ a w g' hs
  | [], M, M', F, g, e, h => by cases e; exact ⟨g, h⟩
  | i :: l, M, M', F, g, e, h => by
    unfold fzSets at e
    split at e
    case h_2 => cases e
    rename_i M1 h1
    unfold fzSet at h1
    split at h1
    case h_2 => cases h1
    rename_i cells ty hm
    cases h1
    obtain ⟨g1, h2⟩ := h.freeze (i := i) hm
    exact freezes e h2
theorem WL.freeze (l : List Nat) {M' : List Item} (e : fzSets S.M l = some M') (h : WL c ops L ⟨S.F, M'⟩ N) : WL c ops L S N := fun a w ⟨g, hs, hk⟩ => by
  obtain ⟨g', hk'⟩ := freezes (F := S.F) e hk
  exact h a w ⟨g', hs, hk'⟩
theorem WL.ghost (t : Nat) {x : SC} (x' : SC) (hl : look t S.F = some x) (hx : ∀ a w g hs, Ok' c S a w g hs → ∀ u, x.ok g hs u → x'.ok g hs u) (h : WL c ops L ⟨(t, x') :: S.F, S.M⟩ N) : WL c ops L S N := fun a w ⟨g, hs, hk⟩ => by
  refine h a w ⟨g, hs, hk.size, hk.defers, hk.base, fun t' y hy => ?_, hk.items, hk.sep, hk.mine⟩
  rcases List.mem_cons.1 hy with hy | hy
  · cases hy
    exact hx a w g hs hk _ (hk.slots t x (look_mem hl))
  · exact hk.slots t' y hy
def fvR {α β : Type} (ins : α → List SC) (out : β → SC) (dom : α → Prop) (φ : α → β) : Rd :=
  ⟨fun g v => ∃ f caps, v = .func (.func f) #[] caps ∧ (∀ args w, (callFunc f args).run Tryz.prog w = .ok (.enter f args) w) ∧
    ∀ x, dom x → ∀ w g' args, Gh.le g g' → Pers g' w → okArgs g' hs0 (ins x) args → Calls Tryz.prog f (args ++ caps.toList).toArray w (RetP w g' (fun (_ : Unit) => True) (fun _ => out (φ x))),
   fun g g' v h ⟨f, caps, h1, h2, h3⟩ => ⟨f, caps, h1, h2, fun x hx w g2 args hle => h3 x hx w g2 args (h.trans hle)⟩⟩
def capsSC (k : Nat) : List SC := (List.range k).map fun i => .sv (.one (.ptr i 0))
theorem okArgs_closed {l : List SC} (hc : l.all (fun x => x.refs.isEmpty) = true) {us : List Value} {hs hs' : Nat → Value} (h : okArgs g hs l us) : okArgs g hs' l us := by
  induction l generalizing us with
  | nil => cases us with
    | nil => trivial
    | cons _ _ => exact h.elim
  | cons x l ih => cases us with
    | nil => exact h.elim
    | cons u us =>
      simp only [List.all_cons, Bool.and_eq_true, List.isEmpty_iff] at hc
      exact ⟨SC.ok_hs (fun i hi => by rw [hc.1] at hi; cases hi) h.1, ih hc.2 h.2⟩
theorem fv_of {α β : Type} {ins : α → List SC} {out : β → SC} {dom : α → Prop} {φ : α → β} {f : Nat} {M : List Item} {caps : List Nat} (ct : ∀ x, dom x → Ct f (ins x ++ capsSC M.length) M (fun (_ : Unit) => True) (fun _ => out (φ x)))
    (en : ∀ args w, (callFunc f args).run Tryz.prog w = .ok (.enter f args) w) (hl : caps.length = M.length) (hM : fzE S.M (fun i => caps.getD i 0) 0 M = M.map fun it => some (it.ren fun i => caps.getD i 0)) (hz : M.all fzB = true) (hc : ∀ x, (ins x).all (fun x => x.refs.isEmpty) = true) :
    ∀ a w g hs, Ok' c S a w g hs → ∀ u, SC.ok g hs (.sv (.one (.fn f caps))) u → SC.ok g hs (.sv (.one (.rd (fvR ins out dom φ)))) u := fun a w g hs h u hu => by
  refine ⟨⟨f, (caps.map hs).toArray, hu.1, en, fun x hx w' g' args hle hp ha => ?_⟩, hu.2⟩
  have hz' : ∀ (i : Nat) (it : Item), M[i]? = some it → fzOk g' (fun i => hs (caps.getD i 0)) (hs (caps.getD i 0)) it := fun i it hi => by
    have h5 := fzE_ok hM i it hi
    rw [Nat.zero_add] at h5
    have h6 := fz_of (f := fun i => caps.getD i 0) (i := i) h5 (List.all_eq_true.1 hz it (List.mem_of_getElem? hi)) h
    cases it with
    | box cells ty fz =>
      cases fz
      · exact h6.elim
      · obtain ⟨b, cs, k1, k2, k3⟩ := h6
        exact ⟨b, cs, k1, oks_mono hle k2, hle _ _ k3⟩
    | _ => exact h6.elim
  have hcaps : okArgs g' (fun i => hs (caps.getD i 0)) (capsSC M.length) (caps.map hs) := by
    have key : ∀ (k : Nat) (l : List Nat), (∀ j, j < l.length → l[j]? = caps[k + j]?) → k + l.length ≤ M.length → okArgs g' (fun i => hs (caps.getD i 0)) ((List.range' k l.length).map fun i => .sv (.one (.ptr i 0))) (l.map hs) := by
      intro k l
      induction l generalizing k with
      | nil => intro _ _; trivial
      | cons y l ih =>
        intro hj hk
        simp only [List.length_cons] at hk hj
        have h0 := hj 0 (by omega)
        simp at h0
        have hy : caps.getD k 0 = y := by simp [List.getD, ← h0]
        obtain ⟨it, hit⟩ : ∃ it, M[k]? = some it := ⟨M[k]'(by omega), by simp⟩
        have h7 := hz' k it hit
        refine ⟨?_, ih (k + 1) (fun j hj2 => ?_) (by omega)⟩
        · cases it with
          | box cells ty fz =>
            cases fz
            · exact h7.elim
            · obtain ⟨b, cs, k1, k2, k3⟩ := h7
              rw [hy] at k1
              refine ⟨⟨b, ?_, k1⟩, by rw [k1]; trivial⟩
              show hs (caps.getD k 0) = _
              rw [hy]
              exact k1
          | _ => exact h7.elim
        · have := hj (j + 1) (by omega)
          rw [show k + 1 + j = k + (j + 1) by omega]
          simpa using this
    have := key 0 caps (fun j _ => by simp) (by omega)
    rw [hl] at this
    unfold capsSC
    rw [List.range_eq_range']
    exact this
  have h8 := ct x hx w' g' (fun i => hs (caps.getD i 0)) (args ++ caps.map hs) hp (okArgs_append (okArgs_closed (hc x) ha) hcaps) hz'
  simpa using h8
theorem mt_callv {α β : Type} {ins : α → List SC} {out : β → SC} {dom : α → Prop} {φ : α → β} (x : α) (hd : dom x) {fo : Operand} {args : Array Operand} {ats : Array TypeId}
    (ho : o.op = .call ⟨.value fo, args, ats⟩) (hf : evX S.F fo = some (.sv (.one (.rd (fvR ins out dom φ))))) (ha : evXs S.F args.toList = some (ins x)) (hc : (ins x).all (fun x => x.refs.isEmpty) = true) (hcl : (out (φ x)).refs = []) : MT c S o (out (φ x)) [] none := fun a w g hs h N Z hN => by
  unfold Oper.wp
  obtain ⟨⟨f, caps, h1, en, h2⟩, _⟩ := evX_ok h hf
  have h3 := evXs_ok h ha
  have hrun : (execOp a.eval o).run Tryz.prog w = .ok (.enter f ((args.toList.map a.eval) ++ caps.toList).toArray) w := by
    unfold execOp
    simp only [ho, resolve, h1, Deferred.ofValue, Sem.run_bind, Sem.run_pure, Result.andThen_ok, invoke]
    rw [show (#[] ++ Array.map a.eval args ++ caps : Array Value) = (args.toList.map a.eval ++ caps.toList).toArray by simp]
    exact en _ _
  rw [hrun]
  refine (h2 x hd w g _ (Gh.le.refl g) h.base.pers (okArgs_closed hc h3)).mono ?_
  rintro e w' ⟨v, g', r, rfl, h5, h6, h7⟩
  exact hN v w' g' undef (Eff.of_base h7) (SC.ok_closed' hcl h6) trivial
end
end Go.Proofs.YtijgcihlodofdaaGreatDoor
namespace Go.Proofs.YtijgcihlodofdaaGreatDoor
open Go.RowKit
set_option linter.unusedSimpArgs false
set_option linter.unusedVariables false
set_option maxRecDepth 100000
section
attribute [local irreducible] wpList
theorem list_ex {α : Type} {P : Nat → α → Prop} (n : Nat) : (∀ i, i < n → ∃ a, P i a) → ∃ l : List α, l.length = n ∧ ∀ i a, l[i]? = some a → P i a := by
  induction n with
  | zero => exact fun _ => ⟨[], rfl, fun i a h => by simp at h⟩
  | succ n ih =>
    intro h
    obtain ⟨l, hl, hp⟩ := ih fun i hi => h i (by omega)
    obtain ⟨a, ha⟩ := h n (by omega)
    refine ⟨l ++ [a], by simp [hl], fun i b hb => ?_⟩
    by_cases hi : i < n
    · exact hp i b (by rwa [List.getElem?_append_left (by omega)] at hb)
    · rw [List.getElem?_append_right (by omega)] at hb
      have : i - l.length = 0 := by
        have := (List.getElem?_eq_some_iff.1 hb).1
        simp at this
        omega
      rw [this] at hb
      simp at hb
      subst hb
      rwa [show i = n from by omega]
theorem flat_len {us : List Value} {s : Nat} (hs : ∀ u ∈ us, u.cells.size = s) : (us.flatMap (·.cells.toList)).length = us.length * s := by
  induction us with
  | nil => simp
  | cons u us ih =>
    rw [List.flatMap_cons, List.length_append, ih (fun x hx => hs x (by simp [hx])), List.length_cons, Nat.succ_mul]
    have := hs u (by simp)
    simp [this]
    omega
def Flat {α : Type} (R : World → Value → α → Prop) : Prop := ∀ w u a, R w u a → ∀ c ∈ u.cells.toList, c.oneCell' = true
theorem SliceOf.flat {α : Type} {s : Nat} {R : World → Value → α → Prop} {w : World} {v : Value} {l : List α} (h : SliceOf s R w v l) (hs : 0 < s) (hf : Flat R) :
    ∃ us : List Value, us.length = l.length ∧ (∀ (q : Nat) (u : Value) (a : α), us[q]? = some u → l[q]? = some a → R w u a) ∧ (∀ u ∈ us, u.cells.size = s) ∧ SrcRow w s v l.length (us.flatMap (·.cells.toList)) := by
  obtain ⟨ao, n, cap, rfl, rfl, h1, h2, h3, hr⟩ := h
  obtain ⟨us, hl, hp⟩ := list_ex (P := fun q u => ∀ a, l[q]? = some a → ∃ b o, ao = some ⟨b, o, none⟩ ∧ R w u a ∧ u.cells.size = s ∧ ∀ j c, u.cells[j]? = some c → w.cell? ⟨b, o + q * s + j, none⟩ = some c) l.length (fun q hq => by
    obtain ⟨b, o, u, x1, x2, x3, x4⟩ := hr q l[q] (by simp [hq])
    refine ⟨u, fun a ha => ?_⟩
    simp [hq] at ha
    subst ha
    exact ⟨b, o, x1, x2, x3, x4⟩)
  have hat : ∀ q u, us[q]? = some u → ∃ a, l[q]? = some a := fun q u hu => by
    have := (List.getElem?_eq_some_iff.1 hu).1
    have hq : q < l.length := by omega
    exact ⟨_, List.getElem?_eq_getElem hq⟩
  have hsz : ∀ u ∈ us, u.cells.size = s := fun u hu => by
    obtain ⟨q, hq⟩ := List.mem_iff_getElem?.1 hu
    obtain ⟨a, ha⟩ := hat q u hq
    obtain ⟨_, _, _, _, x, _⟩ := hp q u hq a ha
    exact x
  refine ⟨us, hl, fun q u a hu ha => ?_, hsz, ao, cap, rfl, fun e => ⟨h3 e, by have := h3 e; omega⟩, by rw [flat_len hsz, hl], fun j c hj => ?_, fun c hc => ?_⟩
  · obtain ⟨_, _, _, x, _⟩ := hp q u hu a ha
    exact x
  · have hjl := (List.getElem?_eq_some_iff.1 hj).1
    rw [flat_len hsz, hl] at hjl
    have hq : j / s < l.length := by
      rw [Nat.div_lt_iff_lt_mul hs]
      exact hjl
    have hmod : j % s < s := Nat.mod_lt _ hs
    obtain ⟨u, hu⟩ : ∃ u, us[j / s]? = some u := ⟨_, List.getElem?_eq_getElem (by rw [hl]; exact hq)⟩
    have hus := hsz u (List.mem_of_getElem? hu)
    have hj2 := flat_at (q := j / s) (j := j % s) (c := u.cells[j % s]'(by omega)) hsz hu (by simp [hus, hmod])
    rw [show j / s * s + j % s = j from by rw [Nat.mul_comm]; exact Nat.div_add_mod j s] at hj2
    rw [hj2] at hj
    simp at hj
    obtain ⟨a, ha⟩ := hat _ _ hu
    obtain ⟨b, o, x1, _, _, x4⟩ := hp _ u hu a ha
    refine ⟨b, o, x1, ?_⟩
    have := x4 (j % s) c (by rw [← hj]; simp [hus, hmod])
    rw [Nat.add_assoc, show j / s * s + j % s = j from by rw [Nat.mul_comm]; exact Nat.div_add_mod j s] at this
    exact this
  · obtain ⟨u, hu, hc⟩ := List.mem_flatMap.1 hc
    obtain ⟨q, hq⟩ := List.mem_iff_getElem?.1 hu
    obtain ⟨a, ha⟩ := hat q u hq
    obtain ⟨_, _, _, x, _⟩ := hp q u hq a ha
    exact hf w u a x c hc
theorem SrcRow.up {w w' : World} {s m : Nat} {x : Value} {news : List Value} (h : SrcRow w s x m news) (hb : Below w.heap.size w w') : SrcRow w' s x m news := by
  obtain ⟨ao, c, e1, e2, e3, e4, e5⟩ := h
  refine ⟨ao, c, e1, e2, e3, fun j u hj => ?_, e5⟩
  obtain ⟨b, o, h1, h2⟩ := e4 j u hj
  exact ⟨b, o, h1, cell_up h2 hb⟩
def NewRow {α : Type} (s : Nat) (e : TypeId) (R : World → Value → α → Prop) (w : World) (l : List α) (en : Ending) (w' : World) : Prop :=
  ∃ (v' : Value) (us : List Value), en = .returned v' ∧ w'.ownsRow w.heap.size e s v' l.length (us.flatMap (·.cells.toList)) ∧ us.length = l.length ∧ (∀ (q : Nat) (u : Value) (a : α), us[q]? = some u → l[q]? = some a → R w' u a) ∧ (∀ u ∈ us, u.cells.size = s) ∧ SliceOf s R w' v' l ∧ Below w.heap.size w w'
end
end Go.Proofs.YtijgcihlodofdaaGreatDoor
namespace Go.Proofs.YtijgcihlodofdaaGreatDoor
open Go.RowKit Go.MapKept
set_option linter.unusedSimpArgs false
set_option linter.unusedVariables false
set_option maxRecDepth 100000
def rowRead {α : Type} (T : Ty α) (l : List α) (g : Gh) (cs : List Value) : Prop := ∃ us : List Value, cs = us.flatMap (·.cells.toList) ∧ us.length = l.length ∧ ∀ (q : Nat) (u : Value) (a : α), us[q]? = some u → l[q]? = some a → (T.sv a).ok g hs0 u ∧ u.cells.size = T.s
def rowR {α : Type} (T : Ty α) (l : List α) : Rl (List Value) := ⟨rowRead T l, fun g g' cs h ⟨us, h1, h2, h3⟩ => ⟨us, h1, h2, fun q u a hu ha => ⟨SV.mono h (h3 q u a hu ha).1, (h3 q u a hu ha).2⟩⟩⟩
theorem rowRead.sizes {α : Type} {T : Ty α} {l : List α} {g : Gh} {us : List Value} (h2 : us.length = l.length) (h3 : ∀ (q : Nat) (u : Value) (a : α), us[q]? = some u → l[q]? = some a → (T.sv a).ok g hs0 u ∧ u.cells.size = T.s) : ∀ u ∈ us, u.cells.size = T.s := fun u hu => by
  obtain ⟨q, hq⟩ := List.mem_iff_getElem?.1 hu
  have hlt := (List.getElem?_eq_some_iff.1 hq).1
  exact (h3 q u (l[q]'(by omega)) hq (by simp)).2
theorem rowRead.length {α : Type} {T : Ty α} {l : List α} {g : Gh} {cs : List Value} (h : rowRead T l g cs) : cs.length = l.length * T.s := by
  obtain ⟨us, rfl, h2, h3⟩ := h
  rw [flat_len (rowRead.sizes h2 h3), h2]
theorem rowRead.append {α : Type} {T : Ty α} {l l' : List α} {g : Gh} {cs cs' : List Value} (h : rowRead T l g cs) (h' : rowRead T l' g cs') : rowRead T (l ++ l') g (cs ++ cs') := by
  obtain ⟨us, rfl, h2, h3⟩ := h
  obtain ⟨us', rfl, h2', h3'⟩ := h'
  refine ⟨us ++ us', by simp, by simp [h2, h2'], fun q u a hu ha => ?_⟩
  by_cases hq : q < us.length
  · rw [List.getElem?_append_left hq] at hu
    rw [List.getElem?_append_left (by omega)] at ha
    exact h3 q u a hu ha
  · rw [List.getElem?_append_right (by omega)] at hu
    rw [List.getElem?_append_right (by omega), ← h2] at ha
    exact h3' _ u a hu ha
theorem rowRead.nil {α : Type} {T : Ty α} {g : Gh} : rowRead T [] g [] := ⟨[], rfl, rfl, fun q u a hu => by simp at hu⟩
def Ty.solid {α : Type} (T : Ty α) : Prop := ∀ a, T.sv a ≠ .one .junk
theorem rowRead.cells {α : Type} {T : Ty α} {l : List α} {g : Gh} {cs : List Value} (hT : T.solid) (h : rowRead T l g cs) : ∀ c ∈ cs, cellV c := by
  obtain ⟨us, rfl, h2, h3⟩ := h
  intro c hc
  obtain ⟨u, hu, hc⟩ := List.mem_flatMap.1 hc
  obtain ⟨q, hq⟩ := List.mem_iff_getElem?.1 hu
  have hlt := (List.getElem?_eq_some_iff.1 hq).1
  have := sv_cells (hT _) (h3 q u (l[q]'(by omega)) hq (by simp)).1
  exact oks_cells this c hc
theorem cellV.one {v : Value} (h : cellV v) : v.oneCell' = true := by cases v <;> first | rfl | exact h.elim
theorem src_LS {α : Type} {T : Ty α} {l : List α} {g : Gh} {w : World} {v : Value} (hT : T.solid) (hs : 0 < T.s) (hp : Pers g w) (h : slRead T l g v) : ∃ cs, SrcRow w T.s v l.length cs ∧ rowRead T l g cs := by
  obtain ⟨ao, n, cap, rfl, rfl, h1, h2, h3, hr⟩ := h
  obtain ⟨us, hl, hpp⟩ := list_ex (P := fun q u => ∀ a, l[q]? = some a → ∃ b o, ao = some ⟨b, o, none⟩ ∧ (T.sv a).ok g hs0 u ∧ u.cells.size = T.s ∧ ∀ j c, u.cells[j]? = some c → g.cell ⟨b, o + q * T.s + j, none⟩ = some c) l.length (fun q hq => by
    obtain ⟨b, o, u, x1, x2, x3, x4⟩ := hr q l[q] (by simp [hq])
    refine ⟨u, fun a ha => ?_⟩
    simp [hq] at ha
    subst ha
    exact ⟨b, o, x1, x2, x3, x4⟩)
  have hat : ∀ q u, us[q]? = some u → ∃ a, l[q]? = some a := fun q u hu => by
    have := (List.getElem?_eq_some_iff.1 hu).1
    have hq : q < l.length := by omega
    exact ⟨_, List.getElem?_eq_getElem hq⟩
  have hrow : rowRead T l g (us.flatMap (·.cells.toList)) := ⟨us, rfl, hl, fun q u a hu ha => by
    obtain ⟨_, _, _, x, y, _⟩ := hpp q u hu a ha
    exact ⟨x, y⟩⟩
  have hsz : ∀ u ∈ us, u.cells.size = T.s := fun u hu => by
    obtain ⟨q, hq⟩ := List.mem_iff_getElem?.1 hu
    obtain ⟨a, ha⟩ := hat q u hq
    obtain ⟨_, _, _, _, x, _⟩ := hpp q u hq a ha
    exact x
  refine ⟨us.flatMap (·.cells.toList), ⟨ao, cap, rfl, fun e => ⟨h3 e, by have := h3 e; omega⟩, by rw [flat_len hsz, hl], fun j c hj => ?_, fun c hc => (hrow.cells hT c hc).one⟩, hrow⟩
  have hjl := (List.getElem?_eq_some_iff.1 hj).1
  rw [flat_len hsz, hl] at hjl
  have hq : j / T.s < l.length := by
    rw [Nat.div_lt_iff_lt_mul hs]
    exact hjl
  have hmod : j % T.s < T.s := Nat.mod_lt _ hs
  obtain ⟨u, hu⟩ : ∃ u, us[j / T.s]? = some u := ⟨_, List.getElem?_eq_getElem (by rw [hl]; exact hq)⟩
  have hus := hsz u (List.mem_of_getElem? hu)
  have hj2 := flat_at (q := j / T.s) (j := j % T.s) (c := u.cells[j % T.s]'(by omega)) hsz hu (by simp [hus, hmod])
  rw [show j / T.s * T.s + j % T.s = j from by rw [Nat.mul_comm]; exact Nat.div_add_mod j T.s] at hj2
  rw [hj2] at hj
  simp at hj
  obtain ⟨a, ha⟩ := hat _ _ hu
  obtain ⟨b, o, x1, _, _, x4⟩ := hpp _ u hu a ha
  refine ⟨b, o, x1, ?_⟩
  have := x4 (j % T.s) c (by rw [← hj]; simp [hus, hmod])
  rw [Nat.add_assoc, show j / T.s * T.s + j % T.s = j from by rw [Nat.mul_comm]; exact Nat.div_add_mod j T.s] at this
  exact hp.cell this
def cellsOf {α : Type} (T : Ty α) (es : List α) : List At := es.flatMap fun a => svCells (T.sv a)
theorem sv_of_cells {g : Gh} {s : SV} {cs : List Value} (h : oks g hs0 (svCells s) cs) : ∃ u : Value, u.cells.toList = cs ∧ s.ok g hs0 u := by
  cases s with
  | one a =>
    match cs, h with
    | [u], h => exact ⟨u, by rw [cellV.cells h.2.1], h.1⟩
  | agg l => exact ⟨.agg cs.toArray, by simp [Value.cells], cs, rfl, h⟩
theorem rowRead.of_oks {α : Type} {T : Ty α} {g : Gh} {hs : Nat → Value} (hT : T.solid) (hz : ∀ a, (svCells (T.sv a)).length = T.s) (hc : ∀ a, (T.sv a).refs = []) : ∀ {es : List α} {cs : List Value}, oks g hs (cellsOf T es) cs → rowRead T es g cs
  | [], cs, h => by
    cases cs with
    | nil => exact rowRead.nil
    | cons _ _ => exact h.elim
  | e :: es, cs, h => by
    have h1 := oks_take (svCells (T.sv e)).length h
    have h2 := oks_drop (svCells (T.sv e)).length h
    have e0 : cellsOf T (e :: es) = svCells (T.sv e) ++ cellsOf T es := by simp [cellsOf]
    rw [e0, List.take_left] at h1
    rw [e0, List.drop_left] at h2
    have ih := rowRead.of_oks hT hz hc h2
    have hclosed : oks g hs0 (svCells (T.sv e)) (cs.take (svCells (T.sv e)).length) := oks_hs (fun i hi => by
      have h3 := hc e
      cases hsv : T.sv e with
      | one a => rw [hsv] at hi h3; simp [svCells] at hi; simp only [SV.refs] at h3; rw [h3] at hi; cases hi
      | agg l => rw [hsv] at hi h3; simp only [svCells] at hi; simp only [SV.refs] at h3; rw [h3] at hi; cases hi) h1
    obtain ⟨u, hu, hok⟩ := sv_of_cells hclosed
    have hlen := oks_length hclosed
    have hone : rowRead T [e] g (cs.take (svCells (T.sv e)).length) := ⟨[u], by simp [hu], rfl, fun q u' a' hu' ha => by
      cases q with
      | zero =>
        simp at hu' ha
        subst hu' ha
        refine ⟨hok, ?_⟩
        rw [← Array.length_toList, hu, ← hlen]
        exact hz _
      | succ q => simp at hu'⟩
    have := hone.append ih
    simpa using this
abbrev rowI {α : Type} (ty : Nat) (T : Ty α) (l : List α) : Item := .row ty T.s (rowR T l) l.length
theorem TI.ok.parts {t : Nat} {i : TI} (h : TI.ok t i) : ∃ x z, Tryz.prog.info? t = some x ∧ x.zero = some z ∧ x.size = i.size ∧ x.bytes = i.bytes ∧ z.cells.toList = i.zero := by
  have h1 := h.info
  cases hx : Tryz.prog.info? t with
  | none => rw [hx] at h1; simp at h1
  | some x =>
    rw [hx] at h1
    simp at h1
    obtain ⟨e1, ⟨z, hz, hz2⟩, e3⟩ := h1
    exact ⟨x, z, rfl, hz, e1, e3, hz2⟩
theorem Blk_slice {v : Value} {b : Nat} (h : ∃ ao n cap, v = .slice ao n cap) : Blk v b ↔ v.ownBlock = some b := by
  obtain ⟨ao, n, cap, rfl⟩ := h
  cases ao <;> exact Iff.rfl
theorem blk_slice {v : Value} (h : ∃ ao n cap, v = .slice ao n cap) : blk v = v.ownBlock := by
  obtain ⟨ao, n, cap, rfl⟩ := h
  cases ao <;> rfl
theorem ownsRow_slice {w : World} {e : TypeId} {s : Nat} {v : Value} {n : Nat} {xs : List Value} (h : w.ownsAt e s v n xs) : ∃ ao m cap, v = .slice ao m cap := by
  rcases h.2 with ⟨rfl, _⟩ | ⟨g, o, cap, cur, rfl, _⟩ <;> exact ⟨_, _, _, rfl⟩
theorem drop_seg {α : Type} (A u : List α) {o K : Nat} (h : o + K ≤ A.length) : (A.take (o + K) ++ u ++ A.drop (o + K + u.length)).drop o = (A.drop o).take K ++ u ++ (A.drop o).drop (K + u.length) := by
  rw [List.append_assoc, List.drop_append_of_le_length (by simp; omega), List.drop_take, List.drop_drop, show o + K - o = K by omega, List.append_assoc, Nat.add_assoc]
theorem seg_front {α : Type} (B u C : List α) {K m : Nat} (hB : B.length = K) (hu : u.length = m) : (B ++ u ++ C).take (K + m) = B ++ u := by
  rw [List.take_append_of_le_length (by simp; omega), List.take_of_length_le (by simp; omega)]
theorem run_append_at2 {w : World} (t ty e : TypeId) (i : TypeInfo) (z : Value) (size bytes : Nat) (ht : Tryz.prog.underlying t = some (.slice e)) (hi : Tryz.prog.info? e = some i) (hz : i.zero = some z)
    (hsize : i.size = size) (hby : i.bytes = bytes) (hzs : z.cells.size = size) (hsz : 0 < size)
    (v : Value) (n : Nat) (xs : List Value) (hown : w.ownsAt e size v n xs)
    (a : Addr) (m c : Nat) (news : List Value) (hl : news.length = m * size) (hnews : ∀ j u, news[j]? = some u → w.cell? (a.add j) = some u) (h1 : ∀ u ∈ news, u.oneCell' = true)
    (h63 : n + m ≤ maxLen) (hbytes : (n + m) * bytes ≤ 140737488355328) :
    ∃ v' w', (Builtin.append_ #[t, t] ty #[v, .slice (some a) m c]).run Tryz.prog w = .ok v' w' ∧ w'.ownsAt e size v' (n + m) (xs ++ news) ∧ w.grownBy w' v.ownBlock ∧ (v'.ownBlock = v.ownBlock ∨ v'.ownBlock = some w.heap.size) := by
  obtain ⟨hx, h2⟩ := hown
  rcases h2 with ⟨rfl, rfl⟩ | ⟨g, o, cap, cur, rfl, hg, hnc, hcm, hcs, htake⟩
  · have hx0 : xs = [] := List.eq_nil_of_length_eq_zero (by simpa using hx)
    subst hx0
    obtain ⟨v', w', r1, r2, r3, _, r5⟩ := run_append_own_at w 0 t ty e i z size bytes ht hi hz hsize hby hzs hsz (.slice none 0 0) 0 [] (World.ownsRow_nil w 0 e size) a m c news hl hnews h1 h63 hbytes (Nat.zero_le _)
    exact ⟨v', w', r1, r2.at, r3, r5⟩
  · subst hsize hby
    have hlen : (xs ++ news).length = (n + m) * i.size := by rw [List.length_append, hx, hl, Nat.add_mul]
    have hnx : n * i.size ≤ cap * i.size := Nat.mul_le_mul_right _ hnc
    by_cases hroom : n + m ≤ cap
    · have hfit : o + n * i.size + news.length ≤ cur.size := by
        have : (n + m) * i.size ≤ cap * i.size := Nat.mul_le_mul_right _ hroom
        rw [Nat.add_mul] at this
        omega
      have hf := run_firstCells_some (P := Tryz.prog) w i.size m a m c news hl hnews
      have hst := run_storeCells_at Tryz.prog g (o + n * i.size) e news 0 cur w hg (by simpa using hfit) h1
      simp only [Nat.add_zero] at hst
      have hr : (Builtin.append_ #[t, t] ty #[.slice (some ⟨g, o, none⟩) n cap, .slice (some a) m c]).run Tryz.prog w = .ok (.slice (some ⟨g, o, none⟩) (n + m) cap) (w.setRow g (cur.toList.take (o + n * i.size) ++ news ++ cur.toList.drop (o + n * i.size + news.length)).toArray) := by
        simp [Builtin.append_, run_underlying ht, sizeOf, typeInfo, hi, Builtin.lenOf, hroom, hf, Addr.add_lit, hst]
      refine ⟨_, _, hr, ⟨hlen, .inr ⟨g, o, cap, _, rfl, setRow_heap w g cur _ e _ hg, hroom, hcm, ?_, ?_⟩⟩, ⟨rfl, rfl, rfl, by simp, fun k _ hk => setRow_other w g k _ (fun e => hk (by simp [Value.ownBlock, e]))⟩, .inl rfl⟩
      · simp only [List.size_toArray, List.length_append, List.length_take, List.length_drop, Array.length_toList]
        omega
      · show (List.drop o (_ ++ news ++ _)).take _ = _
        rw [drop_seg _ _ (by rw [Array.length_toList]; omega), htake, Nat.add_mul, seg_front _ _ _ hx hl]
    · have holds : ∀ j u, xs[j]? = some u → w.cell? ((⟨g, o, none⟩ : Addr).add j) = some u := fun j u hj => by
        rw [Addr.add_lit]
        unfold World.cell?
        rw [hg]
        rw [← htake, List.getElem?_take] at hj
        split at hj
        · rw [List.getElem?_drop] at hj
          simpa using hj
        · cases hj
      have hr := run_append_grow (P := Tryz.prog) w t ty e i z ht hi hz ⟨g, o, none⟩ n cap xs hx holds a m c news hl hnews (by omega) (by simp only [maxLen] at h63; omega) (growslice_fits (by omega) hbytes)
      have hge := grownCap_ge w (n + m) cap e
      have hle := grownCap_le_maxLen w (n + m) cap e h63
      refine ⟨_, _, hr, ⟨hlen, .inr ⟨w.heap.size, 0, _, _, rfl, heap_alloc_new w.drew _, hge, hle, ?_, ?_⟩⟩, ⟨rfl, rfl, rfl, by simp, fun k hk _ => (World.grownBy_alloc w.drew _ none).block k hk (by simp)⟩, .inr rfl⟩
      · simp only [Array.size_append, List.size_toArray, size_zeroCells, hzs, hx, hl, ← Nat.add_mul, Nat.zero_add]
        exact Nat.mul_le_mul_right _ (by omega)
      · rw [List.drop_zero]
        simp only [Array.toList_append]
        rw [Nat.add_mul, seg_front _ _ _ hx hl]
theorem run_append_none_at {w : World} (t ty e : TypeId) (i : TypeInfo) (size : Nat) (ht : Tryz.prog.underlying t = some (.slice e)) (hi : Tryz.prog.info? e = some i) (v : Value) (n : Nat) (xs : List Value) (hown : w.ownsAt e size v n xs) : (Builtin.append_ #[t, t] ty #[v, .slice none 0 0]).run Tryz.prog w = .ok v w := by
  rcases hown.2 with ⟨rfl, rfl⟩ | ⟨g, o, cap, cur, rfl, _, hnc, _⟩
  · simp [Builtin.append_, run_underlying ht, sizeOf, typeInfo, hi, Builtin.lenOf, Builtin.firstCells, loadCells, loadCellsFrom]
  · simp [Builtin.append_, run_underlying ht, sizeOf, typeInfo, hi, Builtin.lenOf, Builtin.firstCells, loadCells, loadCellsFrom, hnc, storeCells]
theorem run_append_src {w : World} {t ty e : Nat} {ti te : TI} (hu : Tryz.prog.underlying t = some (.slice e)) (hte : TI.ok e te) (hs : 0 < te.size) {v : Value} {n : Nat} {xs : List Value} (hown : w.ownsAt e te.size v n xs)
    {vx : Value} {m : Nat} {news : List Value} (hsrc : SrcRow w te.size vx m news) (h63 : n + m ≤ maxLen) (hbytes : (n + m) * te.bytes ≤ 140737488355328) :
    ∃ v' w', (Builtin.append_ #[t, t] ty #[v, vx]).run Tryz.prog w = .ok v' w' ∧ w'.ownsAt e te.size v' (n + m) (xs ++ news) ∧ w.grownBy w' v.ownBlock ∧ (v'.ownBlock = v.ownBlock ∨ v'.ownBlock = some w.heap.size) := by
  obtain ⟨x, z, h1, h2, h3, h4, h5⟩ := hte.parts
  obtain ⟨ao, c, rfl, hnil, hl, hcells, hone⟩ := hsrc
  have hzs : z.cells.size = te.size := by rw [← Array.length_toList, h5, hte.zs]
  cases ao with
  | none =>
    obtain ⟨rfl, rfl⟩ := hnil rfl
    have hn : news = [] := List.eq_nil_of_length_eq_zero (by simpa using hl)
    subst hn
    exact ⟨v, w, run_append_none_at t ty e x te.size hu h1 v n xs hown, by simpa using hown, ⟨rfl, rfl, rfl, Nat.le_refl _, fun _ _ _ => rfl⟩, .inl rfl⟩
  | some a =>
    obtain ⟨v', w', r1, r2, r3, r5⟩ := run_append_at2 (w := w) t ty e x z te.size te.bytes hu h1 h2 h3 h4 hzs hs v n xs hown a m c news hl (fun j u hj => by
      obtain ⟨b, o, e1, e2⟩ := hcells j u hj
      cases e1
      rw [svs_add]
      exact e2) hone h63 hbytes
    exact ⟨v', w', r1, r2, r3, r5⟩
section
variable {c : Cfg} {S S1 : St} {a : Act} {w : World} {g : Gh} {hs : Nat → Value} {tab : Tab} {n : Nat} {o : Oper} {ops : Array Oper} {rest L : List Oper} {N : Po}
def SrcOk {α : Type} (c : Cfg) (S : St) (y : Operand) (T : Ty α) (es : List α) : Prop := ∀ a w g hs, Ok' c S a w g hs → ∃ cs, SrcRow w T.s (a.eval y) es.length cs ∧ rowRead T es g cs
theorem srcLS {α : Type} {T : Ty α} {es : List α} {y : Operand} {m : Nat} (hT : T.solid) (hs : 0 < T.s) (hy : evX S.F y = some (.sv (.one (.sl (slR T es) m)))) : SrcOk c S y T es := fun a w g hs' h =>
  src_LS hT hs h.base.pers (evX_ok h hy).1.1
theorem srcBsl {α : Type} {T : Ty α} (es : List α) {y : Operand} {j m ty : Nat} {fz : Bool} {cells : List At} (hT : T.solid) (hz : ∀ a, (svCells (T.sv a)).length = T.s) (hc : ∀ a, (T.sv a).refs = []) (hy : evX S.F y = some (.sv (.one (.bsl j m)))) (hm : S.M[j]? = some (.box cells ty fz)) (he : cells = cellsOf T es) (hl : m = es.length) : SrcOk c S y T es := fun a w g hs' h => by
  obtain ⟨⟨b, hb, hv⟩, _⟩ := evX_ok h hy
  obtain ⟨b', cs, h1, h2, h3, _⟩ := h.items j _ hm
  rw [hb] at h1
  simp at h1
  subst h1
  subst he hl
  have hr := rowRead.of_oks hT hz hc h2
  refine ⟨cs, ⟨some ⟨b, 0, none⟩, es.length, hv, (fun e => by cases e), hr.length, fun j u hj => ⟨b, 0, rfl, ?_⟩, fun u hu => (oks_cells h2 u hu).one⟩, hr⟩
  rw [Nat.zero_add, cell_box h3]
  exact hj
theorem mt_append {α : Type} {T : Ty α} {l es : List α} {i p : Nat} {x y : Operand} {t e : Nat} {ti te : TI} (ht : tab.ok) (ho : o.op = .call ⟨.builtin .append, #[x, y], #[t, t]⟩) (h1 : tab t = some ti) (h2 : ti.sl = some e) (h3 : tab e = some te) (h4 : te.size = T.s) (h5 : 0 < T.s)
    (hx : evX S.F x = some (.sv (.one (.own i)))) (hm : S.M[i]? = some (rowI e T l)) (hsrc : SrcOk c S y T es) (hb : (l.length + es.length) * te.bytes ≤ 140737488355328) (hb2 : l.length + es.length ≤ 140737488355328) : MT c S o (.sv (.one (.own p))) [i] (some (p, rowI e T (l ++ es))) := fun a w g hs h N Z hN => by
  have hu := slT_some ((ht t ti h1).sl.trans h2)
  have hv : a.eval x = hs i := (evX_ok h hx).1
  obtain ⟨cs, r1, r2⟩ := h.items i _ hm
  obtain ⟨cs', r3, r4⟩ := hsrc a w g hs h
  rw [← h4] at r1 r3 h5
  obtain ⟨v', w', k1, k2, k3, k4⟩ := run_append_src (ty := o.type) (ti := ti) hu (ht e te h3) h5 r1 r3 (by simp only [maxLen]; omega) hb
  unfold Oper.wp
  have hrun : (execOp a.eval o).run Tryz.prog w = .ok (.value v') w' := by
    have : execOp a.eval o = (do pure (.value (← Builtin.append_ #[t, t] o.type #[a.eval x, a.eval y])) : Sem Next) := by
      unfold execOp
      rw [ho]
      simp [resolve, invoke, builtin]
    rw [this, hv]
    exact run_valW k1
  rw [hrun]
  have hsl := ownsRow_slice r1
  have hsl' := ownsRow_slice k2
  have hbi : ∀ b, (hs i).ownBlock = some b → g b = none := fun b hb => ((h.mine i _ hm (by simp) b (by rw [Blk_slice hsl]; exact hb)).2 rfl).2
  refine hN v' w' g v' ⟨k3.os, k3.tape, k3.output, k3.size, fun b hb hk => k3.block b hb (fun e => hk i (by simp) (by rw [Blk_slice hsl]; exact e.symm)), Gh.le.refl g, fun b o e => .inl e, fun b o e => ?_⟩ ⟨?_, ?_⟩ ⟨⟨cs ++ cs', ?_, r2.append r4⟩, fun b hb => ?_⟩
  · refine (k3.block b (h.base.pers.lt e) (fun e2 => ?_)).trans (h.base.pers b o e)
    rw [hbi b e2.symm] at e
    cases e
  · show v' = (if p = p then v' else hs p)
    rw [if_pos rfl]
  · obtain ⟨ao, m, cap, rfl⟩ := hsl'
    trivial
  · rw [List.length_append, ← h4]
    exact k2
  · rw [Blk_slice hsl'] at hb
    rcases k4 with e | e
    · rw [hb] at e
      obtain ⟨m1, m2⟩ := h.mine i _ hm (by simp) b (by rw [Blk_slice hsl]; exact e.symm)
      exact ⟨Nat.lt_of_lt_of_le m1 k3.size, fun _ => (m2 rfl).2, .inr ⟨i, by simp, by rw [Blk_slice hsl]; exact e.symm⟩⟩
    · rw [hb] at e
      cases e
      have := k2.lt w.heap.size hb
      refine ⟨this.2, fun _ => ?_, .inl (Nat.le_refl _)⟩
      cases hgb : g w.heap.size with
      | none => rfl
      | some o => have := h.base.pers.lt hgb; omega
theorem Eff.refl (h : Base c w g) : Eff hs [] w g w g := ⟨rfl, rfl, rfl, Nat.le_refl _, fun _ _ _ => rfl, Gh.le.refl g, fun _ _ e => .inl e, h.pers⟩
theorem WL.rowNil {α : Type} (t p e : Nat) (T : Ty α) (hl : look t S.F = some (.sv (.one (.v (.slice none 0 0))))) (hr : S.refsAll (fun i => !(Nat.beq i p)) = true)
    (h : WL c ops L ⟨(t, .sv (.one (.own p))) :: S.F, newM S.M [] (some (p, rowI e T []))⟩ N) : WL c ops L S N := fun a w ⟨g, hs, hk⟩ => by
  have hv := (hk.slots t _ (look_mem hl)).1
  have he := hk.eff (K := []) (p := some (p, rowI e T [])) (h' := .slice none 0 0) (Eff.refl hk.base) ⟨⟨[], World.ownsAt_nil _ _ _, rowRead.nil⟩, fun b hb => by cases hb⟩ hr rfl
  refine h a w ⟨g, _, he.size, he.defers, he.base, fun t' y hy => ?_, he.items, he.sep, he.mine⟩
  rcases List.mem_cons.1 hy with hy | hy
  · cases hy
    refine ⟨?_, by rw [hv]; trivial⟩
    show _ = (if p = p then _ else hs p)
    rw [if_pos rfl]
    exact hv
  · exact he.slots t' y hy
theorem WL.rowLit {α : Type} (t j e : Nat) (T : Ty α) (es : List α) {m : Nat} {cells : List At} (S2 : St) (hl : look t S.F = some (.sv (.one (.bsl j m)))) (hm : S.M[j]? = some (.box cells e false)) (hT : T.solid) (hz : ∀ a, (svCells (T.sv a)).length = T.s) (hc : ∀ a, (T.sv a).refs = [])
    (he : cells = cellsOf T es) (hlen : m = es.length) (hml : es.length ≤ 140737488355328) (h2 : subE S2 S = subX S2) (hr : S2.refsAll (fun i => !(Nat.beq i j)) = true) (hj : (match S2.M[j]? with | some it => !it.fz | none => false) = true)
    (h : WL c ops L ⟨(t, .sv (.one (.own j))) :: S2.F, newM S2.M [j] (some (j, rowI e T es))⟩ N) : WL c ops L S N := fun a w ⟨g, hs, hk⟩ => by
  obtain ⟨⟨b, hb, hv⟩, _⟩ := hk.slots t _ (look_mem hl)
  obtain ⟨b', cs, k1, k2, k3, _⟩ := hk.items j _ hm
  rw [hb] at k1
  simp at k1
  subst k1
  subst he hlen
  have hrow := rowRead.of_oks hT hz hc k2
  have hmine := hk.mine j _ hm (by simp) b (by rw [hb]; rfl)
  have hk2 := sub_ok' h2 a w g hs hk
  have hown : w.ownsAt e T.s (.slice (some ⟨b, 0, none⟩) es.length es.length) es.length cs := World.ownsRow.at (base := 0) ⟨hrow.length, .inr ⟨b, es.length, cs.toArray, rfl, Nat.zero_le _, k3, Nat.le_refl _, by simp only [maxLen]; omega, by simpa using hrow.length, by simpa using (List.take_of_length_le (by rw [hrow.length]; exact Nat.le_refl _))⟩⟩
  have he := hk2.eff (K := [j]) (p := some (j, rowI e T es)) (h' := .slice (some ⟨b, 0, none⟩) es.length es.length) ⟨rfl, rfl, rfl, Nat.le_refl _, fun _ _ _ => rfl, Gh.le.refl g, fun _ _ e => .inl e, hk.base.pers⟩
    ⟨⟨cs, hown, hrow⟩, fun b' hb' => by
      cases hb'
      exact ⟨hmine.1, fun _ => (hmine.2 rfl).2, .inr ⟨j, by simp, by rw [hb]; rfl⟩⟩⟩ hr (by simp only [usable, List.all_cons, List.all_nil, Bool.and_true]; exact hj)
  refine h a w ⟨g, _, he.size, he.defers, he.base, fun t' y hy => ?_, he.items, he.sep, he.mine⟩
  rcases List.mem_cons.1 hy with hy | hy
  · cases hy
    refine ⟨?_, by rw [hv]; trivial⟩
    show _ = (if j = j then _ else hs j)
    rw [if_pos rfl]
    exact hv
  · exact he.slots t' y hy
theorem val_indexO {α : Type} {T : Ty α} {l : List α} {i : Nat} {k : Int} {y : α} {t el : Nat} {ti te : TI} {x ix : Operand} {ik : IntKind} (ht : tab.ok) (ho : o.op = .indexAddr t x ix) (h1 : tab t = some ti) (h2 : ti.sl = some el) (h3 : tab el = some te) (h4 : te.size = T.s) (h5 : 0 < T.s)
    (hx : evX S.F x = some (.sv (.one (.own i)))) (hm : S.M[i]? = some (rowI el T l)) (hi : evK S.F ix = some (.int ik k)) (hy : idx l k = some y) : Val c S o (.sv (.one (.oe i k.toNat T.s))) := fun a w g hs h => by
  obtain ⟨g5, g6, g7⟩ := idx_some hy
  have hu := slT_some ((ht t ti h1).sl.trans h2)
  have hv : a.eval x = hs i := (evX_ok h hx).1
  obtain ⟨cs, ⟨hl0, r1⟩, r2⟩ := h.items i _ hm
  rcases r1 with ⟨e1, e2⟩ | ⟨gb, of, cap, cur, e1, _⟩
  · omega
  · refine ⟨.pointer (some ⟨gb, of + k.toNat * T.s, none⟩), ?_, ⟨gb, of, l.length, cap, e1, rfl⟩, trivial⟩
    have : (execOp a.eval o) = (do pure (.value (← Instr.indexAt t (a.eval x) (a.eval ix))) : Sem Next) := by unfold execOp; rw [ho]
    rw [this]
    refine run_val ?_
    have hlt : 0 ≤ k ∧ k < (l.length : Int) := ⟨g5, g6⟩
    simp only [Instr.indexAt, evK_ok h hi, asIntOf, hv, e1, Sem.run_bind, Sem.run_pure, Result.andThen_ok, run_underlying hu, if_pos hlt, (ht el te h3).run_size, h4, svs_add]
theorem row_elem {α : Type} {T : Ty α} {l : List α} {cs : List Value} (h : rowRead T l g cs) {k : Nat} {y : α} (hy : l[k]? = some y) : ∃ u : Value, (T.sv y).ok g hs0 u ∧ u.cells.size = T.s ∧ ∀ j c, u.cells[j]? = some c → cs[k * T.s + j]? = some c := by
  obtain ⟨us, rfl, h2, h3⟩ := h
  have hlt := (List.getElem?_eq_some_iff.1 hy).1
  have hu : us[k]? = some (us[k]'(by omega)) := by simp
  obtain ⟨x1, x2⟩ := h3 k _ y hu hy
  exact ⟨_, x1, x2, fun j c hj => flat_at (rowRead.sizes h2 h3) hu hj⟩
theorem val_loadO {α : Type} {T : Ty α} {l : List α} {i k t el : Nat} {y : α} {ti : TI} {x : Operand} (ht : tab.ok) (ho : o.op = .load t x) (h1 : tab t = some ti) (h2 : ti.size = T.s) (h3 : svFits ti (T.sv y) = true)
    (hx : evX S.F x = some (.sv (.one (.oe i k T.s)))) (hm : S.M[i]? = some (rowI el T l)) (hy : l[k]? = some y) (hc : (T.sv y).refs = []) : Val c S o (.sv (T.sv y)) := fun a w g hs h => by
  obtain ⟨⟨b, of, nn, cap, e1, e2⟩, _⟩ := evX_ok h hx
  obtain ⟨cs, ⟨hl0, r1⟩, r2⟩ := h.items i _ hm
  have htk := ht t ti h1
  obtain ⟨u, u1, u2, u3⟩ := row_elem r2 hy
  have : (execOp a.eval o) = (do pure (.value (← Instr.loadAt t (a.eval x))) : Sem Next) := by unfold execOp; rw [ho]
  rw [this]
  have u1' : (T.sv y).ok g hs u := SV.ok_hs (fun i hi => by rw [hc] at hi; cases hi) u1
  refine ⟨u, run_val ?_, u1'⟩
  have hcell : ∀ j v, u.cells.toList[j]? = some v → w.cell? ((⟨b, of + k * T.s, none⟩ : Addr).add j) = some v := fun j v hj => by
    rw [svs_add]
    have hj' := u3 j v (by simpa using hj)
    rcases r1 with ⟨e3, _⟩ | ⟨gb, of', cap', cur, e3, e4, _, _, _, e5⟩
    · rw [e1] at e3; cases e3
    · rw [e1] at e3
      simp at e3
      obtain ⟨⟨rfl, rfl⟩, rfl, rfl⟩ := e3
      unfold World.cell?
      rw [e4]
      rw [← e5, List.getElem?_take] at hj'
      split at hj'
      · rw [List.getElem?_drop] at hj'
        simpa [Nat.add_assoc] using hj'
      · cases hj'
  simp only [Instr.loadAt, e2, Instr.sureAddr, loadVar, Sem.run_bind, Sem.run_pure, Result.andThen_ok, htk.run_isAgg]
  cases hsv : T.sv y with
  | agg l' =>
    rw [hsv] at h3 u1
    simp only [svFits] at h3
    rw [h3]
    obtain ⟨cs', rfl, _⟩ := u1
    have hl := run_loadCells_list (P := Tryz.prog) w ⟨b, of + k * T.s, none⟩ cs' (by simpa [Value.cells] using hcell)
    have e5 : cs'.length = ti.size := by rw [h2, ← u2]; simp [Value.cells]
    rw [e5] at hl
    simp [htk.run_size, hl]
  | one x =>
    rw [hsv] at h3 u1
    have h3' : ti.agg = false ∧ cellV u := by
      have h6 := u1.2
      cases x <;> first | exact ⟨by simpa [svFits] using h3, h6⟩ | (simp [svFits] at h3)
    have hcv : u.cells = #[u] := cellV.cells h3'.2
    rw [h3'.1]
    have := hcell 0 u (by rw [hcv]; rfl)
    rw [svs_add, Nat.add_zero] at this
    simp [load, Sem.run, this]
theorem rowRead.set {α : Type} {T : Ty α} {l : List α} {cs : List Value} (h : rowRead T l g cs) {k : Nat} (hk : k < l.length) {y : α} {u : Value} (hu : (T.sv y).ok g hs0 u) (hs : u.cells.size = T.s) :
    rowRead T (l.set k y) g (cs.take (k * T.s) ++ u.cells.toList ++ cs.drop (k * T.s + u.cells.toList.length)) := by
  obtain ⟨us, rfl, h2, h3⟩ := h
  have hsz := rowRead.sizes h2 h3
  have key : ∀ (us : List Value) (k : Nat), (∀ u ∈ us, u.cells.size = T.s) → k < us.length → (us.set k u).flatMap (·.cells.toList) = (us.flatMap (·.cells.toList)).take (k * T.s) ++ u.cells.toList ++ (us.flatMap (·.cells.toList)).drop (k * T.s + u.cells.toList.length) := by
    intro us
    induction us with
    | nil => intro k _ h; simp at h
    | cons x us ih =>
      intro k hz hk
      have hx : x.cells.toList.length = T.s := by simpa using hz x (by simp)
      have hul : u.cells.toList.length = T.s := by simpa using hs
      cases k with
      | zero =>
        simp only [List.set_cons_zero, List.flatMap_cons, Nat.zero_mul, List.take_zero, List.nil_append, Nat.zero_add]
        rw [hul, ← hx, List.drop_left]
      | succ k =>
        have := ih k (fun y hy => hz y (by simp [hy])) (by simpa using hk)
        simp only [List.set_cons_succ, List.flatMap_cons]
        rw [this]
        have e1 : (k + 1) * T.s = x.cells.toList.length + k * T.s := by rw [hx, Nat.succ_mul, Nat.add_comm]
        rw [e1, List.take_length_add_append, Nat.add_assoc, List.drop_length_add_append]
        simp
  refine ⟨us.set k u, (key us k hsz (by omega)).symm, by simp [h2], fun q x a hx ha => ?_⟩
  rw [List.getElem?_set] at hx ha
  by_cases e : k = q
  · rw [if_pos e] at hx ha
    rw [if_pos (by omega)] at hx
    rw [if_pos (by omega)] at ha
    simp at hx ha
    subst hx ha
    exact ⟨hu, hs⟩
  · rw [if_neg e] at hx ha
    exact h3 q x a hx ha
theorem seg_take {α : Type} (A u : List α) (K m L : Nat) (hu : u.length = m) (h1 : K + m ≤ L) (h2 : L ≤ A.length) : (A.take K ++ u ++ A.drop (K + m)).take L = (A.take L).take K ++ u ++ (A.take L).drop (K + m) := by
  have hl : (A.take K ++ u).length = K + m := by simp [hu]; omega
  rw [List.take_append, hl, List.take_of_length_le (by rw [hl]; exact h1), List.take_take, List.drop_take]
  congr 3
  omega
theorem WL.storeO {α : Type} {T : Ty α} {l : List α} {i k t el : Nat} {y : α} {ti : TI} {x v : Operand} {S1 : St} (ht : tab.ok) (hn : c.n = n) (hw : wantE ops S.F o = some true) (ho : o.op = .store t x v) (h1 : tab t = some ti) (h2 : ti.size = T.s) (hT : T.solid)
    (hx : evX S.F x = some (.sv (.one (.oe i k T.s)))) (hm : S.M[i]? = some (rowI el T l)) (hk : k < l.length) (hv : evX S.F v = some (.sv (T.sv y))) (hz : (svCells (T.sv y)).length = T.s) (hc : (T.sv y).refs = [])
    (e : putE n o.dst (.tup []) ⟨S.F, S.M.set i (rowI el T (l.set k y))⟩ = some S1) (h : WL c ops rest S1 N) : WL c ops (o :: rest) S N := fun a w ⟨g, hs, hh⟩ => by
  unfold wpList
  rw [if_pos (wantE_ok hh hw)]
  refine .inl ?_
  unfold Oper.wp
  obtain ⟨⟨b, of, nn, cap, e1, e2⟩, _⟩ := evX_ok hh hx
  obtain ⟨cs, ⟨hl0, r1⟩, r2⟩ := hh.items i _ hm
  have htk := ht t ti h1
  have hval : (T.sv y).ok g hs (a.eval v) := evX_ok hh hv
  have hval0 : (T.sv y).ok g hs0 (a.eval v) := SV.ok_hs (fun i hi => by rw [hc] at hi; cases hi) hval
  have hcells := sv_cells (hT y) hval0
  have hlen : (a.eval v).cells.toList.length = T.s := by rw [← oks_length hcells]; exact hz
  rcases r1 with ⟨e3, e4⟩ | ⟨gb, of', cap', cur, e3, e4, e5, e6, e7, e8⟩
  · omega
  · rw [e1] at e3
    simp at e3
    obtain ⟨⟨rfl, rfl⟩, rfl, rfl⟩ := e3
    have hkl : k * T.s + T.s ≤ l.length * T.s := by rw [← Nat.succ_mul]; exact Nat.mul_le_mul_right _ hk
    have hlc : of + l.length * T.s ≤ cur.size := Nat.le_trans (Nat.add_le_add_left (Nat.mul_le_mul_right _ e5) _) e7
    have hst := run_storeCells_at (P := Tryz.prog) b (of + k * T.s) el (a.eval v).cells.toList 0 cur w e4 (by rw [hlen, Nat.add_zero, Nat.add_assoc]; exact Nat.le_trans (Nat.add_le_add_left hkl _) hlc) (fun u hu => (oks_cells hcells u hu).one)
    simp only [Nat.add_zero] at hst
    have hup := hh.upd (w' := w.setRow b (cur.toList.take (of + k * T.s) ++ (a.eval v).cells.toList ++ cur.toList.drop (of + k * T.s + (a.eval v).cells.toList.length)).toArray) (it' := rowI el T (l.set k y)) hm rfl rfl ?_ ?_
    · have hrun : (execOp a.eval o).run Tryz.prog w = .ok .skip (w.setRow b (cur.toList.take (of + k * T.s) ++ (a.eval v).cells.toList ++ cur.toList.drop (of + k * T.s + (a.eval v).cells.toList.length)).toArray) := by
        have : execOp a.eval o = (do Instr.storeAt t (a.eval x) (a.eval v); pure .skip : Sem Next) := by unfold execOp; rw [ho]
        rw [this]
        simp only [Instr.storeAt, e2, Instr.sureAddr, storeVar, Sem.run_bind, Sem.run_pure, Result.andThen_ok, htk.run_size]
        rw [if_neg (by rw [h2]; simp at hlen; simp [hlen])]
        simp only [hst, Result.andThen_ok, Sem.run_pure]
      rw [hrun]
      exact h _ _ ⟨g, hs, putE_ok hup hn undef_ok e⟩
    · rw [e1]
      exact ⟨rfl, rfl, rfl, by simp, fun q hq hne => setRow_other w b q _ (fun e => hne (by rw [e]; rfl))⟩
    · have hset := r2.set hk hval0 (by rw [← hlen]; simp)
      refine ⟨_, ⟨hset.length.trans (by simp), .inr ⟨b, of, cap, _, by rw [e1]; simp, setRow_heap w b _ _ _ _ e4, by simpa using e5, e6, ?_, ?_⟩⟩, hset⟩
      · simp only [List.size_toArray, List.length_append, List.length_take, List.length_drop, Array.length_toList] at hlen ⊢
        omega
      · simp only [List.length_set]
        show (List.drop of (_ ++ (a.eval v).cells.toList ++ _)).take _ = _
        rw [drop_seg _ _ (by rw [Array.length_toList]; exact Nat.le_trans (Nat.add_le_add_left (Nat.le_trans (Nat.le_add_right _ _) hkl) _) hlc), ← e8, hlen]
        exact seg_take (cur.toList.drop of) (a.eval v).cells.toList (k * T.s) T.s (l.length * T.s) hlen hkl (by rw [List.length_drop, Array.length_toList]; exact Nat.le_sub_of_add_le (by rw [Nat.add_comm]; exact hlc))
end
def At.sub (a : At) (i : Nat) (b : At) : At := match a with
  | .own j => match Nat.beq j i with
    | true => b
    | false => .own j
  | a => a
def SV.sub (s : SV) (i : Nat) (b : At) : SV := match s with
  | .one a => .one (a.sub i b)
  | .agg l => .agg (l.map (·.sub i b))
def SC.sub (x : SC) (i : Nat) (b : At) : SC := match x with
  | .sv s => .sv (s.sub i b)
  | .tup l => .tup (l.map (·.sub i b))
def Item.sub (it : Item) (i : Nat) (b : At) : Item := match it with
  | .box cells ty fz => .box (cells.map (·.sub i b)) ty fz
  | it => it
section
variable {g : Gh} {hs : Nat → Value} {i : Nat} {b : At}
theorem At.sub_ok (hb : b.ok g hs (hs i)) {a : At} {u : Value} (h : a.ok g hs u) : (a.sub i b).ok g hs u := by
  cases a with
  | own j =>
    show At.ok g hs (match Nat.beq j i with | true => b | false => .own j) u
    cases hj : Nat.beq j i with
    | true =>
      have := Nat.eq_of_beq_eq_true hj
      subst this
      have : u = hs j := h.1
      subst this
      exact hb
    | false => exact h
  | _ => exact h
theorem oks_sub (hb : b.ok g hs (hs i)) : ∀ {l : List At} {us : List Value}, oks g hs l us → oks g hs (l.map (·.sub i b)) us
  | [], [], _ => trivial
  | [], _ :: _, h => h.elim
  | _ :: _, [], h => h.elim
  | _ :: _, _ :: _, h => ⟨At.sub_ok hb h.1, h.2.1, oks_sub hb h.2.2⟩
theorem SV.sub_ok (hb : b.ok g hs (hs i)) {a : SV} {u : Value} (h : a.ok g hs u) : (a.sub i b).ok g hs u := by
  cases a with
  | one a => exact At.sub_ok hb h
  | agg l =>
    obtain ⟨cs, h1, h2⟩ := h
    exact ⟨cs, h1, oks_sub hb h2⟩
theorem svs_sub (hb : b.ok g hs (hs i)) : ∀ {l : List SV} {us : List Value}, SV.oks g hs l us → SV.oks g hs (l.map (·.sub i b)) us
  | [], [], _ => trivial
  | [], _ :: _, h => h.elim
  | _ :: _, [], h => h.elim
  | _ :: _, _ :: _, h => ⟨SV.sub_ok hb h.1, svs_sub hb h.2⟩
theorem SC.sub_ok (hb : b.ok g hs (hs i)) {a : SC} {u : Value} (h : a.ok g hs u) : (a.sub i b).ok g hs u := by
  cases a with
  | sv s => exact SV.sub_ok hb h
  | tup l =>
    obtain ⟨cs, h1, h2⟩ := h
    exact ⟨cs, h1, svs_sub hb h2⟩
end
theorem ls_nil {α : Type} {T : Ty α} {g : Gh} {hs : Nat → Value} : (LS T ([] : List α)).ok g hs (.slice none 0 0) := ⟨⟨⟨none, 0, 0, rfl, rfl, Nat.le_refl _, by simp [maxLen], fun _ => rfl, fun q a h => by simp at h⟩, none, 0, rfl⟩, trivial⟩
section
variable {c : Cfg} {S S1 : St} {a : Act} {w : World} {g : Gh} {hs : Nat → Value} {tab : Tab} {n : Nat} {o : Oper} {ops : Array Oper} {rest L : List Oper} {N : Po}
theorem row_LS {α : Type} {T : Ty α} {l : List α} {e : Nat} {v : Value} {cs : List Value} {g' : Gh} (h1 : w.ownsAt e T.s v l.length cs) (h2 : rowRead T l g cs) (hle : Gh.le g g') (hb : ∀ b, v.ownBlock = some b → g' b = w.heap[b]?) : (LS T l).ok g' hs v := by
  obtain ⟨h0, h1⟩ := h1
  rcases h1 with ⟨rfl, hn⟩ | ⟨gb, of, cap, cur, rfl, e4, e5, e6, e7, e8⟩
  · have : l = [] := List.eq_nil_of_length_eq_zero hn
    subst this
    exact ls_nil
  · refine ⟨⟨⟨some ⟨gb, of, none⟩, l.length, cap, rfl, rfl, e5, e6, (fun e => by cases e), fun q a ha => ?_⟩, _, _, rfl⟩, trivial⟩
    obtain ⟨u, u1, u2, u3⟩ := row_elem h2 ha
    refine ⟨gb, of, u, rfl, SV.mono hle u1, u2, fun j c hj => ?_⟩
    have := u3 j c hj
    unfold Gh.cell
    rw [hb gb rfl, e4]
    rw [← e8, List.getElem?_take] at this
    split at this
    · rw [List.getElem?_drop] at this
      simpa [Nat.add_assoc] using this
    · cases this
def sealS (S : St) (i : Nat) (b : At) : St := ⟨S.F.map fun e => (e.1, e.2.sub i b), (S.M.set i .gone).map (·.sub i b)⟩
theorem Ok'.seal {α : Type} {T : Ty α} {l : List α} {e i : Nat} (h : Ok' c S a w g hs) (hm : S.M[i]? = some (rowI e T l)) : ∃ g', Ok' c (sealS S i (LS T l)) a w g' hs := by
  classical
  obtain ⟨cs, r1, r2⟩ := h.items i _ hm
  have hmine := h.mine i _ hm (by simp)
  have hbk : ∀ b, Blk (hs i) b ↔ (hs i).ownBlock = some b := fun b => Blk_slice (ownsRow_slice r1)
  let g' : Gh := fun x => if (hs i).ownBlock = some x then w.heap[x]? else g x
  have hle : Gh.le g g' := fun x o e => by
    show (if (hs i).ownBlock = some x then _ else g x) = some o
    by_cases hx : (hs i).ownBlock = some x
    · have := (hmine x (by rw [hbk]; exact hx)).2 rfl
      rw [this.2] at e
      cases e
    · rw [if_neg hx]; exact e
  have hb : (LS T l).ok g' hs (hs i) := row_LS r1 r2 hle (fun b hb => if_pos hb)
  have hset : ∀ (j : Nat) (jt : Item), ((S.M.set i .gone).map (·.sub i (LS T l)))[j]? = some jt → jt ≠ .gone → ∃ kt, j ≠ i ∧ S.M[j]? = some kt ∧ jt = kt.sub i (LS T l) ∧ kt ≠ .gone ∧ jt.fz = kt.fz := fun j jt hj hn => by
    rw [List.getElem?_map, List.getElem?_set] at hj
    by_cases e : i = j
    · rw [if_pos e] at hj
      split at hj
      · simp [Item.sub] at hj
        exact absurd hj.symm hn
      · cases hj
    · rw [if_neg e] at hj
      cases hk : S.M[j]? with
      | none => rw [hk] at hj; cases hj
      | some kt =>
        rw [hk] at hj
        simp at hj
        refine ⟨kt, Ne.symm e, rfl, hj.symm, fun e => ?_, ?_⟩
        · subst e; exact hn hj.symm
        · rw [← hj]; cases kt <;> rfl
  refine ⟨g', h.size, h.defers, ⟨h.base.os, h.base.tape, h.base.output, h.base.grows, h.base.frame, h.base.ghle.trans hle, fun x o e => ?_, fun x o e => ?_⟩, fun t x hx => ?_, fun j jt hj => ?_, fun j k jt kt hjk hj hk hfj hnk x hx => ?_, fun j jt hj hnj x hx => ?_⟩
  · by_cases hx : (hs i).ownBlock = some x
    · exact .inr ((hmine x (by rw [hbk]; exact hx)).2 rfl).1
    · rw [show g' x = g x from if_neg hx] at e
      exact h.base.ghnew x o e
  · by_cases hx : (hs i).ownBlock = some x
    · rw [show g' x = w.heap[x]? from if_pos hx] at e
      exact e
    · rw [show g' x = g x from if_neg hx] at e
      exact h.base.pers x o e
  · obtain ⟨y, hy, e⟩ := List.mem_map.1 hx
    cases e
    exact SC.sub_ok hb (SC.mono hle (h.slots _ _ hy))
  · by_cases hn : jt = .gone
    · subst hn; trivial
    · obtain ⟨kt, h1, h2, rfl, h3, _⟩ := hset j jt hj hn
      have h4 := Item.mono hle (h.items j kt h2)
      cases kt with
      | box cells ty fz =>
        obtain ⟨b, us, k1, k2, k3, k4⟩ := h4
        exact ⟨b, us, k1, oks_sub hb k2, k3, k4⟩
      | _ => exact h4
  · obtain ⟨jt', h1, h2, rfl, h3, h4⟩ := hset j jt hj (fz_gone hfj)
    obtain ⟨kt', k1, k2, rfl, k3, k4⟩ := hset k kt hk hnk
    exact h.sep j k jt' kt' hjk h2 k2 (by rw [← h4]; exact hfj) k3 x hx
  · obtain ⟨jt', h1, h2, rfl, h3, h4⟩ := hset j jt hj hnj
    obtain ⟨m1, m2⟩ := h.mine j jt' h2 h3 x hx
    refine ⟨m1, fun hf => ?_⟩
    rw [h4] at hf
    refine ⟨(m2 hf).1, ?_⟩
    have hx' : (hs i).ownBlock ≠ some x := fun e => h.sep j i jt' _ h1 h2 hm hf (by simp) x hx (by rw [hbk]; exact e)
    rw [show g' x = g x from if_neg hx']
    exact (m2 hf).2
theorem WL.seal {α : Type} {T : Ty α} {l : List α} {e : Nat} (i : Nat) (hm : S.M[i]? = some (rowI e T l)) (h : WL c ops L (sealS S i (LS T l)) N) : WL c ops L S N := fun a w ⟨g, hs, hk⟩ => by
  obtain ⟨g', hk'⟩ := hk.seal hm
  exact h a w ⟨g', hs, hk'⟩
theorem En.seal {α : Type} {T : Ty α} {l : List α} {e : Nat} (i : Nat) (hm : S.M[i]? = some (rowI e T l)) (h : En c (sealS S i (LS T l)) N) : En c S N := fun a w ⟨g, hs, hk⟩ => by
  obtain ⟨g', hk'⟩ := hk.seal hm
  exact h a w ⟨g', hs, hk'⟩
theorem made_row {α : Type} {T : Ty α} {z0 : α} {z : Value} {k N : Nat} (hz : (T.sv z0).ok g hs0 z) (hs : z.cells.size = T.s) (h0 : 0 < T.s) (hk : k ≤ N) : rowRead T (List.replicate k z0) g ((madeCells z.cells (N * T.s)).toList.take (k * T.s)) := by
  refine ⟨List.replicate k z, ?_, by simp, fun q u a hu ha => ?_⟩
  · have hsz : ∀ u ∈ List.replicate k z, u.cells.size = T.s := fun u hu => by rw [List.eq_of_mem_replicate hu]; exact hs
    apply List.ext_getElem?
    intro j
    by_cases hj : j < k * T.s
    · have hq : j / T.s < k := by rw [Nat.div_lt_iff_lt_mul h0]; exact hj
      have hm : j % T.s < T.s := Nat.mod_lt _ h0
      have h1 := flat_at (q := j / T.s) (j := j % T.s) (u := z) (c := z.cells[j % T.s]'(by omega)) hsz (by simp [hq]) (by simp [hs, hm])
      rw [show j / T.s * T.s + j % T.s = j from by rw [Nat.mul_comm]; exact Nat.div_add_mod j T.s] at h1
      rw [h1, List.getElem?_take, if_pos hj]
      have hjN : j < N * T.s := Nat.lt_of_lt_of_le hj (Nat.mul_le_mul_right _ hk)
      have hmz : j % z.cells.size < z.cells.size := by rw [hs]; exact hm
      simp [madeCells, hjN]
      have e : j % z.cells.size = j % T.s := by rw [hs]
      rw [getElem!_pos z.cells (j % z.cells.size) hmz]
      simp only [e]
    · rw [List.getElem?_take, if_neg hj, List.getElem?_eq_none]
      rw [flat_len hsz]
      simp
      omega
  · rw [List.getElem?_replicate] at hu ha
    split at hu
    · rename_i h
      rw [if_pos h] at ha
      simp at hu ha
      subst hu ha
      exact ⟨hz, hs⟩
    · cases hu
theorem mt_make {α : Type} {T : Ty α} (z0 : α) {zv : Value} (p : Nat) {t e : Nat} {ti te : TI} {x y : Operand} {k1 k2 : IntKind} {l cp : Int} (ht : tab.ok) (ho : o.op = .makeSlice t x y) (h1 : tab t = some ti) (h2 : ti.sl = some e) (h3 : tab e = some te) (h4 : te.size = T.s) (h5 : 0 < T.s)
    (hx : evK S.F x = some (.int k1 l)) (hy : evK S.F y = some (.int k2 cp)) (hl0 : 0 ≤ l) (hlc : l ≤ cp) (hb : cp * te.bytes ≤ 140737488355328) (hb2 : cp ≤ 140737488355328) (hzc : zv.cells.toList = te.zero) (hz : ∀ g, (T.sv z0).ok g hs0 zv) :
    MT c S o (.sv (.one (.own p))) [] (some (p, rowI e T (List.replicate l.toNat z0))) := fun a w g hs h N Z hN => by
  have hu := slT_some ((ht t ti h1).sl.trans h2)
  have hte := ht e te h3
  obtain ⟨x', z, i1, i2, i3, i4, i5⟩ := hte.parts
  have hzz : z.cells = zv.cells := by apply Array.toList_inj.1; rw [i5, hzc]
  have hzs : zv.cells.size = T.s := by rw [← Array.length_toList, hzc, hte.zs, h4]
  have hrun := run_make (P := Tryz.prog) (w := w) t e x' z hu i1 i2 k1 k2 l cp hl0 hlc (by rw [i4, Int.mul_comm]; omega) (by omega)
  unfold Oper.wp
  have hr : (execOp a.eval o).run Tryz.prog w = .ok (.value (.slice (some ⟨w.heap.size, 0, none⟩) l.toNat cp.toNat)) (w.alloc (.cells (madeCells z.cells (cp.toNat * x'.size)) e)) := by
    have : execOp a.eval o = (do pure (.value (← Instr.makeSlice t (a.eval x) (a.eval y))) : Sem Next) := by unfold execOp; rw [ho]
    rw [this, evK_ok h hx, evK_ok h hy]
    exact run_valW hrun
  rw [hr]
  have hlc' : l.toNat ≤ cp.toNat := by omega
  have hsz : x'.size = T.s := by rw [i3, h4]
  refine hN _ _ g (.slice (some ⟨w.heap.size, 0, none⟩) l.toNat cp.toNat) ⟨rfl, rfl, rfl, by simp, fun b hb _ => (World.grownBy_alloc w _ none).block b hb (by simp), Gh.le.refl g, fun b o e => .inl e, fun b o e => ?_⟩ ⟨?_, trivial⟩ ⟨⟨(madeCells zv.cells (cp.toNat * T.s)).toList.take (l.toNat * T.s), ?_, made_row (hz g) hzs h5 hlc'⟩, fun b hb => ?_⟩
  · exact ((World.grownBy_alloc w _ none).block b (h.base.pers.lt e) (by simp)).trans (h.base.pers b o e)
  · show _ = (if p = p then _ else hs p)
    rw [if_pos rfl]
  · rw [List.length_replicate]
    refine World.ownsRow.at (base := 0) ⟨?_, .inr ⟨w.heap.size, cp.toNat, madeCells zv.cells (cp.toNat * T.s), rfl, Nat.zero_le _, ?_, hlc', by simp only [maxLen]; omega, by rw [size_madeCells], rfl⟩⟩
    · rw [List.length_take, Array.length_toList, size_madeCells]
      exact Nat.min_eq_left (Nat.mul_le_mul_right _ hlc')
    · rw [hzz, hsz]
      exact heap_alloc_new w _
  · cases hb
    refine ⟨by simp, fun _ => ?_, .inl (Nat.le_refl _)⟩
    cases hgb : g w.heap.size with
    | none => rfl
    | some o => have := h.base.pers.lt hgb; omega
theorem slRead.take {α : Type} {T : Ty α} {l : List α} {ao : Option Addr} {n' cap : Nat} (h : slRead T l g (.slice ao n' cap)) {lo hi : Nat} (h1 : lo ≤ hi) (h2 : hi ≤ l.length) :
    slRead T ((l.take hi).drop lo) g (.slice (if cap = lo then ao else ao.map (·.add (lo * T.s))) (hi - lo) (cap - lo)) := by
  obtain ⟨ao', n'', cap', e1, e2, e3, e4, e5, e6⟩ := h
  cases e1
  subst e2
  refine ⟨_, _, _, rfl, by simp; omega, by omega, by omega, fun e => ?_, fun q a hq => ?_⟩
  · split at e
    · omega
    · cases ao with
      | none => have := e5 rfl; omega
      | some x => cases e
  · rw [List.getElem?_drop, List.getElem?_take] at hq
    split at hq
    case isFalse => cases hq
    obtain ⟨b, o, u, rfl, k2, k3, k4⟩ := e6 _ a hq
    refine ⟨b, o + lo * T.s, u, ?_, k2, k3, fun j c hj => ?_⟩
    · rw [if_neg (by omega)]
      simp [Addr.add_lit]
    · have := k4 j c hj
      rw [Nat.add_mul] at this
      rw [← this]
      congr 2
      omega
theorem val_slice {α : Type} {T : Ty α} {l : List α} {t el m : Nat} {ti te : TI} {x : Operand} {lo hi : Option Operand} {lv hv : Int} (ht : tab.ok) (ho : o.op = .slice t x lo hi none) (h1 : tab t = some ti) (h2 : ti.sl = some el) (h3 : tab el = some te) (h4 : te.size = T.s)
    (hx : evX S.F x = some (.sv (.one (.sl (slR T l) m)))) (hlo : (match lo with | some q => evK S.F q = some (.int .i64 lv) | none => lv = 0)) (hhi : (match hi with | some q => evK S.F q = some (.int .i64 hv) | none => hv = l.length)) (h5 : 0 ≤ lv ∧ lv ≤ hv ∧ hv ≤ l.length) :
    Val c S o (.sv (.one (LS T ((l.take hv.toNat).drop lv.toNat)))) := fun a w g hs h => by
  obtain ⟨h6, h7, h8⟩ := h5
  have hu := slT_some ((ht t ti h1).sl.trans h2)
  obtain ⟨⟨hr, ao, cap, e1⟩, _⟩ := evX_ok h hx
  have hr' : slRead T l g (a.eval x) := hr
  rw [e1] at hr'
  have hr2 := hr'
  obtain ⟨ao', n'', cap', k1, k2, k3, k4, k5, k6⟩ := hr2
  cases k1
  subst k2
  have htk := hr'.take (lo := lv.toNat) (hi := hv.toNat) (by omega) (by omega)
  refine ⟨_, ?_, ⟨htk, _, _, by simp only [List.length_drop, List.length_take]; congr 1; omega⟩, trivial⟩
  have : execOp a.eval o = (do pure (.value (← Instr.sliceAt t (a.eval x) (lo.map a.eval) (hi.map a.eval) none)) : Sem Next) := by unfold execOp; rw [ho]; rfl
  rw [this]
  refine run_val ?_
  have hb : (Instr.sliceBounds true l.length cap (lo.map a.eval) (hi.map a.eval) none).run Tryz.prog w = .ok (lv.toNat, hv.toNat, cap) w := by
    unfold Instr.sliceBounds
    cases lo with
    | none =>
      cases hi with
      | none =>
        simp only at hlo hhi
        subst hlo hhi
        simp
      | some q =>
        simp only at hlo hhi
        subst hlo
        simp only [Option.map_none, Option.map_some, Sem.run_bind, Sem.run_pure, Result.andThen_ok, Instr.sliceBound, evK_ok h hhi, asIntOf]
        rw [if_pos (by omega)]
        simp
    | some q' =>
      cases hi with
      | none =>
        simp only at hlo hhi
        subst hhi
        simp only [Option.map_none, Option.map_some, Sem.run_bind, Sem.run_pure, Result.andThen_ok, Instr.sliceBound, evK_ok h hlo, asIntOf]
        rw [if_pos (by omega)]
        simp
      | some q =>
        simp only at hlo hhi
        simp only [Option.map_some, Sem.run_bind, Sem.run_pure, Result.andThen_ok, Instr.sliceBound, evK_ok h hhi, evK_ok h hlo, asIntOf]
        rw [if_pos (by omega)]
        simp only [Sem.run_bind, Sem.run_pure, Result.andThen_ok]
        rw [if_pos (by omega)]
        simp
  simp only [Instr.sliceAt, Instr.slice, Sem.run_bind, run_underlying hu, Result.andThen_ok, e1, hb, (ht el te h3).run_size, Sem.run_pure, h4]
theorem WL.mt0 {x : SC} {K : List Nat} {p : Option (Nat × Item)} (hn : c.n = n) (hw : wantE ops S.F o = some true) (hm : MT c S o x K p) (hr : refsNe S p = true) (hu : usable S K = true) (e : putE n o.dst x ⟨S.F, newM S.M K p⟩ = some S1) (h : WL c ops rest S1 N) : WL c ops (o :: rest) S N := fun a w ⟨g, hs, hk⟩ => by
  unfold wpList
  rw [if_pos (wantE_ok hk hw)]
  refine .inl (hm a w g hs hk _ N fun v w' g' h' h1 h3 h4 => ?_)
  exact h _ _ ⟨g', _, putE_ok (hk.eff h1 h4 hr hu) hn h3 e⟩
def capOk (n m b : Nat) : Prop := (n + m) * b ≤ 140737488355328
theorem capOk.le {n m b : Nat} (h : capOk n m b) (hb : 0 < b) : n + m ≤ 140737488355328 := Nat.le_trans (Nat.le_mul_of_pos_right _ hb) h
def makeOk (l c : Int) (b : Nat) : Prop := 0 ≤ l ∧ l ≤ c ∧ c * b ≤ 140737488355328
theorem makeOk.le {l c : Int} {b : Nat} (h : makeOk l c b) (hb : 0 < b) : c ≤ 140737488355328 := by
  obtain ⟨h1, h2, h3⟩ := h
  have : c * 1 ≤ c * b := Int.mul_le_mul_of_nonneg_left (by omega) (by omega)
  omega
def partOk (lo hi n : Int) : Prop := 0 ≤ lo ∧ lo ≤ hi ∧ hi ≤ n
theorem mt_appendN {α : Type} {T : Ty α} {es : List α} {p : Nat} {x y : Operand} {t e : Nat} {ti te : TI} (ht : tab.ok) (ho : o.op = .call ⟨.builtin .append, #[x, y], #[t, t]⟩) (h1 : tab t = some ti) (h2 : ti.sl = some e) (h3 : tab e = some te) (h4 : te.size = T.s) (h5 : 0 < T.s)
    (hx : evX S.F x = some (.sv (.one (.v (.slice none 0 0))))) (hsrc : SrcOk c S y T es) (hb : es.length * te.bytes ≤ 140737488355328) (hb2 : es.length ≤ 140737488355328) : MT c S o (.sv (.one (.own p))) [] (some (p, rowI e T es)) := fun a w g hs h N Z hN => by
  have hu := slT_some ((ht t ti h1).sl.trans h2)
  have hv : a.eval x = .slice none 0 0 := (evX_ok h hx).1
  obtain ⟨cs', r3, r4⟩ := hsrc a w g hs h
  rw [← h4] at r3 h5
  obtain ⟨v', w', k1, k2, k3, k4⟩ := run_append_src (w := w) (ty := o.type) (ti := ti) hu (ht e te h3) h5 (World.ownsAt_nil w e te.size) r3 (by simp only [maxLen]; omega) (by simpa using hb)
  unfold Oper.wp
  have hrun : (execOp a.eval o).run Tryz.prog w = .ok (.value v') w' := by
    have : execOp a.eval o = (do pure (.value (← Builtin.append_ #[t, t] o.type #[a.eval x, a.eval y])) : Sem Next) := by
      unfold execOp
      rw [ho]
      simp [resolve, invoke, builtin]
    rw [this, hv]
    exact run_valW k1
  rw [hrun]
  have hsl' := ownsRow_slice k2
  have k3' : ∀ b, b < w.heap.size → w'.heap[b]? = w.heap[b]? := fun b hb => k3.block b hb (by simp [Value.ownBlock])
  refine hN v' w' g v' ⟨k3.os, k3.tape, k3.output, k3.size, fun b hb _ => k3' b hb, Gh.le.refl g, fun b o e => .inl e, fun b o e => (k3' b (h.base.pers.lt e)).trans (h.base.pers b o e)⟩ ⟨?_, ?_⟩ ⟨⟨cs', ?_, r4⟩, fun b hb => ?_⟩
  · show v' = (if p = p then v' else hs p)
    rw [if_pos rfl]
  · obtain ⟨ao, m, cap, rfl⟩ := hsl'
    trivial
  · rw [← h4]
    simpa using k2
  · rw [Blk_slice hsl'] at hb
    rcases k4 with e | e
    · rw [hb] at e
      cases e
    · rw [hb] at e
      cases e
      have := k2.lt w.heap.size hb
      refine ⟨this.2, fun _ => ?_, .inl (Nat.le_refl _)⟩
      cases hgb : g w.heap.size with
      | none => rfl
      | some o => have := h.base.pers.lt hgb; omega
def junkC (cells : List At) (j : Nat) : List At := cells.set j .junk
theorem oks_junk : ∀ {l : List At} {us : List Value} (j : Nat), oks g hs l us → oks g hs (l.set j .junk) us
  | [], _, _, h => by simpa using h
  | _ :: _, [], _, h => h.elim
  | _ :: _, _ :: _, 0, h => ⟨⟨trivial, trivial⟩, h.2.1, h.2.2⟩
  | _ :: _, _ :: _, j + 1, h => ⟨h.1, h.2.1, oks_junk j h.2.2⟩
theorem WL.junk (i j : Nat) {cells : List At} {ty : Nat} (hm : S.M[i]? = some (.box cells ty false)) (h : WL c ops L ⟨S.F, S.M.set i (.box (cells.set j .junk) ty false)⟩ N) : WL c ops L S N := fun a w ⟨g, hs, hk⟩ => by
  refine h a w ⟨g, hs, hk.upd hm rfl rfl (World.grownBy.mk rfl rfl rfl (Nat.le_refl _) (fun _ _ _ => rfl)) ?_⟩
  obtain ⟨b, cs, h1, h2, h3, h4⟩ := hk.items i _ hm
  exact ⟨b, cs, h1, oks_junk j h2, h3, fun h => by cases h⟩
theorem mt_empty {α : Type} (T : Ty α) (p : Nat) {t e : Nat} {ti te : TI} (ht : tab.ok) (ho : o.op = .buildSlice t 0 #[]) (h1 : tab t = some ti) (h2 : ti.sl = some e) (h3 : tab e = some te) : MT c S o (.sv (.one (.own p))) [] (some (p, rowI e T [])) := fun a w g hs h N Z hN => by
  have hu := slT_some ((ht t ti h1).sl.trans h2)
  unfold Oper.wp
  have hrun : (execOp a.eval o).run Tryz.prog w = .ok (.value (.slice (some ⟨w.heap.size, 0, none⟩) 0 0)) (w.alloc (.cells #[] e)) := by
    have : execOp a.eval o = (do pure (.value (← Instr.buildSlice t 0 #[])) : Sem Next) := by unfold execOp; rw [ho]; simp
    rw [this]
    refine run_valW ?_
    simp [Instr.buildSlice, run_underlying hu, (ht e te h3).run_size, Instr.fill, newRow, newObj, Sem.run]
    exact congrArg (fun z => w.alloc (.cells z e)) (Array.toList_inj.1 (by simp))
  rw [hrun]
  refine hN _ _ g (.slice (some ⟨w.heap.size, 0, none⟩) 0 0) ⟨rfl, rfl, rfl, by simp, fun b hb _ => (World.grownBy_alloc w _ none).block b hb (by simp), Gh.le.refl g, fun b o e => .inl e, fun b o e => ?_⟩ ⟨?_, trivial⟩ ⟨⟨[], World.ownsRow.at (base := 0) ⟨by simp, .inr ⟨w.heap.size, 0, #[], rfl, Nat.zero_le _, heap_alloc_new w _, Nat.le_refl _, by simp [maxLen], by simp, by simp⟩⟩, rowRead.nil⟩, fun b hb => ?_⟩
  · exact ((World.grownBy_alloc w _ none).block b (h.base.pers.lt e) (by simp)).trans (h.base.pers b o e)
  · show _ = (if p = p then _ else hs p)
    rw [if_pos rfl]
  · cases hb
    refine ⟨by simp, fun _ => ?_, .inl (Nat.le_refl _)⟩
    cases hgb : g w.heap.size with
    | none => rfl
    | some o => have := h.base.pers.lt hgb; omega
theorem En.nilLS {α : Type} (t : Nat) (T : Ty α) (hl : look t S.F = some (.sv (.one (.v (.slice none 0 0))))) (h : En c ⟨(t, .sv (.one (LS T ([] : List α)))) :: S.F, S.M⟩ N) : En c S N := fun a w ⟨g, hs, hk⟩ => by
  refine h a w ⟨g, hs, hk.size, hk.defers, hk.base, fun t' y hy => ?_, hk.items, hk.sep, hk.mine⟩
  rcases List.mem_cons.1 hy with hy | hy
  · cases hy
    have hv := (hk.slots t _ (look_mem hl)).1
    rw [hv]
    exact ls_nil
  · exact hk.slots t' y hy
theorem WL.nilLS {α : Type} (t : Nat) (T : Ty α) (hl : look t S.F = some (.sv (.one (.v (.slice none 0 0))))) (h : WL c ops L ⟨(t, .sv (.one (LS T ([] : List α)))) :: S.F, S.M⟩ N) : WL c ops L S N :=
  WL.ghost t _ hl (fun a w g hs _ u hu => by
    have : u = .slice none 0 0 := hu.1
    subst this
    exact ls_nil) h
theorem slRead.le {α : Type} {T : Ty α} {l : List α} {v : Value} (h : slRead T l g v) : l.length ≤ 9223372036854775807 := by
  obtain ⟨ao, n, cap, h1, rfl, h2, h3, _⟩ := h
  simp only [maxLen] at h3
  omega
theorem En.lenL {α : Type} {T : Ty α} {l : List α} {m : Nat} (t : Nat) (hl : look t S.F = some (.sv (.one (.sl (slR T l) m)))) (h : l.length ≤ 9223372036854775807 → En c S N) : En c S N := fun a w ⟨g, hs, hk⟩ =>
  h (slRead.le (hk.slots t _ (look_mem hl)).1.1) a w ⟨g, hs, hk⟩
theorem En.lenA {α : Type} {T : Ty α} {l : List α} {m : Nat} (t j : Nat) {cells : List At} (hl : look t S.F = some (.sv (.agg cells))) (hj : cells[j]? = some (.sl (slR T l) m)) (h : l.length ≤ 9223372036854775807 → En c S N) : En c S N := fun a w ⟨g, hs, hk⟩ => by
  obtain ⟨cs, _, h2⟩ := hk.slots t _ (look_mem hl)
  obtain ⟨u, _, h3, _⟩ := oks_get h2 hj
  exact h (slRead.le h3.1.1) a w ⟨g, hs, hk⟩
theorem WL.lenL {α : Type} {T : Ty α} {l : List α} {m : Nat} (t : Nat) (hl : look t S.F = some (.sv (.one (.sl (slR T l) m)))) (h : l.length ≤ 9223372036854775807 → WL c ops L S N) : WL c ops L S N := fun a w ⟨g, hs, hk⟩ =>
  h (slRead.le (hk.slots t _ (look_mem hl)).1.1) a w ⟨g, hs, hk⟩
theorem WL.lenA {α : Type} {T : Ty α} {l : List α} {m : Nat} (t j : Nat) {cells : List At} (hl : look t S.F = some (.sv (.agg cells))) (hj : cells[j]? = some (.sl (slR T l) m)) (h : l.length ≤ 9223372036854775807 → WL c ops L S N) : WL c ops L S N := fun a w ⟨g, hs, hk⟩ => by
  obtain ⟨cs, _, h2⟩ := hk.slots t _ (look_mem hl)
  obtain ⟨u, _, h3, _⟩ := oks_get h2 hj
  exact h (slRead.le h3.1.1) a w ⟨g, hs, hk⟩
end
section plain
variable {κ α : Type} [DecidableEq κ]
def mget (k : κ) : List (κ × α) → Option α
  | [] => none
  | x :: D => if k = x.1 then some x.2 else mget k D
def mput (k : κ) (v : α) : List (κ × α) → List (κ × α)
  | [] => [(k, v)]
  | x :: D => if k = x.1 then (k, v) :: D else x :: mput k v D
theorem mput_keys {a : κ} {v : α} {D : List (κ × α)} : (mput a v D).map (·.1) = if a ∈ D.map (·.1) then D.map (·.1) else D.map (·.1) ++ [a] := by
  induction D with
  | nil => simp [mput]
  | cons x D ih =>
    rw [mput]
    split
    · rename_i e
      simp [e]
    · rename_i e
      rw [List.map_cons, ih]
      by_cases h : a ∈ D.map (·.1)
      · rw [if_pos h, if_pos (by simp [h])]; simp
      · rw [if_neg h, if_neg (by simp [e]; simpa using h)]; simp
theorem mput_nodup {a : κ} {v : α} {D : List (κ × α)} (hn : (D.map (·.1)).Nodup) : ((mput a v D).map (·.1)).Nodup := by
  rw [mput_keys]
  split
  · exact hn
  · rename_i h
    rw [List.nodup_append]
    exact ⟨hn, by simp, fun x hx y hy => by simp at hy; subst hy; exact fun e => h (e ▸ hx)⟩
theorem mget_put {a b : κ} {v : α} {D : List (κ × α)} : mget b (mput a v D) = if b = a then some v else mget b D := by
  induction D with
  | nil => simp only [mput, mget]
  | cons x D ih =>
    rw [mput]
    split
    · rename_i e
      simp only [mget, ← e]
      split <;> simp_all
    · rename_i e
      simp only [mget]
      split
      · rename_i e2
        have : b ≠ a := fun e3 => e (by rw [← e3, e2])
        simp [this]
      · exact ih
theorem mget_mem {a : κ} {v : α} {D : List (κ × α)} (hn : (D.map (·.1)).Nodup) : mget a D = some v ↔ (a, v) ∈ D := by
  induction D with
  | nil => simp [mget]
  | cons x D ih =>
    rw [List.map_cons, List.nodup_cons] at hn
    simp only [mget]
    split
    · rename_i e
      subst e
      simp only [Option.some.injEq, List.mem_cons]
      constructor
      · rintro rfl; exact .inl rfl
      · rintro (h | h)
        · rw [← h]
        · exact absurd (List.mem_map_of_mem (f := (·.1)) h) hn.1
    · rename_i e
      rw [ih hn.2, List.mem_cons]
      constructor
      · exact .inr
      · rintro (h | h)
        · exact absurd (by rw [← h]) e
        · exact h
theorem mget_none {a : κ} {D : List (κ × α)} : mget a D = none ↔ a ∉ D.map (·.1) := by
  induction D with
  | nil => simp [mget]
  | cons x D ih =>
    simp only [mget]
    split
    · rename_i e; simp [e]
    · rename_i e
      rw [ih]
      simp [e]
end plain
section
variable {κ α : Type} [DecidableEq κ]
def mapRead (enc : κ → Value) (T : Ty α) (D : List (κ × α)) (g : Gh) (L : Array MapEntry × Nat) : Prop :=
  ∃ D0 : List (κ × Value), (L.1.toList.map (fun e => (e.key, e.val)) = D0.map (fun x => (enc x.1, x.2)) ∧ (L.1.toList.map (·.born)).Pairwise (· < ·) ∧ ∀ e ∈ L.1.toList, e.born < L.2) ∧ D0.map (·.1) = D.map (·.1) ∧ (D.map (·.1)).Nodup ∧ ∀ (q : Nat) (x : κ × Value) (y : κ × α), D0[q]? = some x → D[q]? = some y → (T.sv y.2).ok g hs0 x.2
def mapR (enc : κ → Value) (T : Ty α) (D : List (κ × α)) : Rl (Array MapEntry × Nat) := ⟨mapRead enc T D, fun g g' L h ⟨D0, h1, h2, h3, h4⟩ => ⟨D0, h1, h2, h3, fun q x y hx hy => SV.mono h (h4 q x y hx hy)⟩⟩
def MapAs (enc : κ → Value) (T : Ty α) (D : List (κ × α)) (r : Rl (Array MapEntry × Nat)) : Prop := ∀ g p, r.R g p → mapRead enc T D g p
omit [DecidableEq κ] in
theorem mapAs (enc : κ → Value) (T : Ty α) (D : List (κ × α)) : MapAs enc T D (mapR enc T D) := fun _ _ h => h
def mapXR (enc : κ → Value) (T : Ty α) (D : List (κ × α)) (es : Array MapEntry) (clock : Nat) : Rl (Array MapEntry × Nat) := ⟨fun g p => p = (es, clock) ∧ mapRead enc T D g p, fun g g' L h ⟨e, k⟩ => ⟨e, (mapR enc T D).mono g g' L h k⟩⟩
abbrev mapX (enc : κ → Value) (T : Ty α) (D : List (κ × α)) (es : Array MapEntry) (clock : Nat) : Item := .map (mapXR enc T D es clock)
omit [DecidableEq κ] in
theorem mapXAs (enc : κ → Value) (T : Ty α) (D : List (κ × α)) (es : Array MapEntry) (clock : Nat) : MapAs enc T D (mapXR enc T D es clock) := fun _ _ h => h.2
abbrev mapI (enc : κ → Value) (T : Ty α) (D : List (κ × α)) : Item := .map (mapR enc T D)
theorem pairs_get {T : Ty α} {g : Gh} {k : κ} : ∀ {D0 : List (κ × Value)} {D : List (κ × α)}, D0.map (·.1) = D.map (·.1) → (∀ (q : Nat) (x : κ × Value) (y : κ × α), D0[q]? = some x → D[q]? = some y → (T.sv y.2).ok g hs0 x.2) →
    (lookD k D0 = none ∧ mget k D = none) ∨ ∃ v y, lookD k D0 = some v ∧ mget k D = some y ∧ (T.sv y).ok g hs0 v := by
  have key : ∀ (D0 : List (κ × Value)) (D : List (κ × α)) (i : Nat), D0.map (·.1) = D.map (·.1) → (∀ (q : Nat) (x : κ × Value) (y : κ × α), D0[q]? = some x → D[q]? = some y → (T.sv y.2).ok g hs0 x.2) →
      ((findD k D0 i).map (·.2) = none ∧ mget k D = none) ∨ ∃ v y, (findD k D0 i).map (·.2) = some v ∧ mget k D = some y ∧ (T.sv y).ok g hs0 v := by
    intro D0
    induction D0 with
    | nil => intro D i h _; cases D with
      | nil => exact .inl ⟨rfl, rfl⟩
      | cons _ _ => cases h
    | cons x D0 ih =>
      intro D i h hp
      cases D with
      | nil => cases h
      | cons y D =>
        simp only [List.map_cons, List.cons.injEq] at h
        simp only [findD, mget, ← h.1]
        split
        · exact .inr ⟨x.2, y.2, rfl, rfl, hp 0 x y rfl rfl⟩
        · exact ih D (i + 1) h.2 (fun q a b ha hb => hp (q + 1) a b (by simpa using ha) (by simpa using hb))
  intro D0 D h1 h2
  exact key D0 D 0 h1 h2
theorem pairs_put {T : Ty α} {g : Gh} {k : κ} {v : Value} {y : α} (hv : (T.sv y).ok g hs0 v) : ∀ {D0 : List (κ × Value)} {D : List (κ × α)}, D0.map (·.1) = D.map (·.1) → (∀ (q : Nat) (x : κ × Value) (y : κ × α), D0[q]? = some x → D[q]? = some y → (T.sv y.2).ok g hs0 x.2) →
    (putD k v D0).map (·.1) = (mput k y D).map (·.1) ∧ ∀ (q : Nat) (x : κ × Value) (y' : κ × α), (putD k v D0)[q]? = some x → (mput k y D)[q]? = some y' → (T.sv y'.2).ok g hs0 x.2 := by
  intro D0
  induction D0 with
  | nil => intro D h _; cases D with
    | nil =>
      refine ⟨rfl, fun q x y' hx hy => ?_⟩
      cases q with
      | zero => simp [putD, mput] at hx hy; subst hx hy; exact hv
      | succ q => simp [putD] at hx
    | cons _ _ => cases h
  | cons x D0 ih =>
    intro D h hp
    cases D with
    | nil => cases h
    | cons z D =>
      simp only [List.map_cons, List.cons.injEq] at h
      simp only [putD, mput, ← h.1]
      split
      · refine ⟨by simp [h.2], fun q a b ha hb => ?_⟩
        cases q with
        | zero => simp at ha hb; subst ha hb; exact hv
        | succ q => exact hp (q + 1) a b (by simpa using ha) (by simpa using hb)
      · obtain ⟨i1, i2⟩ := ih h.2 (fun q a b ha hb => hp (q + 1) a b (by simpa using ha) (by simpa using hb))
        refine ⟨by simp [h.1, i1], fun q a b ha hb => ?_⟩
        cases q with
        | zero => simp at ha hb; subst ha hb; exact hp 0 x z rfl rfl
        | succ q => exact i2 q a b (by simpa using ha) (by simpa using hb)
end
def knownL : List At → Option (List Value)
  | [] => some []
  | .v x :: l => match knownL l with
    | some r => some (x :: r)
    | none => none
  | _ :: _ => none
def evKV (F : List (Nat × SC)) (o : Operand) : Option Value := match evX F o with
  | some (.sv (.one (.v x))) => some x
  | some (.sv (.agg l)) => match knownL l with
    | some r => some (.agg r.toArray)
    | none => none
  | _ => none
theorem knownL_ok {g : Gh} {hs : Nat → Value} : ∀ {l : List At} {r us : List Value}, knownL l = some r → oks g hs l us → us = r
  | [], r, us, e, h => by
    cases e
    cases us with
    | nil => rfl
    | cons _ _ => exact h.elim
  | a :: l, r, us, e, h => by
    cases a <;> try (cases e; done)
    rename_i x
    simp only [knownL] at e
    split at e
    case h_2 => cases e
    rename_i r' hr
    cases e
    cases us with
    | nil => exact h.elim
    | cons u us =>
      have h1 : u = x := h.1.1
      rw [h1, knownL_ok hr h.2.2]
section
variable {κ α : Type} [DecidableEq κ] {enc : κ → Value} {T : Ty α} {D : List (κ × α)}
variable {c : Cfg} {S S1 : St} {a : Act} {w : World} {g : Gh} {hs : Nat → Value} {tab : Tab} {n : Nat} {o : Oper} {ops : Array Oper} {rest L : List Oper} {N : Po}
theorem evKV_ok (h : Ok' c S a w g hs) {x : Operand} {v : Value} (e : evKV S.F x = some v) : a.eval x = v := by
  unfold evKV at e
  split at e
  · rename_i y hy
    cases e
    exact (evX_ok h hy).1
  · rename_i l hl
    split at e
    case h_2 => cases e
    rename_i r hr
    cases e
    obtain ⟨cs, h1, h2⟩ := evX_ok h hl
    rw [h1, knownL_ok hr h2]
  · cases e
omit [DecidableEq κ] in
theorem map_ownR {r : Rl (Array MapEntry × Nat)} (h : Ok' c S a w g hs) {i : Nat} (hm : S.M[i]? = some (.map r)) (hr : MapAs enc T D r) : ∃ m D0, hs i = .map (some m) ∧ OwnMap enc w m D0 ∧ D0.map (·.1) = D.map (·.1) ∧ (D.map (·.1)).Nodup ∧ ∀ (q : Nat) (x : κ × Value) (y : κ × α), D0[q]? = some x → D[q]? = some y → (T.sv y.2).ok g hs0 x.2 := by
  obtain ⟨m, es, clock, h1, h2, hx⟩ := h.items i _ hm
  obtain ⟨D0, ⟨h6, h4, h5⟩, h7, h8, h9⟩ := hr _ _ hx
  exact ⟨m, D0, h1, ⟨es, clock, h2, h6, by rw [h7]; exact h8, h4, h5⟩, h7, h8, h9⟩
omit [DecidableEq κ] in
theorem map_own (h : Ok' c S a w g hs) {i : Nat} (hm : S.M[i]? = some (mapI enc T D)) : ∃ m D0, hs i = .map (some m) ∧ OwnMap enc w m D0 ∧ D0.map (·.1) = D.map (·.1) ∧ (D.map (·.1)).Nodup ∧ ∀ (q : Nat) (x : κ × Value) (y : κ × α), D0[q]? = some x → D[q]? = some y → (T.sv y.2).ok g hs0 x.2 := map_ownR h hm (mapAs enc T D)
omit [DecidableEq κ] in
theorem mt_makeMap (enc : κ → Value) (T : Ty α) (p : Nat) {t : Nat} (ho : o.op = .makeMap t none) : MT c S o (.sv (.one (.own p))) [] (some (p, mapI enc T [])) := fun a w g hs h N Z hN => by
  unfold Oper.wp
  have hrun : (execOp a.eval o).run Tryz.prog w = .ok (.value (.map (some w.heap.size))) (w.alloc (.map #[] 0)) := by
    have : execOp a.eval o = (do pure (.value (← Instr.makeMap t none)) : Sem Next) := by unfold execOp; rw [ho]; rfl
    rw [this]
    refine run_valW ?_
    simp [Instr.makeMap, newObj, Sem.run]
  rw [hrun]
  refine hN _ _ g (.map (some w.heap.size)) ⟨rfl, rfl, rfl, by simp, fun b hb _ => (World.grownBy_alloc w _ none).block b hb (by simp), Gh.le.refl g, fun b o e => .inl e, fun b o e => ?_⟩ ⟨?_, trivial⟩ ⟨⟨w.heap.size, #[], 0, rfl, heap_alloc_new w _, [], ⟨rfl, by simp, by simp⟩, rfl, by simp, fun q x y hx => by simp at hx⟩, fun b hb => ?_⟩
  · exact ((World.grownBy_alloc w _ none).block b (h.base.pers.lt e) (by simp)).trans (h.base.pers b o e)
  · show _ = (if p = p then _ else hs p)
    rw [if_pos rfl]
  · cases hb
    refine ⟨by simp, fun _ => ?_, .inl (Nat.le_refl _)⟩
    cases hgb : g w.heap.size with
    | none => rfl
    | some o => have := h.base.pers.lt hgb; omega
def lookOut (T : Ty α) (z : α) (r : Option α) (ok : Bool) : SC := match ok with
  | true => .tup [T.sv (r.getD z), .one (B r.isSome)]
  | false => .sv (T.sv (r.getD z))
theorem val_lookup {kt e t i : Nat} (K : KeyLaw kt enc) {k : κ} {m x : Operand} {ok : Bool} (z : α) {zv : Value} (ho : o.op = .lookup t m x ok) (ht : Tryz.prog.underlying t = some (.map kt e)) (hz : ∀ w, (zeroValue e).run Tryz.prog w = .ok zv w) (hz2 : ∀ g, (T.sv z).ok g hs0 zv)
    {r : Rl (Array MapEntry × Nat)} (hr : MapAs enc T D r) (hm : evX S.F m = some (.sv (.one (.own i)))) (hi : S.M[i]? = some (.map r)) (hx : evKV S.F x = some (enc k)) (hc : ∀ a, (T.sv a).refs = []) : Val c S o (lookOut T z (mget k D) ok) := fun a w g hs h => by
  obtain ⟨b, D0, h1, h2, h3, h4, h5⟩ := map_ownR h hi hr
  have hv : a.eval m = .map (some b) := (evX_ok h hm).1.trans h1
  have hrun := h2.look K ht hz k ok
  have : (execOp a.eval o).run Tryz.prog w = .ok (.value (lookV ok zv (lookD k D0))) w := by
    have e : execOp a.eval o = (do pure (.value (← Instr.lookup t (a.eval m) (a.eval x) ok)) : Sem Next) := by unfold execOp; rw [ho]
    rw [e, hv, evKV_ok h hx]
    exact run_val hrun
  refine ⟨_, this, ?_⟩
  have up : ∀ {s : SV} {v : Value}, s.refs = [] → s.ok g hs0 v → s.ok g hs v := fun hc h => SV.ok_hs (fun i hi => by rw [hc] at hi; cases hi) h
  rcases pairs_get (k := k) h3 h5 with ⟨e1, e2⟩ | ⟨v, y, e1, e2, e3⟩
  · rw [e1, e2]
    cases ok with
    | true => exact ⟨[zv, .bool false], rfl, up (hc _) (hz2 g), ⟨rfl, trivial⟩, trivial⟩
    | false => exact up (hc _) (hz2 g)
  · rw [e1, e2]
    cases ok with
    | true => exact ⟨[v, .bool true], rfl, up (hc _) e3, ⟨rfl, trivial⟩, trivial⟩
    | false => exact up (hc _) e3
theorem WL.mapPut {kt e t i : Nat} (K : KeyLaw kt enc) {k : κ} {y : α} {m x v : Operand} (hn : c.n = n) (hw : wantE ops S.F o = some true) (ho : o.op = .mapUpdate t m x v ∨ o.op = .insert t m x v) (ht : Tryz.prog.underlying t = some (.map kt e))
    (hm : evX S.F m = some (.sv (.one (.own i)))) (hi : S.M[i]? = some (mapI enc T D)) (hx : evKV S.F x = some (enc k)) (hv : evX S.F v = some (.sv (T.sv y))) (hc : (T.sv y).refs = [])
    (e : putE n o.dst (.tup []) ⟨S.F, S.M.set i (mapI enc T (mput k y D))⟩ = some S1) (h : WL c ops rest S1 N) : WL c ops (o :: rest) S N := fun a w ⟨g, hs, hk⟩ => by
  unfold wpList
  rw [if_pos (wantE_ok hk hw)]
  refine .inl ?_
  unfold Oper.wp
  obtain ⟨b, D0, h1, h2, h3, h4, h5⟩ := map_own hk hi
  have hmv : a.eval m = .map (some b) := (evX_ok hk hm).1.trans h1
  have hval : (T.sv y).ok g hs0 (a.eval v) := SV.ok_hs (fun i hi => by rw [hc] at hi; cases hi) (evX_ok hk hv)
  obtain ⟨w', r1, ⟨es, clock, r2, r3, _, r4, r5⟩, rg⟩ := h2.put K ht k (a.eval v)
  have hrun : (execOp a.eval o).run Tryz.prog w = .ok .skip w' := by
    have e : execOp a.eval o = (do Instr.mapUpdate t (a.eval m) (a.eval x) (a.eval v); pure .skip : Sem Next) := by
      unfold execOp
      rcases ho with ho | ho <;> rw [ho]
    rw [e, hmv, evKV_ok hk hx, Sem.run_bind, r1]
    simp
  rw [hrun]
  obtain ⟨p1, p2⟩ := pairs_put (k := k) hval h3 h5
  have hup := hk.upd (w' := w') (it' := mapI enc T (mput k y D)) hi rfl rfl (by rw [h1]; exact rg) ⟨b, es, clock, h1, r2, putD k (a.eval v) D0, ⟨r3, r4, r5⟩, p1, mput_nodup h4, p2⟩
  exact h _ _ ⟨g, hs, putE_ok hup hn undef_ok e⟩
end
structure CI where
  it : Item
  born : Option Nat
  kill : Option Nat
  upd : Option (Nat × Item)
structure Cert where
  F0 : List (Nat × SC)
  xs : List SC
  ci : List CI
def Cert.x (C : Cert) (i : Nat) : SC := C.xs.getD i (.tup [])
def lv (L : Nat → Bool) : Option Nat → Bool
  | none => true
  | some b => L b
def lk (L : Nat → Bool) : Option Nat → Bool
  | none => false
  | some b => L b
def CI.cur (L : Nat → Bool) (e : CI) : Item := match e.upd with
  | some (u, it') => match L u with
    | true => it'
    | false => e.it
  | none => e.it
def CI.at (L : Nat → Bool) (e : CI) : Item := match lv L e.born && !(lk L e.kill) with
  | true => e.cur L
  | false => .gone
def Cert.ML (C : Cert) (L : Nat → Bool) : List Item := C.ci.map (CI.at L)
def doneD (ops : List Oper) (L : Nat → Bool) (t : Nat) : Bool := ops.zipIdx.any fun x => match L x.2 with
  | true => (match x.1.dst with
    | some d => Nat.beq d t
    | none => false)
  | false => false
theorem doneD_iff {ops : List Oper} {L : Nat → Bool} {t : Nat} : doneD ops L t = true ↔ ∃ (i : Nat) (o : Oper), ops[i]? = some o ∧ L i = true ∧ o.dst = some t := by
  unfold doneD
  rw [List.any_eq_true]
  constructor
  · rintro ⟨⟨o, i⟩, h1, h2⟩
    have h3 := List.mem_zipIdx_iff_getElem?.1 h1
    cases hL : L i with
    | false => simp only [hL] at h2; cases h2
    | true =>
      simp only [hL] at h2
      cases hd : o.dst with
      | none => rw [hd] at h2; cases h2
      | some d =>
        rw [hd] at h2
        exact ⟨i, o, h3, hL, by rw [hd, Nat.eq_of_beq_eq_true h2]⟩
  · rintro ⟨i, o, h1, h2, h3⟩
    refine ⟨(o, i), List.mem_zipIdx_iff_getElem?.2 h1, ?_⟩
    simp [h2, h3]
def Cert.FL (C : Cert) (ops : List Oper) (L : Nat → Bool) : List (Nat × SC) := (ops.zipIdx.filterMap fun x => match L x.2 with
  | true => x.1.dst.map fun d => (d, C.x x.2)
  | false => none) ++ C.F0.filter fun e => !(doneD ops L e.1)
def onE (o : Oper) : List Nat := (o.after.toList.filter (Region.binds .any)).map (·.on)
def dstE (ops : List Oper) (i : Nat) : Option Nat := match ops[i]? with
  | some o => o.dst
  | none => none
def onI (ops : List Oper) (i : Nat) : List Nat := match ops[i]? with
  | some o => onE o
  | none => []
def closE (ops : List Oper) : Nat → List Nat → List Nat
  | 0, s => s
  | i + 1, s => match s.contains i with
    | true => closE ops i (s ++ onI ops i)
    | false => closE ops i s
def refE (C : Cert) (ops : List Oper) (j : Option Nat) (r : Nat) : Bool := match C.ci[r]? with
  | none => true
  | some e => match e.born with
    | none => true
    | some b => match j with
      | none => false
      | some j => Nat.beq b j || ((onI ops j).contains b || (closE ops j (onI ops j)).contains b)
def nodupB : List Nat → Bool
  | [] => true
  | x :: l => !(l.contains x) && nodupB l
def chkE (C : Cert) (ops : List Oper) : Bool :=
  (ops.zipIdx.all fun x => (onE x.1).all fun j => Nat.blt j x.2) &&
  nodupB (ops.filterMap (·.dst)) &&
  (ops.zipIdx.all fun x => match x.1.dst with
    | some _ => (C.x x.2).refs.all (refE C ops (some x.2))
    | none => true) &&
  (C.F0.all fun x => x.2.refs.all (refE C ops none)) &&
  (C.ci.all fun e => e.it.refs.all (refE C ops e.born) && (match e.upd with
    | some (u, it') => it'.refs.all (refE C ops (some u)) && (match e.born with
      | some b => (onI ops u).contains b
      | none => true)
    | none => true) && (match e.kill with
    | some k => (match e.born with
      | some b => (onI ops k).contains b
      | none => true)
    | none => true))
def lateE (ops : List Oper) (i t : Nat) : Bool := ops.zipIdx.all fun x => match x.1.dst with
  | some d => match Nat.beq d t with
    | true => Nat.beq x.2 i || (onI ops x.2).contains i
    | false => true
  | none => true
def needF (C : Cert) (ops : List Oper) (i t : Nat) : Option SC := match (onI ops i).find? (fun j => match dstE ops j with
    | some d => Nat.beq d t
    | none => false) with
  | some j => some (C.x j)
  | none => match lateE ops i t with
    | true => look t C.F0
    | false => none
def needM (C : Cert) (ops : List Oper) (i q : Nat) : Option Item := match C.ci[q]? with
  | none => none
  | some e => match (match e.born with
      | none => true
      | some b => (onI ops i).contains b) && (match e.kill with
      | none => true
      | some k => Nat.beq k i || (onI ops k).contains i) with
    | false => none
    | true => match e.upd with
      | none => some e.it
      | some (u, it') => match (onI ops i).contains u with
        | true => some it'
        | false => match (Nat.beq u i || (onI ops u).contains i) || (closE ops u (onI ops u)).contains i with
          | true => some e.it
          | false => none
def fitsE (C : Cert) (ops : List Oper) (i : Nat) (S : St) : List (Option SC) × List (Option Item) := (S.F.map fun e => needF C ops i e.1, S.M.zipIdx.map fun x => match x.1 with
  | .gone => none
  | _ => needM C ops i x.2)
def fitsX (S : St) : List (Option SC) × List (Option Item) := (S.F.map fun e => some e.2, S.M.map fun x => match x with
  | .gone => none
  | it => some it)
def MU (c : Cfg) (S : St) (o : Oper) (q : Nat) (it' : Item) : Prop :=
  ∀ a w g hs, Ok' c S a w g hs → ∀ N Z : Po, (∀ v w', w.grownBy w' (blk (hs q)) → it'.ok g hs w' (hs q) → N (a.put o.dst v) w') → o.wp Tryz.prog a w N (OnlyP c Z)
def ME (c : Cfg) (S : St) (o : Oper) (x : SC) (us : List (Nat × Item)) : Prop :=
  ∀ a w g hs, Ok' c S a w g hs → ∀ N Z : Po, (∀ v w' g', Eff hs (us.map (·.1)) w g w' g' → (∀ q ∈ us.map (·.1), ∀ b, Blk (hs q) b → g' b = none) → x.ok g' hs v → (∀ p ∈ us, p.2.ok g' hs w' (hs p.1)) → N (a.put o.dst v) w') → o.wp Tryz.prog a w N (OnlyP c Z)
def bornE (C : Cert) (i : Nat) : List Nat := (C.ci.zipIdx.filter fun x => match x.1.born with
  | some b => Nat.beq b i
  | none => false).map (·.2)
def killE (C : Cert) (i : Nat) : List Nat := (C.ci.zipIdx.filter fun x => match x.1.kill with
  | some b => Nat.beq b i
  | none => false).map (·.2)
def updE (C : Cert) (i : Nat) : List Nat := (C.ci.zipIdx.filter fun x => match x.1.upd with
  | some (b, _) => Nat.beq b i
  | none => false).map (·.2)
def UpsOk (C : Cert) (i : Nat) (S : St) : List (Nat × Item) → Prop
  | [] => True
  | p :: l => (∃ e, C.ci[p.1]? = some e ∧ e.upd = some (i, p.2) ∧ S.M[p.1]? = some e.it ∧ e.it.fz = false ∧ p.2.fz = false) ∧ UpsOk C i S l
theorem upsOk_mem {C : Cert} {i : Nat} {S : St} : ∀ {us : List (Nat × Item)}, UpsOk C i S us → ∀ p ∈ us, ∃ e, C.ci[p.1]? = some e ∧ e.upd = some (i, p.2) ∧ S.M[p.1]? = some e.it ∧ e.it.fz = false ∧ p.2.fz = false
  | [], _, p, hp => by simp at hp
  | x :: l, h, p, hp => by
    rcases List.mem_cons.1 hp with rfl | hp
    · exact h.1
    · exact upsOk_mem h.2 p hp
def setIt : List Item → List (Nat × Item) → List Item
  | M, [] => M
  | M, p :: l => setIt (M.set p.1 p.2) l
theorem setIt_get : ∀ {us : List (Nat × Item)} {M : List Item} {i : Nat} {it : Item}, (setIt M us)[i]? = some it → (∃ p ∈ us, p.1 = i ∧ p.2 = it) ∨ (i ∉ us.map (·.1) ∧ M[i]? = some it)
  | [], M, i, it, h => .inr ⟨by simp, h⟩
  | p :: us, M, i, it, h => by
    rcases setIt_get (us := us) (M := M.set p.1 p.2) h with ⟨q, h1, h2⟩ | ⟨h1, h2⟩
    · exact .inl ⟨q, List.mem_cons_of_mem _ h1, h2⟩
    · rw [List.getElem?_set] at h2
      by_cases e : p.1 = i
      · rw [if_pos e] at h2
        split at h2
        · simp at h2
          exact .inl ⟨p, List.mem_cons_self, e, h2⟩
        · cases h2
      · rw [if_neg e] at h2
        refine .inr ⟨?_, h2⟩
        rw [List.map_cons, List.mem_cons, not_or]
        exact ⟨Ne.symm e, h1⟩
theorem setIt_len : ∀ {us : List (Nat × Item)} {M : List Item}, (setIt M us).length = M.length
  | [], _ => rfl
  | p :: us, M => by
    show (setIt (M.set p.1 p.2) us).length = _
    rw [setIt_len, List.length_set]
theorem setIt_out : ∀ {us : List (Nat × Item)} {M : List Item} {i : Nat}, i ∉ us.map (·.1) → (setIt M us)[i]? = M[i]?
  | [], _, _, _ => rfl
  | p :: us, M, i, h => by
    rw [List.map_cons, List.mem_cons, not_or] at h
    show (setIt (M.set p.1 p.2) us)[i]? = _
    rw [setIt_out h.2, List.getElem?_set, if_neg (Ne.symm h.1)]
def CI.un (u0 : Nat) (e : CI) : CI := match e.upd with
  | some (u, it') => match Nat.beq u u0 with
    | true => { e with upd := none }
    | false => { e with upd := some (u, it') }
  | none => e
def CI.did (u0 : Nat) (e : CI) : CI := match e.upd with
  | some (u, it') => match Nat.beq u u0 with
    | true => { e with it := it', upd := none }
    | false => { e with upd := some (u, it') }
  | none => e
def Cert.un (C : Cert) (u0 : Nat) : Cert := { C with ci := C.ci.map (CI.un u0) }
def Cert.did (C : Cert) (u0 : Nat) : Cert := { C with ci := C.ci.map (CI.did u0) }
theorem CI.un_at {L : Nat → Bool} {u0 : Nat} (h : L u0 = false) (e : CI) : (e.un u0).at L = e.at L := by
  rcases e with ⟨it, born, kill, upd⟩
  unfold CI.un
  cases upd with
  | none => rfl
  | some x =>
    obtain ⟨u, it'⟩ := x
    simp only
    split
    · rename_i hb
      have := Nat.eq_of_beq_eq_true hb
      subst this
      unfold CI.at CI.cur
      simp only [h]
    · rfl
theorem CI.did_at {L : Nat → Bool} {u0 : Nat} (h : L u0 = true) (e : CI) : (e.did u0).at L = e.at L := by
  rcases e with ⟨it, born, kill, upd⟩
  unfold CI.did
  cases upd with
  | none => rfl
  | some x =>
    obtain ⟨u, it'⟩ := x
    simp only
    split
    · rename_i hb
      have := Nat.eq_of_beq_eq_true hb
      subst this
      unfold CI.at CI.cur
      simp only [h]
    · rfl
theorem Cert.un_ML {C : Cert} {L : Nat → Bool} {u0 : Nat} (h : L u0 = false) : (C.un u0).ML L = C.ML L := by
  unfold Cert.ML Cert.un
  rw [List.map_map]
  exact List.map_congr_left fun e _ => CI.un_at h e
theorem Cert.did_ML {C : Cert} {L : Nat → Bool} {u0 : Nat} (h : L u0 = true) : (C.did u0).ML L = C.ML L := by
  unfold Cert.ML Cert.did
  rw [List.map_map]
  exact List.map_congr_left fun e _ => CI.did_at h e
inductive StepOk (c : Cfg) (C : Cert) (ops : List Oper) (i : Nat) (o : Oper) : Prop
  | mt (S : St) (K : List Nat) (p : Option Nat) (hf : fitsE C ops i S = fitsX S) (hw : wantE ops.toArray S.F o = some true) (hm : MT c S o (C.x i) K (p.bind fun q => (C.ci[q]?).map fun e => (q, e.it)))
      (hk : killE C i = K) (hb : bornE C i = p.toList) (hu : updE C i = []) (huse : usable S K = true)
  | mu (S : St) (q : Nat) (e : CI) (it' : Item) (he : C.ci[q]? = some e) (heu : e.upd = some (i, it')) (hf : fitsE C ops i S = fitsX S) (hw : wantE ops.toArray S.F o = some true) (hm : MU c S o q it') (hk : killE C i = []) (hb : bornE C i = []) (hu : updE C i = [q])
      (hq : S.M[q]? = some e.it) (h1 : e.it.fz = false) (h2 : it'.fz = false) (hd : o.dst = none)
  | me (S : St) (us : List (Nat × Item)) (hf : fitsE C ops i S = fitsX S) (hw : wantE ops.toArray S.F o = some true) (hm : ME c S o (C.x i) us) (hk : killE C i = []) (hb : bornE C i = []) (hu : updE C i = us.map (·.1)) (huq : UpsOk C i S us)
  | two (u0 : Nat) (S S' : St) (hf : fitsE (C.un u0) ops i S = fitsX S) (hf' : fitsE (C.did u0) ops i S' = fitsX S') (hw : wantE ops.toArray S.F o = some true) (hw' : wantE ops.toArray S'.F o = some true) (hm : MT c S o (C.x i) [] none) (hm' : MT c S' o (C.x i) [] none)
      (hk : killE C i = []) (hb : bornE C i = []) (hu : updE C i = [])
  | skip (S : St) (hf : fitsE C ops i S = fitsX S) (hw : wantE ops.toArray S.F o = some false) (hx : C.x i = .tup []) (hk : killE C i = []) (hb : bornE C i = []) (hu : updE C i = [])
def StepsOk (c : Cfg) (C : Cert) (ops : List Oper) : Nat → List Oper → Prop
  | _, [] => True
  | i, o :: l => StepOk c C ops i o ∧ StepsOk c C ops (i + 1) l
theorem stepsOk_get {c : Cfg} {C : Cert} {ops : List Oper} : ∀ {l : List Oper} {k : Nat}, StepsOk c C ops k l → ∀ (i : Nat) (o : Oper), l[i]? = some o → StepOk c C ops (k + i) o
  | [], _, _, i, o, h => by simp at h
  | x :: l, k, hs, 0, o, h => by simp at h; subst h; exact hs.1
  | x :: l, k, hs, i + 1, o, h => by
    have := stepsOk_get hs.2 i o (by simpa using h)
    rwa [show k + 1 + i = k + (i + 1) by omega] at this
theorem FL_mem {C : Cert} {ops : List Oper} {L : Nat → Bool} {t : Nat} {y : SC} : (t, y) ∈ C.FL ops L ↔ (∃ (i : Nat) (o : Oper), ops[i]? = some o ∧ L i = true ∧ o.dst = some t ∧ y = C.x i) ∨ ((t, y) ∈ C.F0 ∧ doneD ops L t = false) := by
  unfold Cert.FL
  rw [List.mem_append, List.mem_filterMap]
  refine or_congr ⟨?_, ?_⟩ (by simp [List.mem_filter])
  · rintro ⟨⟨o, i⟩, h1, h2⟩
    have h3 := List.mem_zipIdx' h1
    cases hL : L i with
    | false => simp only [hL] at h2; cases h2
    | true =>
      simp only [hL] at h2
      cases hd : o.dst with
      | none => rw [hd] at h2; cases h2
      | some d =>
        rw [hd] at h2
        simp at h2
        refine ⟨i, o, ?_, hL, by rw [hd, h2.1], h2.2.symm⟩
        obtain ⟨h4, h5⟩ := h3
        rw [List.getElem?_eq_getElem h4, ← h5]
  · rintro ⟨i, o, h1, h2, h3, rfl⟩
    refine ⟨(o, i), ?_, by simp [h2, h3]⟩
    obtain ⟨h4, h5⟩ := List.getElem?_eq_some_iff.1 h1
    rw [List.mem_zipIdx_iff_getElem?]
    exact h1
theorem Ok'.subM {c : Cfg} {S S1 : St} {a : Act} {w : World} {g : Gh} {hs : Nat → Value} (hF : ∀ e ∈ S.F, e ∈ S1.F) (hM : itemsOf S1.M S.M) (h : Ok' c S1 a w g hs) : Ok' c S a w g hs := by
  have hm : ∀ (i : Nat) (it : Item), S.M[i]? = some it → it ≠ .gone → S1.M[i]? = some it := fun i it hi hn => (hM i it hi).resolve_left hn
  refine ⟨h.size, h.defers, h.base, fun t x hx => h.slots t x (hF _ hx), fun i it hi => ?_, fun i j it jt hij hi hj hfi hnj => h.sep i j it jt hij (hm i it hi (fz_gone hfi)) (hm j jt hj hnj) hfi hnj, fun i it hi hni => h.mine i it (hm i it hi hni) hni⟩
  rcases hM i it hi with rfl | h1
  · trivial
  · exact h.items i it h1
theorem nodupB_ok : ∀ {l : List Nat}, nodupB l = true → l.Nodup
  | [], _ => List.nodup_nil
  | x :: l, h => by
    simp only [nodupB, Bool.and_eq_true, Bool.not_eq_true', List.contains_iff_mem] at h
    rw [List.nodup_cons]
    refine ⟨fun hx => ?_, nodupB_ok h.2⟩
    have := h.1
    simp [List.contains_iff_mem, hx] at this
structure Chk (C : Cert) (ops : List Oper) : Prop where
  below : ∀ (i : Nat) (o : Oper), ops[i]? = some o → ∀ j ∈ onE o, j < i
  nodup : (ops.filterMap (·.dst)).Nodup
  refsX : ∀ (i : Nat) (o : Oper), ops[i]? = some o → o.dst ≠ none → ∀ r ∈ (C.x i).refs, refE C ops (some i) r = true
  refs0 : ∀ e ∈ C.F0, ∀ r ∈ e.2.refs, refE C ops none r = true
  refsM : ∀ e ∈ C.ci, ∀ r ∈ e.it.refs, refE C ops e.born r = true
  refsU : ∀ e ∈ C.ci, ∀ u it', e.upd = some (u, it') → (∀ r ∈ it'.refs, refE C ops (some u) r = true) ∧ ∀ b, e.born = some b → b ∈ onI ops u
  killB : ∀ e ∈ C.ci, ∀ k b, e.kill = some k → e.born = some b → b ∈ onI ops k
theorem chk_of {C : Cert} {ops : List Oper} (h : chkE C ops = true) : Chk C ops := by
  simp only [chkE, Bool.and_eq_true] at h
  obtain ⟨⟨⟨⟨h1, h2⟩, h3⟩, h4⟩, h5⟩ := h
  have hz : ∀ {i : Nat} {o : Oper}, ops[i]? = some o → (o, i) ∈ ops.zipIdx := fun {i o} hi => List.mem_zipIdx_iff_getElem?.2 hi
  refine ⟨fun i o hi j hj => ?_, nodupB_ok h2, fun i o hi hd r hr => ?_, fun e he r hr => ?_, fun e he r hr => ?_, fun e he u it' hu => ?_, fun e he k b hk hb => ?_⟩
  · have := List.all_eq_true.1 (List.all_eq_true.1 h1 _ (hz hi)) j hj
    exact Nat.le_of_ble_eq_true this
  · have := List.all_eq_true.1 h3 _ (hz hi)
    cases hdd : o.dst with
    | none => exact absurd hdd hd
    | some d => simp only [hdd] at this; exact List.all_eq_true.1 this r hr
  · exact List.all_eq_true.1 (List.all_eq_true.1 h4 e he) r hr
  · have := List.all_eq_true.1 h5 e he
    simp only [Bool.and_eq_true] at this
    exact List.all_eq_true.1 this.1.1 r hr
  · have := List.all_eq_true.1 h5 e he
    simp only [Bool.and_eq_true, hu] at this
    refine ⟨fun r hr => List.all_eq_true.1 this.1.2.1 r hr, fun b hb => ?_⟩
    have h6 := this.1.2.2
    rw [hb] at h6
    simpa [List.contains_iff_mem] using h6
  · have := List.all_eq_true.1 h5 e he
    simp only [Bool.and_eq_true, hk, hb] at this
    simpa [List.contains_iff_mem] using this.2
def Closed' (ops : List Oper) (L : Nat → Bool) : Prop := ∀ i, L i = true → i < ops.length ∧ ∀ j ∈ onI ops i, L j = true
def addL (L : Nat → Bool) (i : Nat) : Nat → Bool := fun j => if j = i then true else L j
section
variable {c : Cfg} {C : Cert} {ops : List Oper} {L : Nat → Bool}
theorem onI_eq {i : Nat} {o : Oper} (h : ops[i]? = some o) : onI ops i = onE o := by unfold onI; rw [h]
theorem ML_get {q : Nat} {it : Item} (h : (C.ML L)[q]? = some it) (hn : it ≠ .gone) : ∃ e, C.ci[q]? = some e ∧ lv L e.born = true ∧ lk L e.kill = false ∧ it = e.cur L := by
  unfold Cert.ML at h
  rw [List.getElem?_map] at h
  cases he : C.ci[q]? with
  | none => rw [he] at h; cases h
  | some e =>
    rw [he] at h
    simp only [Option.map_some, Option.some.injEq] at h
    unfold CI.at at h
    split at h
    · rename_i hb
      simp only [Bool.and_eq_true, Bool.not_eq_true'] at hb
      exact ⟨e, rfl, hb.1, hb.2, h.symm⟩
    · exact absurd h.symm hn
theorem ML_mk {q : Nat} {e : CI} (he : C.ci[q]? = some e) (h1 : lv L e.born = true) (h2 : lk L e.kill = false) : (C.ML L)[q]? = some (e.cur L) := by
  unfold Cert.ML
  rw [List.getElem?_map, he]
  simp [CI.at, h1, h2]
theorem clos_in (hc : Closed' ops L) : ∀ {n : Nat} {s : List Nat}, (∀ x ∈ s, L x = true) → ∀ x ∈ closE ops n s, L x = true
  | 0, s, h, x, hx => h x hx
  | i + 1, s, h, x, hx => by
    unfold closE at hx
    split at hx
    · rename_i hi
      refine clos_in hc (fun y hy => ?_) x hx
      rcases List.mem_append.1 hy with hy | hy
      · exact h y hy
      · exact (hc i (h i (by simpa [List.contains_iff_mem] using hi))).2 y hy
    · exact clos_in hc h x hx
theorem ref_of (hc : Closed' ops L) {j : Option Nat} (hj : ∀ k, j = some k → L k = true) {r : Nat} (h : refE C ops j r = true) {e : CI} (he : C.ci[r]? = some e) {b : Nat} (hb : e.born = some b) : L b = true := by
  unfold refE at h
  rw [he] at h
  simp only [hb] at h
  cases j with
  | none => cases h
  | some j =>
    simp only [Bool.or_eq_true] at h
    rcases h with h | h
    · rw [Nat.eq_of_beq_eq_true h]; exact hj j rfl
    · rcases h with h | h
      · exact (hc j (hj j rfl)).2 b (by simpa [List.contains_iff_mem] using h)
      · exact clos_in hc (hc j (hj j rfl)).2 b (by simpa [List.contains_iff_mem] using h)
theorem fits_sub (hc : Closed' ops L) {i : Nat} {o : Oper} (hi : ops[i]? = some o) (hL : L i = false) (hon : ∀ j ∈ onE o, L j = true) {S : St} (hf : fitsE C ops i S = fitsX S) : (∀ e ∈ S.F, e ∈ C.FL ops L) ∧ itemsOf (C.ML L) S.M := by
  have hF := congrArg Prod.fst hf
  have hM := congrArg Prod.snd hf
  simp only [fitsE, fitsX] at hF hM
  have hoi := onI_eq hi
  constructor
  · intro e he
    obtain ⟨q, hq⟩ := List.getElem?_of_mem he
    have h1 := congrArg (·[q]?) hF
    simp [hq] at h1
    obtain ⟨t, y⟩ := e
    rw [FL_mem]
    unfold needF at h1
    split at h1
    · rename_i j hj
      have h2 := List.find?_some hj
      have h3 := List.mem_of_find?_eq_some hj
      cases h1
      unfold dstE at h2
      cases ho : ops[j]? with
      | none => rw [ho] at h2; cases h2
      | some oj =>
        rw [ho] at h2
        simp only at h2
        cases hd : oj.dst with
        | none => rw [hd] at h2; cases h2
        | some d =>
          rw [hd] at h2
          have := Nat.eq_of_beq_eq_true h2
          subst this
          exact .inl ⟨j, oj, ho, hon j (by rwa [hoi] at h3), hd, rfl⟩
    · split at h1
      case h_2 => cases h1
      rename_i hlate
      refine .inr ⟨look_mem h1, ?_⟩
      cases hdd : doneD ops L t with
      | false => rfl
      | true =>
        exfalso
        obtain ⟨k, ok, hk1, hk2, hk3⟩ := doneD_iff.1 hdd
        have h5 := List.all_eq_true.1 hlate (ok, k) (List.mem_zipIdx_iff_getElem?.2 hk1)
        simp only [hk3, Nat.beq_refl] at h5
        simp only [Bool.or_eq_true] at h5
        rcases h5 with h5 | h5
        · rw [Nat.eq_of_beq_eq_true h5, hL] at hk2
          cases hk2
        · have := (hc k hk2).2 i (by simpa [List.contains_iff_mem] using h5)
          rw [hL] at this
          cases this
  · intro q it hq
    by_cases hn : it = .gone
    · exact .inl hn
    · right
      have h1 := congrArg (·[q]?) hM
      simp only [List.getElem?_map, List.getElem?_zipIdx, hq, Option.map_some] at h1
      have h1' : needM C ops i (0 + q) = some it := by
        cases it <;> first | exact absurd rfl hn | (simpa using h1)
      rw [Nat.zero_add] at h1'
      unfold needM at h1'
      cases he : C.ci[q]? with
      | none => rw [he] at h1'; cases h1'
      | some e =>
        rw [he] at h1'
        simp only at h1'
        split at h1'
        case h_1 => cases h1'
        rename_i hcond
        simp only [Bool.and_eq_true] at hcond
        obtain ⟨c1, c2⟩ := hcond
        have hlv : lv L e.born = true := by
          cases hb : e.born with
          | none => rfl
          | some b =>
            rw [hb] at c1
            exact hon b (by rw [← hoi]; simpa [List.contains_iff_mem] using c1)
        have late : ∀ k, (Nat.beq k i || (onI ops k).contains i) = true → L k = false := fun k hk => by
          simp only [Bool.or_eq_true] at hk
          rcases hk with hk | hk
          · rw [Nat.eq_of_beq_eq_true hk]; exact hL
          · cases hLk : L k with
            | false => rfl
            | true =>
              have := (hc k hLk).2 i (by simpa [List.contains_iff_mem] using hk)
              rw [hL] at this
              cases this
        have hlk : lk L e.kill = false := by
          cases hkk : e.kill with
          | none => rfl
          | some k => rw [hkk] at c2; exact late k c2
        rw [ML_mk he hlv hlk]
        congr 1
        unfold CI.cur
        cases hu : e.upd with
        | none => rw [hu] at h1'; simpa using h1'
        | some x =>
          obtain ⟨u, it'⟩ := x
          rw [hu] at h1'
          simp only at h1' ⊢
          cases hcu : (onI ops i).contains u with
          | true =>
            rw [hcu] at h1'
            have hLu := hon u (by rw [← hoi]; simpa [List.contains_iff_mem] using hcu)
            rw [hLu]
            simpa using h1'
          | false =>
            rw [hcu] at h1'
            simp only at h1'
            split at h1'
            · rename_i hlate
              have hLu : L u = false := by
                rcases Bool.or_eq_true _ _ ▸ hlate with hl | hl
                · exact late u hl
                · cases hLk : L u with
                  | false => rfl
                  | true =>
                    have := clos_in hc (hc u hLk).2 i (List.contains_iff_mem.1 hl)
                    rw [hL] at this
                    cases this
              rw [hLu]
              simpa using h1'
            · cases h1'
theorem FL_add (hk : Chk C ops) {i : Nat} {o : Oper} (hi : ops[i]? = some o) {F : List (Nat × SC)} (hF : ∀ e, e ∈ F ↔ e ∈ C.FL ops L) (M : List Item) : ∀ e ∈ C.FL ops (addL L i), e ∈ (St.put o.dst (C.x i) ⟨F, M⟩).F := by
  rintro ⟨t, y⟩ he
  rw [FL_mem] at he
  have n1 := hk.nodup
  rcases he with ⟨j, oj, hj, hLj, hd, rfl⟩ | he
  · by_cases e : j = i
    · subst e
      rw [hi] at hj
      cases hj
      rw [hd]
      simp [St.put]
    · have hLj' : L j = true := by simpa [addL, e] using hLj
      have hm : (t, C.x j) ∈ C.FL ops L := FL_mem.2 (.inl ⟨j, oj, hj, hLj', hd, rfl⟩)
      cases hdo : o.dst with
      | none => simpa [St.put] using (hF _).2 hm
      | some d =>
        have hne : t ≠ d := fun e2 => by
          subst e2
          refine e ?_
          have key : ∀ (l : List Oper) (i j : Nat) (a b : Oper), (l.filterMap (·.dst)).Nodup → l[i]? = some a → l[j]? = some b → a.dst = some t → b.dst = some t → i = j := by
            intro l
            induction l with
            | nil => intro i j a b _ h; simp at h
            | cons x l ih =>
              intro i j a b hn h1 h2 h3 h4
              cases i with
              | zero =>
                cases j with
                | zero => rfl
                | succ j =>
                  simp at h1 h2
                  subst h1
                  rw [List.filterMap_cons, h3] at hn
                  simp only [List.nodup_cons] at hn
                  exact absurd (List.mem_filterMap.2 ⟨b, List.mem_of_getElem? h2, h4⟩) hn.1
              | succ i =>
                cases j with
                | zero =>
                  simp at h1 h2
                  subst h2
                  rw [List.filterMap_cons, h4] at hn
                  simp only [List.nodup_cons] at hn
                  exact absurd (List.mem_filterMap.2 ⟨a, List.mem_of_getElem? h1, h3⟩) hn.1
                | succ j =>
                  simp at h1 h2
                  have hn' : (l.filterMap (·.dst)).Nodup := by
                    rw [List.filterMap_cons] at hn
                    cases hx : x.dst with
                    | none => simpa [hx] using hn
                    | some _ => rw [hx] at hn; exact (List.nodup_cons.1 hn).2
                  rw [ih i j a b hn' h1 h2 h3 h4]
          exact key ops j i oj o n1 hj hi hd hdo
        simp only [St.put, List.mem_cons, List.mem_filter]
        refine .inr ⟨(hF _).2 hm, ?_⟩
        cases hb : Nat.beq t d with
        | false => rfl
        | true => exact absurd (Nat.eq_of_beq_eq_true hb) hne
  · obtain ⟨he, hnd⟩ := he
    have hnot : ∀ (k : Nat) (ok : Oper), ops[k]? = some ok → addL L i k = true → ok.dst ≠ some t := fun k ok h1 h2 h3 => by
      have := doneD_iff.2 ⟨k, ok, h1, h2, h3⟩
      rw [hnd] at this
      cases this
    have hm : (t, y) ∈ C.FL ops L := FL_mem.2 (.inr ⟨he, by
      cases hdd : doneD ops L t with
      | false => rfl
      | true =>
        exfalso
        obtain ⟨k, ok, h1, h2, h3⟩ := doneD_iff.1 hdd
        refine hnot k ok h1 ?_ h3
        unfold addL
        split
        · rfl
        · exact h2⟩)
    cases hdo : o.dst with
    | none => simpa [St.put] using (hF _).2 hm
    | some d =>
      have hne : t ≠ d := fun e2 => by
        subst e2
        exact hnot i o hi (by simp [addL]) hdo
      simp only [St.put, List.mem_cons, List.mem_filter]
      refine .inr ⟨(hF _).2 hm, ?_⟩
      cases hb : Nat.beq t d with
      | false => rfl
      | true => exact absurd (Nat.eq_of_beq_eq_true hb) hne
theorem goneM_keep : ∀ {K : List Nat} {M : List Item} {i : Nat}, i ∉ K → (goneM M K)[i]? = M[i]?
  | [], _, _, _ => rfl
  | k :: K, M, i, h => by
    simp only [List.mem_cons, not_or] at h
    show (goneM (M.set k .gone) K)[i]? = _
    rw [goneM_keep h.2, List.getElem?_set, if_neg (Ne.symm h.1)]
theorem setM_new {M : List Item} {p : Nat} {it : Item} : (setM M p it)[p]? = some it := by
  unfold setM
  split
  · rename_i h; simp [h]
  · rename_i h
    have hl : (M ++ List.replicate (p - M.length) Item.gone).length = p := by simp; omega
    rw [List.getElem?_append_right (by omega), hl]
    simp
theorem setM_keep {M : List Item} {p : Nat} {it jt : Item} {i : Nat} (h : i ≠ p) (hi : M[i]? = some jt) : (setM M p it)[i]? = some jt := by
  unfold setM
  have hlt := (List.getElem?_eq_some_iff.1 hi).1
  split
  · rw [List.getElem?_set, if_neg (Ne.symm h)]; exact hi
  · rw [List.append_assoc, List.getElem?_append_left hlt]; exact hi
theorem born_iff {i q : Nat} : q ∈ bornE C i ↔ ∃ e, C.ci[q]? = some e ∧ e.born = some i := by
  unfold bornE
  rw [List.mem_map]
  constructor
  · rintro ⟨⟨e, q'⟩, h, rfl⟩
    rw [List.mem_filter, List.mem_zipIdx_iff_getElem?] at h
    obtain ⟨h1, h2⟩ := h
    simp only at h1 h2
    cases hb : e.born with
    | none => rw [hb] at h2; cases h2
    | some b => rw [hb] at h2; exact ⟨e, h1, by rw [Nat.eq_of_beq_eq_true h2] at hb; exact hb⟩
  · rintro ⟨e, h1, h2⟩
    exact ⟨(e, q), List.mem_filter.2 ⟨List.mem_zipIdx_iff_getElem?.2 h1, by simp [h2]⟩, rfl⟩
theorem kill_iff {i q : Nat} : q ∈ killE C i ↔ ∃ e, C.ci[q]? = some e ∧ e.kill = some i := by
  unfold killE
  rw [List.mem_map]
  constructor
  · rintro ⟨⟨e, q'⟩, h, rfl⟩
    rw [List.mem_filter, List.mem_zipIdx_iff_getElem?] at h
    obtain ⟨h1, h2⟩ := h
    simp only at h1 h2
    cases hb : e.kill with
    | none => rw [hb] at h2; cases h2
    | some b => rw [hb] at h2; exact ⟨e, h1, by rw [Nat.eq_of_beq_eq_true h2] at hb; exact hb⟩
  · rintro ⟨e, h1, h2⟩
    exact ⟨(e, q), List.mem_filter.2 ⟨List.mem_zipIdx_iff_getElem?.2 h1, by simp [h2]⟩, rfl⟩
theorem upd_iff {i q : Nat} : q ∈ updE C i ↔ ∃ e it', C.ci[q]? = some e ∧ e.upd = some (i, it') := by
  unfold updE
  rw [List.mem_map]
  constructor
  · rintro ⟨⟨e, q'⟩, h, rfl⟩
    rw [List.mem_filter, List.mem_zipIdx_iff_getElem?] at h
    obtain ⟨h1, h2⟩ := h
    simp only at h1 h2
    cases hb : e.upd with
    | none => rw [hb] at h2; cases h2
    | some b => obtain ⟨b, it'⟩ := b; rw [hb] at h2; exact ⟨e, it', h1, by rw [Nat.eq_of_beq_eq_true h2] at hb; exact hb⟩
  · rintro ⟨e, it', h1, h2⟩
    exact ⟨(e, q), List.mem_filter.2 ⟨List.mem_zipIdx_iff_getElem?.2 h1, by simp [h2]⟩, rfl⟩
theorem ML_add {i q : Nat} {it : Item} (h : (C.ML (addL L i))[q]? = some it) (hn : it ≠ .gone) (hu : q ∉ updE C i) : q ∉ killE C i ∧ ((∃ e, C.ci[q]? = some e ∧ e.born = some i ∧ it = e.cur (addL L i)) ∨ (q ∉ bornE C i ∧ (C.ML L)[q]? = some it)) := by
  obtain ⟨e, he, h1, h2, h3⟩ := ML_get h hn
  have hki : q ∉ killE C i := fun hk => by
    obtain ⟨e', he', hk'⟩ := kill_iff.1 hk
    rw [he] at he'
    cases he'
    rw [hk'] at h2
    simp [lk, addL] at h2
  refine ⟨hki, ?_⟩
  have hlk : lk L e.kill = false := by
    cases hk : e.kill with
    | none => rfl
    | some k =>
      have hne : k ≠ i := fun e2 => hki (kill_iff.2 ⟨e, he, by rw [hk, e2]⟩)
      rw [hk] at h2
      simpa [lk, addL, hne] using h2
  by_cases hb : e.born = some i
  · exact .inl ⟨e, he, hb, h3⟩
  · right
    refine ⟨fun hq => ?_, ?_⟩
    · obtain ⟨e', he', hb'⟩ := born_iff.1 hq
      rw [he] at he'
      cases he'
      exact hb hb'
    · have hlv : lv L e.born = true := by
        cases hbb : e.born with
        | none => rfl
        | some b =>
          have hne : b ≠ i := fun e2 => hb (by rw [hbb, e2])
          rw [hbb] at h1
          simpa [lv, addL, hne] using h1
      rw [ML_mk he hlv hlk, h3]
      congr 1
      unfold CI.cur
      cases hup : e.upd with
      | none => rfl
      | some x =>
        obtain ⟨u, it'⟩ := x
        have hne : u ≠ i := fun e2 => hu (upd_iff.2 ⟨e, it', he, by rw [hup, e2]⟩)
        simp [addL, hne]
theorem refsAll_of {S : St} {p : Nat → Bool} (h1 : ∀ e ∈ S.F, ∀ r ∈ e.2.refs, p r = true) (h2 : ∀ it ∈ S.M, ∀ r ∈ it.refs, p r = true) : S.refsAll p = true := by
  simp only [St.refsAll, Bool.and_eq_true, List.all_eq_true]
  exact ⟨fun e he r hr => h1 e he r hr, fun it hi r hr => h2 it hi r hr⟩
theorem L_refs (hk : Chk C ops) (hc : Closed' ops L) {q i : Nat} {e : CI} (he : C.ci[q]? = some e) (hb : e.born = some i) (hL : L i = false) : (⟨C.FL ops L, C.ML L⟩ : St).refsAll (fun r => !(Nat.beq r q)) = true := by
  have key : ∀ (j : Option Nat) (r : Nat), (∀ k, j = some k → L k = true) → refE C ops j r = true → (!(Nat.beq r q)) = true := fun j r hj hr => by
    cases hrq : Nat.beq r q with
    | false => rfl
    | true =>
      have := Nat.eq_of_beq_eq_true hrq
      subst this
      have := ref_of hc hj hr he hb
      rw [hL] at this
      cases this
  refine refsAll_of ?_ ?_
  · rintro ⟨t, y⟩ hm r hr
    rcases FL_mem.1 hm with ⟨j, o, hj, hLj, hd, rfl⟩ | hm
    · exact key (some j) r (fun k e => by cases e; exact hLj) (hk.refsX j o hj (by rw [hd]; simp) r hr)
    · exact key none r (fun k e => by cases e) (hk.refs0 _ hm.1 r hr)
  · intro it hit r hr
    obtain ⟨q', hq'⟩ := List.getElem?_of_mem hit
    by_cases hn : it = .gone
    · subst hn; simp [Item.refs] at hr
    · obtain ⟨e', he', h1, h2, h3⟩ := ML_get hq' hn
      subst h3
      have hmem := List.mem_of_getElem? he'
      have hborn : ∀ k, e'.born = some k → L k = true := fun k hk' => by rw [hk'] at h1; exact h1
      unfold CI.cur at hr
      split at hr
      · rename_i u it' hu
        split at hr
        · rename_i hLu
          exact key (some u) r (fun k e => by cases e; exact hLu) ((hk.refsU e' hmem u it' hu).1 r hr)
        · exact key e'.born r hborn (hk.refsM e' hmem r hr)
      · exact key e'.born r hborn (hk.refsM e' hmem r hr)
theorem goneM_keepU : ∀ {K : List Nat} {M : List Item} {i : Nat}, i ∉ K → (goneM M K)[i]? = M[i]?
  | [], _, _, _ => rfl
  | k :: K, M, i, h => by
    simp only [List.mem_cons, not_or] at h
    show (goneM (M.set k .gone) K)[i]? = _
    rw [goneM_keepU h.2, List.getElem?_set, if_neg (Ne.symm h.1)]
theorem Ok'.updS {S : St} {a : Act} {w w' : World} {g g' : Gh} {hs : Nat → Value} (h : Ok' c S a w g hs) {us : List (Nat × Item)} (hu : ∀ p ∈ us, ∃ it, S.M[p.1]? = some it ∧ it.fz = false) (hf : ∀ p ∈ us, p.2.fz = false) (he : Eff hs (us.map (·.1)) w g w' g') (hun : ∀ q ∈ us.map (·.1), ∀ b, Blk (hs q) b → g' b = none) (ho : ∀ p ∈ us, p.2.ok g' hs w' (hs p.1)) : Ok' c ⟨S.F, setIt S.M us⟩ a w' g' hs := by
  have hus : usable S (us.map (·.1)) = true := by
    unfold usable
    rw [List.all_eq_true]
    intro k hk
    obtain ⟨p, hp, rfl⟩ := List.mem_map.1 hk
    obtain ⟨it, h1, h2⟩ := hu p hp
    simp only [h1, h2, Bool.not_false]
  have h1 := h.eff (h' := undef) (p := none) he trivial rfl hus
  have hold : ∀ (i : Nat) (it : Item), (setIt S.M us)[i]? = some it → it ≠ .gone → ∃ x, S.M[i]? = some x ∧ x ≠ .gone ∧ (it.fz = false → x.fz = false) := fun i it hi hn => by
    rcases setIt_get hi with ⟨p, hp, rfl, rfl⟩ | ⟨_, h2⟩
    · obtain ⟨x, h3, h4⟩ := hu p hp
      exact ⟨x, h3, fz_gone h4, fun _ => h4⟩
    · exact ⟨it, h2, hn, fun h => h⟩
  refine ⟨h1.size, h1.defers, h1.base, h1.slots, fun i it hi => ?_, fun i j it jt hij hi hj hfi hnj => ?_, fun i it hi hn b hb => ?_⟩
  · rcases setIt_get hi with ⟨p, hp, rfl, rfl⟩ | ⟨h2, h3⟩
    · exact ho p hp
    · exact h1.items i it (by show (goneM S.M _)[i]? = _; rw [goneM_keepU h2]; exact h3)
  · obtain ⟨x, x1, _, x2⟩ := hold i it hi (fz_gone hfi)
    obtain ⟨y, y1, y2, _⟩ := hold j jt hj hnj
    exact h.sep i j x y hij x1 y1 (x2 hfi) y2
  · rcases setIt_get hi with ⟨p, hp, rfl, rfl⟩ | ⟨h2, h3⟩
    · obtain ⟨x, x1, x2⟩ := hu p hp
      obtain ⟨m1, m2⟩ := h.mine p.1 x x1 (fz_gone x2) b hb
      exact ⟨Nat.lt_of_lt_of_le m1 he.size, fun _ => ⟨(m2 x2).1, hun p.1 (List.mem_map.2 ⟨p, hp, rfl⟩) b hb⟩⟩
    · exact h1.mine i it (by show (goneM S.M _)[i]? = _; rw [goneM_keepU h2]; exact h3) hn b hb
theorem itemsOf_usable {M : List Item} {S : St} {F : List (Nat × SC)} (h : itemsOf M S.M) {K : List Nat} (hu : usable S K = true) : usable ⟨F, M⟩ K = true := by
  unfold usable at hu ⊢
  rw [List.all_eq_true] at hu ⊢
  intro k hk
  have := hu k hk
  cases hm : S.M[k]? with
  | none => rw [hm] at this; cases this
  | some it =>
    rw [hm] at this
    rcases h k it hm with rfl | h1
    · cases this
    · simp only
      rw [h1]
      exact this
variable {n : Nat}
theorem step_mt (hk : Chk C ops) (hc : Closed' ops L) (hn : c.n = n) (hd : (ops.all fun o => match o.dst with | some d => Nat.blt d n | none => true) = true) {i : Nat} {o : Oper} (hi : ops[i]? = some o) (hL : L i = false) (hon : ∀ j ∈ onE o, L j = true) 
    {a : Act} {w : World} {g : Gh} {hs' : Nat → Value} (h : Ok' c ⟨C.FL ops L, C.ML L⟩ a w g hs') {S : St} {K : List Nat} {p : Option Nat} (hS : Ok' c S a w g hs') (f2 : itemsOf (C.ML L) S.M) (hw : wantE ops.toArray S.F o = some true)
    (hm : MT c S o (C.x i) K (p.bind fun q => (C.ci[q]?).map fun e => (q, e.it))) (hkk : killE C i = K) (hbb : bornE C i = p.toList) (huu : updE C i = []) (huse : usable S K = true) {N Z : Po} (hN : ∀ a' w', Ok c ⟨C.FL ops (addL L i), C.ML (addL L i)⟩ a' w' → N a' w') :
    if Region.wanted o (yielded ops.toArray a.tmps) = true then o.wp Tryz.prog a w N (OnlyP c Z) else N (a.put o.dst undef) w := by
  have hdst : ∀ d, o.dst = some d → d < c.n := fun d e => by
    have := List.all_eq_true.1 hd o (List.mem_of_getElem? hi)
    rw [e] at this
    rw [hn]
    exact Nat.le_of_ble_eq_true this
  rw [if_pos (wantE_ok hS hw)]
  have hP : ∀ q, p = some q → ∃ e, C.ci[q]? = some e ∧ e.born = some i := fun q e => born_iff.1 (by rw [hbb, e]; simp)
  refine hm a w g hs' hS N Z fun v w' g' h' h1 h3 h4 => hN _ _ ⟨g', newH hs' (p.bind fun q => (C.ci[q]?).map fun e => (q, e.it)) h', ?_⟩
  have hr : refsNe ⟨C.FL ops L, C.ML L⟩ (p.bind fun q => (C.ci[q]?).map fun e => (q, e.it)) = true := by
    cases p with
    | none => rfl
    | some q =>
      obtain ⟨e, he, hb⟩ := hP q rfl
      simp only [Option.bind_some, he, Option.map_some]
      exact L_refs hk hc he hb hL
  have he := h.eff h1 h4 hr (itemsOf_usable (F := C.FL ops L) f2 huse)
  have hput := he.put (dst := o.dst) (x := C.x i) (v := v) hdst (fun _ _ => h3)
  refine Ok'.subM ?_ ?_ hput
  · exact FL_add hk hi (F := C.FL ops L) (fun _ => Iff.rfl) _
  · intro q it hq
    by_cases hg : it = .gone
    · exact .inl hg
    right
    obtain ⟨k1, k2⟩ := ML_add hq hg (by rw [huu]; simp)
    rw [hkk] at k1
    have hMe : (St.put o.dst (C.x i) ⟨C.FL ops L, newM (C.ML L) K (p.bind fun q => (C.ci[q]?).map fun e => (q, e.it))⟩).M = newM (C.ML L) K (p.bind fun q => (C.ci[q]?).map fun e => (q, e.it)) := by
      cases o.dst <;> rfl
    rw [hMe]
    rcases k2 with ⟨e, he', hb, hit⟩ | ⟨hnb, hML⟩
    · have hqb : q ∈ bornE C i := born_iff.2 ⟨e, he', hb⟩
      rw [hbb] at hqb
      cases p with
      | none => simp at hqb
      | some q' =>
        simp at hqb
        subst hqb
        simp only [Option.bind_some, he', Option.map_some, newM]
        rw [setM_new, hit]
        congr 1
        unfold CI.cur
        cases hup : e.upd with
        | none => rfl
        | some x =>
          obtain ⟨u, it'⟩ := x
          have hui : u ≠ i := fun e2 => by
            have : q ∈ updE C i := upd_iff.2 ⟨e, it', he', by rw [hup, e2]⟩
            rw [huu] at this
            simp at this
          have hLu : L u = false := by
            cases hLu : L u with
            | false => rfl
            | true =>
              have := (hc u hLu).2 i ((hk.refsU e (List.mem_of_getElem? he') u it' hup).2 i hb)
              rw [hL] at this
              cases this
          simp [addL, hui, hLu]
    · cases p with
      | none =>
        show (goneM (C.ML L) K)[q]? = some it
        rw [goneM_keep k1]
        exact hML
      | some q' =>
        obtain ⟨e, he', hb⟩ := hP q' rfl
        simp only [Option.bind_some, he', Option.map_some, newM]
        have hne : q ≠ q' := fun e2 => hnb (by rw [hbb, e2]; simp)
        exact setM_keep hne (by rw [goneM_keep k1]; exact hML)
theorem step_ok (hk : Chk C ops) (hc : Closed' ops L) (hn : c.n = n) (hd : (ops.all fun o => match o.dst with | some d => Nat.blt d n | none => true) = true) {i : Nat} {o : Oper} (hi : ops[i]? = some o) (hL : L i = false) (hon : ∀ j ∈ onE o, L j = true) (hs : StepOk c C ops i o)
    {a : Act} {w : World} (h : Ok c ⟨C.FL ops L, C.ML L⟩ a w) {N Z : Po} (hN : ∀ a' w', Ok c ⟨C.FL ops (addL L i), C.ML (addL L i)⟩ a' w' → N a' w') :
    if Region.wanted o (yielded ops.toArray a.tmps) = true then o.wp Tryz.prog a w N (OnlyP c Z) else N (a.put o.dst undef) w := by
  obtain ⟨g, hs', h⟩ := h
  have hdst : ∀ d, o.dst = some d → d < c.n := fun d e => by
    have := List.all_eq_true.1 hd o (List.mem_of_getElem? hi)
    rw [e] at this
    rw [hn]
    exact Nat.le_of_ble_eq_true this
  cases hs with
  | mt S K p hf hw hm hkk hbb huu huse =>
    obtain ⟨f1, f2⟩ := fits_sub hc hi hL hon hf
    exact step_mt hk hc hn hd hi hL hon h (Ok'.subM f1 f2 h) f2 hw hm hkk hbb huu huse hN
  | two u0 S S' hf hf' hw hw' hm hm' hkk hbb huu =>
    cases hu0 : L u0 with
    | false =>
      obtain ⟨f1, f2⟩ := fits_sub (C := C.un u0) hc hi hL hon hf
      rw [Cert.un_ML hu0] at f2
      exact step_mt (K := []) (p := none) hk hc hn hd hi hL hon h (Ok'.subM (S1 := ⟨C.FL ops L, C.ML L⟩) f1 f2 h) f2 hw hm hkk hbb huu rfl hN
    | true =>
      obtain ⟨f1, f2⟩ := fits_sub (C := C.did u0) hc hi hL hon hf'
      rw [Cert.did_ML hu0] at f2
      exact step_mt (K := []) (p := none) hk hc hn hd hi hL hon h (Ok'.subM (S1 := ⟨C.FL ops L, C.ML L⟩) f1 f2 h) f2 hw' hm' hkk hbb huu rfl hN
  | mu S q e it' he heu hf hw hm hkk hbb huu hq h1 h2 hd0 =>
    obtain ⟨f1, f2⟩ := fits_sub hc hi hL hon hf
    have hS : Ok' c S a w g hs' := Ok'.subM f1 f2 h
    rw [if_pos (wantE_ok hS hw)]
    have hML : (C.ML L)[q]? = some e.it := (f2 q _ hq).resolve_left (fz_gone h1)
    refine hm a w g hs' hS N Z fun v w' hg' hit => hN _ _ ⟨g, hs', ?_⟩
    have hup := h.upd (i := q) (it := e.it) (it' := it') hML h1 h2 hg' hit
    have hput := hup.put (dst := o.dst) (x := C.x i) (v := v) hdst (fun d e => by rw [hd0] at e; cases e)
    refine Ok'.subM ?_ ?_ hput
    · exact FL_add hk hi (F := C.FL ops L) (fun _ => Iff.rfl) _
    · intro q' it hq'
      by_cases hg : it = .gone
      · exact .inl hg
      right
      have hMe : (St.put o.dst (C.x i) ⟨C.FL ops L, (C.ML L).set q it'⟩).M = (C.ML L).set q it' := by
        cases o.dst <;> rfl
      rw [hMe, List.getElem?_set]
      by_cases e2 : q = q'
      · subst e2
        rw [if_pos rfl, if_pos (List.getElem?_eq_some_iff.1 hML).1]
        obtain ⟨e', he', _, _, h7⟩ := ML_get hq' hg
        rw [he] at he'
        cases he'
        rw [h7]
        unfold CI.cur
        rw [heu]
        simp [addL]
      · rw [if_neg e2]
        obtain ⟨k1, k2⟩ := ML_add hq' hg (by rw [huu]; simp; exact Ne.symm e2)
        rcases k2 with ⟨e3, he3, hb3, _⟩ | ⟨_, h8⟩
        · have := born_iff.2 ⟨e3, he3, hb3⟩
          rw [hbb] at this
          simp at this
        · exact h8
  | me S us hf hw hm hkk hbb huu huq =>
    obtain ⟨f1, f2⟩ := fits_sub hc hi hL hon hf
    have hS : Ok' c S a w g hs' := Ok'.subM f1 f2 h
    rw [if_pos (wantE_ok hS hw)]
    have hq := upsOk_mem huq
    have hML : ∀ p ∈ us, ∃ it, (C.ML L)[p.1]? = some it ∧ it.fz = false := fun p hp => by
      obtain ⟨e, _, _, e3, e4, _⟩ := hq p hp
      exact ⟨e.it, (f2 p.1 _ e3).resolve_left (fz_gone e4), e4⟩
    refine hm a w g hs' hS N Z fun v w' g' h1 h2 h3 h4 => hN _ _ ⟨g', hs', ?_⟩
    have hup := h.updS hML (fun p hp => by obtain ⟨e, _, _, _, _, e5⟩ := hq p hp; exact e5) h1 h2 h4
    have hput := hup.put (dst := o.dst) (x := C.x i) (v := v) hdst (fun _ _ => h3)
    refine Ok'.subM ?_ ?_ hput
    · exact FL_add hk hi (F := C.FL ops L) (fun _ => Iff.rfl) _
    · intro q' it hq'
      by_cases hg : it = .gone
      · exact .inl hg
      right
      have hMe : (St.put o.dst (C.x i) ⟨C.FL ops L, setIt (C.ML L) us⟩).M = setIt (C.ML L) us := by
        cases o.dst <;> rfl
      rw [hMe]
      by_cases e2 : q' ∈ us.map (·.1)
      · obtain ⟨e', he', _, _, h7⟩ := ML_get hq' hg
        have hlt : q' < (setIt (C.ML L) us).length := by
          rw [setIt_len]
          obtain ⟨p, hp, rfl⟩ := List.mem_map.1 e2
          obtain ⟨_, h8, _⟩ := hML p hp
          exact (List.getElem?_eq_some_iff.1 h8).1
        rw [List.getElem?_eq_getElem hlt]
        rcases setIt_get (List.getElem?_eq_getElem hlt) with ⟨p, hp, rfl, hit⟩ | ⟨h9, _⟩
        · obtain ⟨e, e1, e3, _⟩ := hq p hp
          rw [he'] at e1
          cases e1
          rw [← hit, h7]
          unfold CI.cur
          rw [e3]
          simp [addL]
        · exact absurd e2 h9
      · rw [setIt_out e2]
        obtain ⟨k1, k2⟩ := ML_add hq' hg (by rw [huu]; exact e2)
        rcases k2 with ⟨e3, he3, hb3, _⟩ | ⟨_, h8⟩
        · have := born_iff.2 ⟨e3, he3, hb3⟩
          rw [hbb] at this
          simp at this
        · exact h8
  | skip S hf hw hx hkk hbb huu =>
    obtain ⟨f1, f2⟩ := fits_sub hc hi hL hon hf
    have hS : Ok' c S a w g hs' := Ok'.subM f1 f2 h
    rw [if_neg (by rw [wantE_ok hS hw]; exact Bool.false_ne_true)]
    refine hN _ _ ⟨g, hs', ?_⟩
    have hput := h.put (dst := o.dst) (x := C.x i) (v := undef) hdst (fun _ _ => by rw [hx]; exact undef_ok)
    refine Ok'.subM ?_ ?_ hput
    · exact FL_add hk hi (F := C.FL ops L) (fun _ => Iff.rfl) _
    · intro q it hq
      by_cases hg : it = .gone
      · exact .inl hg
      right
      have hMe : (St.put o.dst (C.x i) ⟨C.FL ops L, C.ML L⟩).M = C.ML L := by cases o.dst <;> rfl
      rw [hMe]
      obtain ⟨k1, k2⟩ := ML_add hq hg (by rw [huu]; simp)
      rcases k2 with ⟨e3, he3, hb3, _⟩ | ⟨_, h8⟩
      · have := born_iff.2 ⟨e3, he3, hb3⟩
        rw [hbb] at this
        simp at this
      · exact h8
end
def LB (listed : Array Bool) : Nat → Bool := fun i => listed.getD i false
theorem ready_mem {ops : List Oper} {listed : Array Bool} (hs : listed.size = ops.length) {i : Nat} (h : i ∈ Region.ready .any ops.toArray listed) : ∃ o, ops[i]? = some o ∧ LB listed i = false ∧ ∀ j ∈ onE o, LB listed j = true := by
  unfold Region.ready at h
  rw [List.mem_filter, List.mem_range] at h
  obtain ⟨h1, h2⟩ := h
  simp only [Bool.and_eq_true, Bool.not_eq_true'] at h2
  obtain ⟨h3, h4⟩ := h2
  have hlt : i < ops.length := by simpa using h1
  have ho : ops.toArray[i]? = some ops[i] := by simp [hlt]
  rw [ho] at h4
  refine ⟨ops[i], by simp, ?_, fun j hj => ?_⟩
  · unfold LB
    rw [Array.getD_eq_getD_getElem?] at h3 ⊢
    have : listed[i]? = some listed[i] := by simp [hs, hlt]
    rw [this] at h3 ⊢
    exact h3
  · simp only [Option.map_some, Option.getD_some] at h4
    unfold onE at hj
    obtain ⟨e, he, rfl⟩ := List.mem_map.1 hj
    obtain ⟨he1, he2⟩ := List.mem_filter.1 he
    have := (Array.all_eq_true_iff_forall_mem.1 h4) e (by simpa using he1)
    rw [he2] at this
    simpa [LB] using this
theorem ready_nil {ops : List Oper} {listed : Array Bool} (hs : listed.size = ops.length) (hb : ∀ (i : Nat) (o : Oper), ops[i]? = some o → ∀ j ∈ onE o, j < i) (h : Region.ready .any ops.toArray listed = []) : ∀ i, i < ops.length → LB listed i = true := by
  intro i
  induction i using Nat.strongRecOn with
  | _ i ih =>
    intro hi
    cases hL : LB listed i with
    | true => rfl
    | false =>
      exfalso
      have hmem : i ∈ Region.ready .any ops.toArray listed := by
        unfold Region.ready
        rw [List.mem_filter, List.mem_range]
        refine ⟨by simpa using hi, ?_⟩
        have ho : ops.toArray[i]? = some ops[i] := by simp [hi]
        simp only [ho, Option.map_some, Option.getD_some, Bool.and_eq_true, Bool.not_eq_true']
        constructor
        · unfold LB at hL
          rw [Array.getD_eq_getD_getElem?] at hL ⊢
          have : listed[i]? = some listed[i] := by simp [hs, hi]
          rw [this] at hL ⊢
          exact hL
        · rw [Array.all_eq_true_iff_forall_mem]
          intro e he
          cases hbind : Region.binds .any e with
          | false => rfl
          | true =>
            have hj : e.on ∈ onE ops[i] := List.mem_map.2 ⟨e, List.mem_filter.2 ⟨by simpa using he, hbind⟩, rfl⟩
            have hlt := hb i ops[i] (by simp [hi]) e.on hj
            have := ih e.on hlt (by omega)
            simpa [LB] using this
      rw [h] at hmem
      cases hmem
theorem LB_set {listed : Array Bool} {i : Nat} (hi : i < listed.size) : LB (listed.setIfInBounds i true) = addL (LB listed) i := by
  funext j
  unfold LB addL
  simp only [Array.getD_eq_getD_getElem?, Array.getElem?_setIfInBounds]
  by_cases e : i = j
  · subst e; simp [hi]
  · rw [if_neg e, if_neg (Ne.symm e)]
theorem count_set (l : List Bool) (i : Nat) (h : l[i]? = some false) : ((l.set i true).filter id).length = (l.filter id).length + 1 := by
  induction l generalizing i with
  | nil => simp at h
  | cons x l ih =>
    cases i with
    | zero => simp at h; subst h; simp
    | succ i =>
      have := ih i (by simpa using h)
      cases x <;> simp [this]
theorem count_all (l : List Bool) (h : (l.filter id).length = l.length) : ∀ b ∈ l, b = true := fun b hb => by
  have := List.length_filter_eq_length_iff.1 h b hb
  simpa using this
section
variable {c : Cfg} {C : Cert} {l : List Oper} {n : Nat} {N : Po}
theorem any_ok (hk : Chk C l) (hn : c.n = n) (hd : (l.all fun o => match o.dst with | some d => Nat.blt d n | none => true) = true) (hs : StepsOk c C l 0 l) (hN : ∀ a w, Ok c ⟨C.FL l (fun i => Nat.blt i l.length), C.ML (fun i => Nat.blt i l.length)⟩ a w → N a w) :
    ∀ (fuel : Nat) (listed : Array Bool) (a : Act) (w : World), listed.size = l.length → Closed' l (LB listed) → (listed.toList.filter id).length + fuel = l.length → Ok c ⟨C.FL l (LB listed), C.ML (LB listed)⟩ a w → wpAny Tryz.prog .any l.toArray (OnlyP c N) fuel listed a w := by
  have full : ∀ listed : Array Bool, listed.size = l.length → (∀ i, i < l.length → LB listed i = true) → LB listed = fun i => Nat.blt i l.length := fun listed hsz h => by
    funext i
    by_cases hi : i < l.length
    · rw [h i hi]
      exact (Nat.ble_eq_true_of_le hi).symm
    · have : LB listed i = false := by
        unfold LB
        rw [Array.getD_eq_getD_getElem?]
        have : listed[i]? = none := by simp; omega
        rw [this]
        rfl
      rw [this]
      cases hb : Nat.blt i l.length with
      | false => rfl
      | true => exact absurd (Nat.le_of_ble_eq_true hb) hi
  intro fuel
  induction fuel with
  | zero =>
    intro listed a w hsz hcl hcnt hok
    have hall : ∀ i, i < l.length → LB listed i = true := fun i hi => by
      have hlen : listed.toList.length = l.length := by simpa using hsz
      have := count_all listed.toList (by omega) (listed[i]'(by omega)) (by simp)
      unfold LB
      rw [Array.getD_eq_getD_getElem?]
      simp [hsz, hi, this]
    refine ⟨?_, hN a w (by rw [← full listed hsz hall]; exact hok)⟩
    cases hr : Region.ready .any l.toArray listed with
    | nil => rfl
    | cons i r =>
      obtain ⟨o, ho, hL, _⟩ := ready_mem hsz (i := i) (by rw [hr]; simp)
      rw [hall i (List.getElem?_eq_some_iff.1 ho).1] at hL
      cases hL
  | succ fuel ih =>
    intro listed a w hsz hcl hcnt hok
    refine ⟨fun hr => hN a w (by rw [← full listed hsz (ready_nil hsz hk.below hr)]; exact hok), fun i hi => ?_⟩
    obtain ⟨o, ho, hL, hon⟩ := ready_mem hsz hi
    have hlt := (List.getElem?_eq_some_iff.1 ho).1
    have hst := stepsOk_get hs i o ho
    rw [Nat.zero_add] at hst
    have hset := LB_set (listed := listed) (i := i) (by omega)
    have hnext : ∀ a' w', Ok c ⟨C.FL l (addL (LB listed) i), C.ML (addL (LB listed) i)⟩ a' w' → wpAny Tryz.prog .any l.toArray (OnlyP c N) fuel (listed.setIfInBounds i true) a' w' := fun a' w' h' => by
      refine ih _ a' w' (by simpa using hsz) ?_ ?_ (by rw [hset]; exact h')
      · rw [hset]
        intro j hj
        unfold addL at hj ⊢
        by_cases e : j = i
        · subst e
          refine ⟨hlt, fun k hk' => ?_⟩
          rw [onI_eq ho] at hk'
          split
          · rfl
          · exact hon k hk'
        · rw [if_neg e] at hj
          obtain ⟨h1, h2⟩ := hcl j hj
          refine ⟨h1, fun k hk' => ?_⟩
          split
          · rfl
          · exact h2 k hk'
      · rw [Array.toList_setIfInBounds, count_set]
        · omega
        · unfold LB at hL
          rw [Array.getD_eq_getD_getElem?] at hL
          have : listed[i]? = some listed[i] := by simp [hsz, hlt]
          rw [this] at hL
          simp at hL
          rw [Array.getElem?_toList, this, hL]
    have := step_ok (Z := N) hk hcl hn hd ho hL hon hst hok hnext
    unfold wpOp
    have ho' : l.toArray[i]? = some o := by simpa using ho
    rw [ho']
    simp only
    split
    · rename_i hw
      rw [if_pos hw] at this
      exact .inl this
    · rename_i hw
      rw [if_neg hw] at this
      exact this
theorem En.regionA {S : St} {id : Nat} {E : List (Nat × Po)} {R : Po} (C : Cert) (fin : St) (hm : Tryz.prog.follows .mixedOrders = true) (hn : c.n = n) (hk : chkE C l = true) (hd : (l.all fun o => match o.dst with | some d => Nat.blt d n | none => true) = true)
    (h0 : subE ⟨C.FL l (fun _ => false), C.ML (fun _ => false)⟩ S = subX ⟨C.FL l (fun _ => false), C.ML (fun _ => false)⟩) (hs : StepsOk c C l 0 l)
    (h1 : subE fin ⟨C.FL l (fun i => Nat.blt i l.length), C.ML (fun i => Nat.blt i l.length)⟩ = subX fin) (h2 : En c fin N) : En c S (cwp (.region id l.toArray true) (PQ c N E R)) := fun a w ⟨g, hs', hok⟩ => by
  have hok1 : Ok' c S a w.drew g hs' := hok.grown (grown_drew w)
  have hL : LB (Array.replicate l.length false) = fun _ => false := by
    funext i
    unfold LB
    rw [Array.getD_eq_getD_getElem?, Array.getElem?_replicate]
    split <;> rfl
  refine Code.wp_mono (fun e a w q => ?_) (wp_region_any (Q := OnlyP c N) hm (any_ok (chk_of hk) hn hd hs (fun a w h => h2 a w (sub_ok h1 a w h)) l.toArray.size _ a w.drew (by simp) ?_ ?_ ?_))
  · cases e <;> first | exact q | exact (q : False).elim
  · intro i hi
    simp only [List.size_toArray] at hi
    rw [hL] at hi
    cases hi
  · simp only [List.size_toArray, Array.toList_replicate]
    rw [List.filter_replicate_of_neg (by simp)]
    simp
  · simp only [List.size_toArray]
    rw [hL]
    exact sub_ok h0 a w.drew ⟨g, hs', hok1⟩
end
section
variable {c : Cfg} {S : St} {tab : Tab} {o : Oper}
theorem mt_val {x : SC} (h : Val c S o x) : MT c S o x [] none := fun a w g hs hk N Z hN => by
  obtain ⟨v, h1, h2⟩ := h a w g hs hk
  unfold Oper.wp
  rw [h1]
  exact hN v w g undef (Eff.refl hk.base) h2 trivial
theorem mt_ev {x : SC} (ht : tab.ok) (e : evV tab S o = some x) : MT c S o x [] none := mt_val fun a w g hs hk => evV_ok ht hk e
theorem mt_newbox {p t : Nat} {cells : List At} {x : SC} (hr : ((cells.flatMap At.refs).all fun i => !(Nat.beq i p)) = true)
    (H : ∀ a w g hs, Ok' c S a w g hs → ∃ cs v, oks g hs cells cs ∧ (execOp a.eval o).run Tryz.prog w = .ok (.value v) (w.alloc (.cells cs.toArray t)) ∧ ∀ hs' : Nat → Value, hs' p = .pointer (some ⟨w.heap.size, 0, none⟩) → x.ok g hs' v) : MT c S o x [] (some (p, .box cells t false)) := fun a w g hs h N Z hN => by
  obtain ⟨cs, v, h1, h2, h3⟩ := H a w g hs h
  unfold Oper.wp
  rw [h2]
  refine hN v _ g (.pointer (some ⟨w.heap.size, 0, none⟩)) ⟨rfl, rfl, rfl, by simp, fun b hb _ => (World.grownBy_alloc w _ none).block b hb (by simp), Gh.le.refl g, fun b o e => .inl e, fun b o e => ?_⟩ (h3 _ (if_pos rfl)) ⟨⟨w.heap.size, cs, rfl, oks_hs (fun i hi => ?_) h1, heap_alloc_new w _, fun h => by cases h⟩, fun b hb => ?_⟩
  · exact ((World.grownBy_alloc w _ none).block b (h.base.pers.lt e) (by simp)).trans (h.base.pers b o e)
  · have := List.all_eq_true.1 hr i hi
    have hne : i ≠ p := fun e => by subst e; simp at this
    rw [if_neg hne]
  · cases hb
    refine ⟨by simp, fun _ => ?_, .inl (Nat.le_refl _)⟩
    cases hgb : g w.heap.size with
    | none => rfl
    | some o => have := h.base.pers.lt hgb; omega
theorem mt_alloc (p : Nat) {t : Nat} {ti : TI} (ht : tab.ok) (ho : o.op = .alloc t) (h1 : tab t = some ti) : MT c S o (.sv (.one (.ptr p 0))) [] (some (p, .box (ti.zero.map .v) t false)) := by
  have htk := ht t ti h1
  refine mt_newbox ?_ fun a w g hs h => ?_
  · rw [List.all_eq_true]
    intro i hi
    obtain ⟨x, hx, hi⟩ := List.mem_flatMap.1 hi
    obtain ⟨v, _, rfl⟩ := List.mem_map.1 hx
    cases hi
  · obtain ⟨z, hz1, hz2⟩ := htk.run_zero
    have hzc : z.cells = ti.zero.toArray := by simp [← hz1]
    refine ⟨ti.zero, .pointer (some ⟨w.heap.size, 0, none⟩), oks_v htk.zc, ?_, fun hs' e => ptr_new e⟩
    have : execOp a.eval o = (do pure (.value (← Instr.alloc t true (.tuple #[]))) : Sem Next) := by unfold execOp; rw [ho]
    rw [this]
    refine run_valW ?_
    simp only [Instr.alloc, Sem.run_bind, hz2, Result.andThen_ok, newVar, newRow, newObj, Sem.run, Sem.run_pure, hzc]
    rfl
theorem mt_box (p : Nat) {t : Nat} {x : Operand} {s : SV} (ho : o.op = .box t x) (h1 : evX S.F x = some (.sv s)) (hj : s ≠ .one .junk) (hr : (((svCells s).flatMap At.refs).all fun i => !(Nat.beq i p)) = true) : MT c S o (.sv (.one (.ptr p 0))) [] (some (p, .box (svCells s) t false)) := by
  refine mt_newbox hr fun a w g hs h => ?_
  have hv := evX_ok h h1
  refine ⟨(a.eval x).cells.toList, .pointer (some ⟨w.heap.size, 0, none⟩), sv_cells hj hv, ?_, fun hs' e => ptr_new e⟩
  have : execOp a.eval o = (do pure (.value (← Instr.box t (a.eval x))) : Sem Next) := by unfold execOp; rw [ho]
  rw [this]
  refine run_valW ?_
  simp [Instr.box, newVar, newRow, newObj, Sem.run]
def bslE (te : TI) (len : Nat) (F : List (Nat × SC)) (parts : List (Nat × Operand)) : Option (List At) := match Nat.ble (len * te.size) 16777216 && Nat.blt 0 (len * te.size) with
  | true => match evP F parts with
    | some ps => fillE ((List.range len).map fun i => (i * te.size, te.size, te.agg)) ((List.range (len * te.size)).map fun j => .v (te.zero.getD (j % te.size) undef)) ps
    | none => none
  | false => none
theorem mt_bsl (p : Nat) {t len el : Nat} {parts : Array (Nat × Operand)} {ti te : TI} {r : List At} (ht : tab.ok) (ho : o.op = .buildSlice t len parts) (h1 : tab t = some ti) (h2 : ti.sl = some el) (h3 : tab el = some te) (e : bslE te len S.F parts.toList = some r) (hr : ((r.flatMap At.refs).all fun i => !(Nat.beq i p)) = true) : MT c S o (.sv (.one (.bsl p len))) [] (some (p, .box r el false)) := by
  refine mt_newbox hr fun a w g hs h => ?_
  unfold bslE at e
  split at e
  case h_2 => cases e
  rename_i hb
  obtain ⟨b1, b2⟩ := (Bool.and_eq_true _ _).mp hb
  replace b1 := Nat.le_of_ble_eq_true b1
  replace b2 := Nat.le_of_ble_eq_true b2
  split at e
  case h_2 => cases e
  rename_i ps hps
  have hu := slT_some ((ht t ti h1).sl.trans h2)
  have htk := ht el te h3
  obtain ⟨z, hz1, hz2⟩ := htk.run_zero
  have hzc : z.cells = te.zero.toArray := by simp [← hz1]
  have hp := evP_ok h hps
  have hs0 : 0 < te.size := by
    rcases Nat.eq_zero_or_pos te.size with h0 | h0
    · rw [h0] at b2; omega
    · exact h0
  have hz0 : oks g hs ((List.range (len * te.size)).map fun j => .v (te.zero.getD (j % te.size) undef)) ((List.range (len * te.size)).map fun j => te.zero.getD (j % te.size) undef) := by
    have := oks_v (g := g) (hs := hs) (l := (List.range (len * te.size)).map fun j => te.zero.getD (j % te.size) undef) (by
      rw [List.all_eq_true]
      intro x hx
      obtain ⟨j, hj, rfl⟩ := List.mem_map.1 hx
      have hlt : j % te.size < te.zero.length := by rw [htk.zs]; exact Nat.mod_lt _ hs0
      have := List.all_eq_true.1 htk.zc (te.zero[j % te.size]) (by simp)
      simpa [List.getD, hlt] using this)
    rw [List.map_map] at this
    exact this
  obtain ⟨us', k1, k2⟩ := fill_ok (place := fun i => some (i * te.size, te.size)) (fun i off sz ag hi => by
    rw [List.getElem?_map] at hi
    cases h3 : (List.range len)[i]? with
    | none => rw [h3] at hi; cases hi
    | some j =>
      have hj : j = i := by
        have := (List.getElem?_eq_some_iff.1 h3).2
        simpa using this.symm
      subst hj
      rw [h3] at hi
      simp at hi
      obtain ⟨e1, e2, _⟩ := hi
      subst e1 e2
      rfl) hp hz0 e
  refine ⟨us', .slice (some ⟨w.heap.size, 0, none⟩) len len, k2, ?_, fun hs' e => ⟨⟨w.heap.size, e, rfl⟩, trivial⟩⟩
  have : execOp a.eval o = (do pure (.value (← Instr.buildSlice t len (parts.map fun (i, x) => (i, a.eval x)))) : Sem Next) := by unfold execOp; rw [ho]
  rw [this]
  refine run_valW ?_
  have hpl : (Array.map (fun (x : Nat × Operand) => (x.1, a.eval x.2)) parts).toList = parts.toList.map fun x => (x.1, a.eval x.2) := by simp
  have hza : (Array.range (len * te.size)).map (fun j => te.zero.toArray[j % te.zero.toArray.size]!) = ((List.range (len * te.size)).map fun j => te.zero.getD (j % te.size) undef).toArray := by
    apply Array.toList_inj.1
    simp only [Array.toList_map, Array.toList_range]
    refine List.map_congr_left fun j _ => ?_
    have hlt : j % te.size < te.zero.length := by rw [htk.zs]; exact Nat.mod_lt _ hs0
    have hlt2 : j % te.zero.length < te.zero.length := by rw [htk.zs] at hlt ⊢; exact hlt
    simp only [List.size_toArray, htk.zs]
    simp [List.getD, hlt]
  simp only [Instr.buildSlice, Sem.run_bind, run_underlying hu, Result.andThen_ok, htk.run_size]
  rw [if_neg (by omega)]
  rw [if_neg (show ¬ len * te.size = 0 by omega)]
  simp only [Sem.run_bind, Sem.run_pure, Result.andThen_ok, hz2, hzc, hza, hpl, k1, newRow, newObj, Sem.run]
  rfl
theorem mu_store {t i off ty : Nat} {ti : TI} {x y : Operand} {s : SV} {cells : List At} (ht : tab.ok) (ho : o.op = .store t x y) (h1 : tab t = some ti) (hx : evX S.F x = some (.sv (.one (.ptr i off)))) (hm : S.M[i]? = some (.box cells ty false)) (hy : evX S.F y = some (.sv s)) (hj : s ≠ .one .junk)
    (hb : (Nat.beq (svCells s).length ti.size && Nat.ble (off + (svCells s).length) cells.length) = true) : MU c S o i (.box (cells.take off ++ svCells s ++ cells.drop (off + (svCells s).length)) ty false) := fun a w g hs h N Z hN => by
  obtain ⟨b1, b2⟩ := (Bool.and_eq_true _ _).mp hb
  replace b1 := Nat.eq_of_beq_eq_true b1
  replace b2 := Nat.le_of_ble_eq_true b2
  have hv := evX_ok h hy
  have hc := sv_cells hj hv
  have htk := ht t ti h1
  obtain ⟨⟨b, hb1, hv1⟩, _⟩ := evX_ok h hx
  obtain ⟨b', cs, k1, k2, k3, k4⟩ := h.items i _ hm
  rw [hb1] at k1
  simp at k1
  subst k1
  have l1 := oks_length hc
  have l2 := oks_length k2
  have hst := run_storeCells_at (P := Tryz.prog) b off ty (a.eval y).cells.toList 0 cs.toArray w k3 (by simp at l1 ⊢; omega) (fun v hv => (oks_cells hc v hv).one)
  simp only [Nat.add_zero] at hst
  unfold Oper.wp
  have hrun : (execOp a.eval o).run Tryz.prog w = .ok .skip (w.setRow b (cs.take off ++ (a.eval y).cells.toList ++ cs.drop (off + (a.eval y).cells.toList.length)).toArray) := by
    have : execOp a.eval o = (do Instr.storeAt t (a.eval x) (a.eval y); pure .skip : Sem Next) := by unfold execOp; rw [ho]
    rw [this]
    simp only [Instr.storeAt, hv1, Instr.sureAddr, storeVar, Sem.run_bind, Sem.run_pure, Result.andThen_ok, htk.run_size]
    rw [if_neg (by simp at l1; simp; omega)]
    simp only [hst, Result.andThen_ok, Sem.run_pure]
  rw [hrun]
  refine hN undef _ ?_ ?_
  · rw [hb1]
    exact ⟨rfl, rfl, rfl, by simp, fun k hk hne => setRow_other w b k _ (fun e => hne (by rw [e]; rfl))⟩
  · refine ⟨b, _, hb1, ?_, setRow_heap w b _ _ _ _ k3, fun h => by cases h⟩
    have e1 : (a.eval y).cells.toList.length = (svCells s).length := l1.symm
    rw [e1]
    exact oks_append (oks_append (oks_take off k2) hc) (oks_drop _ k2)
theorem mu_mapPut {κ α : Type} [DecidableEq κ] {enc : κ → Value} {T : Ty α} {D : List (κ × α)} {kt e t i : Nat} (K : KeyLaw kt enc) {k : κ} {y : α} {m x v : Operand} (ho : o.op = .mapUpdate t m x v ∨ o.op = .insert t m x v) (ht : Tryz.prog.underlying t = some (.map kt e))
    (hm : evX S.F m = some (.sv (.one (.own i)))) (hi : S.M[i]? = some (mapI enc T D)) (hx : evKV S.F x = some (enc k)) (hv : evX S.F v = some (.sv (T.sv y))) (hc : (T.sv y).refs = []) : MU c S o i (mapI enc T (mput k y D)) := fun a w g hs hk N Z hN => by
  unfold Oper.wp
  obtain ⟨b, D0, h1, h2, h3, h4, h5⟩ := map_own hk hi
  have hmv : a.eval m = .map (some b) := (evX_ok hk hm).1.trans h1
  have hval : (T.sv y).ok g hs0 (a.eval v) := SV.ok_hs (fun i hi => by rw [hc] at hi; cases hi) (evX_ok hk hv)
  obtain ⟨w', r1, ⟨es, clock, r2, r3, _, r4, r5⟩, rg⟩ := h2.put K ht k (a.eval v)
  have hrun : (execOp a.eval o).run Tryz.prog w = .ok .skip w' := by
    have e : execOp a.eval o = (do Instr.mapUpdate t (a.eval m) (a.eval x) (a.eval v); pure .skip : Sem Next) := by
      unfold execOp
      rcases ho with ho | ho <;> rw [ho]
    rw [e, hmv, evKV_ok hk hx, Sem.run_bind, r1]
    simp
  rw [hrun]
  obtain ⟨p1, p2⟩ := pairs_put (k := k) hval h3 h5
  exact hN undef w' (by rw [h1]; exact rg) ⟨b, es, clock, h1, r2, putD k (a.eval v) D0, ⟨r3, r4, r5⟩, p1, mput_nodup h4, p2⟩
theorem mt_weaken {x x' : SC} {K : List Nat} {p : Option (Nat × Item)} (h : MT c S o x K p) (hx : ∀ g hs u, x.ok g hs u → x'.ok g hs u) : MT c S o x' K p := fun a w g hs hk N Z hN =>
  h a w g hs hk N Z fun v w' g' h' h1 h2 h3 => hN v w' g' h' h1 (hx _ _ _ h2) h3
theorem mt_castB {b b' : Bool} (e : b = b') (h : MT c S o (.sv (.one (.v (.bool b)))) [] none) : MT c S o (.sv (.one (.v (.bool b')))) [] none := e ▸ h
theorem nil_LS {α : Type} {T : Ty α} (g : Gh) (hs : Nat → Value) (u : Value) (h : SC.ok g hs (.sv (.one (.v (.slice none 0 0)))) u) : SC.ok g hs (.sv (.one (LS T ([] : List α)))) u := by
  have : u = .slice none 0 0 := h.1
  subst this
  exact ls_nil
theorem mt_seal {α : Type} {T : Ty α} {l : List α} {K : List Nat} {q e : Nat} (h : MT c S o (.sv (.one (.own q))) K (some (q, rowI e T l))) : MT c S o (.sv (.one (LS T l))) K none := fun a w g hs hk N Z hN => by
  classical
  refine h a w g hs hk N Z fun v w' g' h' h1 h2 h3 => ?_
  obtain ⟨⟨cs, r1, r2⟩, hb⟩ := h3
  have hv : v = h' := by
    have := h2.1
    have e : v = (if q = q then h' else hs q) := this
    rwa [if_pos rfl] at e
  subst hv
  have hbk : ∀ b, Blk v b ↔ v.ownBlock = some b := fun b => Blk_slice (ownsRow_slice r1)
  let g2 : Gh := fun x => if v.ownBlock = some x then w'.heap[x]? else g' x
  have hle : Gh.le g' g2 := fun x o e => by
    show (if v.ownBlock = some x then _ else g' x) = some o
    by_cases hx : v.ownBlock = some x
    · have := (hb x (by rw [hbk]; exact hx)).2.1 rfl
      rw [this] at e
      cases e
    · rw [if_neg hx]; exact e
  refine hN v w' g2 undef ⟨h1.os, h1.tape, h1.output, h1.size, h1.block, h1.ghle.trans hle, fun b o e => ?_, fun b o e => ?_⟩ (row_LS r1 r2 hle (fun b hb => if_pos hb)) trivial
  · by_cases hx : v.ownBlock = some b
    · exact .inr ((hb b (by rw [hbk]; exact hx)).2.2)
    · rw [show g2 b = g' b from if_neg hx] at e
      exact h1.ghnew b o e
  · by_cases hx : v.ownBlock = some b
    · rw [show g2 b = w'.heap[b]? from if_pos hx] at e
      exact e
    · rw [show g2 b = g' b from if_neg hx] at e
      exact h1.pers b o e
def CtI (f : Nat) (ins : List SC) (M : List Item) (it : Item) : Prop := ∀ (w : World) (g : Gh) (hs : Nat → Value) (args : List Value), Pers g w → okArgs g hs ins args → (∀ (i : Nat) (it : Item), M[i]? = some it → fzOk g hs (hs i) it) →
  Calls Tryz.prog f args.toArray w (fun en w' => ∃ v g', en = .returned v ∧ Base (cfg0 0 w g) w' g' ∧ cellV v ∧ it.ok g' hs0 w' v ∧ ∀ b, Blk v b → b < w'.heap.size ∧ w.heap.size ≤ b ∧ g' b = none)
theorem mt_callI {it : Item} (p : Nat) {f : Nat} {ins : List SC} {M : List Item} (ct : CtI f ins M it) (en : ∀ args w, (callFunc f args).run Tryz.prog w = .ok (.enter f args) w) {caps : List Nat} (rn : List Nat) {fo : Operand} {args : Array Operand} {ats : Array TypeId} (hir : it.refs = [])
    (ho : o.op = .call ⟨.value fo, args, ats⟩) (hf : evX S.F fo = some (.sv (.one (.fn f caps)))) (ha : (match evXs S.F args.toList with | some l => some (l ++ caps.map fun i => .sv (.one (.ptr i 0))) | none => none) = some (ins.map (SC.ren fun i => rn.getD i 0)))
    (hM : fzE S.M (fun i => rn.getD i 0) 0 M = M.map fun it => some (it.ren fun i => rn.getD i 0)) (hz : M.all fzB = true) (hcb : caps.all (boxB S) = true) : MT c S o (.sv (.one (.own p))) [] (some (p, it)) := fun a w g hs h N Z hN => by
  unfold Oper.wp
  have hfv : a.eval fo = .func (.func f) #[] (caps.map hs).toArray := (evX_ok h hf).1
  split at ha
  case h_2 => cases ha
  rename_i l' hl
  simp only [Option.some.injEq] at ha
  have h1 := evXs_ok h hl
  have hcp : ∀ i ∈ caps, ∃ b, hs i = .pointer (some ⟨b, 0, none⟩) := fun i hi => by
    have := List.all_eq_true.1 hcb i hi
    unfold boxB at this
    cases hm : S.M[i]? with
    | none => rw [hm] at this; cases this
    | some it =>
      rw [hm] at this
      cases it <;> try (cases this; done)
      obtain ⟨b, cs, h1, _⟩ := h.items i _ hm
      exact ⟨b, h1⟩
  have h2 : okArgs g hs (caps.map fun i => SC.sv (.one (.ptr i 0))) (caps.map hs) := by
    clear ha hf hfv hcb
    induction caps with
    | nil => trivial
    | cons i caps ih =>
      refine ⟨?_, ih (fun j hj => hcp j (List.mem_cons_of_mem _ hj))⟩
      obtain ⟨b, hb⟩ := hcp i (by simp)
      exact ⟨⟨b, hb, hb⟩, by rw [hb]; trivial⟩
  have h3 := okArgs_append h1 h2
  rw [ha] at h3
  have h4 := okArgs_ren h3
  have hrun : (execOp a.eval o).run Tryz.prog w = .ok (.enter f ((args.toList.map a.eval) ++ caps.map hs).toArray) w := by
    unfold execOp
    simp only [ho, resolve, hfv, Deferred.ofValue, Sem.run_bind, Sem.run_pure, Result.andThen_ok, invoke]
    rw [show (#[] ++ Array.map a.eval args ++ (List.map hs caps).toArray : Array Value) = (args.toList.map a.eval ++ caps.map hs).toArray by simp]
    exact en _ _
  rw [hrun]
  refine (ct w g (fun i => hs (rn.getD i 0)) _ h.base.pers h4 (fun i it hi => ?_)).mono ?_
  · have h5 := fzE_ok hM i it hi
    rw [Nat.zero_add] at h5
    exact fz_of (f := fun i => rn.getD i 0) (i := i) h5 (List.all_eq_true.1 hz it (List.mem_of_getElem? hi)) h
  · rintro e' w' ⟨v, g', rfl, h5, hcv, h6, h8⟩
    refine hN v w' g' v (Eff.of_base h5) ⟨?_, ?_⟩ ⟨Item.ok_hs (fun j hj => by rw [hir] at hj; cases hj) h6, fun b hb => ?_⟩
    · show v = (if p = p then v else hs p)
      rw [if_pos rfl]
    · exact hcv
    · exact ⟨(h8 b hb).1, fun _ => (h8 b hb).2.2, .inl (h8 b hb).2.1⟩
variable {rest : List Oper} {ops : Array Oper} {N : Po} {n : Nat}
theorem WL.eqNil {α : Type} {T : Ty α} {l : List α} {m t e d : Nat} {yt : Nat} {x : Operand} {ti : TI} (op : BinOp) (neg : Bool) (hop : (op = .eql ∧ neg = false) ∨ (op = .neq ∧ neg = true)) (ht : tab.ok) (hn : c.n = n) (hw : wantE ops S.F o = some true) (ho : o.op = .binOp op t x (.const (.slice none 0 0)) yt) (h1 : tab t = some ti) (h2 : ti.sl = some e)
    (hx : evX S.F x = some (.sv (.one (.sl (slR T l) m)))) (hdst : o.dst = some d) (hd : Nat.blt d n = true) (h : ∀ b : Bool, (b = true → l = []) → WL c ops rest (S.put (some d) (.sv (.one (.v (.bool (b != neg)))))) N) : WL c ops (o :: rest) S N := fun a w ⟨g, hs, hk⟩ => by
  unfold wpList
  rw [if_pos (wantE_ok hk hw)]
  refine .inl ?_
  unfold Oper.wp
  have hu := slT_some ((ht t ti h1).sl.trans h2)
  obtain ⟨⟨⟨ao, n', cap, e1, e2, e3, e4, e5, _⟩, _⟩, _⟩ := evX_ok hk hx
  have hd' : d < c.n := by rw [hn]; exact Nat.le_of_ble_eq_true hd
  have hrun : (execOp a.eval o).run Tryz.prog w = .ok (.value (.bool (ao.isNone != neg))) w := by
    obtain ⟨X, hX⟩ : ∃ X : Sem Value, X = (do eqGuard op t x (.const (.slice none 0 0)) (a.eval x) (.slice none 0 0); binOp op t (a.eval x) (.slice none 0 0)) := ⟨_, rfl⟩
    have e : execOp a.eval o = (do pure (.value (← X)) : Sem Next) := by rw [hX]; unfold execOp; rw [ho]; rfl
    rw [e]
    refine run_val ?_
    rw [hX, e1]
    have heq : (Op.equal t (.slice ao n' cap) (.slice none 0 0)).run Tryz.prog w = .ok ao.isNone w := by
      show (Op.equalIn (9999 + 1) _ _ _).run _ _ = _
      rw [Op.equalIn]
      simp only [Sem.run_bind, run_underlying hu, Result.andThen_ok]
      cases ao <;> simp
    rcases hop with ⟨rfl, rfl⟩ | ⟨rfl, rfl⟩
    · have hg : (eqGuard .eql t x (.const (.slice none 0 0)) (.slice ao n' cap) (.slice none 0 0)).run Tryz.prog w = .ok () w := by simp [eqGuard]
      rw [Sem.run_bind, hg, Result.andThen_ok]
      simp only [binOp, Sem.run_bind, heq, Result.andThen_ok]
      cases ao <;> simp
    · have hg : (eqGuard .neq t x (.const (.slice none 0 0)) (.slice ao n' cap) (.slice none 0 0)).run Tryz.prog w = .ok () w := by simp [eqGuard]
      rw [Sem.run_bind, hg, Result.andThen_ok]
      simp only [binOp, Sem.run_bind, heq, Result.andThen_ok]
      cases ao <;> simp
  rw [hrun]
  have := h ao.isNone (fun hb => by
    have : ao = none := by cases ao <;> simp at hb ⊢
    have := e5 this
    exact List.eq_nil_of_length_eq_zero (by omega))
  refine this _ _ ⟨g, hs, ?_⟩
  rw [hdst]
  exact hk.put (fun d2 e => by cases e; exact hd') (fun _ _ => ⟨rfl, trivial⟩)
def CtJ {β : Type} (f : Nat) (ins : List SC) (M : List Item) (post : β → Prop) (itf : β → Item) : Prop := ∀ (w : World) (g : Gh) (hs : Nat → Value) (args : List Value), Pers g w → okArgs g hs ins args → (∀ (i : Nat) (it : Item), M[i]? = some it → fzOk g hs (hs i) it) →
  Calls Tryz.prog f args.toArray w (fun en w' => ∃ v g' r, en = .returned v ∧ post r ∧ Base (cfg0 0 w g) w' g' ∧ cellV v ∧ (itf r).ok g' hs0 w' v ∧ ∀ b, Blk v b → b < w'.heap.size ∧ w.heap.size ≤ b ∧ g' b = none)
theorem CtJ.fun {β : Type} {f : Nat} {ins : List SC} {M : List Item} {r : β} {itf : β → Item} (h : CtJ f ins M (fun x => x = r) itf) : CtI f ins M (itf r) := fun w g hs args h1 h2 h3 =>
  (h w g hs args h1 h2 h3).mono fun e w' ⟨v, g', r', e1, e2, e3⟩ => ⟨v, g', e1, by subst e2; exact e3⟩
def RetJ {β : Type} (c : Cfg) (rs : Array ResultVar) (post : β → Prop) (itf : β → Item) : Po := fun a w => a.defers = c.dfr ∧ ∃ v g' r, (resR rs a.tmps).run Tryz.prog w = .ok v w ∧ post r ∧ Base c w g' ∧ cellV v ∧ (itf r).ok g' hs0 w v ∧ ∀ b, Blk v b → b < w.heap.size ∧ c.w0.heap.size ≤ b ∧ g' b = none
theorem CtJ.body {β : Type} {post : β → Prop} {itf : β → Item} {f : Nat} {fn : Func} {code : Code} {n : Nat} {rs : Array ResultVar} {ins : List SC} {M : List Item} (hf : Tryz.prog.funcs[f]? = some fn) (hb : fn.body = some code) (hn : fn.ntmps = n) (hr : fn.results = rs)
    (hl : Nat.ble ins.length n = true) (h : ∀ c : Cfg, c.n = n → c.may = (fun _ => False) → En c ⟨enumF 0 ins, M⟩ (cwp code (PQ c (RetJ c rs post itf) [] (RetJ c rs post itf)))) : CtJ f ins M post itf := fun w g hs args hp ha hm => by
  have hl := Nat.le_of_ble_eq_true hl
  have hla := okArgs_length ha
  refine calls_of_wp hf hb (Code.wp_mono (fun ex a w' q => ?_) (h (cfg0 n w g) rfl rfl { tmps := args.toArray ++ Array.replicate (fn.ntmps - args.toArray.size) undef, defers := [] } w ⟨g, hs, ?_⟩))
  · have key : RetJ (cfg0 n w g) rs post itf a w' → a.defers = [] ∧ ∃ v, (results fn a.tmps).run Tryz.prog w' = .ok v w' ∧ ∃ v' g' r', Ending.returned v = .returned v' ∧ post r' ∧ Base (cfg0 0 w g) w' g' ∧ cellV v' ∧ (itf r').ok g' hs0 w' v' ∧ ∀ b, Blk v' b → b < w'.heap.size ∧ w.heap.size ≤ b ∧ g' b = none := fun ⟨h1, v, g', r', h2, h4, h5, h6, h7, h8⟩ => by
      refine ⟨h1, v, ?_, v, g', r', rfl, h4, ⟨h5.os, h5.tape, h5.output, h5.grows, h5.frame, h5.ghle, h5.ghnew, h5.pers⟩, h6, h7, h8⟩
      subst hr
      exact h2
    cases ex <;> first | exact key q | exact (q : False).elim | exact (q.2 : False).elim
  · refine ⟨?_, rfl, ⟨rfl, rfl, rfl, Nat.le_refl _, fun _ _ _ => rfl, Gh.le.refl g, fun b o e => .inl e, hp⟩, fun t x hx => ?_, fun i it hi => ?_, ?_, ?_⟩
    · simp [cfg0, hn]
      omega
    · obtain ⟨u, h1, _, h3⟩ := enumF_ok ha hx
      simp only [Nat.sub_zero] at h1
      have hlt := (List.getElem?_eq_some_iff.1 h1).1
      have : (args.toArray ++ Array.replicate (fn.ntmps - args.toArray.size) undef).getD t undef = u := by
        rw [Array.getD_eq_getD_getElem?, Array.getElem?_append_left (by simpa using hlt)]
        simp [h1]
      rw [this]
      exact h3
    · have := hm i it hi
      cases it <;> try exact this.elim
      rename_i cells ty fz
      cases fz
      · exact this.elim
      · obtain ⟨b, cs, h1, h2, h3⟩ := this
        exact ⟨b, cs, h1, h2, hp _ _ h3, fun _ => h3⟩
    · intro i j it jt _ hi _ hfi
      have := hm i it hi
      cases it <;> try exact this.elim
      rename_i cells ty fz
      cases fz
      · exact this.elim
      · cases hfi
    · intro i it hi hnn b hb
      clear hnn
      have := hm i it hi
      cases it <;> try exact this.elim
      rename_i cells ty fz
      cases fz
      · exact this.elim
      · obtain ⟨b', cs, h1, h2, h3⟩ := this
        rw [h1] at hb
        cases hb
        exact ⟨hp.lt h3, fun h => by cases h⟩
theorem res_one {tmps : Array Value} {t : Nat} {w : World} : (resR #[.tmp t] tmps).run Tryz.prog w = .ok (tmps.getD t undef) w := by
  simp [resR]
theorem En.backJ {β : Type} {post : β → Prop} {itf : β → Item} {t i : Nat} {l : β} (hmay : c.may = fun _ => False) (hl : look t S.F = some (.sv (.one (.own i)))) (hm : S.M[i]? = some (itf l)) (hz : (itf l).fz = false) (hr : (itf l).refs = []) (hp : post l) : En c S (RetJ c #[.tmp t] post itf) := fun a w ⟨g, hs, h⟩ => by
  have hv := h.slots t _ (look_mem hl)
  have hv1 : a.tmps.getD t undef = hs i := hv.1
  refine ⟨h.defers, hs i, g, l, by rw [res_one, hv1], hp, h.base, hv1 ▸ hv.2, Item.ok_hs (fun j hj => by rw [hr] at hj; cases hj) (h.items i _ hm), fun b hb => ?_⟩
  obtain ⟨m1, m2⟩ := h.mine i _ hm (fz_gone hz) b hb
  obtain ⟨m3, m4⟩ := m2 hz
  rw [hmay] at m3
  exact ⟨m1, m3.resolve_left (fun h => h), m4⟩
theorem En.backN {α : Type} {T : Ty α} {post : List α → Prop} {e t : Nat} (hl : look t S.F = some (.sv (.one (.v (.slice none 0 0))))) (hp : post []) : En c S (RetJ c #[.tmp t] post (fun l => rowI e T l)) := fun a w ⟨g, hs, h⟩ => by
  have hv : a.tmps.getD t undef = .slice none 0 0 := (h.slots t _ (look_mem hl)).1
  exact ⟨h.defers, .slice none 0 0, g, [], by rw [res_one, hv], hp, h.base, trivial, ⟨[], World.ownsAt_nil _ _ _, rowRead.nil⟩, fun b hb => by cases hb⟩
theorem En.freeze (l : List Nat) {M' : List Item} (e : fzSets S.M l = some M') (h : En c ⟨S.F, M'⟩ N) : En c S N := fun a w ⟨g, hs, hk⟩ => by
  obtain ⟨g', hk'⟩ := freezes (F := S.F) e hk
  exact h a w ⟨g', hs, hk'⟩
theorem mt_fv {x x' : SC} (ht : tab.ok) (e : evV tab S o = some x) (hx : ∀ a w g hs, Ok' c S a w g hs → ∀ u, SC.ok g hs x u → SC.ok g hs x' u) : MT c S o x' [] none := mt_val fun a w g hs hk => by
  obtain ⟨v, h1, h2⟩ := evV_ok ht hk e
  exact ⟨v, h1, hx a w g hs hk v h2⟩
theorem oks_nil {α : Type} {T : Ty α} {g : Gh} {hs : Nat → Value} : ∀ {l : List At} {us : List Value} (j : Nat), l[j]? = some (.v (.slice none 0 0)) → oks g hs l us → oks g hs (l.set j (LS T ([] : List α))) us
  | [], _, _, e, _ => by simp at e
  | _ :: _, [], _, _, h => h.elim
  | a :: _, u :: _, 0, e, h => by
    simp at e
    subst e
    have : u = .slice none 0 0 := h.1.1
    subst this
    exact ⟨ls_nil, h.2.1, h.2.2⟩
  | _ :: _, _ :: _, j + 1, e, h => ⟨h.1, h.2.1, oks_nil j (by simpa using e) h.2.2⟩
theorem WL.nilAgg {α : Type} {T : Ty α} {L : List Oper} {cells : List At} (t j : Nat) (hl : look t S.F = some (.sv (.agg cells))) (hj : cells[j]? = some (.v (.slice none 0 0))) (h : WL c ops L ⟨(t, .sv (.agg (cells.set j (LS T ([] : List α))))) :: S.F, S.M⟩ N) : WL c ops L S N :=
  WL.ghost t (x' := .sv (.agg (cells.set j (LS T ([] : List α))))) hl (fun a w g hs _ u hu => by
    obtain ⟨us, h1, h2⟩ := hu
    exact ⟨us, h1, oks_nil j hj h2⟩) h
end
end Go.Proofs.YtijgcihlodofdaaGreatDoor
