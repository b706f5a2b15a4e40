/- Symbolic states of a walk: contracts, entering, returning, calling. No condition. -/
import Derived.Test.YtfpdnigihjmohaaMirH
namespace Go.Proofs.Ytfpdnigihjmohaa
open Go.RowKit Go.MapKept
set_option linter.unusedSimpArgs false
set_option linter.unusedVariables false
set_option maxRecDepth 100000

theorem At.mono {g g' : Gh} {hs : Nat → Value} (hg : Gh.le g g') {a : At} {u : Value} (h : a.ok g hs u) : a.ok g' hs u := by
  refine ⟨?_, by have := h.2; cases a <;> exact this⟩
  have h1 := h.1
  cases a <;> simp only [At.raw] at h1 ⊢
  case rd r => exact r.mono _ _ _ hg h1
  case sl r n => exact ⟨r.mono _ _ _ hg h1.1, h1.2⟩
  case pe r s =>
    obtain ⟨b, o, x, h2, h3, h4, h5⟩ := h1
    exact ⟨b, o, x, h2, r.mono _ _ _ hg h3, h4, fun j c hj => Gh.cell_up hg (h5 j c hj)⟩
  all_goals exact h1
theorem oks_mono {g g' : Gh} {hs : Nat → Value} (hg : Gh.le g g') : ∀ {l : List At} {us : List Value}, oks g hs l us → oks g' hs l us
  | [], [], _ => trivial
  | [], _ :: _, h => h.elim
  | _ :: _, [], h => h.elim
  | _ :: _, _ :: _, h => ⟨At.mono hg h.1, h.2.1, oks_mono hg h.2.2⟩
theorem SV.mono {g g' : Gh} {hs : Nat → Value} (hg : Gh.le g g') {a : SV} {u : Value} (h : a.ok g hs u) : a.ok g' hs u := by
  cases a with
  | one a => exact At.mono hg h
  | agg l =>
    obtain ⟨cs, h1, h2⟩ := h
    exact ⟨cs, h1, oks_mono hg h2⟩
theorem svs_mono {g g' : Gh} {hs : Nat → Value} (hg : Gh.le g g') : ∀ {l : List SV} {us : List Value}, SV.oks g hs l us → SV.oks g' hs l us
  | [], [], _ => trivial
  | [], _ :: _, h => h.elim
  | _ :: _, [], h => h.elim
  | _ :: _, _ :: _, h => ⟨SV.mono hg h.1, svs_mono hg h.2⟩
theorem SC.mono {g g' : Gh} {hs : Nat → Value} (hg : Gh.le g g') {a : SC} {u : Value} (h : a.ok g hs u) : a.ok g' hs u := by
  cases a with
  | sv s => exact SV.mono hg h
  | tup l =>
    obtain ⟨cs, h1, h2⟩ := h
    exact ⟨cs, h1, svs_mono hg h2⟩
def At.ren (f : Nat → Nat) : At → At
  | .ptr i off => .ptr (f i) off
  | .own i => .own (f i)
  | .oe i k s => .oe (f i) k s
  | .fn g l => .fn g (l.map f)
  | .bsl i n => .bsl (f i) n
  | a => a
theorem At.ok_ren {g : Gh} {hs : Nat → Value} {f : Nat → Nat} {a : At} {u : Value} (h : (a.ren f).ok g hs u) : a.ok g (fun i => hs (f i)) u := by
  refine ⟨?_, by have := h.2; cases a <;> exact this⟩
  have h1 := h.1
  cases a <;> simp only [At.raw, At.ren] at h1 ⊢
  case fn _ l => rw [h1, List.map_map]; rfl
  all_goals exact h1
def SV.ren (f : Nat → Nat) : SV → SV
  | .one a => .one (a.ren f)
  | .agg l => .agg (l.map (At.ren f))
def SC.ren (f : Nat → Nat) : SC → SC
  | .sv s => .sv (s.ren f)
  | .tup l => .tup (l.map (SV.ren f))
theorem oks_ren {g : Gh} {hs : Nat → Value} {f : Nat → Nat} : ∀ {l : List At} {us : List Value}, oks g hs (l.map (At.ren f)) us → oks g (fun i => hs (f i)) l us
  | [], [], _ => trivial
  | [], _ :: _, h => h.elim
  | _ :: _, [], h => h.elim
  | _ :: _, _ :: _, h => ⟨At.ok_ren h.1, h.2.1, oks_ren h.2.2⟩
theorem SV.ok_ren {g : Gh} {hs : Nat → Value} {f : Nat → Nat} {a : SV} {u : Value} (h : (a.ren f).ok g hs u) : a.ok g (fun i => hs (f i)) u := by
  cases a with
  | one a => exact At.ok_ren h
  | agg l =>
    obtain ⟨cs, h1, h2⟩ := h
    exact ⟨cs, h1, oks_ren h2⟩
theorem svs_ren {g : Gh} {hs : Nat → Value} {f : Nat → Nat} : ∀ {l : List SV} {us : List Value}, SV.oks g hs (l.map (SV.ren f)) us → SV.oks g (fun i => hs (f i)) l us
  | [], [], _ => trivial
  | [], _ :: _, h => h.elim
  | _ :: _, [], h => h.elim
  | _ :: _, _ :: _, h => ⟨SV.ok_ren h.1, svs_ren h.2⟩
theorem SC.ok_ren {g : Gh} {hs : Nat → Value} {f : Nat → Nat} {a : SC} {u : Value} (h : (a.ren f).ok g hs u) : a.ok g (fun i => hs (f i)) u := by
  cases a with
  | sv s => exact SV.ok_ren h
  | tup l =>
    obtain ⟨cs, h1, h2⟩ := h
    exact ⟨cs, h1, svs_ren h2⟩
def Item.ren (f : Nat → Nat) : Item → Item
  | .box cells ty fz => .box (cells.map (At.ren f)) ty fz
  | it => it
/-- a variable that nobody writes any more -/
def fzOk (g : Gh) (hs : Nat → Value) (h : Value) : Item → Prop
  | .box cells ty true => ∃ b cs, h = .pointer (some ⟨b, 0, none⟩) ∧ oks g hs cells cs ∧ g b = some (.cells cs.toArray ty (0, 0))
  | _ => False
def okArgs (g : Gh) (hs : Nat → Value) : List SC → List Value → Prop
  | [], [] => True
  | a :: l, u :: us => a.ok g hs u ∧ okArgs g hs l us
  | _, _ => False
def cfg0 (n : Nat) (w : World) (g : Gh) : Cfg := ⟨n, w, g, fun _ => False⟩
def hs0 : Nat → Value := fun _ => undef
def RetP {β : Type} (w : World) (g : Gh) (post : β → Prop) (out : β → SC) (e : Ending) (w' : World) : Prop := ∃ v g' r, e = .returned v ∧ post r ∧ (out r).ok g' hs0 v ∧ Base (cfg0 0 w g) w' g'
/-- a contract: of arguments that are so, with these variables that nobody writes any more, a result that is so; nothing of what was there is written -/
def Ct {β : Type} (f : Nat) (ins : List SC) (M : List Item) (post : β → Prop) (out : β → SC) : Prop := ∀ (w : World) (g : Gh) (hs : Nat → Value) (args : List Value), Pers g w → okArgs g hs ins args → (∀ (i : Nat) (it : Item), M[i]? = some it → fzOk g hs (hs i) it) →
  Calls Try.prog f args.toArray w (RetP w g post out)
theorem Ct.imp {β : Type} {f : Nat} {ins : List SC} {M : List Item} {post post' : β → Prop} {out : β → SC} (h : Ct f ins M post out) (hp : ∀ r, post r → post' r) : Ct f ins M post' out := fun w g hs args h1 h2 h3 =>
  (h w g hs args h1 h2 h3).mono fun e w' ⟨v, g', r, e1, e2, e3⟩ => ⟨v, g', r, e1, hp r e2, e3⟩
def resR (rs : Array ResultVar) (tmps : Array Value) : Sem Value := do
  let vs ← rs.mapM fun
    | .tmp t => pure (tmps.getD t undef)
    | .cell a t => do loadVar t (← asAddr (tmps.getD a undef))
  pure (if h : vs.size = 1 then vs[0] else .tuple vs)
def RetA {β : Type} (c : Cfg) (rs : Array ResultVar) (post : β → Prop) (out : β → SC) : Po := fun a w => a.defers = [] ∧ ∃ v g' r, (resR rs a.tmps).run Try.prog w = .ok v w ∧ post r ∧ (out r).ok g' hs0 v ∧ Base c w g'
def enumF : Nat → List SC → List (Nat × SC)
  | _, [] => []
  | k, x :: l => (k, x) :: enumF (k + 1) l
theorem okArgs_length {g : Gh} {hs : Nat → Value} : ∀ {l : List SC} {us : List Value}, okArgs g hs l us → l.length = us.length
  | [], [], _ => rfl
  | [], _ :: _, h => h.elim
  | _ :: _, [], h => h.elim
  | _ :: l, _ :: us, h => by simp [okArgs_length h.2]
theorem enumF_ok {g : Gh} {hs : Nat → Value} : ∀ {l : List SC} {us : List Value} {k t : Nat} {x : SC}, okArgs g hs l us → (t, x) ∈ enumF k l → ∃ u, us[t - k]? = some u ∧ k ≤ t ∧ x.ok g hs u
  | [], _, _, _, _, _, h => by simp [enumF] at h
  | _ :: _, [], _, _, _, h, _ => h.elim
  | y :: l, u :: us, k, t, x, h, hm => by
    simp only [enumF, List.mem_cons] at hm
    rcases hm with hm | hm
    · cases hm
      exact ⟨u, by simp, Nat.le_refl _, h.1⟩
    · obtain ⟨v, h1, h2, h3⟩ := enumF_ok (k := k + 1) h.2 hm
      refine ⟨v, ?_, by omega, h3⟩
      rw [show t - k = (t - (k + 1)) + 1 by omega]
      simpa using h1
def fzAll (M : List Item) : Bool := M.all fun it => match it with
  | .box _ _ true => true
  | _ => false
theorem Ct.body {β : Type} {f : Nat} {fn : Func} {code : Code} {n : Nat} {rs : Array ResultVar} {ins : List SC} {M : List Item} {post : β → Prop} {out : β → SC} (hf : Try.prog.funcs[f]? = some fn) (hb : fn.body = some code) (hn : fn.ntmps = n) (hr : fn.results = rs)
    (hl : Nat.ble ins.length n = true) (h : ∀ c : Cfg, c.n = n → En c ⟨enumF 0 ins, M⟩ (cwp code (PQ (RetA c rs post out) [] (RetA c rs post out)))) : Ct f ins M post out := fun w g hs args hp ha hm => by
  have hl := Nat.le_of_ble_eq_true hl
  have hla := okArgs_length ha
  refine calls_of_wp hf hb (Code.wp_mono (fun e a w' q => ?_) (h (cfg0 n w g) rfl { tmps := args.toArray ++ Array.replicate (fn.ntmps - args.toArray.size) undef, defers := [] } w ⟨g, hs, ?_⟩))
  · have key : RetA (cfg0 n w g) rs post out a w' → a.defers = [] ∧ ∃ v, (results fn a.tmps).run Try.prog w' = .ok v w' ∧ RetP w g post out (.returned v) w' := fun ⟨h1, v, g', r, h2, h3, h4, h5⟩ => by
      refine ⟨h1, v, ?_, v, g', r, rfl, h3, h4, h5.os, h5.tape, h5.output, h5.grows, h5.frame, h5.ghle, h5.ghnew, h5.pers⟩
      subst hr
      exact h2
    cases e <;> first | exact key q | exact (q : False).elim
  · refine ⟨?_, rfl, ⟨rfl, rfl, rfl, Nat.le_refl _, fun _ _ _ => rfl, Gh.le.refl g, fun b o e => .inl e, hp⟩, fun t x hx => ?_, fun i it hi => ?_, ?_, ?_⟩
    · simp [cfg0, hn]
      omega
    · obtain ⟨u, h1, _, h3⟩ := enumF_ok ha hx
      simp only [Nat.sub_zero] at h1
      have hlt := (List.getElem?_eq_some_iff.1 h1).1
      have : (args.toArray ++ Array.replicate (fn.ntmps - args.toArray.size) undef).getD t undef = u := by
        rw [Array.getD_eq_getD_getElem?, Array.getElem?_append_left (by simpa using hlt)]
        simp [h1]
      rw [this]
      exact h3
    · have := hm i it hi
      cases it <;> try exact this.elim
      rename_i cells ty fz
      cases fz
      · exact this.elim
      · obtain ⟨b, cs, h1, h2, h3⟩ := this
        exact ⟨b, cs, h1, h2, hp _ _ h3, fun _ => h3⟩
    · intro i j it jt _ hi _ hfi
      have := hm i it hi
      cases it <;> try exact this.elim
      rename_i cells ty fz
      cases fz
      · exact this.elim
      · cases hfi
    · intro i it hi hnn b hb
      clear hnn
      have := hm i it hi
      cases it <;> try exact this.elim
      rename_i cells ty fz
      cases fz
      · exact this.elim
      · obtain ⟨b', cs, h1, h2, h3⟩ := this
        rw [h1] at hb
        cases hb
        exact ⟨hp.lt h3, fun h => by cases h⟩

/-- what a function hands back -/
def evR1 (tab : Tab) (S : St) : ResultVar → Option SV
  | .tmp t => match look t S.F with
    | some (.sv s) => some s
    | _ => none
  | .cell a t => match evLoad tab S t (.tmp a) with
    | some (.sv s) => some s
    | _ => none
def evRs (tab : Tab) (S : St) : List ResultVar → Option (List SV)
  | [] => some []
  | r :: l => match evR1 tab S r with
    | some s => match evRs tab S l with
      | some ss => some (s :: ss)
      | none => none
    | none => none
def evR (tab : Tab) (S : St) (rs : Array ResultVar) : Option SC := match evRs tab S rs.toList with
  | some [s] => some (.sv s)
  | some l => some (.tup l)
  | none => none
def runR1 (tmps : Array Value) : ResultVar → Sem Value
  | .tmp t => pure (tmps.getD t undef)
  | .cell a t => do loadVar t (← asAddr (tmps.getD a undef))
section
variable {c : Cfg} {S S' : St} {a : Act} {w : World} {g : Gh} {hs : Nat → Value} {tab : Tab} {n : Nat}
theorem evR1_ok (ht : tab.ok) (h : Ok' c S a w g hs) {r : ResultVar} {s : SV} (e : evR1 tab S r = some s) : ∃ v, (runR1 a.tmps r).run Try.prog w = .ok v w ∧ s.ok g hs v := by
  cases r with
  | tmp t =>
    simp only [evR1] at e
    split at e
    case h_2 => cases e
    rename_i x hx
    cases e
    exact ⟨_, by simp [runR1], h.slots t _ (look_mem hx)⟩
  | cell b t =>
    simp only [evR1] at e
    split at e
    case h_2 => cases e
    rename_i x hx
    cases e
    unfold evLoad at hx
    split at hx
    case h_2 => cases hx
    rename_i i off hp
    split at hx
    case h_2 => cases hx
    rename_i cells ty fz hm
    split at hx
    case h_2 => cases hx
    rename_i ti hti
    split at hx
    case h_2 => cases hx
    rename_i r hr
    cases hx
    obtain ⟨⟨bb, hb, hv⟩, _⟩ := evX_ok h hp
    obtain ⟨b', cs, h1, h2, h3, h4⟩ := h.items i _ hm
    rw [hb] at h1
    simp at h1
    subst h1
    obtain ⟨v, h5, h6⟩ := run_loadVar_box (ht t ti hti) h3 h2 hr
    refine ⟨v, ?_, h6⟩
    have hv' : a.tmps.getD b undef = .pointer (some ⟨bb, off, none⟩) := hv
    simp [runR1, hv', asAddr, h5]
theorem evRs_ok (ht : tab.ok) (h : Ok' c S a w g hs) : ∀ {l : List ResultVar} {ss : List SV}, evRs tab S l = some ss → ∃ vs, (l.mapM (runR1 a.tmps)).run Try.prog w = .ok vs w ∧ SV.oks g hs ss vs
  | [], ss, e => by cases e; exact ⟨[], by simp, trivial⟩
  | r :: l, ss, e => by
    unfold evRs at e
    split at e
    case h_2 => cases e
    rename_i s hs1
    split at e
    case h_2 => cases e
    rename_i ss' hss
    cases e
    obtain ⟨v, h1, h2⟩ := evR1_ok ht h hs1
    obtain ⟨vs, h3, h4⟩ := evRs_ok ht h hss
    exact ⟨v :: vs, by simp [List.mapM_cons, Sem.run_bind, h1, h3], h2, h4⟩
theorem evR_ok (ht : tab.ok) (h : Ok' c S a w g hs) {rs : Array ResultVar} {x : SC} (e : evR tab S rs = some x) : ∃ v, (resR rs a.tmps).run Try.prog w = .ok v w ∧ x.ok g hs v := by
  unfold evR at e
  have hrun : ∀ vs : List Value, (rs.toList.mapM (runR1 a.tmps)).run Try.prog w = .ok vs w → (resR rs a.tmps).run Try.prog w = .ok (if h : vs.toArray.size = 1 then vs.toArray[0] else .tuple vs.toArray) w := fun vs hvs => by
    unfold resR
    rw [Sem.run_bind]
    have : (rs.mapM (runR1 a.tmps)).run Try.prog w = .ok vs.toArray w := by
      rw [Array.mapM_eq_mapM_toList, map_eq_pure_bind, Sem.run_bind, hvs]
      simp
    have e2 : (fun (x : ResultVar) => (match x with
      | .tmp t => pure (a.tmps.getD t undef)
      | .cell a_1 t => do loadVar t (← asAddr (a.tmps.getD a_1 undef)) : Sem Value)) = runR1 a.tmps := by
      funext x
      cases x <;> rfl
    rw [e2, this]
    simp
  split at e
  · rename_i s hl
    cases e
    obtain ⟨vs, h1, h2⟩ := evRs_ok ht h hl
    match vs, h2 with
    | [v], h2 => exact ⟨v, by have := hrun _ h1; simpa using this, h2.1⟩
  · rename_i l hne hl
    cases e
    obtain ⟨vs, h1, h2⟩ := evRs_ok ht h hl
    have hlen : ∀ {l : List SV} {us : List Value}, SV.oks g hs l us → l.length = us.length := by
      intro l
      induction l with
      | nil => intro us h; cases us with
        | nil => rfl
        | cons _ _ => exact h.elim
      | cons x l ih => intro us h; cases us with
        | nil => exact h.elim
        | cons u us => simp [ih h.2]
    have h3 := hlen h2
    have h4 : vs.length ≠ 1 := fun e => by
      rw [e] at h3
      match l, h3 with
      | [s], _ => exact hne s rfl
    exact ⟨.tuple vs.toArray, by have := hrun _ h1; rw [this]; simp [h4], vs, rfl, h2⟩
  · cases e
theorem SC.ok_closed {x : SC} (hc : x.refs = []) {v : Value} (h : x.ok g hs v) : x.ok g hs0 v := SC.ok_hs (fun i hi => by rw [hc] at hi; cases hi) h
theorem SC.ok_closed' {x : SC} (hc : x.refs = []) {v : Value} (h : x.ok g hs0 v) : x.ok g hs v := SC.ok_hs (fun i hi => by rw [hc] at hi; cases hi) h
/-- return -/
theorem En.back {β : Type} {post : β → Prop} {out : β → SC} {rs : Array ResultVar} (ht : tab.ok) (r : β) (hp : post r) (e : evR tab S rs = some (out r)) (hc : (out r).refs = []) : En c S (RetA c rs post out) := fun a w ⟨g, hs, h⟩ => by
  obtain ⟨v, h1, h2⟩ := evR_ok ht h e
  exact ⟨h.defers, v, g, r, h1, hp, SC.ok_closed hc h2, h.base⟩
def evXs (F : List (Nat × SC)) : List Operand → Option (List SC)
  | [] => some []
  | o :: l => match evX F o with
    | some x => match evXs F l with
      | some xs => some (x :: xs)
      | none => none
    | none => none
theorem evXs_ok (h : Ok' c S a w g hs) : ∀ {l : List Operand} {xs : List SC}, evXs S.F l = some xs → okArgs g hs xs (l.map a.eval)
  | [], xs, e => by cases e; trivial
  | o :: l, xs, e => by
    unfold evXs at e
    split at e
    case h_2 => cases e
    rename_i x hx
    split at e
    case h_2 => cases e
    rename_i xs' hxs
    cases e
    exact ⟨evX_ok h hx, evXs_ok h hxs⟩
theorem okArgs_append {l l' : List SC} {us us' : List Value} : okArgs g hs l us → okArgs g hs l' us' → okArgs g hs (l ++ l') (us ++ us') := by
  induction l generalizing us with
  | nil => intro h h'; cases us with
    | nil => exact h'
    | cons _ _ => exact h.elim
  | cons x l ih => intro h h'; cases us with
    | nil => exact h.elim
    | cons u us => exact ⟨h.1, ih h.2 h'⟩
theorem okArgs_ren {f : Nat → Nat} : ∀ {l : List SC} {us : List Value}, okArgs g hs (l.map (SC.ren f)) us → okArgs g (fun i => hs (f i)) l us
  | [], [], _ => trivial
  | [], _ :: _, h => h.elim
  | _ :: _, [], h => h.elim
  | _ :: _, _ :: _, h => ⟨SC.ok_ren h.1, okArgs_ren h.2⟩
theorem Base.trans {w w' : World} {g g' : Gh} (h : Base c w g) (h' : Base (cfg0 n w g) w' g') : Base c w' g' := by
  refine ⟨h'.os.trans h.os, h'.tape.trans h.tape, h'.output.trans h.output, Nat.le_trans h.grows h'.grows, fun b hb hm => (h'.frame b (Nat.lt_of_lt_of_le hb h.grows) (fun h => h)).trans (h.frame b hb hm), h.ghle.trans h'.ghle, fun b o e => ?_, h'.pers⟩
  rcases h'.ghnew b o e with h1 | h1 | h1
  · exact h.ghnew b o h1
  · exact h1.elim
  · exact .inr (.inr (Nat.le_trans h.grows h1))
/-- behind a call that writes nothing of what was there -/
theorem Ok'.called (h : Ok' c S a w g hs) {w' : World} {g' : Gh} (hb : Base (cfg0 n w g) w' g') : Ok' c S a w' g' hs := by
  refine ⟨h.size, h.defers, h.base.trans hb, fun t x hx => SC.mono hb.ghle (h.slots t x hx), fun i it hi => ?_, h.sep, fun i it hi hn b hb1 => ?_⟩
  · by_cases hn : it = .gone
    · subst hn; trivial
    · have hk : it.ok g hs w' (hs i) := Item.kept (k := none) ⟨hb.os, hb.tape, hb.output, hb.grows, fun k hk _ => hb.frame k hk (fun h => h)⟩ (h := h.items i it hi) fun b hb => ⟨(h.mine i it hi hn b hb).1, by simp⟩
      cases it with
      | box cells ty fz =>
        obtain ⟨b, cs, h1, h2, h3, h4⟩ := hk
        exact ⟨b, cs, h1, oks_mono hb.ghle h2, h3, fun h => hb.ghle _ _ (h4 h)⟩
      | row ty s r n =>
        obtain ⟨cs, h1, h2⟩ := hk
        exact ⟨cs, h1, r.mono _ _ _ hb.ghle h2⟩
      | map r =>
        obtain ⟨m, es, clock, h1, h2, h3⟩ := hk
        exact ⟨m, es, clock, h1, h2, r.mono _ _ _ hb.ghle h3⟩
      | iter _ _ => exact hk
      | gone => trivial
  · obtain ⟨h1, h2⟩ := h.mine i it hi hn b hb1
    refine ⟨Nat.lt_of_lt_of_le h1 hb.grows, fun hf => ⟨(h2 hf).1, ?_⟩⟩
    cases hgb : g' b with
    | none => rfl
    | some o =>
      rcases hb.ghnew b o hgb with h3 | h3 | h3
      · have h4 := (h2 hf).2
        have h5 : g b = some o := h3
        rw [h4] at h5
        cases h5
      · exact h3.elim
      · have h5 : w.heap.size ≤ b := h3
        omega
/-- a contract's variables that nobody writes any more, among those of the caller -/
def fzIn (M : List Item) (f : Nat → Nat) (M' : List Item) : Prop := ∀ (i : Nat) (it : Item), M'[i]? = some it → M[f i]? = some (it.ren f) ∧ (it.ren f).fz = true ∧ (match it with | .box _ _ _ => True | _ => False)
def fzE (M : List Item) (f : Nat → Nat) : Nat → List Item → List (Option Item)
  | _, [] => []
  | k, _ :: l => M[f k]? :: fzE M f (k + 1) l
def fzB : Item → Bool
  | .box _ _ fz => fz
  | _ => false
theorem fzE_ok {M : List Item} {f : Nat → Nat} : ∀ {M' : List Item} {k : Nat}, fzE M f k M' = (M'.map fun it => some (it.ren f)) → ∀ (i : Nat) (it : Item), M'[i]? = some it → M[f (k + i)]? = some (it.ren f)
  | [], _, _, i, it, h => by simp at h
  | x :: l, k, e, 0, it, h => by
    simp at h
    subst h
    simp only [fzE, List.map_cons, List.cons.injEq] at e
    exact e.1
  | x :: l, k, e, i + 1, it, h => by
    simp only [fzE, List.map_cons, List.cons.injEq] at e
    have := fzE_ok e.2 i it (by simpa using h)
    rw [show k + (i + 1) = k + 1 + i by omega]
    exact this
theorem fz_of {it : Item} {f : Nat → Nat} {i : Nat} (hi : S.M[f i]? = some (it.ren f)) (hz : fzB it = true) (h : Ok' c S a w g hs) : fzOk g (fun i => hs (f i)) (hs (f i)) it := by
  cases it with
  | box cells ty fz =>
    have hz : fz = true := hz
    subst hz
    obtain ⟨b, cs, h1, h2, h3, h4⟩ := h.items _ _ hi
    exact ⟨b, cs, h1, oks_ren h2, h4 rfl⟩
  | _ => cases hz
def boxB (S : St) (i : Nat) : Bool := match S.M[i]? with
  | some (.box _ _ _) => true
  | _ => false
/-- a call -/
theorem call_step {β : Type} {f : Nat} {ins : List SC} {M : List Item} {post : β → Prop} {out : β → SC} (ct : Ct f ins M post out) (en : ∀ args w, (callFunc f args).run Try.prog w = .ok (.enter f args) w) {caps : List Nat} (rn : List Nat) {ops : Array Oper} {o : Oper} {fo : Operand} {args : Array Operand} {ats : Array TypeId} {N : Po} {rest : List Oper}
    (hn : c.n = n) (hw : wantE ops S.F o = some true) (ho : o.op = .call ⟨.value fo, args, ats⟩) (hf : evX S.F fo = some (.sv (.one (.fn f caps)))) (ha : (match evXs S.F args.toList with | some l => some (l ++ caps.map fun i => .sv (.one (.ptr i 0))) | none => none) = some (ins.map (SC.ren fun i => rn.getD i 0)))
    (hM : fzE S.M (fun i => rn.getD i 0) 0 M = M.map fun it => some (it.ren fun i => rn.getD i 0)) (hz : M.all fzB = true) (hd : (match o.dst with | some d => Nat.blt d n | none => true) = true) (hcl : ∀ r, (out r).refs = []) (hcb : caps.all (boxB S) = true)
    (h : Ok' c S a w g hs) (hk : ∀ r, post r → ∀ a' w', Ok c (S.put o.dst (out r)) a' w' → wpList Try.prog ops (RM.Only N) rest a' w') : wpList Try.prog ops (RM.Only N) (o :: rest) a w := by
  unfold wpList
  rw [if_pos (wantE_ok h hw)]
  refine .inl ?_
  unfold Oper.wp
  have hfv : a.eval fo = .func (.func f) #[] (caps.map hs).toArray := (evX_ok h hf).1
  split at ha
  case h_2 => cases ha
  rename_i l hl
  simp only [Option.some.injEq] at ha
  have h1 := evXs_ok h hl
  have hlb : evXs S.F args.toList = some l := hl
  have hcp : ∀ i ∈ caps, ∃ b, hs i = .pointer (some ⟨b, 0, none⟩) := fun i hi => by
    have := List.all_eq_true.1 hcb i hi
    unfold boxB at this
    cases hm : S.M[i]? with
    | none => rw [hm] at this; cases this
    | some it =>
      rw [hm] at this
      cases it <;> try (cases this; done)
      obtain ⟨b, cs, h1, _⟩ := h.items i _ hm
      exact ⟨b, h1⟩
  · have h2 : okArgs g hs (caps.map fun i => SC.sv (.one (.ptr i 0))) (caps.map hs) := by
      clear ha hf hfv hcb
      induction caps with
      | nil => trivial
      | cons i caps ih =>
        refine ⟨?_, ih (fun j hj => hcp j (List.mem_cons_of_mem _ hj))⟩
        obtain ⟨b, hb⟩ := hcp i (by simp)
        exact ⟨⟨b, hb, hb⟩, by rw [hb]; trivial⟩
    have h3 := okArgs_append h1 h2
    rw [ha] at h3
    have h4 := okArgs_ren h3
    have hrun : (execOp a.eval o).run Try.prog w = .ok (.enter f ((args.toList.map a.eval) ++ caps.map hs).toArray) w := by
      unfold execOp
      simp only [ho, resolve, hfv, Deferred.ofValue, Sem.run_bind, Sem.run_pure, Result.andThen_ok, invoke]
      rw [show (#[] ++ Array.map a.eval args ++ (List.map hs caps).toArray : Array Value) = (args.toList.map a.eval ++ caps.map hs).toArray by simp]
      exact en _ _
    rw [hrun]
    refine (ct w g (fun i => hs (rn.getD i 0)) _ h.base.pers h4 (fun i it hi => ?_)).mono ?_
    · have h5 := fzE_ok hM i it hi
      rw [Nat.zero_add] at h5
      exact fz_of h5 (List.all_eq_true.1 hz it (List.mem_of_getElem? hi)) h
    · rintro e w' ⟨v, g', r, rfl, h5, h6, h7⟩
      refine hk r h5 _ _ ⟨g', hs, (h.called (n := 0) h7).put (fun d e => ?_) (fun _ _ => SC.ok_closed' (hcl r) h6)⟩
      rw [e] at hd
      rw [hn]
      exact Nat.le_of_ble_eq_true hd
/-- a call -/
theorem WL.call {β : Type} {f : Nat} {ins : List SC} {M : List Item} {post : β → Prop} {out : β → SC} (ct : Ct f ins M post out) (en : ∀ args w, (callFunc f args).run Try.prog w = .ok (.enter f args) w) {caps : List Nat} (rn : List Nat) {ops : Array Oper} {o : Oper} {fo : Operand} {args : Array Operand} {ats : Array TypeId} {N : Po} {rest : List Oper}
    (hn : c.n = n) (hw : wantE ops S.F o = some true) (ho : o.op = .call ⟨.value fo, args, ats⟩) (hf : evX S.F fo = some (.sv (.one (.fn f caps)))) (ha : (match evXs S.F args.toList with | some l => some (l ++ caps.map fun i => .sv (.one (.ptr i 0))) | none => none) = some (ins.map (SC.ren fun i => rn.getD i 0)))
    (hM : fzE S.M (fun i => rn.getD i 0) 0 M = M.map fun it => some (it.ren fun i => rn.getD i 0)) (hz : M.all fzB = true) (hd : (match o.dst with | some d => Nat.blt d n | none => true) = true) (hcl : ∀ r, (out r).refs = []) (hcb : caps.all (boxB S) = true)
    (hk : ∀ r, post r → WL c ops rest (S.put o.dst (out r)) N) : WL c ops (o :: rest) S N := fun a w ⟨g, hs, h⟩ => call_step ct en rn hn hw ho hf ha hM hz hd hcl hcb h hk
end
end Go.Proofs.Ytfpdnigihjmohaa
