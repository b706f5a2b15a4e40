/- Symbolic states of a walk: runs that end in a state that is written out; regions that draw their order and only read. No condition. -/
import Derived.Test.YtfpdnigihjmohaaMirJ
namespace Go.Proofs.Ytfpdnigihjmohaa
open Go.RowKit Go.MapKept
set_option linter.unusedSimpArgs false
set_option linter.unusedVariables false
set_option maxRecDepth 100000

def subE (S' S1 : St) : List (Option SC) × List (Option Item) := (S'.F.map fun e => look e.1 S1.F, (dropM S'.M S1.M).2)
def subX (S' : St) : List (Option SC) × List (Option Item) := (S'.F.map fun e => some e.2, (dropM S'.M S'.M).1)
theorem dropM_fst : ∀ (M' A C : List Item), (dropM M' A).1 = (dropM M' C).1
  | [], _, _ => rfl
  | x :: l, A, C => by
    have ih := dropM_fst l (A.drop 1) (C.drop 1)
    cases x <;> simp only [dropM, ih]
section
variable {c : Cfg} {S S1 : St} {a : Act} {w : World} {g : Gh} {hs : Nat → Value} {tab : Tab} {n : Nat} {o : Oper} {ops : Array Oper} {rest L : List Oper} {N : Po}
theorem sub_ok {S' : St} (e : subE S' S1 = subX S') : ∀ a w, Ok c S1 a w → Ok c S' a w := by
  have e1 := congrArg Prod.fst e
  have e2 := congrArg Prod.snd e
  refine Ok.sub e1 ?_
  rw [dropM_fst S'.M S1.M S'.M]
  exact e2.symm
theorem En.sub' (S' : St) (e : subE S' S = subX S') (h : En c S' N) : En c S N := fun a w hk => h a w (sub_ok e a w hk)
theorem En.at {σ : Type} {I : σ → Prop} {T : σ → St} (s : σ) (h : I s) (e : subE (T s) S = subX (T s)) : En c S (fun a w => ∃ s, I s ∧ Ok c (T s) a w) := fun a w hk => ⟨s, h, sub_ok e a w hk⟩
theorem map_some {α β : Type} {x : Option α} {f : α → β} {y : β} (e : x.map f = some y) : ∃ z, x = some z ∧ f z = y := by
  cases x with
  | none => cases e
  | some z => exact ⟨z, rfl, Option.some.inj e⟩
/-- a run, to a state that is written out -/
theorem WL.run (ht : tab.ok) (hn : c.n = n) (k : Nat) (S' : St) (e : (evL tab n ops (L.take k) S).map (subE S') = some (subX S')) (h : WL c ops (L.drop k) S' N) : WL c ops L S N := by
  obtain ⟨S2, e1, e2⟩ := map_some e
  exact WL.ev ht hn k S2 e1 (fun a w hk => h a w (sub_ok e2 a w hk))
theorem WL.sub (S' : St) (e : subE S' S = subX S') (h : WL c ops L S' N) : WL c ops L S N := fun a w hk => h a w (sub_ok e a w hk)
theorem B_inj {b b' : Bool} {v : Value} (h : v = .bool b) (e : b = b') : v = .bool b' := by rw [h, e]
theorem setB_ok (t : Nat) {b b' : Bool} (hl : look t S.F = some (.sv (.one (.v (.bool b))))) (e : b = b') : Ok' c S a w g hs → Ok' c ⟨(t, .sv (.one (.v (.bool b')))) :: S.F, S.M⟩ a w g hs := fun h => by
  subst e
  refine ⟨h.size, h.defers, h.base, fun t' x hx => ?_, h.items, h.sep, h.mine⟩
  rcases List.mem_cons.1 hx with hx | hx
  · cases hx
    exact h.slots t _ (look_mem hl)
  · exact h.slots t' x hx
/-- a truth is known -/
theorem WL.setB (t : Nat) {b b' : Bool} (e : b = b') (hl : look t S.F = some (.sv (.one (.v (.bool b))))) (h : WL c ops L ⟨(t, .sv (.one (.v (.bool b')))) :: S.F, S.M⟩ N) : WL c ops L S N := fun a w ⟨g, hs, hk⟩ => h a w ⟨g, hs, setB_ok t hl e hk⟩
theorem En.setB (t : Nat) {b b' : Bool} (e : b = b') (hl : look t S.F = some (.sv (.one (.v (.bool b))))) (h : En c ⟨(t, .sv (.one (.v (.bool b')))) :: S.F, S.M⟩ N) : En c S N := fun a w ⟨g, hs, hk⟩ => h a w ⟨g, hs, setB_ok t hl e hk⟩
theorem splitB {p : Prop} (b : Bool) (h1 : b = true → p) (h2 : b = false → p) : p := by
  cases b
  · exact h2 rfl
  · exact h1 rfl
/-- a run that only reads: it ends in a state of which K holds -/
def SL (c : Cfg) (ops : Array Oper) (L : List Oper) (S : St) (K : St → Prop) : Prop := ∀ a w g hs, Ok' c S a w g hs → ∃ S' aE, K S' ∧ Ok' c S' aE w g hs ∧ ∀ N : Po, N aE w → wpList Try.prog ops (RM.Only N) L a w
variable {K : St → Prop}
theorem SL.nil (h : K S) : SL c ops [] S K := fun a w _ _ hk => ⟨S, a, h, hk, fun _ hN => hN⟩
theorem SL.val {x : SC} (hn : c.n = n) (hw : wantE ops S.F o = some true) (hv : Val c S o x) (e : putE n o.dst x S = some S1) (h : SL c ops rest S1 K) : SL c ops (o :: rest) S K := fun a w g hs hk => by
  obtain ⟨v, h1, h2⟩ := hv a w g hs hk
  obtain ⟨S', aE, h3, h4, h5⟩ := h _ w g hs (putE_ok hk hn h2 e)
  refine ⟨S', aE, h3, h4, fun N hN => ?_⟩
  unfold wpList
  rw [if_pos (wantE_ok hk hw)]
  refine .inl ?_
  unfold Oper.wp
  rw [h1]
  exact h5 N hN
def es1 (tab : Tab) (n : Nat) (ops : Array Oper) (S : St) (o : Oper) : Option St := match wantE ops S.F o with
  | some true => match evV tab S o with
    | some x => putE n o.dst x S
    | none => none
  | some false => putE n o.dst (.tup []) S
  | none => none
def esL (tab : Tab) (n : Nat) (ops : Array Oper) : List Oper → St → Option St
  | [], S => some S
  | o :: l, S => match es1 tab n ops S o with
    | some S' => esL tab n ops l S'
    | none => none
theorem SL.one (ht : tab.ok) (hn : c.n = n) (e : es1 tab n ops S o = some S1) (h : SL c ops rest S1 K) : SL c ops (o :: rest) S K := by
  unfold es1 at e
  split at e
  · rename_i hw
    split at e
    · rename_i x hx
      exact SL.val hn hw (fun a w g hs hk => evV_ok ht hk hx) e h
    · cases e
  · rename_i hw
    intro a w g hs hk
    obtain ⟨S', aE, h3, h4, h5⟩ := h _ w g hs (putE_ok hk hn undef_ok e)
    refine ⟨S', aE, h3, h4, fun N hN => ?_⟩
    unfold wpList
    rw [if_neg (by rw [wantE_ok hk hw]; exact Bool.false_ne_true)]
    exact h5 N hN
  · cases e
theorem SL.steps (ht : tab.ok) (hn : c.n = n) : ∀ (l : List Oper) {S : St}, esL tab n ops l S = some S1 → SL c ops rest S1 K → SL c ops (l ++ rest) S K
  | [], S, e, h => by cases e; exact h
  | o :: l, S, e, h => by
    unfold esL at e
    split at e
    · rename_i S2 h2
      exact SL.one ht hn h2 (SL.steps ht hn l e h)
    · cases e
theorem SL.weaken {S' : St} (hsub : ∀ a w g hs, Ok' c S a w g hs → Ok' c S' a w g hs) (h : SL c ops L S' K) : SL c ops L S K := fun a w g hs hk => h a w g hs (hsub a w g hs hk)
theorem sub_ok' {S' : St} (e : subE S' S1 = subX S') : ∀ a w g hs, Ok' c S1 a w g hs → Ok' c S' a w g hs := by
  intro a w g hs h
  have hF := congrArg Prod.fst e
  have hM0 := congrArg Prod.snd e
  have hM := dropM_ok (M := S1.M) (M' := S'.M) (by rw [dropM_fst S'.M S1.M S'.M]; exact hM0.symm)
  have hm : ∀ (i : Nat) (it : Item), S'.M[i]? = some it → it ≠ .gone → S1.M[i]? = some it := fun i it hi hn => (hM i it hi).resolve_left hn
  refine ⟨h.size, h.defers, h.base, fun t x hx => ?_, fun i it hi => ?_, fun i j it jt hij hi hj hfi hnj => h.sep i j it jt hij (hm i it hi (fz_gone hfi)) (hm j jt hj hnj) hfi hnj, fun i it hi hni => h.mine i it (hm i it hi hni) hni⟩
  · obtain ⟨j, hj⟩ := List.getElem?_of_mem hx
    have := congrArg (·[j]?) hF
    simp [subE, subX, hj] at this
    exact h.slots t x (look_mem this)
  · rcases hM i it hi with rfl | h1
    · trivial
    · exact h.items i it h1
theorem SL.run (ht : tab.ok) (hn : c.n = n) (k : Nat) (S' : St) (e : (esL tab n ops (L.take k) S).map (subE S') = some (subX S')) (h : SL c ops (L.drop k) S' K) : SL c ops L S K := by
  obtain ⟨S2, e1, e2⟩ := map_some e
  have := SL.steps (rest := L.drop k) ht hn (L.take k) e1 (SL.weaken (sub_ok' e2) h)
  rwa [List.take_append_drop] at this
theorem SL.setB (t : Nat) {b b' : Bool} (e : b = b') (hl : look t S.F = some (.sv (.one (.v (.bool b))))) (h : SL c ops L ⟨(t, .sv (.one (.v (.bool b')))) :: S.F, S.M⟩ K) : SL c ops L S K := fun a w g hs hk => h a w g hs (setB_ok t hl e hk)
/-- the side conditions of operations that only read, reckoned -/
def sideE (S : St) : Op → Bool
  | .binOp _ _ x y _ => match evK S.F x with
    | some (.int _ _) => match evK S.F y with
      | some (.int _ _) => true
      | _ => false
    | _ => false
  | .load _ x => match evX S.F x with
    | some (.sv (.one (.ptr i off))) => match S.M[i]? with
      | some (.box cells _ _) => Nat.blt off cells.length
      | _ => false
    | some (.sv (.one (.pe _ s))) => Nat.blt 0 s
    | _ => false
  | .nilCheck x => match evX S.F x with
    | some (.sv (.one (.ptr _ _))) => true
    | some (.sv (.one (.pe _ _))) => true
    | _ => false
  | .call c => match c.callee with
    | .builtin .len => match c.args.toList with
      | [x] => match evX S.F x with
        | some (.sv (.one (.sl _ _))) => true
        | some (.sv (.one (.own i))) => match S.M[i]? with
          | some (.row _ _ _ _) => true
          | _ => false
        | some (.sv (.one (.v (.slice _ _ _)))) => true
        | _ => false
      | _ => false
    | _ => true
  | _ => true
def sidesE (ops : Array Oper) (S : St) : List Oper → Bool
  | [] => true
  | o :: l => (match wantE ops S.F o with
    | some false => true
    | _ => sideE S o.op) && sidesE ops S l
theorem low_box {b off : Nat} {cells : List At} {cs : List Value} {ty : Nat} {fr : Nat × Nat} (h2 : oks g hs cells cs) (h3 : w.heap[b]? = some (.cells cs.toArray ty fr)) (hlt : off < cells.length) : RM.lowV w.heap.size w (.pointer (some ⟨b, off, none⟩)) := by
  refine ⟨(Array.getElem?_eq_some_iff.1 h3).1, ?_⟩
  rw [cell_box h3]
  rw [oks_length h2] at hlt
  simp [hlt]
theorem sideE_ok (h : Ok' c S a w g hs) {op : Op} (e : sideE S op = true) : RM.side w.heap.size w a.eval op := by
  cases op <;> simp only [RM.side] <;> try trivial
  case binOp bop t x y yt =>
    simp only [sideE] at e
    split at e
    case h_2 => cases e
    rename_i hx
    split at e
    case h_2 => cases e
    rename_i hy
    rw [evK_ok h hx, evK_ok h hy]
    exact ⟨trivial, trivial⟩
  case load t x =>
    simp only [sideE] at e
    split at e
    · rename_i i off hx
      split at e
      case h_2 => cases e
      rename_i cells ty fz hm
      have hlt : off < cells.length := Nat.le_of_ble_eq_true e
      obtain ⟨⟨b, hb, hv⟩, _⟩ := evX_ok h hx
      obtain ⟨b', cs, h1, h2, h3, _⟩ := h.items i _ hm
      rw [hb] at h1
      simp at h1
      subst h1
      rw [hv]
      exact low_box h2 h3 hlt
    · rename_i r s hx
      obtain ⟨⟨b, o, x, hv, _, h3, h4⟩, _⟩ := evX_ok h hx
      have hs0 : 0 < s := Nat.le_of_ble_eq_true e
      have hc := h.base.pers.cell (h4 0 (x.cells[0]'(by omega)) (by simp))
      rw [hv]
      refine ⟨?_, by rw [Nat.add_zero] at hc; rw [hc]; rfl⟩
      have := World.block_lt_of_cell? w _ hc
      exact this
    · cases e
  case nilCheck x =>
    simp only [sideE] at e
    split at e
    · rename_i i off hx
      obtain ⟨⟨b, hb, hv⟩, _⟩ := evX_ok h hx
      rw [hv]; trivial
    · rename_i r s hx
      obtain ⟨⟨b, o, x, hv, _, h3, h4⟩, _⟩ := evX_ok h hx
      rw [hv]; trivial
    · cases e
  case call cl =>
    obtain ⟨callee, args, argTypes⟩ := cl
    cases callee <;> try trivial
    rename_i b
    cases b <;> try trivial
    show ∀ x ∈ args.toList, RM.slV (a.eval x)
    simp only [sideE] at e
    split at e
    case h_2 => cases e
    rename_i x hx
    rw [hx]
    intro y hy
    simp at hy
    subst hy
    split at e
    · rename_i r n hx
      obtain ⟨⟨_, ao, cap, hv⟩, _⟩ := evX_ok h hx
      rw [hv]; trivial
    · rename_i i hx
      split at e
      case h_2 => cases e
      rename_i ty s r n hm
      have hv : a.eval y = hs i := (evX_ok h hx).1
      obtain ⟨cs, ⟨_, h1⟩, _⟩ := h.items i _ hm
      rcases h1 with ⟨h1, _⟩ | ⟨gb, cap, cur, h1, _⟩ <;> (rw [hv, h1]; trivial)
    · rename_i ao n cap hx
      have hv : a.eval y = .slice ao n cap := (evX_ok h hx).1
      rw [hv]; trivial
    · cases e
theorem sidesE_ok (h : Ok' c S a w g hs) : ∀ {l : List Oper}, sidesE ops S l = true → RM.sides w.heap.size w ops a l
  | [], _ => trivial
  | o :: l, e => by
    simp only [sidesE, Bool.and_eq_true] at e
    refine ⟨fun _ hw => ?_, sidesE_ok h e.2⟩
    have e1 := e.1
    split at e1
    · rename_i hh
      rw [wantE_ok h hh] at hw
      cases hw
    · exact sideE_ok h e1
theorem grown_drew (w : World) : w.grownBy w.drew none := ⟨rfl, rfl, rfl, Nat.le_refl _, fun _ _ _ => rfl⟩
/-- a region that draws its order and only reads: it is walked in the order of the text -/
theorem En.regionS {id : Nat} {l : List Oper} {E : List (Nat × Po)} {R : Po} (hm : Try.prog.follows .mixedOrders = true)
    (hc : (Region.noSelect l.toArray && RM.covers Try.prog .any l.toArray (.soft (List.range l.length) .done) l.length (Array.replicate l.length false) none) = true)
    (h : SL c l.toArray l S (fun S' => sidesE l.toArray S' l = true ∧ En c S' N)) : En c S (cwp (.region id l.toArray true) (PQ N E R)) := fun a w ⟨g, hs, hk⟩ => by
  have hk' : Ok' c S a w.drew g hs := hk.grown (grown_drew w)
  obtain ⟨S', aE, ⟨h1, h2⟩, h3, h4⟩ := h a w.drew g hs hk'
  exact RM.wp_region_soft hm hc (fun K hK => h4 K hK) (sidesE_ok h3 h1) (h2 _ _ ⟨g, hs, h3⟩)
/-- through one state -/
theorem WL.thru (T : St) (h1 : WL c ops L S (Ok c T)) (h2 : En c T N) : WL c ops L S N := by
  have key : ∀ (L : List Oper) a w, wpList Try.prog ops (RM.Only (Ok c T)) L a w → wpList Try.prog ops (RM.Only N) L a w := by
    intro L
    induction L with
    | nil => intro a w h; exact h2 a w h
    | cons o l ih =>
      intro a w h
      unfold wpList at h ⊢
      split
      · rename_i hw
        rw [if_pos hw] at h
        rcases h with h | ⟨_, _, _, hf⟩
        · exact .inl (RM.upon_only (Oper.wp_mono (fun a' w' h' => ih a' w' h') h))
        · exact hf.elim
      · rename_i hw
        rw [if_neg hw] at h
        exact ih _ _ h
  exact fun a w hk => key L a w (h1 a w hk)
theorem SL.thru (T : St) {l : List Oper} (h1 : SL c ops L S (fun S' => sidesE ops S' l = true ∧ ∀ a w, Ok c S' a w → Ok c T a w)) (h2 : En c T N) : SL c ops L S (fun S' => sidesE ops S' l = true ∧ En c S' N) := fun a w g hs hk => by
  obtain ⟨S', aE, ⟨h3, h4⟩, h5, h6⟩ := h1 a w g hs hk
  exact ⟨S', aE, ⟨h3, fun a w hk => h2 a w (h4 a w hk)⟩, h5, h6⟩
end
def IfP (b : Bool) (p q : Prop) : Prop := (b = true → p) ∧ (b = false → q)
theorem ifP_iff {b : Bool} {p q : Prop} : IfP b p q ↔ if b = true then p else q := by cases b <;> simp [IfP]
abbrev wr (n : Int) : Int := IntKind.wrap .i64 n
theorem wr_in {n : Int} (h1 : -9223372036854775808 ≤ n) (h2 : n ≤ 9223372036854775807) : wr n = n := by
  unfold wr IntKind.wrap
  simp only [IntKind.signed, IntKind.bits, Bool.true_and]
  split
  · rename_i h
    simp at h ⊢
    omega
  · rename_i h
    simp at h ⊢
    omega
def intKT (k : IntKind) : Ty Int := ⟨1, fun x => .one (.v (.int k x))⟩
def tabL : List (Nat × TI) → Tab
  | [], _ => none
  | (k, i) :: l, t => match Nat.beq k t with
    | true => some i
    | false => tabL l t
theorem tabL_ok : ∀ {l : List (Nat × TI)}, (∀ x ∈ l, TI.ok x.1 x.2) → Tab.ok (tabL l)
  | [], _ => fun t i h => by cases h
  | (k, j) :: l, hl => fun t i h => by
    have hd : (tabL ((k, j) :: l) t) = match Nat.beq k t with
      | true => some j
      | false => tabL l t := rfl
    rw [hd] at h
    cases hb : Nat.beq k t with
    | true =>
      rw [hb] at h
      cases h
      have := Nat.eq_of_beq_eq_true hb
      subst this
      exact hl (k, j) (by simp)
    | false =>
      rw [hb] at h
      exact tabL_ok (fun x hx => hl x (List.mem_cons_of_mem _ hx)) t i h
theorem Ct.fun {β : Type} {f : Nat} {ins : List SC} {M : List Item} {r : β} {out : β → SC} (h : Ct f ins M (fun x => x = r) out) : Ct f ins M (fun (_ : Unit) => True) (fun _ => out r) := fun w g hs args h1 h2 h3 =>
  (h w g hs args h1 h2 h3).mono fun e w' ⟨v, g', r', e1, e2, e3, e4⟩ => ⟨v, g', (), e1, trivial, by subst e2; exact e3, e4⟩
end Go.Proofs.Ytfpdnigihjmohaa
