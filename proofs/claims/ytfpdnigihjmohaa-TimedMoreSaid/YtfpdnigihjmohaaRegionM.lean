/- Regions that draw their order, as in Region, but for worlds of which only the cells below a block are known to stand: so a map that is older may be written in them. No condition. -/
import Derived.Test.YtfpdnigihjmohaaMaps
namespace Go.Proofs.Ytfpdnigihjmohaa
open Go.RowKit Go.MapKept
set_option linter.unusedSimpArgs false
set_option linter.unusedVariables false
set_option maxRecDepth 100000
/-- all blocks of cells below B stand as they stood -/
def Kept (B : Nat) (w0 w : World) : Prop := ∀ (i : Nat) (c : Array Value) (e : TypeId) (fr : Nat × Nat), i < B → w0.heap[i]? = some (.cells c e fr) → w.heap[i]? = some (.cells c e fr)
theorem Kept.refl (B : Nat) (w : World) : Kept B w w := fun _ _ _ _ _ h => h
theorem Kept.below {B : Nat} {w0 w : World} (h : Below B w0 w) : Kept B w0 w := fun i c e fr hi hg => (h.block i hi).trans hg
theorem Kept.trans {B : Nat} {a b c : World} (h : Kept B a b) (h2 : Kept B b c) : Kept B a c := fun i x e fr hi hg => h2 i x e fr hi (h i x e fr hi hg)
theorem Kept.grown {κ : Type} [DecidableEq κ] {enc : κ → Value} {B : Nat} {a b : World} {m : Nat} {D : List (κ × Value)} (ho : OwnMap enc a m D) (h : a.grownBy b (some m)) : Kept B a b := fun i c e fr hi hg => by
  obtain ⟨es, clock, hm, _⟩ := ho
  have hne : i ≠ m := fun e2 => by rw [e2, hm] at hg; cases hg
  exact (h.block i (Array.getElem?_eq_some_iff.1 hg).1 (fun e2 => hne (Option.some.inj e2))).trans hg
theorem Kept.cell {B : Nat} {w0 w : World} (h : Kept B w0 w) {a : Addr} (ha : a.block < B) {c : Array Value} {e : TypeId} {fr : Nat × Nat} (hg : w0.heap[a.block]? = some (.cells c e fr)) : w.cell? a = w0.cell? a :=
  World.cell?_of_block (w := w0) (w' := w) (a := a) ((h _ c e fr ha hg).trans hg.symm)
namespace RM

section
variable {P : Program} {ops : Array Oper} {md : Region.Mode}

/-- operations that may be taken ahead: by their kind -/
def softOp (P : Program) : Op → Bool
  | .move _ | .assign _ | .pick _ _ _ | .extract _ _ | .field _ _ _ | .index _ _ _ | .indexAddr _ _ _ | .slice _ _ _ _ _ | .unOp _ _ _ => true
  | .fieldAddr s _ _ => sized P s
  | .binOp _ _ _ _ _ | .load _ _ | .nilCheck _ => true
  | .call { callee := .builtin .len, args, .. } => args.size == 1
  | _ => false
def intV : Value → Prop | .int _ _ => True | _ => False
def slV : Value → Prop | .slice _ _ _ => True | .string _ => True | _ => False
def ptrV : Value → Prop | .pointer _ => True | _ => False
/-- the address lies below block B, and a cell is there -/
def lowV (B : Nat) (w0 : World) : Value → Prop | .pointer (some p) => p.block < B ∧ (w0.cell? p).isSome = true | _ => False
/-- what a soft operation asks besides of what it finds in its slots -/
def side (B : Nat) (w0 : World) (ρ : Operand → Value) : Op → Prop
  | .binOp _ _ x y _ => intV (ρ x) ∧ intV (ρ y)
  | .load _ x => lowV B w0 (ρ x)
  | .nilCheck x => ptrV (ρ x)
  | .call { callee := .builtin .len, args, .. } => ∀ x ∈ args.toList, slV (ρ x)
  | _ => True
def hasSide : Op → Bool
  | .binOp _ _ _ _ _ | .load _ _ | .nilCheck _ | .call _ => true
  | _ => false

theorem run_of_blind {e : Sem Value} (h : Blind P e) {w w1 : World} {n : Next} (hr : (do pure (.value (← e)) : Sem Next).run P w = .ok n w1) :
    w1 = w ∧ ∃ v, n = .value v ∧ ∀ w', (do pure (.value (← e)) : Sem Next).run P w' = .ok (.value v) w' := by
  rcases h with ⟨a, ha⟩ | hn
  · simp [ha] at hr
    exact ⟨hr.2.symm, a, hr.1.symm, fun w' => by simp [ha]⟩
  · exfalso
    rw [Sem.run_bind] at hr
    cases hx : e.run P w with
    | ok a w2 => exact hn _ _ _ hx
    | halt x w2 => simp [hx] at hr

theorem load_below {B : Nat} {w0 w w' : World} (h : Kept B w0 w) (h' : Kept B w0 w') {a : Addr} (ha : a.block < B) {c : Array Value} {e : TypeId} {fr : Nat × Nat} (hg : w0.heap[a.block]? = some (.cells c e fr))
    {r : Value} {w1 : World} (hr : (Go.load a).run P w = .ok r w1) : w1 = w ∧ (Go.load a).run P w' = .ok r w' := by
  have e1 : w'.cell? a = w.cell? a := (h'.cell ha hg).trans (h.cell ha hg).symm
  have hblk : w.heap[a.block]? = some (.cells c e fr) := h _ c e fr ha hg
  simp only [Go.load, Sem.run] at hr ⊢
  rw [e1]
  cases hc : w.cell? a with
  | some v => simp only [hc, Result.ok.injEq] at hr ⊢; exact ⟨hr.2.symm, hr.1, trivial⟩
  | none => simp [hc, World.farLoad, hblk] at hr
theorem loadCells_below {B : Nat} {w0 w w' : World} (h : Kept B w0 w) (h' : Kept B w0 w') {a : Addr} (ha : a.block < B) {c : Array Value} {e : TypeId} {fr : Nat × Nat} (hg : w0.heap[a.block]? = some (.cells c e fr)) :
    ∀ (n i : Nat) (acc : Array Value) (r : Array Value) (w1 : World), (loadCellsFrom a i n acc).run P w = .ok r w1 → w1 = w ∧ (loadCellsFrom a i n acc).run P w' = .ok r w' := by
  intro n
  induction n with
  | zero => intro i acc r w1 hr; simp [loadCellsFrom] at hr ⊢; exact ⟨hr.2.symm, hr.1⟩
  | succ n ih =>
    intro i acc r w1 hr
    have hbk : (a.add i).block = a.block := by unfold Addr.add; split <;> rfl
    simp only [loadCellsFrom, Sem.run_bind] at hr ⊢
    cases hx : (Go.load (a.add i)).run P w with
    | ok v w2 =>
      obtain ⟨rfl, hx'⟩ := load_below (P := P) h h' (a := a.add i) (by rw [hbk]; exact ha) (by rw [hbk]; exact hg) hx
      simp only [hx, hx', Result.andThen_ok] at hr ⊢
      exact ih _ _ _ _ hr
    | halt x w2 => simp [hx] at hr
theorem loadAt_below {B : Nat} {w0 w w' : World} (h : Kept B w0 w) (h' : Kept B w0 w') {t : TypeId} {x : Value} (hx : lowV B w0 x) {r : Value} {w1 : World}
    (hr : (Instr.loadAt t x).run P w = .ok r w1) : w1 = w ∧ (Instr.loadAt t x).run P w' = .ok r w' := by
  unfold lowV at hx
  split at hx
  · rename_i a
    obtain ⟨ha, hs⟩ := hx
    obtain ⟨u, hu⟩ := Option.isSome_iff_exists.1 hs
    have : ∃ c e fr, w0.heap[a.block]? = some (.cells c e fr) := by
      unfold World.cell? at hu
      split at hu
      · rename_i c e fr hg; exact ⟨c, e, fr, hg⟩
      · cases hu
    obtain ⟨c, e, fr, hg⟩ := this
    simp only [Instr.loadAt, Instr.sureAddr, loadVar, Sem.run_bind, Sem.run_pure, Result.andThen_ok] at hr ⊢
    rcases Blind.isAgg (P := P) t with ⟨b, hb⟩ | hn
    · simp only [hb, Result.andThen_ok] at hr ⊢
      cases b with
      | true =>
        simp only [if_true, Sem.run_bind] at hr ⊢
        rcases Blind.sizeOf (P := P) t with ⟨n, hn⟩ | hn
        · simp only [hn, Result.andThen_ok, loadCells] at hr ⊢
          cases hl : (loadCellsFrom a 0 n #[]).run P w with
          | ok v w2 =>
            obtain ⟨rfl, hl'⟩ := loadCells_below (P := P) h h' ha hg n 0 #[] v w2 hl
            simp [hl, hl'] at hr ⊢
            exact ⟨hr.2.symm, hr.1⟩
          | halt x w2 => simp [hl] at hr
        · exfalso
          cases hz : (Go.sizeOf t).run P w with
          | ok n w2 => exact hn _ _ _ hz
          | halt x w2 => simp [hz] at hr
      | false =>
        simp only [Bool.false_eq_true, if_false] at hr ⊢
        exact load_below h h' ha hg hr
    · exfalso
      cases hz : (Go.isAgg t).run P w with
      | ok n w2 => exact hn _ _ _ hz
      | halt x w2 => simp [hz] at hr
  · exact hx.elim

/-- THE CORE: a soft operation whose side condition is met yields one value in every world of the class, and leaves the world as it is -/
theorem soft_stable {B : Nat} {w0 w w' w1 : World} (h : Kept B w0 w) (h' : Kept B w0 w') {ρ : Operand → Value} {o : Oper} (hs : softOp P o.op = true) (hd : side B w0 ρ o.op) {n : Next}
    (hr : (execOp ρ o).run P w = .ok n w1) : w1 = w ∧ ∃ v, n = .value v ∧ (execOp ρ o).run P w' = .ok (.value v) w' := by
  have fin : ∀ {e : Sem Value}, Blind P e → (∀ w, (execOp ρ o).run P w = (do pure (.value (← e)) : Sem Next).run P w) → w1 = w ∧ ∃ v, n = .value v ∧ (execOp ρ o).run P w' = .ok (.value v) w' := fun hb he => by
    rw [he] at hr ⊢
    obtain ⟨e1, v, e2, e3⟩ := run_of_blind hb hr
    exact ⟨e1, v, e2, e3 w'⟩
  obtain ⟨dst, op, type, pos, after, guard⟩ := o
  cases op <;> simp only [softOp, Bool.false_eq_true] at hs <;> simp only [side] at hd
  case move x => simp [execOp] at hr ⊢; exact ⟨hr.2.symm, hr.1.symm⟩
  case assign x => simp [execOp] at hr ⊢; exact ⟨hr.2.symm, hr.1.symm⟩
  case pick c a b =>
    simp only [execOp, Sem.run_bind] at hr ⊢
    rcases Blind.asBool (P := P) (ρ c) with ⟨v, hv⟩ | hn
    · simp [hv] at hr ⊢; exact ⟨hr.2.symm, hr.1.symm⟩
    · exfalso
      cases hz : (Go.asBool (ρ c)).run P w with
      | ok n w2 => exact hn _ _ _ hz
      | halt x w2 => simp [hz] at hr
  case extract => exact fin (Blind.extract _ _) (fun _ => rfl)
  case field => exact fin (Blind.field _ _ _) (fun _ => rfl)
  case index => exact fin (Blind.index _ _ _) (fun _ => rfl)
  case indexAddr => exact fin (Blind.indexAt _ _ _) (fun _ => rfl)
  case slice => exact fin (Blind.sliceAt _ _ _ _ _) (fun _ => rfl)
  case unOp => exact fin (Blind.unary _ _) (fun _ => rfl)
  case fieldAddr s x f => exact fin (Blind.fieldAt s _ f hs) (fun _ => rfl)
  case nilCheck x =>
    simp only [execOp] at hr ⊢
    generalize ρ x = v at *
    cases v <;> simp only [ptrV] at hd
    rename_i p
    cases p with
    | none => exact absurd hr (never_runtimePanic _ _ _ _)
    | some p => simp at hr ⊢; exact ⟨hr.2.symm, hr.1.symm⟩
  case binOp op t x y yt =>
    obtain ⟨hx, hy⟩ := hd
    refine fin (e := do eqGuard op t x y (ρ x) (ρ y); binOp op t (ρ x) (ρ y)) ?_ (fun _ => rfl)
    generalize ρ x = vx at *
    generalize ρ y = vy at *
    cases vx <;> simp only [intV] at hx
    cases vy <;> simp only [intV] at hy
    refine Blind.bind ?_ fun _ => Blind.binInt _ _ _ _ _ _
    unfold eqGuard
    dsimp only
    repeat' (first | exact Blind.pure _ | exact Blind.stuck _ | exact Blind.unsupported _ | exact Blind.boundsPanic _ _ _ _ | exact Blind.runtimePanic _ | exact Blind.underlying _ | exact Blind.sizeOf _ | exact Blind.asIntOf _ | exact Blind.asBool _ | exact Blind.asAgg _ | exact Blind.asAddr _ | exact Blind.sureAddr _ | (refine Blind.bind ?_ (fun _ => ?_)) | split)
  case load t x =>
    simp only [execOp, Sem.run_bind] at hr ⊢
    cases hl : (Instr.loadAt t (ρ x)).run P w with
    | ok v w2 =>
      obtain ⟨rfl, hl'⟩ := loadAt_below (P := P) h h' hd hl
      simp [hl, hl'] at hr ⊢
      exact ⟨hr.2.symm, hr.1.symm⟩
    | halt x w2 => simp [hl] at hr
  case call c =>
    obtain ⟨callee, args, argTypes⟩ := c
    cases callee <;> first | exact absurd hs Bool.false_ne_true | skip
    rename_i b
    cases b <;> first | exact absurd hs Bool.false_ne_true | skip
    have hs : args.size = 1 := by simpa using hs
    have : ∃ x, args = #[x] := by
      have : args.toList.length = 1 := by simpa using hs
      match h : args.toList, this with
      | [x], _ => exact ⟨x, by rw [← Array.toArray_toList (xs := args), h]⟩
    obtain ⟨x, rfl⟩ := this
    have hd' : slV (ρ x) := hd x (by simp)
    clear hd
    refine fin (e := Builtin.len_ argTypes type #[ρ x]) ?_ ?_
    · unfold Builtin.len_
      generalize ρ x = v at *
      cases v <;> simp only [slV] at hd'
      · repeat' (first | exact Blind.pure _ | exact Blind.stuck _ | exact Blind.underlying _ | contradiction | (refine Blind.bind ?_ (fun _ => ?_)) | split)
        all_goals (rename_i hh; simp at hh)
      · repeat' (first | exact Blind.pure _ | exact Blind.stuck _ | exact Blind.underlying _ | contradiction | (refine Blind.bind ?_ (fun _ => ?_)) | split)
        all_goals (rename_i hh; simp at hh)
    · intro w
      simp [execOp, resolve, invoke, builtin]

/-- what a list of soft operations does, step by step -/
def Trace (P : Program) (ops : Array Oper) : List Oper → Act → World → Act → World → Prop
  | [], a, w, a', w' => a' = a ∧ w' = w
  | o :: l, a, w, a', w' =>
    if Region.wanted o (yielded ops a.tmps) = true then ∃ n w1 v, (execOp a.eval o).run P w = .ok n w1 ∧ n = .value v ∧ Trace P ops l (a.put o.dst v) w1 a' w'
    else Trace P ops l (a.put o.dst undef) w a' w'
theorem soft_value {ρ : Operand → Value} {o : Oper} (hs : softOp P o.op = true) {w w1 : World} {n : Next} (hr : (execOp ρ o).run P w = .ok n w1) : ∃ v, n = .value v := by
  have gen : ∀ {e : Sem Value}, (do pure (.value (← e)) : Sem Next).run P w = .ok n w1 → ∃ v, n = .value v := fun {e} h => by
    rw [Sem.run_bind] at h
    cases hx : e.run P w with
    | ok a w2 => simp [hx] at h; exact ⟨a, h.1.symm⟩
    | halt x w2 => simp [hx] at h
  obtain ⟨dst, op, type, pos, after, guard⟩ := o
  cases op <;> simp only [softOp, Bool.false_eq_true] at hs
  case move x => simp [execOp] at hr; exact ⟨_, hr.1.symm⟩
  case assign x => simp [execOp] at hr; exact ⟨_, hr.1.symm⟩
  case pick c a b =>
    simp only [execOp] at hr
    exact gen (e := do pure (if ← asBool (ρ c) then ρ a else ρ b)) (by simpa using hr)
  case nilCheck x =>
    simp only [execOp] at hr
    split at hr
    · exact absurd hr (never_runtimePanic _ _ _ _)
    · exact absurd hr (never_runtimePanic _ _ _ _)
    · exact absurd hr (never_runtimePanic _ _ _ _)
    · split at hr
      · exact absurd hr (never_runtimePanic _ _ _ _)
      · rw [Sem.run_bind] at hr
        generalize Sem.run P Go.program w = r1 at hr
        cases r1 with
        | halt x w2 => simp at hr
        | ok a w2 =>
          simp only [Result.andThen_ok, Sem.run_bind] at hr
          generalize Sem.run P _ w2 = r2 at hr
          cases r2 with
          | halt x w2 => simp at hr
          | ok a w2 =>
            simp only [Result.andThen_ok] at hr
            split at hr
            · simp [Go.unsupported] at hr
            · simp at hr; exact ⟨_, hr.1.symm⟩
      · simp at hr; exact ⟨_, hr.1.symm⟩
    · simp at hr; exact ⟨_, hr.1.symm⟩
  case call c =>
    obtain ⟨callee, args, argTypes⟩ := c
    cases callee <;> first | exact absurd hs Bool.false_ne_true | skip
    rename_i b
    cases b <;> first | exact absurd hs Bool.false_ne_true | skip
    exact gen (e := Builtin.len_ argTypes type (args.map ρ)) (by simpa [execOp, resolve, invoke, builtin] using hr)
  all_goals exact gen hr
/-- a post that lets nothing out but the region's own end -/
def Only (K : Act → World → Prop) : Exit → Act → World → Prop
  | .normal, a, w => K a w
  | _, _, _ => False
theorem trace_of_wp {K : Act → World → Prop} : ∀ (l : List Oper) (a : Act) (w : World), (∀ o ∈ l, softOp P o.op = true) → wpList P ops (Only K) l a w → ∃ a' w', K a' w' ∧ Trace P ops l a w a' w' := by
  intro l
  induction l with
  | nil => intro a w _ h; exact ⟨a, w, h, rfl, rfl⟩
  | cons o l ih =>
    intro a w hs h
    unfold wpList at h
    split at h
    · rename_i hw
      rcases h with h | ⟨_, a0, w0, h⟩
      · unfold Oper.wp at h
        cases hr : (execOp a.eval o).run P w with
        | ok n w1 =>
          obtain ⟨v, rfl⟩ := soft_value (hs o (by simp)) hr
          rw [hr] at h
          obtain ⟨a', w', hK, ht⟩ := ih _ _ (fun o' ho' => hs o' (by simp [ho'])) h
          exact ⟨a', w', hK, by unfold Trace; rw [if_pos hw]; exact ⟨_, _, _, hr, rfl, ht⟩⟩
        | halt x w1 =>
          rw [hr] at h
          cases x <;> exact h.elim
      · exact h.elim
    · rename_i hw
      obtain ⟨a', w', hK, ht⟩ := ih _ _ (fun o' ho' => hs o' (by simp [ho'])) h
      exact ⟨a', w', hK, by unfold Trace; rw [if_neg hw]; exact ht⟩
/-- no operation of the list writes the slot -/
def unwritten (l : List Oper) (t : Tmp) : Bool := l.all fun o => o.dst != some t
theorem eval_put_other {a : Act} {d : Option Tmp} {v : Value} {x : Operand} (h : ∀ t, x = .tmp t → d ≠ some t) : (a.put d v).eval x = a.eval x :=
  Act.eval_put fun t ht e => h t e ht
theorem trace_eval : ∀ (l : List Oper) (a : Act) (w : World) (a' : Act) (w' : World), Trace P ops l a w a' w' → ∀ x, (∀ t, x = .tmp t → unwritten l t = true) → a'.eval x = a.eval x := by
  intro l
  induction l with
  | nil => intro a w a' w' h x _; rw [h.1]
  | cons o l ih =>
    intro a w a' w' h x hx
    have hl : ∀ t, x = .tmp t → unwritten l t = true := fun t ht => by
      have := hx t ht
      simp only [unwritten, List.all_cons, Bool.and_eq_true] at this ⊢
      exact this.2
    have hd : ∀ t, x = .tmp t → o.dst ≠ some t := fun t ht => by
      have := hx t ht
      simp only [unwritten, List.all_cons, Bool.and_eq_true, bne_iff_ne] at this
      exact this.1
    unfold Trace at h
    split at h
    · obtain ⟨n, w1, v, _, _, h⟩ := h
      rw [ih _ _ _ _ h x hl, eval_put_other hd]
    · rw [ih _ _ _ _ h x hl, eval_put_other hd]
/-- the slots that an operation with a side condition looks at, its guard's too, are written neither by it nor behind it -/
def clean (ops : Array Oper) : List Oper → Bool
  | [] => true
  | o :: l => (!hasSide o.op || (o.looksAt ops).all fun t => unwritten (o :: l) t) && clean ops l
/-- the side conditions, asked of the frame at the end -/
def sides (B : Nat) (w0 : World) (ops : Array Oper) (a : Act) : List Oper → Prop
  | [] => True
  | o :: l => (hasSide o.op = true → Region.wanted o (yielded ops a.tmps) = true → side B w0 a.eval o.op) ∧ sides B w0 ops a l
theorem side_congr {B : Nat} {w0 : World} {ρ ρ' : Operand → Value} {op : Op} (h : ∀ x ∈ op.operands, ρ x = ρ' x) (hd : side B w0 ρ op) : side B w0 ρ' op := by
  cases op <;> simp only [side] at hd ⊢
  case binOp => rw [← h _ (by simp [Op.operands]), ← h _ (by simp [Op.operands])]; exact hd
  case load => rw [← h _ (by simp [Op.operands])]; exact hd
  case nilCheck => rw [← h _ (by simp [Op.operands])]; exact hd
  case call c =>
    obtain ⟨callee, args, argTypes⟩ := c
    cases callee <;> first | trivial | skip
    rename_i b
    cases b <;> first | trivial | skip
    have hd' : ∀ x ∈ args.toList, slV (ρ x) := hd
    show ∀ x ∈ args.toList, slV (ρ' x)
    intro x hx
    rw [← h x (by simpa [Op.operands, Call.operands] using hx)]
    exact hd' x hx
/-- the operations of these numbers -/
def pick (ops : Array Oper) (L : List Nat) : List Oper := L.filterMap (ops[·]?)
def listAll (listed : Array Bool) (L : List Nat) : Array Bool := L.foldl (fun l i => l.setIfInBounds i true) listed
/-- each of these may be taken first, one behind the other -/
def softChain (P : Program) (md : Region.Mode) (ops : Array Oper) : List Nat → Array Bool → Bool
  | [], _ => true
  | i :: L, listed => (match ops[i]? with | some o => softOp P o.op | none => false) && (Region.ready md ops listed).contains i && Region.free md ops listed i && softChain P md ops L (listed.setIfInBounds i true)
/-- how a region is walked: soft operations; one of several that may come next, and the others; the end -/
inductive Plan where
  | done
  | stop
  | soft (L : List Nat) (p : Plan)
  | alt (i : Nat) (p q : Plan)
/-- what is to be walked, along a plan -/
def wpPlan (P : Program) (ops : Array Oper) (B : Nat) (w0 : World) (Q : Exit → Act → World → Prop) : Plan → Act → World → Prop
  | .done, a, w => Q .normal a w
  | .stop, _, _ => True
  | .soft L p, a, w => wpList P ops (Only fun a' w' => sides B w0 ops a' (pick ops L) ∧ wpPlan P ops B w0 Q p a' w') (pick ops L) a w
  | .alt i p q, a, w => wpList P ops (Only fun a' w' => Kept B w0 w' ∧ wpPlan P ops B w0 Q p a' w') (pick ops [i]) a w ∧ wpPlan P ops B w0 Q q a w
/-- does the plan cover all orders that may be drawn? (rs: those that are still to be looked at among what may come next; f: how many operations are left) -/
def covers (P : Program) (md : Region.Mode) (ops : Array Oper) : Plan → Nat → Array Bool → Option (List Nat) → Bool
  | .done, _, listed, rs => rs.isNone && (Region.ready md ops listed).isEmpty
  | .stop, _, _, rs => match rs with | some r => r.isEmpty | none => false
  | .soft L p, f, listed, rs => rs.isNone && decide (L.length ≤ f) && softChain P md ops L listed && clean ops (pick ops L) && covers P md ops p (f - L.length) (listAll listed L) none
  | .alt i p q, f, listed, rs =>
    decide (0 < f) && (rs.getD (Region.ready md ops listed)).contains i && (Region.ready md ops listed).contains i && covers P md ops p (f - 1) (listed.setIfInBounds i true) none &&
      covers P md ops q f listed (some ((rs.getD (Region.ready md ops listed)).filter (· != i)))
theorem yielded_eq (ops : Array Oper) (tmps : Array Value) (j : Nat) : yielded ops tmps j = match (ops[j]?).bind (·.dst) with | none => none | some t => match tmps.getD t undef with | .bool b => some b | _ => none := by
  unfold yielded
  cases (ops[j]?).bind (·.dst) with
  | none => rfl
  | some t =>
    simp only [Option.bind_some]
    by_cases h : t < tmps.size
    · simp [Array.getD, h]
      split <;> simp_all
    · simp [Array.getD, h, undef]

theorem upon_only {K K' : Act → World → Prop} {o : Oper} {a : Act} {w : World} {N : Act → World → Prop} (h : o.wp P a w N (Only K)) : o.wp P a w N (Only K') := by
  unfold Oper.wp at *
  generalize (execOp a.eval o).run P w = r at *
  cases r with
  | ok n w' =>
    cases n <;> simp only [Oper.upon] at h ⊢ <;> first | exact h | skip
    all_goals exact Calls.mono h fun e w'' he => by cases e <;> first | exact he | exact (he : False).elim | (obtain ⟨_, _, hf⟩ := he; exact (hf : False).elim)
  | halt x w' => cases x <;> simp only [Oper.upon] at h ⊢ <;> exact (h : False).elim
/-- a list of soft operations is taken first -/
theorem soft_take {B : Nat} {w0 : World} {Q : Exit → Act → World → Prop} (hns : Region.noSelect ops = true) (hQ : ∀ c a a' w, Q (.panic c) a w → Q (.panic c) a' w) {f : Nat} {aE : Act} {wE w : World} (hw : Kept B w0 w) :
    ∀ (L : List Nat) (listed : Array Bool) (a : Act), softChain P md ops L listed = true → clean ops (pick ops L) = true → sides B w0 ops aE (pick ops L) → Trace P ops (pick ops L) a w aE wE →
      (wE = w → wpAnyH P md ops Q (Kept B w0) f (listAll listed L) aE w) → wE = w ∧ wpAnyH P md ops Q (Kept B w0) (f + L.length) listed a w := by
  intro L
  induction L with
  | nil =>
    intro listed a _ _ _ ht hK
    obtain ⟨rfl, rfl⟩ := ht
    exact ⟨rfl, by simpa [listAll] using hK rfl⟩
  | cons i L ih =>
    intro listed a hc hcl hsd ht hK
    simp only [softChain, Bool.and_eq_true] at hc
    obtain ⟨⟨⟨h1, h2⟩, h3⟩, h4⟩ := hc
    cases ho : ops[i]? with
    | none => simp [ho] at h1
    | some o =>
      simp only [ho] at h1
      have hp : pick ops (i :: L) = o :: pick ops L := by simp [pick, ho]
      rw [hp] at hcl hsd ht
      simp only [clean, Bool.and_eq_true] at hcl
      obtain ⟨hc1, hc2⟩ := hcl
      obtain ⟨hs1, hs2⟩ := hsd
      unfold Trace at ht
      have evals : ∀ x ∈ o.op.operands, hasSide o.op = true → aE.eval x = a.eval x := fun x hx hh => by
        simp only [hh, Bool.not_true, Bool.false_or, List.all_eq_true] at hc1
        have hu : ∀ t, x = .tmp t → unwritten (o :: pick ops L) t = true := fun t ht => hc1 t (by
          subst ht
          exact List.mem_append_left _ (List.mem_filterMap.2 ⟨.tmp t, by simpa using hx, rfl⟩))
        refine trace_eval (P := P) (ops := ops) (o :: pick ops L) a w aE wE ?_ x hu
        unfold Trace
        exact ht
      have wants : hasSide o.op = true → Region.wanted o (yielded ops aE.tmps) = Region.wanted o (yielded ops a.tmps) := fun hh => by
        simp only [hh, Bool.not_true, Bool.false_or, List.all_eq_true] at hc1
        unfold Region.wanted
        cases hg : o.guard with
        | none => rfl
        | some gw =>
          obtain ⟨g, want⟩ := gw
          have : yielded ops aE.tmps g = yielded ops a.tmps g := by
            rw [yielded_eq, yielded_eq]
            cases hd : (ops[g]?).bind (·.dst) with
            | none => rfl
            | some t =>
              have hm : t ∈ o.looksAt ops := List.mem_append_right _ (by simp [hg, hd])
              have := trace_eval (P := P) (ops := ops) (o :: pick ops L) a w aE wE (by unfold Trace; exact ht) (.tmp t) (fun t' ht' => by cases ht'; exact hc1 t hm)
              simp only [Act.eval] at this
              simp only [this]
          simp only [this]
      have key : ∀ v w1, YieldsIf P ops (Kept B w0) o v a → w1 = w → Trace P ops (pick ops L) (a.put o.dst v) w1 aE wE → wE = w ∧ wpAnyH P md ops Q (Kept B w0) (f + (L.length + 1)) listed a w := fun v w1 hy e ht => by
        rw [e] at ht
        obtain ⟨e1, hrest⟩ := ih (listed.setIfInBounds i true) (a.put o.dst v) h4 hc2 hs2 ht (fun e => by simpa [listAll] using hK e)
        exact ⟨e1, wpAnyH_take ho hns h3 (by simpa using h2) (fun c a w h => hQ c _ _ w h) hy hw hrest⟩
      by_cases hwt : Region.wanted o (yielded ops a.tmps) = true
      · rw [if_pos hwt] at ht
        obtain ⟨n, w1, v, hr, rfl, ht⟩ := ht
        have hd : side B w0 a.eval o.op := by
          by_cases hh : hasSide o.op = true
          · exact side_congr (fun x hx => evals x hx hh) (hs1 hh (by rw [wants hh]; exact hwt))
          · revert hh
            cases o.op <;> simp [hasSide, side]
        have hst := fun w' (hw' : Kept B w0 w') => soft_stable (P := P) hw hw' h1 hd hr
        have e1 := (hst w hw).1
        refine key v w1 (.inl ⟨hwt, fun w' hw' => ?_⟩) e1 ht
        obtain ⟨_, v', hv', hr'⟩ := hst w' hw'
        cases hv'
        exact hr'
      · rw [if_neg hwt] at ht
        exact key undef w (.inr ⟨by simpa using hwt, rfl⟩) rfl ht
theorem pick_one {i : Nat} {o : Oper} (h : ops[i]? = some o) : pick ops [i] = [o] := by simp [pick, h]
theorem softChain_soft : ∀ (L : List Nat) (listed : Array Bool), softChain P md ops L listed = true → ∀ o ∈ pick ops L, softOp P o.op = true := by
  intro L
  induction L with
  | nil => intro _ _ o ho; simp [pick] at ho
  | cons i L ihL =>
    intro listed hc o ho
    simp only [softChain, Bool.and_eq_true] at hc
    obtain ⟨⟨⟨g1, _⟩, _⟩, g4⟩ := hc
    cases hi : ops[i]? with
    | none => simp [hi] at g1
    | some o' =>
      simp only [hi] at g1
      have hp : pick ops (i :: L) = o' :: pick ops L := by simp [pick, hi]
      rw [hp] at ho
      rcases List.mem_cons.1 ho with rfl | ho
      · exact g1
      · exact ihL _ g4 _ ho
/-- a plan that covers all orders serves for all -/
theorem covers_sound {B : Nat} {w0 : World} {Q : Exit → Act → World → Prop} {K : Act → World → Prop} (hQ : Q = Only K) (hns : Region.noSelect ops = true) :
    ∀ (p : Plan) (f : Nat) (listed : Array Bool) (rs : Option (List Nat)) (a : Act) (w : World), covers P md ops p f listed rs = true → Kept B w0 w → wpPlan P ops B w0 Q p a w →
      match rs with
      | none => wpAnyH P md ops Q (Kept B w0) f listed a w
      | some r => ∀ i ∈ r, 0 < f ∧ wpOp P ops Q i (fun a' w' => Kept B w0 w' ∧ wpAnyH P md ops Q (Kept B w0) (f - 1) (listed.setIfInBounds i true) a' w') a w := by
  intro p
  induction p with
  | done =>
    intro f listed rs a w hc hw h
    simp only [covers, Bool.and_eq_true, Option.isNone_iff_eq_none, List.isEmpty_iff] at hc
    obtain ⟨rfl, hr⟩ := hc
    exact wpAnyH_done hr h f
  | stop =>
    intro f listed rs a w hc hw h
    cases rs with
    | none => simp [covers] at hc
    | some r =>
      simp only [covers, List.isEmpty_iff] at hc
      subst hc
      intro i hi
      cases hi
  | soft L p ih =>
    intro f listed rs a w hc hw h
    simp only [covers, Bool.and_eq_true, Option.isNone_iff_eq_none, decide_eq_true_eq] at hc
    obtain ⟨⟨⟨⟨rfl, h2⟩, h3⟩, h4⟩, h5⟩ := hc
    obtain ⟨aE, wE, ⟨hsd, hK⟩, ht⟩ := trace_of_wp _ _ _ (softChain_soft L listed h3) h
    have hl : f - L.length + L.length = f := by omega
    rw [← hl]
    refine (soft_take (P := P) hns (by rw [hQ]; intro c a a' w h; exact h) hw L listed a h3 h4 hsd ht (fun e => ?_)).2
    subst e
    exact ih _ _ none _ _ h5 hw hK
  | alt i p q ihp ihq =>
    intro f listed rs a w hc hw h
    simp only [covers, Bool.and_eq_true, decide_eq_true_eq] at hc
    obtain ⟨⟨⟨⟨h1, h2⟩, h2'⟩, h3⟩, h4⟩ := hc
    obtain ⟨hi, hq⟩ := h
    have here : wpOp P ops Q i (fun a' w' => Kept B w0 w' ∧ wpAnyH P md ops Q (Kept B w0) (f - 1) (listed.setIfInBounds i true) a' w') a w := by
      unfold wpOp
      cases ho : ops[i]? with
      | none => 
        have hm : i ∈ Region.ready md ops listed := by simpa using h2'
        obtain ⟨_, o, ho', _⟩ := mem_ready.1 hm
        rw [ho] at ho'
        cases ho'
      | some o =>
        rw [pick_one ho] at hi
        simp only []
        unfold wpList at hi
        split
        · rename_i hwt
          rw [if_pos hwt] at hi
          rcases hi with hi | ⟨_, _, _, hf⟩
          · rw [hQ]
            refine .inl (upon_only (K := fun a' w' => Kept B w0 w' ∧ wpPlan P ops B w0 Q p a' w') (Oper.wp_mono (fun a' w' hn => ?_) hi))
            obtain ⟨hb, hn⟩ := hn
            have := ihp (f - 1) (listed.setIfInBounds i true) none a' w' h3 hb hn
            exact ⟨hb, hQ ▸ this⟩
          · exact hf.elim
        · rename_i hwt
          rw [if_neg hwt] at hi
          obtain ⟨hb, hn⟩ := hi
          exact ⟨hb, ihp (f - 1) (listed.setIfInBounds i true) none _ _ h3 hb hn⟩
    have rest := ihq f listed _ a w h4 hw hq
    have all : ∀ j ∈ rs.getD (Region.ready md ops listed), 0 < f ∧ wpOp P ops Q j (fun a' w' => Kept B w0 w' ∧ wpAnyH P md ops Q (Kept B w0) (f - 1) (listed.setIfInBounds j true) a' w') a w := by
      intro j hj
      by_cases e : j = i
      · subst e; exact ⟨h1, here⟩
      · exact rest j (List.mem_filter.2 ⟨hj, by simpa using e⟩)
    cases rs with
    | some r => exact all
    | none =>
      simp only [Option.getD_none] at all
      have hne : Region.ready md ops listed ≠ [] := by intro e; rw [e] at h2'; simp at h2'
      have hf : f = (f - 1) + 1 := by omega
      show wpAnyH P md ops Q (Kept B w0) f listed a w
      rw [hf]
      exact wpAnyH_all rfl hne fun j hj => (all j hj).2

theorem only_mk {K : Act → World → Prop} {a : Act} {w : World} (h : K a w) : Only K .normal a w := h
theorem only_imp {Q : Exit → Act → World → Prop} : ∀ e a w, Only (Q .normal) e a w → Q e a w := fun e a w h => by
  cases e <;> first | exact h | exact (h : False).elim
/-- A region that draws its order, by a plan. -/
theorem wp_region_plan {id : Nat} {Q : Exit → Act → World → Prop} {a : Act} {w : World} (p : Plan) (B : Nat) (hm : P.follows .mixedOrders = true) (hns : Region.noSelect ops = true)
    (hc : covers P .any ops p ops.size (Array.replicate ops.size false) none = true) (h : wpPlan P ops B w.drew (Only (Q .normal)) p a w.drew) : (Code.region id ops true).wp P Q a w := by
  refine Code.wp_mono only_imp (wp_region_held (S := Kept B w.drew) hm ?_)
  exact covers_sound rfl hns p _ _ none _ _ hc (Kept.refl _ _) h
theorem wpPlan_done {B : Nat} {w0 : World} {Q : Exit → Act → World → Prop} {a : Act} {w : World} (h : Q .normal a w) : wpPlan P ops B w0 (Only (Q .normal)) .done a w := h
/-- A region all of whose operations are soft: it is walked in the order of the text. -/
theorem wp_region_soft {l : List Oper} {id : Nat} {Q : Exit → Act → World → Prop} {a : Act} {w : World} {aE : Act} {wE : World} (hm : P.follows .mixedOrders = true)
    (hc : (Region.noSelect l.toArray && covers P .any l.toArray (.soft (List.range l.length) .done) l.length (Array.replicate l.length false) none) = true)
    (h : ∀ K : Act → World → Prop, K aE wE → wpList P l.toArray (Only K) l a w.drew) (h1 : sides w.heap.size w.drew l.toArray aE l) (h2 : Q .normal aE wE) : (Code.region id l.toArray true).wp P Q a w := by
  simp only [Bool.and_eq_true] at hc
  have hp : pick l.toArray (List.range l.length) = l := by
    unfold pick
    have : ∀ (k : Nat) (l' : List Oper), (∀ j, l'[j]? = l[k + j]?) → (List.range' k l'.length).filterMap (l.toArray[·]?) = l' := by
      intro k l'
      induction l' generalizing k with
      | nil => intro _; rfl
      | cons o l' ih =>
        intro hk
        have h0 : l.toArray[k]? = some o := by simpa using (hk 0).symm
        simp only [List.length_cons, List.range'_succ, List.filterMap_cons, h0]
        rw [ih (k + 1) (fun j => by have := hk (j + 1); simpa [Nat.add_assoc, Nat.add_comm 1 j] using this)]
    have := this 0 l (fun j => by simp)
    rwa [← List.range_eq_range'] at this
  refine wp_region_plan (.soft (List.range l.length) .done) w.heap.size hm hc.1 (by simpa using hc.2) ?_
  simp only [wpPlan, hp]
  exact h _ ⟨h1, h2⟩
theorem wpPlan_soft {B : Nat} {w0 : World} {Q : Exit → Act → World → Prop} {L : List Nat} {p : Plan} {a : Act} {w : World} {aE : Act} {wE : World}
    (h : ∀ K : Act → World → Prop, K aE wE → wpList P ops (Only K) (pick ops L) a w) (h1 : sides B w0 ops aE (pick ops L)) (h2 : wpPlan P ops B w0 Q p aE wE) : wpPlan P ops B w0 Q (.soft L p) a w :=
  h _ ⟨h1, h2⟩
theorem wpPlan_alt {B : Nat} {w0 : World} {Q : Exit → Act → World → Prop} {i : Nat} {p q : Plan} {a : Act} {w : World} {C : Act → World → Prop}
    (h : wpList P ops (Only C) (pick ops [i]) a w) (hC : ∀ a' w', C a' w' → Kept B w0 w' ∧ wpPlan P ops B w0 Q p a' w') (hq : wpPlan P ops B w0 Q q a w) : wpPlan P ops B w0 Q (.alt i p q) a w := by
  refine ⟨?_, hq⟩
  have : ∀ l a w, wpList P ops (Only C) l a w → wpList P ops (Only fun a' w' => Kept B w0 w' ∧ wpPlan P ops B w0 Q p a' w') l a w := by
    intro l
    induction l with
    | nil => intro a w h; exact hC a w h
    | cons o l ih =>
      intro a w h
      unfold wpList at h ⊢
      split
      · rename_i hw
        rw [if_pos hw] at h
        rcases h with h | ⟨_, _, _, hf⟩
        · exact .inl (upon_only (Oper.wp_mono (fun a' w' h' => ih a' w' h') h))
        · exact hf.elim
      · rename_i hw
        rw [if_neg hw] at h
        exact ih _ _ h
  exact this _ _ _ h
theorem wpPlan_stop {B : Nat} {w0 : World} {Q : Exit → Act → World → Prop} {a : Act} {w : World} : wpPlan P ops B w0 Q .stop a w := trivial
theorem pick_nil : pick ops [] = [] := rfl
theorem pick_cons {i : Nat} {L : List Nat} {o : Oper} (h : ops[i]? = some o) : pick ops (i :: L) = o :: pick ops L := by simp [pick, h]
theorem wpPlan_end {B : Nat} {w0 : World} {Q : Exit → Act → World → Prop} {a : Act} {w : World} (h : Q .normal a w) : wpPlan P ops B w0 (Only (Q .normal)) .done a w := h
theorem wpPlan_skip {B : Nat} {w0 : World} {Q : Exit → Act → World → Prop} {i : Nat} {p : Plan} {a : Act} {w : World} {o : Oper} (ho : ops[i]? = some o) (hw : Region.wanted o (yielded ops a.tmps) = false) (hb : Kept B w0 w)
    (h : wpPlan P ops B w0 Q p (a.put o.dst undef) w) : wpPlan P ops B w0 Q (.alt i p .stop) a w := by
  refine ⟨?_, trivial⟩
  rw [pick_one ho]
  unfold wpList
  rw [if_neg (by rw [hw]; exact Bool.false_ne_true)]
  exact ⟨hb, h⟩
theorem wpPlan_op {B : Nat} {w0 : World} {Q : Exit → Act → World → Prop} {i : Nat} {p q : Plan} {a : Act} {w : World} {o : Oper} (ho : ops[i]? = some o) (hw : Region.wanted o (yielded ops a.tmps) = true)
    (h : ∀ K : Act → World → Prop, (∀ a' w', Kept B w0 w' → wpPlan P ops B w0 Q p a' w' → K a' w') → o.wp P a w K (Only K)) (hq : wpPlan P ops B w0 Q q a w) : wpPlan P ops B w0 Q (.alt i p q) a w := by
  refine ⟨?_, hq⟩
  rw [pick_one ho]
  unfold wpList
  rw [if_pos hw]
  refine .inl ?_
  have := h (fun a' w' => Kept B w0 w' ∧ wpPlan P ops B w0 Q p a' w') fun _ _ h1 h2 => ⟨h1, h2⟩
  exact upon_only this
end
attribute [irreducible] wpPlan
end RM
end Go.Proofs.Ytfpdnigihjmohaa
