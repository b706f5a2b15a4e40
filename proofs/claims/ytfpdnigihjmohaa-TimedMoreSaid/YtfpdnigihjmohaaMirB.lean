/- Symbolic states of a walk: operations that need no side condition, reckoned by program; that the machine does just so. No condition. -/
import Derived.Test.YtfpdnigihjmohaaMirA
namespace Go.Proofs.Ytfpdnigihjmohaa
open Go.RowKit Go.MapKept
set_option linter.unusedSimpArgs false
set_option linter.unusedVariables false
set_option maxRecDepth 100000

/-- what is to be known of a type -/
structure TI where
  agg : Bool
  st : Bool
  size : Nat
  zero : List Value
  offs : List (Nat × Nat × Bool)
  kind : Option IntKind
  sl : Option Nat
  bytes : Nat
noncomputable def slT (t : Nat) : Option Nat := match Try.prog.underlying t with
  | some (.slice e) => some e
  | _ => none
noncomputable def aggT (t : Nat) : Option Bool := (Try.prog.underlying t).map fun d => match d with
  | .struct _ => true
  | .array _ _ => true
  | _ => false
noncomputable def stT (t : Nat) : Bool := match Try.prog.underlying t with
  | some (.struct _) => true
  | _ => false
noncomputable def kindT (t : Nat) : Option IntKind := match Try.prog.underlying t with
  | some (.int k) => some k
  | _ => none
noncomputable def fieldsT (t : Nat) : List (Nat × Nat × Option Bool) := match Try.prog.underlying t with
  | some (.struct fs) => fs.toList.map fun f => (f.offset, Try.prog.cellsOf f.type, aggT f.type)
  | some (.array n e) => (List.range n).map fun i => (i * Try.prog.cellsOf e, Try.prog.cellsOf e, aggT e)
  | _ => []
def cellB : Value → Bool
  | .agg _ => false
  | .tuple _ => false
  | _ => true
theorem cellB_iff {v : Value} : cellB v = true ↔ cellV v := by cases v <;> simp [cellB, cellV]
structure TI.ok (t : Nat) (i : TI) : Prop where
  info : (Try.prog.info? t).map (fun x => (x.size, x.zero.map (·.cells.toList), x.bytes)) = some (i.size, some i.zero, i.bytes)
  agg : aggT t = some i.agg
  st : stT t = i.st
  offs : fieldsT t = i.offs.map (fun x => (x.1, x.2.1, some x.2.2))
  kind : kindT t = i.kind
  sl : slT t = i.sl
  zc : i.zero.all cellB = true
  zs : i.zero.length = i.size
  one : i.agg = false → i.size = 1
theorem oks_length {g : Gh} {hs : Nat → Value} : ∀ {l : List At} {us : List Value}, oks g hs l us → l.length = us.length
  | [], [], _ => rfl
  | [], _ :: _, h => h.elim
  | _ :: _, [], h => h.elim
  | _ :: l, _ :: us, h => by simp [oks_length h.2.2]
theorem oks_get {g : Gh} {hs : Nat → Value} : ∀ {l : List At} {us : List Value} {j : Nat} {a : At}, oks g hs l us → l[j]? = some a → ∃ u, us[j]? = some u ∧ a.ok g hs u ∧ cellV u
  | [], [], _, _, _, e => by simp at e
  | [], _ :: _, _, _, h, _ => h.elim
  | _ :: _, [], _, _, h, _ => h.elim
  | a :: l, u :: us, 0, b, h, e => by simp at e; subst e; exact ⟨u, rfl, h.1, h.2.1⟩
  | a :: l, u :: us, j + 1, b, h, e => by
    obtain ⟨x, h1, h2⟩ := oks_get (j := j) h.2.2 (by simpa using e)
    exact ⟨x, by simpa using h1, h2⟩
theorem oks_drop {g : Gh} {hs : Nat → Value} : ∀ {l : List At} {us : List Value} (k : Nat), oks g hs l us → oks g hs (l.drop k) (us.drop k)
  | _, _, 0, h => by simpa using h
  | [], [], k + 1, h => by simp [oks]
  | [], _ :: _, _, h => h.elim
  | _ :: _, [], _, h => h.elim
  | _ :: l, _ :: us, k + 1, h => by simpa using oks_drop k h.2.2
theorem oks_take {g : Gh} {hs : Nat → Value} : ∀ {l : List At} {us : List Value} (k : Nat), oks g hs l us → oks g hs (l.take k) (us.take k)
  | _, _, 0, h => by simp [oks]
  | [], [], k + 1, h => by simp [oks]
  | [], _ :: _, _, h => h.elim
  | _ :: _, [], _, h => h.elim
  | _ :: l, _ :: us, k + 1, h => by simpa using ⟨h.1, h.2.1, oks_take k h.2.2⟩
theorem oks_append {g : Gh} {hs : Nat → Value} : ∀ {l l' : List At} {us us' : List Value}, oks g hs l us → oks g hs l' us' → oks g hs (l ++ l') (us ++ us')
  | [], _, [], _, _, h => by simpa using h
  | [], _, _ :: _, _, h, _ => h.elim
  | _ :: _, _, [], _, h, _ => h.elim
  | _ :: l, _, _ :: us, _, h, h' => by simpa using ⟨h.1, h.2.1, oks_append h.2.2 h'⟩
theorem oks_cells {g : Gh} {hs : Nat → Value} {l : List At} {us : List Value} (h : oks g hs l us) : ∀ u ∈ us, cellV u := by
  induction us generalizing l with
  | nil => simp
  | cons u us ih =>
    cases l with
    | nil => exact h.elim
    | cons a l =>
      intro x hx
      rcases List.mem_cons.1 hx with rfl | hx
      · exact h.2.1
      · exact ih h.2.2 x hx
theorem oks_v {g : Gh} {hs : Nat → Value} : ∀ {l : List Value}, l.all cellB = true → oks g hs (l.map .v) l
  | [], _ => trivial
  | x :: l, h => by
    simp at h
    exact ⟨⟨rfl, cellB_iff.1 h.1⟩, cellB_iff.1 h.1, oks_v (by simpa using h.2)⟩
theorem svs_get {g : Gh} {hs : Nat → Value} : ∀ {l : List SV} {us : List Value} {j : Nat} {a : SV}, SV.oks g hs l us → l[j]? = some a → ∃ u, us[j]? = some u ∧ a.ok g hs u
  | [], [], _, _, _, e => by simp at e
  | [], _ :: _, _, _, h, _ => h.elim
  | _ :: _, [], _, _, h, _ => h.elim
  | a :: l, u :: us, 0, b, h, e => by simp at e; subst e; exact ⟨u, rfl, h.1⟩
  | a :: l, u :: us, j + 1, b, h, e => by
    obtain ⟨x, h1, h2⟩ := svs_get (j := j) h.2 (by simpa using e)
    exact ⟨x, by simpa using h1, h2⟩

def look (t : Nat) : List (Nat × SC) → Option SC
  | [] => none
  | (k, x) :: F => match Nat.beq k t with
    | true => some x
    | false => look t F
theorem look_mem {t : Nat} {x : SC} : ∀ {F : List (Nat × SC)}, look t F = some x → (t, x) ∈ F
  | [], h => by simp [look] at h
  | (k, y) :: F, h => by
    unfold look at h
    split at h
    · rename_i e
      have := Nat.eq_of_beq_eq_true e
      simp at h
      subst this h
      simp
    · exact List.mem_cons_of_mem _ (look_mem h)
def St.put (d : Option Nat) (x : SC) (S : St) : St := match d with
  | none => S
  | some d => ⟨(d, x) :: S.F.filter (fun e => !(Nat.beq e.1 d)), S.M⟩
theorem getD_put (a : Act) (d t : Nat) (v : Value) (hd : d < a.tmps.size) : (a.put (some d) v).tmps.getD t undef = if t = d then v else a.tmps.getD t undef := by
  simp only [Act.put, Array.getD_eq_getD_getElem?, Array.getElem?_setIfInBounds]
  by_cases e : d = t
  · subst e; simp [hd]
  · rw [if_neg e, if_neg (Ne.symm e)]
theorem Ok'.put {c : Cfg} {S : St} {a : Act} {w : World} {g : Gh} {hs : Nat → Value} (h : Ok' c S a w g hs) {dst : Option Nat} (hd : ∀ d, dst = some d → d < c.n) {x : SC} {v : Value} (hx : ∀ d, dst = some d → x.ok g hs v) :
    Ok' c (S.put dst x) (a.put dst v) w g hs := by
  cases dst with
  | none => exact h
  | some d =>
    have hd' := hd d rfl
    have hx' := hx d rfl
    refine ⟨by simp [Act.put]; exact h.size, h.defers, h.base, ?_, h.items, h.sep, h.mine⟩
    intro t y hy
    rw [getD_put _ _ _ _ (by rw [h.size]; exact hd')]
    simp only [St.put, List.mem_cons, List.mem_filter] at hy
    rcases hy with hy | ⟨hy, hne⟩
    · simp at hy
      obtain ⟨rfl, rfl⟩ := hy
      rw [if_pos rfl]
      exact hx'
    · have : t ≠ d := fun e => by subst e; simp at hne
      rw [if_neg this]
      exact h.slots t y hy
def evC : Value → Option SC
  | .agg cs => if cs.toList.all cellB then some (.sv (.agg (cs.toList.map .v))) else none
  | .tuple _ => none
  | v => some (.sv (.one (.v v)))
def evX (F : List (Nat × SC)) : Operand → Option SC
  | .tmp t => look t F
  | .const v => evC v
  | .func f => some (.sv (.one (.fn f [])))
  | .global _ => none
theorem evC_ok {g : Gh} {hs : Nat → Value} {v : Value} {x : SC} (e : evC v = some x) : x.ok g hs v := by
  cases v <;> simp only [evC] at e <;> first | (cases e; exact ⟨rfl, trivial⟩) | (cases e; done) | skip
  rename_i cs
  split at e
  · rename_i hc
    cases e
    exact ⟨cs.toList, by simp, oks_v hc⟩
  · cases e
theorem evX_ok {c : Cfg} {S : St} {a : Act} {w : World} {g : Gh} {hs : Nat → Value} (h : Ok' c S a w g hs) {o : Operand} {x : SC} (e : evX S.F o = some x) : x.ok g hs (a.eval o) := by
  cases o with
  | tmp t => exact h.slots t x (look_mem e)
  | const v => exact evC_ok e
  | func f => cases e; exact ⟨rfl, trivial⟩
  | global _ => cases e
abbrev I (n : Int) : At := .v (.int .i64 n)
abbrev B (b : Bool) : At := .v (.bool b)
/-- of an operand: one cell that is known -/
def evK (F : List (Nat × SC)) (o : Operand) : Option Value := match evX F o with
  | some (.sv (.one (.v v))) => some v
  | _ => none
theorem evK_ok {c : Cfg} {S : St} {a : Act} {w : World} {g : Gh} {hs : Nat → Value} (h : Ok' c S a w g hs) {o : Operand} {v : Value} (e : evK S.F o = some v) : a.eval o = v := by
  unfold evK at e
  split at e
  · rename_i x hx
    cases e
    exact (evX_ok h hx).1
  · cases e
def bitsI (op : BinOp) (k : IntKind) (x y : Int) : Int := match op with
  | .and => k.wrap (BitVec.ofInt k.bits x &&& BitVec.ofInt k.bits y).toNat
  | .or => k.wrap (BitVec.ofInt k.bits x ||| BitVec.ofInt k.bits y).toNat
  | .xor => k.wrap (BitVec.ofInt k.bits x ^^^ BitVec.ofInt k.bits y).toNat
  | _ => k.wrap (BitVec.ofInt k.bits x &&& ~~~(BitVec.ofInt k.bits y)).toNat
def binI (op : BinOp) (k : IntKind) (x : Int) (k' : IntKind) (y : Int) : Option Value := match op with
  | .shl => match y with
    | .ofNat n => some (.int k (k.wrap (x * 2 ^ (min n k.bits))))
    | .negSucc _ => none
  | .shr => match y with
    | .ofNat n => some (.int k (x.fdiv (2 ^ (min n k.bits))))
    | .negSucc _ => none
  | op => match decide (k = k') with
    | false => none
    | true => match op with
      | .add => some (.int k (k.wrap (x + y)))
      | .sub => some (.int k (k.wrap (x - y)))
      | .mul => some (.int k (k.wrap (x * y)))
      | .quo => match y with
        | .ofNat (n + 1) => some (.int k (k.wrap (x.tdiv (Int.ofNat (n + 1)))))
        | _ => none
      | .rem => match y with
        | .ofNat (n + 1) => some (.int k (x.tmod (Int.ofNat (n + 1))))
        | _ => none
      | .and => some (.int k (bitsI .and k x y))
      | .or => some (.int k (bitsI .or k x y))
      | .xor => some (.int k (bitsI .xor k x y))
      | .andNot => some (.int k (bitsI .andNot k x y))
      | .eql => some (.bool (x == y))
      | .neq => some (.bool (x != y))
      | .lss => some (.bool (decide (x < y)))
      | .leq => some (.bool (decide (x ≤ y)))
      | .gtr => some (.bool (decide (x > y)))
      | .geq => some (.bool (decide (x ≥ y)))
      | _ => none
def binV (op : BinOp) (u v : Value) : Option Value := match u with
  | .int k x => match v with
    | .int k' y => binI op k x k' y
    | _ => none
  | _ => none
theorem run_bin {op : BinOp} {t : Nat} {x y : Operand} {u v r : Value} {P : Program} (w : World) (e : binV op u v = some r) : (do eqGuard op t x y u v; binOp op t u v : Sem Value).run P w = .ok r w := by
  unfold binV at e
  split at e
  case h_2 => cases e
  rename_i k a
  split at e
  case h_2 => cases e
  rename_i k' b
  have hg : (eqGuard op t x y (.int k a) (.int k' b)).run P w = .ok () w := by
    cases op <;> simp [eqGuard]
  rw [Sem.run_bind, hg, Result.andThen_ok]
  by_cases h1 : op = .shl
  · subst h1
    simp only [binI] at e
    split at e
    · cases e
      simp [binOp, Op.shift]
      intro h
      omega
    · cases e
  by_cases h2 : op = .shr
  · subst h2
    simp only [binI] at e
    split at e
    · cases e
      simp [binOp, Op.shift]
      intro h
      omega
    · cases e
  have hk : k = k' := by
    by_cases hk : k = k'
    · exact hk
    · exfalso
      cases op <;> simp [binI, hk] at e h1 h2
  subst hk
  cases op <;> simp [binI] at e h1 h2 <;> first | (subst e; simp [binOp, Op.intArith, Op.intCmp, Op.intBits, bitsI]; done) | skip
  · split at e
    · cases e
      rename_i n
      have : ¬ ((n : Int) + 1 = 0) := by omega
      simp [binOp, Op.intDiv, this]
    · cases e
  · split at e
    · cases e
      rename_i n
      have : ¬ ((n : Int) + 1 = 0) := by omega
      simp [binOp, Op.intDiv, this]
    · cases e
end Go.Proofs.Ytfpdnigihjmohaa
