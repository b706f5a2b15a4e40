/- Symbolic states of a walk: runs of operations, reckoned by program. No condition. -/
import Derived.Test.YtfpdnigihjmohaaMirD
namespace Go.Proofs.Ytfpdnigihjmohaa
open Go.RowKit Go.MapKept
set_option linter.unusedSimpArgs false
set_option linter.unusedVariables false
set_option maxRecDepth 100000

abbrev Tab := Nat → Option TI
def Tab.ok (tab : Tab) : Prop := ∀ t i, tab t = some i → TI.ok t i
def minE : Value → List Value → Option Value
  | v, [] => some v
  | .int k x, .int _ y :: r => minE (.int k (if y < x then y else x)) r
  | _, _ => none
def maxE : Value → List Value → Option Value
  | v, [] => some v
  | .int k x, .int _ y :: r => maxE (.int k (if y > x then y else x)) r
  | _, _ => none
def evKs (F : List (Nat × SC)) : List Operand → Option (List Value)
  | [] => some []
  | o :: r => match evK F o with
    | some v => match evKs F r with
      | some vs => some (v :: vs)
      | none => none
    | none => none
def evCaps (F : List (Nat × SC)) : List Operand → Option (List Nat)
  | [] => some []
  | o :: r => match evX F o with
    | some (.sv (.one (.ptr i 0))) => match evCaps F r with
      | some vs => some (i :: vs)
      | none => none
    | _ => none
def evPick (S : St) (c a b : Operand) : Option SC := match evK S.F c with
  | some (.bool true) => evX S.F a
  | some (.bool false) => evX S.F b
  | _ => none
def evUn (S : St) (op : UnOp) (x : Operand) : Option SC := match op with
  | .not => match evK S.F x with
    | some (.bool b) => some (.sv (.one (.v (.bool (!b)))))
    | _ => none
  | .neg => match evK S.F x with
    | some (.int k n) => some (.sv (.one (.v (.int k (k.wrap (0 - n))))))
    | _ => none
  | _ => none
def evBin (S : St) (op : BinOp) (x y : Operand) : Option SC := match evK S.F x with
  | some u => match evK S.F y with
    | some v => match binV op u v with
      | some r => some (.sv (.one (.v r)))
      | none => none
    | none => none
  | none => none
def evFA (tab : Tab) (S : St) (s : Nat) (x : Operand) (f : Nat) : Option SC := match evX S.F x with
  | some (.sv (.one (.ptr i off))) => match tab s with
    | some ti => match ti.st with
      | true => match ti.offs[f]? with
        | some (fo, sz + 1, _) => some (.sv (.one (.ptr i (off + fo))))
        | _ => none
      | false => none
    | none => none
  | _ => none
def evField (tab : Tab) (S : St) (s : Nat) (x : Operand) (f : Nat) : Option SC := match evX S.F x with
  | some (.sv (.agg l)) => match tab s with
    | some ti => match ti.st with
      | true => match ti.offs[f]? with
        | some (fo, sz + 1, ag) => match partE l fo (sz + 1) ag with
          | some r => some (.sv r)
          | none => none
        | _ => none
      | false => none
    | none => none
  | _ => none
def evExtract (S : St) (x : Operand) (i : Nat) : Option SC := match evX S.F x with
  | some (.tup l) => match l[i]? with
    | some r => some (.sv r)
    | none => none
  | _ => none
def evLoad (tab : Tab) (S : St) (t : Nat) (x : Operand) : Option SC := match evX S.F x with
  | some (.sv (.one (.ptr i off))) => match S.M[i]? with
    | some (.box cells _ _) => match tab t with
      | some ti => match partE cells off ti.size ti.agg with
        | some r => some (.sv r)
        | none => none
      | none => none
    | _ => none
  | _ => none
def evMF (S : St) (fn : Fn) (first captured : Array Operand) : Option SC := match fn with
  | .func f => match first.toList with
    | [] => match evCaps S.F captured.toList with
      | some l => some (.sv (.one (.fn f l)))
      | none => none
    | _ => none
  | _ => none
def evBuild (tab : Tab) (S : St) (t : Nat) (parts : Array (Nat × Operand)) : Option SC := match tab t with
  | some ti => match ti.agg && !ti.offs.isEmpty with
    | true => match evP S.F parts.toList with
      | some ps => match fillE ti.offs (ti.zero.map .v) ps with
        | some r => some (.sv (.agg r))
        | none => none
      | none => none
    | false => none
  | none => none
def evNC (S : St) (x : Operand) : Option SC := match evX S.F x with
  | some (.sv (.one (.ptr i off))) => some (.sv (.one (.ptr i off)))
  | some (.sv (.one (.pe r s))) => some (.sv (.one (.pe r s)))
  | _ => none
def evConv (tab : Tab) (S : St) (s d : Nat) (x : Operand) : Option SC := match evK S.F x with
  | some (.int _ n) => match tab s with
    | some _ => match tab d with
      | some ti => match ti.kind with
        | some k => some (.sv (.one (.v (.int k (k.wrap n)))))
        | none => none
      | none => none
    | none => none
  | _ => none
def evLen (tab : Tab) (S : St) (t : Nat) (x : Operand) : Option SC := match tab t with
  | some ti => match ti.sl with
    | some _ => match evX S.F x with
      | some (.sv (.one (.sl _ n))) => some (.sv (.one (.v (.int .i64 n))))
      | some (.sv (.one (.own i))) => match S.M[i]? with
        | some (.row _ _ _ n) => some (.sv (.one (.v (.int .i64 n))))
        | _ => none
      | some (.sv (.one (.v (.slice _ n _)))) => some (.sv (.one (.v (.int .i64 n))))
      | _ => none
    | none => none
  | none => none
def evCall (tab : Tab) (S : St) (c : Call) : Option SC := match c.callee with
  | .builtin b => match b with
    | .len => match c.args.toList with
      | [x] => match c.argTypes.toList with
        | [t] => evLen tab S t x
        | _ => none
      | _ => none
    | .min => match evKs S.F c.args.toList with
      | some (v :: x :: vs) => match minE v (x :: vs) with
        | some r => some (.sv (.one (.v r)))
        | none => none
      | _ => none
    | .max => match evKs S.F c.args.toList with
      | some (v :: x :: vs) => match maxE v (x :: vs) with
        | some r => some (.sv (.one (.v r)))
        | none => none
      | _ => none
    | _ => none
  | _ => none
def evV (tab : Tab) (S : St) (o : Oper) : Option SC := match o.op with
  | .move x => evX S.F x
  | .assign x => evX S.F x
  | .pick c a b => evPick S c a b
  | .unOp op _ x => evUn S op x
  | .binOp op _ x y _ => evBin S op x y
  | .fieldAddr s x f => evFA tab S s x f
  | .field s x f => evField tab S s x f
  | .extract x i => evExtract S x i
  | .load t x => evLoad tab S t x
  | .makeFunc fn first captured => evMF S fn first captured
  | .build t parts => evBuild tab S t parts
  | .nilCheck x => evNC S x
  | .convert s d x => evConv tab S s d x
  | .call c => evCall tab S c
  | _ => none
theorem ok_v {g : Gh} {hs : Nat → Value} {v : Value} (h : cellV v) : SC.ok g hs (.sv (.one (.v v))) v := ⟨rfl, h⟩
theorem run_val {e : Sem Value} {v : Value} {w : World} (h : e.run Try.prog w = .ok v w) : (do pure (.value (← e)) : Sem Next).run Try.prog w = .ok (.value v) w := by
  rw [Sem.run_bind, h]
  simp
theorem binV_cell {op : BinOp} {u v r : Value} (e : binV op u v = some r) : cellV r := by
  unfold binV at e
  split at e
  case h_2 => cases e
  split at e
  case h_2 => cases e
  unfold binI at e
  repeat' (first | (cases e; done) | (cases e; trivial) | split at e)
theorem evKs_ok {c : Cfg} {S : St} {a : Act} {w : World} {g : Gh} {hs : Nat → Value} (h : Ok' c S a w g hs) : ∀ {l : List Operand} {vs : List Value}, evKs S.F l = some vs → l.map a.eval = vs
  | [], vs, e => by cases e; rfl
  | o :: l, vs, e => by
    unfold evKs at e
    split at e
    · rename_i v hv
      split at e
      · rename_i vs' hvs
        cases e
        rw [List.map_cons, evK_ok h hv, evKs_ok h hvs]
      · cases e
    · cases e
theorem evCaps_ok {c : Cfg} {S : St} {a : Act} {w : World} {g : Gh} {hs : Nat → Value} (h : Ok' c S a w g hs) : ∀ {l : List Operand} {is : List Nat}, evCaps S.F l = some is → l.map a.eval = is.map hs
  | [], is, e => by cases e; rfl
  | o :: l, is, e => by
    unfold evCaps at e
    split at e
    · rename_i i hi
      split at e
      · rename_i vs' hvs
        cases e
        have := (evX_ok h hi).1
        obtain ⟨b, h1, h2⟩ := this
        rw [List.map_cons, List.map_cons, evCaps_ok h hvs, h2, h1]
      · cases e
    · cases e
theorem run_min : ∀ {vs : List Value} {v r : Value} (w : World), minE v vs = some r → cellV v → (vs.foldlM Builtin.min2 v).run Try.prog w = .ok r w ∧ cellV r
  | [], v, r, w, e, hv => by cases e; exact ⟨by simp, hv⟩
  | x :: vs, v, r, w, e, hv => by
    cases v
    case int k n =>
      cases x
      case int k' m =>
        simp only [minE] at e
        have := run_min w e trivial
        simpa [Builtin.min2] using this
      all_goals simp [minE] at e
    all_goals (cases x <;> simp [minE] at e)
theorem run_max : ∀ {vs : List Value} {v r : Value} (w : World), maxE v vs = some r → cellV v → (vs.foldlM Builtin.max2 v).run Try.prog w = .ok r w ∧ cellV r
  | [], v, r, w, e, hv => by cases e; exact ⟨by simp, hv⟩
  | x :: vs, v, r, w, e, hv => by
    cases v
    case int k n =>
      cases x
      case int k' m =>
        simp only [maxE] at e
        have := run_max w e trivial
        simpa [Builtin.max2] using this
      all_goals simp [maxE] at e
    all_goals (cases x <;> simp [maxE] at e)
theorem minE_cell {v x : Value} {r : Value} {vs : List Value} (e : minE v (x :: vs) = some r) : cellV v := by
  cases v <;> first | trivial | (cases x <;> simp [minE] at e)
theorem maxE_cell {v x : Value} {r : Value} {vs : List Value} (e : maxE v (x :: vs) = some r) : cellV v := by
  cases v <;> first | trivial | (cases x <;> simp [maxE] at e)
end Go.Proofs.Ytfpdnigihjmohaa
