/- Operations that look at no memory: their answer is one and the same in every world. No condition. -/
import Derived.Test.YtfpdnigihjmohaaLib
namespace Go.Proofs.Ytfpdnigihjmohaa
open Go.RowKit
set_option linter.unusedSimpArgs false
set_option linter.unusedVariables false
set_option maxRecDepth 100000

/-- in every world one and the same answer, or in none an answer -/
def Blind (P : Program) {α : Type} (e : Sem α) : Prop := (∃ a, ∀ w, e.run P w = .ok a w) ∨ (∀ w a w1, e.run P w ≠ .ok a w1)

section
variable {P : Program} {α β : Type}
theorem Blind.pure (a : α) : Blind P (Pure.pure a : Sem α) := .inl ⟨a, fun w => by simp⟩
theorem Blind.never {e : Sem α} (h : ∀ w a w1, e.run P w ≠ .ok a w1) : Blind P e := .inr h
theorem Blind.halt (h : Halt) : Blind P (.halt h : Sem α) := .inr fun w a w1 => by simp [Sem.run]
theorem Blind.stuck (s : String) : Blind P (Go.stuck s : Sem α) := Blind.halt _
theorem Blind.unsupported (s : Unsupported) : Blind P (Go.unsupported s : Sem α) := Blind.halt _
theorem Blind.bind {e : Sem α} {f : α → Sem β} (he : Blind P e) (hf : ∀ a, Blind P (f a)) : Blind P (e >>= f) := by
  rcases he with ⟨a, ha⟩ | hn
  · rcases hf a with ⟨b, hb⟩ | hn
    · exact .inl ⟨b, fun w => by simp [ha, hb]⟩
    · exact .inr fun w b w1 => by simpa [ha] using hn w b w1
  · refine .inr fun w b w1 => ?_
    rw [Sem.run_bind]
    cases hr : e.run P w with
    | ok a w2 => exact absurd hr (hn w a w2)
    | halt h w2 => simp
theorem Blind.prog : Blind P Go.program := .inl ⟨P, fun w => by simp⟩
theorem Blind.goPanic (v : Value) : Blind P (Go.goPanic v : Sem α) := Blind.halt _
theorem Blind.ite {c : Prop} [Decidable c] {x y : Sem α} (hx : Blind P x) (hy : Blind P y) : Blind P (if c then x else y) := by
  split
  · exact hx
  · exact hy
theorem Blind.typeInfo (t : TypeId) : Blind P (Go.typeInfo t) := by
  unfold Go.typeInfo
  refine Blind.bind Blind.prog fun p => ?_
  split
  · exact Blind.pure _
  · exact Blind.stuck _
theorem Blind.underlying (t : TypeId) : Blind P (Go.underlying t) := by
  unfold Go.underlying
  refine Blind.bind Blind.prog fun p => ?_
  split
  · exact Blind.pure _
  · exact Blind.stuck _
theorem Blind.sizeOf (t : TypeId) : Blind P (Go.sizeOf t) := by
  unfold Go.sizeOf
  exact Blind.bind (Blind.typeInfo t) fun _ => Blind.pure _
theorem Blind.zeroValue (t : TypeId) : Blind P (Go.zeroValue t) := by
  unfold Go.zeroValue
  refine Blind.bind (Blind.typeInfo t) fun _ => ?_
  split
  · exact Blind.pure _
  · exact Blind.unsupported _
theorem Blind.isAgg (t : TypeId) : Blind P (Go.isAgg t) := by
  unfold Go.isAgg
  refine Blind.bind (Blind.underlying t) fun _ => ?_
  split <;> exact Blind.pure _
theorem Blind.part (t : TypeId) (cs : Array Value) (off : Nat) : Blind P (Go.part t cs off) := by
  unfold Go.part
  refine Blind.bind (Blind.isAgg t) fun _ => ?_
  split
  · exact Blind.bind (Blind.sizeOf t) fun _ => Blind.pure _
  · split
    · exact Blind.pure _
    · exact Blind.stuck _
theorem never_bind {e : Sem α} {f : α → Sem β} (hf : ∀ a w b w1, (f a).run P w ≠ .ok b w1) : ∀ w b w1, (e >>= f).run P w ≠ .ok b w1 := by
  intro w b w1
  rw [Sem.run_bind]
  cases e.run P w with
  | ok a w2 => exact hf a w2 b w1
  | halt h w2 => simp
theorem never_runtimePanic (e : RuntimeError) : ∀ w a w1, (Go.runtimePanic e : Sem α).run P w ≠ .ok a w1 := by
  unfold Go.runtimePanic
  refine never_bind fun p => ?_
  intro w a w1
  split
  all_goals first
    | (simp [Go.goPanic]; done)
    | (refine never_bind ?_ w a w1; intro _ w a w1; first | (simp [Go.goPanic, Sem.run]; done) | (refine never_bind ?_ w a w1; intro _ w a w1; simp [Go.goPanic]))
theorem never_boundsPanic (k : IntKind) (x y : Int) (c : BoundsCode) : ∀ w a w1, (Go.boundsPanic k x y c : Sem α).run P w ≠ .ok a w1 := by
  unfold Go.boundsPanic
  dsimp only
  intro w a w1
  split
  · exact never_bind (fun s => never_runtimePanic _) w a w1
  · exact never_bind (fun s => never_runtimePanic _) w a w1
theorem Blind.runtimePanic (e : RuntimeError) : Blind P (Go.runtimePanic e : Sem α) := .inr (never_runtimePanic e)
theorem Blind.boundsPanic (k : IntKind) (x y : Int) (c : BoundsCode) : Blind P (Go.boundsPanic k x y c : Sem α) := .inr (never_boundsPanic k x y c)
theorem Blind.asIntOf (v : Value) : Blind P (Go.asIntOf v) := by
  unfold Go.asIntOf
  split
  · exact Blind.pure _
  · exact Blind.unsupported _
  · exact Blind.stuck _
theorem Blind.asBool (v : Value) : Blind P (Go.asBool v) := by
  unfold Go.asBool
  split
  · exact Blind.pure _
  · exact Blind.stuck _
theorem Blind.asAgg (v : Value) : Blind P (Go.asAgg v) := by
  unfold Go.asAgg
  split
  · exact Blind.pure _
  · exact Blind.stuck _
theorem Blind.asAddr (v : Value) : Blind P (Go.asAddr v) := by
  unfold Go.asAddr
  split
  · exact Blind.pure _
  · exact Blind.runtimePanic _
  · exact Blind.stuck _
theorem Blind.sureAddr (v : Value) : Blind P (Instr.sureAddr v) := by
  unfold Instr.sureAddr
  split
  · exact Blind.pure _
  · exact Blind.stuck _
theorem Blind.indexAt (t : TypeId) (x i : Value) : Blind P (Instr.indexAt t x i) := by
  unfold Instr.indexAt
  dsimp only
  repeat' (first | exact Blind.pure _ | exact Blind.stuck _ | exact Blind.unsupported _ | exact Blind.boundsPanic _ _ _ _ | exact Blind.runtimePanic _ | exact Blind.underlying _ | exact Blind.sizeOf _ | exact Blind.asIntOf _ | exact Blind.asBool _ | exact Blind.asAgg _ | exact Blind.asAddr _ | exact Blind.sureAddr _ | (refine Blind.bind ?_ (fun _ => ?_)) | split)
theorem Blind.sliceBound (v : Value) (y : Nat) (c : BoundsCode) : Blind P (Instr.sliceBound v y c) := by
  unfold Instr.sliceBound
  dsimp only
  repeat' (first | exact Blind.pure _ | exact Blind.stuck _ | exact Blind.unsupported _ | exact Blind.boundsPanic _ _ _ _ | exact Blind.runtimePanic _ | exact Blind.underlying _ | exact Blind.sizeOf _ | exact Blind.asIntOf _ | exact Blind.asBool _ | exact Blind.asAgg _ | exact Blind.asAddr _ | exact Blind.sureAddr _ | (refine Blind.bind ?_ (fun _ => ?_)) | split)
theorem Blind.sliceBounds (b : Bool) (len cap : Nat) (lo hi mx : Option Value) : Blind P (Instr.sliceBounds b len cap lo hi mx) := by
  unfold Instr.sliceBounds
  dsimp only
  repeat' (first | exact Blind.sliceBound _ _ _ | exact Blind.pure _ | exact Blind.stuck _ | (refine Blind.bind ?_ (fun _ => ?_)) | split)
theorem Blind.slice (t : TypeId) (x : Value) (lo hi mx : Option Value) : Blind P (Instr.slice t x lo hi mx) := by
  unfold Instr.slice
  dsimp only
  repeat' (first | exact Blind.sliceBounds _ _ _ _ _ _ | exact Blind.pure _ | exact Blind.stuck _ | exact Blind.underlying _ | exact Blind.sizeOf _ | exact Blind.asAddr _ | (refine Blind.bind ?_ (fun _ => ?_)) | split)
theorem Blind.sliceAt (t : TypeId) (x : Value) (lo hi mx : Option Value) : Blind P (Instr.sliceAt t x lo hi mx) := by
  unfold Instr.sliceAt
  dsimp only
  repeat' (first | exact Blind.slice _ _ _ _ _ | exact Blind.sliceBounds _ _ _ _ _ _ | exact Blind.pure _ | exact Blind.stuck _ | exact Blind.underlying _ | exact Blind.sizeOf _ | exact Blind.sureAddr _ | (refine Blind.bind ?_ (fun _ => ?_)) | split)
/-- no field of the struct is of size 0 -/
def sized (P : Program) (s : TypeId) : Bool := match P.underlying s with | some (.struct fs) => (fs.all fun f => ((P.info? f.type).map (fun i => i.size != 0)).getD false) | _ => false
theorem Blind.fieldAt (s : TypeId) (x : Value) (f : Nat) (hs : sized P s = true) : Blind P (Instr.fieldAt s x f) := by
  unfold sized at hs
  unfold Instr.fieldAt
  rcases Blind.underlying (P := P) s with ⟨d, hd⟩ | hn
  · have hd' : P.underlying s = some d := by
      have := hd default
      unfold Go.underlying at this
      simp at this
      split at this <;> simp_all [Go.stuck, Sem.run]
    rw [hd'] at hs
    cases d with
    | struct fs =>
      simp only [Array.all_eq_true_iff_forall_mem] at hs
      suffices h : ∀ fl ∈ fs, Blind P (Go.fieldPlace ⟨0, 0, none⟩ fl) → True by
        by_cases hf : f < fs.size
        · have h1 := hs fs[f] (Array.getElem_mem hf)
          cases hi : P.info? fs[f].type with
          | none => simp [hi] at h1
          | some i =>
            simp [hi] at h1
            rcases Blind.sureAddr (P := P) x with ⟨a, ha⟩ | hn
            · refine .inl ⟨.pointer (some (a.add fs[f].offset)), fun w => ?_⟩
              simp [hd, hf, ha, Go.fieldPlace, Go.sizeOf, Go.typeInfo, hi, h1]
            · refine .inr fun w b w1 => ?_
              simp [hd, hf]
              cases hr : (Instr.sureAddr x).run P w with
              | ok a w2 => exact absurd hr (hn w a w2)
              | halt h w2 => simp
        · refine .inr fun w b w1 => ?_
          simp [hd, hf, Go.stuck, Sem.run]
      intros; trivial
    | _ => simp at hs
  · exact .inr (fun w b w1 => by
      rw [Sem.run_bind]
      cases hr : (Go.underlying s).run P w with
      | ok a w2 => exact absurd hr (hn w a w2)
      | halt h w2 => simp)
theorem Blind.field (s : TypeId) (x : Value) (f : Nat) : Blind P (Instr.field s x f) := by
  unfold Instr.field
  refine Blind.bind (Blind.underlying s) fun d => ?_
  split
  · split
    · exact Blind.bind (Blind.asAgg _) fun _ => Blind.part _ _ _
    · exact Blind.stuck _
  · exact Blind.stuck _
theorem Blind.index (t : TypeId) (x i : Value) : Blind P (Instr.index t x i) := by
  unfold Instr.index
  refine Blind.bind (Blind.asIntOf i) fun ki => ?_
  refine Blind.bind (Blind.underlying t) fun d => ?_
  split
  · exact Blind.ite (Blind.bind (Blind.sizeOf _) fun _ => Blind.part _ _ _) (Blind.boundsPanic _ _ _ _)
  · split
    · exact Blind.pure _
    · exact Blind.boundsPanic _ _ _ _
  · exact Blind.stuck _
theorem Blind.extract (x : Value) (i : Nat) : Blind P (Instr.extract x i) := by
  unfold Instr.extract
  split
  · split
    · exact Blind.pure _
    · exact Blind.stuck _
  · exact Blind.stuck _
theorem Blind.intArith (op : BinOp) (k : IntKind) (x y : Int) : Blind P (Op.intArith op k x y) := by
  unfold Op.intArith
  repeat' (first | exact Blind.pure _ | exact Blind.stuck _ | exact Blind.unsupported _ | exact Blind.boundsPanic _ _ _ _ | exact Blind.runtimePanic _ | exact Blind.underlying _ | exact Blind.sizeOf _ | exact Blind.asIntOf _ | exact Blind.asBool _ | exact Blind.asAgg _ | exact Blind.asAddr _ | exact Blind.sureAddr _ | (refine Blind.bind ?_ (fun _ => ?_)) | split)
theorem Blind.intBits (op : BinOp) (k : IntKind) (x y : Int) : Blind P (Op.intBits op k x y) := by
  unfold Op.intBits
  dsimp only
  repeat' (first | exact Blind.pure _ | exact Blind.stuck _ | exact Blind.unsupported _ | exact Blind.boundsPanic _ _ _ _ | exact Blind.runtimePanic _ | exact Blind.underlying _ | exact Blind.sizeOf _ | exact Blind.asIntOf _ | exact Blind.asBool _ | exact Blind.asAgg _ | exact Blind.asAddr _ | exact Blind.sureAddr _ | (refine Blind.bind ?_ (fun _ => ?_)) | split)
theorem Blind.intCmp (op : BinOp) (x y : Int) : Blind P (Op.intCmp op x y) := by
  unfold Op.intCmp
  repeat' (first | exact Blind.pure _ | exact Blind.stuck _ | exact Blind.unsupported _ | exact Blind.boundsPanic _ _ _ _ | exact Blind.runtimePanic _ | exact Blind.underlying _ | exact Blind.sizeOf _ | exact Blind.asIntOf _ | exact Blind.asBool _ | exact Blind.asAgg _ | exact Blind.asAddr _ | exact Blind.sureAddr _ | (refine Blind.bind ?_ (fun _ => ?_)) | split)
theorem Blind.intDiv (op : BinOp) (k : IntKind) (x y : Int) : Blind P (Op.intDiv op k x y) := by
  unfold Op.intDiv
  repeat' (first | exact Blind.pure _ | exact Blind.stuck _ | exact Blind.unsupported _ | exact Blind.boundsPanic _ _ _ _ | exact Blind.runtimePanic _ | exact Blind.underlying _ | exact Blind.sizeOf _ | exact Blind.asIntOf _ | exact Blind.asBool _ | exact Blind.asAgg _ | exact Blind.asAddr _ | exact Blind.sureAddr _ | (refine Blind.bind ?_ (fun _ => ?_)) | split)
theorem Blind.shift (op : BinOp) (k k' : IntKind) (x y : Int) : Blind P (Op.shift op k x k' y) := by
  unfold Op.shift
  dsimp only
  repeat' (first | exact Blind.pure _ | exact Blind.stuck _ | exact Blind.unsupported _ | exact Blind.boundsPanic _ _ _ _ | exact Blind.runtimePanic _ | exact Blind.underlying _ | exact Blind.sizeOf _ | exact Blind.asIntOf _ | exact Blind.asBool _ | exact Blind.asAgg _ | exact Blind.asAddr _ | exact Blind.sureAddr _ | (refine Blind.bind ?_ (fun _ => ?_)) | split)
theorem Blind.unary (op : UnOp) (x : Value) : Blind P (Op.unary op x) := by
  unfold Op.unary
  repeat' (first | exact Blind.intArith _ _ _ _ | exact Blind.intBits _ _ _ _ | exact Blind.pure _ | exact Blind.stuck _ | exact Blind.unsupported _ | split)
theorem Blind.binInt (op : BinOp) (t : TypeId) (k k' : IntKind) (x y : Int) : Blind P (Go.binOp op t (.int k x) (.int k' y)) := by
  cases op <;> simp only [Go.binOp] <;>
    repeat' (first | exact Blind.shift _ _ _ _ _ | exact Blind.intArith _ _ _ _ | exact Blind.intBits _ _ _ _ | exact Blind.intCmp _ _ _ | exact Blind.intDiv _ _ _ _ | exact Blind.stuck _ | refine Blind.ite ?_ ?_)
end
end Go.Proofs.Ytfpdnigihjmohaa
