/- Lemmas towards the statement: mirrors of functions, and plain laws. No condition. -/
import Derived.WalkKit
import Derived.WalkSpells
import Derived.WalkLawsBesides
import Derived.Lib.Hide
import Derived.Deep.QuietTactic
import Derived.BigQuiet
import Derived.Deep.RegionHeld3
import Derived.Deep.DeepCutAuto
import Derived.StillTailTactics
import Derived.Laws.CopyOwn
import Derived.Outline
import Derived.Laws.AppendOwnNone
import Derived.Test.YtijgcihlodofdaaGreatDoorProg
import Derived.Maps.OwnOps
import Derived.Maps.RangeRun
import Derived.Maps.RangeWalk
import Derived.Scope
namespace Go.Proofs.YtijgcihlodofdaaGreatDoor
open Go.RowKit
set_option linter.unusedSimpArgs false
set_option linter.unusedVariables false
set_option maxRecDepth 100000
class Stab {α : Type} (R : World → Value → α → Prop) : Prop where
  up : ∀ {w w' : World} {v : Value} {a : α}, R w v a → Below w.heap.size w w' → R w' v a
def IntR (_ : World) (v : Value) (n : Int) : Prop := v = .int .i64 n ∧ -9223372036854775808 ≤ n ∧ n ≤ 9223372036854775807
instance : Stab IntR := ⟨fun h _ => h⟩
def BoolR (_ : World) (v : Value) (n : Bool) : Prop := v = .bool n
instance : Stab BoolR := ⟨fun h _ => h⟩
def SliceOf {α : Type} (s : Nat) (R : World → Value → α → Prop) (w : World) (v : Value) (l : List α) : Prop :=
  ∃ ao n cap, v = .slice ao n cap ∧ n = l.length ∧ n ≤ cap ∧ cap ≤ maxLen ∧ (ao = none → cap = 0) ∧
    ∀ q a, l[q]? = some a → ∃ b o u, ao = some ⟨b, o, none⟩ ∧ R w u a ∧ u.cells.size = s ∧ ∀ j c, u.cells[j]? = some c → w.cell? ⟨b, o + q * s + j, none⟩ = some c
abbrev Ints := SliceOf 1 IntR
abbrev Rows2 := SliceOf 1 Ints
theorem cell_up {w w' : World} {p : Addr} {c : Value} (h : w.cell? p = some c) (hb : Below w.heap.size w w') : w'.cell? p = some c :=
  (hb.cell (World.block_lt_of_cell? w p h)).trans h
instance {α : Type} {s : Nat} {R : World → Value → α → Prop} [Stab R] : Stab (SliceOf s R) :=
  ⟨fun ⟨ao, n, cap, hv, hn, h1, h2, h3, h⟩ hb => ⟨ao, n, cap, hv, hn, h1, h2, h3, fun q a hq =>
    let ⟨b, o, u, hao, hR, hs, hc⟩ := h q a hq
    ⟨b, o, u, hao, Stab.up hR hb, hs, fun j c hj => cell_up (hc j c hj) hb⟩⟩⟩
theorem SliceOf.up {α : Type} {s : Nat} {R : World → Value → α → Prop} [Stab R] {w w' : World} {v : Value} {l : List α} (h : SliceOf s R w v l) (hb : Below w.heap.size w w') : SliceOf s R w' v l :=
  Stab.up h hb
section
variable {α : Type} {s : Nat} {R : World → Value → α → Prop} {w : World} {l : List α}
theorem SliceOf.shape {v : Value} (h : SliceOf s R w v l) : ∃ ao n cap, v = .slice ao n cap ∧ SliceOf s R w (.slice ao n cap) l ∧ Hid (n = l.length) ∧ n ≤ cap ∧ cap ≤ 9223372036854775807 := by
  have h' := h
  obtain ⟨ao, n, cap, rfl, hn, h1, h2, _⟩ := h
  exact ⟨ao, n, cap, rfl, h', hn, h1, by simpa [maxLen] using h2⟩
theorem SliceOf.len {ao : Option Addr} {n cap : Nat} (h : SliceOf s R w (.slice ao n cap) l) : n = l.length := by
  obtain ⟨ao', n', cap', hv, hn, _⟩ := h
  cases hv
  exact hn
theorem SliceOf.lenLe {v : Value} (h : SliceOf s R w v l) : l.length ≤ 9223372036854775807 := by
  obtain ⟨ao, n, cap, rfl, hn, h1, h2, _⟩ := h
  have : cap ≤ 9223372036854775807 := by simpa [maxLen] using h2
  omega
end
theorem SliceOf.int {w : World} {l : List Int} {ao : Option Addr} {n cap : Nat} (h : Ints w (.slice ao n cap) l) {k : Nat} (hk : k < n) :
    ∃ b o, ao = some ⟨b, o, none⟩ ∧ w.cell? ⟨b, o + k, none⟩ = some (.int .i64 (l.getD k 0)) ∧ b < w.heap.size ∧ -9223372036854775808 ≤ l.getD k 0 ∧ l.getD k 0 ≤ 9223372036854775807 := by
  obtain ⟨ao', n', cap', hv, hn, h1, h2, h3, hr⟩ := h
  cases hv
  subst hn
  obtain ⟨b, o, u, hao, ⟨rfl, hb⟩, hs, hc⟩ := hr k l[k] (by simp [hk])
  have e : l.getD k 0 = l[k] := by simp [hk]
  have : w.cell? ⟨b, o + k * 1 + 0, none⟩ = some (.int .i64 l[k]) := hc 0 _ rfl
  rw [e]
  refine ⟨b, o, hao, by simpa using this, World.block_lt_of_cell? w _ this, hb⟩
theorem SliceOf.row {α : Type} {R : World → Value → α → Prop} {s : Nat} {w : World} {l : List (List α)} {ao : Option Addr} {n cap : Nat} (h : SliceOf 1 (SliceOf s R) w (.slice ao n cap) l) {k : Nat} (hk : k < n) :
    ∃ b o u, ao = some ⟨b, o, none⟩ ∧ w.cell? ⟨b, o + k, none⟩ = some u ∧ b < w.heap.size ∧ SliceOf s R w u (l.getD k []) := by
  obtain ⟨ao', n', cap', hv, hn, h1, h2, h3, hr⟩ := h
  cases hv
  subst hn
  obtain ⟨b, o, u, hao, hu, hs, hc⟩ := hr k l[k] (by simp [hk])
  have e : l.getD k [] = l[k] := by simp [hk]
  rw [e]
  have hu' := hu
  obtain ⟨ao2, n2, cap2, rfl, _⟩ := hu
  have : w.cell? ⟨b, o + k * 1 + 0, none⟩ = some (.slice ao2 n2 cap2) := hc 0 _ rfl
  exact ⟨b, o, _, hao, by simpa using this, World.block_lt_of_cell? w _ this, hu'⟩
theorem SliceOf.drop {α : Type} {s : Nat} {R : World → Value → α → Prop} {w : World} {l : List α} {ao : Option Addr} {n cap : Nat} (h : SliceOf s R w (.slice ao n cap) l) {k : Nat} (hk : k ≤ n) :
    SliceOf s R w (sliced ao k n cap s) (l.drop k) := by
  obtain ⟨ao', n', cap', hv, hn, h1, h2, h3, hr⟩ := h
  cases hv
  subst hn
  refine ⟨if cap = k then ao else ao.map (·.add (k * s)), l.length - k, cap - k, by simp only [sliced], by simp, by omega, by omega, ?_, ?_⟩
  · intro h0
    split at h0
    · omega
    · cases ao with
      | none => have := h3 rfl; omega
      | some a => simp at h0
  · intro q a hq
    rw [List.getElem?_drop] at hq
    obtain ⟨b, o, u, rfl, hR, hs, hc⟩ := hr _ a hq
    have hlt : k + q < l.length := (List.getElem?_eq_some_iff.1 hq).1
    refine ⟨b, o + k * s, u, ?_, hR, hs, fun j c hj => ?_⟩
    · rw [if_neg (by omega)]
      simp [Addr.add_lit]
    · have := hc j c hj
      rw [Nat.add_mul] at this
      rw [← this]
      congr 2
      omega
theorem SliceOf.take {α : Type} {s : Nat} {R : World → Value → α → Prop} {w : World} {l : List α} {ao : Option Addr} {n cap : Nat} (h : SliceOf s R w (.slice ao n cap) l) {k : Nat} (hk : k ≤ n) :
    SliceOf s R w (sliced ao 0 k cap s) (l.take k) := by
  obtain ⟨ao', n', cap', hv, hn, h1, h2, h3, hr⟩ := h
  cases hv
  subst hn
  refine ⟨if cap = 0 then ao else ao.map (·.add (0 * s)), k, cap, by simp only [sliced, Nat.sub_zero], by simp; omega, by omega, h2, ?_, ?_⟩
  · intro h0
    split at h0
    · exact h3 h0
    · cases ao with
      | none => exact h3 rfl
      | some a => simp at h0
  · intro q a hq
    rw [List.getElem?_take] at hq
    split at hq
    · obtain ⟨b, o, u, rfl, hR, hs, hc⟩ := hr _ a hq
      refine ⟨b, o, u, ?_, hR, hs, hc⟩
      split
      · rfl
      · simp [Addr.add_lit]
    · cases hq
theorem Option.map_add0 (ao : Option Addr) : ao.map (fun x => x.add 0) = ao := by cases ao <;> simp [Addr.add]
theorem SliceOf.takeV {α : Type} {s : Nat} {R : World → Value → α → Prop} {w : World} {l : List α} {ao : Option Addr} {n cap : Nat} (h : SliceOf s R w (.slice ao n cap) l) {k : Nat} (hk : k ≤ n) :
    SliceOf s R w (.slice ao k cap) (l.take k) := by
  have := h.take hk
  simp only [sliced, Nat.zero_mul, Nat.sub_zero, Option.map_add0, ite_self] at this
  exact this
theorem SliceOf.dropV {α : Type} {R : World → Value → α → Prop} {w : World} {l : List α} {ao : Option Addr} {n cap : Nat} (h : SliceOf 1 R w (.slice ao n cap) l) {k : Nat} (hk : k ≤ n) (hc : k < cap) :
    SliceOf 1 R w (.slice (ao.map (fun x => x.add k)) (n - k) (cap - k)) (l.drop k) := by
  have := h.drop hk
  simp only [sliced, Nat.mul_one, if_neg (show ¬ cap = k by omega)] at this
  exact this
theorem bcell {B : Nat} {W w1 : World} (hb : Below B W w1) : (∀ b o, b < B → w1.cell? ⟨b, o, none⟩ = W.cell? ⟨b, o, none⟩) ∧ (∀ b o, b < B → w1.frozen? ⟨b, o, none⟩ = W.frozen? ⟨b, o, none⟩) :=
  ⟨fun b o h => hb.cell (p := ⟨b, o, none⟩) h, fun b o h => hb.frozen (p := ⟨b, o, none⟩) h⟩
theorem Below.drewN {B : Nat} {a w : World} (h : Below B a w) (n : Nat) : Below B a (w.drewN n) := ⟨h.os, h.tape, h.output, h.size, h.block⟩
def Blind (P : Program) {α : Type} (e : Sem α) : Prop := (∃ a, ∀ w, e.run P w = .ok a w) ∨ (∀ w a w1, e.run P w ≠ .ok a w1)
section
variable {P : Program} {α β : Type}
theorem Blind.pure (a : α) : Blind P (Pure.pure a : Sem α) := .inl ⟨a, fun w => by simp⟩
theorem Blind.never {e : Sem α} (h : ∀ w a w1, e.run P w ≠ .ok a w1) : Blind P e := .inr h
theorem Blind.halt (h : Halt) : Blind P (.halt h : Sem α) := .inr fun w a w1 => by simp [Sem.run]
theorem Blind.stuck (s : String) : Blind P (Go.stuck s : Sem α) := Blind.halt _
theorem Blind.unsupported (s : Unsupported) : Blind P (Go.unsupported s : Sem α) := Blind.halt _
theorem Blind.bind {e : Sem α} {f : α → Sem β} (he : Blind P e) (hf : ∀ a, Blind P (f a)) : Blind P (e >>= f) := by
  rcases he with ⟨a, ha⟩ | hn
  · rcases hf a with ⟨b, hb⟩ | hn
    · exact .inl ⟨b, fun w => by simp [ha, hb]⟩
    · exact .inr fun w b w1 => by simpa [ha] using hn w b w1
  · refine .inr fun w b w1 => ?_
    rw [Sem.run_bind]
    cases hr : e.run P w with
    | ok a w2 => exact absurd hr (hn w a w2)
    | halt h w2 => simp
theorem Blind.prog : Blind P Go.program := .inl ⟨P, fun w => by simp⟩
theorem Blind.goPanic (v : Value) : Blind P (Go.goPanic v : Sem α) := Blind.halt _
theorem Blind.ite {c : Prop} [Decidable c] {x y : Sem α} (hx : Blind P x) (hy : Blind P y) : Blind P (if c then x else y) := by
  split
  · exact hx
  · exact hy
theorem Blind.typeInfo (t : TypeId) : Blind P (Go.typeInfo t) := by
  unfold Go.typeInfo
  refine Blind.bind Blind.prog fun p => ?_
  split
  · exact Blind.pure _
  · exact Blind.stuck _
theorem Blind.underlying (t : TypeId) : Blind P (Go.underlying t) := by
  unfold Go.underlying
  refine Blind.bind Blind.prog fun p => ?_
  split
  · exact Blind.pure _
  · exact Blind.stuck _
theorem Blind.sizeOf (t : TypeId) : Blind P (Go.sizeOf t) := by
  unfold Go.sizeOf
  exact Blind.bind (Blind.typeInfo t) fun _ => Blind.pure _
theorem Blind.zeroValue (t : TypeId) : Blind P (Go.zeroValue t) := by
  unfold Go.zeroValue
  refine Blind.bind (Blind.typeInfo t) fun _ => ?_
  split
  · exact Blind.pure _
  · exact Blind.unsupported _
theorem Blind.isAgg (t : TypeId) : Blind P (Go.isAgg t) := by
  unfold Go.isAgg
  refine Blind.bind (Blind.underlying t) fun _ => ?_
  split <;> exact Blind.pure _
theorem Blind.part (t : TypeId) (cs : Array Value) (off : Nat) : Blind P (Go.part t cs off) := by
  unfold Go.part
  refine Blind.bind (Blind.isAgg t) fun _ => ?_
  split
  · exact Blind.bind (Blind.sizeOf t) fun _ => Blind.pure _
  · split
    · exact Blind.pure _
    · exact Blind.stuck _
theorem never_bind {e : Sem α} {f : α → Sem β} (hf : ∀ a w b w1, (f a).run P w ≠ .ok b w1) : ∀ w b w1, (e >>= f).run P w ≠ .ok b w1 := by
  intro w b w1
  rw [Sem.run_bind]
  cases e.run P w with
  | ok a w2 => exact hf a w2 b w1
  | halt h w2 => simp
theorem never_runtimePanic (e : RuntimeError) : ∀ w a w1, (Go.runtimePanic e : Sem α).run P w ≠ .ok a w1 := by
  unfold Go.runtimePanic
  refine never_bind fun p => ?_
  intro w a w1
  split
  all_goals first
    | (simp [Go.goPanic]; done)
    | (refine never_bind ?_ w a w1; intro _ w a w1; first | (simp [Go.goPanic, Sem.run]; done) | (refine never_bind ?_ w a w1; intro _ w a w1; simp [Go.goPanic]))
theorem never_boundsPanic (k : IntKind) (x y : Int) (c : BoundsCode) : ∀ w a w1, (Go.boundsPanic k x y c : Sem α).run P w ≠ .ok a w1 := by
  unfold Go.boundsPanic
  dsimp only
  intro w a w1
  split
  · exact never_bind (fun s => never_runtimePanic _) w a w1
  · exact never_bind (fun s => never_runtimePanic _) w a w1
theorem Blind.runtimePanic (e : RuntimeError) : Blind P (Go.runtimePanic e : Sem α) := .inr (never_runtimePanic e)
theorem Blind.boundsPanic (k : IntKind) (x y : Int) (c : BoundsCode) : Blind P (Go.boundsPanic k x y c : Sem α) := .inr (never_boundsPanic k x y c)
theorem Blind.asIntOf (v : Value) : Blind P (Go.asIntOf v) := by
  unfold Go.asIntOf
  split
  · exact Blind.pure _
  · exact Blind.unsupported _
  · exact Blind.stuck _
theorem Blind.asBool (v : Value) : Blind P (Go.asBool v) := by
  unfold Go.asBool
  split
  · exact Blind.pure _
  · exact Blind.stuck _
theorem Blind.asAgg (v : Value) : Blind P (Go.asAgg v) := by
  unfold Go.asAgg
  split
  · exact Blind.pure _
  · exact Blind.stuck _
theorem Blind.asAddr (v : Value) : Blind P (Go.asAddr v) := by
  unfold Go.asAddr
  split
  · exact Blind.pure _
  · exact Blind.runtimePanic _
  · exact Blind.stuck _
theorem Blind.sureAddr (v : Value) : Blind P (Instr.sureAddr v) := by
  unfold Instr.sureAddr
  split
  · exact Blind.pure _
  · exact Blind.stuck _
theorem Blind.indexAt (t : TypeId) (x i : Value) : Blind P (Instr.indexAt t x i) := by
  unfold Instr.indexAt
  dsimp only
  repeat' (first | exact Blind.pure _ | exact Blind.stuck _ | exact Blind.unsupported _ | exact Blind.boundsPanic _ _ _ _ | exact Blind.runtimePanic _ | exact Blind.underlying _ | exact Blind.sizeOf _ | exact Blind.asIntOf _ | exact Blind.asBool _ | exact Blind.asAgg _ | exact Blind.asAddr _ | exact Blind.sureAddr _ | (refine Blind.bind ?_ (fun _ => ?_)) | split)
theorem Blind.sliceBound (v : Value) (y : Nat) (c : BoundsCode) : Blind P (Instr.sliceBound v y c) := by
  unfold Instr.sliceBound
  dsimp only
  repeat' (first | exact Blind.pure _ | exact Blind.stuck _ | exact Blind.unsupported _ | exact Blind.boundsPanic _ _ _ _ | exact Blind.runtimePanic _ | exact Blind.underlying _ | exact Blind.sizeOf _ | exact Blind.asIntOf _ | exact Blind.asBool _ | exact Blind.asAgg _ | exact Blind.asAddr _ | exact Blind.sureAddr _ | (refine Blind.bind ?_ (fun _ => ?_)) | split)
theorem Blind.sliceBounds (b : Bool) (len cap : Nat) (lo hi mx : Option Value) : Blind P (Instr.sliceBounds b len cap lo hi mx) := by
  unfold Instr.sliceBounds
  dsimp only
  repeat' (first | exact Blind.sliceBound _ _ _ | exact Blind.pure _ | exact Blind.stuck _ | (refine Blind.bind ?_ (fun _ => ?_)) | split)
theorem Blind.slice (t : TypeId) (x : Value) (lo hi mx : Option Value) : Blind P (Instr.slice t x lo hi mx) := by
  unfold Instr.slice
  dsimp only
  repeat' (first | exact Blind.sliceBounds _ _ _ _ _ _ | exact Blind.pure _ | exact Blind.stuck _ | exact Blind.underlying _ | exact Blind.sizeOf _ | exact Blind.asAddr _ | (refine Blind.bind ?_ (fun _ => ?_)) | split)
theorem Blind.sliceAt (t : TypeId) (x : Value) (lo hi mx : Option Value) : Blind P (Instr.sliceAt t x lo hi mx) := by
  unfold Instr.sliceAt
  dsimp only
  repeat' (first | exact Blind.slice _ _ _ _ _ | exact Blind.sliceBounds _ _ _ _ _ _ | exact Blind.pure _ | exact Blind.stuck _ | exact Blind.underlying _ | exact Blind.sizeOf _ | exact Blind.sureAddr _ | (refine Blind.bind ?_ (fun _ => ?_)) | split)
def sized (P : Program) (s : TypeId) : Bool := match P.underlying s with | some (.struct fs) => (fs.all fun f => ((P.info? f.type).map (fun i => i.size != 0)).getD false) | _ => false
theorem Blind.fieldAt (s : TypeId) (x : Value) (f : Nat) (hs : sized P s = true) : Blind P (Instr.fieldAt s x f) := by
  unfold sized at hs
  unfold Instr.fieldAt
  rcases Blind.underlying (P := P) s with ⟨d, hd⟩ | hn
  · have hd' : P.underlying s = some d := by
      have := hd default
      unfold Go.underlying at this
      simp at this
      split at this <;> simp_all [Go.stuck, Sem.run]
    rw [hd'] at hs
    cases d with
    | struct fs =>
      simp only [Array.all_eq_true_iff_forall_mem] at hs
      suffices h : ∀ fl ∈ fs, Blind P (Go.fieldPlace ⟨0, 0, none⟩ fl) → True by
        by_cases hf : f < fs.size
        · have h1 := hs fs[f] (Array.getElem_mem hf)
          cases hi : P.info? fs[f].type with
          | none => simp [hi] at h1
          | some i =>
            simp [hi] at h1
            rcases Blind.sureAddr (P := P) x with ⟨a, ha⟩ | hn
            · refine .inl ⟨.pointer (some (a.add fs[f].offset)), fun w => ?_⟩
              simp [hd, hf, ha, Go.fieldPlace, Go.sizeOf, Go.typeInfo, hi, h1]
            · refine .inr fun w b w1 => ?_
              simp [hd, hf]
              cases hr : (Instr.sureAddr x).run P w with
              | ok a w2 => exact absurd hr (hn w a w2)
              | halt h w2 => simp
        · refine .inr fun w b w1 => ?_
          simp [hd, hf, Go.stuck, Sem.run]
      intros; trivial
    | _ => simp at hs
  · exact .inr (fun w b w1 => by
      rw [Sem.run_bind]
      cases hr : (Go.underlying s).run P w with
      | ok a w2 => exact absurd hr (hn w a w2)
      | halt h w2 => simp)
theorem Blind.field (s : TypeId) (x : Value) (f : Nat) : Blind P (Instr.field s x f) := by
  unfold Instr.field
  refine Blind.bind (Blind.underlying s) fun d => ?_
  split
  · split
    · exact Blind.bind (Blind.asAgg _) fun _ => Blind.part _ _ _
    · exact Blind.stuck _
  · exact Blind.stuck _
theorem Blind.index (t : TypeId) (x i : Value) : Blind P (Instr.index t x i) := by
  unfold Instr.index
  refine Blind.bind (Blind.asIntOf i) fun ki => ?_
  refine Blind.bind (Blind.underlying t) fun d => ?_
  split
  · exact Blind.ite (Blind.bind (Blind.sizeOf _) fun _ => Blind.part _ _ _) (Blind.boundsPanic _ _ _ _)
  · split
    · exact Blind.pure _
    · exact Blind.boundsPanic _ _ _ _
  · exact Blind.stuck _
theorem Blind.extract (x : Value) (i : Nat) : Blind P (Instr.extract x i) := by
  unfold Instr.extract
  split
  · split
    · exact Blind.pure _
    · exact Blind.stuck _
  · exact Blind.stuck _
theorem Blind.intArith (op : BinOp) (k : IntKind) (x y : Int) : Blind P (Op.intArith op k x y) := by
  unfold Op.intArith
  repeat' (first | exact Blind.pure _ | exact Blind.stuck _ | exact Blind.unsupported _ | exact Blind.boundsPanic _ _ _ _ | exact Blind.runtimePanic _ | exact Blind.underlying _ | exact Blind.sizeOf _ | exact Blind.asIntOf _ | exact Blind.asBool _ | exact Blind.asAgg _ | exact Blind.asAddr _ | exact Blind.sureAddr _ | (refine Blind.bind ?_ (fun _ => ?_)) | split)
theorem Blind.intBits (op : BinOp) (k : IntKind) (x y : Int) : Blind P (Op.intBits op k x y) := by
  unfold Op.intBits
  dsimp only
  repeat' (first | exact Blind.pure _ | exact Blind.stuck _ | exact Blind.unsupported _ | exact Blind.boundsPanic _ _ _ _ | exact Blind.runtimePanic _ | exact Blind.underlying _ | exact Blind.sizeOf _ | exact Blind.asIntOf _ | exact Blind.asBool _ | exact Blind.asAgg _ | exact Blind.asAddr _ | exact Blind.sureAddr _ | (refine Blind.bind ?_ (fun _ => ?_)) | split)
theorem Blind.intCmp (op : BinOp) (x y : Int) : Blind P (Op.intCmp op x y) := by
  unfold Op.intCmp
  repeat' (first | exact Blind.pure _ | exact Blind.stuck _ | exact Blind.unsupported _ | exact Blind.boundsPanic _ _ _ _ | exact Blind.runtimePanic _ | exact Blind.underlying _ | exact Blind.sizeOf _ | exact Blind.asIntOf _ | exact Blind.asBool _ | exact Blind.asAgg _ | exact Blind.asAddr _ | exact Blind.sureAddr _ | (refine Blind.bind ?_ (fun _ => ?_)) | split)
theorem Blind.intDiv (op : BinOp) (k : IntKind) (x y : Int) : Blind P (Op.intDiv op k x y) := by
  unfold Op.intDiv
  repeat' (first | exact Blind.pure _ | exact Blind.stuck _ | exact Blind.unsupported _ | exact Blind.boundsPanic _ _ _ _ | exact Blind.runtimePanic _ | exact Blind.underlying _ | exact Blind.sizeOf _ | exact Blind.asIntOf _ | exact Blind.asBool _ | exact Blind.asAgg _ | exact Blind.asAddr _ | exact Blind.sureAddr _ | (refine Blind.bind ?_ (fun _ => ?_)) | split)
theorem Blind.shift (op : BinOp) (k k' : IntKind) (x y : Int) : Blind P (Op.shift op k x k' y) := by
  unfold Op.shift
  dsimp only
  repeat' (first | exact Blind.pure _ | exact Blind.stuck _ | exact Blind.unsupported _ | exact Blind.boundsPanic _ _ _ _ | exact Blind.runtimePanic _ | exact Blind.underlying _ | exact Blind.sizeOf _ | exact Blind.asIntOf _ | exact Blind.asBool _ | exact Blind.asAgg _ | exact Blind.asAddr _ | exact Blind.sureAddr _ | (refine Blind.bind ?_ (fun _ => ?_)) | split)
theorem Blind.unary (op : UnOp) (x : Value) : Blind P (Op.unary op x) := by
  unfold Op.unary
  repeat' (first | exact Blind.intArith _ _ _ _ | exact Blind.intBits _ _ _ _ | exact Blind.pure _ | exact Blind.stuck _ | exact Blind.unsupported _ | split)
theorem Blind.binInt (op : BinOp) (t : TypeId) (k k' : IntKind) (x y : Int) : Blind P (Go.binOp op t (.int k x) (.int k' y)) := by
  cases op <;> simp only [Go.binOp] <;>
    repeat' (first | exact Blind.shift _ _ _ _ _ | exact Blind.intArith _ _ _ _ | exact Blind.intBits _ _ _ _ | exact Blind.intCmp _ _ _ | exact Blind.intDiv _ _ _ _ | exact Blind.stuck _ | refine Blind.ite ?_ ?_)
end
section
variable {P : Program} {ops : Array Oper} {md : Region.Mode}
def softOp (P : Program) : Op → Bool
  | .move _ | .assign _ | .pick _ _ _ | .extract _ _ | .field _ _ _ | .index _ _ _ | .indexAddr _ _ _ | .slice _ _ _ _ _ | .unOp _ _ _ => true
  | .fieldAddr s _ _ => sized P s
  | .binOp _ _ _ _ _ | .load _ _ | .nilCheck _ => true
  | .call { callee := .builtin .len, args, .. } => args.size == 1
  | _ => false
def intV : Value → Prop | .int _ _ => True | _ => False
def slV : Value → Prop | .slice _ _ _ => True | .string _ => True | _ => False
def ptrV : Value → Prop | .pointer _ => True | _ => False
def lowV (B : Nat) (w0 : World) : Value → Prop | .pointer (some p) => p.block < B ∧ (w0.cell? p).isSome = true | _ => False
def side (B : Nat) (w0 : World) (ρ : Operand → Value) : Op → Prop
  | .binOp _ _ x y _ => intV (ρ x) ∧ intV (ρ y)
  | .load _ x => lowV B w0 (ρ x)
  | .nilCheck x => ptrV (ρ x)
  | .call { callee := .builtin .len, args, .. } => ∀ x ∈ args.toList, slV (ρ x)
  | _ => True
def hasSide : Op → Bool
  | .binOp _ _ _ _ _ | .load _ _ | .nilCheck _ | .call _ => true
  | _ => false
theorem run_of_blind {e : Sem Value} (h : Blind P e) {w w1 : World} {n : Next} (hr : (do pure (.value (← e)) : Sem Next).run P w = .ok n w1) :
    w1 = w ∧ ∃ v, n = .value v ∧ ∀ w', (do pure (.value (← e)) : Sem Next).run P w' = .ok (.value v) w' := by
  rcases h with ⟨a, ha⟩ | hn
  · simp [ha] at hr
    exact ⟨hr.2.symm, a, hr.1.symm, fun w' => by simp [ha]⟩
  · exfalso
    rw [Sem.run_bind] at hr
    cases hx : e.run P w with
    | ok a w2 => exact hn _ _ _ hx
    | halt x w2 => simp [hx] at hr
theorem load_below {B : Nat} {w0 w w' : World} (h : Below B w0 w) (h' : Below B w0 w') {a : Addr} (ha : a.block < B) {c : Array Value} {e : TypeId} {fr : Nat × Nat} (hg : w0.heap[a.block]? = some (.cells c e fr))
    {r : Value} {w1 : World} (hr : (Go.load a).run P w = .ok r w1) : w1 = w ∧ (Go.load a).run P w' = .ok r w' := by
  have e1 : w'.cell? a = w.cell? a := (h'.cell ha).trans (h.cell ha).symm
  have hblk : w.heap[a.block]? = some (.cells c e fr) := (h.block _ ha).trans hg
  simp only [Go.load, Sem.run] at hr ⊢
  rw [e1]
  cases hc : w.cell? a with
  | some v => simp only [hc, Result.ok.injEq] at hr ⊢; exact ⟨hr.2.symm, hr.1, trivial⟩
  | none => simp [hc, World.farLoad, hblk] at hr
theorem loadCells_below {B : Nat} {w0 w w' : World} (h : Below B w0 w) (h' : Below B w0 w') {a : Addr} (ha : a.block < B) {c : Array Value} {e : TypeId} {fr : Nat × Nat} (hg : w0.heap[a.block]? = some (.cells c e fr)) :
    ∀ (n i : Nat) (acc : Array Value) (r : Array Value) (w1 : World), (loadCellsFrom a i n acc).run P w = .ok r w1 → w1 = w ∧ (loadCellsFrom a i n acc).run P w' = .ok r w' := by
  intro n
  induction n with
  | zero => intro i acc r w1 hr; simp [loadCellsFrom] at hr ⊢; exact ⟨hr.2.symm, hr.1⟩
  | succ n ih =>
    intro i acc r w1 hr
    have hbk : (a.add i).block = a.block := by unfold Addr.add; split <;> rfl
    simp only [loadCellsFrom, Sem.run_bind] at hr ⊢
    cases hx : (Go.load (a.add i)).run P w with
    | ok v w2 =>
      obtain ⟨rfl, hx'⟩ := load_below (P := P) h h' (a := a.add i) (by rw [hbk]; exact ha) (by rw [hbk]; exact hg) hx
      simp only [hx, hx', Result.andThen_ok] at hr ⊢
      exact ih _ _ _ _ hr
    | halt x w2 => simp [hx] at hr
theorem loadAt_below {B : Nat} {w0 w w' : World} (h : Below B w0 w) (h' : Below B w0 w') {t : TypeId} {x : Value} (hx : lowV B w0 x) {r : Value} {w1 : World}
    (hr : (Instr.loadAt t x).run P w = .ok r w1) : w1 = w ∧ (Instr.loadAt t x).run P w' = .ok r w' := by
  unfold lowV at hx
  split at hx
  · rename_i a
    obtain ⟨ha, hs⟩ := hx
    obtain ⟨u, hu⟩ := Option.isSome_iff_exists.1 hs
    have : ∃ c e fr, w0.heap[a.block]? = some (.cells c e fr) := by
      unfold World.cell? at hu
      split at hu
      · rename_i c e fr hg; exact ⟨c, e, fr, hg⟩
      · cases hu
    obtain ⟨c, e, fr, hg⟩ := this
    simp only [Instr.loadAt, Instr.sureAddr, loadVar, Sem.run_bind, Sem.run_pure, Result.andThen_ok] at hr ⊢
    rcases Blind.isAgg (P := P) t with ⟨b, hb⟩ | hn
    · simp only [hb, Result.andThen_ok] at hr ⊢
      cases b with
      | true =>
        simp only [if_true, Sem.run_bind] at hr ⊢
        rcases Blind.sizeOf (P := P) t with ⟨n, hn⟩ | hn
        · simp only [hn, Result.andThen_ok, loadCells] at hr ⊢
          cases hl : (loadCellsFrom a 0 n #[]).run P w with
          | ok v w2 =>
            obtain ⟨rfl, hl'⟩ := loadCells_below (P := P) h h' ha hg n 0 #[] v w2 hl
            simp [hl, hl'] at hr ⊢
            exact ⟨hr.2.symm, hr.1⟩
          | halt x w2 => simp [hl] at hr
        · exfalso
          cases hz : (Go.sizeOf t).run P w with
          | ok n w2 => exact hn _ _ _ hz
          | halt x w2 => simp [hz] at hr
      | false =>
        simp only [Bool.false_eq_true, if_false] at hr ⊢
        exact load_below h h' ha hg hr
    · exfalso
      cases hz : (Go.isAgg t).run P w with
      | ok n w2 => exact hn _ _ _ hz
      | halt x w2 => simp [hz] at hr
  · exact hx.elim
theorem soft_stable {B : Nat} {w0 w w' w1 : World} (h : Below B w0 w) (h' : Below B w0 w') {ρ : Operand → Value} {o : Oper} (hs : softOp P o.op = true) (hd : side B w0 ρ o.op) {n : Next}
    (hr : (execOp ρ o).run P w = .ok n w1) : w1 = w ∧ ∃ v, n = .value v ∧ (execOp ρ o).run P w' = .ok (.value v) w' := by
  have fin : ∀ {e : Sem Value}, Blind P e → (∀ w, (execOp ρ o).run P w = (do pure (.value (← e)) : Sem Next).run P w) → w1 = w ∧ ∃ v, n = .value v ∧ (execOp ρ o).run P w' = .ok (.value v) w' := fun hb he => by
    rw [he] at hr ⊢
    obtain ⟨e1, v, e2, e3⟩ := run_of_blind hb hr
    exact ⟨e1, v, e2, e3 w'⟩
  obtain ⟨dst, op, type, pos, after, guard⟩ := o
  cases op <;> simp only [softOp, Bool.false_eq_true] at hs <;> simp only [side] at hd
  case move x => simp [execOp] at hr ⊢; exact ⟨hr.2.symm, hr.1.symm⟩
  case assign x => simp [execOp] at hr ⊢; exact ⟨hr.2.symm, hr.1.symm⟩
  case pick c a b =>
    simp only [execOp, Sem.run_bind] at hr ⊢
    rcases Blind.asBool (P := P) (ρ c) with ⟨v, hv⟩ | hn
    · simp [hv] at hr ⊢; exact ⟨hr.2.symm, hr.1.symm⟩
    · exfalso
      cases hz : (Go.asBool (ρ c)).run P w with
      | ok n w2 => exact hn _ _ _ hz
      | halt x w2 => simp [hz] at hr
  case extract => exact fin (Blind.extract _ _) (fun _ => rfl)
  case field => exact fin (Blind.field _ _ _) (fun _ => rfl)
  case index => exact fin (Blind.index _ _ _) (fun _ => rfl)
  case indexAddr => exact fin (Blind.indexAt _ _ _) (fun _ => rfl)
  case slice => exact fin (Blind.sliceAt _ _ _ _ _) (fun _ => rfl)
  case unOp => exact fin (Blind.unary _ _) (fun _ => rfl)
  case fieldAddr s x f => exact fin (Blind.fieldAt s _ f hs) (fun _ => rfl)
  case nilCheck x =>
    simp only [execOp] at hr ⊢
    generalize ρ x = v at *
    cases v <;> simp only [ptrV] at hd
    rename_i p
    cases p with
    | none => exact absurd hr (never_runtimePanic _ _ _ _)
    | some p => simp at hr ⊢; exact ⟨hr.2.symm, hr.1.symm⟩
  case binOp op t x y yt =>
    obtain ⟨hx, hy⟩ := hd
    refine fin (e := do eqGuard op t x y (ρ x) (ρ y); binOp op t (ρ x) (ρ y)) ?_ (fun _ => rfl)
    generalize ρ x = vx at *
    generalize ρ y = vy at *
    cases vx <;> simp only [intV] at hx
    cases vy <;> simp only [intV] at hy
    refine Blind.bind ?_ fun _ => Blind.binInt _ _ _ _ _ _
    unfold eqGuard
    dsimp only
    repeat' (first | exact Blind.pure _ | exact Blind.stuck _ | exact Blind.unsupported _ | exact Blind.boundsPanic _ _ _ _ | exact Blind.runtimePanic _ | exact Blind.underlying _ | exact Blind.sizeOf _ | exact Blind.asIntOf _ | exact Blind.asBool _ | exact Blind.asAgg _ | exact Blind.asAddr _ | exact Blind.sureAddr _ | (refine Blind.bind ?_ (fun _ => ?_)) | split)
  case load t x =>
    simp only [execOp, Sem.run_bind] at hr ⊢
    cases hl : (Instr.loadAt t (ρ x)).run P w with
    | ok v w2 =>
      obtain ⟨rfl, hl'⟩ := loadAt_below (P := P) h h' hd hl
      simp [hl, hl'] at hr ⊢
      exact ⟨hr.2.symm, hr.1.symm⟩
    | halt x w2 => simp [hl] at hr
  case call c =>
    obtain ⟨callee, args, argTypes⟩ := c
    cases callee <;> first | exact absurd hs Bool.false_ne_true | skip
    rename_i b
    cases b <;> first | exact absurd hs Bool.false_ne_true | skip
    have hs : args.size = 1 := by simpa using hs
    have : ∃ x, args = #[x] := by
      have : args.toList.length = 1 := by simpa using hs
      match h : args.toList, this with
      | [x], _ => exact ⟨x, by rw [← Array.toArray_toList (xs := args), h]⟩
    obtain ⟨x, rfl⟩ := this
    have hd' : slV (ρ x) := hd x (by simp)
    clear hd
    refine fin (e := Builtin.len_ argTypes type #[ρ x]) ?_ ?_
    · unfold Builtin.len_
      generalize ρ x = v at *
      cases v <;> simp only [slV] at hd'
      · repeat' (first | exact Blind.pure _ | exact Blind.stuck _ | exact Blind.underlying _ | contradiction | (refine Blind.bind ?_ (fun _ => ?_)) | split)
        all_goals (rename_i hh; simp at hh)
      · repeat' (first | exact Blind.pure _ | exact Blind.stuck _ | exact Blind.underlying _ | contradiction | (refine Blind.bind ?_ (fun _ => ?_)) | split)
        all_goals (rename_i hh; simp at hh)
    · intro w
      simp [execOp, resolve, invoke, builtin]
def Trace (P : Program) (ops : Array Oper) : List Oper → Act → World → Act → World → Prop
  | [], a, w, a', w' => a' = a ∧ w' = w
  | o :: l, a, w, a', w' =>
    if Region.wanted o (yielded ops a.tmps) = true then ∃ n w1 v, (execOp a.eval o).run P w = .ok n w1 ∧ n = .value v ∧ Trace P ops l (a.put o.dst v) w1 a' w'
    else Trace P ops l (a.put o.dst undef) w a' w'
theorem soft_value {ρ : Operand → Value} {o : Oper} (hs : softOp P o.op = true) {w w1 : World} {n : Next} (hr : (execOp ρ o).run P w = .ok n w1) : ∃ v, n = .value v := by
  have gen : ∀ {e : Sem Value}, (do pure (.value (← e)) : Sem Next).run P w = .ok n w1 → ∃ v, n = .value v := fun {e} h => by
    rw [Sem.run_bind] at h
    cases hx : e.run P w with
    | ok a w2 => simp [hx] at h; exact ⟨a, h.1.symm⟩
    | halt x w2 => simp [hx] at h
  obtain ⟨dst, op, type, pos, after, guard⟩ := o
  cases op <;> simp only [softOp, Bool.false_eq_true] at hs
  case move x => simp [execOp] at hr; exact ⟨_, hr.1.symm⟩
  case assign x => simp [execOp] at hr; exact ⟨_, hr.1.symm⟩
  case pick c a b =>
    simp only [execOp] at hr
    exact gen (e := do pure (if ← asBool (ρ c) then ρ a else ρ b)) (by simpa using hr)
  case nilCheck x =>
    simp only [execOp] at hr
    split at hr
    · exact absurd hr (never_runtimePanic _ _ _ _)
    · exact absurd hr (never_runtimePanic _ _ _ _)
    · exact absurd hr (never_runtimePanic _ _ _ _)
    · split at hr
      · exact absurd hr (never_runtimePanic _ _ _ _)
      · rw [Sem.run_bind] at hr
        generalize Sem.run P Go.program w = r1 at hr
        cases r1 with
        | halt x w2 => simp at hr
        | ok a w2 =>
          simp only [Result.andThen_ok, Sem.run_bind] at hr
          generalize Sem.run P _ w2 = r2 at hr
          cases r2 with
          | halt x w2 => simp at hr
          | ok a w2 =>
            simp only [Result.andThen_ok] at hr
            split at hr
            · simp [Go.unsupported] at hr
            · simp at hr; exact ⟨_, hr.1.symm⟩
      · simp at hr; exact ⟨_, hr.1.symm⟩
    · simp at hr; exact ⟨_, hr.1.symm⟩
  case call c =>
    obtain ⟨callee, args, argTypes⟩ := c
    cases callee <;> first | exact absurd hs Bool.false_ne_true | skip
    rename_i b
    cases b <;> first | exact absurd hs Bool.false_ne_true | skip
    exact gen (e := Builtin.len_ argTypes type (args.map ρ)) (by simpa [execOp, resolve, invoke, builtin] using hr)
  all_goals exact gen hr
def Only (K : Act → World → Prop) : Exit → Act → World → Prop
  | .normal, a, w => K a w
  | _, _, _ => False
theorem trace_of_wp {K : Act → World → Prop} : ∀ (l : List Oper) (a : Act) (w : World), (∀ o ∈ l, softOp P o.op = true) → wpList P ops (Only K) l a w → ∃ a' w', K a' w' ∧ Trace P ops l a w a' w' := by
  intro l
  induction l with
  | nil => intro a w _ h; exact ⟨a, w, h, rfl, rfl⟩
  | cons o l ih =>
    intro a w hs h
    unfold wpList at h
    split at h
    · rename_i hw
      rcases h with h | ⟨_, a0, w0, h⟩
      · unfold Oper.wp at h
        cases hr : (execOp a.eval o).run P w with
        | ok n w1 =>
          obtain ⟨v, rfl⟩ := soft_value (hs o (by simp)) hr
          rw [hr] at h
          obtain ⟨a', w', hK, ht⟩ := ih _ _ (fun o' ho' => hs o' (by simp [ho'])) h
          exact ⟨a', w', hK, by unfold Trace; rw [if_pos hw]; exact ⟨_, _, _, hr, rfl, ht⟩⟩
        | halt x w1 =>
          rw [hr] at h
          cases x <;> exact h.elim
      · exact h.elim
    · rename_i hw
      obtain ⟨a', w', hK, ht⟩ := ih _ _ (fun o' ho' => hs o' (by simp [ho'])) h
      exact ⟨a', w', hK, by unfold Trace; rw [if_neg hw]; exact ht⟩
def unwritten (l : List Oper) (t : Tmp) : Bool := l.all fun o => o.dst != some t
theorem eval_put_other {a : Act} {d : Option Tmp} {v : Value} {x : Operand} (h : ∀ t, x = .tmp t → d ≠ some t) : (a.put d v).eval x = a.eval x :=
  Act.eval_put fun t ht e => h t e ht
theorem trace_eval : ∀ (l : List Oper) (a : Act) (w : World) (a' : Act) (w' : World), Trace P ops l a w a' w' → ∀ x, (∀ t, x = .tmp t → unwritten l t = true) → a'.eval x = a.eval x := by
  intro l
  induction l with
  | nil => intro a w a' w' h x _; rw [h.1]
  | cons o l ih =>
    intro a w a' w' h x hx
    have hl : ∀ t, x = .tmp t → unwritten l t = true := fun t ht => by
      have := hx t ht
      simp only [unwritten, List.all_cons, Bool.and_eq_true] at this ⊢
      exact this.2
    have hd : ∀ t, x = .tmp t → o.dst ≠ some t := fun t ht => by
      have := hx t ht
      simp only [unwritten, List.all_cons, Bool.and_eq_true, bne_iff_ne] at this
      exact this.1
    unfold Trace at h
    split at h
    · obtain ⟨n, w1, v, _, _, h⟩ := h
      rw [ih _ _ _ _ h x hl, eval_put_other hd]
    · rw [ih _ _ _ _ h x hl, eval_put_other hd]
def clean (ops : Array Oper) : List Oper → Bool
  | [] => true
  | o :: l => (!hasSide o.op || (o.looksAt ops).all fun t => unwritten (o :: l) t) && clean ops l
def sides (B : Nat) (w0 : World) (ops : Array Oper) (a : Act) : List Oper → Prop
  | [] => True
  | o :: l => (hasSide o.op = true → Region.wanted o (yielded ops a.tmps) = true → side B w0 a.eval o.op) ∧ sides B w0 ops a l
theorem side_congr {B : Nat} {w0 : World} {ρ ρ' : Operand → Value} {op : Op} (h : ∀ x ∈ op.operands, ρ x = ρ' x) (hd : side B w0 ρ op) : side B w0 ρ' op := by
  cases op <;> simp only [side] at hd ⊢
  case binOp => rw [← h _ (by simp [Op.operands]), ← h _ (by simp [Op.operands])]; exact hd
  case load => rw [← h _ (by simp [Op.operands])]; exact hd
  case nilCheck => rw [← h _ (by simp [Op.operands])]; exact hd
  case call c =>
    obtain ⟨callee, args, argTypes⟩ := c
    cases callee <;> first | trivial | skip
    rename_i b
    cases b <;> first | trivial | skip
    have hd' : ∀ x ∈ args.toList, slV (ρ x) := hd
    show ∀ x ∈ args.toList, slV (ρ' x)
    intro x hx
    rw [← h x (by simpa [Op.operands, Call.operands] using hx)]
    exact hd' x hx
def pick (ops : Array Oper) (L : List Nat) : List Oper := L.filterMap (ops[·]?)
def listAll (listed : Array Bool) (L : List Nat) : Array Bool := L.foldl (fun l i => l.setIfInBounds i true) listed
def softChain (P : Program) (md : Region.Mode) (ops : Array Oper) : List Nat → Array Bool → Bool
  | [], _ => true
  | i :: L, listed => (match ops[i]? with | some o => softOp P o.op | none => false) && (Region.ready md ops listed).contains i && Region.free md ops listed i && softChain P md ops L (listed.setIfInBounds i true)
inductive Plan where
  | done
  | stop
  | soft (L : List Nat) (p : Plan)
  | alt (i : Nat) (p q : Plan)
def wpPlan (P : Program) (ops : Array Oper) (B : Nat) (w0 : World) (Q : Exit → Act → World → Prop) : Plan → Act → World → Prop
  | .done, a, w => Q .normal a w
  | .stop, _, _ => True
  | .soft L p, a, w => wpList P ops (Only fun a' w' => sides B w0 ops a' (pick ops L) ∧ wpPlan P ops B w0 Q p a' w') (pick ops L) a w
  | .alt i p q, a, w => wpList P ops (Only fun a' w' => Below B w0 w' ∧ wpPlan P ops B w0 Q p a' w') (pick ops [i]) a w ∧ wpPlan P ops B w0 Q q a w
def covers (P : Program) (md : Region.Mode) (ops : Array Oper) : Plan → Nat → Array Bool → Option (List Nat) → Bool
  | .done, _, listed, rs => rs.isNone && (Region.ready md ops listed).isEmpty
  | .stop, _, _, rs => match rs with | some r => r.isEmpty | none => false
  | .soft L p, f, listed, rs => rs.isNone && decide (L.length ≤ f) && softChain P md ops L listed && clean ops (pick ops L) && covers P md ops p (f - L.length) (listAll listed L) none
  | .alt i p q, f, listed, rs =>
    decide (0 < f) && (rs.getD (Region.ready md ops listed)).contains i && (Region.ready md ops listed).contains i && covers P md ops p (f - 1) (listed.setIfInBounds i true) none &&
      covers P md ops q f listed (some ((rs.getD (Region.ready md ops listed)).filter (· != i)))
theorem yielded_eq (ops : Array Oper) (tmps : Array Value) (j : Nat) : yielded ops tmps j = match (ops[j]?).bind (·.dst) with | none => none | some t => match tmps.getD t undef with | .bool b => some b | _ => none := by
  unfold yielded
  cases (ops[j]?).bind (·.dst) with
  | none => rfl
  | some t =>
    simp only [Option.bind_some]
    by_cases h : t < tmps.size
    · simp [Array.getD, h]
      split <;> simp_all
    · simp [Array.getD, h, undef]
theorem upon_only {K K' : Act → World → Prop} {o : Oper} {a : Act} {w : World} {N : Act → World → Prop} (h : o.wp P a w N (Only K)) : o.wp P a w N (Only K') := by
  unfold Oper.wp at *
  generalize (execOp a.eval o).run P w = r at *
  cases r with
  | ok n w' =>
    cases n <;> simp only [Oper.upon] at h ⊢ <;> first | exact h | skip
    all_goals exact Calls.mono h fun e w'' he => by cases e <;> first | exact he | exact (he : False).elim | (obtain ⟨_, _, hf⟩ := he; exact (hf : False).elim)
  | halt x w' => cases x <;> simp only [Oper.upon] at h ⊢ <;> exact (h : False).elim
theorem soft_take {B : Nat} {w0 : World} {Q : Exit → Act → World → Prop} (hns : Region.noSelect ops = true) (hQ : ∀ c a a' w, Q (.panic c) a w → Q (.panic c) a' w) {f : Nat} {aE : Act} {wE w : World} (hw : Below B w0 w) :
    ∀ (L : List Nat) (listed : Array Bool) (a : Act), softChain P md ops L listed = true → clean ops (pick ops L) = true → sides B w0 ops aE (pick ops L) → Trace P ops (pick ops L) a w aE wE →
      (wE = w → wpAnyH P md ops Q (Below B w0) f (listAll listed L) aE w) → wE = w ∧ wpAnyH P md ops Q (Below B w0) (f + L.length) listed a w := by
  intro L
  induction L with
  | nil =>
    intro listed a _ _ _ ht hK
    obtain ⟨rfl, rfl⟩ := ht
    exact ⟨rfl, by simpa [listAll] using hK rfl⟩
  | cons i L ih =>
    intro listed a hc hcl hsd ht hK
    simp only [softChain, Bool.and_eq_true] at hc
    obtain ⟨⟨⟨h1, h2⟩, h3⟩, h4⟩ := hc
    cases ho : ops[i]? with
    | none => simp [ho] at h1
    | some o =>
      simp only [ho] at h1
      have hp : pick ops (i :: L) = o :: pick ops L := by simp [pick, ho]
      rw [hp] at hcl hsd ht
      simp only [clean, Bool.and_eq_true] at hcl
      obtain ⟨hc1, hc2⟩ := hcl
      obtain ⟨hs1, hs2⟩ := hsd
      unfold Trace at ht
      have evals : ∀ x ∈ o.op.operands, hasSide o.op = true → aE.eval x = a.eval x := fun x hx hh => by
        simp only [hh, Bool.not_true, Bool.false_or, List.all_eq_true] at hc1
        have hu : ∀ t, x = .tmp t → unwritten (o :: pick ops L) t = true := fun t ht => hc1 t (by
          subst ht
          exact List.mem_append_left _ (List.mem_filterMap.2 ⟨.tmp t, by simpa using hx, rfl⟩))
        refine trace_eval (P := P) (ops := ops) (o :: pick ops L) a w aE wE ?_ x hu
        unfold Trace
        exact ht
      have wants : hasSide o.op = true → Region.wanted o (yielded ops aE.tmps) = Region.wanted o (yielded ops a.tmps) := fun hh => by
        simp only [hh, Bool.not_true, Bool.false_or, List.all_eq_true] at hc1
        unfold Region.wanted
        cases hg : o.guard with
        | none => rfl
        | some gw =>
          obtain ⟨g, want⟩ := gw
          have : yielded ops aE.tmps g = yielded ops a.tmps g := by
            rw [yielded_eq, yielded_eq]
            cases hd : (ops[g]?).bind (·.dst) with
            | none => rfl
            | some t =>
              have hm : t ∈ o.looksAt ops := List.mem_append_right _ (by simp [hg, hd])
              have := trace_eval (P := P) (ops := ops) (o :: pick ops L) a w aE wE (by unfold Trace; exact ht) (.tmp t) (fun t' ht' => by cases ht'; exact hc1 t hm)
              simp only [Act.eval] at this
              simp only [this]
          simp only [this]
      have key : ∀ v w1, YieldsIf P ops (Below B w0) o v a → w1 = w → Trace P ops (pick ops L) (a.put o.dst v) w1 aE wE → wE = w ∧ wpAnyH P md ops Q (Below B w0) (f + (L.length + 1)) listed a w := fun v w1 hy e ht => by
        rw [e] at ht
        obtain ⟨e1, hrest⟩ := ih (listed.setIfInBounds i true) (a.put o.dst v) h4 hc2 hs2 ht (fun e => by simpa [listAll] using hK e)
        exact ⟨e1, wpAnyH_take ho hns h3 (by simpa using h2) (fun c a w h => hQ c _ _ w h) hy hw hrest⟩
      by_cases hwt : Region.wanted o (yielded ops a.tmps) = true
      · rw [if_pos hwt] at ht
        obtain ⟨n, w1, v, hr, rfl, ht⟩ := ht
        have hd : side B w0 a.eval o.op := by
          by_cases hh : hasSide o.op = true
          · exact side_congr (fun x hx => evals x hx hh) (hs1 hh (by rw [wants hh]; exact hwt))
          · revert hh
            cases o.op <;> simp [hasSide, side]
        have hst := fun w' (hw' : Below B w0 w') => soft_stable (P := P) hw hw' h1 hd hr
        have e1 := (hst w hw).1
        refine key v w1 (.inl ⟨hwt, fun w' hw' => ?_⟩) e1 ht
        obtain ⟨_, v', hv', hr'⟩ := hst w' hw'
        cases hv'
        exact hr'
      · rw [if_neg hwt] at ht
        exact key undef w (.inr ⟨by simpa using hwt, rfl⟩) rfl ht
theorem pick_one {i : Nat} {o : Oper} (h : ops[i]? = some o) : pick ops [i] = [o] := by simp [pick, h]
theorem softChain_soft : ∀ (L : List Nat) (listed : Array Bool), softChain P md ops L listed = true → ∀ o ∈ pick ops L, softOp P o.op = true := by
  intro L
  induction L with
  | nil => intro _ _ o ho; simp [pick] at ho
  | cons i L ihL =>
    intro listed hc o ho
    simp only [softChain, Bool.and_eq_true] at hc
    obtain ⟨⟨⟨g1, _⟩, _⟩, g4⟩ := hc
    cases hi : ops[i]? with
    | none => simp [hi] at g1
    | some o' =>
      simp only [hi] at g1
      have hp : pick ops (i :: L) = o' :: pick ops L := by simp [pick, hi]
      rw [hp] at ho
      rcases List.mem_cons.1 ho with rfl | ho
      · exact g1
      · exact ihL _ g4 _ ho
theorem covers_sound {B : Nat} {w0 : World} {Q : Exit → Act → World → Prop} {K : Act → World → Prop} (hQ : Q = Only K) (hns : Region.noSelect ops = true) :
    ∀ (p : Plan) (f : Nat) (listed : Array Bool) (rs : Option (List Nat)) (a : Act) (w : World), covers P md ops p f listed rs = true → Below B w0 w → wpPlan P ops B w0 Q p a w →
      match rs with
      | none => wpAnyH P md ops Q (Below B w0) f listed a w
      | some r => ∀ i ∈ r, 0 < f ∧ wpOp P ops Q i (fun a' w' => Below B w0 w' ∧ wpAnyH P md ops Q (Below B w0) (f - 1) (listed.setIfInBounds i true) a' w') a w := by
  intro p
  induction p with
  | done =>
    intro f listed rs a w hc hw h
    simp only [covers, Bool.and_eq_true, Option.isNone_iff_eq_none, List.isEmpty_iff] at hc
    obtain ⟨rfl, hr⟩ := hc
    exact wpAnyH_done hr h f
  | stop =>
    intro f listed rs a w hc hw h
    cases rs with
    | none => simp [covers] at hc
    | some r =>
      simp only [covers, List.isEmpty_iff] at hc
      subst hc
      intro i hi
      cases hi
  | soft L p ih =>
    intro f listed rs a w hc hw h
    simp only [covers, Bool.and_eq_true, Option.isNone_iff_eq_none, decide_eq_true_eq] at hc
    obtain ⟨⟨⟨⟨rfl, h2⟩, h3⟩, h4⟩, h5⟩ := hc
    obtain ⟨aE, wE, ⟨hsd, hK⟩, ht⟩ := trace_of_wp _ _ _ (softChain_soft L listed h3) h
    have hl : f - L.length + L.length = f := by omega
    rw [← hl]
    refine (soft_take (P := P) hns (by rw [hQ]; intro c a a' w h; exact h) hw L listed a h3 h4 hsd ht (fun e => ?_)).2
    subst e
    exact ih _ _ none _ _ h5 hw hK
  | alt i p q ihp ihq =>
    intro f listed rs a w hc hw h
    simp only [covers, Bool.and_eq_true, decide_eq_true_eq] at hc
    obtain ⟨⟨⟨⟨h1, h2⟩, h2'⟩, h3⟩, h4⟩ := hc
    obtain ⟨hi, hq⟩ := h
    have here : wpOp P ops Q i (fun a' w' => Below B w0 w' ∧ wpAnyH P md ops Q (Below B w0) (f - 1) (listed.setIfInBounds i true) a' w') a w := by
      unfold wpOp
      cases ho : ops[i]? with
      | none => 
        have hm : i ∈ Region.ready md ops listed := by simpa using h2'
        obtain ⟨_, o, ho', _⟩ := mem_ready.1 hm
        rw [ho] at ho'
        cases ho'
      | some o =>
        rw [pick_one ho] at hi
        simp only []
        unfold wpList at hi
        split
        · rename_i hwt
          rw [if_pos hwt] at hi
          rcases hi with hi | ⟨_, _, _, hf⟩
          · rw [hQ]
            refine .inl (upon_only (K := fun a' w' => Below B w0 w' ∧ wpPlan P ops B w0 Q p a' w') (Oper.wp_mono (fun a' w' hn => ?_) hi))
            obtain ⟨hb, hn⟩ := hn
            have := ihp (f - 1) (listed.setIfInBounds i true) none a' w' h3 hb hn
            exact ⟨hb, hQ ▸ this⟩
          · exact hf.elim
        · rename_i hwt
          rw [if_neg hwt] at hi
          obtain ⟨hb, hn⟩ := hi
          exact ⟨hb, ihp (f - 1) (listed.setIfInBounds i true) none _ _ h3 hb hn⟩
    have rest := ihq f listed _ a w h4 hw hq
    have all : ∀ j ∈ rs.getD (Region.ready md ops listed), 0 < f ∧ wpOp P ops Q j (fun a' w' => Below B w0 w' ∧ wpAnyH P md ops Q (Below B w0) (f - 1) (listed.setIfInBounds j true) a' w') a w := by
      intro j hj
      by_cases e : j = i
      · subst e; exact ⟨h1, here⟩
      · exact rest j (List.mem_filter.2 ⟨hj, by simpa using e⟩)
    cases rs with
    | some r => exact all
    | none =>
      simp only [Option.getD_none] at all
      have hne : Region.ready md ops listed ≠ [] := by intro e; rw [e] at h2'; simp at h2'
      have hf : f = (f - 1) + 1 := by omega
      show wpAnyH P md ops Q (Below B w0) f listed a w
      rw [hf]
      exact wpAnyH_all rfl hne fun j hj => (all j hj).2
theorem only_mk {K : Act → World → Prop} {a : Act} {w : World} (h : K a w) : Only K .normal a w := h
theorem only_imp {Q : Exit → Act → World → Prop} : ∀ e a w, Only (Q .normal) e a w → Q e a w := fun e a w h => by
  cases e <;> first | exact h | exact (h : False).elim
theorem wp_region_plan {id : Nat} {Q : Exit → Act → World → Prop} {a : Act} {w : World} (p : Plan) (B : Nat) (hm : P.follows .mixedOrders = true) (hns : Region.noSelect ops = true)
    (hc : covers P .any ops p ops.size (Array.replicate ops.size false) none = true) (h : wpPlan P ops B w.drew (Only (Q .normal)) p a w.drew) : (Code.region id ops true).wp P Q a w := by
  refine Code.wp_mono only_imp (wp_region_held (S := Below B w.drew) hm ?_)
  exact covers_sound rfl hns p _ _ none _ _ hc (Below.refl _ _) h
theorem wpPlan_done {B : Nat} {w0 : World} {Q : Exit → Act → World → Prop} {a : Act} {w : World} (h : Q .normal a w) : wpPlan P ops B w0 (Only (Q .normal)) .done a w := h
theorem wp_region_soft {l : List Oper} {id : Nat} {Q : Exit → Act → World → Prop} {a : Act} {w : World} {aE : Act} {wE : World} (hm : P.follows .mixedOrders = true)
    (hc : (Region.noSelect l.toArray && covers P .any l.toArray (.soft (List.range l.length) .done) l.length (Array.replicate l.length false) none) = true)
    (h : ∀ K : Act → World → Prop, K aE wE → wpList P l.toArray (Only K) l a w.drew) (h1 : sides w.heap.size w.drew l.toArray aE l) (h2 : Q .normal aE wE) : (Code.region id l.toArray true).wp P Q a w := by
  simp only [Bool.and_eq_true] at hc
  have hp : pick l.toArray (List.range l.length) = l := by
    unfold pick
    have : ∀ (k : Nat) (l' : List Oper), (∀ j, l'[j]? = l[k + j]?) → (List.range' k l'.length).filterMap (l.toArray[·]?) = l' := by
      intro k l'
      induction l' generalizing k with
      | nil => intro _; rfl
      | cons o l' ih =>
        intro hk
        have h0 : l.toArray[k]? = some o := by simpa using (hk 0).symm
        simp only [List.length_cons, List.range'_succ, List.filterMap_cons, h0]
        rw [ih (k + 1) (fun j => by have := hk (j + 1); simpa [Nat.add_assoc, Nat.add_comm 1 j] using this)]
    have := this 0 l (fun j => by simp)
    rwa [← List.range_eq_range'] at this
  refine wp_region_plan (.soft (List.range l.length) .done) w.heap.size hm hc.1 (by simpa using hc.2) ?_
  simp only [wpPlan, hp]
  exact h _ ⟨h1, h2⟩
theorem wpPlan_soft {B : Nat} {w0 : World} {Q : Exit → Act → World → Prop} {L : List Nat} {p : Plan} {a : Act} {w : World} {aE : Act} {wE : World}
    (h : ∀ K : Act → World → Prop, K aE wE → wpList P ops (Only K) (pick ops L) a w) (h1 : sides B w0 ops aE (pick ops L)) (h2 : wpPlan P ops B w0 Q p aE wE) : wpPlan P ops B w0 Q (.soft L p) a w :=
  h _ ⟨h1, h2⟩
theorem wpPlan_alt {B : Nat} {w0 : World} {Q : Exit → Act → World → Prop} {i : Nat} {p q : Plan} {a : Act} {w : World} {C : Act → World → Prop}
    (h : wpList P ops (Only C) (pick ops [i]) a w) (hC : ∀ a' w', C a' w' → Below B w0 w' ∧ wpPlan P ops B w0 Q p a' w') (hq : wpPlan P ops B w0 Q q a w) : wpPlan P ops B w0 Q (.alt i p q) a w := by
  refine ⟨?_, hq⟩
  have : ∀ l a w, wpList P ops (Only C) l a w → wpList P ops (Only fun a' w' => Below B w0 w' ∧ wpPlan P ops B w0 Q p a' w') l a w := by
    intro l
    induction l with
    | nil => intro a w h; exact hC a w h
    | cons o l ih =>
      intro a w h
      unfold wpList at h ⊢
      split
      · rename_i hw
        rw [if_pos hw] at h
        rcases h with h | ⟨_, _, _, hf⟩
        · exact .inl (upon_only (Oper.wp_mono (fun a' w' h' => ih a' w' h') h))
        · exact hf.elim
      · rename_i hw
        rw [if_neg hw] at h
        exact ih _ _ h
  exact this _ _ _ h
theorem wpPlan_stop {B : Nat} {w0 : World} {Q : Exit → Act → World → Prop} {a : Act} {w : World} : wpPlan P ops B w0 Q .stop a w := trivial
theorem pick_nil : pick ops [] = [] := rfl
theorem pick_cons {i : Nat} {L : List Nat} {o : Oper} (h : ops[i]? = some o) : pick ops (i :: L) = o :: pick ops L := by simp [pick, h]
theorem wpPlan_end {B : Nat} {w0 : World} {Q : Exit → Act → World → Prop} {a : Act} {w : World} (h : Q .normal a w) : wpPlan P ops B w0 (Only (Q .normal)) .done a w := h
theorem wpPlan_skip {B : Nat} {w0 : World} {Q : Exit → Act → World → Prop} {i : Nat} {p : Plan} {a : Act} {w : World} {o : Oper} (ho : ops[i]? = some o) (hw : Region.wanted o (yielded ops a.tmps) = false) (hb : Below B w0 w)
    (h : wpPlan P ops B w0 Q p (a.put o.dst undef) w) : wpPlan P ops B w0 Q (.alt i p .stop) a w := by
  refine ⟨?_, trivial⟩
  rw [pick_one ho]
  unfold wpList
  rw [if_neg (by rw [hw]; exact Bool.false_ne_true)]
  exact ⟨hb, h⟩
theorem wpPlan_op {B : Nat} {w0 : World} {Q : Exit → Act → World → Prop} {i : Nat} {p q : Plan} {a : Act} {w : World} {o : Oper} (ho : ops[i]? = some o) (hw : Region.wanted o (yielded ops a.tmps) = true)
    (h : ∀ K : Act → World → Prop, (∀ a' w', Below B w0 w' → wpPlan P ops B w0 Q p a' w' → K a' w') → o.wp P a w K (Only K)) (hq : wpPlan P ops B w0 Q q a w) : wpPlan P ops B w0 Q (.alt i p q) a w := by
  refine ⟨?_, hq⟩
  rw [pick_one ho]
  unfold wpList
  rw [if_pos hw]
  refine .inl ?_
  have := h (fun a' w' => Below B w0 w' ∧ wpPlan P ops B w0 Q p a' w') fun _ _ h1 h2 => ⟨h1, h2⟩
  exact upon_only this
end
attribute [irreducible] wpPlan
theorem flat_at {us : List Value} {s : Nat} (hs : ∀ u ∈ us, u.cells.size = s) : ∀ {q j : Nat} {u : Value} {c : Value}, us[q]? = some u → u.cells[j]? = some c → (us.flatMap (·.cells.toList))[q * s + j]? = some c := by
  induction us with
  | nil => intro q j u c h; simp at h
  | cons u0 us ih =>
    intro q j u c hq hj
    have h0 : u0.cells.toList.length = s := by simpa using hs u0 (by simp)
    have hjs : j < u.cells.size := (Array.getElem?_eq_some_iff.1 hj).1
    rw [List.flatMap_cons]
    cases q with
    | zero =>
      simp at hq
      subst hq
      rw [List.getElem?_append_left (by simp; omega)]
      simpa using hj
    | succ q =>
      have hus : ∀ u ∈ us, u.cells.size = s := fun u hu => hs u (by simp [hu])
      rw [List.getElem?_append_right (by rw [h0, Nat.add_mul]; omega), h0]
      have : (q + 1) * s + j - s = q * s + j := by rw [Nat.add_mul]; omega
      rw [this]
      exact ih hus (by simpa using hq) hj
theorem flat_one : ∀ {us : List Value}, (∀ u ∈ us, u.cells = #[u]) → us.flatMap (·.cells.toList) = us
  | [], _ => rfl
  | u :: us, h => by rw [List.flatMap_cons, h u (by simp), flat_one fun u hu => h u (by simp [hu])]; rfl
theorem SliceOf.ofOwn {α : Type} {s : Nat} {R : World → Value → α → Prop} {w : World} {v : Value} {l : List α} {base : Nat} {e : TypeId} {us : List Value} (hown : w.ownsRow base e s v l.length (us.flatMap (·.cells.toList)))
    (hlen : us.length = l.length) (hR : ∀ (q : Nat) (u : Value) (a : α), us[q]? = some u → l[q]? = some a → R w u a) (hs : ∀ u ∈ us, u.cells.size = s) : SliceOf s R w v l := by
  have hcap : ∃ ao cap, v = .slice ao l.length cap ∧ l.length ≤ cap ∧ cap ≤ maxLen ∧ (ao = none → cap = 0) := by
    rcases hown.2 with ⟨rfl, h0⟩ | ⟨g, cap, cur, rfl, hb, hg, h1, h2, _⟩
    · exact ⟨none, 0, by rw [h0], by omega, by simp [maxLen], fun _ => rfl⟩
    · exact ⟨_, cap, rfl, h1, h2, fun h => by cases h⟩
  obtain ⟨ao, cap, rfl, h1, h2, h3⟩ := hcap
  refine ⟨ao, l.length, cap, rfl, rfl, h1, h2, h3, fun q a hq => ?_⟩
  have hql : q < l.length := (List.getElem?_eq_some_iff.1 hq).1
  obtain ⟨u, hu⟩ : ∃ u, us[q]? = some u := ⟨us[q], by simp [hlen, hql]⟩
  have hus := hs u (List.mem_of_getElem? hu)
  rcases hown.2 with ⟨hv, h0⟩ | ⟨g, cap', cur, hv, hb, hg, _⟩
  · omega
  · cases hv
    refine ⟨g, 0, u, rfl, hR q u a hu hq, hus, fun j c hj => ?_⟩
    have := hown.cells (g := g) rfl (q * s + j) c (flat_at hs hu hj)
    simpa [Addr.add_lit] using this
abbrev ints (l : List Int) : List Value := l.map (Value.int .i64)
def I64 (l : List Int) : Prop := ∀ a ∈ l, -9223372036854775808 ≤ a ∧ a ≤ 9223372036854775807
theorem I64.app {a b : List Int} (ha : I64 a) (hb : I64 b) : I64 (a ++ b) := fun x hx => by
  rcases List.mem_append.1 hx with h | h
  · exact ha x h
  · exact hb x h
theorem I64.nil : I64 [] := fun _ h => by cases h
theorem I64.one {x : Int} (h1 : -9223372036854775808 ≤ x) (h2 : x ≤ 9223372036854775807) : I64 [x] := fun y h => by
  rw [List.mem_singleton] at h
  subst h
  exact ⟨h1, h2⟩
theorem SliceOf.i64 {w : World} {v : Value} {l : List Int} (h : Ints w v l) : I64 l := fun a ha => by
  obtain ⟨q, hq⟩ := List.mem_iff_getElem?.1 ha
  obtain ⟨ao, n, cap, hv, hn, h1, h2, h3, hr⟩ := h
  obtain ⟨b, o, u, hao, ⟨rfl, hb⟩, _⟩ := hr q a hq
  exact hb
theorem Ints.ofOwn {w : World} {v : Value} {l : List Int} {base : Nat} {e : TypeId} (hown : w.ownsRow base e 1 v l.length (ints l)) (hb : I64 l) : Ints w v l := by
  refine SliceOf.ofOwn (us := ints l) (base := base) (e := e) ?_ (by simp) ?_ ?_
  · rw [flat_one (fun u hu => by obtain ⟨x, _, rfl⟩ := List.mem_map.1 hu; rfl)]
    exact hown
  · intro q u a hu ha
    simp [ha] at hu
    subst hu
    exact ⟨rfl, hb a (List.mem_of_getElem? ha)⟩
  · intro u hu
    obtain ⟨x, _, rfl⟩ := List.mem_map.1 hu
    rfl
def SrcRow (w : World) (s : Nat) (x : Value) (m : Nat) (news : List Value) : Prop :=
  ∃ ao c, x = .slice ao m c ∧ (ao = none → c = 0 ∧ m = 0) ∧ news.length = m * s ∧ (∀ j u, news[j]? = some u → ∃ b o, ao = some ⟨b, o, none⟩ ∧ w.cell? ⟨b, o + j, none⟩ = some u) ∧ ∀ u ∈ news, u.oneCell' = true
theorem SliceOf.src {w : World} {v : Value} {l : List Int} (h : Ints w v l) : SrcRow w 1 v l.length (ints l) := by
  obtain ⟨ao, n, cap, rfl, rfl, h1, h2, h3, hr⟩ := h
  refine ⟨ao, cap, rfl, fun e => ⟨h3 e, by have := h3 e; omega⟩, by simp, fun j u hu => ?_, fun u hu => by obtain ⟨x, _, rfl⟩ := List.mem_map.1 hu; rfl⟩
  rw [List.getElem?_map] at hu
  cases hj : l[j]? with
  | none => simp [hj] at hu
  | some a =>
    obtain ⟨b, o, u', hao, ⟨rfl, _⟩, _, hc⟩ := hr j a hj
    simp [hj] at hu
    subst hu
    have : w.cell? ⟨b, o + j * 1 + 0, none⟩ = some (.int .i64 a) := hc 0 _ rfl
    exact ⟨b, o, hao, by simpa using this⟩
theorem wpList_append_row {P : Program} {w : World} {ops : Array Oper} {rest : List Oper} {o : Oper} {a : Act} {Q : Exit → Act → World → Prop} (hgd : o.guard = none) (s x : Operand) (t : TypeId)
    (ho : o.op = .call { callee := .builtin .append, args := #[s, x], argTypes := #[t, t] })
    (base : Nat) (e : TypeId) (z : Value) (size bytes : Nat) (ht : P.underlying t = some (.slice e)) (hi : (P.info? e).map (fun i => (i.zero, i.size, i.bytes)) = some (some z, size, bytes))
    (hzs : z.cells.size = size) (hsz : 0 < size)
    (v : Value) (n : Nat) (xs : List Value) (hs : a.eval s = v) (hown : w.ownsRow base e size v n xs)
    (vx : Value) (m : Nat) (news : List Value) (hx : a.eval x = vx) (hsrc : SrcRow w size vx m news)
    (h63 : n + m ≤ maxLen) (hbytes : (n + m) * bytes ≤ 140737488355328) (hbase : base ≤ w.heap.size)
    (h : ∀ v' w', w'.ownsRow base e size v' (n + m) (xs ++ news) → w.grownBy w' v.ownBlock → (v' = .slice none 0 0 ↔ v = .slice none 0 0 ∧ m = 0) → wpList P ops Q rest (a.put o.dst v') w') : wpList P ops Q (o :: rest) a w := by
  obtain ⟨i, hi1, hi2, hi3, hi4⟩ := info_parts hi
  obtain ⟨ao, c, rfl, hnil, hl, hcells, h1⟩ := hsrc
  cases ao with
  | none =>
    obtain ⟨rfl, rfl⟩ := hnil rfl
    have hnews : news = [] := List.eq_nil_of_length_eq_zero (by simpa using hl)
    subst hnews
    exact wpList_append_own_none hgd s x t ho base e i size ht hi1 v n xs hs hown hx (h v w (by simpa using hown) (World.grownBy.refl _ _) (by simp))
  | some ad =>
    refine wpList_append_own w hgd s x t ho base e i z size bytes ht hi1 hi2 hi3 hi4 hzs hsz v n xs hs hown ad m c news hx hl (fun j u hu => ?_) h1 h63 hbytes hbase h
    obtain ⟨b, o', hao, hc⟩ := hcells j u hu
    cases hao
    rw [Addr.add_lit]
    exact hc
theorem of_wanted {c : Prop} [Decidable c] {A E : Prop} (hc : c) (h : if c then A else E) : A := by rwa [if_pos hc] at h
theorem ownsRow_splice {w : World} {base : Nat} {e : TypeId} {g n cap : Nat} {xs : List Value} (hown : w.ownsRow base e 1 (.slice (some ⟨g, 0, none⟩) n cap) n xs) :
    ∃ cur : List Value, w.heap[g]? = some (.cells cur.toArray e (0, 0)) ∧ n ≤ cur.length ∧ base ≤ g ∧ ∀ (w' : World) (cs : List Value) (off : Nat), off + cs.length ≤ n →
      w'.heap[g]? = some (.cells (splice cur off cs).toArray e (0, 0)) → w'.ownsRow base e 1 (.slice (some ⟨g, 0, none⟩) n cap) n (splice xs off cs) := by
  obtain ⟨hl, h⟩ := hown
  rcases h with ⟨hv, _⟩ | ⟨g', cap', cur, hv, hb, hg, h1, h2, h3, h4⟩
  · cases hv
  · cases hv
    have hcl : cur.toList.length = cap := by simpa using h3
    have hx : cur.toList.take n = xs := by simpa using h4
    refine ⟨cur.toList, by simpa using hg, by omega, hb, fun w' cs off hoff hw' => ⟨?_, .inr ⟨g, cap, _, rfl, hb, hw', h1, h2, ?_, ?_⟩⟩⟩
    · simp only [splice, List.length_append, List.length_take, List.length_drop]
      omega
    · simp only [splice, List.size_toArray, List.length_append, List.length_take, List.length_drop]
      omega
    · have hxl : xs.length = n := by simpa using hl
      have e : splice cur.toList off cs = splice xs off cs ++ cur.toList.drop n := by
        have hc : cur.toList = xs ++ cur.toList.drop n := by rw [← hx]; exact (List.take_append_drop n _).symm
        generalize cur.toList.drop n = rest at hc ⊢
        rw [hc]
        simp only [splice]
        rw [List.take_append_of_le_length (by omega), List.drop_append_of_le_length (by omega)]
        simp only [List.append_assoc]
      have hsl : (splice xs off cs).length = n := by rw [length_splice _ _ _ (by omega)]; exact hxl
      rw [Nat.mul_one]
      show (splice cur.toList off cs).take n = _
      rw [e, List.take_append_of_le_length (by omega), List.take_of_length_le (by omega)]
theorem ownsRow_block {w : World} {base : Nat} {e : TypeId} {s : Nat} {n0 : Nat} {xs : List Value} {ao : Option Addr} {n cap : Nat} (h : w.ownsRow base e s (.slice ao n cap) n0 xs) : ∀ b o sp, ao = some ⟨b, o, sp⟩ → base ≤ b := by
  intro b o sp hao
  rcases h.2 with ⟨hv, _⟩ | ⟨g, cap', cur, hv, hb, _⟩
  · cases hv; cases hao
  · cases hv; cases hao; exact hb
theorem SliceOf.setOther {w : World} {ao : Option Addr} {n cap : Nat} {l : List Int} (h : Ints w (.slice ao n cap) l) {p : Addr} (u : Value) (hp : ∀ b o, ao = some ⟨b, o, none⟩ → b ≠ p.block) : Ints (w.setCell p u) (.slice ao n cap) l := by
  obtain ⟨ao', n', cap', hv, hn, h1, h2, h3, hr⟩ := h
  cases hv
  refine ⟨ao, n, cap, rfl, hn, h1, h2, h3, fun q a hq => ?_⟩
  obtain ⟨b, o, x, hao, hx, hs, hc⟩ := hr q a hq
  refine ⟨b, o, x, hao, hx, hs, fun j c hj => ?_⟩
  rw [World.cell?_setCell_other _ _ _ _ (fun e => hp b o hao (by rw [e]))]
  exact hc j c hj
theorem SliceOf.drew {w : World} {v : Value} {l : List Int} (h : Ints w v l) : Ints w.drew v l := h
theorem wp_copy {P : Program} {o : Oper} {a : Act} {w : World} {K : Act → World → Prop} {Q : Exit → Act → World → Prop} (hgd : o.guard = none) (d s : Operand) (dT sT : TypeId)
    (ho : o.op = .call { callee := .builtin .copy, args := #[d, s], argTypes := #[dT, sT] }) (elem : TypeId) (hu : P.underlying dT = some (.slice elem)) (hsz : (P.info? elem).map (·.size) = some 1)
    (dp sp : Option Addr) (dLen dCap sLen sCap : Nat) (hd : a.eval d = .slice dp dLen dCap) (hs : a.eval s = .slice sp sLen sCap)
    (g off : Nat) (cur : List Value) (t : TypeId) (hg : w.heap[g]? = some (.cells cur.toArray t (0, 0))) (cs : List Value) (hn : cs.length = Nat.min sLen dLen)
    (hpos : 0 < cs.length → dp = some ⟨g, off, none⟩ ∧ ∃ ad, sp = some ad ∧ ∀ j v, cs[j]? = some v → w.cell? (ad.add j) = some v)
    (hfit : off + cs.length ≤ cur.length) (h1 : ∀ v ∈ cs, v.oneCell' = true) (B : Nat) (w0 : World) (hb : Below B w0 w) (hBg : B ≤ g)
    (h : ∀ w', Hid (w'.heap[g]? = some (.cells (splice cur off cs).toArray t (0, 0))) → Below B w0 w' → K (a.put o.dst (goInt cs.length)) w') : o.wp P a w K Q :=
  of_wanted (by simp [Region.wanted, hgd]) (step_copy_splice (ops := #[]) (E := True) hgd d s dT sT ho elem hu hsz dp sp dLen dCap sLen sCap hd hs g off cur t hg cs hn hpos hfit h1 B w0 hb hBg h)
theorem ownsRow_up {w w' : World} {base : Nat} {e : TypeId} {s : Nat} {v : Value} {n : Nat} {xs : List Value} (h : w.ownsRow base e s v n xs) (hb : Below w.heap.size w w') : w'.ownsRow base e s v n xs := by
  refine ⟨h.1, ?_⟩
  rcases h.2 with h2 | ⟨g, cap, cur, hv, hg, hh, r⟩
  · exact .inl h2
  · exact .inr ⟨g, cap, cur, hv, hg, (hb.block g (Array.getElem?_eq_some_iff.1 hh).1).trans hh, r⟩
theorem splice_set (L : List Int) (z : Int) (hL : 0 < L.length) : (splice (ints L) 1 (ints (L.take (L.length - 1)))).set 0 (.int .i64 z) = ints (z :: L.take (L.length - 1)) := by
  cases L with
  | nil => simp at hL
  | cons x L => simp [splice]; omega
theorem wp_of_list {P : Program} {ops : Array Oper} {o : Oper} {a : Act} {w : World} {K : Act → World → Prop} (hg : o.guard = none) (h : wpList P ops (Only K) [o] a w) : o.wp P a w K (Only K) := by
  unfold wpList at h
  rw [if_pos (by simp [Region.wanted, hg])] at h
  rcases h with h | ⟨_, _, _, hf⟩
  · exact h
  · exact hf.elim
def IntsFrom (B : Nat) (w : World) (v : Value) (l : List Int) : Prop := Ints w v l ∧ ∀ ao n cap b o sp, v = .slice ao n cap → ao = some ⟨b, o, sp⟩ → B ≤ b
theorem IntsFrom.fst {B : Nat} {w : World} {v : Value} {l : List Int} (h : IntsFrom B w v l) : Ints w v l := h.1
theorem IntsFrom.mono {B B' : Nat} {w : World} {v : Value} {l : List Int} (h : IntsFrom B w v l) (hB : B' ≤ B) : IntsFrom B' w v l := ⟨h.1, fun ao n cap b o sp h1 h2 => Nat.le_trans hB (h.2 ao n cap b o sp h1 h2)⟩
theorem IntsFrom.up {B : Nat} {w w' : World} {v : Value} {l : List Int} (h : IntsFrom B w v l) (hb : Below w.heap.size w w') : IntsFrom B w' v l := ⟨SliceOf.up h.1 hb, h.2⟩
theorem IntsFrom.drew {B : Nat} {w : World} {v : Value} {l : List Int} (h : IntsFrom B w v l) : IntsFrom B w.drew v l := h
theorem IntsFrom.setBelow {B : Nat} {w : World} {v : Value} {l : List Int} (h : IntsFrom B w v l) {p : Addr} (hp : p.block < B) (u : Value) : IntsFrom B (w.setCell p u) v l := by
  obtain ⟨h1, h2⟩ := h
  obtain ⟨ao, n, cap, rfl, H, _⟩ := SliceOf.shape h1
  refine ⟨SliceOf.setOther h1 u fun b o e => ?_, h2⟩
  have := h2 ao n cap b o none rfl e
  omega
theorem IntsFrom.ofOwn {w : World} {v : Value} {l : List Int} {base : Nat} {e : TypeId} (hown : w.ownsRow base e 1 v l.length (ints l)) (hb : I64 l) : IntsFrom base w v l :=
  ⟨Ints.ofOwn hown hb, fun ao n cap b o sp hv hao => by subst hv; exact ownsRow_block hown b o sp hao⟩
theorem IntsFrom.nil (B : Nat) (w : World) : IntsFrom B w (.slice none 0 0) [] :=
  ⟨⟨none, 0, 0, rfl, rfl, Nat.le_refl _, by simp [maxLen], fun _ => rfl, fun q a h => by simp at h⟩, fun ao n cap b o sp hv hao => by cases hv; cases hao⟩
theorem IntsFrom.shape {B : Nat} {w : World} {v : Value} {l : List Int} (h : IntsFrom B w v l) : ∃ ao n cap, v = .slice ao n cap ∧ IntsFrom B w (.slice ao n cap) l ∧ Hid (n = l.length) ∧ n ≤ cap ∧ cap ≤ 9223372036854775807 := by
  obtain ⟨ao, n, cap, rfl, H, hn, h1, h2⟩ := SliceOf.shape h.1
  exact ⟨ao, n, cap, rfl, h, hn, h1, h2⟩
theorem IntsFrom.takeV {B : Nat} {w : World} {l : List Int} {ao : Option Addr} {n cap : Nat} (h : IntsFrom B w (.slice ao n cap) l) {k : Nat} (hk : k ≤ n) : IntsFrom B w (.slice ao k cap) (l.take k) :=
  ⟨SliceOf.takeV h.1 hk, fun ao' n' cap' b o sp hv hao => by cases hv; exact h.2 ao n cap b o sp rfl hao⟩
theorem cell_grown' {W X : World} {row : Option Nat} {g : Nat} {v : Value} (h : W.cell? ⟨g, 0, none⟩ = some v) (gr : W.grownBy X row) (hn : ∀ k, row = some k → k ≠ g) : X.cell? ⟨g, 0, none⟩ = some v :=
  (World.cell?_of_block (w := W) (w' := X) (a := ⟨g, 0, none⟩) (gr.block g (World.block_lt_of_cell? W _ h) (fun e => hn g e.symm rfl))).trans h
theorem src_one' {W : World} {g : Nat} {u : Value} (h : W.cell? ⟨g, 0, none⟩ = some u) (h1 : u.oneCell' = true) : SrcRow W 1 (.slice (some ⟨g, 0, none⟩) 1 1) 1 [u] := by
  refine ⟨some ⟨g, 0, none⟩, 1, rfl, (fun e => by cases e), by simp, (fun j x hj => ?_), (fun x hx => ?_)⟩
  · cases j with
    | zero =>
      simp at hj
      subst hj
      exact ⟨g, 0, rfl, h⟩
    | succ j => simp at hj
  · simp at hx
    subst hx
    exact h1
section
variable {P : Program} {w : World} {ops : Array Oper} {rest : List Oper} {o : Oper} {a : Act} {Q : Exit → Act → World → Prop}
theorem wpList_push1 (hgd : o.guard = none) (s x : Operand) (t : TypeId) (ho : o.op = .call { callee := .builtin .append, args := #[s, x], argTypes := #[t, t] })
    (e : TypeId) (z : Value) (bytes : Nat) (ht : P.underlying t = some (.slice e)) (hi : (P.info? e).map (fun i => (i.zero, i.size, i.bytes)) = some (some z, 1, bytes)) (hzs : z.cells.size = 1)
    {B : Nat} {w0 : World} {v : Value} {n g : Nat} {xs : List Value} {u : Value} (hown : w.ownsRow B e 1 v n xs) (hs : a.eval s = v) (hx : a.eval x = .slice (some ⟨g, 0, none⟩) 1 1) (hb : Below B w0 w)
    (hc : w.cell? ⟨g, 0, none⟩ = some u) (h1 : u.oneCell' = true) (hn : (n + 1) * bytes ≤ 140737488355328 ∧ n + 1 ≤ maxLen) (hB : B ≤ w.heap.size)
    (h : ∀ v' w', w'.ownsRow B e 1 v' (n + 1) (xs ++ [u]) → Below B w0 w' → w.grownBy w' v.ownBlock → wpList P ops Q rest (a.put o.dst v') w') : wpList P ops Q (o :: rest) a w :=
  wpList_append_row hgd s x t ho B e z 1 bytes ht hi hzs (by decide) v n xs hs hown _ 1 [u] hx (src_one' hc h1) hn.2 hn.1 hB
    fun v' w' h1 h2 _ => h v' w' h1 (hb.grown h2 hB fun k hk => (hown.lt k hk).1) h2
theorem wpList_pushAll (hgd : o.guard = none) (s x : Operand) (t : TypeId) (ho : o.op = .call { callee := .builtin .append, args := #[s, x], argTypes := #[t, t] })
    (e : TypeId) (z : Value) (ht : P.underlying t = some (.slice e)) (hi : (P.info? e).map (fun i => (i.zero, i.size, i.bytes)) = some (some z, 1, 8)) (hzs : z.cells.size = 1)
    {B : Nat} {w0 : World} {v vx : Value} {n : Nat} {L M : List Int} (hown : w.ownsRow B e 1 v n (ints L)) (hs : a.eval s = v) (hx : a.eval x = vx) (hM : Ints w vx M) (hb : Below B w0 w) (hn : n + M.length ≤ 1000000000000) (hB : B ≤ w.heap.size)
    (h : ∀ v' w', w'.ownsRow B e 1 v' (n + M.length) (ints (L ++ M)) → Below B w0 w' → w.grownBy w' v.ownBlock → wpList P ops Q rest (a.put o.dst v') w') : wpList P ops Q (o :: rest) a w :=
  wpList_append_row hgd s x t ho B e z 1 8 ht hi hzs (by decide) v n (ints L) hs hown _ M.length (ints M) hx hM.src (by simp [maxLen]; omega) (by omega) hB
    fun v' w' h1 h2 _ => h v' w' (by rw [ints, List.map_append]; exact h1) (hb.grown h2 hB fun k hk => (hown.lt k hk).1) h2
end
theorem ownsRow_mono {w : World} {base base' : Nat} {e : TypeId} {s : Nat} {v : Value} {n : Nat} {xs : List Value} (h : w.ownsRow base e s v n xs) (hb : base' ≤ base) : w.ownsRow base' e s v n xs := by
  refine ⟨h.1, ?_⟩
  rcases h.2 with h2 | ⟨g, cap, cur, hv, hg, r⟩
  · exact .inl h2
  · exact .inr ⟨g, cap, cur, hv, Nat.le_trans hb hg, r⟩
theorem ints_snoc {L : List Int} {z : Int} : ints L ++ [.int .i64 z] = ints (L ++ [z]) := by simp [ints]
end Go.Proofs.YtijgcihlodofdaaGreatDoor
namespace Go.Proofs.YtijgcihlodofdaaGreatDoor
open Go.RowKit Go.ChangeMaps Go.MapKept
set_option linter.unusedSimpArgs false
set_option linter.unusedVariables false
set_option maxRecDepth 100000
set_option linter.unusedSectionVars false
structure KeyLaw {κ : Type} [DecidableEq κ] (kt : TypeId) (enc : κ → Value) : Prop where
  check : ∀ (b : Bool) (a : κ) w, (Instr.checkKey b 10000 kt (enc a)).run Tryz.prog w = .ok () w
  bits : ∀ a, Instr.sameBits 10000 (enc a) (enc a) = true
  now : ∃ d, Tryz.prog.underlying kt = some d ∧ ((∀ a b, Instr.sameNow d (enc a) (enc b) = none) ∨ ∀ a b, Instr.sameNow d (enc a) (enc b) = some (decide (a = b)))
  equal : ∀ (a b : κ) w, (Op.equal kt (enc a) (enc b)).run Tryz.prog w = .ok (decide (a = b)) w
section
variable {κ : Type} [DecidableEq κ] {kt : TypeId} {enc : κ → Value}
def findD (a : κ) : List (κ × Value) → Nat → Option (Nat × Value)
  | [], _ => none
  | x :: D, i => if a = x.1 then some (i, x.2) else findD a D (i + 1)
def lookD (a : κ) (D : List (κ × Value)) : Option Value := (findD a D 0).map (·.2)
theorem run_findAsking (K : KeyLaw kt enc) (a : κ) (w : World) : ∀ (es : List MapEntry) (D : List (κ × Value)) (i : Nat), es.map (fun e => (e.key, e.val)) = D.map (fun x => (enc x.1, x.2)) → (Instr.findAsking kt (enc a) es i).run Tryz.prog w = .ok (findD a D i) w
  | [], [], i, _ => by simp [Instr.findAsking, findD]
  | [], _ :: _, _, h => by simp at h
  | _ :: _, [], _, h => by simp at h
  | e :: es, x :: D, i, h => by
    simp only [List.map_cons, List.cons.injEq, Prod.mk.injEq] at h
    obtain ⟨⟨h1, h2⟩, h3⟩ := h
    have ih := run_findAsking K a w es D (i + 1) h3
    simp only [Instr.findAsking, h1, h2, Sem.run_bind, K.equal, Result.andThen_ok, findD]
    by_cases e : a = x.1
    · simp [e]
    · simp [e, ih]
theorem findNow_none {d : TypeDesc} (a : κ) (hn : ∀ a b, Instr.sameNow d (enc a) (enc b) = none) : ∀ (es : List MapEntry) (D : List (κ × Value)) (i : Nat), es.map (fun e => (e.key, e.val)) = D.map (fun x => (enc x.1, x.2)) → Instr.findNow d (enc a) es i = some (findD a D i) ∨ Instr.findNow d (enc a) es i = none
  | [], [], i, _ => .inl (by simp [Instr.findNow, findD])
  | [], _ :: _, _, h => by simp at h
  | _ :: _, [], _, h => by simp at h
  | e :: es, x :: D, i, h => by
    simp only [List.map_cons, List.cons.injEq, Prod.mk.injEq] at h
    exact .inr (by simp [Instr.findNow, h.1.1, hn])
theorem findNow_some {d : TypeDesc} (a : κ) (hn : ∀ a b, Instr.sameNow d (enc a) (enc b) = some (decide (a = b))) : ∀ (es : List MapEntry) (D : List (κ × Value)) (i : Nat), es.map (fun e => (e.key, e.val)) = D.map (fun x => (enc x.1, x.2)) → Instr.findNow d (enc a) es i = some (findD a D i)
  | [], [], i, _ => by simp [Instr.findNow, findD]
  | [], _ :: _, _, h => by simp at h
  | _ :: _, [], _, h => by simp at h
  | e :: es, x :: D, i, h => by
    simp only [List.map_cons, List.cons.injEq, Prod.mk.injEq] at h
    have ih := findNow_some a hn es D (i + 1) h.2
    by_cases e : a = x.1
    · simp [Instr.findNow, h.1.1, h.1.2, hn, findD, e]
    · simp [Instr.findNow, h.1.1, hn, findD, e, ih]
theorem run_findKey (K : KeyLaw kt enc) (a : κ) (w : World) (es : List MapEntry) (D : List (κ × Value)) (h : es.map (fun e => (e.key, e.val)) = D.map (fun x => (enc x.1, x.2))) : (Instr.findKey kt (enc a) es).run Tryz.prog w = .ok (findD a D 0) w := by
  obtain ⟨d, hd, hn⟩ := K.now
  have hu : (Go.underlying kt).run Tryz.prog w = .ok d w := run_underlying hd w
  simp only [Instr.findKey, Sem.run_bind, hu, Result.andThen_ok]
  rcases hn with hn | hn
  · rcases findNow_none a hn es D 0 h with e | e
    · rw [e]; simp
    · rw [e]; exact run_findAsking K a w es D 0 h
  · rw [findNow_some a hn es D 0 h]; simp
def OwnMap (enc : κ → Value) (w : World) (m : Nat) (D : List (κ × Value)) : Prop :=
  ∃ (es : Array MapEntry) (clock : Nat), w.heap[m]? = some (.map es clock) ∧ es.toList.map (fun e => (e.key, e.val)) = D.map (fun x => (enc x.1, x.2)) ∧ (D.map (·.1)).Nodup ∧ (es.toList.map (·.born)).Pairwise (· < ·) ∧ ∀ e ∈ es.toList, e.born < clock
theorem OwnMap.up {w w' : World} {m : Nat} {D : List (κ × Value)} (h : OwnMap enc w m D) (hb : Below w.heap.size w w') : OwnMap enc w' m D := by
  obtain ⟨es, clock, h1, r⟩ := h
  exact ⟨es, clock, (hb.block m (Array.getElem?_eq_some_iff.1 h1).1).trans h1, r⟩
theorem OwnMap.upB {B : Nat} {w w' : World} {m : Nat} {D : List (κ × Value)} (h : OwnMap enc w m D) (hb : Below B w w') (hm : m < B) : OwnMap enc w' m D := by
  obtain ⟨es, clock, h1, r⟩ := h
  exact ⟨es, clock, (hb.block m hm).trans h1, r⟩
theorem OwnMap.lt {w : World} {m : Nat} {D : List (κ × Value)} (h : OwnMap enc w m D) : m < w.heap.size := by
  obtain ⟨es, clock, h1, _⟩ := h
  exact (Array.getElem?_eq_some_iff.1 h1).1
theorem OwnMap.nodup {w : World} {m : Nat} {D : List (κ × Value)} (h : OwnMap enc w m D) : (D.map (·.1)).Nodup := by
  obtain ⟨es, clock, h1, h2, h3, _⟩ := h
  exact h3
theorem OwnMap.made (w : World) : OwnMap enc (w.alloc (.map #[] 0)) w.heap.size ([] : List (κ × Value)) :=
  ⟨#[], 0, (MapKept.heap_alloc w _).1, by simp, by simp, by simp, by simp⟩
def putD (a : κ) (v : Value) : List (κ × Value) → List (κ × Value)
  | [] => [(a, v)]
  | x :: D => if a = x.1 then (a, v) :: D else x :: putD a v D
theorem findD_lt {a : κ} : ∀ {D : List (κ × Value)} {i j : Nat} {v : Value}, findD a D i = some (j, v) → i ≤ j ∧ D[j - i]? = some (a, v)
  | [], i, j, v, h => by simp [findD] at h
  | x :: D, i, j, v, h => by
    unfold findD at h
    split at h
    · rename_i e
      simp at h
      obtain ⟨rfl, rfl⟩ := h
      simp [e]
    · obtain ⟨h1, h2⟩ := findD_lt h
      refine ⟨by omega, ?_⟩
      rw [show j - i = (j - (i + 1)) + 1 from by omega]
      simpa using h2
theorem findD_none {a : κ} : ∀ {D : List (κ × Value)} {i : Nat}, findD a D i = none ↔ a ∉ D.map (·.1)
  | [], i => by simp [findD]
  | x :: D, i => by
    unfold findD
    split
    · rename_i e
      simp [e]
    · rename_i e
      rw [findD_none]
      simp [e]
theorem putD_none {a : κ} {v : Value} : ∀ {D : List (κ × Value)}, a ∉ D.map (·.1) → putD a v D = D ++ [(a, v)]
  | [], _ => rfl
  | x :: D, h => by
    simp only [List.map_cons, List.mem_cons, not_or] at h
    rw [putD, if_neg h.1, putD_none h.2]
    rfl
theorem putD_some {a : κ} {v : Value} : ∀ {D : List (κ × Value)} {i j : Nat} {u : Value}, findD a D i = some (j, u) → putD a v D = D.set (j - i) (a, v)
  | [], i, j, u, h => by simp [findD] at h
  | x :: D, i, j, u, h => by
    have hj := (findD_lt h).1
    unfold findD at h
    rw [putD]
    split at h
    · rename_i e
      simp at h
      obtain ⟨rfl, rfl⟩ := h
      rw [if_pos e]
      simp
    · rename_i e
      have hj2 := (findD_lt h).1
      rw [if_neg e, putD_some h, show j - i = (j - (i + 1)) + 1 from by omega]
      rfl
theorem putD_keys {a : κ} {v : Value} {D : List (κ × Value)} : (putD a v D).map (·.1) = if a ∈ D.map (·.1) then D.map (·.1) else D.map (·.1) ++ [a] := by
  induction D with
  | nil => simp [putD]
  | cons x D ih =>
    rw [putD]
    split
    · rename_i e
      simp [e]
    · rename_i e
      rw [List.map_cons, ih]
      by_cases h : a ∈ D.map (·.1)
      · rw [if_pos h, if_pos (by simp [h])]; simp
      · rw [if_neg h, if_neg (by simp [e]; simpa using h)]; simp
theorem lookD_put {a b : κ} {v : Value} {D : List (κ × Value)} : lookD b (putD a v D) = if b = a then some v else lookD b D := by
  have key : ∀ (D : List (κ × Value)) i, (findD b (putD a v D) i).map (·.2) = if b = a then some v else (findD b D i).map (·.2) := by
    intro D
    induction D with
    | nil => intro i; simp only [putD, findD]; split <;> simp
    | cons x D ih =>
      intro i
      rw [putD]
      split
      · rename_i e
        simp only [findD, ← e]
        split <;> simp_all
      · rename_i e
        simp only [findD]
        split
        · rename_i e2
          have : b ≠ a := fun e3 => e (by rw [← e3, e2])
          simp [this]
        · exact ih (i + 1)
  exact key D 0
theorem lookD_mem {a : κ} {v : Value} {D : List (κ × Value)} (hn : (D.map (·.1)).Nodup) : lookD a D = some v ↔ (a, v) ∈ D := by
  have key : ∀ (D : List (κ × Value)) i, (D.map (·.1)).Nodup → ((findD a D i).map (·.2) = some v ↔ (a, v) ∈ D) := by
    intro D
    induction D with
    | nil => intro i _; simp [findD]
    | cons x D ih =>
      intro i hn
      rw [List.map_cons, List.nodup_cons] at hn
      simp only [findD]
      split
      · rename_i e
        subst e
        simp only [Option.map_some, Option.some.injEq, List.mem_cons]
        constructor
        · rintro rfl; exact .inl rfl
        · rintro (h | h)
          · rw [← h]
          · exact absurd (List.mem_map_of_mem (f := (·.1)) h) hn.1
      · rename_i e
        rw [ih (i + 1) hn.2, List.mem_cons]
        constructor
        · exact .inr
        · rintro (h | h)
          · exact absurd (by rw [← h]) e
          · exact h
  exact key D 0 hn
def lookV (ok : Bool) (z : Value) (r : Option Value) : Value := if ok then .tuple #[r.getD z, .bool r.isSome] else r.getD z
theorem OwnMap.look (K : KeyLaw kt enc) {w : World} {m : Nat} {D : List (κ × Value)} (h : OwnMap enc w m D) {t e : TypeId} {z : Value} (ht : Tryz.prog.underlying t = some (.map kt e)) (hz : ∀ w, (zeroValue e).run Tryz.prog w = .ok z w) (a : κ) (ok : Bool) :
    (Instr.lookup t (.map (some m)) (enc a) ok).run Tryz.prog w = .ok (lookV ok z (lookD a D)) w := by
  obtain ⟨es, clock, h1, h2, _⟩ := h
  have hu : (Go.underlying t).run Tryz.prog w = .ok (.map kt e) w := run_underlying ht w
  have hf := run_findKey K a w es.toList D h2
  simp only [Instr.lookup, Sem.run_bind, hu, Result.andThen_ok, getObj, Sem.run, h1, K.check, hf, Sem.run_pure]
  unfold lookV lookD
  cases findD a D 0 with
  | none => simp only [hz, Sem.run_bind, Result.andThen_ok, Sem.run_pure]; cases ok <;> rfl
  | some x => simp only [Sem.run_pure, Result.andThen_ok]; cases ok <;> rfl
theorem OwnMap.put (K : KeyLaw kt enc) {w : World} {m : Nat} {D : List (κ × Value)} (h : OwnMap enc w m D) {t e : TypeId} (ht : Tryz.prog.underlying t = some (.map kt e)) (a : κ) (v : Value) :
    ∃ w', (Instr.mapUpdate t (.map (some m)) (enc a) v).run Tryz.prog w = .ok () w' ∧ OwnMap enc w' m (putD a v D) ∧ w.grownBy w' (some m) := by
  obtain ⟨es, clock, h1, h2, h3, h4, h5⟩ := h
  have hu : (Go.underlying t).run Tryz.prog w = .ok (.map kt e) w := run_underlying ht w
  have hf := run_findKey K a w es.toList D h2
  have hlt := (Array.getElem?_eq_some_iff.1 h1).1
  have hset : ∀ o, (setObj m o).run Tryz.prog w = .ok () (setBlock w m o) := fun o => by simp [setObj, Sem.run, h1, setBlock]
  have hgr : ∀ o, w.grownBy (setBlock w m o) (some m) := fun o => ⟨rfl, rfl, rfl, by simp [setBlock], fun i _ hi => heap_setBlock_other h1 _ (fun e => hi (by rw [e]))⟩
  cases hfd : findD a D 0 with
  | none =>
    rw [hfd] at hf
    have hn := findD_none.1 hfd
    refine ⟨setBlock w m (.map (es.push { key := enc a, val := v, born := clock }) (clock + 1)), ?_, ⟨_, _, heap_setBlock_same h1 _, ?_, ?_, ?_, ?_⟩, hgr _⟩
    · simp only [Instr.mapUpdate, Sem.run_bind, hu, Result.andThen_ok, getObj, Sem.run, h1, K.check, hf, hset]
    · rw [putD_none hn]
      simp [h2]
    · rw [putD_keys, if_neg hn, List.nodup_append]
      exact ⟨h3, by simp, fun x hx y hy => by simp at hy; subst hy; exact fun e => hn (e ▸ hx)⟩
    · simp only [Array.toList_push, List.map_append, List.map_cons, List.map_nil]
      rw [List.pairwise_append]
      exact ⟨h4, by simp, fun x hx y hy => by
        simp at hy
        subst hy
        obtain ⟨e, he, rfl⟩ := List.mem_map.1 hx
        exact h5 e he⟩
    · intro x hx
      simp at hx
      rcases hx with hx | rfl
      · have := h5 x (by simpa using hx); omega
      · simp
  | some y =>
    obtain ⟨i, u⟩ := y
    rw [hfd] at hf
    obtain ⟨_, hD⟩ := findD_lt hfd
    rw [Nat.sub_zero] at hD
    have hi : i < es.size := by
      have e1 := congrArg List.length h2
      simp at e1
      have := (List.getElem?_eq_some_iff.1 hD).1
      omega
    have he : es[i]? = some es[i] := by simp [hi]
    have hk : es[i].key = enc a := by
      have := congrArg (·[i]?) h2
      simp [hi, hD] at this
      exact this.1
    refine ⟨setBlock w m (.map (es.modify i fun e => { e with key := enc a, val := v }) clock), ?_, ⟨_, _, heap_setBlock_same h1 _, ?_, ?_, ?_, ?_⟩, hgr _⟩
    · simp only [Instr.mapUpdate, Sem.run_bind, hu, Result.andThen_ok, getObj, Sem.run, h1, K.check, hf, he, Option.map_some, Option.getD_some, hk, Instr.keyThatStays, K.bits, if_true, Sem.run_pure, hset]
    · rw [putD_some hfd, Nat.sub_zero]
      apply List.ext_getElem?
      intro j
      have hj := congrArg (·[j]?) h2
      simp only [List.getElem?_map, Array.getElem?_toList] at hj ⊢
      rw [Array.getElem?_modify, List.getElem?_set]
      by_cases e : i = j
      · subst e
        simp [hi, (List.getElem?_eq_some_iff.1 hD).1]
      · rw [if_neg e, if_neg e]
        exact hj
    · rw [putD_keys, if_pos]
      · exact h3
      · exact List.mem_map.2 ⟨_, List.mem_of_getElem? hD, rfl⟩
    · have : (es.modify i fun e => { e with key := enc a, val := v }).toList.map (·.born) = es.toList.map (·.born) := by
        apply List.ext_getElem?
        intro j
        simp only [List.getElem?_map, Array.getElem?_toList, Array.getElem?_modify]
        split
        · rename_i e; subst e; simp [hi]
        · rfl
      rw [this]
      exact h4
    · intro x hx
      obtain ⟨j, hj⟩ := List.mem_iff_getElem?.1 hx
      rw [Array.getElem?_toList, Array.getElem?_modify] at hj
      split at hj
      · rename_i e
        simp at hj
        obtain ⟨y, hy, rfl⟩ := hj
        exact h5 y (List.mem_of_getElem? (by rw [Array.getElem?_toList]; exact hy))
      · exact h5 x (List.mem_of_getElem? (by rw [Array.getElem?_toList]; exact hj))
def RangeM (enc : κ → Value) (w : World) (r m : Nat) (D left : List (κ × Value)) (cur : Option (κ × Value)) : Prop :=
  r ≠ m ∧ ∃ (es : Array MapEntry) (clock : Nat) (seen : Array Nat), w.heap[m]? = some (.map es clock) ∧ es.toList.map (fun e => (e.key, e.val)) = D.map (fun x => (enc x.1, x.2)) ∧ (D.map (·.1)).Nodup ∧ (es.toList.map (·.born)).Pairwise (· < ·) ∧ (∀ e ∈ es.toList, e.born < clock) ∧
    w.heap[r]? = some (.mapIter (some m) clock seen clock) ∧ (leftOf es seen).toList.map (fun e => (e.key, e.val)) = left.map (fun x => (enc x.1, x.2)) ∧ (∀ x, cur = some x → ∃ e ∈ es.toList, ∃ s : Array Nat, seen = s.push e.born ∧ e.key = enc x.1 ∧ e.val = x.2) ∧ ∀ x ∈ left, x ∈ D
theorem RangeM.own {w : World} {r m : Nat} {D left : List (κ × Value)} {cur : Option (κ × Value)} (h : RangeM enc w r m D left cur) : OwnMap enc w m D := by
  obtain ⟨_, es, clock, seen, h1, h2, h3, h4, h5, _⟩ := h
  exact ⟨es, clock, h1, h2, h3, h4, h5⟩
theorem RangeM.sub {w : World} {r m : Nat} {D left : List (κ × Value)} {cur : Option (κ × Value)} (h : RangeM enc w r m D left cur) : ∀ x ∈ left, x ∈ D := by
  obtain ⟨_, es, clock, seen, _, _, _, _, _, _, _, _, h⟩ := h
  exact h
theorem RangeM.up {w w' : World} {r m : Nat} {D left : List (κ × Value)} {cur : Option (κ × Value)} (h : RangeM enc w r m D left cur) (hb : Below w.heap.size w w') : RangeM enc w' r m D left cur := by
  obtain ⟨h0, es, clock, seen, h1, h2, h3, h4, h5, h6, h7⟩ := h
  exact ⟨h0, es, clock, seen, (hb.block m (Array.getElem?_eq_some_iff.1 h1).1).trans h1, h2, h3, h4, h5, (hb.block r (Array.getElem?_eq_some_iff.1 h6).1).trans h6, h7⟩
theorem RangeM.kept {w w' : World} {r m : Nat} {D left : List (κ × Value)} {cur : Option (κ × Value)} (h : RangeM enc w r m D left cur) (h1' : w'.heap[m]? = w.heap[m]?) (h2' : w'.heap[r]? = w.heap[r]?) : RangeM enc w' r m D left cur := by
  obtain ⟨h0, es, clock, seen, h1, h2, h3, h4, h5, h6, h7⟩ := h
  exact ⟨h0, es, clock, seen, h1'.trans h1, h2, h3, h4, h5, h2'.trans h6, h7⟩
theorem RangeM.lt {w : World} {r m : Nat} {D left : List (κ × Value)} {cur : Option (κ × Value)} (h : RangeM enc w r m D left cur) : r < w.heap.size := by
  obtain ⟨h0, es, clock, seen, h1, h2, h3, h4, h5, h6, h7⟩ := h
  exact (Array.getElem?_eq_some_iff.1 h6).1
theorem born_nodup {l : List MapEntry} (h : (l.map (·.born)).Pairwise (· < ·)) : (l.map (·.born)).Nodup := h.imp (fun h => by omega)
theorem OwnMap.range {w : World} {m : Nat} {D : List (κ × Value)} (h : OwnMap enc w m D) {t e : TypeId} (ht : Tryz.prog.underlying t = some (.map kt e)) :
    ∃ o, (Instr.range t (.map (some m))).run Tryz.prog w = .ok (.pointer (some ⟨w.heap.size, 0, none⟩)) (w.alloc o) ∧ RangeM enc (w.alloc o) w.heap.size m D D none := by
  obtain ⟨es, clock, h1, h2, h3, h4, h5⟩ := h
  have hlt := (Array.getElem?_eq_some_iff.1 h1).1
  have hu : (Go.underlying t).run Tryz.prog w = .ok (.map kt e) w := run_underlying ht w
  refine ⟨.mapIter (some m) clock #[] clock, ?_, by omega, es, clock, #[], ?_, h2, h3, h4, h5, (MapKept.heap_alloc w _).1, ?_, (fun x hx => by cases hx), fun x hx => hx⟩
  · simp only [Instr.range, Sem.run_bind, hu, Result.andThen_ok, getObj, Sem.run, h1, Sem.run_pure, newObj]
    rfl
  · exact ((Below.refl w.heap.size w).alloc (Nat.le_refl _) _ |>.block m hlt).trans h1
  · show ((es.filter fun e => !(#[] : Array Nat).contains e.born).toList.map _) = _
    rw [Array.toList_filter, List.filter_eq_self.2 (fun _ _ => by simp)]
    exact h2
theorem filter_drop {l : List MapEntry} (hn : (l.map (·.born)).Nodup) {e : MapEntry} (he : e ∈ l) : ∃ l1 l2, l = l1 ++ e :: l2 ∧ l.filter (fun x => x.born != e.born) = l1 ++ l2 := by
  obtain ⟨l1, l2, rfl⟩ := List.append_of_mem he
  refine ⟨l1, l2, rfl, ?_⟩
  rw [List.map_append, List.map_cons, List.nodup_append] at hn
  obtain ⟨n1, n2, n3⟩ := hn
  rw [List.nodup_cons] at n2
  rw [List.filter_append, List.filter_cons, if_neg (by simp)]
  congr 1
  · rw [List.filter_eq_self]
    intro x hx
    have := n3 _ (List.mem_map_of_mem (f := (·.born)) hx) e.born (by simp)
    simpa using this
  · rw [List.filter_eq_self]
    intro x hx
    have : x.born ≠ e.born := fun h => n2.1 (h ▸ List.mem_map_of_mem (f := (·.born)) hx)
    simpa using this
theorem RangeM.next {w : World} {r m : Nat} {D left : List (κ × Value)} {cur : Option (κ × Value)} (h : RangeM enc w r m D left cur) :
    (left = [] ∧ ∀ ty, (Instr.next (.pointer (some ⟨r, 0, none⟩)) false ty).run Tryz.prog w = .ok (.tuple #[.bool false]) w) ∨
    ∃ l1 x l2 w', left = l1 ++ x :: l2 ∧ (∀ ty, (Instr.next (.pointer (some ⟨r, 0, none⟩)) false ty).run Tryz.prog w = .ok (.tuple #[.bool true, enc x.1, x.2]) w') ∧ RangeM enc w' r m D (l1 ++ l2) (some x) ∧ w.grownBy w' (some r) := by
  obtain ⟨h0, es, clock, seen, h1, h2, h3, h4, h5, h6, h7, h8, h9⟩ := h
  rcases run_next_at w 0 r m clock clock seen es clock h6 h1 h5 (Nat.le_refl _) with ⟨hz, hrun⟩ | ⟨e, he, w1, hw1, hrun⟩
  · refine .inl ⟨?_, fun ty => hrun⟩
    have : (leftOf es seen).toList = [] := by
      have := Array.eq_empty_of_size_eq_zero hz
      rw [this]
    rw [this] at h7
    simpa using h7.symm
  · right
    have hes : e ∈ es.toList := by
      unfold leftOf at he
      simp at he
      simpa using he.1
    have hln : ((leftOf es seen).toList.map (·.born)).Nodup := by
      have : (leftOf es seen).toList.Sublist es.toList := by
        unfold leftOf
        rw [Array.toList_filter]
        exact List.filter_sublist
      exact List.Sublist.nodup (this.map _) (born_nodup h4)
    obtain ⟨e1, e2, hsplit, hdrop⟩ := filter_drop hln he
    have h7' := h7
    rw [hsplit, List.map_append, List.map_cons] at h7'
    obtain ⟨l1, l2', rfl, k1, k2⟩ := List.append_eq_map_iff.1 h7'
    obtain ⟨x, l2, rfl, k3, k4⟩ := List.map_eq_cons_iff.1 k2
    simp only [Prod.mk.injEq] at k3
    have hr1 : w1.heap = w.heap := by rcases hw1 with rfl | rfl <;> rfl
    have g1 : w1.heap[r]? = some (.mapIter (some m) clock seen clock) := by rw [hr1]; exact h6
    have hrlt := (Array.getElem?_eq_some_iff.1 g1).1
    refine ⟨l1, x, l2, setBlock w1 r (.mapIter (some m) clock (seen.push e.born) clock), rfl, fun ty => ?_, ?_, ?_⟩
    · rw [k3.1, k3.2]
      exact hrun
    · refine ⟨h0, es, clock, seen.push e.born, ?_, h2, h3, h4, h5, ?_, ?_, ?_, fun y hy => h9 y ?_⟩
      · show (w1.heap.setIfInBounds r _)[m]? = _
        rw [Array.getElem?_setIfInBounds_ne h0, hr1]
        exact h1
      · show (w1.heap.setIfInBounds r _)[r]? = _
        rw [Array.getElem?_setIfInBounds_self_of_lt hrlt]
      · have : (leftOf es (seen.push e.born)).toList = (leftOf es seen).toList.filter (fun x => x.born != e.born) := by
          unfold leftOf
          rw [Array.toList_filter, Array.toList_filter, List.filter_filter]
          congr 1
          funext y
          rw [Bool.eq_iff_iff]
          simp [Array.mem_push, not_or, and_comm]
        rw [this, hdrop, List.map_append, List.map_append, k1, k4]
      · intro y hy
        cases hy
        exact ⟨e, hes, seen, rfl, k3.1.symm, k3.2.symm⟩
      · rw [List.mem_append] at hy ⊢
        rcases hy with hy | hy
        · exact .inl hy
        · exact .inr (List.mem_cons_of_mem _ hy)
    · rcases hw1 with rfl | rfl
      · exact ⟨rfl, rfl, rfl, by simp [setBlock], fun i _ hi => by
          show (w1.heap.setIfInBounds r _)[i]? = _
          rw [Array.getElem?_setIfInBounds_ne (fun e => hi (by rw [e]))]⟩
      · exact ⟨rfl, rfl, rfl, by simp [setBlock], fun i _ hi => by
          show (w.heap.setIfInBounds r _)[i]? = _
          rw [Array.getElem?_setIfInBounds_ne (fun e => hi (by rw [e]))]⟩
theorem RangeM.entry {w : World} {r m : Nat} {D left : List (κ × Value)} {x : κ × Value} (h : RangeM enc w r m D left (some x)) : (Instr.entry (.pointer (some ⟨r, 0, none⟩))).run Tryz.prog w = .ok (.tuple #[enc x.1, x.2]) w := by
  obtain ⟨h0, es, clock, seen, h1, h2, h3, h4, h5, h6, h7, h8, h9⟩ := h
  obtain ⟨e, he, s, rfl, k1, k2⟩ := h8 x rfl
  rw [← k1, ← k2]
  exact run_entry_at w r m clock s es clock e h6 h1 he (born_nodup h4)
end
def CellsUp (w w' : World) : Prop := (∀ p v, w.cell? p = some v → w'.cell? p = some v) ∧ w.heap.size ≤ w'.heap.size
theorem CellsUp.refl (w : World) : CellsUp w w := ⟨fun _ _ h => h, Nat.le_refl _⟩
theorem CellsUp.trans {a b c : World} (h : CellsUp a b) (h2 : CellsUp b c) : CellsUp a c := ⟨fun p v e => h2.1 p v (h.1 p v e), Nat.le_trans h.2 h2.2⟩
theorem CellsUp.below {a b : World} (h : Below a.heap.size a b) : CellsUp a b := ⟨fun p v e => cell_up e h, h.size⟩
theorem CellsUp.grown {κ : Type} [DecidableEq κ] {enc : κ → Value} {a b : World} {m : Nat} {D : List (κ × Value)} (ho : OwnMap enc a m D) (h : a.grownBy b (some m)) : CellsUp a b := by
  refine ⟨fun p v e => ?_, h.size⟩
  obtain ⟨es, clock, hm, _⟩ := ho
  have hne : p.block ≠ m := fun e2 => by
    unfold World.cell? at e
    rw [e2, hm] at e
    simp at e
  exact (World.cell?_of_block (w := a) (w' := b) (a := p) (h.block p.block (World.block_lt_of_cell? _ _ e) (fun e2 => hne (Option.some.inj e2)))).trans e
theorem SliceOf.upC {α : Type} {s : Nat} {R : World → Value → α → Prop} {w w' : World} {v : Value} {l : List α} (h : SliceOf s R w v l) (hR : ∀ u a, R w u a → R w' u a) (hc : CellsUp w w') : SliceOf s R w' v l := by
  obtain ⟨ao, n, cap, hv, hn, h1, h2, h3, h⟩ := h
  refine ⟨ao, n, cap, hv, hn, h1, h2, h3, fun q a hq => ?_⟩
  obtain ⟨b, o, u, hao, hu, hs, hj⟩ := h q a hq
  exact ⟨b, o, u, hao, hR u a hu, hs, fun j c hjc => hc.1 _ _ (hj j c hjc)⟩
end Go.Proofs.YtijgcihlodofdaaGreatDoor
namespace Go.Proofs.YtijgcihlodofdaaGreatDoor
open Go.RowKit Go.MapKept
set_option linter.unusedSimpArgs false
set_option linter.unusedVariables false
set_option maxRecDepth 100000
def Kept (B : Nat) (w0 w : World) : Prop := ∀ (i : Nat) (c : Array Value) (e : TypeId) (fr : Nat × Nat), i < B → w0.heap[i]? = some (.cells c e fr) → w.heap[i]? = some (.cells c e fr)
theorem Kept.refl (B : Nat) (w : World) : Kept B w w := fun _ _ _ _ _ h => h
theorem Kept.below {B : Nat} {w0 w : World} (h : Below B w0 w) : Kept B w0 w := fun i c e fr hi hg => (h.block i hi).trans hg
theorem Kept.trans {B : Nat} {a b c : World} (h : Kept B a b) (h2 : Kept B b c) : Kept B a c := fun i x e fr hi hg => h2 i x e fr hi (h i x e fr hi hg)
theorem Kept.grown {κ : Type} [DecidableEq κ] {enc : κ → Value} {B : Nat} {a b : World} {m : Nat} {D : List (κ × Value)} (ho : OwnMap enc a m D) (h : a.grownBy b (some m)) : Kept B a b := fun i c e fr hi hg => by
  obtain ⟨es, clock, hm, _⟩ := ho
  have hne : i ≠ m := fun e2 => by rw [e2, hm] at hg; cases hg
  exact (h.block i (Array.getElem?_eq_some_iff.1 hg).1 (fun e2 => hne (Option.some.inj e2))).trans hg
theorem Kept.cell {B : Nat} {w0 w : World} (h : Kept B w0 w) {a : Addr} (ha : a.block < B) {c : Array Value} {e : TypeId} {fr : Nat × Nat} (hg : w0.heap[a.block]? = some (.cells c e fr)) : w.cell? a = w0.cell? a :=
  World.cell?_of_block (w := w0) (w' := w) (a := a) ((h _ c e fr ha hg).trans hg.symm)
namespace RM
section
variable {P : Program} {ops : Array Oper} {md : Region.Mode}
def softOp (P : Program) : Op → Bool
  | .move _ | .assign _ | .pick _ _ _ | .extract _ _ | .field _ _ _ | .index _ _ _ | .indexAddr _ _ _ | .slice _ _ _ _ _ | .unOp _ _ _ => true
  | .fieldAddr s _ _ => sized P s
  | .binOp _ _ _ _ _ | .load _ _ | .nilCheck _ => true
  | .call { callee := .builtin .len, args, .. } => args.size == 1
  | _ => false
def intV : Value → Prop | .int _ _ => True | _ => False
def slV : Value → Prop | .slice _ _ _ => True | .string _ => True | _ => False
def ptrV : Value → Prop | .pointer _ => True | _ => False
def lowV (B : Nat) (w0 : World) : Value → Prop | .pointer (some p) => p.block < B ∧ (w0.cell? p).isSome = true | _ => False
def side (B : Nat) (w0 : World) (ρ : Operand → Value) : Op → Prop
  | .binOp _ _ x y _ => intV (ρ x) ∧ intV (ρ y)
  | .load _ x => lowV B w0 (ρ x)
  | .nilCheck x => ptrV (ρ x)
  | .call { callee := .builtin .len, args, .. } => ∀ x ∈ args.toList, slV (ρ x)
  | _ => True
def hasSide : Op → Bool
  | .binOp _ _ _ _ _ | .load _ _ | .nilCheck _ | .call _ => true
  | _ => false
theorem run_of_blind {e : Sem Value} (h : Blind P e) {w w1 : World} {n : Next} (hr : (do pure (.value (← e)) : Sem Next).run P w = .ok n w1) :
    w1 = w ∧ ∃ v, n = .value v ∧ ∀ w', (do pure (.value (← e)) : Sem Next).run P w' = .ok (.value v) w' := by
  rcases h with ⟨a, ha⟩ | hn
  · simp [ha] at hr
    exact ⟨hr.2.symm, a, hr.1.symm, fun w' => by simp [ha]⟩
  · exfalso
    rw [Sem.run_bind] at hr
    cases hx : e.run P w with
    | ok a w2 => exact hn _ _ _ hx
    | halt x w2 => simp [hx] at hr
theorem load_below {B : Nat} {w0 w w' : World} (h : Kept B w0 w) (h' : Kept B w0 w') {a : Addr} (ha : a.block < B) {c : Array Value} {e : TypeId} {fr : Nat × Nat} (hg : w0.heap[a.block]? = some (.cells c e fr))
    {r : Value} {w1 : World} (hr : (Go.load a).run P w = .ok r w1) : w1 = w ∧ (Go.load a).run P w' = .ok r w' := by
  have e1 : w'.cell? a = w.cell? a := (h'.cell ha hg).trans (h.cell ha hg).symm
  have hblk : w.heap[a.block]? = some (.cells c e fr) := h _ c e fr ha hg
  simp only [Go.load, Sem.run] at hr ⊢
  rw [e1]
  cases hc : w.cell? a with
  | some v => simp only [hc, Result.ok.injEq] at hr ⊢; exact ⟨hr.2.symm, hr.1, trivial⟩
  | none => simp [hc, World.farLoad, hblk] at hr
theorem loadCells_below {B : Nat} {w0 w w' : World} (h : Kept B w0 w) (h' : Kept B w0 w') {a : Addr} (ha : a.block < B) {c : Array Value} {e : TypeId} {fr : Nat × Nat} (hg : w0.heap[a.block]? = some (.cells c e fr)) :
    ∀ (n i : Nat) (acc : Array Value) (r : Array Value) (w1 : World), (loadCellsFrom a i n acc).run P w = .ok r w1 → w1 = w ∧ (loadCellsFrom a i n acc).run P w' = .ok r w' := by
  intro n
  induction n with
  | zero => intro i acc r w1 hr; simp [loadCellsFrom] at hr ⊢; exact ⟨hr.2.symm, hr.1⟩
  | succ n ih =>
    intro i acc r w1 hr
    have hbk : (a.add i).block = a.block := by unfold Addr.add; split <;> rfl
    simp only [loadCellsFrom, Sem.run_bind] at hr ⊢
    cases hx : (Go.load (a.add i)).run P w with
    | ok v w2 =>
      obtain ⟨rfl, hx'⟩ := load_below (P := P) h h' (a := a.add i) (by rw [hbk]; exact ha) (by rw [hbk]; exact hg) hx
      simp only [hx, hx', Result.andThen_ok] at hr ⊢
      exact ih _ _ _ _ hr
    | halt x w2 => simp [hx] at hr
theorem loadAt_below {B : Nat} {w0 w w' : World} (h : Kept B w0 w) (h' : Kept B w0 w') {t : TypeId} {x : Value} (hx : lowV B w0 x) {r : Value} {w1 : World}
    (hr : (Instr.loadAt t x).run P w = .ok r w1) : w1 = w ∧ (Instr.loadAt t x).run P w' = .ok r w' := by
  unfold lowV at hx
  split at hx
  · rename_i a
    obtain ⟨ha, hs⟩ := hx
    obtain ⟨u, hu⟩ := Option.isSome_iff_exists.1 hs
    have : ∃ c e fr, w0.heap[a.block]? = some (.cells c e fr) := by
      unfold World.cell? at hu
      split at hu
      · rename_i c e fr hg; exact ⟨c, e, fr, hg⟩
      · cases hu
    obtain ⟨c, e, fr, hg⟩ := this
    simp only [Instr.loadAt, Instr.sureAddr, loadVar, Sem.run_bind, Sem.run_pure, Result.andThen_ok] at hr ⊢
    rcases Blind.isAgg (P := P) t with ⟨b, hb⟩ | hn
    · simp only [hb, Result.andThen_ok] at hr ⊢
      cases b with
      | true =>
        simp only [if_true, Sem.run_bind] at hr ⊢
        rcases Blind.sizeOf (P := P) t with ⟨n, hn⟩ | hn
        · simp only [hn, Result.andThen_ok, loadCells] at hr ⊢
          cases hl : (loadCellsFrom a 0 n #[]).run P w with
          | ok v w2 =>
            obtain ⟨rfl, hl'⟩ := loadCells_below (P := P) h h' ha hg n 0 #[] v w2 hl
            simp [hl, hl'] at hr ⊢
            exact ⟨hr.2.symm, hr.1⟩
          | halt x w2 => simp [hl] at hr
        · exfalso
          cases hz : (Go.sizeOf t).run P w with
          | ok n w2 => exact hn _ _ _ hz
          | halt x w2 => simp [hz] at hr
      | false =>
        simp only [Bool.false_eq_true, if_false] at hr ⊢
        exact load_below h h' ha hg hr
    · exfalso
      cases hz : (Go.isAgg t).run P w with
      | ok n w2 => exact hn _ _ _ hz
      | halt x w2 => simp [hz] at hr
  · exact hx.elim
theorem soft_stable {B : Nat} {w0 w w' w1 : World} (h : Kept B w0 w) (h' : Kept B w0 w') {ρ : Operand → Value} {o : Oper} (hs : softOp P o.op = true) (hd : side B w0 ρ o.op) {n : Next}
    (hr : (execOp ρ o).run P w = .ok n w1) : w1 = w ∧ ∃ v, n = .value v ∧ (execOp ρ o).run P w' = .ok (.value v) w' := by
  have fin : ∀ {e : Sem Value}, Blind P e → (∀ w, (execOp ρ o).run P w = (do pure (.value (← e)) : Sem Next).run P w) → w1 = w ∧ ∃ v, n = .value v ∧ (execOp ρ o).run P w' = .ok (.value v) w' := fun hb he => by
    rw [he] at hr ⊢
    obtain ⟨e1, v, e2, e3⟩ := run_of_blind hb hr
    exact ⟨e1, v, e2, e3 w'⟩
  obtain ⟨dst, op, type, pos, after, guard⟩ := o
  cases op <;> simp only [softOp, Bool.false_eq_true] at hs <;> simp only [side] at hd
  case move x => simp [execOp] at hr ⊢; exact ⟨hr.2.symm, hr.1.symm⟩
  case assign x => simp [execOp] at hr ⊢; exact ⟨hr.2.symm, hr.1.symm⟩
  case pick c a b =>
    simp only [execOp, Sem.run_bind] at hr ⊢
    rcases Blind.asBool (P := P) (ρ c) with ⟨v, hv⟩ | hn
    · simp [hv] at hr ⊢; exact ⟨hr.2.symm, hr.1.symm⟩
    · exfalso
      cases hz : (Go.asBool (ρ c)).run P w with
      | ok n w2 => exact hn _ _ _ hz
      | halt x w2 => simp [hz] at hr
  case extract => exact fin (Blind.extract _ _) (fun _ => rfl)
  case field => exact fin (Blind.field _ _ _) (fun _ => rfl)
  case index => exact fin (Blind.index _ _ _) (fun _ => rfl)
  case indexAddr => exact fin (Blind.indexAt _ _ _) (fun _ => rfl)
  case slice => exact fin (Blind.sliceAt _ _ _ _ _) (fun _ => rfl)
  case unOp => exact fin (Blind.unary _ _) (fun _ => rfl)
  case fieldAddr s x f => exact fin (Blind.fieldAt s _ f hs) (fun _ => rfl)
  case nilCheck x =>
    simp only [execOp] at hr ⊢
    generalize ρ x = v at *
    cases v <;> simp only [ptrV] at hd
    rename_i p
    cases p with
    | none => exact absurd hr (never_runtimePanic _ _ _ _)
    | some p => simp at hr ⊢; exact ⟨hr.2.symm, hr.1.symm⟩
  case binOp op t x y yt =>
    obtain ⟨hx, hy⟩ := hd
    refine fin (e := do eqGuard op t x y (ρ x) (ρ y); binOp op t (ρ x) (ρ y)) ?_ (fun _ => rfl)
    generalize ρ x = vx at *
    generalize ρ y = vy at *
    cases vx <;> simp only [intV] at hx
    cases vy <;> simp only [intV] at hy
    refine Blind.bind ?_ fun _ => Blind.binInt _ _ _ _ _ _
    unfold eqGuard
    dsimp only
    repeat' (first | exact Blind.pure _ | exact Blind.stuck _ | exact Blind.unsupported _ | exact Blind.boundsPanic _ _ _ _ | exact Blind.runtimePanic _ | exact Blind.underlying _ | exact Blind.sizeOf _ | exact Blind.asIntOf _ | exact Blind.asBool _ | exact Blind.asAgg _ | exact Blind.asAddr _ | exact Blind.sureAddr _ | (refine Blind.bind ?_ (fun _ => ?_)) | split)
  case load t x =>
    simp only [execOp, Sem.run_bind] at hr ⊢
    cases hl : (Instr.loadAt t (ρ x)).run P w with
    | ok v w2 =>
      obtain ⟨rfl, hl'⟩ := loadAt_below (P := P) h h' hd hl
      simp [hl, hl'] at hr ⊢
      exact ⟨hr.2.symm, hr.1.symm⟩
    | halt x w2 => simp [hl] at hr
  case call c =>
    obtain ⟨callee, args, argTypes⟩ := c
    cases callee <;> first | exact absurd hs Bool.false_ne_true | skip
    rename_i b
    cases b <;> first | exact absurd hs Bool.false_ne_true | skip
    have hs : args.size = 1 := by simpa using hs
    have : ∃ x, args = #[x] := by
      have : args.toList.length = 1 := by simpa using hs
      match h : args.toList, this with
      | [x], _ => exact ⟨x, by rw [← Array.toArray_toList (xs := args), h]⟩
    obtain ⟨x, rfl⟩ := this
    have hd' : slV (ρ x) := hd x (by simp)
    clear hd
    refine fin (e := Builtin.len_ argTypes type #[ρ x]) ?_ ?_
    · unfold Builtin.len_
      generalize ρ x = v at *
      cases v <;> simp only [slV] at hd'
      · repeat' (first | exact Blind.pure _ | exact Blind.stuck _ | exact Blind.underlying _ | contradiction | (refine Blind.bind ?_ (fun _ => ?_)) | split)
        all_goals (rename_i hh; simp at hh)
      · repeat' (first | exact Blind.pure _ | exact Blind.stuck _ | exact Blind.underlying _ | contradiction | (refine Blind.bind ?_ (fun _ => ?_)) | split)
        all_goals (rename_i hh; simp at hh)
    · intro w
      simp [execOp, resolve, invoke, builtin]
def Trace (P : Program) (ops : Array Oper) : List Oper → Act → World → Act → World → Prop
  | [], a, w, a', w' => a' = a ∧ w' = w
  | o :: l, a, w, a', w' =>
    if Region.wanted o (yielded ops a.tmps) = true then ∃ n w1 v, (execOp a.eval o).run P w = .ok n w1 ∧ n = .value v ∧ Trace P ops l (a.put o.dst v) w1 a' w'
    else Trace P ops l (a.put o.dst undef) w a' w'
theorem soft_value {ρ : Operand → Value} {o : Oper} (hs : softOp P o.op = true) {w w1 : World} {n : Next} (hr : (execOp ρ o).run P w = .ok n w1) : ∃ v, n = .value v := by
  have gen : ∀ {e : Sem Value}, (do pure (.value (← e)) : Sem Next).run P w = .ok n w1 → ∃ v, n = .value v := fun {e} h => by
    rw [Sem.run_bind] at h
    cases hx : e.run P w with
    | ok a w2 => simp [hx] at h; exact ⟨a, h.1.symm⟩
    | halt x w2 => simp [hx] at h
  obtain ⟨dst, op, type, pos, after, guard⟩ := o
  cases op <;> simp only [softOp, Bool.false_eq_true] at hs
  case move x => simp [execOp] at hr; exact ⟨_, hr.1.symm⟩
  case assign x => simp [execOp] at hr; exact ⟨_, hr.1.symm⟩
  case pick c a b =>
    simp only [execOp] at hr
    exact gen (e := do pure (if ← asBool (ρ c) then ρ a else ρ b)) (by simpa using hr)
  case nilCheck x =>
    simp only [execOp] at hr
    split at hr
    · exact absurd hr (never_runtimePanic _ _ _ _)
    · exact absurd hr (never_runtimePanic _ _ _ _)
    · exact absurd hr (never_runtimePanic _ _ _ _)
    · split at hr
      · exact absurd hr (never_runtimePanic _ _ _ _)
      · rw [Sem.run_bind] at hr
        generalize Sem.run P Go.program w = r1 at hr
        cases r1 with
        | halt x w2 => simp at hr
        | ok a w2 =>
          simp only [Result.andThen_ok, Sem.run_bind] at hr
          generalize Sem.run P _ w2 = r2 at hr
          cases r2 with
          | halt x w2 => simp at hr
          | ok a w2 =>
            simp only [Result.andThen_ok] at hr
            split at hr
            · simp [Go.unsupported] at hr
            · simp at hr; exact ⟨_, hr.1.symm⟩
      · simp at hr; exact ⟨_, hr.1.symm⟩
    · simp at hr; exact ⟨_, hr.1.symm⟩
  case call c =>
    obtain ⟨callee, args, argTypes⟩ := c
    cases callee <;> first | exact absurd hs Bool.false_ne_true | skip
    rename_i b
    cases b <;> first | exact absurd hs Bool.false_ne_true | skip
    exact gen (e := Builtin.len_ argTypes type (args.map ρ)) (by simpa [execOp, resolve, invoke, builtin] using hr)
  all_goals exact gen hr
def Only (K : Act → World → Prop) : Exit → Act → World → Prop
  | .normal, a, w => K a w
  | _, _, _ => False
theorem trace_of_wp {K : Act → World → Prop} : ∀ (l : List Oper) (a : Act) (w : World), (∀ o ∈ l, softOp P o.op = true) → wpList P ops (Only K) l a w → ∃ a' w', K a' w' ∧ Trace P ops l a w a' w' := by
  intro l
  induction l with
  | nil => intro a w _ h; exact ⟨a, w, h, rfl, rfl⟩
  | cons o l ih =>
    intro a w hs h
    unfold wpList at h
    split at h
    · rename_i hw
      rcases h with h | ⟨_, a0, w0, h⟩
      · unfold Oper.wp at h
        cases hr : (execOp a.eval o).run P w with
        | ok n w1 =>
          obtain ⟨v, rfl⟩ := soft_value (hs o (by simp)) hr
          rw [hr] at h
          obtain ⟨a', w', hK, ht⟩ := ih _ _ (fun o' ho' => hs o' (by simp [ho'])) h
          exact ⟨a', w', hK, by unfold Trace; rw [if_pos hw]; exact ⟨_, _, _, hr, rfl, ht⟩⟩
        | halt x w1 =>
          rw [hr] at h
          cases x <;> exact h.elim
      · exact h.elim
    · rename_i hw
      obtain ⟨a', w', hK, ht⟩ := ih _ _ (fun o' ho' => hs o' (by simp [ho'])) h
      exact ⟨a', w', hK, by unfold Trace; rw [if_neg hw]; exact ht⟩
def unwritten (l : List Oper) (t : Tmp) : Bool := l.all fun o => o.dst != some t
theorem eval_put_other {a : Act} {d : Option Tmp} {v : Value} {x : Operand} (h : ∀ t, x = .tmp t → d ≠ some t) : (a.put d v).eval x = a.eval x :=
  Act.eval_put fun t ht e => h t e ht
theorem trace_eval : ∀ (l : List Oper) (a : Act) (w : World) (a' : Act) (w' : World), Trace P ops l a w a' w' → ∀ x, (∀ t, x = .tmp t → unwritten l t = true) → a'.eval x = a.eval x := by
  intro l
  induction l with
  | nil => intro a w a' w' h x _; rw [h.1]
  | cons o l ih =>
    intro a w a' w' h x hx
    have hl : ∀ t, x = .tmp t → unwritten l t = true := fun t ht => by
      have := hx t ht
      simp only [unwritten, List.all_cons, Bool.and_eq_true] at this ⊢
      exact this.2
    have hd : ∀ t, x = .tmp t → o.dst ≠ some t := fun t ht => by
      have := hx t ht
      simp only [unwritten, List.all_cons, Bool.and_eq_true, bne_iff_ne] at this
      exact this.1
    unfold Trace at h
    split at h
    · obtain ⟨n, w1, v, _, _, h⟩ := h
      rw [ih _ _ _ _ h x hl, eval_put_other hd]
    · rw [ih _ _ _ _ h x hl, eval_put_other hd]
def clean (ops : Array Oper) : List Oper → Bool
  | [] => true
  | o :: l => (!hasSide o.op || (o.looksAt ops).all fun t => unwritten (o :: l) t) && clean ops l
def sides (B : Nat) (w0 : World) (ops : Array Oper) (a : Act) : List Oper → Prop
  | [] => True
  | o :: l => (hasSide o.op = true → Region.wanted o (yielded ops a.tmps) = true → side B w0 a.eval o.op) ∧ sides B w0 ops a l
theorem side_congr {B : Nat} {w0 : World} {ρ ρ' : Operand → Value} {op : Op} (h : ∀ x ∈ op.operands, ρ x = ρ' x) (hd : side B w0 ρ op) : side B w0 ρ' op := by
  cases op <;> simp only [side] at hd ⊢
  case binOp => rw [← h _ (by simp [Op.operands]), ← h _ (by simp [Op.operands])]; exact hd
  case load => rw [← h _ (by simp [Op.operands])]; exact hd
  case nilCheck => rw [← h _ (by simp [Op.operands])]; exact hd
  case call c =>
    obtain ⟨callee, args, argTypes⟩ := c
    cases callee <;> first | trivial | skip
    rename_i b
    cases b <;> first | trivial | skip
    have hd' : ∀ x ∈ args.toList, slV (ρ x) := hd
    show ∀ x ∈ args.toList, slV (ρ' x)
    intro x hx
    rw [← h x (by simpa [Op.operands, Call.operands] using hx)]
    exact hd' x hx
def pick (ops : Array Oper) (L : List Nat) : List Oper := L.filterMap (ops[·]?)
def listAll (listed : Array Bool) (L : List Nat) : Array Bool := L.foldl (fun l i => l.setIfInBounds i true) listed
def softChain (P : Program) (md : Region.Mode) (ops : Array Oper) : List Nat → Array Bool → Bool
  | [], _ => true
  | i :: L, listed => (match ops[i]? with | some o => softOp P o.op | none => false) && (Region.ready md ops listed).contains i && Region.free md ops listed i && softChain P md ops L (listed.setIfInBounds i true)
inductive Plan where
  | done
  | stop
  | soft (L : List Nat) (p : Plan)
  | alt (i : Nat) (p q : Plan)
def wpPlan (P : Program) (ops : Array Oper) (B : Nat) (w0 : World) (Q : Exit → Act → World → Prop) : Plan → Act → World → Prop
  | .done, a, w => Q .normal a w
  | .stop, _, _ => True
  | .soft L p, a, w => wpList P ops (Only fun a' w' => sides B w0 ops a' (pick ops L) ∧ wpPlan P ops B w0 Q p a' w') (pick ops L) a w
  | .alt i p q, a, w => wpList P ops (Only fun a' w' => Kept B w0 w' ∧ wpPlan P ops B w0 Q p a' w') (pick ops [i]) a w ∧ wpPlan P ops B w0 Q q a w
def covers (P : Program) (md : Region.Mode) (ops : Array Oper) : Plan → Nat → Array Bool → Option (List Nat) → Bool
  | .done, _, listed, rs => rs.isNone && (Region.ready md ops listed).isEmpty
  | .stop, _, _, rs => match rs with | some r => r.isEmpty | none => false
  | .soft L p, f, listed, rs => rs.isNone && decide (L.length ≤ f) && softChain P md ops L listed && clean ops (pick ops L) && covers P md ops p (f - L.length) (listAll listed L) none
  | .alt i p q, f, listed, rs =>
    decide (0 < f) && (rs.getD (Region.ready md ops listed)).contains i && (Region.ready md ops listed).contains i && covers P md ops p (f - 1) (listed.setIfInBounds i true) none &&
      covers P md ops q f listed (some ((rs.getD (Region.ready md ops listed)).filter (· != i)))
theorem yielded_eq (ops : Array Oper) (tmps : Array Value) (j : Nat) : yielded ops tmps j = match (ops[j]?).bind (·.dst) with | none => none | some t => match tmps.getD t undef with | .bool b => some b | _ => none := by
  unfold yielded
  cases (ops[j]?).bind (·.dst) with
  | none => rfl
  | some t =>
    simp only [Option.bind_some]
    by_cases h : t < tmps.size
    · simp [Array.getD, h]
      split <;> simp_all
    · simp [Array.getD, h, undef]
theorem upon_only {K K' : Act → World → Prop} {o : Oper} {a : Act} {w : World} {N : Act → World → Prop} (h : o.wp P a w N (Only K)) : o.wp P a w N (Only K') := by
  unfold Oper.wp at *
  generalize (execOp a.eval o).run P w = r at *
  cases r with
  | ok n w' =>
    cases n <;> simp only [Oper.upon] at h ⊢ <;> first | exact h | skip
    all_goals exact Calls.mono h fun e w'' he => by cases e <;> first | exact he | exact (he : False).elim | (obtain ⟨_, _, hf⟩ := he; exact (hf : False).elim)
  | halt x w' => cases x <;> simp only [Oper.upon] at h ⊢ <;> exact (h : False).elim
theorem soft_take {B : Nat} {w0 : World} {Q : Exit → Act → World → Prop} (hns : Region.noSelect ops = true) (hQ : ∀ c a a' w, Q (.panic c) a w → Q (.panic c) a' w) {f : Nat} {aE : Act} {wE w : World} (hw : Kept B w0 w) :
    ∀ (L : List Nat) (listed : Array Bool) (a : Act), softChain P md ops L listed = true → clean ops (pick ops L) = true → sides B w0 ops aE (pick ops L) → Trace P ops (pick ops L) a w aE wE →
      (wE = w → wpAnyH P md ops Q (Kept B w0) f (listAll listed L) aE w) → wE = w ∧ wpAnyH P md ops Q (Kept B w0) (f + L.length) listed a w := by
  intro L
  induction L with
  | nil =>
    intro listed a _ _ _ ht hK
    obtain ⟨rfl, rfl⟩ := ht
    exact ⟨rfl, by simpa [listAll] using hK rfl⟩
  | cons i L ih =>
    intro listed a hc hcl hsd ht hK
    simp only [softChain, Bool.and_eq_true] at hc
    obtain ⟨⟨⟨h1, h2⟩, h3⟩, h4⟩ := hc
    cases ho : ops[i]? with
    | none => simp [ho] at h1
    | some o =>
      simp only [ho] at h1
      have hp : pick ops (i :: L) = o :: pick ops L := by simp [pick, ho]
      rw [hp] at hcl hsd ht
      simp only [clean, Bool.and_eq_true] at hcl
      obtain ⟨hc1, hc2⟩ := hcl
      obtain ⟨hs1, hs2⟩ := hsd
      unfold Trace at ht
      have evals : ∀ x ∈ o.op.operands, hasSide o.op = true → aE.eval x = a.eval x := fun x hx hh => by
        simp only [hh, Bool.not_true, Bool.false_or, List.all_eq_true] at hc1
        have hu : ∀ t, x = .tmp t → unwritten (o :: pick ops L) t = true := fun t ht => hc1 t (by
          subst ht
          exact List.mem_append_left _ (List.mem_filterMap.2 ⟨.tmp t, by simpa using hx, rfl⟩))
        refine trace_eval (P := P) (ops := ops) (o :: pick ops L) a w aE wE ?_ x hu
        unfold Trace
        exact ht
      have wants : hasSide o.op = true → Region.wanted o (yielded ops aE.tmps) = Region.wanted o (yielded ops a.tmps) := fun hh => by
        simp only [hh, Bool.not_true, Bool.false_or, List.all_eq_true] at hc1
        unfold Region.wanted
        cases hg : o.guard with
        | none => rfl
        | some gw =>
          obtain ⟨g, want⟩ := gw
          have : yielded ops aE.tmps g = yielded ops a.tmps g := by
            rw [yielded_eq, yielded_eq]
            cases hd : (ops[g]?).bind (·.dst) with
            | none => rfl
            | some t =>
              have hm : t ∈ o.looksAt ops := List.mem_append_right _ (by simp [hg, hd])
              have := trace_eval (P := P) (ops := ops) (o :: pick ops L) a w aE wE (by unfold Trace; exact ht) (.tmp t) (fun t' ht' => by cases ht'; exact hc1 t hm)
              simp only [Act.eval] at this
              simp only [this]
          simp only [this]
      have key : ∀ v w1, YieldsIf P ops (Kept B w0) o v a → w1 = w → Trace P ops (pick ops L) (a.put o.dst v) w1 aE wE → wE = w ∧ wpAnyH P md ops Q (Kept B w0) (f + (L.length + 1)) listed a w := fun v w1 hy e ht => by
        rw [e] at ht
        obtain ⟨e1, hrest⟩ := ih (listed.setIfInBounds i true) (a.put o.dst v) h4 hc2 hs2 ht (fun e => by simpa [listAll] using hK e)
        exact ⟨e1, wpAnyH_take ho hns h3 (by simpa using h2) (fun c a w h => hQ c _ _ w h) hy hw hrest⟩
      by_cases hwt : Region.wanted o (yielded ops a.tmps) = true
      · rw [if_pos hwt] at ht
        obtain ⟨n, w1, v, hr, rfl, ht⟩ := ht
        have hd : side B w0 a.eval o.op := by
          by_cases hh : hasSide o.op = true
          · exact side_congr (fun x hx => evals x hx hh) (hs1 hh (by rw [wants hh]; exact hwt))
          · revert hh
            cases o.op <;> simp [hasSide, side]
        have hst := fun w' (hw' : Kept B w0 w') => soft_stable (P := P) hw hw' h1 hd hr
        have e1 := (hst w hw).1
        refine key v w1 (.inl ⟨hwt, fun w' hw' => ?_⟩) e1 ht
        obtain ⟨_, v', hv', hr'⟩ := hst w' hw'
        cases hv'
        exact hr'
      · rw [if_neg hwt] at ht
        exact key undef w (.inr ⟨by simpa using hwt, rfl⟩) rfl ht
theorem pick_one {i : Nat} {o : Oper} (h : ops[i]? = some o) : pick ops [i] = [o] := by simp [pick, h]
theorem softChain_soft : ∀ (L : List Nat) (listed : Array Bool), softChain P md ops L listed = true → ∀ o ∈ pick ops L, softOp P o.op = true := by
  intro L
  induction L with
  | nil => intro _ _ o ho; simp [pick] at ho
  | cons i L ihL =>
    intro listed hc o ho
    simp only [softChain, Bool.and_eq_true] at hc
    obtain ⟨⟨⟨g1, _⟩, _⟩, g4⟩ := hc
    cases hi : ops[i]? with
    | none => simp [hi] at g1
    | some o' =>
      simp only [hi] at g1
      have hp : pick ops (i :: L) = o' :: pick ops L := by simp [pick, hi]
      rw [hp] at ho
      rcases List.mem_cons.1 ho with rfl | ho
      · exact g1
      · exact ihL _ g4 _ ho
theorem covers_sound {B : Nat} {w0 : World} {Q : Exit → Act → World → Prop} {K : Act → World → Prop} (hQ : Q = Only K) (hns : Region.noSelect ops = true) :
    ∀ (p : Plan) (f : Nat) (listed : Array Bool) (rs : Option (List Nat)) (a : Act) (w : World), covers P md ops p f listed rs = true → Kept B w0 w → wpPlan P ops B w0 Q p a w →
      match rs with
      | none => wpAnyH P md ops Q (Kept B w0) f listed a w
      | some r => ∀ i ∈ r, 0 < f ∧ wpOp P ops Q i (fun a' w' => Kept B w0 w' ∧ wpAnyH P md ops Q (Kept B w0) (f - 1) (listed.setIfInBounds i true) a' w') a w := by
  intro p
  induction p with
  | done =>
    intro f listed rs a w hc hw h
    simp only [covers, Bool.and_eq_true, Option.isNone_iff_eq_none, List.isEmpty_iff] at hc
    obtain ⟨rfl, hr⟩ := hc
    exact wpAnyH_done hr h f
  | stop =>
    intro f listed rs a w hc hw h
    cases rs with
    | none => simp [covers] at hc
    | some r =>
      simp only [covers, List.isEmpty_iff] at hc
      subst hc
      intro i hi
      cases hi
  | soft L p ih =>
    intro f listed rs a w hc hw h
    simp only [covers, Bool.and_eq_true, Option.isNone_iff_eq_none, decide_eq_true_eq] at hc
    obtain ⟨⟨⟨⟨rfl, h2⟩, h3⟩, h4⟩, h5⟩ := hc
    obtain ⟨aE, wE, ⟨hsd, hK⟩, ht⟩ := trace_of_wp _ _ _ (softChain_soft L listed h3) h
    have hl : f - L.length + L.length = f := by omega
    rw [← hl]
    refine (soft_take (P := P) hns (by rw [hQ]; intro c a a' w h; exact h) hw L listed a h3 h4 hsd ht (fun e => ?_)).2
    subst e
    exact ih _ _ none _ _ h5 hw hK
  | alt i p q ihp ihq =>
    intro f listed rs a w hc hw h
    simp only [covers, Bool.and_eq_true, decide_eq_true_eq] at hc
    obtain ⟨⟨⟨⟨h1, h2⟩, h2'⟩, h3⟩, h4⟩ := hc
    obtain ⟨hi, hq⟩ := h
    have here : wpOp P ops Q i (fun a' w' => Kept B w0 w' ∧ wpAnyH P md ops Q (Kept B w0) (f - 1) (listed.setIfInBounds i true) a' w') a w := by
      unfold wpOp
      cases ho : ops[i]? with
      | none => 
        have hm : i ∈ Region.ready md ops listed := by simpa using h2'
        obtain ⟨_, o, ho', _⟩ := mem_ready.1 hm
        rw [ho] at ho'
        cases ho'
      | some o =>
        rw [pick_one ho] at hi
        simp only []
        unfold wpList at hi
        split
        · rename_i hwt
          rw [if_pos hwt] at hi
          rcases hi with hi | ⟨_, _, _, hf⟩
          · rw [hQ]
            refine .inl (upon_only (K := fun a' w' => Kept B w0 w' ∧ wpPlan P ops B w0 Q p a' w') (Oper.wp_mono (fun a' w' hn => ?_) hi))
            obtain ⟨hb, hn⟩ := hn
            have := ihp (f - 1) (listed.setIfInBounds i true) none a' w' h3 hb hn
            exact ⟨hb, hQ ▸ this⟩
          · exact hf.elim
        · rename_i hwt
          rw [if_neg hwt] at hi
          obtain ⟨hb, hn⟩ := hi
          exact ⟨hb, ihp (f - 1) (listed.setIfInBounds i true) none _ _ h3 hb hn⟩
    have rest := ihq f listed _ a w h4 hw hq
    have all : ∀ j ∈ rs.getD (Region.ready md ops listed), 0 < f ∧ wpOp P ops Q j (fun a' w' => Kept B w0 w' ∧ wpAnyH P md ops Q (Kept B w0) (f - 1) (listed.setIfInBounds j true) a' w') a w := by
      intro j hj
      by_cases e : j = i
      · subst e; exact ⟨h1, here⟩
      · exact rest j (List.mem_filter.2 ⟨hj, by simpa using e⟩)
    cases rs with
    | some r => exact all
    | none =>
      simp only [Option.getD_none] at all
      have hne : Region.ready md ops listed ≠ [] := by intro e; rw [e] at h2'; simp at h2'
      have hf : f = (f - 1) + 1 := by omega
      show wpAnyH P md ops Q (Kept B w0) f listed a w
      rw [hf]
      exact wpAnyH_all rfl hne fun j hj => (all j hj).2
theorem only_mk {K : Act → World → Prop} {a : Act} {w : World} (h : K a w) : Only K .normal a w := h
theorem only_imp {Q : Exit → Act → World → Prop} : ∀ e a w, Only (Q .normal) e a w → Q e a w := fun e a w h => by
  cases e <;> first | exact h | exact (h : False).elim
theorem wp_region_plan {id : Nat} {Q : Exit → Act → World → Prop} {a : Act} {w : World} (p : Plan) (B : Nat) (hm : P.follows .mixedOrders = true) (hns : Region.noSelect ops = true)
    (hc : covers P .any ops p ops.size (Array.replicate ops.size false) none = true) (h : wpPlan P ops B w.drew (Only (Q .normal)) p a w.drew) : (Code.region id ops true).wp P Q a w := by
  refine Code.wp_mono only_imp (wp_region_held (S := Kept B w.drew) hm ?_)
  exact covers_sound rfl hns p _ _ none _ _ hc (Kept.refl _ _) h
theorem wpPlan_done {B : Nat} {w0 : World} {Q : Exit → Act → World → Prop} {a : Act} {w : World} (h : Q .normal a w) : wpPlan P ops B w0 (Only (Q .normal)) .done a w := h
theorem wp_region_soft {l : List Oper} {id : Nat} {Q : Exit → Act → World → Prop} {a : Act} {w : World} {aE : Act} {wE : World} (hm : P.follows .mixedOrders = true)
    (hc : (Region.noSelect l.toArray && covers P .any l.toArray (.soft (List.range l.length) .done) l.length (Array.replicate l.length false) none) = true)
    (h : ∀ K : Act → World → Prop, K aE wE → wpList P l.toArray (Only K) l a w.drew) (h1 : sides w.heap.size w.drew l.toArray aE l) (h2 : Q .normal aE wE) : (Code.region id l.toArray true).wp P Q a w := by
  simp only [Bool.and_eq_true] at hc
  have hp : pick l.toArray (List.range l.length) = l := by
    unfold pick
    have : ∀ (k : Nat) (l' : List Oper), (∀ j, l'[j]? = l[k + j]?) → (List.range' k l'.length).filterMap (l.toArray[·]?) = l' := by
      intro k l'
      induction l' generalizing k with
      | nil => intro _; rfl
      | cons o l' ih =>
        intro hk
        have h0 : l.toArray[k]? = some o := by simpa using (hk 0).symm
        simp only [List.length_cons, List.range'_succ, List.filterMap_cons, h0]
        rw [ih (k + 1) (fun j => by have := hk (j + 1); simpa [Nat.add_assoc, Nat.add_comm 1 j] using this)]
    have := this 0 l (fun j => by simp)
    rwa [← List.range_eq_range'] at this
  refine wp_region_plan (.soft (List.range l.length) .done) w.heap.size hm hc.1 (by simpa using hc.2) ?_
  simp only [wpPlan, hp]
  exact h _ ⟨h1, h2⟩
theorem wpPlan_soft {B : Nat} {w0 : World} {Q : Exit → Act → World → Prop} {L : List Nat} {p : Plan} {a : Act} {w : World} {aE : Act} {wE : World}
    (h : ∀ K : Act → World → Prop, K aE wE → wpList P ops (Only K) (pick ops L) a w) (h1 : sides B w0 ops aE (pick ops L)) (h2 : wpPlan P ops B w0 Q p aE wE) : wpPlan P ops B w0 Q (.soft L p) a w :=
  h _ ⟨h1, h2⟩
theorem wpPlan_alt {B : Nat} {w0 : World} {Q : Exit → Act → World → Prop} {i : Nat} {p q : Plan} {a : Act} {w : World} {C : Act → World → Prop}
    (h : wpList P ops (Only C) (pick ops [i]) a w) (hC : ∀ a' w', C a' w' → Kept B w0 w' ∧ wpPlan P ops B w0 Q p a' w') (hq : wpPlan P ops B w0 Q q a w) : wpPlan P ops B w0 Q (.alt i p q) a w := by
  refine ⟨?_, hq⟩
  have : ∀ l a w, wpList P ops (Only C) l a w → wpList P ops (Only fun a' w' => Kept B w0 w' ∧ wpPlan P ops B w0 Q p a' w') l a w := by
    intro l
    induction l with
    | nil => intro a w h; exact hC a w h
    | cons o l ih =>
      intro a w h
      unfold wpList at h ⊢
      split
      · rename_i hw
        rw [if_pos hw] at h
        rcases h with h | ⟨_, _, _, hf⟩
        · exact .inl (upon_only (Oper.wp_mono (fun a' w' h' => ih a' w' h') h))
        · exact hf.elim
      · rename_i hw
        rw [if_neg hw] at h
        exact ih _ _ h
  exact this _ _ _ h
theorem wpPlan_stop {B : Nat} {w0 : World} {Q : Exit → Act → World → Prop} {a : Act} {w : World} : wpPlan P ops B w0 Q .stop a w := trivial
theorem pick_nil : pick ops [] = [] := rfl
theorem pick_cons {i : Nat} {L : List Nat} {o : Oper} (h : ops[i]? = some o) : pick ops (i :: L) = o :: pick ops L := by simp [pick, h]
theorem wpPlan_end {B : Nat} {w0 : World} {Q : Exit → Act → World → Prop} {a : Act} {w : World} (h : Q .normal a w) : wpPlan P ops B w0 (Only (Q .normal)) .done a w := h
theorem wpPlan_skip {B : Nat} {w0 : World} {Q : Exit → Act → World → Prop} {i : Nat} {p : Plan} {a : Act} {w : World} {o : Oper} (ho : ops[i]? = some o) (hw : Region.wanted o (yielded ops a.tmps) = false) (hb : Kept B w0 w)
    (h : wpPlan P ops B w0 Q p (a.put o.dst undef) w) : wpPlan P ops B w0 Q (.alt i p .stop) a w := by
  refine ⟨?_, trivial⟩
  rw [pick_one ho]
  unfold wpList
  rw [if_neg (by rw [hw]; exact Bool.false_ne_true)]
  exact ⟨hb, h⟩
theorem wpPlan_op {B : Nat} {w0 : World} {Q : Exit → Act → World → Prop} {i : Nat} {p q : Plan} {a : Act} {w : World} {o : Oper} (ho : ops[i]? = some o) (hw : Region.wanted o (yielded ops a.tmps) = true)
    (h : ∀ K : Act → World → Prop, (∀ a' w', Kept B w0 w' → wpPlan P ops B w0 Q p a' w' → K a' w') → o.wp P a w K (Only K)) (hq : wpPlan P ops B w0 Q q a w) : wpPlan P ops B w0 Q (.alt i p q) a w := by
  refine ⟨?_, hq⟩
  rw [pick_one ho]
  unfold wpList
  rw [if_pos hw]
  refine .inl ?_
  have := h (fun a' w' => Kept B w0 w' ∧ wpPlan P ops B w0 Q p a' w') fun _ _ h1 h2 => ⟨h1, h2⟩
  exact upon_only this
end
attribute [irreducible] wpPlan
end RM
abbrev Gh := Nat → Option Obj
def Gh.le (g g' : Gh) : Prop := ∀ b o, g b = some o → g' b = some o
theorem Gh.le.refl (g : Gh) : Gh.le g g := fun _ _ h => h
theorem Gh.le.trans {a b c : Gh} (h : Gh.le a b) (k : Gh.le b c) : Gh.le a c := fun i o e => k i o (h i o e)
def Gh.cell (g : Gh) (p : Addr) : Option Value := match g p.block with
  | some (.cells c _ _) => if p.spot.isSome then none else c[p.off]?
  | _ => none
theorem Gh.cell_up {g g' : Gh} (h : Gh.le g g') {p : Addr} {v : Value} (e : g.cell p = some v) : g'.cell p = some v := by
  unfold Gh.cell at e ⊢
  cases hb : g p.block with
  | none => rw [hb] at e; simp at e
  | some o => rw [hb] at e; rw [h _ _ hb]; exact e
def Pers (g : Gh) (w : World) : Prop := ∀ b o, g b = some o → w.heap[b]? = some o
theorem Pers.cell {g : Gh} {w : World} (h : Pers g w) {p : Addr} {v : Value} (e : g.cell p = some v) : w.cell? p = some v := by
  unfold Gh.cell at e
  unfold World.cell?
  cases hb : g p.block with
  | none => rw [hb] at e; simp at e
  | some o => rw [hb] at e; rw [h _ _ hb]; exact e
theorem Pers.lt {g : Gh} {w : World} (h : Pers g w) {b : Nat} {o : Obj} (e : g b = some o) : b < w.heap.size := (Array.getElem?_eq_some_iff.1 (h b o e)).1
def _root_.Go.World.gh (w : World) : Gh := fun b => w.heap[b]?
theorem gh_pers (w : World) : Pers w.gh w := fun _ _ h => h
def _root_.Go.World.ownsAt (w : World) (e : TypeId) (size : Nat) (v : Value) (n : Nat) (xs : List Value) : Prop :=
  xs.length = n * size ∧ ((v = .slice none 0 0 ∧ n = 0) ∨
    ∃ g o cap cur, v = .slice (some ⟨g, o, none⟩) n cap ∧ w.heap[g]? = some (.cells cur e (0, 0)) ∧ n ≤ cap ∧ cap ≤ maxLen ∧ o + cap * size ≤ cur.size ∧ (cur.toList.drop o).take (n * size) = xs)
theorem _root_.Go.World.ownsRow.at {w : World} {base : Nat} {e : TypeId} {size : Nat} {v : Value} {n : Nat} {xs : List Value} (h : w.ownsRow base e size v n xs) : w.ownsAt e size v n xs := by
  refine ⟨h.1, ?_⟩
  rcases h.2 with h1 | ⟨g, cap, cur, h1, _, h2, h3, h4, h5, h6⟩
  · exact .inl h1
  · exact .inr ⟨g, 0, cap, cur, h1, h2, h3, h4, by omega, by rw [List.drop_zero]; exact h6⟩
theorem _root_.Go.World.ownsAt_nil (w : World) (e : TypeId) (size : Nat) : w.ownsAt e size (.slice none 0 0) 0 [] := ⟨by simp, .inl ⟨rfl, rfl⟩⟩
theorem _root_.Go.World.ownsAt.lt {w : World} {e : TypeId} {size : Nat} {v : Value} {n : Nat} {xs : List Value} (h : w.ownsAt e size v n xs) : ∀ k, v.ownBlock = some k → 0 ≤ k ∧ k < w.heap.size := by
  intro k hk
  rcases h.2 with ⟨rfl, _⟩ | ⟨g, o, cap, cur, rfl, hg, _⟩
  · simp [Value.ownBlock] at hk
  · simp [Value.ownBlock] at hk
    subst hk
    exact ⟨Nat.zero_le _, (Array.getElem?_eq_some_iff.1 hg).1⟩
theorem _root_.Go.World.ownsAt.kept {w w' : World} {e : TypeId} {size : Nat} {v : Value} {n : Nat} {xs : List Value} {row : Option Nat} (h : w.ownsAt e size v n xs) (hg : w.grownBy w' row) (hne : v.ownBlock = none ∨ v.ownBlock ≠ row) : w'.ownsAt e size v n xs := by
  refine ⟨h.1, ?_⟩
  rcases h.2 with hn | ⟨g, o, cap, cur, rfl, hgg, rest⟩
  · exact .inl hn
  · refine .inr ⟨g, o, cap, cur, rfl, ?_, rest⟩
    rw [hg.block g (Array.getElem?_eq_some_iff.1 hgg).1 (by simpa [Value.ownBlock] using hne)]
    exact hgg
structure Rd where
  R : Gh → Value → Prop
  mono : ∀ g g' v, Gh.le g g' → R g v → R g' v
structure Rl (α : Type) where
  R : Gh → α → Prop
  mono : ∀ g g' v, Gh.le g g' → R g v → R g' v
def cellV : Value → Prop
  | .agg _ => False
  | .tuple _ => False
  | _ => True
theorem cellV.cells {v : Value} (h : cellV v) : v.cells = #[v] := by cases v <;> first | rfl | exact (h : False).elim
inductive At where
  | v (x : Value)
  | ptr (i off : Nat)
  | own (i : Nat)
  | rd (r : Rd)
  | sl (r : Rd) (n : Nat)
  | pe (r : Rd) (s : Nat)
  | oe (i k s : Nat)
  | fn (f : Nat) (caps : List Nat)
  | bsl (i n : Nat)
  | pptr (i off b : Nat)
  | pown (i : Nat) (x : Value)
  | gs (i k : Nat)
  | ge (i k q s : Nat)
  | vw (i lo m s : Nat)
  | junk
  | opt (i : Nat)
  | pfn (f : Nat) (l : List (Nat × Nat))
inductive SV where
  | one (a : At)
  | agg (l : List At)
inductive SC where
  | sv (s : SV)
  | tup (l : List SV)
def ptrTo (r : Rd) (s : Nat) (g : Gh) (u : Value) : Prop := ∃ b o x, u = .pointer (some ⟨b, o, none⟩) ∧ r.R g x ∧ x.cells.size = s ∧ ∀ j c, x.cells[j]? = some c → g.cell ⟨b, o + j, none⟩ = some c
def gpart (v : Value) (k : Nat) : Value := match v with
  | .tuple us => us.toList.getD k undef
  | _ => undef
def At.raw (g : Gh) (hs : Nat → Value) : At → Value → Prop
  | .v x, u => u = x
  | .ptr i off, u => ∃ b, hs i = .pointer (some ⟨b, 0, none⟩) ∧ u = .pointer (some ⟨b, off, none⟩)
  | .own i, u => u = hs i
  | .rd r, u => r.R g u
  | .sl r n, u => r.R g u ∧ ∃ ao cap, u = .slice ao n cap
  | .pe r s, u => ptrTo r s g u
  | .oe i k s, u => ∃ b o n cap, hs i = .slice (some ⟨b, o, none⟩) n cap ∧ u = .pointer (some ⟨b, o + k * s, none⟩)
  | .fn f caps, u => u = .func (.func f) #[] (caps.map hs).toArray
  | .bsl i n, u => ∃ b, hs i = .pointer (some ⟨b, 0, none⟩) ∧ u = .slice (some ⟨b, 0, none⟩) n n
  | .pptr i off b, u => hs i = .pointer (some ⟨b, 0, none⟩) ∧ u = .pointer (some ⟨b, off, none⟩)
  | .pown i x, u => hs i = x ∧ u = hs i
  | .gs i k, u => u = gpart (hs i) k
  | .ge i k q s, u => ∃ b o n cap, gpart (hs i) k = .slice (some ⟨b, o, none⟩) n cap ∧ u = .pointer (some ⟨b, o + q * s, none⟩)
  | .vw i lo m s, u => ∃ ao cap, u = .slice ao m cap ∧ (ao = none → cap = 0) ∧ (0 < m → ∃ b o n cp, hs i = .slice (some ⟨b, o, none⟩) n cp ∧ ao = some ⟨b, o + lo * s, none⟩)
  | .junk, _ => True
  | .opt i, u => u = .pointer none ∨ ∃ b, hs i = .pointer (some ⟨b, 0, none⟩) ∧ u = .pointer (some ⟨b, 0, none⟩)
  | .pfn f l, u => (∀ p ∈ l, hs p.1 = .pointer (some ⟨p.2, 0, none⟩)) ∧ u = .func (.func f) #[] ((l.map (·.1)).map hs).toArray
def At.ok (g : Gh) (hs : Nat → Value) (a : At) (u : Value) : Prop := a.raw g hs u ∧ (match a with | .junk => True | _ => cellV u)
theorem At.ok_mk {g : Gh} {hs : Nat → Value} {a : At} {u : Value} (h : a.raw g hs u) (hc : cellV u) : a.ok g hs u := ⟨h, by cases a <;> first | trivial | exact hc⟩
def oks (g : Gh) (hs : Nat → Value) : List At → List Value → Prop
  | [], [] => True
  | a :: l, u :: us => a.ok g hs u ∧ cellV u ∧ oks g hs l us
  | _, _ => False
def SV.ok (g : Gh) (hs : Nat → Value) : SV → Value → Prop
  | .one a, u => a.ok g hs u
  | .agg l, u => ∃ cs : List Value, u = .agg cs.toArray ∧ oks g hs l cs
def SV.oks (g : Gh) (hs : Nat → Value) : List SV → List Value → Prop
  | [], [] => True
  | a :: l, u :: us => a.ok g hs u ∧ SV.oks g hs l us
  | _, _ => False
def SC.ok (g : Gh) (hs : Nat → Value) : SC → Value → Prop
  | .sv s, u => s.ok g hs u
  | .tup l, u => ∃ us : List Value, u = .tuple us.toArray ∧ SV.oks g hs l us
def blk : Value → Option Nat
  | .pointer (some a) => some a.block
  | .slice (some a) _ _ => some a.block
  | .map (some m) => some m
  | _ => none
def Blk (v : Value) (b : Nat) : Prop := match v with
  | .tuple us => ∃ u ∈ us.toList, blk u = some b
  | v => blk v = some b
structure Ext where
  R : Gh → (Nat → Option Obj) → Value → Prop
  mono : ∀ g g' H v, Gh.le g g' → R g H v → R g' H v
  same : ∀ g H H' v, (∀ b, Blk v b → H' b = H b) → R g H v → R g H' v
inductive Item where
  | box (cells : List At) (ty : Nat) (fz : Bool)
  | row (ty s : Nat) (r : Rl (List Value)) (n : Nat)
  | map (r : Rl (Array MapEntry × Nat))
  | iter (j : Nat) (r : Nat × Array Nat → Prop)
  | siter (s : ByteArray) (pos : Nat)
  | grid (tyo ty s : Nat) (rows : List (Option (Rl (List Value) × Nat))) (link : Option (Nat × Nat))
  | ext (X : Ext)
  | gone
def Item.fz : Item → Bool
  | .box _ _ fz => fz
  | .gone => true
  | _ => false
theorem Blk.of {v : Value} {b : Nat} (h : blk v = some b) : Blk v b := by
  cases v <;> first | exact h | cases h
theorem Blk.part {v : Value} {k b : Nat} {us : List Value} (h : v = .tuple us.toArray) (hk : k < us.length) (hb : blk (gpart v k) = some b) : Blk v b := by
  subst h
  refine ⟨us.getD k undef, ?_, hb⟩
  simp [hk]
theorem World.ownsAt_same {w w' : World} {e : TypeId} {size : Nat} {v : Value} {n : Nat} {xs : List Value} (h : w.ownsAt e size v n xs) (hb : ∀ b, blk v = some b → w'.heap[b]? = w.heap[b]?) : w'.ownsAt e size v n xs := by
  obtain ⟨h0, h1⟩ := h
  refine ⟨h0, ?_⟩
  rcases h1 with h1 | ⟨gb, of, cap, cur, rfl, h4, h5⟩
  · exact .inl h1
  · exact .inr ⟨gb, of, cap, cur, rfl, (hb gb rfl).trans h4, h5⟩
def Item.ok (g : Gh) (hs : Nat → Value) (w : World) (h : Value) : Item → Prop
  | .box cells ty fz => ∃ b cs, h = .pointer (some ⟨b, 0, none⟩) ∧ oks g hs cells cs ∧ w.heap[b]? = some (.cells cs.toArray ty (0, 0)) ∧ (fz = true → g b = some (.cells cs.toArray ty (0, 0)))
  | .row ty s r n => ∃ cs, w.ownsAt ty s h n cs ∧ r.R g cs
  | .map r => ∃ m es clock, h = .map (some m) ∧ w.heap[m]? = some (.map es clock) ∧ r.R g (es, clock)
  | .iter j r => ∃ rb m clock seen, h = .pointer (some ⟨rb, 0, none⟩) ∧ hs j = .map (some m) ∧ w.heap[rb]? = some (.mapIter (some m) clock seen clock) ∧ r (clock, seen)
  | .siter s pos => ∃ rb, h = .pointer (some ⟨rb, 0, none⟩) ∧ w.heap[rb]? = some (.stringIter s pos)
  | .grid tyo ty s rows link => ∃ us ocs : List Value, h = .tuple us.toArray ∧ us.length = rows.length + 1 ∧ w.ownsAt tyo 1 (gpart h 0) rows.length ocs ∧ (∀ u ∈ ocs, ∃ ao m cap, u = .slice ao m cap) ∧ (∀ p r n, rows[p]? = some (some (r, n)) → ocs[p]? = some (gpart h (p + 1)) ∧ ∃ cs, w.ownsAt ty s (gpart h (p + 1)) n cs ∧ r.R g cs) ∧ (∀ p, rows[p]? = some none → gpart h (p + 1) = .slice none 0 0) ∧ (∀ p k, link = some (p, k) → ocs[p]? = some (hs k)) ∧ ∀ p q b, p < us.length → q < us.length → p ≠ q → blk (gpart h p) = some b → blk (gpart h q) ≠ some b
  | .ext X => X.R g (fun b => w.heap[b]?) h
  | .gone => True
structure St where
  F : List (Nat × SC)
  M : List Item
structure Cfg where
  n : Nat
  w0 : World
  g0 : Gh
  may : Nat → Prop
  dfr : List Deferred
  pan : List PanicEntry → Act → World → Prop
abbrev cfgM (n : Nat) (w : World) (g : Gh) (may : Nat → Prop) : Cfg := ⟨n, w, g, may, [], fun _ _ _ => False⟩
def OnlyP (c : Cfg) (N : Act → World → Prop) : Exit → Act → World → Prop
  | .normal, a, w => N a w
  | .panic ch, a, w => c.pan ch a w
  | _, _, _ => False
structure Base (c : Cfg) (w : World) (g : Gh) : Prop where
  os : w.os = c.w0.os
  tape : w.tape = c.w0.tape
  output : w.output = c.w0.output
  grows : c.w0.heap.size ≤ w.heap.size
  frame : ∀ b, b < c.w0.heap.size → ¬ c.may b → w.heap[b]? = c.w0.heap[b]?
  ghle : Gh.le c.g0 g
  ghnew : ∀ b o, g b = some o → c.g0 b = some o ∨ c.may b ∨ c.w0.heap.size ≤ b
  pers : Pers g w
structure Ok' (c : Cfg) (S : St) (a : Act) (w : World) (g : Gh) (hs : Nat → Value) : Prop where
  size : a.tmps.size = c.n
  defers : a.defers = c.dfr
  base : Base c w g
  slots : ∀ t x, (t, x) ∈ S.F → x.ok g hs (a.tmps.getD t undef)
  items : ∀ (i : Nat) (it : Item), S.M[i]? = some it → it.ok g hs w (hs i)
  sep : ∀ (i j : Nat) (it jt : Item), i ≠ j → S.M[i]? = some it → S.M[j]? = some jt → it.fz = false → jt ≠ .gone → ∀ b, Blk (hs i) b → ¬ Blk (hs j) b
  mine : ∀ (i : Nat) (it : Item), S.M[i]? = some it → it ≠ .gone → ∀ b, Blk (hs i) b → b < w.heap.size ∧ (it.fz = false → (c.may b ∨ c.w0.heap.size ≤ b) ∧ g b = none)
def Ok (c : Cfg) (S : St) (a : Act) (w : World) : Prop := ∃ g hs, Ok' c S a w g hs
structure TI where
  agg : Bool
  st : Bool
  size : Nat
  zero : List Value
  offs : List (Nat × Nat × Bool)
  kind : Option IntKind
  sl : Option Nat
  bytes : Nat
noncomputable def slT (t : Nat) : Option Nat := match Tryz.prog.underlying t with
  | some (.slice e) => some e
  | _ => none
noncomputable def aggT (t : Nat) : Option Bool := (Tryz.prog.underlying t).map fun d => match d with
  | .struct _ => true
  | .array _ _ => true
  | _ => false
noncomputable def stT (t : Nat) : Bool := match Tryz.prog.underlying t with
  | some (.struct _) => true
  | _ => false
noncomputable def kindT (t : Nat) : Option IntKind := match Tryz.prog.underlying t with
  | some (.int k) => some k
  | _ => none
noncomputable def fieldsT (t : Nat) : List (Nat × Nat × Option Bool) := match Tryz.prog.underlying t with
  | some (.struct fs) => fs.toList.map fun f => (f.offset, Tryz.prog.cellsOf f.type, aggT f.type)
  | some (.array n e) => (List.range n).map fun i => (i * Tryz.prog.cellsOf e, Tryz.prog.cellsOf e, aggT e)
  | _ => []
def cellB : Value → Bool
  | .agg _ => false
  | .tuple _ => false
  | _ => true
theorem cellB_iff {v : Value} : cellB v = true ↔ cellV v := by cases v <;> simp [cellB, cellV]
structure TI.ok (t : Nat) (i : TI) : Prop where
  info : (Tryz.prog.info? t).map (fun x => (x.size, x.zero.map (·.cells.toList), x.bytes)) = some (i.size, some i.zero, i.bytes)
  agg : aggT t = some i.agg
  st : stT t = i.st
  offs : fieldsT t = i.offs.map (fun x => (x.1, x.2.1, some x.2.2))
  kind : kindT t = i.kind
  sl : slT t = i.sl
  zc : i.zero.all cellB = true
  zs : i.zero.length = i.size
  one : i.agg = false → i.size = 1
theorem oks_length {g : Gh} {hs : Nat → Value} : ∀ {l : List At} {us : List Value}, oks g hs l us → l.length = us.length
  | [], [], _ => rfl
  | [], _ :: _, h => h.elim
  | _ :: _, [], h => h.elim
  | _ :: l, _ :: us, h => by simp [oks_length h.2.2]
theorem oks_get {g : Gh} {hs : Nat → Value} : ∀ {l : List At} {us : List Value} {j : Nat} {a : At}, oks g hs l us → l[j]? = some a → ∃ u, us[j]? = some u ∧ a.ok g hs u ∧ cellV u
  | [], [], _, _, _, e => by simp at e
  | [], _ :: _, _, _, h, _ => h.elim
  | _ :: _, [], _, _, h, _ => h.elim
  | a :: l, u :: us, 0, b, h, e => by simp at e; subst e; exact ⟨u, rfl, h.1, h.2.1⟩
  | a :: l, u :: us, j + 1, b, h, e => by
    obtain ⟨x, h1, h2⟩ := oks_get (j := j) h.2.2 (by simpa using e)
    exact ⟨x, by simpa using h1, h2⟩
theorem oks_drop {g : Gh} {hs : Nat → Value} : ∀ {l : List At} {us : List Value} (k : Nat), oks g hs l us → oks g hs (l.drop k) (us.drop k)
  | _, _, 0, h => by simpa using h
  | [], [], k + 1, h => by simp [oks]
  | [], _ :: _, _, h => h.elim
  | _ :: _, [], _, h => h.elim
  | _ :: l, _ :: us, k + 1, h => by simpa using oks_drop k h.2.2
theorem oks_take {g : Gh} {hs : Nat → Value} : ∀ {l : List At} {us : List Value} (k : Nat), oks g hs l us → oks g hs (l.take k) (us.take k)
  | _, _, 0, h => by simp [oks]
  | [], [], k + 1, h => by simp [oks]
  | [], _ :: _, _, h => h.elim
  | _ :: _, [], _, h => h.elim
  | _ :: l, _ :: us, k + 1, h => by simpa using ⟨h.1, h.2.1, oks_take k h.2.2⟩
theorem oks_append {g : Gh} {hs : Nat → Value} : ∀ {l l' : List At} {us us' : List Value}, oks g hs l us → oks g hs l' us' → oks g hs (l ++ l') (us ++ us')
  | [], _, [], _, _, h => by simpa using h
  | [], _, _ :: _, _, h, _ => h.elim
  | _ :: _, _, [], _, h, _ => h.elim
  | _ :: l, _, _ :: us, _, h, h' => by simpa using ⟨h.1, h.2.1, oks_append h.2.2 h'⟩
theorem oks_cells {g : Gh} {hs : Nat → Value} {l : List At} {us : List Value} (h : oks g hs l us) : ∀ u ∈ us, cellV u := by
  induction us generalizing l with
  | nil => simp
  | cons u us ih =>
    cases l with
    | nil => exact h.elim
    | cons a l =>
      intro x hx
      rcases List.mem_cons.1 hx with rfl | hx
      · exact h.2.1
      · exact ih h.2.2 x hx
theorem oks_v {g : Gh} {hs : Nat → Value} : ∀ {l : List Value}, l.all cellB = true → oks g hs (l.map .v) l
  | [], _ => trivial
  | x :: l, h => by
    simp at h
    exact ⟨⟨rfl, cellB_iff.1 h.1⟩, cellB_iff.1 h.1, oks_v (by simpa using h.2)⟩
theorem svs_get {g : Gh} {hs : Nat → Value} : ∀ {l : List SV} {us : List Value} {j : Nat} {a : SV}, SV.oks g hs l us → l[j]? = some a → ∃ u, us[j]? = some u ∧ a.ok g hs u
  | [], [], _, _, _, e => by simp at e
  | [], _ :: _, _, _, h, _ => h.elim
  | _ :: _, [], _, _, h, _ => h.elim
  | a :: l, u :: us, 0, b, h, e => by simp at e; subst e; exact ⟨u, rfl, h.1⟩
  | a :: l, u :: us, j + 1, b, h, e => by
    obtain ⟨x, h1, h2⟩ := svs_get (j := j) h.2 (by simpa using e)
    exact ⟨x, by simpa using h1, h2⟩
def look (t : Nat) : List (Nat × SC) → Option SC
  | [] => none
  | (k, x) :: F => match Nat.beq k t with
    | true => some x
    | false => look t F
theorem look_mem {t : Nat} {x : SC} : ∀ {F : List (Nat × SC)}, look t F = some x → (t, x) ∈ F
  | [], h => by simp [look] at h
  | (k, y) :: F, h => by
    unfold look at h
    split at h
    · rename_i e
      have := Nat.eq_of_beq_eq_true e
      simp at h
      subst this h
      simp
    · exact List.mem_cons_of_mem _ (look_mem h)
def St.put (d : Option Nat) (x : SC) (S : St) : St := match d with
  | none => S
  | some d => ⟨(d, x) :: S.F.filter (fun e => !(Nat.beq e.1 d)), S.M⟩
theorem getD_put (a : Act) (d t : Nat) (v : Value) (hd : d < a.tmps.size) : (a.put (some d) v).tmps.getD t undef = if t = d then v else a.tmps.getD t undef := by
  simp only [Act.put, Array.getD_eq_getD_getElem?, Array.getElem?_setIfInBounds]
  by_cases e : d = t
  · subst e; simp [hd]
  · rw [if_neg e, if_neg (Ne.symm e)]
theorem Ok'.put {c : Cfg} {S : St} {a : Act} {w : World} {g : Gh} {hs : Nat → Value} (h : Ok' c S a w g hs) {dst : Option Nat} (hd : ∀ d, dst = some d → d < c.n) {x : SC} {v : Value} (hx : ∀ d, dst = some d → x.ok g hs v) :
    Ok' c (S.put dst x) (a.put dst v) w g hs := by
  cases dst with
  | none => exact h
  | some d =>
    have hd' := hd d rfl
    have hx' := hx d rfl
    refine ⟨by simp [Act.put]; exact h.size, h.defers, h.base, ?_, h.items, h.sep, h.mine⟩
    intro t y hy
    rw [getD_put _ _ _ _ (by rw [h.size]; exact hd')]
    simp only [St.put, List.mem_cons, List.mem_filter] at hy
    rcases hy with hy | ⟨hy, hne⟩
    · simp at hy
      obtain ⟨rfl, rfl⟩ := hy
      rw [if_pos rfl]
      exact hx'
    · have : t ≠ d := fun e => by subst e; simp at hne
      rw [if_neg this]
      exact h.slots t y hy
def evC : Value → Option SC
  | .agg cs => if cs.toList.all cellB then some (.sv (.agg (cs.toList.map .v))) else none
  | .tuple _ => none
  | v => some (.sv (.one (.v v)))
def unpin : Option SC → Option SC
  | some (.sv (.one (.pptr i off _))) => some (.sv (.one (.ptr i off)))
  | some (.sv (.one (.pown i _))) => some (.sv (.one (.own i)))
  | some (.sv (.one (.pfn f l))) => some (.sv (.one (.fn f (l.map (·.1)))))
  | x => x
theorem unpin_ok {g : Gh} {hs : Nat → Value} {r : Option SC} {x : SC} {u : Value} (e : unpin r = some x) (h : ∀ y, r = some y → y.ok g hs u) : x.ok g hs u := by
  unfold unpin at e
  split at e
  · cases e
    obtain ⟨⟨h1, h2⟩, h3⟩ := h _ rfl
    exact ⟨⟨_, h1, h2⟩, h3⟩
  · cases e
    obtain ⟨⟨_, h2⟩, h3⟩ := h _ rfl
    exact ⟨h2, h3⟩
  · cases e
    obtain ⟨⟨_, h2⟩, h3⟩ := h _ rfl
    exact ⟨h2, h3⟩
  · exact h x e
def evX (F : List (Nat × SC)) : Operand → Option SC
  | .tmp t => unpin (look t F)
  | .const v => evC v
  | .func f => some (.sv (.one (.fn f [])))
  | .global _ => none
theorem evC_ok {g : Gh} {hs : Nat → Value} {v : Value} {x : SC} (e : evC v = some x) : x.ok g hs v := by
  cases v <;> simp only [evC] at e <;> first | (cases e; exact ⟨rfl, trivial⟩) | (cases e; done) | skip
  rename_i cs
  split at e
  · rename_i hc
    cases e
    exact ⟨cs.toList, by simp, oks_v hc⟩
  · cases e
theorem evX_ok {c : Cfg} {S : St} {a : Act} {w : World} {g : Gh} {hs : Nat → Value} (h : Ok' c S a w g hs) {o : Operand} {x : SC} (e : evX S.F o = some x) : x.ok g hs (a.eval o) := by
  cases o with
  | tmp t => exact unpin_ok e fun y hy => h.slots t y (look_mem hy)
  | const v => exact evC_ok e
  | func f => cases e; exact ⟨rfl, trivial⟩
  | global _ => cases e
abbrev I (n : Int) : At := .v (.int .i64 n)
abbrev B (b : Bool) : At := .v (.bool b)
def evK (F : List (Nat × SC)) (o : Operand) : Option Value := match evX F o with
  | some (.sv (.one (.v v))) => some v
  | _ => none
theorem evK_ok {c : Cfg} {S : St} {a : Act} {w : World} {g : Gh} {hs : Nat → Value} (h : Ok' c S a w g hs) {o : Operand} {v : Value} (e : evK S.F o = some v) : a.eval o = v := by
  unfold evK at e
  split at e
  · rename_i x hx
    cases e
    exact (evX_ok h hx).1
  · cases e
def bitsI (op : BinOp) (k : IntKind) (x y : Int) : Int := match op with
  | .and => k.wrap (BitVec.ofInt k.bits x &&& BitVec.ofInt k.bits y).toNat
  | .or => k.wrap (BitVec.ofInt k.bits x ||| BitVec.ofInt k.bits y).toNat
  | .xor => k.wrap (BitVec.ofInt k.bits x ^^^ BitVec.ofInt k.bits y).toNat
  | _ => k.wrap (BitVec.ofInt k.bits x &&& ~~~(BitVec.ofInt k.bits y)).toNat
def binI (op : BinOp) (k : IntKind) (x : Int) (k' : IntKind) (y : Int) : Option Value := match op with
  | .shl => match y with
    | .ofNat n => some (.int k (k.wrap (x * 2 ^ (min n k.bits))))
    | .negSucc _ => none
  | .shr => match y with
    | .ofNat n => some (.int k (x.fdiv (2 ^ (min n k.bits))))
    | .negSucc _ => none
  | op => match decide (k = k') with
    | false => none
    | true => match op with
      | .add => some (.int k (k.wrap (x + y)))
      | .sub => some (.int k (k.wrap (x - y)))
      | .mul => some (.int k (k.wrap (x * y)))
      | .quo => match y with
        | .ofNat (n + 1) => some (.int k (k.wrap (x.tdiv (Int.ofNat (n + 1)))))
        | _ => none
      | .rem => match y with
        | .ofNat (n + 1) => some (.int k (x.tmod (Int.ofNat (n + 1))))
        | _ => none
      | .and => some (.int k (bitsI .and k x y))
      | .or => some (.int k (bitsI .or k x y))
      | .xor => some (.int k (bitsI .xor k x y))
      | .andNot => some (.int k (bitsI .andNot k x y))
      | .eql => some (.bool (x == y))
      | .neq => some (.bool (x != y))
      | .lss => some (.bool (decide (x < y)))
      | .leq => some (.bool (decide (x ≤ y)))
      | .gtr => some (.bool (decide (x > y)))
      | .geq => some (.bool (decide (x ≥ y)))
      | _ => none
def binV (op : BinOp) (u v : Value) : Option Value := match u with
  | .int k x => match v with
    | .int k' y => binI op k x k' y
    | _ => none
  | _ => none
theorem run_bin {op : BinOp} {t : Nat} {x y : Operand} {u v r : Value} {P : Program} (w : World) (e : binV op u v = some r) : (do eqGuard op t x y u v; binOp op t u v : Sem Value).run P w = .ok r w := by
  unfold binV at e
  split at e
  case h_2 => cases e
  rename_i k a
  split at e
  case h_2 => cases e
  rename_i k' b
  have hg : (eqGuard op t x y (.int k a) (.int k' b)).run P w = .ok () w := by
    cases op <;> simp [eqGuard]
  rw [Sem.run_bind, hg, Result.andThen_ok]
  by_cases h1 : op = .shl
  · subst h1
    simp only [binI] at e
    split at e
    · cases e
      simp [binOp, Op.shift]
      intro h
      omega
    · cases e
  by_cases h2 : op = .shr
  · subst h2
    simp only [binI] at e
    split at e
    · cases e
      simp [binOp, Op.shift]
      intro h
      omega
    · cases e
  have hk : k = k' := by
    by_cases hk : k = k'
    · exact hk
    · exfalso
      cases op <;> simp [binI, hk] at e h1 h2
  subst hk
  cases op <;> simp [binI] at e h1 h2 <;> first | (subst e; simp [binOp, Op.intArith, Op.intCmp, Op.intBits, bitsI]; done) | skip
  · split at e
    · cases e
      rename_i n
      have : ¬ ((n : Int) + 1 = 0) := by omega
      simp [binOp, Op.intDiv, this]
    · cases e
  · split at e
    · cases e
      rename_i n
      have : ¬ ((n : Int) + 1 = 0) := by omega
      simp [binOp, Op.intDiv, this]
    · cases e
section ti
variable {t : Nat} {i : TI} (h : TI.ok t i)
include h
theorem TI.ok.run_size (w : World) : (sizeOf t).run Tryz.prog w = .ok i.size w := by
  have h1 := h.info
  cases hx : Tryz.prog.info? t with
  | none => rw [hx] at h1; simp at h1
  | some x =>
    rw [hx] at h1
    simp at h1
    simp [sizeOf, typeInfo, Go.program, Sem.run, hx, h1.1]
theorem TI.ok.run_zero : ∃ z : Value, z.cells.toList = i.zero ∧ ∀ w, (zeroValue t).run Tryz.prog w = .ok z w := by
  have h1 := h.info
  cases hx : Tryz.prog.info? t with
  | none => rw [hx] at h1; simp at h1
  | some x =>
    rw [hx] at h1
    simp at h1
    obtain ⟨_, ⟨z, hz, hz2⟩, _⟩ := h1
    exact ⟨z, hz2, fun w => by simp [zeroValue, typeInfo, Go.program, Sem.run, hx, hz]⟩
theorem TI.ok.run_isAgg (w : World) : (isAgg t).run Tryz.prog w = .ok i.agg w := by
  have h1 := h.agg
  unfold aggT at h1
  cases hx : Tryz.prog.underlying t with
  | none => rw [hx] at h1; simp at h1
  | some d =>
    rw [hx] at h1
    simp only [isAgg, Sem.run_bind, run_underlying hx, Result.andThen_ok]
    cases d <;> simp at h1 <;> simp [← h1]
end ti
theorem run_isAgg_of {t : Nat} {b : Bool} (h1 : aggT t = some b) (w : World) : (isAgg t).run Tryz.prog w = .ok b w := by
  unfold aggT at h1
  cases hx : Tryz.prog.underlying t with
  | none => rw [hx] at h1; simp at h1
  | some d =>
    rw [hx] at h1
    simp only [isAgg, Sem.run_bind, run_underlying hx, Result.andThen_ok]
    cases d <;> simp at h1 <;> simp [← h1]
theorem run_sizeOf_of {t s : Nat} (h1 : Tryz.prog.cellsOf t = s + 1) (w : World) : (sizeOf t).run Tryz.prog w = .ok (s + 1) w := by
  unfold Program.cellsOf at h1
  cases hx : Tryz.prog.info? t with
  | none => rw [hx] at h1; simp at h1
  | some x =>
    rw [hx] at h1
    simp at h1
    simp [sizeOf, typeInfo, Go.program, Sem.run, hx, h1]
theorem TI.ok.field {t : Nat} {i : TI} (h : TI.ok t i) (hst : i.st = true) {f fo sz : Nat} {ag : Bool} (hf : i.offs[f]? = some (fo, sz, ag)) :
    ∃ fs x, Tryz.prog.underlying t = some (.struct fs) ∧ fs[f]? = some x ∧ x.offset = fo ∧ Tryz.prog.cellsOf x.type = sz ∧ aggT x.type = some ag := by
  have h1 := h.st
  rw [hst] at h1
  unfold stT at h1
  split at h1
  · rename_i fs hu
    have h2 := h.offs
    unfold fieldsT at h2
    rw [hu] at h2
    simp only at h2
    have h3 := congrArg (·[f]?) h2
    simp [hf] at h3
    obtain ⟨x, hx, e1, e2, e3⟩ := h3
    exact ⟨fs, x, hu, hx, e1, e2, e3⟩
  · cases h1
def partE (l : List At) (off sz : Nat) (ag : Bool) : Option SV := match ag with
  | true => match Nat.beq ((l.drop off).take sz).length sz with
    | true => some (.agg ((l.drop off).take sz))
    | false => none
  | false => match l[off]? with
    | some a => some (.one a)
    | none => none
theorem run_part {t off sz : Nat} {ag : Bool} (h1 : aggT t = some ag) (h2 : Tryz.prog.cellsOf t = sz) (hsz : 0 < sz) {g : Gh} {hs : Nat → Value} {l : List At} {cs : List Value} (hl : oks g hs l cs) {x : SV} (e : partE l off sz ag = some x) (w : World) :
    ∃ v, (part t cs.toArray off).run Tryz.prog w = .ok v w ∧ x.ok g hs v := by
  obtain ⟨s, rfl⟩ : ∃ s, sz = s + 1 := ⟨sz - 1, by omega⟩
  simp only [part, Sem.run_bind, run_isAgg_of h1, Result.andThen_ok]
  cases ag with
  | true =>
    simp only [partE] at e
    split at e
    · cases e
      refine ⟨.agg (cs.toArray.extract off (off + (s + 1))), by simp [run_sizeOf_of h2], ((cs.drop off).take (s + 1)), ?_, oks_take _ (oks_drop _ hl)⟩
      simp [List.extract_eq_take_drop]
    · cases e
  | false =>
    simp only [partE] at e
    split at e
    · rename_i a ha
      cases e
      obtain ⟨u, hu, h3, h4⟩ := oks_get hl ha
      exact ⟨u, by simp [hu], h3⟩
    · cases e
theorem cell_box {w : World} {b : Nat} {cs : List Value} {ty : Nat} {fr : Nat × Nat} (h : w.heap[b]? = some (.cells cs.toArray ty fr)) (o : Nat) : w.cell? ⟨b, o, none⟩ = cs[o]? := by
  unfold World.cell?
  simp [h]
theorem run_loadVar_box {t off : Nat} {i : TI} (ht : TI.ok t i) {w : World} {b : Nat} {cs : List Value} {ty : Nat} {fr : Nat × Nat} (hb : w.heap[b]? = some (.cells cs.toArray ty fr)) {g : Gh} {hs : Nat → Value} {l : List At} (hl : oks g hs l cs) {x : SV} (e : partE l off i.size i.agg = some x) :
    ∃ v, (loadVar t ⟨b, off, none⟩).run Tryz.prog w = .ok v w ∧ x.ok g hs v := by
  simp only [loadVar, Sem.run_bind, ht.run_isAgg, Result.andThen_ok]
  cases hag : i.agg with
  | true =>
    rw [hag] at e
    simp only [partE] at e
    split at e
    · rename_i hle
      have hle := Nat.eq_of_beq_eq_true hle
      cases e
      have ho := oks_take i.size (oks_drop off hl)
      have hlen : ((cs.drop off).take i.size).length = i.size := by rw [← oks_length ho, hle]
      have hrun := run_loadCells_list (P := Tryz.prog) w ⟨b, off, none⟩ ((cs.drop off).take i.size) (fun j v hj => by
        rw [Addr.add_lit, cell_box hb]
        rw [List.getElem?_take] at hj
        split at hj
        · rwa [List.getElem?_drop] at hj
        · cases hj)
      rw [hlen] at hrun
      exact ⟨_, by simp [ht.run_size, hrun], _, rfl, ho⟩
    · cases e
  | false =>
    rw [hag] at e
    simp only [partE] at e
    split at e
    · rename_i a ha
      cases e
      obtain ⟨u, hu, h3, h4⟩ := oks_get hl ha
      refine ⟨u, ?_, h3⟩
      simp [load, Sem.run, cell_box hb, hu]
    · cases e
def fillE (offs : List (Nat × Nat × Bool)) (cells : List At) : List (Nat × List At) → Option (List At)
  | [] => some cells
  | (i, l) :: rest => match offs[i]? with
    | none => none
    | some (off, sz, _) => match Nat.beq l.length sz && Nat.ble (off + l.length) cells.length with
      | true => fillE offs (cells.take off ++ l ++ cells.drop (off + l.length)) rest
      | false => none
theorem set_cells (off : Nat) : ∀ (l : List Value) (cells : List Value) (k : Nat), off + k + l.length ≤ cells.length →
    (l.zipIdx k).foldl (fun (cs : Array Value) (x : Value × Nat) => cs.setIfInBounds (off + x.2) x.1) cells.toArray = (cells.take (off + k) ++ l ++ cells.drop (off + k + l.length)).toArray
  | [], cells, k, h => by simp
  | x :: l, cells, k, h => by
    simp only [List.length_cons] at h
    rw [List.zipIdx_cons, List.foldl_cons, List.setIfInBounds_toArray, set_cells off l (cells.set (off + k) x) (k + 1) (by simp; omega)]
    congr 1
    apply List.ext_getElem?
    intro j
    simp only [List.getElem?_append, List.length_append, List.length_take, List.length_set, List.getElem?_take, List.getElem?_drop, List.getElem?_set, List.length_cons]
    have e1 : min (off + (k + 1)) cells.length = off + k + 1 := by omega
    have e2 : min (off + k) cells.length = off + k := by omega
    rw [e1, e2]
    by_cases c1 : j < off + k
    · simp [c1, show j < off + k + 1 by omega, show j < off + k + 1 + l.length by omega, show j < off + k + (l.length + 1) by omega, show ¬ off + k = j by omega]
      omega
    · by_cases c2 : j = off + k
      · subst c2
        simp [show off + k < off + k + 1 + l.length by omega, show off + k < off + (k + 1) by omega, show off + k < cells.length by omega]
      · by_cases c3 : j < off + k + 1 + l.length
        · simp [c1, c3, show ¬ j < off + k + 1 by omega, show j < off + k + (l.length + 1) by omega]
          rw [show j - (off + k) = (j - (off + k + 1)) + 1 by omega]
          simp
        · simp [c3, show ¬ j < off + k + (l.length + 1) by omega, show off + (k + 1) + l.length + (j - (off + k + 1 + l.length)) = off + k + (l.length + 1) + (j - (off + k + (l.length + 1))) by omega]
          intro h1
          omega
def svCells : SV → List At
  | .one a => [a]
  | .agg l => l
theorem svCells_ok {g : Gh} {hs : Nat → Value} {x : SV} {v : Value} (h : x.ok g hs v) (hj : ∀ a, x = .one a → cellV v) : oks g hs (svCells x) v.cells.toList := by
  cases x with
  | one a =>
    have hc := hj a rfl
    rw [cellV.cells hc]
    exact ⟨h, hc, trivial⟩
  | agg l =>
    obtain ⟨cs, rfl, h⟩ := h
    simpa [Value.cells, svCells] using h
def evP (F : List (Nat × SC)) : List (Nat × Operand) → Option (List (Nat × List At))
  | [] => some []
  | (i, o) :: r => match evX F o with
    | some (.sv (.agg l)) => match evP F r with
      | some rs => some ((i, l) :: rs)
      | none => none
    | some (.sv (.one .junk)) => none
    | some (.sv (.one a)) => match evP F r with
      | some rs => some ((i, [a]) :: rs)
      | none => none
    | _ => none
def PartsOk (g : Gh) (hs : Nat → Value) : List (Nat × List At) → List (Nat × Value) → Prop
  | [], [] => True
  | (i, l) :: r, (j, v) :: r' => i = j ∧ oks g hs l v.cells.toList ∧ PartsOk g hs r r'
  | _, _ => False
theorem evP_ok {c : Cfg} {S : St} {a : Act} {w : World} {g : Gh} {hs : Nat → Value} (h : Ok' c S a w g hs) : ∀ {l : List (Nat × Operand)} {r : List (Nat × List At)}, evP S.F l = some r → PartsOk g hs r (l.map fun x => (x.1, a.eval x.2))
  | [], r, e => by cases e; trivial
  | (i, o) :: l, r, e => by
    unfold evP at e
    split at e
    · rename_i x hx
      split at e
      · rename_i rs hr
        cases e
        exact ⟨rfl, svCells_ok (x := .agg x) (evX_ok h hx) (fun _ h => by cases h), evP_ok h hr⟩
      · cases e
    · cases e
    · rename_i x hne hx
      split at e
      · rename_i rs hr
        cases e
        have hk := evX_ok h hx
        refine ⟨rfl, svCells_ok (x := .one x) hk (fun _ _ => ?_), evP_ok h hr⟩
        have hk2 : x.ok g hs (a.eval o) := hk
        have := hk2.2
        cases x <;> first | exact this | exact absurd rfl hne
      · cases e
    · cases e
theorem fill_ok {g : Gh} {hs : Nat → Value} {offs : List (Nat × Nat × Bool)} {place : Nat → Option (Nat × Nat)} (hp : ∀ i off sz ag, offs[i]? = some (off, sz, ag) → place i = some (off, sz)) :
    ∀ {ps : List (Nat × List At)} {vs : List (Nat × Value)} {cells : List At} {us : List Value} {r : List At}, PartsOk g hs ps vs → oks g hs cells us → fillE offs cells ps = some r → ∃ us', Instr.fill place us.toArray vs = some us'.toArray ∧ oks g hs r us'
  | [], [], cells, us, r, _, hc, e => by cases e; exact ⟨us, rfl, hc⟩
  | [], _ :: _, _, _, _, h, _, _ => h.elim
  | _ :: _, [], _, _, _, h, _, _ => h.elim
  | (i, l) :: ps, (j, v) :: vs, cells, us, r, h, hc, e => by
    obtain ⟨rfl, hl, h⟩ := h
    unfold fillE at e
    split at e
    · cases e
    · rename_i off sz ag ho
      split at e
      · rename_i hb
        obtain ⟨b1, b2⟩ := (Bool.and_eq_true _ _).mp hb
        replace b1 := Nat.eq_of_beq_eq_true b1
        replace b2 := Nat.le_of_ble_eq_true b2
        have l1 := oks_length hl
        have l2 := oks_length hc
        simp only [Array.length_toList] at l1
        unfold Instr.fill
        rw [hp _ _ _ _ ho]
        simp only
        rw [if_neg (by simp; omega)]
        have hset := set_cells off v.cells.toList us 0 (by simp; omega)
        have e3 : Array.foldl (fun (cs : Array Value) (x : Value × Nat) => cs.setIfInBounds (off + x.2) x.1) us.toArray v.cells.zipIdx = (us.take off ++ v.cells.toList ++ us.drop (off + v.cells.toList.length)).toArray := by
          rw [← Array.foldl_toList]
          simpa using hset
        simp only [Array.length_toList] at e3
        rw [e3]
        have hn := oks_append (oks_append (oks_take off hc) hl) (oks_drop (off + l.length) hc)
        rw [l1] at hn e
        exact fill_ok hp h hn e
      · cases e
def At.refs : At → List Nat
  | .ptr i _ => [i]
  | .own i => [i]
  | .oe i _ _ => [i]
  | .fn _ l => l
  | .bsl i _ => [i]
  | .pptr i _ _ => [i]
  | .pown i _ => [i]
  | .opt i => [i]
  | .pfn _ l => l.map (·.1)
  | .gs i _ => [i]
  | .ge i _ _ _ => [i]
  | .vw i _ _ _ => [i]
  | _ => []
theorem At.ok_hs {g : Gh} {hs hs' : Nat → Value} {a : At} {u : Value} (e : ∀ i ∈ a.refs, hs' i = hs i) (h : a.ok g hs u) : a.ok g hs' u := by
  refine ⟨?_, by have := h.2; cases a <;> exact this⟩
  have h1 := h.1
  cases a <;> simp only [At.raw, At.refs] at h1 e ⊢
  case ptr i off => rw [e i (by simp)]; exact h1
  case own i => rw [e i (by simp)]; exact h1
  case oe i k s => rw [e i (by simp)]; exact h1
  case fn f l =>
    rw [h1]
    congr 2
    exact List.map_congr_left fun i hi => (e i hi).symm
  case bsl i n => rw [e i (by simp)]; exact h1
  case pptr i off b => rw [e i (by simp)]; exact h1
  case pown i x => rw [e i (by simp)]; exact h1
  case gs i k => rw [e i (by simp)]; exact h1
  case ge i k q s => rw [e i (by simp)]; exact h1
  case vw i lo m s => rw [e i (by simp)]; exact h1
  case opt i => rw [e i (by simp)]; exact h1
  case pfn f l =>
    refine ⟨fun p hp => (e p.1 (List.mem_map_of_mem hp)).trans (h1.1 p hp), ?_⟩
    rw [h1.2]
    congr 2
    exact List.map_congr_left fun i hi => (e i hi).symm
  all_goals exact h1
def SV.refs : SV → List Nat
  | .one a => a.refs
  | .agg l => l.flatMap At.refs
def SC.refs : SC → List Nat
  | .sv s => s.refs
  | .tup l => l.flatMap SV.refs
theorem oks_hs {g : Gh} {hs hs' : Nat → Value} : ∀ {l : List At} {us : List Value}, (∀ i ∈ l.flatMap At.refs, hs' i = hs i) → oks g hs l us → oks g hs' l us
  | [], [], _, _ => trivial
  | [], _ :: _, _, h => h.elim
  | _ :: _, [], _, h => h.elim
  | a :: l, u :: us, e, h => ⟨At.ok_hs (fun i hi => e i (by simp [hi])) h.1, h.2.1, oks_hs (fun i hi => e i (by rw [List.flatMap_cons, List.mem_append]; exact .inr hi)) h.2.2⟩
theorem SV.ok_hs {g : Gh} {hs hs' : Nat → Value} {a : SV} {u : Value} (e : ∀ i ∈ a.refs, hs' i = hs i) (h : a.ok g hs u) : a.ok g hs' u := by
  cases a with
  | one a => exact At.ok_hs e h
  | agg l =>
    obtain ⟨cs, h1, h2⟩ := h
    exact ⟨cs, h1, oks_hs e h2⟩
theorem svs_hs {g : Gh} {hs hs' : Nat → Value} : ∀ {l : List SV} {us : List Value}, (∀ i ∈ l.flatMap SV.refs, hs' i = hs i) → SV.oks g hs l us → SV.oks g hs' l us
  | [], [], _, _ => trivial
  | [], _ :: _, _, h => h.elim
  | _ :: _, [], _, h => h.elim
  | a :: l, u :: us, e, h => ⟨SV.ok_hs (fun i hi => e i (by simp [hi])) h.1, svs_hs (fun i hi => e i (by rw [List.flatMap_cons, List.mem_append]; exact .inr hi)) h.2⟩
theorem SC.ok_hs {g : Gh} {hs hs' : Nat → Value} {a : SC} {u : Value} (e : ∀ i ∈ a.refs, hs' i = hs i) (h : a.ok g hs u) : a.ok g hs' u := by
  cases a with
  | sv s => exact SV.ok_hs e h
  | tup l =>
    obtain ⟨cs, h1, h2⟩ := h
    exact ⟨cs, h1, svs_hs e h2⟩
def Item.refs : Item → List Nat
  | .box cells _ _ => cells.flatMap At.refs
  | .iter j _ => [j]
  | .grid _ _ _ _ (some (_, k)) => [k]
  | _ => []
theorem Item.ok_hs {g : Gh} {hs hs' : Nat → Value} {w : World} {x : Value} {it : Item} (e : ∀ i ∈ it.refs, hs' i = hs i) (h : it.ok g hs w x) : it.ok g hs' w x := by
  cases it with
  | box cells ty fz =>
    obtain ⟨b, cs, h1, h2, h3⟩ := h
    exact ⟨b, cs, h1, oks_hs e h2, h3⟩
  | row _ _ _ _ => exact h
  | map _ => exact h
  | iter j r =>
    obtain ⟨rb, m, clock, seen, h1, h2, h3⟩ := h
    exact ⟨rb, m, clock, seen, h1, (e j (by simp [Item.refs])).trans h2, h3⟩
  | grid tyo ty s rows link =>
    obtain ⟨us, ocs, h1, h2, h3, h3', h4, h4', hk, h5⟩ := h
    refine ⟨us, ocs, h1, h2, h3, h3', h4, h4', fun p k hl => ?_, h5⟩
    subst hl
    rw [e k (by simp [Item.refs])]
    exact hk p k rfl
  | siter _ _ => exact h
  | ext _ => exact h
  | gone => trivial
def St.refsAll (S : St) (p : Nat → Bool) : Bool := S.F.all (fun x => x.2.refs.all p) && S.M.all (fun it => it.refs.all p)
theorem St.refs_F {S : St} {p : Nat → Bool} (h : S.refsAll p = true) {t : Nat} {x : SC} (hx : (t, x) ∈ S.F) : ∀ i ∈ x.refs, p i = true := by
  simp only [St.refsAll, Bool.and_eq_true, List.all_eq_true] at h
  exact h.1 _ hx
theorem St.refs_M {S : St} {p : Nat → Bool} (h : S.refsAll p = true) {j : Nat} {it : Item} (hx : S.M[j]? = some it) : ∀ i ∈ it.refs, p i = true := by
  simp only [St.refsAll, Bool.and_eq_true, List.all_eq_true] at h
  exact h.2 _ (List.mem_of_getElem? hx)
theorem ownBlock_blk' {v : Value} {b : Nat} (h : v.ownBlock = some b) : blk v = some b := by
  unfold Value.ownBlock at h
  split at h
  · exact h
  · cases h
theorem ownBlock_blk {v : Value} {b : Nat} (h : v.ownBlock = some b) : Blk v b := by
  unfold Value.ownBlock at h
  split at h
  · exact h
  · cases h
theorem Item.kept {g : Gh} {hs : Nat → Value} {w w' : World} {k : Option Nat} (hg : w.grownBy w' k) {x : Value} {it : Item} (hb : ∀ b, Blk x b → b < w.heap.size ∧ some b ≠ k) (h : it.ok g hs w x) : it.ok g hs w' x := by
  cases it with
  | box cells ty fz =>
    obtain ⟨b, cs, rfl, h2, h3, h4⟩ := h
    obtain ⟨h5, h6⟩ := hb b rfl
    exact ⟨b, cs, rfl, h2, (hg.block b h5 h6).trans h3, h4⟩
  | row ty s r n =>
    obtain ⟨cs, h1, h2⟩ := h
    refine ⟨cs, h1.kept hg ?_, h2⟩
    cases hx : x.ownBlock with
    | none => exact .inl rfl
    | some b => exact .inr (by obtain ⟨_, h6⟩ := hb b (ownBlock_blk hx); exact h6)
  | map r =>
    obtain ⟨m, es, clock, rfl, h1, h3⟩ := h
    obtain ⟨h5, h6⟩ := hb m rfl
    exact ⟨m, es, clock, rfl, (hg.block m h5 h6).trans h1, h3⟩
  | iter j r =>
    obtain ⟨rb, m, clock, seen, rfl, h2, h3, h4⟩ := h
    obtain ⟨h5, h6⟩ := hb rb rfl
    exact ⟨rb, m, clock, seen, rfl, h2, (hg.block rb h5 h6).trans h3, h4⟩
  | siter s pos =>
    obtain ⟨rb, rfl, h3⟩ := h
    obtain ⟨h5, h6⟩ := hb rb rfl
    exact ⟨rb, rfl, (hg.block rb h5 h6).trans h3⟩
  | grid tyo ty s rows link =>
    obtain ⟨us, ocs, hx, h2, h3, h3', h4, h4', hk, h5⟩ := h
    have hne : ∀ j, j < us.length → (gpart x j).ownBlock = none ∨ (gpart x j).ownBlock ≠ k := fun j hj => by
      cases he : (gpart x j).ownBlock with
      | none => exact .inl rfl
      | some b => exact .inr (hb b (Blk.part hx hj (ownBlock_blk' he))).2
    exact ⟨us, ocs, hx, h2, h3.kept hg (hne 0 (by omega)), h3', fun p r n hp => by
      obtain ⟨h0, cs, h6, h7⟩ := h4 p r n hp
      have := (List.getElem?_eq_some_iff.1 hp).1
      exact ⟨h0, cs, h6.kept hg (hne (p + 1) (by omega)), h7⟩, h4', hk, h5⟩
  | ext X => exact X.same g _ _ x (fun b e => hg.block b (hb b e).1 (hb b e).2) h
  | gone => trivial
theorem Base.kept {c : Cfg} {w w' : World} {g : Gh} (h : Base c w g) {k : Option Nat} (hg : w.grownBy w' k) (hk : ∀ b, k = some b → (c.may b ∨ c.w0.heap.size ≤ b) ∧ g b = none) : Base c w' g := by
  refine ⟨hg.os.trans h.os, hg.tape.trans h.tape, hg.output.trans h.output, Nat.le_trans h.grows hg.size, fun b hb hm => ?_, h.ghle, h.ghnew, fun b o e => ?_⟩
  · have hne : some b ≠ k := fun e => by
      rcases (hk b e.symm).1 with h1 | h1
      · exact hm h1
      · omega
    exact (hg.block b (Nat.lt_of_lt_of_le hb h.grows) hne).trans (h.frame b hb hm)
  · have hne : some b ≠ k := fun e2 => by
      have := (hk b e2.symm).2
      rw [this] at e
      cases e
    exact (hg.block b (h.pers.lt e) hne).trans (h.pers b o e)
theorem fz_gone {it : Item} (h : it.fz = false) : it ≠ .gone := fun e => by subst e; cases h
section
variable {c : Cfg} {S : St} {a : Act} {w w' : World} {g : Gh} {hs : Nat → Value}
theorem Ok'.grown (h : Ok' c S a w g hs) (hg : w.grownBy w' none) : Ok' c S a w' g hs := by
  refine ⟨h.size, h.defers, h.base.kept hg (fun b e => by cases e), h.slots, fun i it hi => ?_, h.sep, fun i it hi hn b hb => ?_⟩
  · by_cases hn : it = .gone
    · subst hn; trivial
    · exact Item.kept hg (h := h.items i it hi) fun b hb => ⟨(h.mine i it hi hn b hb).1, by simp⟩
  · obtain ⟨h2, h3⟩ := h.mine i it hi hn b hb
    exact ⟨Nat.lt_of_lt_of_le h2 hg.size, h3⟩
theorem Ok'.updK (h : Ok' c S a w g hs) {i : Nat} {it it' : Item} (hi : S.M[i]? = some it) (hf : it.fz = false) (hf' : it'.fz = false) {kb : Option Nat} (hkb : ∀ b, kb = some b → Blk (hs i) b) (hg : w.grownBy w' kb) (ho : it'.ok g hs w' (hs i)) : Ok' c ⟨S.F, S.M.set i it'⟩ a w' g hs := by
  have hlt : i < S.M.length := (List.getElem?_eq_some_iff.1 hi).1
  have hn := fz_gone hf
  have hset : ∀ (j : Nat) (jt : Item), (S.M.set i it')[j]? = some jt → (j = i ∧ jt = it') ∨ (j ≠ i ∧ S.M[j]? = some jt) := fun j jt hj => by
    rw [List.getElem?_set] at hj
    by_cases e : i = j
    · rw [if_pos e] at hj
      rw [if_pos hlt] at hj
      simp at hj
      exact .inl ⟨e.symm, hj.symm⟩
    · rw [if_neg e] at hj; exact .inr ⟨Ne.symm e, hj⟩
  have hold : ∀ (j : Nat) (jt : Item), (S.M.set i it')[j]? = some jt → jt ≠ .gone → ∃ x, S.M[j]? = some x ∧ x ≠ .gone ∧ (jt.fz = false → x.fz = false) := fun j jt hj hnj => by
    rcases hset j jt hj with ⟨rfl, _⟩ | ⟨_, hj⟩
    · exact ⟨it, hi, hn, fun _ => hf⟩
    · exact ⟨jt, hj, hnj, fun h => h⟩
  refine ⟨h.size, h.defers, h.base.kept hg (fun b e => (h.mine i it hi hn b (hkb b e)).2 hf), h.slots, fun j jt hj => ?_, fun j k jt kt hjk hj hk hfj hnk b hb => ?_, fun j jt hj hnj b hb => ?_⟩
  · rcases hset j jt hj with ⟨rfl, rfl⟩ | ⟨hne, hj⟩
    · exact ho
    · by_cases hnj : jt = .gone
      · subst hnj; trivial
      · exact Item.kept hg (h := h.items j jt hj) fun b hb => ⟨(h.mine j jt hj hnj b hb).1, fun e => h.sep i j it jt (Ne.symm hne) hi hj hf hnj b (hkb b e.symm) hb⟩
  · obtain ⟨jt', hj', hnj', hfj'⟩ := hold j jt hj (fz_gone hfj)
    obtain ⟨kt', hk', hnk', _⟩ := hold k kt hk hnk
    exact h.sep j k jt' kt' hjk hj' hk' (hfj' hfj) hnk' b hb
  · obtain ⟨jt', hj', hnj', hfj'⟩ := hold j jt hj hnj
    obtain ⟨h2, h3⟩ := h.mine j jt' hj' hnj' b hb
    exact ⟨Nat.lt_of_lt_of_le h2 hg.size, fun hf => h3 (hfj' hf)⟩
theorem Ok'.upd (h : Ok' c S a w g hs) {i : Nat} {it it' : Item} (hi : S.M[i]? = some it) (hf : it.fz = false) (hf' : it'.fz = false) (hg : w.grownBy w' (blk (hs i))) (ho : it'.ok g hs w' (hs i)) : Ok' c ⟨S.F, S.M.set i it'⟩ a w' g hs := h.updK hi hf hf' (fun _ e => Blk.of e) hg ho
theorem Ok'.handles (h : Ok' c S a w g hs) {p : Nat → Bool} (hp : S.refsAll p = true) {hs' : Nat → Value} (e : ∀ i, p i = true → hs' i = hs i) (e2 : ∀ (i : Nat) (it : Item), S.M[i]? = some it → it ≠ .gone → hs' i = hs i) : Ok' c S a w g hs' := by
  refine ⟨h.size, h.defers, h.base, fun t x hx => SC.ok_hs (fun i hi => e i (St.refs_F hp hx i hi)) (h.slots t x hx), fun i it hi => ?_, fun i j it jt hij hi hj hfi hnj => ?_, fun i it hi hni => ?_⟩
  · by_cases hn : it = .gone
    · subst hn; trivial
    · rw [e2 i it hi hn]
      exact Item.ok_hs (fun j hj => e j (St.refs_M hp hi j hj)) (h.items i it hi)
  · rw [e2 i it hi (fz_gone hfi), e2 j jt hj hnj]
    exact h.sep i j it jt hij hi hj hfi hnj
  · rw [e2 i it hi hni]
    exact h.mine i it hi hni
theorem Ok'.new (h : Ok' c S a w g hs) (hp : S.refsAll (fun i => Nat.blt i S.M.length) = true) {x : Value} {it : Item} (hg : w.grownBy w' none) (hb : ∀ b, Blk x b → w.heap.size ≤ b ∧ b < w'.heap.size)
    (ho : it.ok g (fun j => if j = S.M.length then x else hs j) w' x) : Ok' c ⟨S.F, S.M ++ [it]⟩ a w' g (fun j => if j = S.M.length then x else hs j) := by
  have h1 := h.grown hg
  have h2 := h1.handles hp (hs' := fun j => if j = S.M.length then x else hs j) (fun i hi => by
    have := Nat.le_of_ble_eq_true hi
    rw [if_neg (by omega)]) (fun i it hi _ => by
    have := (List.getElem?_eq_some_iff.1 hi).1
    rw [if_neg (by omega)])
  have hset : ∀ (j : Nat) (jt : Item), (S.M ++ [it])[j]? = some jt → (j = S.M.length ∧ jt = it) ∨ (j < S.M.length ∧ S.M[j]? = some jt) := fun j jt hj => by
    rw [List.getElem?_append] at hj
    split at hj
    · rename_i e; exact .inr ⟨e, hj⟩
    · rename_i e
      by_cases e2 : j = S.M.length
      · subst e2
        simp at hj
        exact .inl ⟨rfl, hj.symm⟩
      · rw [List.getElem?_eq_none (by simp; omega)] at hj
        cases hj
  have hold : ∀ (j : Nat) (jt : Item), S.M[j]? = some jt → jt ≠ .gone → ∀ b, Blk (hs j) b → b < w.heap.size := fun j jt hj hn b hb => (h.mine j jt hj hn b hb).1
  refine ⟨h2.size, h2.defers, h2.base, h2.slots, fun j jt hj => ?_, fun j k jt kt hjk hj hk hfj hnk b hb1 => ?_, fun j jt hj hnj b hb1 => ?_⟩
  · rcases hset j jt hj with ⟨rfl, rfl⟩ | ⟨_, hj⟩
    · simp only [if_true]
      exact ho
    · exact h2.items j jt hj
  · rcases hset j jt hj with ⟨rfl, rfl⟩ | ⟨j1, hj'⟩
    · rcases hset k kt hk with ⟨rfl, rfl⟩ | ⟨k1, hk'⟩
      · exact absurd rfl hjk
      · simp only [if_true] at hb1
        rw [if_neg (by omega)]
        intro e
        have := hold k kt hk' hnk b e
        have := hb b hb1
        omega
    · rcases hset k kt hk with ⟨rfl, rfl⟩ | ⟨k1, hk'⟩
      · rw [if_neg (by omega)] at hb1
        intro e
        rw [if_pos rfl] at e
        have := hold j jt hj' (fz_gone hfj) b hb1
        have := hb b e
        omega
      · exact h2.sep j k jt kt hjk hj' hk' hfj hnk b hb1
  · rcases hset j jt hj with ⟨rfl, rfl⟩ | ⟨j1, hj'⟩
    · simp only [if_true] at hb1
      obtain ⟨x1, x2⟩ := hb b hb1
      refine ⟨x2, fun _ => ⟨.inr (Nat.le_trans h.base.grows x1), ?_⟩⟩
      cases hgb : g b with
      | none => rfl
      | some o => have := h.base.pers.lt hgb; omega
    · exact h2.mine j jt hj' hnj b hb1
end
abbrev Tab := Nat → Option TI
def Tab.ok (tab : Tab) : Prop := ∀ t i, tab t = some i → TI.ok t i
def minE : Value → List Value → Option Value
  | v, [] => some v
  | .int k x, .int _ y :: r => minE (.int k (if y < x then y else x)) r
  | _, _ => none
def maxE : Value → List Value → Option Value
  | v, [] => some v
  | .int k x, .int _ y :: r => maxE (.int k (if y > x then y else x)) r
  | _, _ => none
def evKs (F : List (Nat × SC)) : List Operand → Option (List Value)
  | [] => some []
  | o :: r => match evK F o with
    | some v => match evKs F r with
      | some vs => some (v :: vs)
      | none => none
    | none => none
def evCaps (F : List (Nat × SC)) : List Operand → Option (List Nat)
  | [] => some []
  | o :: r => match evX F o with
    | some (.sv (.one (.ptr i 0))) => match evCaps F r with
      | some vs => some (i :: vs)
      | none => none
    | _ => none
def evPick (S : St) (c a b : Operand) : Option SC := match evK S.F c with
  | some (.bool true) => evX S.F a
  | some (.bool false) => evX S.F b
  | _ => none
def evUn (S : St) (op : UnOp) (x : Operand) : Option SC := match op with
  | .not => match evK S.F x with
    | some (.bool b) => some (.sv (.one (.v (.bool (!b)))))
    | _ => none
  | .neg => match evK S.F x with
    | some (.int k n) => some (.sv (.one (.v (.int k (k.wrap (0 - n))))))
    | _ => none
  | _ => none
def evBin (S : St) (op : BinOp) (x y : Operand) : Option SC := match evK S.F x with
  | some u => match evK S.F y with
    | some v => match binV op u v with
      | some r => some (.sv (.one (.v r)))
      | none => none
    | none => none
  | none => none
def evFA (tab : Tab) (S : St) (s : Nat) (x : Operand) (f : Nat) : Option SC := match evX S.F x with
  | some (.sv (.one (.ptr i off))) => match tab s with
    | some ti => match ti.st with
      | true => match ti.offs[f]? with
        | some (fo, sz + 1, _) => some (.sv (.one (.ptr i (off + fo))))
        | _ => none
      | false => none
    | none => none
  | _ => none
def evField (tab : Tab) (S : St) (s : Nat) (x : Operand) (f : Nat) : Option SC := match evX S.F x with
  | some (.sv (.agg l)) => match tab s with
    | some ti => match ti.st with
      | true => match ti.offs[f]? with
        | some (fo, sz + 1, ag) => match partE l fo (sz + 1) ag with
          | some r => some (.sv r)
          | none => none
        | _ => none
      | false => none
    | none => none
  | _ => none
def evExtract (S : St) (x : Operand) (i : Nat) : Option SC := match evX S.F x with
  | some (.tup l) => match l[i]? with
    | some r => some (.sv r)
    | none => none
  | _ => none
def evLoad (tab : Tab) (S : St) (t : Nat) (x : Operand) : Option SC := match evX S.F x with
  | some (.sv (.one (.ptr i off))) => match S.M[i]? with
    | some (.box cells _ _) => match tab t with
      | some ti => match partE cells off ti.size ti.agg with
        | some r => some (.sv r)
        | none => none
      | none => none
    | _ => none
  | _ => none
def evMF (S : St) (fn : Fn) (first captured : Array Operand) : Option SC := match fn with
  | .func f => match first.toList with
    | [] => match evCaps S.F captured.toList with
      | some l => some (.sv (.one (.fn f l)))
      | none => none
    | _ => none
  | _ => none
def evBuild (tab : Tab) (S : St) (t : Nat) (parts : Array (Nat × Operand)) : Option SC := match tab t with
  | some ti => match ti.agg && !ti.offs.isEmpty with
    | true => match evP S.F parts.toList with
      | some ps => match fillE ti.offs (ti.zero.map .v) ps with
        | some r => some (.sv (.agg r))
        | none => none
      | none => none
    | false => none
  | none => none
def evNC (S : St) (x : Operand) : Option SC := match evX S.F x with
  | some (.sv (.one (.ptr i off))) => some (.sv (.one (.ptr i off)))
  | some (.sv (.one (.pe r s))) => some (.sv (.one (.pe r s)))
  | _ => none
def evConv (tab : Tab) (S : St) (s d : Nat) (x : Operand) : Option SC := match evK S.F x with
  | some (.int _ n) => match tab s with
    | some _ => match tab d with
      | some ti => match ti.kind with
        | some k => some (.sv (.one (.v (.int k (k.wrap n)))))
        | none => none
      | none => none
    | none => none
  | _ => none
def evLen (tab : Tab) (S : St) (t : Nat) (x : Operand) : Option SC := match tab t with
  | some ti => match ti.sl with
    | some _ => match evX S.F x with
      | some (.sv (.one (.sl _ n))) => some (.sv (.one (.v (.int .i64 n))))
      | some (.sv (.one (.own i))) => match S.M[i]? with
        | some (.row _ _ _ n) => some (.sv (.one (.v (.int .i64 n))))
        | _ => none
      | some (.sv (.one (.v (.slice _ n _)))) => some (.sv (.one (.v (.int .i64 n))))
      | _ => none
    | none => none
  | none => none
def evCall (tab : Tab) (S : St) (c : Call) : Option SC := match c.callee with
  | .builtin b => match b with
    | .len => match c.args.toList with
      | [x] => match c.argTypes.toList with
        | [t] => evLen tab S t x
        | _ => none
      | _ => none
    | .min => match evKs S.F c.args.toList with
      | some (v :: x :: vs) => match minE v (x :: vs) with
        | some r => some (.sv (.one (.v r)))
        | none => none
      | _ => none
    | .max => match evKs S.F c.args.toList with
      | some (v :: x :: vs) => match maxE v (x :: vs) with
        | some r => some (.sv (.one (.v r)))
        | none => none
      | _ => none
    | _ => none
  | _ => none
def evV (tab : Tab) (S : St) (o : Oper) : Option SC := match o.op with
  | .move x => evX S.F x
  | .assign x => evX S.F x
  | .pick c a b => evPick S c a b
  | .unOp op _ x => evUn S op x
  | .binOp op _ x y _ => evBin S op x y
  | .fieldAddr s x f => evFA tab S s x f
  | .field s x f => evField tab S s x f
  | .extract x i => evExtract S x i
  | .load t x => evLoad tab S t x
  | .makeFunc fn first captured => evMF S fn first captured
  | .build t parts => evBuild tab S t parts
  | .nilCheck x => evNC S x
  | .convert s d x => evConv tab S s d x
  | .call c => evCall tab S c
  | _ => none
theorem ok_v {g : Gh} {hs : Nat → Value} {v : Value} (h : cellV v) : SC.ok g hs (.sv (.one (.v v))) v := ⟨rfl, h⟩
theorem run_val {e : Sem Value} {v : Value} {w : World} (h : e.run Tryz.prog w = .ok v w) : (do pure (.value (← e)) : Sem Next).run Tryz.prog w = .ok (.value v) w := by
  rw [Sem.run_bind, h]
  simp
theorem binV_cell {op : BinOp} {u v r : Value} (e : binV op u v = some r) : cellV r := by
  unfold binV at e
  split at e
  case h_2 => cases e
  split at e
  case h_2 => cases e
  unfold binI at e
  repeat' (first | (cases e; done) | (cases e; trivial) | split at e)
theorem evKs_ok {c : Cfg} {S : St} {a : Act} {w : World} {g : Gh} {hs : Nat → Value} (h : Ok' c S a w g hs) : ∀ {l : List Operand} {vs : List Value}, evKs S.F l = some vs → l.map a.eval = vs
  | [], vs, e => by cases e; rfl
  | o :: l, vs, e => by
    unfold evKs at e
    split at e
    · rename_i v hv
      split at e
      · rename_i vs' hvs
        cases e
        rw [List.map_cons, evK_ok h hv, evKs_ok h hvs]
      · cases e
    · cases e
theorem evCaps_ok {c : Cfg} {S : St} {a : Act} {w : World} {g : Gh} {hs : Nat → Value} (h : Ok' c S a w g hs) : ∀ {l : List Operand} {is : List Nat}, evCaps S.F l = some is → l.map a.eval = is.map hs
  | [], is, e => by cases e; rfl
  | o :: l, is, e => by
    unfold evCaps at e
    split at e
    · rename_i i hi
      split at e
      · rename_i vs' hvs
        cases e
        have := (evX_ok h hi).1
        obtain ⟨b, h1, h2⟩ := this
        rw [List.map_cons, List.map_cons, evCaps_ok h hvs, h2, h1]
      · cases e
    · cases e
theorem run_min : ∀ {vs : List Value} {v r : Value} (w : World), minE v vs = some r → cellV v → (vs.foldlM Builtin.min2 v).run Tryz.prog w = .ok r w ∧ cellV r
  | [], v, r, w, e, hv => by cases e; exact ⟨by simp, hv⟩
  | x :: vs, v, r, w, e, hv => by
    cases v
    case int k n =>
      cases x
      case int k' m =>
        simp only [minE] at e
        have := run_min w e trivial
        simpa [Builtin.min2] using this
      all_goals simp [minE] at e
    all_goals (cases x <;> simp [minE] at e)
theorem run_max : ∀ {vs : List Value} {v r : Value} (w : World), maxE v vs = some r → cellV v → (vs.foldlM Builtin.max2 v).run Tryz.prog w = .ok r w ∧ cellV r
  | [], v, r, w, e, hv => by cases e; exact ⟨by simp, hv⟩
  | x :: vs, v, r, w, e, hv => by
    cases v
    case int k n =>
      cases x
      case int k' m =>
        simp only [maxE] at e
        have := run_max w e trivial
        simpa [Builtin.max2] using this
      all_goals simp [maxE] at e
    all_goals (cases x <;> simp [maxE] at e)
theorem minE_cell {v x : Value} {r : Value} {vs : List Value} (e : minE v (x :: vs) = some r) : cellV v := by
  cases v <;> first | trivial | (cases x <;> simp [minE] at e)
theorem maxE_cell {v x : Value} {r : Value} {vs : List Value} (e : maxE v (x :: vs) = some r) : cellV v := by
  cases v <;> first | trivial | (cases x <;> simp [maxE] at e)
section
variable {c : Cfg} {S : St} {a : Act} {w : World} {g : Gh} {hs : Nat → Value} {tab : Tab}
theorem len_slice {t e n cap : Nat} {ao : Option Addr} {ty : TypeId} (ht : Tryz.prog.underlying t = some (.slice e)) (w : World) : (Builtin.len_ #[t] ty #[.slice ao n cap]).run Tryz.prog w = .ok (.int .i64 n) w := by
  simp [Builtin.len_, run_underlying ht, goInt]
theorem slT_some {t : Nat} {e : Nat} (h : slT t = some e) : Tryz.prog.underlying t = some (.slice e) := by
  unfold slT at h
  split at h
  · rename_i x hx
    cases h
    exact hx
  · cases h
theorem kindT_some {t : Nat} {k : IntKind} (h : kindT t = some k) : Tryz.prog.underlying t = some (.int k) := by
  unfold kindT at h
  split at h
  · rename_i x hx
    cases h
    exact hx
  · cases h
theorem run_sizeOf_agg {t : Nat} {b : Bool} (h : aggT t = some b) (w : World) : (sizeOf t).run Tryz.prog w = .ok (Tryz.prog.cellsOf t) w := by
  unfold aggT at h
  cases hx : Tryz.prog.info? t with
  | none =>
    unfold Program.underlying at h
    rw [hx] at h
    cases h
  | some i => simp [sizeOf, typeInfo, Go.program, Sem.run, hx, Program.cellsOf]
theorem run_mapM_of {α β : Type} (f : α → Sem β) (k : α → β) (w : World) : ∀ (l : List α), (∀ x ∈ l, (f x).run Tryz.prog w = .ok (k x) w) → (l.mapM f).run Tryz.prog w = .ok (l.map k) w
  | [], _ => by simp
  | x :: l, h => by
    have ih := run_mapM_of f k w l (fun y hy => h y (List.mem_cons_of_mem _ hy))
    simp [List.mapM_cons, Sem.run_bind, h x (by simp), ih]
theorem evV_ok (ht : tab.ok) (h : Ok' c S a w g hs) {o : Oper} {x : SC} (e : evV tab S o = some x) : ∃ v, (execOp a.eval o).run Tryz.prog w = .ok (.value v) w ∧ x.ok g hs v := by
  obtain ⟨dst, op, type, pos, after, guard⟩ := o
  cases op <;> simp only [evV] at e <;> try (cases e; done)
  case move x => exact ⟨_, by simp [execOp], evX_ok h e⟩
  case assign x => exact ⟨_, by simp [execOp], evX_ok h e⟩
  case pick k u v =>
    unfold evPick at e
    split at e
    · rename_i hk
      exact ⟨_, by simp [execOp, evK_ok h hk, asBool], evX_ok h e⟩
    · rename_i hk
      exact ⟨_, by simp [execOp, evK_ok h hk, asBool], evX_ok h e⟩
    · cases e
  case unOp op t x =>
    unfold evUn at e
    split at e
    · split at e
      · rename_i b hb
        cases e
        exact ⟨_, run_val (v := .bool (!b)) (by simp [evK_ok h hb, Op.unary]), ok_v trivial⟩
      · cases e
    · split at e
      · rename_i k n hb
        cases e
        exact ⟨_, run_val (v := .int k (k.wrap (0 - n))) (by simp [evK_ok h hb, Op.unary, Op.intArith]), ok_v trivial⟩
      · cases e
    · cases e
  case binOp op t x y yt =>
    unfold evBin at e
    split at e
    case h_2 => cases e
    rename_i u hu
    split at e
    case h_2 => cases e
    rename_i v hv
    split at e
    case h_2 => cases e
    rename_i r hr
    cases e
    refine ⟨r, run_val ?_, ok_v (binV_cell hr)⟩
    rw [evK_ok h hu, evK_ok h hv]
    exact run_bin w hr
  case fieldAddr s x f =>
    unfold evFA at e
    split at e
    case h_2 => cases e
    rename_i i off hx
    split at e
    case h_2 => cases e
    rename_i ti hti
    split at e
    case h_2 => cases e
    rename_i hst
    split at e
    case h_2 => cases e
    rename_i fo sz ag hf
    cases e
    obtain ⟨fs, fx, h1, h2, h3, h4, h5⟩ := (ht s ti hti).field hst hf
    obtain ⟨⟨b, hb, hv⟩, _⟩ := evX_ok h hx
    refine ⟨.pointer (some ⟨b, off + fo, none⟩), run_val ?_, ⟨b, hb, rfl⟩, trivial⟩
    simp only [Instr.fieldAt, Sem.run_bind, run_underlying h1, Result.andThen_ok, h2, hv, Instr.sureAddr, Sem.run_pure, fieldPlace, run_sizeOf_of h4]
    simp [h3, Addr.add_lit]
  case field s x f =>
    unfold evField at e
    split at e
    case h_2 => cases e
    rename_i l hx
    split at e
    case h_2 => cases e
    rename_i ti hti
    split at e
    case h_2 => cases e
    rename_i hst
    split at e
    case h_2 => cases e
    rename_i fo sz ag hf
    split at e
    case h_2 => cases e
    rename_i r hr
    cases e
    obtain ⟨fs, fx, h1, h2, h3, h4, h5⟩ := (ht s ti hti).field hst hf
    obtain ⟨cs, hv, hl⟩ := evX_ok h hx
    obtain ⟨v, h6, h7⟩ := run_part h5 h4 (by omega) hl hr w
    refine ⟨v, run_val ?_, h7⟩
    simp only [Instr.field, Sem.run_bind, run_underlying h1, Result.andThen_ok, h2, hv, asAgg, Sem.run_pure, h3, h6]
  case extract x i =>
    unfold evExtract at e
    split at e
    case h_2 => cases e
    rename_i l hx
    split at e
    case h_2 => cases e
    rename_i r hr
    cases e
    obtain ⟨us, hv, hl⟩ := evX_ok h hx
    obtain ⟨u, h1, h2⟩ := svs_get hl hr
    exact ⟨u, run_val (by simp [hv, Instr.extract, h1]), h2⟩
  case load t x =>
    unfold evLoad at e
    split at e
    case h_2 => cases e
    rename_i i off hx
    split at e
    case h_2 => cases e
    rename_i cells ty fz hm
    split at e
    case h_2 => cases e
    rename_i ti hti
    split at e
    case h_2 => cases e
    rename_i r hr
    cases e
    obtain ⟨⟨b, hb, hv⟩, _⟩ := evX_ok h hx
    obtain ⟨b', cs, h1, h2, h3, h4⟩ := h.items i _ hm
    rw [hb] at h1
    simp at h1
    subst h1
    obtain ⟨v, h5, h6⟩ := run_loadVar_box (ht t ti hti) h3 h2 hr
    exact ⟨v, run_val (by simp [Instr.loadAt, hv, Instr.sureAddr, h5]), h6⟩
  case makeFunc fn first captured =>
    unfold evMF at e
    split at e
    case h_2 => cases e
    rename_i f
    split at e
    case h_2 => cases e
    rename_i hf
    split at e
    case h_2 => cases e
    rename_i l hl
    cases e
    have h1 := evCaps_ok h hl
    have h2 : first = #[] := by simpa using hf
    have h3 : captured.map a.eval = (l.map hs).toArray := by
      apply Array.toList_inj.1
      rw [Array.toList_map]
      exact h1
    refine ⟨.func (.func f) #[] (l.map hs).toArray, run_val ?_, rfl, trivial⟩
    subst h2
    rw [h3]
    simp [Instr.makeFunc]
  case build t parts =>
    unfold evBuild at e
    split at e
    case h_2 => cases e
    rename_i ti hti
    split at e
    case h_2 => cases e
    rename_i hag0
    obtain ⟨hag, hne⟩ := (Bool.and_eq_true _ _).mp hag0
    split at e
    case h_2 => cases e
    rename_i ps hps
    split at e
    case h_2 => cases e
    rename_i r hr
    cases e
    have hp := evP_ok h hps
    have htk := ht t ti hti
    obtain ⟨z, hz1, hz2⟩ := htk.run_zero
    have ho := htk.offs
    unfold fieldsT at ho
    have hz0 : oks g hs (ti.zero.map .v) ti.zero := oks_v htk.zc
    have hpl : (Array.map (fun (x : Nat × Operand) => (x.1, a.eval x.2)) parts).toList = parts.toList.map fun x => (x.1, a.eval x.2) := by simp
    have hzc : z.cells = ti.zero.toArray := by simp [← hz1]
    have hax := htk.agg
    rw [hag] at hax
    unfold aggT at hax
    cases hu : Tryz.prog.underlying t with
    | none => rw [hu] at hax; cases hax
    | some d =>
      rw [hu] at ho hax
      cases d <;> simp at hax
      case struct fs =>
        simp only at ho
        have hsz : ∀ (f : Field), f ∈ fs.toList → (sizeOf f.type).run Tryz.prog w = .ok (Tryz.prog.cellsOf f.type) w := fun f hf => by
          obtain ⟨j, hj⟩ := List.getElem?_of_mem hf
          have h1 := congrArg (·[j]?) ho
          simp only [List.getElem?_map, hj, Option.map_some] at h1
          cases h2 : ti.offs[j]? with
          | none => rw [h2] at h1; cases h1
          | some y =>
            rw [h2] at h1
            simp at h1
            exact run_sizeOf_agg h1.2.2 w
        have hmm : (fs.mapM fun (f : Field) => (do pure (f.offset, ← sizeOf f.type) : Sem (Nat × Nat))).run Tryz.prog w = .ok (fs.map fun f => (f.offset, Tryz.prog.cellsOf f.type)) w := by
          rw [Array.mapM_eq_mapM_toList]
          have := run_mapM_of (fun (f : Field) => (do pure (f.offset, ← sizeOf f.type) : Sem (Nat × Nat))) (fun f => (f.offset, Tryz.prog.cellsOf f.type)) w fs.toList (fun f hf => by rw [Sem.run_bind, hsz f hf]; rfl)
          rw [map_eq_pure_bind, Sem.run_bind, this]
          simp only [Result.andThen_ok, Sem.run_pure]
          congr 1
          apply Array.toList_inj.1
          simp
        obtain ⟨us', h1, h2⟩ := fill_ok (place := fun i => (fs.map fun f => (f.offset, Tryz.prog.cellsOf f.type))[i]?) (fun i off sz ag hi => by
          have h1 := congrArg (·[i]?) ho
          simp only [List.getElem?_map, hi, Option.map_some] at h1
          cases hf : fs.toList[i]? with
          | none => rw [hf] at h1; cases h1
          | some f =>
            rw [hf] at h1
            simp at h1
            rw [Array.getElem?_map, ← Array.getElem?_toList, hf]
            simp [h1.1, h1.2.1]) hp hz0 hr
        refine ⟨.agg us'.toArray, run_val ?_, us', rfl, h2⟩
        simp only [Instr.build, Sem.run_bind, hz2, Result.andThen_ok, run_underlying hu, hmm, hzc, hpl, h1, Sem.run_pure]
      case array n el =>
        simp only at ho
        have hsz : (sizeOf el).run Tryz.prog w = .ok (Tryz.prog.cellsOf el) w := by
          have h1 := congrArg (·[0]?) ho
          simp only [List.getElem?_map] at h1
          cases h2 : ti.offs[0]? with
          | none =>
            have : ti.offs = [] := by simpa using h2
            rw [this] at hne
            cases hne
          | some y =>
            rw [h2] at h1
            cases h3 : (List.range n)[0]? with
            | none => rw [h3] at h1; cases h1
            | some z =>
              rw [h3] at h1
              simp at h1
              exact run_sizeOf_agg h1.2.2 w
        obtain ⟨us', h1, h2⟩ := fill_ok (place := fun i => some (i * Tryz.prog.cellsOf el, Tryz.prog.cellsOf el)) (fun i off sz ag hi => by
          have h1 := congrArg (·[i]?) ho
          simp only [List.getElem?_map, hi, Option.map_some] at h1
          cases h3 : (List.range n)[i]? with
          | none => rw [h3] at h1; cases h1
          | some z =>
            have hz : z = i := by
              have := (List.getElem?_eq_some_iff.1 h3).2
              simpa using this.symm
            subst hz
            rw [h3] at h1
            simp at h1
            obtain ⟨e1, e2, _⟩ := h1
            subst e1 e2
            rfl) hp hz0 hr
        refine ⟨.agg us'.toArray, run_val ?_, us', rfl, h2⟩
        simp only [Instr.build, Sem.run_bind, hz2, Result.andThen_ok, run_underlying hu, hsz, hzc, hpl, h1, Sem.run_pure]
  case nilCheck x =>
    unfold evNC at e
    split at e
    · rename_i i off hx
      cases e
      obtain ⟨⟨b, hb, hv⟩, _⟩ := evX_ok h hx
      exact ⟨_, by simp [execOp, hv], ⟨b, hb, rfl⟩, trivial⟩
    · rename_i r s hx
      cases e
      obtain ⟨⟨b, o, x, hv, h2⟩, _⟩ := evX_ok h hx
      exact ⟨_, by simp [execOp, hv], ⟨b, o, x, rfl, h2⟩, trivial⟩
    · cases e
  case convert s d x =>
    unfold evConv at e
    split at e
    case h_2 => cases e
    rename_i k0 n hx
    split at e
    case h_2 => cases e
    rename_i si hsi
    split at e
    case h_2 => cases e
    rename_i ti hti
    split at e
    case h_2 => cases e
    rename_i k hk
    cases e
    have h1 := kindT_some ((ht d ti hti).kind.trans hk)
    have hx' := evK_ok h hx
    have h2 := (ht s si hsi).agg
    unfold aggT at h2
    cases hu : Tryz.prog.underlying s with
    | none => rw [hu] at h2; cases h2
    | some ds =>
      refine ⟨.int k (k.wrap n), run_val ?_, ok_v trivial⟩
      simp only [convert, Sem.run_bind, run_underlying hu, run_underlying h1, Result.andThen_ok, hx', Conv.intToInt]
      simp
  case call cl =>
    obtain ⟨callee, args, argTypes⟩ := cl
    unfold evCall at e
    split at e
    case h_2 => cases e
    rename_i b hb
    simp only at hb
    subst hb
    split at e
    · split at e
      case h_2 => cases e
      rename_i x hx
      split at e
      case h_2 => cases e
      rename_i t ht'
      simp only at hx ht' e
      have hx : args = #[x] := by rw [← Array.toArray_toList (xs := args), hx]
      have ht' : argTypes = #[t] := by rw [← Array.toArray_toList (xs := argTypes), ht']
      subst hx ht'
      unfold evLen at e
      split at e
      case h_2 => cases e
      rename_i ti hti
      split at e
      case h_2 => cases e
      rename_i el hel
      have hu := slT_some ((ht t ti hti).sl.trans hel)
      have fin : ∀ {ao : Option Addr} {n cap : Nat}, a.eval x = .slice ao n cap → ∃ v, (execOp a.eval ⟨dst, .call ⟨.builtin .len, #[x], #[t]⟩, type, pos, after, guard⟩).run Tryz.prog w = .ok (.value v) w ∧ SC.ok g hs (.sv (.one (.v (.int .i64 n)))) v := fun {ao n cap} hv =>
        ⟨.int .i64 n, by simp [execOp, resolve, invoke, builtin, hv, len_slice hu], ok_v trivial⟩
      split at e
      · rename_i r n hx
        cases e
        obtain ⟨⟨_, ao, cap, hv⟩, _⟩ := evX_ok h hx
        exact fin hv
      · rename_i i hx
        split at e
        case h_2 => cases e
        rename_i ty s r n hm
        cases e
        have hv : a.eval x = hs i := (evX_ok h hx).1
        obtain ⟨cs, ⟨_, h1⟩, _⟩ := h.items i _ hm
        rcases h1 with ⟨h1, rfl⟩ | ⟨gb, of, cap, cur, h1, _⟩
        · exact fin (hv.trans h1)
        · exact fin (hv.trans h1)
      · rename_i ao n cap hx
        cases e
        exact fin (evX_ok h hx).1
      · cases e
    · split at e
      case h_2 => cases e
      rename_i v x vs hv
      split at e
      case h_2 => cases e
      rename_i r hr
      cases e
      have h1 := evKs_ok h hv
      obtain ⟨h2, h3⟩ := run_min w hr (minE_cell hr)
      refine ⟨r, ?_, ok_v h3⟩
      simp only at h1
      refine (congrArg (fun z => Sem.run Tryz.prog z w) ?_).trans (run_val (e := Builtin.min_ argTypes type (args.map a.eval)) (v := r) ?_)
      · simp [execOp, resolve, invoke, builtin]
      · unfold Builtin.min_
        simp only [Array.toList_map, h1]
        exact h2
    · split at e
      case h_2 => cases e
      rename_i v x vs hv
      split at e
      case h_2 => cases e
      rename_i r hr
      cases e
      have h1 := evKs_ok h hv
      obtain ⟨h2, h3⟩ := run_max w hr (maxE_cell hr)
      refine ⟨r, ?_, ok_v h3⟩
      simp only at h1
      refine (congrArg (fun z => Sem.run Tryz.prog z w) ?_).trans (run_val (e := Builtin.max_ argTypes type (args.map a.eval)) (v := r) ?_)
      · simp [execOp, resolve, invoke, builtin]
      · unfold Builtin.max_
        simp only [Array.toList_map, h1]
        exact h2
    · cases e
end
def putE (n : Nat) (dst : Option Nat) (x : SC) (S : St) : Option St := match dst with
  | none => some S
  | some d => match Nat.blt d n with
    | true => some (S.put (some d) x)
    | false => none
def wantE (ops : Array Oper) (F : List (Nat × SC)) (o : Oper) : Option Bool := match o.guard with
  | none => some true
  | some (j, b) => match ops[j]? with
    | none => none
    | some oj => match oj.dst with
      | none => none
      | some t => match look t F with
        | some (.sv (.one (.v (.bool c)))) => some (c == b)
        | some (.tup []) => some false
        | _ => none
def newE (n : Nat) (dst : Option Nat) (it : Item) (x : SC) (S : St) : Option St := match S.refsAll (fun i => Nat.blt i S.M.length) && it.refs.all (fun i => Nat.blt i S.M.length) with
  | true => putE n dst x ⟨S.F, S.M ++ [it]⟩
  | false => none
def rlNil : Rl (Array MapEntry × Nat) := ⟨fun _ D => D = (#[], 0), fun _ _ _ _ h => h⟩
def evStore (tab : Tab) (n : Nat) (S : St) (dst : Option Nat) (t : Nat) (x y : Operand) : Option St := match evX S.F x with
  | some (.sv (.one (.ptr i off))) => match S.M[i]? with
    | some (.box cells ty false) => match tab t with
      | some ti => match evX S.F y with
        | some (.sv s) => match s with
          | .one .junk => none
          | s => match Nat.beq (svCells s).length ti.size && Nat.ble (off + (svCells s).length) cells.length with
            | true => putE n dst (.tup []) ⟨S.F, S.M.set i (.box (cells.take off ++ svCells s ++ cells.drop (off + (svCells s).length)) ty false)⟩
            | false => none
        | _ => none
      | none => none
    | _ => none
  | _ => none
def evM (tab : Tab) (n : Nat) (S : St) (o : Oper) : Option St := match o.op with
  | .alloc t => match tab t with
    | some ti => newE n o.dst (.box (ti.zero.map .v) t false) (.sv (.one (.ptr S.M.length 0))) S
    | none => none
  | .box t x => match evX S.F x with
    | some (.sv s) => match s with
      | .one .junk => none
      | s => newE n o.dst (.box (svCells s) t false) (.sv (.one (.ptr S.M.length 0))) S
    | _ => none
  | .store t x y => evStore tab n S o.dst t x y
  | .makeMap _ r => match r with
    | none => newE n o.dst (.map rlNil) (.sv (.one (.own S.M.length))) S
    | some _ => none
  | .buildSlice t len parts => match tab t with
    | some ti => match ti.sl with
      | some el => match tab el with
        | some te => match Nat.ble (len * te.size) 16777216 && Nat.blt 0 (len * te.size) with
          | true => match evP S.F parts.toList with
            | some ps => match fillE ((List.range len).map fun i => (i * te.size, te.size, te.agg)) ((List.range (len * te.size)).map fun j => .v (te.zero.getD (j % te.size) undef)) ps with
              | some r => newE n o.dst (.box r el false) (.sv (.one (.bsl S.M.length len))) S
              | none => none
            | none => none
          | false => none
        | none => none
      | none => none
    | none => none
  | _ => none
section
variable {c : Cfg} {S S' : St} {a : Act} {w : World} {g : Gh} {hs : Nat → Value} {tab : Tab} {n : Nat}
theorem putE_ok (h : Ok' c S a w g hs) (hn : c.n = n) {dst : Option Nat} {x : SC} {v : Value} (hx : x.ok g hs v) (e : putE n dst x S = some S') : Ok' c S' (a.put dst v) w g hs := by
  unfold putE at e
  split at e
  · cases e; exact h
  · rename_i d
    split at e
    · rename_i hd
      cases e
      have := Nat.le_of_ble_eq_true hd
      exact h.put (fun d' hd' => by cases hd'; rw [hn]; exact this) (fun _ _ => hx)
    · cases e
theorem wantE_ok (h : Ok' c S a w g hs) {ops : Array Oper} {o : Oper} {r : Bool} (e : wantE ops S.F o = some r) : Region.wanted o (yielded ops a.tmps) = r := by
  unfold wantE at e
  unfold Region.wanted
  split at e
  · rename_i hg
    rw [hg]
    cases e
    rfl
  · rename_i j b hg
    rw [hg]
    simp only
    split at e
    · cases e
    · rename_i oj hoj
      split at e
      · cases e
      · rename_i t ht
        rw [RM.yielded_eq, hoj]
        simp only [Option.bind_some, ht]
        split at e
        · rename_i cc hl
          cases e
          have := (h.slots t _ (look_mem hl)).1
          rw [this]
          cases cc <;> cases b <;> rfl
        · rename_i hl
          cases e
          obtain ⟨us, h1, h2⟩ := h.slots t _ (look_mem hl)
          cases us with
          | nil => rw [h1]; rfl
          | cons _ _ => exact h2.elim
        · cases e
theorem grown_alloc (w : World) (o : Obj) : w.grownBy (w.alloc o) none := World.grownBy_alloc w o none
theorem newE_ok (h : Ok' c S a w g hs) (hn : c.n = n) {dst : Option Nat} {it : Item} {x : SC} {v h0 : Value} {w' : World} (hg : w.grownBy w' none) (hb : ∀ b, Blk h0 b → w.heap.size ≤ b ∧ b < w'.heap.size) (hf : it.fz = false)
    (hi : it.ok g hs w' h0) (hx : ∀ hs' : Nat → Value, hs' S.M.length = h0 → x.ok g hs' v) (e : newE n dst it x S = some S') : ∃ hs', Ok' c S' (a.put dst v) w' g hs' := by
  unfold newE at e
  split at e
  case h_2 => cases e
  rename_i hr
  obtain ⟨h1, h2⟩ := (Bool.and_eq_true _ _).mp hr
  have hk := h.new h1 (x := h0) (it := it) hg hb (Item.ok_hs (fun i hi => by
    have := Nat.le_of_ble_eq_true ((List.all_eq_true.1 h2) i hi)
    rw [if_neg (by omega)]) hi)
  exact ⟨_, putE_ok hk hn (hx _ (by simp)) e⟩
theorem sv_cells {s : SV} {v : Value} (hs1 : s ≠ .one .junk) (h : s.ok g hs v) : oks g hs (svCells s) v.cells.toList :=
  svCells_ok h fun a ha => by
    subst ha
    have := h.2
    cases a <;> first | exact this | exact absurd rfl hs1
def StepTo (c : Cfg) (S' : St) (o : Oper) (a : Act) (w : World) (g : Gh) : Prop := ∃ v w' hs', ((execOp a.eval o).run Tryz.prog w = .ok (.value v) w' ∨ (execOp a.eval o).run Tryz.prog w = .ok .skip w' ∧ v = undef) ∧ Ok' c S' (a.put o.dst v) w' g hs'
theorem run_valW {e : Sem Value} {v : Value} {w w' : World} (h : e.run Tryz.prog w = .ok v w') : (do pure (.value (← e)) : Sem Next).run Tryz.prog w = .ok (.value v) w' := by
  rw [Sem.run_bind, h]
  simp
theorem newBox_ok (h : Ok' c S a w g hs) (hn : c.n = n) {o : Oper} {cells : List At} {cs : List Value} {t : Nat} {x : SC} {v : Value} (hc : oks g hs cells cs)
    (hrun : (execOp a.eval o).run Tryz.prog w = .ok (.value v) (w.alloc (.cells cs.toArray t))) (hx : ∀ hs' : Nat → Value, hs' S.M.length = .pointer (some ⟨w.heap.size, 0, none⟩) → x.ok g hs' v)
    (e : newE n o.dst (.box cells t false) x S = some S') : StepTo c S' o a w g := by
  obtain ⟨hs', hk⟩ := newE_ok (it := .box cells t false) h hn (w' := w.alloc (.cells cs.toArray t)) (h0 := .pointer (some ⟨w.heap.size, 0, none⟩)) (v := v) (grown_alloc _ _)
    (fun b hb => by have hb := Option.some.inj hb; subst hb; simp) rfl ⟨w.heap.size, cs, rfl, hc, heap_alloc_new w _, fun h => by cases h⟩ hx e
  exact ⟨v, _, hs', .inl hrun, hk⟩
theorem ptr_new {i : Nat} {hs' : Nat → Value} {b : Nat} (e : hs' i = .pointer (some ⟨b, 0, none⟩)) : SC.ok g hs' (.sv (.one (.ptr i 0))) (.pointer (some ⟨b, 0, none⟩)) := ⟨⟨b, e, rfl⟩, trivial⟩
theorem evM_ok (ht : tab.ok) (h : Ok' c S a w g hs) (hn : c.n = n) {o : Oper} (e : evM tab n S o = some S') : StepTo c S' o a w g := by
  obtain ⟨dst, op, type, pos, after, guard⟩ := o
  cases op <;> simp only [evM] at e <;> try (cases e; done)
  case alloc t =>
    split at e
    case h_2 => cases e
    rename_i ti hti
    have htk := ht t ti hti
    obtain ⟨z, hz1, hz2⟩ := htk.run_zero
    have hzc : z.cells = ti.zero.toArray := by simp [← hz1]
    refine newBox_ok (cs := ti.zero) h hn (oks_v htk.zc) (run_valW (v := .pointer (some ⟨w.heap.size, 0, none⟩)) ?_) (fun hs' e => ptr_new e) e
    simp only [Instr.alloc, Sem.run_bind, hz2, Result.andThen_ok, newVar, newRow, newObj, Sem.run, Sem.run_pure, hzc]
    rfl
  case box t x =>
    split at e
    case h_2 => cases e
    rename_i s hs1
    split at e
    · cases e
    · rename_i hne
      have hv := evX_ok h hs1
      have hc := sv_cells (fun e => hne e) hv
      refine newBox_ok (cs := (a.eval x).cells.toList) h hn hc (run_valW (v := .pointer (some ⟨w.heap.size, 0, none⟩)) ?_) (fun hs' e => ptr_new e) e
      simp [Instr.box, newVar, newRow, newObj, Sem.run]
  case store t x y =>
    unfold evStore at e
    split at e
    case h_2 => cases e
    rename_i i off hx
    split at e
    case h_2 => cases e
    rename_i cells ty hm
    split at e
    case h_2 => cases e
    rename_i ti hti
    split at e
    case h_2 => cases e
    rename_i s hs1
    split at e
    · cases e
    · rename_i hne
      split at e
      case h_2 => cases e
      rename_i hb
      obtain ⟨b1, b2⟩ := (Bool.and_eq_true _ _).mp hb
      replace b1 := Nat.eq_of_beq_eq_true b1
      replace b2 := Nat.le_of_ble_eq_true b2
      have hv := evX_ok h hs1
      have hc := sv_cells (fun e => hne e) hv
      have htk := ht t ti hti
      obtain ⟨⟨b, hb1, hv1⟩, _⟩ := evX_ok h hx
      obtain ⟨b', cs, h1, h2, h3, h4⟩ := h.items i _ hm
      rw [hb1] at h1
      simp at h1
      subst h1
      have l1 := oks_length hc
      have l2 := oks_length h2
      have hst := run_storeCells_at (P := Tryz.prog) b off ty (a.eval y).cells.toList 0 cs.toArray w h3 (by simp at l1 ⊢; omega) (fun v hv => by
        have := oks_cells hc v hv
        cases v <;> first | rfl | exact this.elim)
      simp only [Nat.add_zero] at hst
      have hup := h.upd (w' := w.setRow b (cs.take off ++ (a.eval y).cells.toList ++ cs.drop (off + (a.eval y).cells.toList.length)).toArray) (it' := .box (cells.take off ++ svCells s ++ cells.drop (off + (svCells s).length)) ty false) hm rfl rfl ?_ ?_
      · refine ⟨undef, _, hs, .inr ⟨?_, rfl⟩, putE_ok (x := .tup []) hup hn (v := undef) ⟨[], rfl, trivial⟩ e⟩
        simp only [execOp, Instr.storeAt, hv1, Instr.sureAddr, storeVar, Sem.run_bind, Sem.run_pure, Result.andThen_ok, htk.run_size]
        rw [if_neg (by simp at l1; simp; omega)]
        simp only [hst, Result.andThen_ok]
      · rw [hb1]
        exact ⟨rfl, rfl, rfl, by simp, fun k hk hne => setRow_other w b k _ (fun e => hne (by rw [e]; rfl))⟩
      · refine ⟨b, _, hb1, ?_, setRow_heap w b _ _ _ _ h3, fun h => by cases h⟩
        have e1 : (a.eval y).cells.toList.length = (svCells s).length := l1.symm
        rw [e1]
        exact oks_append (oks_append (oks_take off h2) hc) (oks_drop _ h2)
  case makeMap t r =>
    split at e
    case h_2 => cases e
    obtain ⟨hs', hk⟩ := newE_ok (it := .map rlNil) h hn (w' := w.alloc (.map #[] 0)) (x := .sv (.one (.own S.M.length))) (h0 := .map (some w.heap.size)) (v := .map (some w.heap.size)) (grown_alloc _ _)
      (fun b hb => by have hb := Option.some.inj hb; subst hb; simp) rfl ⟨w.heap.size, #[], 0, rfl, heap_alloc_new w _, rfl⟩ (fun hs' e => ⟨e.symm, trivial⟩) e
    refine ⟨_, _, hs', .inl (run_valW (v := .map (some w.heap.size)) ?_), hk⟩
    simp [Instr.makeMap, newObj, Sem.run]
  case buildSlice t len parts =>
    split at e
    case h_2 => cases e
    rename_i ti hti
    split at e
    case h_2 => cases e
    rename_i el hel
    split at e
    case h_2 => cases e
    rename_i te hte
    split at e
    case h_2 => cases e
    rename_i hb
    obtain ⟨b1, b2⟩ := (Bool.and_eq_true _ _).mp hb
    replace b1 := Nat.le_of_ble_eq_true b1
    replace b2 := Nat.le_of_ble_eq_true b2
    split at e
    case h_2 => cases e
    rename_i ps hps
    split at e
    case h_2 => cases e
    rename_i r hr
    have hu := slT_some ((ht t ti hti).sl.trans hel)
    have htk := ht el te hte
    obtain ⟨z, hz1, hz2⟩ := htk.run_zero
    have hzc : z.cells = te.zero.toArray := by simp [← hz1]
    have hp := evP_ok h hps
    have hz0 : oks g hs ((List.range (len * te.size)).map fun j => .v (te.zero.getD (j % te.size) undef)) ((List.range (len * te.size)).map fun j => te.zero.getD (j % te.size) undef) := by
      have := oks_v (g := g) (hs := hs) (l := (List.range (len * te.size)).map fun j => te.zero.getD (j % te.size) undef) (by
        rw [List.all_eq_true]
        intro x hx
        obtain ⟨j, hj, rfl⟩ := List.mem_map.1 hx
        have hs0 : 0 < te.size := by
          rcases Nat.eq_zero_or_pos te.size with h0 | h0
          · rw [h0] at b2; omega
          · exact h0
        have hlt : j % te.size < te.zero.length := by rw [htk.zs]; exact Nat.mod_lt _ hs0
        have := List.all_eq_true.1 htk.zc (te.zero[j % te.size]) (by simp)
        simpa [List.getD, hlt] using this)
      rw [List.map_map] at this
      exact this
    obtain ⟨us', h1, h2⟩ := fill_ok (place := fun i => some (i * te.size, te.size)) (fun i off sz ag hi => by
      rw [List.getElem?_map] at hi
      cases h3 : (List.range len)[i]? with
      | none => rw [h3] at hi; cases hi
      | some j =>
        have hj : j = i := by
          have := (List.getElem?_eq_some_iff.1 h3).2
          simpa using this.symm
        subst hj
        rw [h3] at hi
        simp at hi
        obtain ⟨e1, e2, _⟩ := hi
        subst e1 e2
        rfl) hp hz0 hr
    refine newBox_ok (cs := us') (x := .sv (.one (.bsl S.M.length len))) (v := .slice (some ⟨w.heap.size, 0, none⟩) len len) h hn h2 (run_valW ?_) (fun hs' e => ⟨⟨w.heap.size, e, rfl⟩, trivial⟩) e
    have hpl : (Array.map (fun (x : Nat × Operand) => (x.1, a.eval x.2)) parts).toList = parts.toList.map fun x => (x.1, a.eval x.2) := by simp
    have hza : (Array.range (len * te.size)).map (fun j => te.zero.toArray[j % te.zero.toArray.size]!) = ((List.range (len * te.size)).map fun j => te.zero.getD (j % te.size) undef).toArray := by
      have hs0 : 0 < te.size := by
        rcases Nat.eq_zero_or_pos te.size with h0 | h0
        · rw [h0] at b2; omega
        · exact h0
      apply Array.toList_inj.1
      simp only [Array.toList_map, Array.toList_range]
      refine List.map_congr_left fun j _ => ?_
      have hlt : j % te.size < te.zero.length := by rw [htk.zs]; exact Nat.mod_lt _ hs0
      have hlt2 : j % te.zero.length < te.zero.length := by rw [htk.zs] at hlt ⊢; exact hlt
      simp only [List.size_toArray, htk.zs]
      simp [List.getD, hlt]
    simp only [Instr.buildSlice, Sem.run_bind, run_underlying hu, Result.andThen_ok, htk.run_size]
    rw [if_neg (by omega)]
    rw [if_neg (show ¬ len * te.size = 0 by omega)]
    simp only [Sem.run_bind, Sem.run_pure, Result.andThen_ok, hz2, hzc, hza, hpl, h1, newRow, newObj, Sem.run]
    rfl
end
def ev1 (tab : Tab) (n : Nat) (ops : Array Oper) (S : St) (o : Oper) : Option St := match wantE ops S.F o with
  | some true => match evV tab S o with
    | some x => putE n o.dst x S
    | none => evM tab n S o
  | some false => putE n o.dst (.tup []) S
  | none => none
def evL (tab : Tab) (n : Nat) (ops : Array Oper) : List Oper → St → Option St
  | [], S => some S
  | o :: l, S => match ev1 tab n ops S o with
    | some S' => evL tab n ops l S'
    | none => none
def WL (c : Cfg) (ops : Array Oper) (L : List Oper) (S : St) (N : Act → World → Prop) : Prop := ∀ a w, Ok c S a w → wpList Tryz.prog ops (OnlyP c N) L a w
section
variable {c : Cfg} {S S' : St} {ops : Array Oper} {rest : List Oper} {N : Act → World → Prop} {tab : Tab} {n : Nat}
theorem undef_ok {g : Gh} {hs : Nat → Value} : SC.ok g hs (.tup []) undef := ⟨[], rfl, trivial⟩
theorem ev1_step (ht : tab.ok) (hn : c.n = n) {o : Oper} (e : ev1 tab n ops S o = some S') {a : Act} {w : World} (h : Ok c S a w) (hk : ∀ a' w', Ok c S' a' w' → wpList Tryz.prog ops (OnlyP c N) rest a' w') : wpList Tryz.prog ops (OnlyP c N) (o :: rest) a w := by
  obtain ⟨g, hs, h⟩ := h
  unfold ev1 at e
  unfold wpList
  split at e
  · rename_i hw
    rw [if_pos (wantE_ok h hw)]
    refine .inl ?_
    unfold Oper.wp
    split at e
    · rename_i x hx
      obtain ⟨v, h1, h2⟩ := evV_ok ht h hx
      rw [h1]
      exact hk _ _ ⟨g, hs, putE_ok h hn h2 e⟩
    · obtain ⟨v, w', hs', h1 | ⟨h1, rfl⟩, h2⟩ := evM_ok ht h hn e
      · rw [h1]
        exact hk _ _ ⟨g, hs', h2⟩
      · rw [h1]
        exact hk _ _ ⟨g, hs', h2⟩
  · rename_i hw
    rw [if_neg (by rw [wantE_ok h hw]; exact Bool.false_ne_true)]
    exact hk _ _ ⟨g, hs, putE_ok h hn undef_ok e⟩
  · cases e
theorem evL_step (ht : tab.ok) (hn : c.n = n) : ∀ (l : List Oper) {S : St}, evL tab n ops l S = some S' → WL c ops rest S' N → WL c ops (l ++ rest) S N
  | [], S, e, h => by cases e; exact h
  | o :: l, S, e, h => fun a w hk => by
    unfold evL at e
    split at e
    · rename_i S1 h1
      exact ev1_step ht hn h1 hk (evL_step ht hn l e h)
    · cases e
theorem WL.ev (ht : tab.ok) (hn : c.n = n) (k : Nat) (S' : St) {L : List Oper} (e : evL tab n ops (L.take k) S = some S') (h : WL c ops (L.drop k) S' N) : WL c ops L S N := by
  have := evL_step (N := N) ht hn (L.take k) e h
  rwa [List.take_append_drop] at this
theorem WL.nil (h : ∀ a w, Ok c S a w → N a w) : WL c ops [] S N := h
end
def En (c : Cfg) (S : St) (N : Act → World → Prop) : Prop := ∀ a w, Ok c S a w → N a w
abbrev Po := Act → World → Prop
abbrev cwp (code : Code) (Q : Exit → Act → World → Prop) : Po := fun a w => Code.wp Tryz.prog code Q a w
def lookE : List (Nat × Po) → Nat → Po
  | [], _ => fun _ _ => False
  | (k, p) :: l, i => match Nat.beq k i with
    | true => p
    | false => lookE l i
def PQ (c : Cfg) (N : Po) (E : List (Nat × Po)) (R : Po) : Exit → Act → World → Prop
  | .normal, a, w => N a w
  | .exit i, a, w => lookE E i a w
  | .ret, a, w => R a w
  | .panic ch, a, w => c.pan ch a w
  | _, _, _ => False
theorem upon_onlyP {c : Cfg} {K K' : Po} {o : Oper} {a : Act} {w : World} {N : Po} (h : o.wp Tryz.prog a w N (OnlyP c K)) : o.wp Tryz.prog a w N (OnlyP c K') := by
  unfold Oper.wp at *
  generalize (execOp a.eval o).run Tryz.prog w = r at *
  cases r with
  | ok n w' =>
    cases n <;> simp only [Oper.upon] at h ⊢ <;> first | exact h | skip
    all_goals exact Calls.mono h fun e w'' he => by cases e <;> first | exact he | exact (he : False).elim | (obtain ⟨_, _, hf⟩ := he; exact (hf : False).elim)
  | halt x w' => cases x <;> simp only [Oper.upon] at h ⊢ <;> first | exact h | exact (h : False).elim
section
variable {c : Cfg} {S S' : St} {N R : Po} {E : List (Nat × Po)}
theorem En.seq {x y : Code} (h : En c S (cwp x (PQ c (cwp y (PQ c N E R)) E R))) : En c S (cwp (.seq x y) (PQ c N E R)) := fun a w hk => by
  refine wp_seq (Code.wp_mono (fun e a w q => ?_) (h a w hk))
  cases e <;> exact q
theorem En.seqJ {σ : Type} (J : σ → Prop) (T : σ → St) {x y : Code} (h : En c S (cwp x (PQ c (fun a w => ∃ s, J s ∧ Ok c (T s) a w) E R))) (h2 : ∀ s, J s → En c (T s) (cwp y (PQ c N E R))) : En c S (cwp (.seq x y) (PQ c N E R)) := fun a w hk => by
  refine wp_seq (Code.wp_mono (fun e a w q => ?_) (h a w hk))
  cases e <;> try exact q
  obtain ⟨s, h3, h4⟩ := q
  exact h2 s h3 a w h4
theorem En.skip (h : En c S N) : En c S (cwp .skip (PQ c N E R)) := fun a w hk => wp_skip (h a w hk)
theorem En.ret (h : En c S R) : En c S (cwp .ret (PQ c N E R)) := fun a w hk => wp_ret (h a w hk)
theorem En.exit {i : Nat} {p : Po} (e : lookE E i = p) (h : En c S p) : En c S (cwp (.exit i) (PQ c N E R)) := fun a w hk => wp_exit (by show lookE E i a w; rw [e]; exact h a w hk)
theorem En.block {i : Nat} {x : Code} (h : En c S (cwp x (PQ c N ((i, N) :: E) R))) : En c S (cwp (.block i x) (PQ c N E R)) := fun a w hk => by
  refine wp_block (Code.wp_mono (fun e a w q => ?_) (h a w hk))
  cases e <;> try exact q
  rename_i j
  have q' : lookE ((i, N) :: E) j a w := q
  show if j = i then N a w else lookE E j a w
  have e : lookE ((i, N) :: E) j = match Nat.beq i j with
    | true => N
    | false => lookE E j := rfl
  rw [e] at q'
  cases hb : Nat.beq i j with
  | true =>
    rw [hb] at q'
    rw [if_pos (Nat.eq_of_beq_eq_true hb).symm]
    exact q'
  | false =>
    rw [hb] at q'
    rw [if_neg (fun h => by subst h; simp at hb)]
    exact q'
theorem En.scope {x : Code} (h : En c S (cwp x (PQ c N E R))) : En c S (cwp (.scope x) (PQ c N E R)) := fun a w hk => by
  refine wp_scope_straight (Code.wp_mono (fun e a w q => ?_) (h a w hk))
  cases e <;> exact q
theorem En.cond {b : Bool} {o : Operand} {x y : Code} {Q : Exit → Act → World → Prop} (hb : evK S.F o = some (.bool b)) (ht : b = true → En c S (cwp x Q)) (hf : b = false → En c S (cwp y Q)) : En c S (cwp (.cond o x y) Q) := fun a w hk => by
  obtain ⟨g, hs, h⟩ := hk
  refine wp_cond_split (t := b) (evK_ok h hb) (fun e => ht e a w ⟨g, hs, h⟩) (fun e => hf e a w ⟨g, hs, h⟩)
theorem En.region {id : Nat} {l : List Oper} (h : WL c l.toArray l S N) : En c S (cwp (.region id l.toArray false) (PQ c N E R)) := fun a w hk => by
  refine Code.wp_mono (fun e a w q => ?_) (wp_region_lit (h a w hk))
  cases e <;> first | exact q | exact (q : False).elim
theorem En.loop {σ : Type} (I : σ → Prop) (μ : σ → Nat) (T : σ → St) (s0 : σ) {x : Code} (h0 : I s0) (hS : ∀ a w, Ok c S a w → Ok c (T s0) a w)
    (h : ∀ s, I s → En c (T s) (cwp x (PQ c (fun a w => ∃ s', (I s' ∧ μ s' < μ s) ∧ Ok c (T s') a w) E R))) : En c S (cwp (.loop x) (PQ c N E R)) := fun a w hk => by
  classical
  let J : Act → World → Nat → Prop := fun a w k => ∃ s, I s ∧ μ s = k ∧ Ok c (T s) a w
  have hmin : ∀ a w, (∃ k, J a w k) → ∃ k, J a w k ∧ ∀ j, J a w j → k ≤ j := fun a w ⟨k, hk⟩ => by
    induction k using Nat.strongRecOn with
    | _ k ih =>
      by_cases hh : ∃ j, J a w j ∧ j < k
      · obtain ⟨j, h1, h2⟩ := hh
        exact ih j h2 h1
      · exact ⟨k, hk, fun j hj => Nat.le_of_not_lt fun hlt => hh ⟨j, hj, hlt⟩⟩
  refine wp_loop (fun a w => ∃ k, J a w k) (fun a w => if hh : ∃ k, J a w k then (hmin a w hh).choose else 0) ⟨_, s0, h0, rfl, hS a w hk⟩ fun a w hI => ?_
  obtain ⟨hj, hle⟩ := (hmin a w hI).choose_spec
  obtain ⟨s, h1, h2, h3⟩ := hj
  refine Code.wp_mono (fun e a' w' q => ?_) (h s h1 a w h3)
  cases e <;> try exact q
  obtain ⟨s', ⟨h4, h5⟩, h6⟩ := q
  have hex : ∃ k, J a' w' k := ⟨_, s', h4, rfl, h6⟩
  refine ⟨hex, ?_⟩
  rw [dif_pos hI, dif_pos hex]
  have h7 := (hmin a' w' hex).choose_spec.2 _ ⟨s', h4, rfl, h6⟩
  omega
theorem En.next {σ : Type} {I : σ → Prop} {T : σ → St} (s : σ) (h : I s) (hS : ∀ a w, Ok c S a w → Ok c (T s) a w) : En c S (fun a w => ∃ s, I s ∧ Ok c (T s) a w) := fun a w hk => ⟨s, h, hS a w hk⟩
def itemsOf (M : List Item) (M' : List Item) : Prop := ∀ (i : Nat) (it : Item), M'[i]? = some it → it = .gone ∨ M[i]? = some it
def dropM : List Item → List Item → List (Option Item) × List (Option Item)
  | [], _ => ([], [])
  | .gone :: l, M => let r := dropM l (M.drop 1); (none :: r.1, none :: r.2)
  | it :: l, M => let r := dropM l (M.drop 1); (some it :: r.1, M[0]? :: r.2)
theorem dropM_ok : ∀ {M' M : List Item}, (dropM M' M).1 = (dropM M' M).2 → itemsOf M M'
  | [], _, _, i, it, h => by simp at h
  | x :: l, M, e, 0, it, h => by
    simp at h
    subst h
    by_cases hx : x = .gone
    · exact .inl hx
    · right
      have : (dropM (x :: l) M) = (some x :: (dropM l (M.drop 1)).1, M[0]? :: (dropM l (M.drop 1)).2) := by
        cases x <;> first | rfl | exact absurd rfl hx
      rw [this] at e
      simp only [List.cons.injEq] at e
      exact e.1.symm
  | x :: l, M, e, i + 1, it, h => by
    have hl : (dropM l (M.drop 1)).1 = (dropM l (M.drop 1)).2 := by
      cases x <;> (simp only [dropM, List.cons.injEq] at e; exact e.2)
    rcases dropM_ok hl i it (by simpa using h) with h1 | h1
    · exact .inl h1
    · exact .inr (by simpa [Nat.add_comm] using h1)
theorem Ok.sub (hF : (S'.F.map fun e => look e.1 S.F) = S'.F.map fun e => some e.2) (hM : (dropM S'.M S.M).1 = (dropM S'.M S.M).2) : ∀ a w, Ok c S a w → Ok c S' a w := fun a w ⟨g, hs, h⟩ => by
  have hM := dropM_ok hM
  have hm : ∀ (i : Nat) (it : Item), S'.M[i]? = some it → it ≠ .gone → S.M[i]? = some it := fun i it hi hn => (hM i it hi).resolve_left hn
  refine ⟨g, hs, h.size, h.defers, h.base, fun t x hx => ?_, fun i it hi => ?_, fun i j it jt hij hi hj hfi hnj => h.sep i j it jt hij (hm i it hi (fz_gone hfi)) (hm j jt hj hnj) hfi hnj, fun i it hi hni => h.mine i it (hm i it hi hni) hni⟩
  · obtain ⟨j, hj⟩ := List.getElem?_of_mem hx
    have := congrArg (·[j]?) hF
    simp [hj] at this
    exact h.slots t x (look_mem this)
  · rcases hM i it hi with rfl | h1
    · trivial
    · exact h.items i it h1
theorem En.sub (S' : St) (hF : (S'.F.map fun e => look e.1 S.F) = S'.F.map fun e => some e.2) (hM : (dropM S'.M S.M).1 = (dropM S'.M S.M).2) (h : En c S' N) : En c S N := fun a w hk => h a w (Ok.sub hF hM a w hk)
end
end Go.Proofs.YtijgcihlodofdaaGreatDoor
