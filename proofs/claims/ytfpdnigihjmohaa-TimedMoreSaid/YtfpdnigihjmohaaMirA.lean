/- Symbolic states of a walk: what slots and memory of the call's own hold, with readings of all else, in one word. No condition. -/
import Derived.Test.YtfpdnigihjmohaaProg
import Derived.Test.YtfpdnigihjmohaaRegionM
import Derived.Scope
namespace Go.Proofs.Ytfpdnigihjmohaa
open Go.RowKit Go.MapKept
set_option linter.unusedSimpArgs false
set_option linter.unusedVariables false
set_option maxRecDepth 100000

/-- what stays as it is: blocks of memory -/
abbrev Gh := Nat → Option Obj
def Gh.le (g g' : Gh) : Prop := ∀ b o, g b = some o → g' b = some o
theorem Gh.le.refl (g : Gh) : Gh.le g g := fun _ _ h => h
theorem Gh.le.trans {a b c : Gh} (h : Gh.le a b) (k : Gh.le b c) : Gh.le a c := fun i o e => k i o (h i o e)
def Gh.cell (g : Gh) (p : Addr) : Option Value := match g p.block with
  | some (.cells c _ _) => if p.spot.isSome then none else c[p.off]?
  | _ => none
theorem Gh.cell_up {g g' : Gh} (h : Gh.le g g') {p : Addr} {v : Value} (e : g.cell p = some v) : g'.cell p = some v := by
  unfold Gh.cell at e ⊢
  cases hb : g p.block with
  | none => rw [hb] at e; simp at e
  | some o => rw [hb] at e; rw [h _ _ hb]; exact e
/-- memory holds what stays -/
def Pers (g : Gh) (w : World) : Prop := ∀ b o, g b = some o → w.heap[b]? = some o
theorem Pers.cell {g : Gh} {w : World} (h : Pers g w) {p : Addr} {v : Value} (e : g.cell p = some v) : w.cell? p = some v := by
  unfold Gh.cell at e
  unfold World.cell?
  cases hb : g p.block with
  | none => rw [hb] at e; simp at e
  | some o => rw [hb] at e; rw [h _ _ hb]; exact e
theorem Pers.lt {g : Gh} {w : World} (h : Pers g w) {b : Nat} {o : Obj} (e : g b = some o) : b < w.heap.size := (Array.getElem?_eq_some_iff.1 (h b o e)).1
/-- all of memory -/
def _root_.Go.World.gh (w : World) : Gh := fun b => w.heap[b]?
theorem gh_pers (w : World) : Pers w.gh w := fun _ _ h => h

/-- a reading that lasts -/
structure Rd where
  R : Gh → Value → Prop
  mono : ∀ g g' v, Gh.le g g' → R g v → R g' v
structure Rl (α : Type) where
  R : Gh → α → Prop
  mono : ∀ g g' v, Gh.le g g' → R g v → R g' v
/-- one cell's value -/
def cellV : Value → Prop
  | .agg _ => False
  | .tuple _ => False
  | _ => True
theorem cellV.cells {v : Value} (h : cellV v) : v.cells = #[v] := by cases v <;> first | rfl | exact (h : False).elim
inductive At where
  | v (x : Value)
  | ptr (i off : Nat)
  | own (i : Nat)
  | rd (r : Rd)
  | sl (r : Rd) (n : Nat)
  | pe (r : Rd) (s : Nat)
  | oe (i k s : Nat)
  | fn (f : Nat) (caps : List Nat)
  | bsl (i n : Nat)
  | junk
inductive SV where
  | one (a : At)
  | agg (l : List At)
inductive SC where
  | sv (s : SV)
  | tup (l : List SV)
def ptrTo (r : Rd) (s : Nat) (g : Gh) (u : Value) : Prop := ∃ b o x, u = .pointer (some ⟨b, o, none⟩) ∧ r.R g x ∧ x.cells.size = s ∧ ∀ j c, x.cells[j]? = some c → g.cell ⟨b, o + j, none⟩ = some c
def At.raw (g : Gh) (hs : Nat → Value) : At → Value → Prop
  | .v x, u => u = x
  | .ptr i off, u => ∃ b, hs i = .pointer (some ⟨b, 0, none⟩) ∧ u = .pointer (some ⟨b, off, none⟩)
  | .own i, u => u = hs i
  | .rd r, u => r.R g u
  | .sl r n, u => r.R g u ∧ ∃ ao cap, u = .slice ao n cap
  | .pe r s, u => ptrTo r s g u
  | .oe i k s, u => ∃ b n cap, hs i = .slice (some ⟨b, 0, none⟩) n cap ∧ u = .pointer (some ⟨b, k * s, none⟩)
  | .fn f caps, u => u = .func (.func f) #[] (caps.map hs).toArray
  | .bsl i n, u => ∃ b, hs i = .pointer (some ⟨b, 0, none⟩) ∧ u = .slice (some ⟨b, 0, none⟩) n n
  | .junk, _ => True
/-- the value u is as said -/
def At.ok (g : Gh) (hs : Nat → Value) (a : At) (u : Value) : Prop := a.raw g hs u ∧ (match a with | .junk => True | _ => cellV u)
theorem At.ok_mk {g : Gh} {hs : Nat → Value} {a : At} {u : Value} (h : a.raw g hs u) (hc : cellV u) : a.ok g hs u := ⟨h, by cases a <;> first | trivial | exact hc⟩
/-- cells one behind the other -/
def oks (g : Gh) (hs : Nat → Value) : List At → List Value → Prop
  | [], [] => True
  | a :: l, u :: us => a.ok g hs u ∧ cellV u ∧ oks g hs l us
  | _, _ => False
def SV.ok (g : Gh) (hs : Nat → Value) : SV → Value → Prop
  | .one a, u => a.ok g hs u
  | .agg l, u => ∃ cs : List Value, u = .agg cs.toArray ∧ oks g hs l cs
def SV.oks (g : Gh) (hs : Nat → Value) : List SV → List Value → Prop
  | [], [] => True
  | a :: l, u :: us => a.ok g hs u ∧ SV.oks g hs l us
  | _, _ => False
def SC.ok (g : Gh) (hs : Nat → Value) : SC → Value → Prop
  | .sv s, u => s.ok g hs u
  | .tup l, u => ∃ us : List Value, u = .tuple us.toArray ∧ SV.oks g hs l us
/-- memory of the call's own -/
inductive Item where
  | box (cells : List At) (ty : Nat) (fz : Bool)
  | row (ty s : Nat) (r : Rl (List Value)) (n : Nat)
  | map (r : Rl (Array MapEntry × Nat))
  | iter (j : Nat) (r : Nat × Array Nat → Prop)
  | gone
def Item.fz : Item → Bool
  | .box _ _ fz => fz
  | .gone => true
  | _ => false
def blk : Value → Option Nat
  | .pointer (some a) => some a.block
  | .slice (some a) _ _ => some a.block
  | .map (some m) => some m
  | _ => none
def Item.ok (g : Gh) (hs : Nat → Value) (w : World) (h : Value) : Item → Prop
  | .box cells ty fz => ∃ b cs, h = .pointer (some ⟨b, 0, none⟩) ∧ oks g hs cells cs ∧ w.heap[b]? = some (.cells cs.toArray ty (0, 0)) ∧ (fz = true → g b = some (.cells cs.toArray ty (0, 0)))
  | .row ty s r n => ∃ cs, w.ownsRow 0 ty s h n cs ∧ r.R g cs
  | .map r => ∃ m es clock, h = .map (some m) ∧ w.heap[m]? = some (.map es clock) ∧ r.R g (es, clock)
  | .iter j r => ∃ rb m clock seen, h = .pointer (some ⟨rb, 0, none⟩) ∧ hs j = .map (some m) ∧ w.heap[rb]? = some (.mapIter (some m) clock seen clock) ∧ r (clock, seen)
  | .gone => True
structure St where
  F : List (Nat × SC)
  M : List Item
/-- of the call: how many slots, the world when it began, what stays, what blocks may be written -/
structure Cfg where
  n : Nat
  w0 : World
  g0 : Gh
  may : Nat → Prop
structure Base (c : Cfg) (w : World) (g : Gh) : Prop where
  os : w.os = c.w0.os
  tape : w.tape = c.w0.tape
  output : w.output = c.w0.output
  grows : c.w0.heap.size ≤ w.heap.size
  frame : ∀ b, b < c.w0.heap.size → ¬ c.may b → w.heap[b]? = c.w0.heap[b]?
  ghle : Gh.le c.g0 g
  ghnew : ∀ b o, g b = some o → c.g0 b = some o ∨ c.may b ∨ c.w0.heap.size ≤ b
  pers : Pers g w
structure Ok' (c : Cfg) (S : St) (a : Act) (w : World) (g : Gh) (hs : Nat → Value) : Prop where
  size : a.tmps.size = c.n
  defers : a.defers = []
  base : Base c w g
  slots : ∀ t x, (t, x) ∈ S.F → x.ok g hs (a.tmps.getD t undef)
  items : ∀ (i : Nat) (it : Item), S.M[i]? = some it → it.ok g hs w (hs i)
  sep : ∀ (i j : Nat) (it jt : Item), i ≠ j → S.M[i]? = some it → S.M[j]? = some jt → it.fz = false → jt ≠ .gone → ∀ b, blk (hs i) = some b → blk (hs j) ≠ some b
  mine : ∀ (i : Nat) (it : Item), S.M[i]? = some it → it ≠ .gone → ∀ b, blk (hs i) = some b → b < w.heap.size ∧ (it.fz = false → (c.may b ∨ c.w0.heap.size ≤ b) ∧ g b = none)
/-- the walk stands as S says -/
def Ok (c : Cfg) (S : St) (a : Act) (w : World) : Prop := ∃ g hs, Ok' c S a w g hs
end Go.Proofs.Ytfpdnigihjmohaa
