/- Lemmas towards the statement: mirrors of functions, and plain laws. No condition. -/
import Derived.Laws.CopyRow
import Derived.Laws.IdiomCopy
import Derived.Recover
import Derived.Laws.BytesString
import Derived.Test.YtijgcihlodofdaaGreatDoorPackCardParikhOrder3
namespace Go.Proofs.YtijgcihlodofdaaGreatDoor
open Go.RowKit Go.MapKept
set_option linter.unusedSimpArgs false
set_option linter.unusedVariables false
set_option maxRecDepth 100000
structure ApiDet where
  fLetters : Int
  fStart : Int
  fNext : (List (List Int))
  fMark : (List Int)
deriving DecidableEq, Inhabited
abbrev ApiDet.sv (x : ApiDet) : SV := .agg [I x.fLetters, I x.fStart, LS (lsT intT) x.fNext, LS intT x.fMark]
abbrev ApiDet.ty : Ty ApiDet := ⟨4, ApiDet.sv⟩
structure St38 where
  fE0 : Int
  fE1 : Int
  fE2 : Int
  fE3 : Int
deriving DecidableEq, Inhabited
abbrev St38.sv (x : St38) : SV := .agg [I x.fE0, I x.fE1, I x.fE2, I x.fE3]
abbrev St38.ty : Ty St38 := ⟨4, St38.sv⟩
abbrev St38.l (x : St38) : List Int := [x.fE0, x.fE1, x.fE2, x.fE3]
def St38.put (x : St38) (k v : Int) : St38 := ⟨setE k 0 v x.fE0, setE k 1 v x.fE1, setE k 2 v x.fE2, setE k 3 v x.fE3⟩
structure ParikhPlace where
  fQ : Int
  fLeft : St38
deriving DecidableEq, Inhabited
abbrev ParikhPlace.sv (x : ParikhPlace) : SV := .agg [I x.fQ, I x.fLeft.fE0, I x.fLeft.fE1, I x.fLeft.fE2, I x.fLeft.fE3]
abbrev ParikhPlace.ty : Ty ParikhPlace := ⟨5, ParikhPlace.sv⟩
structure MathBigInt where
  fNeg : Bool
  fAbs : (List Int)
deriving DecidableEq, Inhabited
abbrev MathBigInt.sv (x : MathBigInt) : SV := .agg [B x.fNeg, LS (intKT .u64) x.fAbs]
abbrev MathBigInt.ty : Ty MathBigInt := ⟨2, MathBigInt.sv⟩
structure MathBigDivisor where
  fBbb : (List Int)
  fNbits : Int
  fNdigits : Int
deriving DecidableEq, Inhabited
abbrev MathBigDivisor.sv (x : MathBigDivisor) : SV := .agg [LS (intKT .u64) x.fBbb, I x.fNbits, I x.fNdigits]
abbrev MathBigDivisor.ty : Ty MathBigDivisor := ⟨3, MathBigDivisor.sv⟩
def tabs : List (Nat × TI) := [
  (2, ⟨false, false, 1, [.int .i64 0], [], some .i64, none, 8⟩),
  (3, ⟨false, false, 1, [.int .i64 0], [], some .i64, none, 8⟩),
  (4, ⟨false, false, 1, [.bool false], [], none, none, 1⟩),
  (5, ⟨false, false, 1, [.int .u8 0], [], some .u8, none, 1⟩),
  (9, ⟨false, false, 1, [.string ByteArray.empty], [], none, none, 16⟩),
  (22, ⟨false, false, 1, [.slice none 0 0], [], none, some 3, 24⟩),
  (23, ⟨false, false, 1, [.slice none 0 0], [], none, some 22, 24⟩),
  (25, ⟨true, true, 4, [.int .i64 0, .int .i64 0, .slice none 0 0, .slice none 0 0], [(0, 1, false), (1, 1, false), (2, 1, false), (3, 1, false)], none, none, 64⟩),
  (35, ⟨false, false, 1, [.map none], [], none, none, 8⟩),
  (37, ⟨true, true, 5, [.int .i64 0, .int .i64 0, .slice none 0 0, .slice none 0 0, .map none], [(0, 4, true), (4, 1, false)], none, none, 72⟩),
  (38, ⟨true, false, 4, [.int .i64 0, .int .i64 0, .int .i64 0, .int .i64 0], [(0, 1, false), (1, 1, false), (2, 1, false), (3, 1, false)], none, none, 32⟩),
  (40, ⟨true, true, 5, [.int .i64 0, .int .i64 0, .int .i64 0, .int .i64 0, .int .i64 0], [(0, 1, false), (1, 4, true)], none, none, 40⟩),
  (42, ⟨false, false, 1, [.pointer none], [], none, none, 8⟩),
  (47, ⟨false, false, 1, [.slice none 0 0], [], none, some 5, 24⟩),
  (51, ⟨false, false, 1, [.slice none 0 0], [], none, some 68, 24⟩),
  (52, ⟨false, false, 1, [.slice none 0 0], [], none, some 68, 24⟩),
  (54, ⟨true, true, 2, [.bool false, .slice none 0 0], [(0, 1, false), (1, 1, false)], none, none, 32⟩),
  (58, ⟨false, false, 1, [.nilFunc], [], none, none, 8⟩),
  (61, ⟨false, false, 1, [.int .u64 0], [], some .u64, none, 8⟩),
  (67, ⟨false, false, 1, [.int .u64 0], [], some .u64, none, 8⟩),
  (68, ⟨false, false, 1, [.int .u64 0], [], some .u64, none, 8⟩),
  (84, ⟨false, false, 1, [.slice none 0 0], [], none, some 105, 24⟩),
  (88, ⟨false, false, 1, [.int .u32 0], [], some .u32, none, 4⟩),
  (95, ⟨false, false, 1, [.pointer none], [], none, none, 8⟩),
  (97, ⟨true, true, 1, [.pointer none], [(0, 1, false)], none, none, 8⟩),
  (105, ⟨true, true, 3, [.slice none 0 0, .int .i64 0, .int .i64 0], [(0, 1, false), (1, 1, false), (2, 1, false)], none, none, 40⟩)]
def tab : Tab := tabL tabs
theorem ti2 : TI.ok 2 ⟨false, false, 1, [.int .i64 0], [], some .i64, none, 8⟩ := ⟨by kernel_rfl, by kernel_rfl, by kernel_rfl, by kernel_rfl, by kernel_rfl, by kernel_rfl, by rfl, by rfl, by decide⟩
theorem ti3 : TI.ok 3 ⟨false, false, 1, [.int .i64 0], [], some .i64, none, 8⟩ := ⟨by kernel_rfl, by kernel_rfl, by kernel_rfl, by kernel_rfl, by kernel_rfl, by kernel_rfl, by rfl, by rfl, by decide⟩
theorem ti4 : TI.ok 4 ⟨false, false, 1, [.bool false], [], none, none, 1⟩ := ⟨by kernel_rfl, by kernel_rfl, by kernel_rfl, by kernel_rfl, by kernel_rfl, by kernel_rfl, by rfl, by rfl, by decide⟩
theorem ti5 : TI.ok 5 ⟨false, false, 1, [.int .u8 0], [], some .u8, none, 1⟩ := ⟨by kernel_rfl, by kernel_rfl, by kernel_rfl, by kernel_rfl, by kernel_rfl, by kernel_rfl, by rfl, by rfl, by decide⟩
theorem ti9 : TI.ok 9 ⟨false, false, 1, [.string ByteArray.empty], [], none, none, 16⟩ := ⟨by kernel_rfl, by kernel_rfl, by kernel_rfl, by kernel_rfl, by kernel_rfl, by kernel_rfl, by rfl, by rfl, by decide⟩
theorem ti22 : TI.ok 22 ⟨false, false, 1, [.slice none 0 0], [], none, some 3, 24⟩ := ⟨by kernel_rfl, by kernel_rfl, by kernel_rfl, by kernel_rfl, by kernel_rfl, by kernel_rfl, by rfl, by rfl, by decide⟩
theorem ti23 : TI.ok 23 ⟨false, false, 1, [.slice none 0 0], [], none, some 22, 24⟩ := ⟨by kernel_rfl, by kernel_rfl, by kernel_rfl, by kernel_rfl, by kernel_rfl, by kernel_rfl, by rfl, by rfl, by decide⟩
theorem ti25 : TI.ok 25 ⟨true, true, 4, [.int .i64 0, .int .i64 0, .slice none 0 0, .slice none 0 0], [(0, 1, false), (1, 1, false), (2, 1, false), (3, 1, false)], none, none, 64⟩ := ⟨by kernel_rfl, by kernel_rfl, by kernel_rfl, by kernel_rfl, by kernel_rfl, by kernel_rfl, by rfl, by rfl, by decide⟩
theorem ti35 : TI.ok 35 ⟨false, false, 1, [.map none], [], none, none, 8⟩ := ⟨by kernel_rfl, by kernel_rfl, by kernel_rfl, by kernel_rfl, by kernel_rfl, by kernel_rfl, by rfl, by rfl, by decide⟩
theorem ti37 : TI.ok 37 ⟨true, true, 5, [.int .i64 0, .int .i64 0, .slice none 0 0, .slice none 0 0, .map none], [(0, 4, true), (4, 1, false)], none, none, 72⟩ := ⟨by kernel_rfl, by kernel_rfl, by kernel_rfl, by kernel_rfl, by kernel_rfl, by kernel_rfl, by rfl, by rfl, by decide⟩
theorem ti38 : TI.ok 38 ⟨true, false, 4, [.int .i64 0, .int .i64 0, .int .i64 0, .int .i64 0], [(0, 1, false), (1, 1, false), (2, 1, false), (3, 1, false)], none, none, 32⟩ := ⟨by kernel_rfl, by kernel_rfl, by kernel_rfl, by kernel_rfl, by kernel_rfl, by kernel_rfl, by rfl, by rfl, by decide⟩
theorem ti40 : TI.ok 40 ⟨true, true, 5, [.int .i64 0, .int .i64 0, .int .i64 0, .int .i64 0, .int .i64 0], [(0, 1, false), (1, 4, true)], none, none, 40⟩ := ⟨by kernel_rfl, by kernel_rfl, by kernel_rfl, by kernel_rfl, by kernel_rfl, by kernel_rfl, by rfl, by rfl, by decide⟩
theorem ti42 : TI.ok 42 ⟨false, false, 1, [.pointer none], [], none, none, 8⟩ := ⟨by kernel_rfl, by kernel_rfl, by kernel_rfl, by kernel_rfl, by kernel_rfl, by kernel_rfl, by rfl, by rfl, by decide⟩
theorem ti47 : TI.ok 47 ⟨false, false, 1, [.slice none 0 0], [], none, some 5, 24⟩ := ⟨by kernel_rfl, by kernel_rfl, by kernel_rfl, by kernel_rfl, by kernel_rfl, by kernel_rfl, by rfl, by rfl, by decide⟩
theorem ti51 : TI.ok 51 ⟨false, false, 1, [.slice none 0 0], [], none, some 68, 24⟩ := ⟨by kernel_rfl, by kernel_rfl, by kernel_rfl, by kernel_rfl, by kernel_rfl, by kernel_rfl, by rfl, by rfl, by decide⟩
theorem ti52 : TI.ok 52 ⟨false, false, 1, [.slice none 0 0], [], none, some 68, 24⟩ := ⟨by kernel_rfl, by kernel_rfl, by kernel_rfl, by kernel_rfl, by kernel_rfl, by kernel_rfl, by rfl, by rfl, by decide⟩
theorem ti54 : TI.ok 54 ⟨true, true, 2, [.bool false, .slice none 0 0], [(0, 1, false), (1, 1, false)], none, none, 32⟩ := ⟨by kernel_rfl, by kernel_rfl, by kernel_rfl, by kernel_rfl, by kernel_rfl, by kernel_rfl, by rfl, by rfl, by decide⟩
theorem ti58 : TI.ok 58 ⟨false, false, 1, [.nilFunc], [], none, none, 8⟩ := ⟨by kernel_rfl, by kernel_rfl, by kernel_rfl, by kernel_rfl, by kernel_rfl, by kernel_rfl, by rfl, by rfl, by decide⟩
theorem ti61 : TI.ok 61 ⟨false, false, 1, [.int .u64 0], [], some .u64, none, 8⟩ := ⟨by kernel_rfl, by kernel_rfl, by kernel_rfl, by kernel_rfl, by kernel_rfl, by kernel_rfl, by rfl, by rfl, by decide⟩
theorem ti67 : TI.ok 67 ⟨false, false, 1, [.int .u64 0], [], some .u64, none, 8⟩ := ⟨by kernel_rfl, by kernel_rfl, by kernel_rfl, by kernel_rfl, by kernel_rfl, by kernel_rfl, by rfl, by rfl, by decide⟩
theorem ti68 : TI.ok 68 ⟨false, false, 1, [.int .u64 0], [], some .u64, none, 8⟩ := ⟨by kernel_rfl, by kernel_rfl, by kernel_rfl, by kernel_rfl, by kernel_rfl, by kernel_rfl, by rfl, by rfl, by decide⟩
theorem ti84 : TI.ok 84 ⟨false, false, 1, [.slice none 0 0], [], none, some 105, 24⟩ := ⟨by kernel_rfl, by kernel_rfl, by kernel_rfl, by kernel_rfl, by kernel_rfl, by kernel_rfl, by rfl, by rfl, by decide⟩
theorem ti88 : TI.ok 88 ⟨false, false, 1, [.int .u32 0], [], some .u32, none, 4⟩ := ⟨by kernel_rfl, by kernel_rfl, by kernel_rfl, by kernel_rfl, by kernel_rfl, by kernel_rfl, by rfl, by rfl, by decide⟩
theorem ti95 : TI.ok 95 ⟨false, false, 1, [.pointer none], [], none, none, 8⟩ := ⟨by kernel_rfl, by kernel_rfl, by kernel_rfl, by kernel_rfl, by kernel_rfl, by kernel_rfl, by rfl, by rfl, by decide⟩
theorem ti97 : TI.ok 97 ⟨true, true, 1, [.pointer none], [(0, 1, false)], none, none, 8⟩ := ⟨by kernel_rfl, by kernel_rfl, by kernel_rfl, by kernel_rfl, by kernel_rfl, by kernel_rfl, by rfl, by rfl, by decide⟩
theorem ti105 : TI.ok 105 ⟨true, true, 3, [.slice none 0 0, .int .i64 0, .int .i64 0], [(0, 1, false), (1, 1, false), (2, 1, false)], none, none, 40⟩ := ⟨by kernel_rfl, by kernel_rfl, by kernel_rfl, by kernel_rfl, by kernel_rfl, by kernel_rfl, by rfl, by rfl, by decide⟩
theorem tab_ok : tab.ok := tabL_ok fun x hx => by
  simp only [tabs, List.mem_cons, List.not_mem_nil, or_false] at hx
  rcases hx with rfl | rfl | rfl | rfl | rfl | rfl | rfl | rfl | rfl | rfl | rfl | rfl | rfl | rfl | rfl | rfl | rfl | rfl | rfl | rfl | rfl | rfl | rfl | rfl | rfl | rfl
  · exact ti2
  · exact ti3
  · exact ti4
  · exact ti5
  · exact ti9
  · exact ti22
  · exact ti23
  · exact ti25
  · exact ti35
  · exact ti37
  · exact ti38
  · exact ti40
  · exact ti42
  · exact ti47
  · exact ti51
  · exact ti52
  · exact ti54
  · exact ti58
  · exact ti61
  · exact ti67
  · exact ti68
  · exact ti84
  · exact ti88
  · exact ti95
  · exact ti97
  · exact ti105
theorem ParikhPlace.eq3 (x y : Int) (n : Nat) (w : World) : (Op.equalIn (n + 1) 3 (.int .i64 x) (.int .i64 y)).run Tryz.prog w = .ok (decide (x = y)) w := by
  have hu := run_underlying Tryz.underlying3 w
  simp only [Op.equalIn, Sem.run_bind, hu, Result.andThen_ok, if_true, Sem.run_pure]
  by_cases h : x = y <;> simp [h]
theorem ParikhPlace.part38_0 (x0 x1 x2 x3 : Int) (w : World) : (Go.part 3 #[.int .i64 x0, .int .i64 x1, .int .i64 x2, .int .i64 x3] 0).run Tryz.prog w = .ok (.int .i64 x0) w := by kernel_rfl
theorem ParikhPlace.part38_1 (x0 x1 x2 x3 : Int) (w : World) : (Go.part 3 #[.int .i64 x0, .int .i64 x1, .int .i64 x2, .int .i64 x3] 1).run Tryz.prog w = .ok (.int .i64 x1) w := by kernel_rfl
theorem ParikhPlace.part38_2 (x0 x1 x2 x3 : Int) (w : World) : (Go.part 3 #[.int .i64 x0, .int .i64 x1, .int .i64 x2, .int .i64 x3] 2).run Tryz.prog w = .ok (.int .i64 x2) w := by kernel_rfl
theorem ParikhPlace.part38_3 (x0 x1 x2 x3 : Int) (w : World) : (Go.part 3 #[.int .i64 x0, .int .i64 x1, .int .i64 x2, .int .i64 x3] 3).run Tryz.prog w = .ok (.int .i64 x3) w := by kernel_rfl
def ParikhPlace.b38 (x0 x1 x2 x3 y0 y1 y2 y3 : Int) : Bool := decide (x0 = y0) && decide (x1 = y1) && decide (x2 = y2) && decide (x3 = y3)
theorem ParikhPlace.eq38 (x0 x1 x2 x3 y0 y1 y2 y3 : Int) (n : Nat) (w : World) : (Op.equalIn (n + 2) 38 (.agg #[.int .i64 x0, .int .i64 x1, .int .i64 x2, .int .i64 x3]) (.agg #[.int .i64 y0, .int .i64 y1, .int .i64 y2, .int .i64 y3])).run Tryz.prog w = .ok (ParikhPlace.b38 x0 x1 x2 x3 y0 y1 y2 y3) w := by
  have hu := run_underlying Tryz.underlying38 w
  have hsz : ∀ w, (sizeOf 3).run Tryz.prog w = .ok 1 w := fun w => by kernel_rfl
  have hr : List.range' 0 4 = [0, 1, 2, 3] := rfl
  rw [Op.equalIn]
  simp only [Sem.run_bind, hu, Result.andThen_ok]
  simp [Go.program, Sem.run, hsz, hr, ParikhPlace.part38_0, ParikhPlace.part38_1, ParikhPlace.part38_2, ParikhPlace.part38_3, ParikhPlace.eq3]
  by_cases h0 : x0 = y0 <;> by_cases h1 : x1 = y1 <;> by_cases h2 : x2 = y2 <;> by_cases h3 : x3 = y3 <;> simp [ParikhPlace.b38, h0, h1, h2, h3]
theorem ParikhPlace.part40_0 (x0 x1 x2 x3 x4 : Int) (w : World) : (Go.part 3 #[.int .i64 x0, .int .i64 x1, .int .i64 x2, .int .i64 x3, .int .i64 x4] 0).run Tryz.prog w = .ok (.int .i64 x0) w := by kernel_rfl
theorem ParikhPlace.part40_1 (x0 x1 x2 x3 x4 : Int) (w : World) : (Go.part 38 #[.int .i64 x0, .int .i64 x1, .int .i64 x2, .int .i64 x3, .int .i64 x4] 1).run Tryz.prog w = .ok (.agg #[.int .i64 x1, .int .i64 x2, .int .i64 x3, .int .i64 x4]) w := by kernel_rfl
def ParikhPlace.b40 (x0 x1 x2 x3 x4 y0 y1 y2 y3 y4 : Int) : Bool := decide (x0 = y0) && ParikhPlace.b38 x1 x2 x3 x4 y1 y2 y3 y4
theorem ParikhPlace.eq40 (x0 x1 x2 x3 x4 y0 y1 y2 y3 y4 : Int) (n : Nat) (w : World) : (Op.equalIn (n + 3) 40 (.agg #[.int .i64 x0, .int .i64 x1, .int .i64 x2, .int .i64 x3, .int .i64 x4]) (.agg #[.int .i64 y0, .int .i64 y1, .int .i64 y2, .int .i64 y3, .int .i64 y4])).run Tryz.prog w = .ok (ParikhPlace.b40 x0 x1 x2 x3 x4 y0 y1 y2 y3 y4) w := by
  have hu := run_underlying Tryz.underlying40 w
  have hst : Tryz.prog.stoodInHeld 40 = false := by kernel_rfl
  rw [Op.equalIn]
  simp only [Sem.run_bind, hu, Result.andThen_ok]
  simp [Go.program, Sem.run, hst, ParikhPlace.part40_0, ParikhPlace.part40_1, ParikhPlace.eq3, ParikhPlace.eq38]
  by_cases h0 : x0 = y0 <;> cases h1 : ParikhPlace.b38 x1 x2 x3 x4 y1 y2 y3 y4 <;> simp [ParikhPlace.b40, h0, h1]
def ParikhPlace.enc (k : ParikhPlace) : Value := .agg #[.int .i64 k.fQ, .int .i64 k.fLeft.fE0, .int .i64 k.fLeft.fE1, .int .i64 k.fLeft.fE2, .int .i64 k.fLeft.fE3]
theorem ParikhPlace.encOk : ∀ (k : ParikhPlace) (g : Gh) (hs : Nat → Value), (ParikhPlace.ty.sv k).ok g hs (ParikhPlace.enc k) := fun k g hs => ⟨[.int .i64 k.fQ, .int .i64 k.fLeft.fE0, .int .i64 k.fLeft.fE1, .int .i64 k.fLeft.fE2, .int .i64 k.fLeft.fE3], rfl, ⟨rfl, trivial⟩, trivial, ⟨rfl, trivial⟩, trivial, ⟨rfl, trivial⟩, trivial, ⟨rfl, trivial⟩, trivial, ⟨rfl, trivial⟩, trivial, trivial⟩
theorem ParikhPlace.keyLaw : KeyLaw 40 ParikhPlace.enc where
  check := fun b a w => by unfold ParikhPlace.enc; kernel_rfl
  bits := fun a => by unfold ParikhPlace.enc; simp [Instr.sameBits, beq_bytes]
  now := ⟨_, Tryz.underlying40, .inl fun a b => rfl⟩
  equal := fun a b w => by
    rcases a with ⟨a0, ⟨a1, a2, a3, a4⟩⟩
    rcases b with ⟨b0, ⟨b1, b2, b3, b4⟩⟩
    unfold ParikhPlace.enc
    refine (ParikhPlace.eq40 a0 a1 a2 a3 a4 b0 b1 b2 b3 b4 9997 w).trans ?_
    congr 1
    rw [Bool.eq_iff_iff]
    simp only [ParikhPlace.b38, ParikhPlace.b40, Bool.and_eq_true, decide_eq_true_eq]
    constructor
    · intro h
      simp_all
    · intro h
      simp_all
def St38.enc (k : St38) : Value := .agg #[.int .i64 k.fE0, .int .i64 k.fE1, .int .i64 k.fE2, .int .i64 k.fE3]
theorem St38.encOk : ∀ (k : St38) (g : Gh) (hs : Nat → Value), (St38.ty.sv k).ok g hs (St38.enc k) := fun k g hs => ⟨[.int .i64 k.fE0, .int .i64 k.fE1, .int .i64 k.fE2, .int .i64 k.fE3], rfl, ⟨rfl, trivial⟩, trivial, ⟨rfl, trivial⟩, trivial, ⟨rfl, trivial⟩, trivial, ⟨rfl, trivial⟩, trivial, trivial⟩
theorem St38.part0 (x0 : Int) (x1 : Int) (x2 : Int) (x3 : Int) (w : World) : (Go.part 3 #[.int .i64 x0, .int .i64 x1, .int .i64 x2, .int .i64 x3] 0).run Tryz.prog w = .ok (.int .i64 x0) w := by kernel_rfl
theorem St38.part1 (x0 : Int) (x1 : Int) (x2 : Int) (x3 : Int) (w : World) : (Go.part 3 #[.int .i64 x0, .int .i64 x1, .int .i64 x2, .int .i64 x3] 1).run Tryz.prog w = .ok (.int .i64 x1) w := by kernel_rfl
theorem St38.part2 (x0 : Int) (x1 : Int) (x2 : Int) (x3 : Int) (w : World) : (Go.part 3 #[.int .i64 x0, .int .i64 x1, .int .i64 x2, .int .i64 x3] 2).run Tryz.prog w = .ok (.int .i64 x2) w := by kernel_rfl
theorem St38.part3 (x0 : Int) (x1 : Int) (x2 : Int) (x3 : Int) (w : World) : (Go.part 3 #[.int .i64 x0, .int .i64 x1, .int .i64 x2, .int .i64 x3] 3).run Tryz.prog w = .ok (.int .i64 x3) w := by kernel_rfl
theorem St38.eq3 (x y : Int) (n : Nat) (w : World) : (Op.equalIn (n + 1) 3 (.int .i64 x) (.int .i64 y)).run Tryz.prog w = .ok (x == y) w := by
  have hu := run_underlying Tryz.underlying3 w
  simp only [Op.equalIn, Sem.run_bind, hu, Result.andThen_ok, if_true, Sem.run_pure]
theorem St38.keyLaw : KeyLaw 38 St38.enc where
  check := fun b a w => by unfold St38.enc; kernel_rfl
  bits := fun a => by unfold St38.enc; simp [Instr.sameBits, beq_bytes]
  now := ⟨_, Tryz.underlying38, .inl fun a b => rfl⟩
  equal := fun a b w => by
    unfold St38.enc
    have hu := run_underlying Tryz.underlying38 w
    have hsz : ∀ w, (sizeOf 3).run Tryz.prog w = .ok 1 w := fun w => by kernel_rfl
    have hr : List.range' 0 4 = [0, 1, 2, 3] := rfl
    show (Op.equalIn (9999 + 1) _ _ _).run _ _ = _
    rw [Op.equalIn]
    simp only [Sem.run_bind, hu, Result.andThen_ok]
    simp [Go.program, Sem.run, hsz, hr, St38.part0, St38.part1, St38.part2, St38.part3, St38.eq3]
    rcases a with ⟨a0, a1, a2, a3⟩
    rcases b with ⟨b0, b1, b2, b3⟩
    by_cases h0 : a0 = b0 <;> by_cases h1 : a1 = b1 <;> by_cases h2 : a2 = b2 <;> by_cases h3 : a3 = b3 <;> simp [h0, h1, h2, h3]
theorem wordRead {l : List Int} {g : Gh} {cs : List Value} : rowRead (intKT .u64) l g cs ↔ cs = l.map (Value.int .u64) := by
  constructor
  · rintro ⟨us, rfl, h2, h3⟩
    have e : us = l.map (Value.int .u64) := by
      apply List.ext_getElem?
      intro q
      rw [List.getElem?_map]
      cases hl : l[q]? with
      | none =>
        have := List.getElem?_eq_none_iff.1 hl
        exact List.getElem?_eq_none_iff.2 (by omega)
      | some a =>
        have hq := (List.getElem?_eq_some_iff.1 hl).1
        have hu : us[q]? = some us[q] := List.getElem?_eq_getElem (by omega)
        rw [hu, show us[q] = Value.int .u64 a from (h3 q _ a hu hl).1.1]
        rfl
    rw [e]
    exact flat_one fun u hu => by
      obtain ⟨a, _, rfl⟩ := List.mem_map.1 hu
      rfl
  · rintro rfl
    refine ⟨l.map (Value.int .u64), (flat_one fun u hu => by
      obtain ⟨a, _, rfl⟩ := List.mem_map.1 hu
      rfl).symm, by simp, fun q u a hu ha => ?_⟩
    rw [List.getElem?_map, ha] at hu
    cases hu
    exact ⟨⟨rfl, trivial⟩, rfl⟩
abbrev wordI (l : List Int) : Item := rowI 68 (intKT .u64) l
theorem wordI_ok {l : List Int} {g : Gh} {hs : Nat → Value} {w : World} {v : Value} : (wordI l).ok g hs w v ↔ NW w v l := by
  constructor
  · rintro ⟨cs, h1, h2⟩
    have e := wordRead.1 h2
    subst e
    exact h1
  · intro h
    exact ⟨_, h, wordRead.2 rfl⟩
theorem NW.slice {w : World} {v : Value} {l : List Int} (h : NW w v l) : ∃ ao cap, v = .slice ao l.length cap := by
  rcases h.2 with ⟨e, e2⟩ | ⟨g, o, cap, cur, e, _⟩
  · exact ⟨none, 0, by rw [e, e2]⟩
  · exact ⟨_, _, e⟩
theorem NW.blk {w : World} {v : Value} {l : List Int} (h : NW w v l) {b : Nat} : Blk v b ↔ v.ownBlock = some b := by
  obtain ⟨ao, cap, e⟩ := h.slice
  exact Blk_slice ⟨_, _, _, e⟩
theorem NW.lt {w : World} {v : Value} {l : List Int} (h : NW w v l) {b : Nat} (hb : v.ownBlock = some b) : b < w.heap.size := (World.ownsAt.lt h b hb).2
theorem word_read {u : Int} {g : Gh} {hs : Nat → Value} {w : World} {v : Value} (hp : Pers g w) (h : (SC.sv (.one (LS (intKT .u64) [u]))).ok g hs v) : ∃ b o cap x, v = .slice (some ⟨b, o, none⟩) 1 cap ∧ 1 ≤ cap ∧ cap ≤ maxLen ∧ w.cell? ⟨b, o, none⟩ = some (.int .u64 u) ∧ g b = some x := by
  obtain ⟨⟨⟨ao, n, cap, rfl, rfl, h3, h4, _, h6⟩, _⟩, _⟩ := h
  obtain ⟨b, o, u', rfl, ⟨e, _⟩, _, h7⟩ := h6 0 u rfl
  have e : u' = .int .u64 u := e
  subst e
  have h8 := h7 0 _ rfl
  simp only [Nat.zero_mul, Nat.add_zero] at h8
  have h9 := hp.cell h8
  have : ∃ x, g b = some x := by
    unfold Gh.cell at h8
    cases hg : g b with
    | none => simp [hg] at h8
    | some x => exact ⟨x, rfl⟩
  obtain ⟨x, hx⟩ := this
  exact ⟨b, o, cap, x, rfl, h3, h4, h9, hx⟩
theorem base_of {w w' : World} {g : Gh} {n : Nat} {may : Nat → Prop} {v : Value} (hp : Pers g w) (hgr : w.grownBy w' v.ownBlock) (hm : ∀ b, v.ownBlock = some b → may b ∧ g b = none) : Base (cfgM n w g may) w' g :=
  ⟨hgr.os, hgr.tape, hgr.output, hgr.size, fun b hb hn => hgr.block b hb (fun e => hn (hm b e.symm).1), Gh.le.refl g, fun b o e => .inl e, fun b o e => by
    have h1 := hp b o e
    rw [hgr.block b (hp.lt e) (fun e2 => by
      have := (hm b e2.symm).2
      rw [e] at this
      cases this)]
    exact h1⟩
theorem items_of {w w' : World} {g : Gh} {hs : Nat → Value} {l l' : List Int} {v' : Value} (hp : Pers g w) (h3 : ItemsOk (fun _ => True) 0 [wordI l] g hs w) (hn : NW w' v' l') (ob : v'.ownBlock = (hs 0).ownBlock ∨ ∃ k, v'.ownBlock = some k ∧ w.heap.size ≤ k) : ItemsOk (mayM [wordI l] hs) w.heap.size [wordI l'] g (fun _ => v') w' := by
  have h0 : NW w (hs 0) l := wordI_ok.1 (h3.items 0 _ rfl)
  refine ⟨fun i it hi => ?_, fun i j it jt hij hi hj => ?_, fun i it hi _ b hb => ?_⟩
  · cases i with
    | zero => simp at hi; subst hi; exact wordI_ok.2 hn
    | succ i => simp at hi
  · cases i with
    | zero =>
      cases j with
      | zero => exact absurd rfl hij
      | succ j => simp at hj
    | succ i => simp at hi
  · have hb := hn.blk.1 hb
    refine ⟨hn.lt hb, fun _ => ?_⟩
    rcases ob with e | ⟨k, e, hk⟩
    · have hb0 : Blk (hs 0) b := h0.blk.2 (e.symm.trans hb)
      exact ⟨.inl ⟨0, _, rfl, rfl, hb0⟩, ((h3.mine 0 _ rfl (by simp) b hb0).2 rfl).2⟩
    · rw [hb] at e
      cases e
      refine ⟨.inr hk, ?_⟩
      cases hg : g b with
      | none => rfl
      | some o => exact absurd (hp.lt hg) (by omega)
theorem may_of {w : World} {g : Gh} {hs : Nat → Value} {l : List Int} (h3 : ItemsOk (fun _ => True) 0 [wordI l] g hs w) : ∀ b, (hs 0).ownBlock = some b → mayM [wordI l] hs b ∧ g b = none := fun b hb => by
  have h0 : NW w (hs 0) l := wordI_ok.1 (h3.items 0 _ rfl)
  have hb0 := h0.blk.2 hb
  exact ⟨⟨0, _, rfl, rfl, hb0⟩, ((h3.mine 0 _ rfl (by simp) b hb0).2 rfl).2⟩
def AddPre (l y : List Int) : Prop := ∃ u, y = [u] ∧ 0 < u ∧ l.sum + u < 18446744073709551616 ∧ (l = [] ∨ ∃ s, l = [s] ∧ 0 ≤ s)
theorem nadd_ct (l y : List Int) (hp : AddPre l y) : CtE 31 [.sv (.one (.own 0)), .sv (.one (.own 0)), .sv (.one (LS (intKT .u64) y))] [wordI l] [] (fun (_ : Unit) => True) (fun _ => .sv (.one (.own 0))) (fun _ => [wordI [l.sum + y.sum]]) := fun w g hs args hpe ha hm => by
  obtain ⟨u, rfl, hu0, hu1, hl⟩ := hp
  have h0 : NW w (hs 0) l := wordI_ok.1 (hm.items 0 _ rfl)
  match args, ha with
  | [a0, a1, a2], ⟨⟨e0, _⟩, ⟨e1, _⟩, h2, _⟩ =>
    have e0 : a0 = hs 0 := e0
    have e1 : a1 = hs 0 := e1
    subst e0 e1
    obtain ⟨yb, yo, yc, x, rfl, y1, y2, y3, y4⟩ := word_read hpe h2
    have hne : (hs 0).ownBlock ≠ some yb := fun e => by
      have := (may_of hm yb e).2
      rw [y4] at this
      cases this
    have key : Calls Tryz.prog 31 #[hs 0, hs 0, .slice (some ⟨yb, yo, none⟩) 1 yc] w (NRet w (hs 0) [l.sum + u]) := by
      rcases hl with rfl | ⟨s, rfl, hs0⟩
      · have := nadd_nil (hs 0) yb yo yc u w h0 y3 hne
        simpa using this
      · have h0' := h0
        rcases h0.2 with ⟨_, e⟩ | ⟨gb, o, cap, cur, e, hg, h1c, hcm, hfit, hx⟩
        · cases e
        have hx : ((cur.toList.drop o).take 1) = [Value.int .u64 s] := hx
        have hco : cur[o]? = some (.int .u64 s) := by
          have := congrArg (·[0]?) hx
          simpa [List.getElem?_take, List.getElem?_drop] using this
        have e : hs 0 = .slice (some ⟨gb, o, none⟩) 1 cap := e
        rw [e]
        have := nadd_one gb o cap cur yb yo yc s u w hg h1c hcm (by omega) (by
          unfold World.cell?
          simp only [hg]
          exact hco) y3 y1 y2 hs0 hu0 (by simpa using hu1)
        simpa using this
    refine key.mono ?_
    rintro en w' ⟨v', rfl, nw, gr, ob⟩
    obtain ⟨ao, cap, ev⟩ := nw.slice
    refine ⟨v', g, fun _ => v', (), rfl, trivial, ⟨rfl, by rw [ev]; trivial⟩, fun i hi => by simp at hi, base_of hpe gr (may_of hm), items_of hpe hm (by simpa using nw) ob⟩
theorem nset_ct (y : List Int) (u : Int) (hy : y = [u]) : CtI 39 [.sv (.one (.v (.slice none 0 0))), .sv (.one (LS (intKT .u64) y))] [] (wordI y) := fun w g hs args hpe ha _ => by
  subst hy
  match args, ha with
  | [a0, a1], ⟨⟨e0, _⟩, h2, _⟩ =>
    have e0 : a0 = .slice none 0 0 := e0
    subst e0
    obtain ⟨yb, yo, yc, x, rfl, y1, y2, y3, y4⟩ := word_read hpe h2
    refine (nset (.slice none 0 0) yb yo yc u w (World.ownsAt_nil w _ _) y3 (by simp [Value.ownBlock])).mono ?_
    rintro en w' ⟨v', rfl, nw, gr, ob⟩
    obtain ⟨ao, cap, ev⟩ := nw.slice
    have hb : ∀ b, v'.ownBlock = some b → w.heap.size ≤ b := fun b hb => by
      rcases ob with e | ⟨k, e, hk⟩
      · rw [hb] at e
        simp [Value.ownBlock] at e
      · rw [hb] at e
        cases e
        exact hk
    refine ⟨v', g, rfl, base_of (v := .slice none 0 0) hpe gr (fun b e => by simp [Value.ownBlock] at e), by rw [ev]; trivial, wordI_ok.2 nw, fun b h => ?_⟩
    have h := nw.blk.1 h
    refine ⟨nw.lt h, hb b h, ?_⟩
    cases hg : g b with
    | none => rfl
    | some o => exact absurd (hpe.lt hg) (by have := hb b h; omega)
theorem ndivw_ct (l : List Int) (y v : Int) (hl : l = [v]) (h0 : 0 ≤ v) (h1 : v < y) (h2 : y < 18446744073709551616) (h3 : 1 < y) : CtE 72 [.sv (.one (.own 0)), .sv (.one (.own 0)), .sv (.one (.v (.int .u64 y)))] [wordI l] [] (fun (_ : Unit) => True) (fun _ => .tup [.one (.own 0), .one (.v (.int .u64 v))]) (fun _ => [wordI []]) := fun w g hs args hpe ha hm => by
  subst hl
  have hw : NW w (hs 0) [v] := wordI_ok.1 (hm.items 0 _ rfl)
  match args, ha with
  | [a0, a1, a2], ⟨⟨e0, _⟩, ⟨e1, _⟩, ⟨e2, _⟩, _⟩ =>
    have e0 : a0 = hs 0 := e0
    have e1 : a1 = hs 0 := e1
    have e2 : a2 = .int .u64 y := e2
    subst e0 e1 e2
    refine (ndivw (hs 0) v y w hw h0 h1 h2 h3).mono ?_
    rintro en w' ⟨v', rfl, nw, gr, ob⟩
    obtain ⟨ao, cap, ev⟩ := nw.slice
    refine ⟨_, g, fun _ => v', (), rfl, trivial, ⟨[v', .int .u64 v], rfl, ⟨rfl, by rw [ev]; trivial⟩, ⟨rfl, trivial⟩, trivial⟩, fun i hi => by simp at hi, base_of hpe gr (may_of hm), items_of hpe hm nw (.inl ob)⟩
theorem set_seg {α : Type} (cs us : List α) (K fo s : Nat) (v : α) (hs : us.length = s) (hfo : fo < s) (hK : K + s ≤ cs.length) (hu : ∀ j c, us[j]? = some c → cs[K + j]? = some c) : cs.take K ++ us.set fo v ++ cs.drop (K + s) = cs.take (K + fo) ++ [v] ++ cs.drop (K + fo + 1) := by
  have e : us = (cs.drop K).take s := by
    refine List.ext_getElem? fun i => ?_
    rw [List.getElem?_take]
    by_cases h : i < s
    · rw [if_pos h, List.getElem?_drop]
      have hi : i < us.length := by omega
      exact (List.getElem?_eq_getElem hi).trans (hu i _ (List.getElem?_eq_getElem hi)).symm
    · rw [if_neg h, List.getElem?_eq_none (by omega)]
  have h1 : cs.take (K + fo) = cs.take K ++ (cs.drop K).take fo := by rw [List.take_add]
  have h2 : cs.drop (K + fo + 1) = ((cs.drop K).take s).drop (fo + 1) ++ cs.drop (K + s) := by
    have : cs.drop K = (cs.drop K).take s ++ (cs.drop K).drop s := (List.take_append_drop s _).symm
    rw [List.drop_drop] at this
    rw [Nat.add_assoc, ← List.drop_drop]
    conv => lhs; rw [this]
    rw [List.drop_append_of_le_length (by rw [List.length_take, List.length_drop]; omega)]
  have h3 : us.set fo v = (cs.drop K).take fo ++ v :: ((cs.drop K).take s).drop (fo + 1) := by
    rw [List.set_eq_take_append_cons_drop, if_pos (by omega), e, List.take_take, Nat.min_eq_left (by omega)]
  rw [h1, h2, h3]
  simp
theorem oks_put {g : Gh} {hs : Nat → Value} {z : At} {v : Value} (hz : z.ok g hs v) (hv : cellV v) : ∀ {l : List At} {us : List Value} (j : Nat), oks g hs l us → oks g hs (l.set j z) (us.set j v)
  | [], [], _, _ => trivial
  | [], _ :: _, _, h => h.elim
  | _ :: _, [], _, h => h.elim
  | _ :: _, _ :: _, 0, h => ⟨hz, hv, h.2.2⟩
  | _ :: _, _ :: _, j + 1, h => ⟨h.1, h.2.1, oks_put hz hv j h.2.2⟩
section
variable {c : Cfg} {S : St} {tab : Tab} {o : Oper}
theorem mu_storeOF {α : Type} {T : Ty α} {l : List α} {i k fo t el : Nat} {y y' : α} {cells : List At} {z : At} {ti : TI} {x v : Operand} (ht : tab.ok) (ho : o.op = .store t x v) (h1 : tab t = some ti) (h2 : ti.size = 1) (hT : T.solid)
    (h3 : T.sv y = .agg cells) (h4 : T.sv y' = .agg (cells.set fo z)) (h5 : fo < cells.length) (h6 : cells.length = T.s) (h7 : z.refs = []) (h8 : z ≠ .junk) (hx : evX S.F x = some (.sv (.one (.oe i (k * T.s + fo) 1)))) (hm : S.M[i]? = some (rowI el T l)) (hy : l[k]? = some y) (hv : evX S.F v = some (.sv (.one z))) : MU c S o i (rowI el T (l.set k y')) := fun a w g hs hh N Z hN => by
  have hk : k < l.length := (List.getElem?_eq_some_iff.1 hy).1
  unfold Oper.wp
  obtain ⟨⟨b, of, nn, cap, e1, e2⟩, _⟩ := evX_ok hh hx
  obtain ⟨cs, ⟨hl0, r1⟩, r2⟩ := hh.items i _ hm
  have htk := ht t ti h1
  have hval : z.ok g hs (a.eval v) := evX_ok hh hv
  have hval0 : z.ok g hs0 (a.eval v) := At.ok_hs (fun i hi => by rw [h7] at hi; cases hi) hval
  have hcv : cellV (a.eval v) := by
    have := hval.2
    cases z <;> first | exact this | exact absurd rfl h8
  have hc1 : (a.eval v).cells.toList = [a.eval v] := by rw [hcv.cells]
  obtain ⟨u, u1, u2, u3⟩ := row_elem r2 hy
  have u1' := u1
  rw [h3] at u1
  obtain ⟨us, rfl, hos⟩ := u1
  have hul : us.length = T.s := by rw [← oks_length hos]; exact h6
  rcases r1 with ⟨e3, e4⟩ | ⟨gb, of', cap', cur, e3, e4, e5, e6, e7, e8⟩
  · omega
  · rw [e1] at e3
    simp at e3
    obtain ⟨⟨rfl, rfl⟩, rfl, rfl⟩ := e3
    have hkl : k * T.s + T.s ≤ l.length * T.s := by rw [← Nat.succ_mul]; exact Nat.mul_le_mul_right _ hk
    have hkf : k * T.s + fo + 1 ≤ l.length * T.s := by omega
    have hlc : of + l.length * T.s ≤ cur.size := Nat.le_trans (Nat.add_le_add_left (Nat.mul_le_mul_right _ e5) _) e7
    have hst := run_storeCells_at (P := Tryz.prog) b (of + (k * T.s + fo)) el (a.eval v).cells.toList 0 cur w e4 (by rw [hc1, List.length_singleton]; omega) (fun u hu => by rw [hc1] at hu; cases List.mem_singleton.1 hu; exact hcv.one)
    simp only [Nat.add_zero] at hst
    have hrun : (execOp a.eval o).run Tryz.prog w = .ok .skip (w.setRow b (cur.toList.take (of + (k * T.s + fo)) ++ (a.eval v).cells.toList ++ cur.toList.drop (of + (k * T.s + fo) + (a.eval v).cells.toList.length)).toArray) := by
      have : execOp a.eval o = (do Instr.storeAt t (a.eval x) (a.eval v); pure .skip : Sem Next) := by unfold execOp; rw [ho]
      rw [this, Nat.mul_one] at *
      simp only [Instr.storeAt, e2, Instr.sureAddr, storeVar, Sem.run_bind, Sem.run_pure, Result.andThen_ok, htk.run_size]
      rw [if_neg (by rw [h2, hcv.cells]; simp)]
      simp only [hst, Result.andThen_ok, Sem.run_pure]
    rw [hrun]
    refine hN undef _ ?_ ?_
    · rw [e1]
      exact ⟨rfl, rfl, rfl, by simp, fun q hq hne => setRow_other w b q _ (fun e => hne (by rw [e]; rfl))⟩
    · have hset := r2.set hk (y := y') (u := .agg (us.set fo (a.eval v)).toArray) (by rw [h4]; exact ⟨_, rfl, oks_put hval0 hcv fo hos⟩) (by simp [Value.cells, hul])
      simp only [Value.cells, List.size_toArray, List.length_set, hul] at hset
      rw [set_seg cs us (k * T.s) fo T.s (a.eval v) hul (by omega) (by rw [hl0]; exact hkl) (fun j c hj => u3 j c (by simpa [Value.cells] using hj))] at hset
      refine ⟨_, ⟨hset.length.trans (by simp), .inr ⟨b, of, cap, _, by rw [e1]; simp, setRow_heap w b _ _ _ _ e4, by simpa using e5, e6, ?_, ?_⟩⟩, hset⟩
      · simp only [hc1, List.size_toArray, List.length_append, List.length_take, List.length_drop, Array.length_toList, List.length_singleton]
        omega
      · simp only [List.length_set]
        show (List.drop of (_ ++ (a.eval v).cells.toList ++ _)).take _ = _
        rw [drop_seg _ _ (by rw [Array.length_toList]; omega), ← e8, hc1, List.length_singleton]
        exact seg_take (cur.toList.drop of) [a.eval v] (k * T.s + fo) 1 (l.length * T.s) rfl hkf (by rw [List.length_drop, Array.length_toList]; exact Nat.le_sub_of_add_le (by rw [Nat.add_comm]; exact hlc))
end
end Go.Proofs.YtijgcihlodofdaaGreatDoor
namespace Go.Proofs.YtijgcihlodofdaaGreatDoor
open Go.RowKit Go.MapKept Go.ChangeMaps
set_option linter.unusedSimpArgs false
set_option linter.unusedVariables false
set_option maxRecDepth 100000
section
variable {κ α : Type} [DecidableEq κ]
theorem mput_same {k : κ} {v : α} : ∀ {D : List (κ × α)}, mget k D = some v → mput k v D = D
  | [], h => by cases h
  | x :: D, h => by
    rw [mget] at h
    rw [mput]
    split at h
    · rename_i e
      cases h
      rw [if_pos e, e]
    · rename_i e
      rw [if_neg e, mput_same h]
theorem mput_put {k : κ} {u v : α} : ∀ {D : List (κ × α)}, mput k v (mput k u D) = mput k v D
  | [] => by simp [mput]
  | x :: D => by
    rw [mput, mput]
    by_cases e : k = x.1
    · rw [if_pos e, if_pos e, mput, if_pos rfl]
    · rw [if_neg e, if_neg e, mput, if_neg e, mput_put]
theorem findD_idx {a : κ} : ∀ {D : List (κ × Value)} {n i : Nat} {u : Value}, findD a D n = some (i, u) → a ∈ D.map (·.1) ∧ i = n + (D.map (·.1)).idxOf a
  | [], _, _, _, h => by cases h
  | x :: D, n, i, u, h => by
    rw [findD] at h
    rw [List.map_cons, List.idxOf_cons]
    by_cases e : a = x.1
    · rw [if_pos e] at h
      cases h
      exact ⟨by simp [e], by simp [e]⟩
    · rw [if_neg e] at h
      obtain ⟨h1, h2⟩ := findD_idx h
      refine ⟨List.mem_cons_of_mem _ h1, ?_⟩
      rw [show (x.1 == a) = false by simpa using fun h => e h.symm]
      simp only [cond_false]
      omega
def stampX (k : κ) (D : List (κ × α)) (es : Array MapEntry) (ck : Nat) : Nat := if k ∈ D.map (·.1) then ((es[(D.map (·.1)).idxOf k]?).map (·.born)).getD 0 else ck
def mapBR (enc : κ → Value) (T : Ty α) (D : List (κ × α)) (k : κ) (b : Nat) : Rl (Array MapEntry × Nat) :=
  ⟨fun g p => mapRead enc T D g p ∧ ∃ (i : Nat) (e : MapEntry), p.1[i]? = some e ∧ e.born = b ∧ (D.map (·.1))[i]? = some k, fun g g' L h ⟨h1, h2⟩ => ⟨(mapR enc T D).mono g g' L h h1, h2⟩⟩
abbrev mapB (enc : κ → Value) (T : Ty α) (D : List (κ × α)) (k : κ) (b : Nat) : Item := .map (mapBR enc T D k b)
omit [DecidableEq κ] in
theorem mapBAs (enc : κ → Value) (T : Ty α) (D : List (κ × α)) (k : κ) (b : Nat) : MapAs enc T D (mapBR enc T D k b) := fun _ _ h => h.1
end
section
variable {κ α : Type} [DecidableEq κ] {enc : κ → Value} {T : Ty α} {D : List (κ × α)} {es : Array MapEntry} {ck : Nat}
variable {c : Cfg} {S S1 : St} {n : Nat} {o : Oper} {ops : Array Oper} {rest L : List Oper} {N : Po}
omit [DecidableEq κ] in
theorem En.openM (i : Nat) (hi : S.M[i]? = some (mapI enc T D)) (h : ∀ es clock, En c ⟨S.F, S.M.set i (mapX enc T D es clock)⟩ N) : En c S N := fun a w ⟨g, hs, hk⟩ => by
  obtain ⟨es, clock, hk'⟩ := opens hk hi
  exact h es clock a w ⟨g, hs, hk'⟩
omit [DecidableEq κ] in
theorem mt_nilBox {β : Type} {T : Ty β} {x : SC} {K : List Nat} {p ty : Nat} {cells : List At} (j : Nat) (h : MT c S o x K (some (p, .box cells ty false))) (hj : cells[j]? = some (.v (.slice none 0 0))) : MT c S o x K (some (p, .box (cells.set j (LS T ([] : List β))) ty false)) := fun a w g hs hk N Z hN =>
  h a w g hs hk N Z fun v w' g' h' h1 h2 h3 => hN v w' g' h' h1 h2 ⟨by
    obtain ⟨⟨b, cs, k1, k2, k3⟩, _⟩ := h3
    exact ⟨b, cs, k1, oks_nil j hj k2, k3⟩, h3.2⟩
theorem eff_block {w : World} {g : Gh} {hs : Nat → Value} {a : Act} {i m : Nat} {o' : Obj} (hk : Ok' c S a w g hs) {it : Item} (hi : S.M[i]? = some it) (hf : it.fz = false) (hg : it ≠ .gone) (h1 : hs i = .map (some m)) {es0 : Array MapEntry} {ck0 : Nat} (h2 : w.heap[m]? = some (.map es0 ck0)) :
    Eff hs [i] w g (setBlock w m o') g ∧ g m = none := by
  have hm : Blk (hs i) m := by rw [h1]; rfl
  have hgm := ((hk.mine i it hi hg m hm).2 hf).2
  refine ⟨⟨rfl, rfl, rfl, by simp [setBlock], fun b _ hb => heap_setBlock_other h2 _ (fun e => hb i (by simp) (by rw [e]; exact hm)), Gh.le.refl g, fun _ _ e => .inl e, fun b o e => ?_⟩, hgm⟩
  rw [heap_setBlock_other h2 _ (fun e2 => by rw [e2, hgm] at e; cases e)]
  exact hk.base.pers b o e
theorem me_mapEntry {kt e t i : Nat} (K : KeyLaw kt enc) {k : κ} {m x : Operand} (z : α) {zv : Value} (ho : o.op = .mapEntry t m x) (ht : Tryz.prog.underlying t = some (.map kt e)) (hz : ∀ w, (zeroValue e).run Tryz.prog w = .ok zv w) (hz2 : ∀ g, (T.sv z).ok g hs0 zv)
    (hm : evX S.F m = some (.sv (.one (.own i)))) (hi : S.M[i]? = some (mapX enc T D es ck)) (hx : evKV S.F x = some (enc k)) (hc : ∀ a, (T.sv a).refs = []) :
    ME c S o (.tup [T.sv ((mget k D).getD z), .one (I ((stampX k D es ck : Nat) : Int))]) [(i, mapB enc T (mput k ((mget k D).getD z) D) k (stampX k D es ck))] := fun a w g hs hk N Z hN => by
  unfold Oper.wp
  obtain ⟨b, es', ck', h1, h2, h3, D0, ⟨h4, h5, h6⟩, h7, h8, h9⟩ := hk.items i _ hi
  cases h3
  have hmv : a.eval m = .map (some b) := (evX_ok hk hm).1.trans h1
  have hu : (Go.underlying t).run Tryz.prog w = .ok (.map kt e) w := run_underlying ht w
  have hf := run_findKey K k w es.toList D0 h4
  have hset : ∀ o, (setObj b o).run Tryz.prog w = .ok () (setBlock w b o) := fun o => by simp [setObj, Sem.run, h2, setBlock]
  have up : ∀ {s : SV} {v : Value}, s.refs = [] → s.ok g hs0 v → s.ok g hs v := fun hc h => SV.ok_hs (fun i hi => by rw [hc] at hi; cases hi) h
  have hfin : ∀ (v : Value) (ob : Obj), (Instr.mapEntry t (.map (some b)) (enc k)).run Tryz.prog w = .ok v (setBlock w b ob) → N (a.put o.dst v) (setBlock w b ob) → Oper.upon Tryz.prog o a N (OnlyP c Z) ((execOp a.eval o).run Tryz.prog w) := fun v ob hr hn => by
    have hrun : (execOp a.eval o).run Tryz.prog w = .ok (.value v) (setBlock w b ob) := by
      have e : execOp a.eval o = (do pure (.value (← Instr.mapEntry t (a.eval m) (a.eval x))) : Sem Next) := by unfold execOp; rw [ho]
      rw [e, hmv, evKV_ok hk hx, Sem.run_bind, hr]
      simp
    rw [hrun]
    exact hn
  rcases pairs_get (k := k) h7 h9 with ⟨e1, e2⟩ | ⟨v, y, e1, e2, e3⟩
  · have hfd : findD k D0 0 = none := by
      unfold lookD at e1
      cases h : findD k D0 0 with
      | none => rfl
      | some p => rw [h] at e1; cases e1
    rw [hfd] at hf
    have hn := findD_none.1 hfd
    have hnD : k ∉ D.map (·.1) := by rw [← h7]; exact hn
    have hst : stampX k D es ck = ck := if_neg hnD
    have hlen : es.size = D.length := by
      have l1 := congrArg List.length h4
      have l2 := congrArg List.length h7
      simp at l1 l2
      omega
    refine hfin (.tuple #[zv, goInt ck]) (.map (es.push { key := enc k, val := zv, born := ck }) (ck + 1)) ?_ ?_
    · simp only [Instr.mapEntry, Sem.run_bind, hu, Result.andThen_ok, getObj, Sem.run, h2, K.check, hf, hz, hset, Sem.run_pure]
    · obtain ⟨he, hgm⟩ := eff_block (o' := .map (es.push { key := enc k, val := zv, born := ck }) (ck + 1)) hk hi rfl (by simp) h1 h2
      rw [e2, hst] at hN
      refine hN _ _ g he (fun q hq b' hb => ?_) ⟨[zv, goInt ck], rfl, up (hc _) (hz2 g), ⟨rfl, trivial⟩, trivial⟩ (fun p hp => ?_)
      · simp at hq
        subst hq
        rw [h1] at hb
        cases hb
        exact hgm
      · simp only [List.mem_singleton] at hp
        subst hp
        obtain ⟨p1, p2⟩ := pairs_put (T := T) (g := g) (k := k) (v := zv) (y := z) (hz2 g) h7 h9
        refine ⟨b, _, _, h1, heap_setBlock_same h2 _, ⟨putD k zv D0, ⟨?_, ?_, ?_⟩, p1, mput_nodup h8, p2⟩, es.size, ({ key := enc k, val := zv, born := ck } : MapEntry), by simp, rfl, ?_⟩
        · rw [putD_none hn]
          simp [h4]
        · simp only [Array.toList_push, List.map_append, List.map_cons, List.map_nil]
          rw [List.pairwise_append]
          exact ⟨h5, by simp, fun x hx y hy => by
            simp at hy
            subst hy
            obtain ⟨e, he, rfl⟩ := List.mem_map.1 hx
            exact h6 e he⟩
        · intro x hx
          simp at hx
          rcases hx with hx | rfl
          · have := h6 x (by simpa using hx); simp only at this ⊢; omega
          · simp
        · simp only [Option.getD_none]
          rw [mput_keys, if_neg hnD, hlen, List.getElem?_append_right (by simp)]
          simp
  · obtain ⟨j, hfd⟩ : ∃ j, findD k D0 0 = some (j, v) := by
      unfold lookD at e1
      cases h : findD k D0 0 with
      | none => rw [h] at e1; cases e1
      | some p =>
        rw [h] at e1
        cases e1
        exact ⟨p.1, rfl⟩
    rw [hfd] at hf
    obtain ⟨_, hD⟩ := findD_lt hfd
    rw [Nat.sub_zero] at hD
    obtain ⟨hin, hj⟩ := findD_idx hfd
    rw [Nat.zero_add, h7] at hj
    rw [h7] at hin
    have hjs : j < es.size := by
      have l1 := congrArg List.length h4
      simp at l1
      have := (List.getElem?_eq_some_iff.1 hD).1
      omega
    have hee : es[j]? = some es[j] := by simp [hjs]
    have hke : es[j].key = enc k := by
      have := congrArg (·[j]?) h4
      simp [hjs, hD] at this
      exact this.1
    have hst : stampX k D es ck = es[j].born := by
      unfold stampX
      rw [if_pos hin, ← hj, hee]
      rfl
    have hmod : (es.modify j fun e => { e with key := enc k }) = es := by
      refine Array.ext_getElem? fun q => ?_
      rw [Array.getElem?_modify]
      split
      · rename_i e
        subst e
        rw [hee, Option.map_some, ← hke]
      · rfl
    refine hfin (.tuple #[v, goInt (es[j].born)]) (.map es ck) ?_ ?_
    · have hmod' : (es.modify j fun e => { key := enc k, val := e.val, born := e.born }) = es := hmod
      simp only [Instr.mapEntry, Sem.run_bind, hu, Result.andThen_ok, getObj, Sem.run, h2, K.check, hf, hee, Option.map_some, Option.getD_some, hke, Instr.keyThatStays, K.bits, if_true, Sem.run_pure, hset, hmod']
    · obtain ⟨he, hgm⟩ := eff_block (o' := .map es ck) hk hi rfl (by simp) h1 h2
      rw [e2, hst] at hN
      refine hN _ _ g he (fun q hq b' hb => ?_) ⟨[v, goInt (es[j].born)], rfl, up (hc _) e3, ⟨rfl, trivial⟩, trivial⟩ (fun p hp => ?_)
      · simp at hq
        subst hq
        rw [h1] at hb
        cases hb
        exact hgm
      · simp only [List.mem_singleton] at hp
        subst hp
        simp only [Option.getD_some]
        rw [mput_same e2]
        refine ⟨b, _, _, h1, heap_setBlock_same h2 _, ⟨D0, ⟨h4, h5, h6⟩, h7, h8, h9⟩, j, es[j], hee, rfl, ?_⟩
        rw [← h7, List.getElem?_map, hD]
        rfl
theorem mt_lookupB {kt e t i : Nat} (K : KeyLaw kt enc) {k : κ} {m x : Operand} (z : α) {zv : Value} {b : Nat} (ho : o.op = .lookup t m x false) (ht : Tryz.prog.underlying t = some (.map kt e)) (hz : ∀ w, (zeroValue e).run Tryz.prog w = .ok zv w) (hz2 : ∀ g, (T.sv z).ok g hs0 zv)
    (hm : evX S.F m = some (.sv (.one (.own i)))) (hi : S.M[i]? = some (mapB enc T (mput k ((mget k D).getD z) D) k b)) (hx : evKV S.F x = some (enc k)) (hc : ∀ a, (T.sv a).refs = []) : MT c S o (.sv (T.sv ((mget k D).getD z))) [] none := by
  have := mt_val (c := c) (val_lookup K z ho ht hz hz2 (mapBAs enc T _ k b) hm hi hx hc)
  rw [mget_put, if_pos rfl] at this
  exact this
theorem WL.entryStore {t i b : Nat} {k : κ} {y : α} {m s v : Operand} (hn : c.n = n) (hw : wantE ops S.F o = some true) (ho : o.op = .entryStore t m s v)
    (hm : evX S.F m = some (.sv (.one (.own i)))) (hi : S.M[i]? = some (mapB enc T D k b)) (hs : evX S.F s = some (.sv (.one (I ((b : Nat) : Int))))) (hv : evX S.F v = some (.sv (T.sv y))) (hc : (T.sv y).refs = [])
    (e : putE n o.dst (.tup []) ⟨S.F, S.M.set i (mapI enc T (mput k y D))⟩ = some S1) (h : WL c ops rest S1 N) : WL c ops (o :: rest) S N := fun a w ⟨g, hs', hk⟩ => by
  unfold wpList
  rw [if_pos (wantE_ok hk hw)]
  refine .inl ?_
  unfold Oper.wp
  obtain ⟨mb, es, ck, h1, h2, ⟨D0, ⟨h4, h5, h6⟩, h7, h8, h9⟩, j, en, hj, hjb, hjk⟩ := hk.items i _ hi
  simp only at hj h4 h5 h6
  have hmv : a.eval m = .map (some mb) := (evX_ok hk hm).1.trans h1
  have hsv : a.eval s = .int .i64 ((b : Nat) : Int) := (evX_ok hk hs).1
  have hval : (T.sv y).ok g hs0 (a.eval v) := SV.ok_hs (fun i hi => by rw [hc] at hi; cases hi) (evX_ok hk hv)
  have hset : ∀ o, (setObj mb o).run Tryz.prog w = .ok () (setBlock w mb o) := fun o => by simp [setObj, Sem.run, h2, setBlock]
  have hjs : j < es.size := (Array.getElem?_eq_some_iff.1 hj).1
  have hfind : es.findIdx? (fun e => (e.born : Int) == ((b : Nat) : Int)) = some j := by
    rw [Array.findIdx?_eq_some_iff_getElem]
    have hej : es[j] = en := (Array.getElem?_eq_some_iff.1 hj).2
    refine ⟨hjs, by rw [hej, hjb]; simp, fun q hq => ?_⟩
    have hlt := List.pairwise_iff_getElem.1 h5 q j (by simp; omega) (by simpa using hjs) hq
    simp only [List.getElem_map, Array.getElem_toList] at hlt
    rw [hej, hjb] at hlt
    simp
    omega
  have hD : ∃ u, D0[j]? = some (k, u) := by
    rw [← h7, List.getElem?_map] at hjk
    cases hx : D0[j]? with
    | none => rw [hx] at hjk; cases hjk
    | some x =>
      rw [hx] at hjk
      simp only [Option.map_some, Option.some.injEq] at hjk
      exact ⟨x.2, by rw [← hjk]⟩
  obtain ⟨u, hD⟩ := hD
  have hfd : ∃ u', findD k D0 0 = some (j, u') := by
    cases hx : findD k D0 0 with
    | none => exact absurd (List.mem_map.2 ⟨_, List.mem_of_getElem? hD, rfl⟩) (findD_none.1 hx)
    | some x =>
      obtain ⟨j', u'⟩ := x
      obtain ⟨_, hD'⟩ := findD_lt hx
      rw [Nat.sub_zero] at hD'
      have hn : (D0.map (·.1)).Nodup := by rw [h7]; exact h8
      have e1 : (D0.map (·.1))[j]? = some k := by rw [List.getElem?_map, hD]; rfl
      have e2 : (D0.map (·.1))[j']? = some k := by rw [List.getElem?_map, hD']; rfl
      have hl1 := (List.getElem?_eq_some_iff.1 e1).1
      have : j = j' := (List.getElem?_inj hl1 hn).1 (e1.trans e2.symm)
      exact ⟨u', by rw [this]⟩
  obtain ⟨u', hfd⟩ := hfd
  have hrun : (execOp a.eval o).run Tryz.prog w = .ok .skip (setBlock w mb (.map (es.modify j fun e => { e with val := a.eval v }) ck)) := by
    have e : execOp a.eval o = (do Instr.entryStore t (a.eval m) (a.eval s) (a.eval v); pure .skip : Sem Next) := by unfold execOp; rw [ho]
    rw [e, hmv, hsv, Sem.run_bind]
    have : (Instr.entryStore t (.map (some mb)) (.int .i64 ((b : Nat) : Int)) (a.eval v)).run Tryz.prog w = .ok () (setBlock w mb (.map (es.modify j fun e => { e with val := a.eval v }) ck)) := by
      simp only [Instr.entryStore, Sem.run_bind, getObj, Sem.run, h2, Result.andThen_ok, asInt, asIntOf, Sem.run_pure, hfind, hset]
    rw [this]
    simp
  rw [hrun]
  obtain ⟨p1, p2⟩ := pairs_put (k := k) hval h7 h9
  have hes : (es.modify j fun e => { e with val := a.eval v }).toList.map (fun e => (e.key, e.val)) = (putD k (a.eval v) D0).map (fun x => (enc x.1, x.2)) := by
    rw [putD_some hfd, Nat.sub_zero]
    apply List.ext_getElem?
    intro q
    have hq := congrArg (·[q]?) h4
    simp only [List.getElem?_map, Array.getElem?_toList] at hq ⊢
    rw [Array.getElem?_modify, List.getElem?_set]
    by_cases e : j = q
    · subst e
      rw [hj, hD] at hq
      simp only [Option.map_some, Option.some.injEq, Prod.mk.injEq] at hq
      simp [hj, (List.getElem?_eq_some_iff.1 hD).1, hq.1]
    · rw [if_neg e, if_neg e]
      exact hq
  have hbn : (es.modify j fun e => { e with val := a.eval v }).toList.map (·.born) = es.toList.map (·.born) := by
    apply List.ext_getElem?
    intro q
    simp only [List.getElem?_map, Array.getElem?_toList, Array.getElem?_modify]
    split
    · rename_i e; subst e; simp [hj]
    · rfl
  have hlt : ∀ e ∈ (es.modify j fun e => { e with val := a.eval v }).toList, e.born < ck := fun x hx => by
    have : x.born ∈ es.toList.map (·.born) := by rw [← hbn]; exact List.mem_map.2 ⟨x, hx, rfl⟩
    obtain ⟨y, hy, e⟩ := List.mem_map.1 this
    rw [← e]
    exact h6 y hy
  have hgr : w.grownBy (setBlock w mb (.map (es.modify j fun e => { e with val := a.eval v }) ck)) (some mb) := ⟨rfl, rfl, rfl, by simp [setBlock], fun i _ hi => heap_setBlock_other h2 _ (fun e => hi (by rw [e]))⟩
  have hup := hk.upd (w' := setBlock w mb (.map (es.modify j fun e => { e with val := a.eval v }) ck)) (it' := mapI enc T (mput k y D)) hi rfl rfl (by rw [h1]; exact hgr)
    ⟨mb, _, _, h1, heap_setBlock_same h2 _, putD k (a.eval v) D0, ⟨hes, by rw [hbn]; exact h5, hlt⟩, p1, mput_nodup h8, p2⟩
  exact h _ _ ⟨g, hs', putE_ok hup hn undef_ok e⟩
end
end Go.Proofs.YtijgcihlodofdaaGreatDoor
namespace Go.Proofs.YtijgcihlodofdaaGreatDoor
open Go.RowKit Go.MapKept
set_option linter.unusedSimpArgs false
set_option linter.unusedVariables false
set_option maxRecDepth 100000
def pinR (pin : List Nat) (V : Nat → Value) : SC → SC
  | .sv (.one (.own i)) => bif pin.any (Nat.beq i) then .sv (.one (.pown i (V i))) else .sv (.one (.own i))
  | x => x
def RetR {β : Type} (c : Cfg) (rs : Array ResultVar) (pin : List Nat) (V : Nat → Value) (post : β → Prop) (out : β → SC) (M' : β → List Item) : Po := fun a w => a.defers = c.dfr ∧ ∃ v g hs r, (resR rs a.tmps).run Tryz.prog w = .ok v w ∧ post r ∧ (out r).ok g hs v ∧ (∀ i ∈ pin, hs i = V i) ∧ Base c w g ∧ ItemsOk c.may c.w0.heap.size (M' r) g hs w
theorem okArgs_pinR {g : Gh} {hs : Nat → Value} {pin : List Nat} : ∀ {l : List SC} {us : List Value}, okArgs g hs l us → okArgs g hs (l.map (pinR pin hs)) us
  | [], [], _ => trivial
  | [], _ :: _, h => h.elim
  | _ :: _, [], h => h.elim
  | x :: l, u :: us, h => by
    refine ⟨?_, okArgs_pinR h.2⟩
    have h1 := h.1
    unfold pinR
    split
    · rename_i i
      cases hc : pin.any (Nat.beq i) with
      | false => exact h1
      | true =>
        obtain ⟨h2, h3⟩ := h1
        exact ⟨⟨rfl, h2⟩, h3⟩
    · exact h1
theorem CtE.bodyR {β : Type} {f : Nat} {fn : Func} {code : Code} {n : Nat} {rs : Array ResultVar} {ins : List SC} {M : List Item} {pin : List Nat} {post : β → Prop} {out : β → SC} {M' : β → List Item} (hf : Tryz.prog.funcs[f]? = some fn) (hb : fn.body = some code) (hn : fn.ntmps = n) (hr : fn.results = rs)
    (hl : Nat.ble ins.length n = true) (h : ∀ (c : Cfg) (V : Nat → Value), c.n = n → En c ⟨enumF 0 (ins.map (pinR pin V)), M⟩ (cwp code (PQ c (RetR c rs pin V post out M') [] (RetR c rs pin V post out M')))) : CtE f ins M pin post out M' := fun w g hs args hp ha hm => by
  have hl := Nat.le_of_ble_eq_true hl
  have hla := okArgs_length ha
  refine calls_of_wp hf hb (Code.wp_mono (fun e a w' q => ?_) (h (cfgM n w g (mayM M hs)) hs rfl { tmps := args.toArray ++ Array.replicate (fn.ntmps - args.toArray.size) undef, defers := [] } w ⟨g, hs, ?_⟩))
  · have key : RetR (cfgM n w g (mayM M hs)) rs pin hs post out M' a w' → a.defers = [] ∧ ∃ v, (results fn a.tmps).run Tryz.prog w' = .ok v w' ∧ ∃ v' g' hs' r, Ending.returned v = .returned v' ∧ post r ∧ (out r).ok g' hs' v' ∧ (∀ i ∈ pin, hs' i = hs i) ∧ Base (cfgM 0 w g (mayM M hs)) w' g' ∧ ItemsOk (mayM M hs) w.heap.size (M' r) g' hs' w' := fun ⟨h1, v, g', hs', r, h2, h3, h4, h5, h6, h7⟩ => by
      refine ⟨h1, v, ?_, v, g', hs', r, rfl, h3, h4, h5, ⟨h6.os, h6.tape, h6.output, h6.grows, h6.frame, h6.ghle, h6.ghnew, h6.pers⟩, h7⟩
      subst hr
      exact h2
    cases e <;> first | exact key q | exact (q : False).elim | exact (q.2 : False).elim
  · refine ⟨?_, rfl, ⟨rfl, rfl, rfl, Nat.le_refl _, fun _ _ _ => rfl, Gh.le.refl g, fun b o e => .inl e, hp⟩, fun t x hx => ?_, hm.items, hm.sep, fun i it hi hn b hb => ?_⟩
    · simp [hn]
      omega
    · obtain ⟨u, h1, _, h3⟩ := enumF_ok (okArgs_pinR ha) hx
      simp only [Nat.sub_zero] at h1
      have hlt := (List.getElem?_eq_some_iff.1 h1).1
      have : (args.toArray ++ Array.replicate (fn.ntmps - args.toArray.size) undef).getD t undef = u := by
        rw [Array.getD_eq_getD_getElem?, Array.getElem?_append_left (by simpa using hlt)]
        simp [h1]
      rw [this]
      exact h3
    · obtain ⟨h1, h2⟩ := hm.mine i it hi hn b hb
      exact ⟨h1, fun hf => ⟨.inl ⟨i, it, hi, hf, hb⟩, (h2 hf).2⟩⟩
section
variable {c : Cfg} {S S1 : St} {tab : Tab}
theorem En.backR {β : Type} {post : β → Prop} {out : β → SC} {M' : β → List Item} {rs : Array ResultVar} {pin : List Nat} {V : Nat → Value} (ts : List Nat) (ht : tab.ok) (r : β) (hp : post r) (e : evR tab S rs = some (out r)) (hM : (dropM (M' r) S.M).1 = (dropM (M' r) S.M).2) (hB : ts.map (fun t => look t S.F) = pin.map fun i => some (.sv (.one (.pown i (V i))))) : En c S (RetR c rs pin V post out M') := fun a w ⟨g, hs, h⟩ => by
  obtain ⟨v, h1, h2⟩ := evR_ok ht h e
  have hM := dropM_ok hM
  have hm : ∀ (i : Nat) (it : Item), (M' r)[i]? = some it → it ≠ .gone → S.M[i]? = some it := fun i it hi hn => (hM i it hi).resolve_left hn
  refine ⟨h.defers, v, g, hs, r, h1, hp, h2, fun i hi => ?_, h.base, fun i it hi => ?_, fun i j it jt hij hi hj hfi hnj => h.sep i j it jt hij (hm i it hi (fz_gone hfi)) (hm j jt hj hnj) hfi hnj, fun i it hi hni => h.mine i it (hm i it hi hni) hni⟩
  · obtain ⟨j, hj⟩ := List.mem_iff_getElem?.1 hi
    have := congrArg (·[j]?) hB
    simp only [List.getElem?_map, hj, Option.map_some] at this
    cases ht : ts[j]? with
    | none => rw [ht] at this; simp at this
    | some t =>
      rw [ht] at this
      simp only [Option.map_some, Option.some.injEq] at this
      exact (h.slots t _ (look_mem this)).1.1
  · rcases hM i it hi with rfl | h1
    · trivial
    · exact h.items i it h1
end
abbrev gridI {α : Type} (tyo ty : Nat) (T : Ty α) (L : List (List α)) : Item := .grid tyo ty T.s (L.map fun l => some (rowR T l, l.length)) none
section
variable {c : Cfg} {S S1 : St} {a : Act} {w : World} {g : Gh} {hs : Nat → Value} {tab : Tab} {n : Nat} {o : Oper} {ops : Array Oper} {rest : List Oper} {N : Po}
theorem grid_row {α : Type} {T : Ty α} {L : List (List α)} {tyo ty : Nat} {v : Value} (h : (gridI tyo ty T L).ok g hs w v) {p : Nat} {l : List α} (hp : L[p]? = some l) : ∃ cs, w.ownsAt ty T.s (gpart v (p + 1)) l.length cs ∧ rowRead T l g cs := by
  obtain ⟨us, ocs, _, _, _, _, h4, _⟩ := h
  exact (h4 p (rowR T l) l.length (by rw [List.getElem?_map, hp]; rfl)).2
theorem grid_out {α : Type} {T : Ty α} {L : List (List α)} {tyo ty : Nat} {v : Value} (h : (gridI tyo ty T L).ok g hs w v) : ∃ us, w.ownsAt tyo 1 (gpart v 0) L.length us ∧ ∀ p, p < L.length → us[p]? = some (gpart v (p + 1)) := by
  obtain ⟨us, ocs, rfl, h2, h3, _, h4, _⟩ := h
  rw [List.length_map] at h2 h3
  refine ⟨ocs, h3, fun p hp => ?_⟩
  exact (h4 p (rowR T L[p]) L[p].length (by rw [List.getElem?_map, List.getElem?_eq_getElem hp]; rfl)).1
theorem run_indexOwn {t el s e : Nat} {ti te : TI} {v iv : Value} {ik : IntKind} {k : Int} {m : Nat} {cs : List Value} (ht : tab.ok) (h1 : tab t = some ti) (h2 : ti.sl = some el) (h3 : tab el = some te) (h4 : te.size = s) (h5 : 0 < s)
    (hv : w.ownsAt e s v m cs) (hi : iv = .int ik k) (hk : 0 ≤ k ∧ k < (m : Int)) : ∃ b of cap, v = .slice (some ⟨b, of, none⟩) m cap ∧ (Instr.indexAt t v iv).run Tryz.prog w = .ok (.pointer (some ⟨b, of + k.toNat * s, none⟩)) w := by
  have hu := slT_some ((ht t ti h1).sl.trans h2)
  obtain ⟨hl0, r1⟩ := hv
  subst hi
  rcases r1 with ⟨e1, e2⟩ | ⟨gb, of, cap, cur, e1, _⟩
  · omega
  · refine ⟨gb, of, cap, e1, ?_⟩
    simp only [Instr.indexAt, asIntOf, e1, Sem.run_bind, Sem.run_pure, Result.andThen_ok, run_underlying hu, if_pos hk, (ht el te h3).run_size, h4, svs_add]
theorem val_indexG0 {α : Type} {T : Ty α} {L : List (List α)} {i tyo ty : Nat} {k : Int} {t el : Nat} {ti te : TI} {x ix : Operand} {ik : IntKind} (ht : tab.ok) (ho : o.op = .indexAddr t x ix) (h1 : tab t = some ti) (h2 : ti.sl = some el) (h3 : tab el = some te) (h4 : te.size = 1)
    (hx : evX S.F x = some (.sv (.one (.gs i 0)))) (hm : S.M[i]? = some (gridI tyo ty T L)) (hi : evK S.F ix = some (.int ik k)) (hk : 0 ≤ k ∧ k < (L.length : Int)) : Val c S o (.sv (.one (.ge i 0 k.toNat 1))) := fun a w g hs h => by
  have hv : a.eval x = gpart (hs i) 0 := (evX_ok h hx).1
  obtain ⟨us, r1, _⟩ := grid_out (h.items i _ hm)
  rw [← hv] at r1
  obtain ⟨b, of, cap, e1, e2⟩ := run_indexOwn (iv := a.eval ix) ht h1 h2 h3 h4 (by decide) r1 (evK_ok h hi) hk
  refine ⟨.pointer (some ⟨b, of + k.toNat * 1, none⟩), ?_, ⟨b, of, L.length, cap, by rw [← hv]; exact e1, rfl⟩, trivial⟩
  have : (execOp a.eval o) = (do pure (.value (← Instr.indexAt t (a.eval x) (a.eval ix))) : Sem Next) := by unfold execOp; rw [ho]
  rw [this]
  exact run_val e2
theorem val_indexG {α : Type} {T : Ty α} {L : List (List α)} {l : List α} {i p tyo ty : Nat} {k : Int} {t el : Nat} {ti te : TI} {x ix : Operand} {ik : IntKind} (ht : tab.ok) (ho : o.op = .indexAddr t x ix) (h1 : tab t = some ti) (h2 : ti.sl = some el) (h3 : tab el = some te) (h4 : te.size = T.s) (h5 : 0 < T.s)
    (hx : evX S.F x = some (.sv (.one (.gs i (p + 1))))) (hm : S.M[i]? = some (gridI tyo ty T L)) (hp : L[p]? = some l) (hi : evK S.F ix = some (.int ik k)) (hk : 0 ≤ k ∧ k < (l.length : Int)) : Val c S o (.sv (.one (.ge i (p + 1) k.toNat T.s))) := fun a w g hs h => by
  have hv : a.eval x = gpart (hs i) (p + 1) := (evX_ok h hx).1
  obtain ⟨cs, r1, _⟩ := grid_row (h.items i _ hm) hp
  rw [← hv] at r1
  obtain ⟨b, of, cap, e1, e2⟩ := run_indexOwn (iv := a.eval ix) ht h1 h2 h3 h4 h5 r1 (evK_ok h hi) hk
  refine ⟨.pointer (some ⟨b, of + k.toNat * T.s, none⟩), ?_, ⟨b, of, l.length, cap, by rw [← hv]; exact e1, rfl⟩, trivial⟩
  have : (execOp a.eval o) = (do pure (.value (← Instr.indexAt t (a.eval x) (a.eval ix))) : Sem Next) := by unfold execOp; rw [ho]
  rw [this]
  exact run_val e2
theorem own_cell {e s : Nat} {v : Value} {m : Nat} {cs : List Value} (hv : w.ownsAt e s v m cs) {b of cap q : Nat} (e1 : v = .slice (some ⟨b, of, none⟩) m cap) {k j : Nat} {u : Value} (hj : cs[k * s + j]? = some u) : w.cell? ((⟨b, of + k * s, none⟩ : Addr).add j) = some u := by
  obtain ⟨hl0, r1⟩ := hv
  rw [svs_add]
  rcases r1 with ⟨e3, _⟩ | ⟨gb, of', cap', cur, e3, e4, _, _, _, e5⟩
  · rw [e1] at e3; cases e3
  · rw [e1] at e3
    simp at e3
    obtain ⟨⟨rfl, rfl⟩, rfl⟩ := e3
    unfold World.cell?
    rw [e4]
    rw [← e5, List.getElem?_take] at hj
    split at hj
    · rw [List.getElem?_drop] at hj
      simpa [Nat.add_assoc] using hj
    · cases hj
theorem val_loadG0 {α : Type} {T : Ty α} {L : List (List α)} {i p tyo ty t : Nat} {ti : TI} {x : Operand} (ht : tab.ok) (ho : o.op = .load t x) (h1 : tab t = some ti) (h3 : ti.agg = false)
    (hx : evX S.F x = some (.sv (.one (.ge i 0 p 1)))) (hm : S.M[i]? = some (gridI tyo ty T L)) (hp : p < L.length) : Val c S o (.sv (.one (.gs i (p + 1)))) := fun a w g hs h => by
  obtain ⟨⟨b, of, nn, cap, e1, e2⟩, _⟩ := evX_ok h hx
  have hit := h.items i _ hm
  obtain ⟨us, r1, r2⟩ := grid_out hit
  obtain ⟨cs, r3, _⟩ := grid_row hit (List.getElem?_eq_getElem hp)
  have htk := ht t ti h1
  have hsl := ownsRow_slice r3
  have hcv : cellV (gpart (hs i) (p + 1)) := by obtain ⟨ao, m, cp, e⟩ := hsl; rw [e]; trivial
  have hnn : nn = L.length := by
    obtain ⟨_, r⟩ := r1
    rcases r with ⟨e3, _⟩ | ⟨gb, of', cap', cur, e3, _⟩
    · rw [e1] at e3; cases e3
    · rw [e1] at e3; simp at e3; exact e3.2.1
  subst hnn
  have hc := own_cell (q := 0) r1 e1 (k := p) (j := 0) (u := gpart (hs i) (p + 1)) (by rw [Nat.mul_one, Nat.add_zero]; exact r2 p hp)
  rw [svs_add, Nat.add_zero, Nat.mul_one] at hc
  have : (execOp a.eval o) = (do pure (.value (← Instr.loadAt t (a.eval x))) : Sem Next) := by unfold execOp; rw [ho]
  rw [this]
  refine ⟨gpart (hs i) (p + 1), run_val ?_, rfl, hcv⟩
  simp only [Instr.loadAt, e2, Instr.sureAddr, loadVar, Sem.run_bind, Sem.run_pure, Result.andThen_ok, htk.run_isAgg]
  rw [h3]
  simp [load, Sem.run, hc]
theorem val_loadG {α : Type} {T : Ty α} {L : List (List α)} {l : List α} {i p k tyo ty t : Nat} {y : α} {ti : TI} {x : Operand} (ht : tab.ok) (ho : o.op = .load t x) (h1 : tab t = some ti) (h2 : ti.size = T.s) (h3 : svFits ti (T.sv y) = true)
    (hx : evX S.F x = some (.sv (.one (.ge i (p + 1) k T.s)))) (hm : S.M[i]? = some (gridI tyo ty T L)) (hp : L[p]? = some l) (hy : l[k]? = some y) (hc : (T.sv y).refs = []) : Val c S o (.sv (T.sv y)) := fun a w g hs h => by
  obtain ⟨⟨b, of, nn, cap, e1, e2⟩, _⟩ := evX_ok h hx
  obtain ⟨cs, r1, r2⟩ := grid_row (h.items i _ hm) hp
  have htk := ht t ti h1
  have hnn : nn = l.length := by
    obtain ⟨_, r⟩ := r1
    rcases r with ⟨e3, _⟩ | ⟨gb, of', cap', cur, e3, _⟩
    · rw [e1] at e3; cases e3
    · rw [e1] at e3; simp at e3; exact e3.2.1
  subst hnn
  obtain ⟨u, u1, u2, u3⟩ := row_elem r2 hy
  have : (execOp a.eval o) = (do pure (.value (← Instr.loadAt t (a.eval x))) : Sem Next) := by unfold execOp; rw [ho]
  rw [this]
  have u1' : (T.sv y).ok g hs u := SV.ok_hs (fun i hi => by rw [hc] at hi; cases hi) u1
  refine ⟨u, run_val ?_, u1'⟩
  have hcell : ∀ j v, u.cells.toList[j]? = some v → w.cell? ((⟨b, of + k * T.s, none⟩ : Addr).add j) = some v := fun j v hj => own_cell (q := 0) r1 e1 (u3 j v (by simpa using hj))
  simp only [Instr.loadAt, e2, Instr.sureAddr, loadVar, Sem.run_bind, Sem.run_pure, Result.andThen_ok, htk.run_isAgg]
  cases hsv : T.sv y with
  | agg l' =>
    rw [hsv] at h3 u1
    simp only [svFits] at h3
    rw [h3]
    obtain ⟨cs', rfl, _⟩ := u1
    have hl := run_loadCells_list (P := Tryz.prog) w ⟨b, of + k * T.s, none⟩ cs' (by simpa [Value.cells] using hcell)
    have e5 : cs'.length = ti.size := by rw [h2, ← u2]; simp [Value.cells]
    rw [e5] at hl
    simp [htk.run_size, hl]
  | one x =>
    rw [hsv] at h3 u1
    have h3' : ti.agg = false ∧ cellV u := by
      have h6 := u1.2
      cases x <;> first | exact ⟨by simpa [svFits] using h3, h6⟩ | (simp [svFits] at h3)
    have hcv : u.cells = #[u] := cellV.cells h3'.2
    rw [h3'.1]
    have := hcell 0 u (by rw [hcv]; rfl)
    rw [svs_add, Nat.add_zero] at this
    simp [load, Sem.run, this]
theorem run_storeOwn {α : Type} {T : Ty α} {l : List α} {t e : Nat} {ti : TI} {v pv uv : Value} {k : Nat} {y : α} {cs : List Value} (htk : TI.ok t ti) (h2 : ti.size = T.s) (hT : T.solid) (r : w.ownsAt e T.s v l.length cs) (r2 : rowRead T l g cs) {b of nn cap : Nat} (e1 : v = .slice (some ⟨b, of, none⟩) nn cap) (e2 : pv = .pointer (some ⟨b, of + k * T.s, none⟩)) (hk : k < l.length)
    (hval0 : (T.sv y).ok g hs0 uv) (hz : (svCells (T.sv y)).length = T.s) : ∃ w', (Instr.storeAt t pv uv).run Tryz.prog w = .ok () w' ∧ w.grownBy w' (some b) ∧ ∃ cs', w'.ownsAt e T.s v l.length cs' ∧ rowRead T (l.set k y) g cs' := by
  obtain ⟨hl0, r1⟩ := r
  have hcells := sv_cells (hT y) hval0
  have hlen : uv.cells.toList.length = T.s := by rw [← oks_length hcells]; exact hz
  rcases r1 with ⟨e3, e4⟩ | ⟨gb, of', cap', cur, e3, e4, e5, e6, e7, e8⟩
  · omega
  · rw [e1] at e3
    simp at e3
    obtain ⟨⟨rfl, rfl⟩, rfl, rfl⟩ := e3
    have hkl : k * T.s + T.s ≤ l.length * T.s := by rw [← Nat.succ_mul]; exact Nat.mul_le_mul_right _ hk
    have hlc : of + l.length * T.s ≤ cur.size := Nat.le_trans (Nat.add_le_add_left (Nat.mul_le_mul_right _ e5) _) e7
    have hst := run_storeCells_at (P := Tryz.prog) b (of + k * T.s) e uv.cells.toList 0 cur w e4 (by rw [hlen, Nat.add_zero, Nat.add_assoc]; exact Nat.le_trans (Nat.add_le_add_left hkl _) hlc) (fun u hu => (oks_cells hcells u hu).one)
    simp only [Nat.add_zero] at hst
    refine ⟨w.setRow b (cur.toList.take (of + k * T.s) ++ uv.cells.toList ++ cur.toList.drop (of + k * T.s + uv.cells.toList.length)).toArray, ?_, ?_, ?_⟩
    · simp only [Instr.storeAt, e2, Instr.sureAddr, storeVar, Sem.run_bind, Sem.run_pure, Result.andThen_ok, htk.run_size]
      rw [if_neg (by rw [h2]; simp at hlen; simp [hlen])]
      simp only [hst, Result.andThen_ok, Sem.run_pure]
    · exact ⟨rfl, rfl, rfl, by simp, fun q hq hne => setRow_other w b q _ (fun e => hne (by rw [e]))⟩
    · have hset := r2.set hk hval0 (by rw [← hlen]; simp)
      refine ⟨_, ⟨by have := hset.length; rw [List.length_set] at this; exact this, .inr ⟨b, of, cap, _, by rw [e1], setRow_heap w b _ _ _ _ e4, e5, e6, ?_, ?_⟩⟩, hset⟩
      · simp only [List.size_toArray, List.length_append, List.length_take, List.length_drop, Array.length_toList] at hlen ⊢
        omega
      · show (List.drop of (_ ++ uv.cells.toList ++ _)).take _ = _
        rw [drop_seg _ _ (by rw [Array.length_toList]; exact Nat.le_trans (Nat.add_le_add_left (Nat.le_trans (Nat.le_add_right _ _) hkl) _) hlc), ← e8, hlen]
        exact seg_take (cur.toList.drop of) uv.cells.toList (k * T.s) T.s (l.length * T.s) hlen hkl (by rw [List.length_drop, Array.length_toList]; exact Nat.le_sub_of_add_le (by rw [Nat.add_comm]; exact hlc))
theorem WL.storeG {α : Type} {T : Ty α} {L : List (List α)} {l : List α} {i p k tyo ty t : Nat} {y : α} {ti : TI} {x v : Operand} {S1 : St} (ht : tab.ok) (hn : c.n = n) (hw : wantE ops S.F o = some true) (ho : o.op = .store t x v) (h1 : tab t = some ti) (h2 : ti.size = T.s) (hT : T.solid)
    (hx : evX S.F x = some (.sv (.one (.ge i (p + 1) k T.s)))) (hm : S.M[i]? = some (gridI tyo ty T L)) (hp : L[p]? = some l) (hk : k < l.length) (hv : evX S.F v = some (.sv (T.sv y))) (hz : (svCells (T.sv y)).length = T.s) (hc : (T.sv y).refs = [])
    (e : putE n o.dst (.tup []) ⟨S.F, S.M.set i (gridI tyo ty T (L.set p (l.set k y)))⟩ = some S1) (h : WL c ops rest S1 N) : WL c ops (o :: rest) S N := fun a w ⟨g, hs, hh⟩ => by
  unfold wpList
  rw [if_pos (wantE_ok hh hw)]
  refine .inl ?_
  unfold Oper.wp
  obtain ⟨⟨b, of, nn, cap, e1, e2⟩, _⟩ := evX_ok hh hx
  have hit := hh.items i _ hm
  obtain ⟨cs, r1, r2⟩ := grid_row hit hp
  have hval : (T.sv y).ok g hs (a.eval v) := evX_ok hh hv
  have hval0 : (T.sv y).ok g hs0 (a.eval v) := SV.ok_hs (fun i hi => by rw [hc] at hi; cases hi) hval
  obtain ⟨w', k1, k2, cs', k3, k4⟩ := run_storeOwn (ht t ti h1) h2 hT r1 r2 e1 e2 hk hval0 hz
  obtain ⟨us, ocs, u1, u2, u3, u3', u4, u4', _, u5⟩ := hit
  have hpl := (List.getElem?_eq_some_iff.1 hp).1
  rw [List.length_map] at u2
  have hbp : blk (gpart (hs i) (p + 1)) = some b := by rw [e1]; rfl
  have hne : ∀ q, q < us.length → q ≠ p + 1 → (gpart (hs i) q).ownBlock = none ∨ (gpart (hs i) q).ownBlock ≠ some b := fun q hq hqp => by
    cases hb : (gpart (hs i) q).ownBlock with
    | none => exact .inl rfl
    | some b' => exact .inr (fun e => by cases e; exact u5 (p + 1) q b (by omega) hq (fun e => hqp e.symm) hbp (ownBlock_blk' hb))
  have hup := hh.updK (w' := w') (it' := gridI tyo ty T (L.set p (l.set k y))) hm rfl rfl (kb := some b) (fun b' e => by cases e; exact Blk.part u1 (by omega) hbp) k2 (by
    refine ⟨us, ocs, u1, by rw [List.length_map, List.length_set]; exact u2, ?_, u3', fun q r n hq => ?_, fun q hq => by rw [List.getElem?_map] at hq; cases hx : (L.set p (l.set k y))[q]? <;> (rw [hx] at hq; simp at hq), (fun p k e => by cases e), u5⟩
    · rw [List.length_map, List.length_set]
      rw [List.length_map] at u3
      exact u3.kept k2 (hne 0 (by omega) (by omega))
    · rw [List.getElem?_map, List.getElem?_set] at hq
      by_cases e : p = q
      · subst e
        rw [if_pos rfl, if_pos hpl] at hq
        simp only [Option.map_some, Option.some.injEq, Prod.mk.injEq] at hq
        obtain ⟨rfl, rfl⟩ := hq
        rw [List.length_set]
        exact ⟨(u4 p (rowR T l) l.length (by rw [List.getElem?_map, hp]; rfl)).1, cs', k3, k4⟩
      · rw [if_neg e] at hq
        obtain ⟨k0, cs2, k5, k6⟩ := u4 q r n (by rw [List.getElem?_map]; exact hq)
        have hql : q < L.length := by
          cases hL : L[q]? with
          | none => rw [hL] at hq; simp at hq
          | some _ => exact (List.getElem?_eq_some_iff.1 hL).1
        exact ⟨k0, cs2, k5.kept k2 (hne (q + 1) (by omega) (by omega)), k6⟩)
  have hrun : (execOp a.eval o).run Tryz.prog w = .ok .skip w' := by
    have : execOp a.eval o = (do Instr.storeAt t (a.eval x) (a.eval v); pure .skip : Sem Next) := by unfold execOp; rw [ho]
    rw [this]
    simp only [Sem.run_bind, k1, Result.andThen_ok, Sem.run_pure]
  rw [hrun]
  exact h _ _ ⟨g, hs, putE_ok hup hn undef_ok e⟩
end
def At.subG (a : At) (i : Nat) (b : At) : At := match a with
  | .gs j 0 => match Nat.beq j i with
    | true => b
    | false => .gs j 0
  | a => a
def SV.subG (s : SV) (i : Nat) (b : At) : SV := match s with
  | .one a => .one (a.subG i b)
  | .agg l => .agg (l.map (·.subG i b))
def SC.subG (x : SC) (i : Nat) (b : At) : SC := match x with
  | .sv s => .sv (s.subG i b)
  | .tup l => .tup (l.map (·.subG i b))
def Item.subG (it : Item) (i : Nat) (b : At) : Item := match it with
  | .box cells ty fz => .box (cells.map (·.subG i b)) ty fz
  | it => it
section
variable {g : Gh} {hs : Nat → Value} {i : Nat} {b : At}
theorem At.subG_ok (hb : b.ok g hs (gpart (hs i) 0)) {a : At} {u : Value} (h : a.ok g hs u) : (a.subG i b).ok g hs u := by
  unfold At.subG
  split
  · rename_i j
    cases hj : Nat.beq j i with
    | true =>
      have := Nat.eq_of_beq_eq_true hj
      subst this
      have : u = gpart (hs j) 0 := h.1
      subst this
      exact hb
    | false => exact h
  · exact h
theorem oks_subG (hb : b.ok g hs (gpart (hs i) 0)) : ∀ {l : List At} {us : List Value}, oks g hs l us → oks g hs (l.map (·.subG i b)) us
  | [], [], _ => trivial
  | [], _ :: _, h => h.elim
  | _ :: _, [], h => h.elim
  | _ :: _, _ :: _, h => ⟨At.subG_ok hb h.1, h.2.1, oks_subG hb h.2.2⟩
theorem SV.subG_ok (hb : b.ok g hs (gpart (hs i) 0)) {a : SV} {u : Value} (h : a.ok g hs u) : (a.subG i b).ok g hs u := by
  cases a with
  | one a => exact At.subG_ok hb h
  | agg l =>
    obtain ⟨cs, h1, h2⟩ := h
    exact ⟨cs, h1, oks_subG hb h2⟩
theorem svs_subG (hb : b.ok g hs (gpart (hs i) 0)) : ∀ {l : List SV} {us : List Value}, SV.oks g hs l us → SV.oks g hs (l.map (·.subG i b)) us
  | [], [], _ => trivial
  | [], _ :: _, h => h.elim
  | _ :: _, [], h => h.elim
  | _ :: _, _ :: _, h => ⟨SV.subG_ok hb h.1, svs_subG hb h.2⟩
theorem SC.subG_ok (hb : b.ok g hs (gpart (hs i) 0)) {a : SC} {u : Value} (h : a.ok g hs u) : (a.subG i b).ok g hs u := by
  cases a with
  | sv s => exact SV.subG_ok hb h
  | tup l =>
    obtain ⟨cs, h1, h2⟩ := h
    exact ⟨cs, h1, svs_subG hb h2⟩
end
section
variable {c : Cfg} {S S1 : St} {a : Act} {w : World} {g : Gh} {hs : Nat → Value} {tab : Tab} {n : Nat} {o : Oper} {ops : Array Oper} {rest L : List Oper} {N : Po}
theorem grid_LS {α : Type} {T : Ty α} {L : List (List α)} {tyo ty : Nat} {v : Value} {g' : Gh} (h : (gridI tyo ty T L).ok g hs w v) (hle : Gh.le g g') (hb : ∀ b, Blk v b → g' b = w.heap[b]?) : (LS (lsT T) L).ok g' hs (gpart v 0) := by
  have hrow := fun p l hp => grid_row h (p := p) (l := l) hp
  obtain ⟨us, ocs, hv, h2, h3, hsl, h4, _, _, h5⟩ := h
  rw [List.length_map] at h2 h3
  have hg : ∀ k, k < us.length → ∀ b, (gpart v k).ownBlock = some b → g' b = w.heap[b]? := fun k hk b e => hb b (Blk.part hv hk (ownBlock_blk' e))
  have hlo : ocs.length = L.length := by have := h3.1; omega
  have hd : ∀ p u, ocs[p]? = some u → p < L.length ∧ u = gpart v (p + 1) := fun p u hp => by
    have hlt := (List.getElem?_eq_some_iff.1 hp).1
    have hlt' : p < L.length := by omega
    refine ⟨hlt', ?_⟩
    have := (h4 p (rowR T L[p]) L[p].length (by rw [List.getElem?_map, List.getElem?_eq_getElem hlt']; rfl)).1
    rw [hp] at this
    exact Option.some.inj this
  have hcell : ∀ u ∈ ocs, u.cells = #[u] := fun u hu => by
    obtain ⟨ao, m, cp, e⟩ := hsl u hu
    rw [e]
    rfl
  have h3' : w.ownsAt tyo (lsT T).s (gpart v 0) L.length ocs := h3
  refine row_LS h3' (g := g') ⟨ocs, ?_, hlo, fun k u l hu hl => ?_⟩ (fun _ _ e => e) (hg 0 (by omega))
  · have : ∀ l : List Value, (∀ u ∈ l, u.cells = #[u]) → l = l.flatMap fun u => u.cells.toList := fun l => by
      induction l with
      | nil => intro _; rfl
      | cons u l ih =>
        intro hc
        rw [List.flatMap_cons, hc u List.mem_cons_self, ← ih fun x hx => hc x (List.mem_cons_of_mem _ hx)]
        rfl
    exact this _ hcell
  · obtain ⟨h6, rfl⟩ := hd k u hu
    obtain ⟨cs, r1, r2⟩ := hrow k l hl
    refine ⟨row_LS r1 r2 hle (hg (k + 1) (by omega)), ?_⟩
    rw [hcell _ (List.mem_of_getElem? hu)]
    rfl
def sealG (S : St) (i : Nat) (b : At) : St := ⟨S.F.map fun e => (e.1, e.2.subG i b), (S.M.set i .gone).map (·.subG i b)⟩
theorem Ok'.sealG' {α : Type} {T : Ty α} {L : List (List α)} {tyo ty i : Nat} (h : Ok' c S a w g hs) (hm : S.M[i]? = some (gridI tyo ty T L)) : ∃ g', Gh.le g g' ∧ (∀ b, Blk (hs i) b → g' b = w.heap[b]?) ∧ Ok' c (sealG S i (LS (lsT T) L)) a w g' hs := by
  classical
  have hit := h.items i _ hm
  have hmine := h.mine i _ hm (by simp)
  let g' : Gh := fun x => if Blk (hs i) x then w.heap[x]? else g x
  have hle : Gh.le g g' := fun x o e => by
    show (if Blk (hs i) x then _ else g x) = some o
    by_cases hx : Blk (hs i) x
    · have := (hmine x hx).2 rfl
      rw [this.2] at e
      cases e
    · rw [if_neg hx]; exact e
  have hb : (LS (lsT T) L).ok g' hs (gpart (hs i) 0) := grid_LS hit hle (fun b hb => if_pos hb)
  have hset : ∀ (j : Nat) (jt : Item), ((S.M.set i .gone).map (·.subG i (LS (lsT T) L)))[j]? = some jt → jt ≠ .gone → ∃ kt, j ≠ i ∧ S.M[j]? = some kt ∧ jt = kt.subG i (LS (lsT T) L) ∧ kt ≠ .gone ∧ jt.fz = kt.fz := fun j jt hj hn => by
    rw [List.getElem?_map, List.getElem?_set] at hj
    by_cases e : i = j
    · rw [if_pos e] at hj
      split at hj
      · simp [Item.subG] at hj
        exact absurd hj.symm hn
      · cases hj
    · rw [if_neg e] at hj
      cases hk : S.M[j]? with
      | none => rw [hk] at hj; cases hj
      | some kt =>
        rw [hk] at hj
        simp at hj
        refine ⟨kt, Ne.symm e, rfl, hj.symm, fun e => ?_, ?_⟩
        · subst e; exact hn hj.symm
        · rw [← hj]; cases kt <;> rfl
  refine ⟨g', hle, fun b hb => if_pos hb, h.size, h.defers, ⟨h.base.os, h.base.tape, h.base.output, h.base.grows, h.base.frame, h.base.ghle.trans hle, fun x o e => ?_, fun x o e => ?_⟩, fun t x hx => ?_, fun j jt hj => ?_, fun j k jt kt hjk hj hk hfj hnk x hx => ?_, fun j jt hj hnj x hx => ?_⟩
  · by_cases hx : Blk (hs i) x
    · exact .inr ((hmine x hx).2 rfl).1
    · rw [show g' x = g x from if_neg hx] at e
      exact h.base.ghnew x o e
  · by_cases hx : Blk (hs i) x
    · rw [show g' x = w.heap[x]? from if_pos hx] at e
      exact e
    · rw [show g' x = g x from if_neg hx] at e
      exact h.base.pers x o e
  · obtain ⟨y, hy, e⟩ := List.mem_map.1 hx
    cases e
    exact SC.subG_ok hb (SC.mono hle (h.slots _ _ hy))
  · by_cases hn : jt = .gone
    · subst hn; trivial
    · obtain ⟨kt, h1, h2, rfl, h3, _⟩ := hset j jt hj hn
      have h4 := Item.mono hle (h.items j kt h2)
      cases kt with
      | box cells ty fz =>
        obtain ⟨b, us, k1, k2, k3, k4⟩ := h4
        exact ⟨b, us, k1, oks_subG hb k2, k3, k4⟩
      | _ => exact h4
  · obtain ⟨jt', h1, h2, rfl, h3, h4⟩ := hset j jt hj (fz_gone hfj)
    obtain ⟨kt', k1, k2, rfl, k3, k4⟩ := hset k kt hk hnk
    exact h.sep j k jt' kt' hjk h2 k2 (by rw [← h4]; exact hfj) k3 x hx
  · obtain ⟨jt', h1, h2, rfl, h3, h4⟩ := hset j jt hj hnj
    obtain ⟨m1, m2⟩ := h.mine j jt' h2 h3 x hx
    refine ⟨m1, fun hf => ?_⟩
    rw [h4] at hf
    refine ⟨(m2 hf).1, ?_⟩
    have hx' : ¬ Blk (hs i) x := fun e => h.sep j i jt' _ h1 h2 hm hf (by simp) x hx e
    rw [show g' x = g x from if_neg hx']
    exact (m2 hf).2
theorem Ok'.sealG {α : Type} {T : Ty α} {L : List (List α)} {tyo ty i : Nat} (h : Ok' c S a w g hs) (hm : S.M[i]? = some (gridI tyo ty T L)) : ∃ g', Ok' c (Proofs.YtijgcihlodofdaaGreatDoor.sealG S i (LS (lsT T) L)) a w g' hs := by
  obtain ⟨g', _, _, h'⟩ := h.sealG' hm
  exact ⟨g', h'⟩
theorem WL.sealG {α : Type} {T : Ty α} {L' : List (List α)} {tyo ty : Nat} (i : Nat) (hm : S.M[i]? = some (gridI tyo ty T L')) (h : WL c ops L (sealG S i (LS (lsT T) L')) N) : WL c ops L S N := fun a w ⟨g, hs, hk⟩ => by
  obtain ⟨g', hk'⟩ := hk.sealG hm
  exact h a w ⟨g', hs, hk'⟩
theorem En.sealG {α : Type} {T : Ty α} {L' : List (List α)} {tyo ty : Nat} (i : Nat) (hm : S.M[i]? = some (gridI tyo ty T L')) (h : En c (Proofs.YtijgcihlodofdaaGreatDoor.sealG S i (LS (lsT T) L')) N) : En c S N := fun a w ⟨g, hs, hk⟩ => by
  obtain ⟨g', hk'⟩ := hk.sealG hm
  exact h a w ⟨g', hs, hk'⟩
theorem own_slice {e : TypeId} {s m : Nat} {v : Value} {cs : List Value} (h : w.ownsAt e s v m cs) : ∃ ao cap, v = .slice ao m cap := by
  obtain ⟨_, h⟩ := h
  rcases h with ⟨rfl, rfl⟩ | ⟨gb, of, cap, cur, rfl, _⟩
  · exact ⟨none, 0, rfl⟩
  · exact ⟨_, cap, rfl⟩
theorem run_lenOwn {t el : Nat} {ti : TI} {x : Operand} {e : TypeId} {s m : Nat} {cs : List Value} (ht : tab.ok) (ho : o.op = .call ⟨.builtin .len, #[x], #[t]⟩) (h1 : tab t = some ti) (h2 : ti.sl = some el) (h : w.ownsAt e s (a.eval x) m cs) : (execOp a.eval o).run Tryz.prog w = .ok (.value (.int .i64 m)) w := by
  have hu := slT_some ((ht t ti h1).sl.trans h2)
  obtain ⟨ao, cap, e1⟩ := own_slice h
  have : execOp a.eval o = (do pure (.value (← Builtin.len_ #[t] o.type #[a.eval x])) : Sem Next) := by
    unfold execOp
    rw [ho]
    simp [resolve, invoke, builtin]
  rw [this, e1]
  exact run_val (len_slice hu w)
theorem val_lenG0 {α : Type} {T : Ty α} {L : List (List α)} {i tyo ty t el : Nat} {ti : TI} {x : Operand} (ht : tab.ok) (ho : o.op = .call ⟨.builtin .len, #[x], #[t]⟩) (h1 : tab t = some ti) (h2 : ti.sl = some el) (hx : evX S.F x = some (.sv (.one (.gs i 0)))) (hm : S.M[i]? = some (gridI tyo ty T L)) : Val c S o (.sv (.one (I (L.length : Int)))) := fun a w g hs h => by
  obtain ⟨us, r1, _⟩ := grid_out (h.items i _ hm)
  have hv : a.eval x = gpart (hs i) 0 := (evX_ok h hx).1
  rw [← hv] at r1
  exact ⟨_, run_lenOwn ht ho h1 h2 r1, rfl, trivial⟩
theorem val_lenG {α : Type} {T : Ty α} {L : List (List α)} {l : List α} {i p tyo ty t el : Nat} {ti : TI} {x : Operand} (ht : tab.ok) (ho : o.op = .call ⟨.builtin .len, #[x], #[t]⟩) (h1 : tab t = some ti) (h2 : ti.sl = some el) (hx : evX S.F x = some (.sv (.one (.gs i (p + 1))))) (hm : S.M[i]? = some (gridI tyo ty T L)) (hp : L[p]? = some l) : Val c S o (.sv (.one (I (l.length : Int)))) := fun a w g hs h => by
  obtain ⟨cs, r1, _⟩ := grid_row (h.items i _ hm) hp
  have hv : a.eval x = gpart (hs i) (p + 1) := (evX_ok h hx).1
  rw [← hv] at r1
  exact ⟨_, run_lenOwn ht ho h1 h2 r1, rfl, trivial⟩
def nilT : Ty Unit := ⟨1, fun _ => .one (.v (.slice none 0 0))⟩
theorem nil_cells {k : Nat} {cs : List Value} (h : rowRead nilT (List.replicate k ()) g cs) : cs = List.replicate k (.slice none 0 0) := by
  obtain ⟨us, rfl, h2, h3⟩ := h
  have hu : ∀ u ∈ us, u = .slice none 0 0 := fun u hu => by
    obtain ⟨q, hq⟩ := List.mem_iff_getElem?.1 hu
    have hlt := (List.getElem?_eq_some_iff.1 hq).1
    rw [h2, List.length_replicate] at hlt
    exact (h3 q u () hq (by simp [hlt])).1.1
  have e : us = List.replicate k (.slice none 0 0) := List.eq_replicate_iff.2 ⟨by rw [h2, List.length_replicate], hu⟩
  subst e
  clear hu h2 h3
  induction k with
  | zero => rfl
  | succ k ih =>
    rw [List.replicate_succ, List.flatMap_cons, ih]
    rfl
theorem mt_makeG {α : Type} (T : Ty α) (ty : Nat) {zv : Value} (p : Nat) {t e : Nat} {ti te : TI} {x y : Operand} {k1 k2 : IntKind} {l cp : Int} (ht : tab.ok) (ho : o.op = .makeSlice t x y) (h1 : tab t = some ti) (h2 : ti.sl = some e) (h3 : tab e = some te) (h4 : te.size = 1)
    (hx : evK S.F x = some (.int k1 l)) (hy : evK S.F y = some (.int k2 cp)) (hl0 : 0 ≤ l) (hlc : l ≤ cp) (hb : cp * te.bytes ≤ 140737488355328) (hb2 : cp ≤ 140737488355328) (hzc : zv.cells.toList = te.zero) (hz : zv = .slice none 0 0) :
    MT c S o (.sv (.one (.gs p 0))) [] (some (p, gridI e ty T (List.replicate l.toNat []))) := fun a w g hs h N Z hN =>
  mt_make (T := nilT) () p ht ho h1 h2 h3 h4 (by decide) hx hy hl0 hlc hb hb2 hzc (fun _ => by subst hz; exact ⟨rfl, trivial⟩) a w g hs h N Z fun v w' g' h' m1 m2 m3 => by
    obtain ⟨⟨cs, k1, k2⟩, k3⟩ := m3
    have hcs := nil_cells k2
    subst hcs
    rw [List.length_replicate] at k1
    have hv : v = h' := by
      have := m2.1
      have e : newH hs (some (p, rowI e nilT (List.replicate l.toNat ()))) h' p = h' := by simp [newH]
      exact this.trans e
    refine hN v w' g' (.tuple (h' :: List.replicate l.toNat (.slice none 0 0)).toArray) m1 ⟨?_, m2.2⟩ ⟨⟨_, List.replicate l.toNat (.slice none 0 0), rfl, ?_, ?_, fun u hu => ⟨none, 0, 0, List.eq_of_mem_replicate hu⟩, fun q r n hq => ?_, fun q hq => ?_, (fun p k e => by cases e), fun q q' b hq hq' hne hb1 hb2 => ?_⟩, fun b hb1 => ?_⟩
    · show v = gpart (if p = p then _ else hs p) 0
      rw [if_pos rfl, hv]
      rfl
    · simp
    · rw [List.length_map, List.length_replicate]
      exact k1
    · rw [List.getElem?_map, List.getElem?_replicate] at hq
      split at hq
      · rename_i hlt
        simp only [Option.map_some, Option.some.injEq, Prod.mk.injEq] at hq
        obtain ⟨rfl, rfl⟩ := hq
        have : gpart (.tuple (h' :: List.replicate l.toNat (.slice none 0 0)).toArray) (q + 1) = .slice none 0 0 := by
          show (h' :: List.replicate l.toNat (.slice none 0 0)).getD (q + 1) undef = _
          simp [hlt]
        rw [this]
        refine ⟨by simp [hlt], [], ?_, rowRead.nil⟩
        exact World.ownsAt_nil _ _ _
      · cases hq
    · rw [List.getElem?_map, List.getElem?_replicate] at hq
      split at hq <;> simp at hq
    · have hnil : ∀ q, q < l.toNat + 1 → q ≠ 0 → blk (gpart (.tuple (h' :: List.replicate l.toNat (.slice none 0 0)).toArray) q) = none := fun q hq h0 => by
        obtain ⟨k, rfl⟩ : ∃ k, q = k + 1 := ⟨q - 1, by omega⟩
        show blk ((h' :: List.replicate l.toNat (.slice none 0 0)).getD (k + 1) undef) = none
        have : k < l.toNat := by omega
        simp [this, blk]
      simp only [List.length_cons, List.length_replicate] at hq hq'
      by_cases e1 : q = 0
      · rw [hnil q' hq' (by omega)] at hb2
        cases hb2
      · rw [hnil q hq e1] at hb1
        cases hb1
    · obtain ⟨u, hu, hub⟩ := hb1
      rcases List.mem_cons.1 hu with rfl | hu
      · exact k3 b (Blk.of hub)
      · rw [List.eq_of_mem_replicate hu] at hub
        cases hub
end
def At.keepG (i j : Nat) : At → Bool
  | .gs k q => !(Nat.beq k j) && (!(Nat.beq k i) || Nat.beq q 0)
  | .ge k q _ _ => !(Nat.beq k j) && (!(Nat.beq k i) || Nat.beq q 0)
  | a => a.refs.all fun k => !(Nat.beq k j) && !(Nat.beq k i)
def SV.keepG (i j : Nat) : SV → Bool
  | .one a => a.keepG i j
  | .agg l => l.all (·.keepG i j)
def SC.keepG (i j : Nat) : SC → Bool
  | .sv s => s.keepG i j
  | .tup l => l.all (·.keepG i j)
def Item.keepG (i j : Nat) : Item → Bool
  | .box cells _ _ => cells.all (·.keepG i j)
  | .iter k _ => !(Nat.beq k j) && !(Nat.beq k i)
  | .grid _ _ _ _ (some (_, k)) => !(Nat.beq k j) && !(Nat.beq k i)
  | _ => true
def dropG (i j : Nat) (F : List (Nat × SC)) : List (Nat × SC) := F.filter fun e => e.2.keepG i j
theorem beq_ne {a b : Nat} (h : (!(Nat.beq a b)) = true) : a ≠ b := fun e => by subst e; simp at h
section
variable {g : Gh} {hs hs' : Nat → Value} {i j : Nat}
theorem At.keepG_ok (h0 : gpart (hs' i) 0 = gpart (hs i) 0) (h1 : ∀ k, k ≠ i → k ≠ j → hs' k = hs k) {a : At} {u : Value} (hk : a.keepG i j = true) (h : a.ok g hs u) : a.ok g hs' u := by
  have gen : ∀ a : At, (a.refs.all fun k => !(Nat.beq k j) && !(Nat.beq k i)) = true → a.ok g hs u → a.ok g hs' u := fun a hk h => At.ok_hs (fun k hk' => by
    have := List.all_eq_true.1 hk k hk'
    rw [Bool.and_eq_true] at this
    exact h1 k (beq_ne this.2) (beq_ne this.1)) h
  have gp : ∀ k q, (!(Nat.beq k j) && (!(Nat.beq k i) || Nat.beq q 0)) = true → gpart (hs' k) q = gpart (hs k) q := fun k q hk => by
    rw [Bool.and_eq_true, Bool.or_eq_true] at hk
    by_cases e : k = i
    · subst e
      rcases hk.2 with h2 | h2
      · exact absurd rfl (beq_ne h2)
      · have := Nat.eq_of_beq_eq_true h2
        subst this
        exact h0
    · rw [h1 k e (beq_ne hk.1)]
  cases a with
  | gs k q =>
    obtain ⟨h2, h3⟩ := h
    refine ⟨?_, h3⟩
    show u = gpart (hs' k) q
    rw [gp k q hk]
    exact h2
  | ge k q m s =>
    obtain ⟨⟨b, o, n, cap, h2, h3⟩, h4⟩ := h
    exact ⟨⟨b, o, n, cap, by rw [gp k q hk]; exact h2, h3⟩, h4⟩
  | _ => exact gen _ hk h
theorem oks_keepG (h0 : gpart (hs' i) 0 = gpart (hs i) 0) (h1 : ∀ k, k ≠ i → k ≠ j → hs' k = hs k) : ∀ {l : List At} {us : List Value}, l.all (·.keepG i j) = true → oks g hs l us → oks g hs' l us
  | [], [], _, _ => trivial
  | [], _ :: _, _, h => h.elim
  | _ :: _, [], _, h => h.elim
  | _ :: _, _ :: _, hk, h => by
    rw [List.all_cons, Bool.and_eq_true] at hk
    exact ⟨At.keepG_ok h0 h1 hk.1 h.1, h.2.1, oks_keepG h0 h1 hk.2 h.2.2⟩
theorem SV.keepG_ok (h0 : gpart (hs' i) 0 = gpart (hs i) 0) (h1 : ∀ k, k ≠ i → k ≠ j → hs' k = hs k) {a : SV} {u : Value} (hk : a.keepG i j = true) (h : a.ok g hs u) : a.ok g hs' u := by
  cases a with
  | one a => exact At.keepG_ok h0 h1 hk h
  | agg l =>
    obtain ⟨cs, h2, h3⟩ := h
    exact ⟨cs, h2, oks_keepG h0 h1 hk h3⟩
theorem svs_keepG (h0 : gpart (hs' i) 0 = gpart (hs i) 0) (h1 : ∀ k, k ≠ i → k ≠ j → hs' k = hs k) : ∀ {l : List SV} {us : List Value}, l.all (·.keepG i j) = true → SV.oks g hs l us → SV.oks g hs' l us
  | [], [], _, _ => trivial
  | [], _ :: _, _, h => h.elim
  | _ :: _, [], _, h => h.elim
  | _ :: _, _ :: _, hk, h => by
    rw [List.all_cons, Bool.and_eq_true] at hk
    exact ⟨SV.keepG_ok h0 h1 hk.1 h.1, svs_keepG h0 h1 hk.2 h.2⟩
theorem SC.keepG_ok (h0 : gpart (hs' i) 0 = gpart (hs i) 0) (h1 : ∀ k, k ≠ i → k ≠ j → hs' k = hs k) {a : SC} {u : Value} (hk : a.keepG i j = true) (h : a.ok g hs u) : a.ok g hs' u := by
  cases a with
  | sv s => exact SV.keepG_ok h0 h1 hk h
  | tup l =>
    obtain ⟨us, h2, h3⟩ := h
    exact ⟨us, h2, svs_keepG h0 h1 hk h3⟩
theorem Item.keepG_ok (h0 : gpart (hs' i) 0 = gpart (hs i) 0) (h1 : ∀ k, k ≠ i → k ≠ j → hs' k = hs k) {w : World} {x : Value} {it : Item} (hk : it.keepG i j = true) (h : it.ok g hs w x) : it.ok g hs' w x := by
  cases it with
  | box cells ty fz =>
    obtain ⟨b, cs, h2, h3, h4⟩ := h
    exact ⟨b, cs, h2, oks_keepG h0 h1 hk h3, h4⟩
  | iter k r =>
    obtain ⟨rb, m, clock, seen, h2, h3, h4⟩ := h
    rw [Item.keepG, Bool.and_eq_true] at hk
    exact ⟨rb, m, clock, seen, h2, (h1 k (beq_ne hk.2) (beq_ne hk.1)).trans h3, h4⟩
  | grid tyo ty s rows link =>
    obtain ⟨us, ocs, u1, u2, u3, u4, u5, u6, u7, u8⟩ := h
    refine ⟨us, ocs, u1, u2, u3, u4, u5, u6, fun p k hl => ?_, u8⟩
    subst hl
    rw [Item.keepG, Bool.and_eq_true] at hk
    rw [h1 k (beq_ne hk.2) (beq_ne hk.1)]
    exact u7 p k rfl
  | _ => exact h
end
def rawT : Ty Value := ⟨1, fun v => .one (.v v)⟩
theorem rawT_solid : rawT.solid := fun a e => by cases e
theorem raw_cells {g : Gh} {l cs : List Value} (h : rowRead rawT l g cs) : cs = l := by
  obtain ⟨us, rfl, h2, h3⟩ := h
  induction us generalizing l with
  | nil => cases l with
    | nil => rfl
    | cons _ _ => simp at h2
  | cons u us ih =>
    cases l with
    | nil => simp at h2
    | cons v l =>
      obtain ⟨⟨h4, h5⟩, _⟩ := h3 0 u v rfl rfl
      have h4 : u = v := h4
      subst h4
      rw [List.flatMap_cons, cellV.cells h5, ih (by simpa using h2) fun q x y hx hy => h3 (q + 1) x y (by simpa using hx) (by simpa using hy)]
      rfl
theorem raw_read {g : Gh} {l : List Value} (h : ∀ u ∈ l, ∃ ao m cap, u = .slice ao m cap) : rowRead rawT l g l := by
  have hc : ∀ u ∈ l, cellV u := fun u hu => by obtain ⟨_, _, _, rfl⟩ := h u hu; trivial
  clear h
  refine ⟨l, ?_, rfl, fun q u v hu hv => ?_⟩
  · induction l with
    | nil => rfl
    | cons u l ih =>
      rw [List.flatMap_cons, cellV.cells (hc u List.mem_cons_self), ← ih fun x hx => hc x (List.mem_cons_of_mem _ hx)]
      rfl
  · rw [hu] at hv
    cases hv
    have h1 := hc u (List.mem_of_getElem? hu)
    exact ⟨⟨rfl, h1⟩, by rw [cellV.cells h1]; rfl⟩
theorem gpart_set_same {us : List Value} {k : Nat} {v : Value} (h : k < us.length) : gpart (.tuple (us.set k v).toArray) k = v := by
  show (us.set k v).getD k undef = v
  simp [h]
theorem gpart_set_ne {us : List Value} {k q : Nat} {v : Value} (h : q ≠ k) : gpart (.tuple (us.set k v).toArray) q = gpart (.tuple us.toArray) q := by
  show (us.set k v).getD q undef = us.getD q undef
  simp [List.getD_eq_getElem?_getD, List.getElem?_set, Ne.symm h]
theorem Blk_set {us : List Value} {k b : Nat} {v : Value} (h : Blk (.tuple (us.set k v).toArray) b) : Blk (.tuple us.toArray) b ∨ blk v = some b := by
  obtain ⟨u, hu, e⟩ := h
  rcases List.mem_or_eq_of_mem_set hu with h1 | h1
  · exact .inl ⟨u, h1, e⟩
  · exact .inr (h1 ▸ e)
section
variable {c : Cfg} {S S1 : St} {a : Act} {w : World} {g : Gh} {hs : Nat → Value} {tab : Tab} {n : Nat} {o : Oper} {ops : Array Oper} {rest : List Oper} {N : Po}
theorem Ok'.putG (h : Ok' c S a w g hs) {i j p tyo ty s m : Nat} {rows : List (Option (Rl (List Value) × Nat))} {link : Option (Nat × Nat)} {r : Rl (List Value)} (hm : S.M[i]? = some (.grid tyo ty s rows link)) (hj : S.M[j]? = some (.row ty s r m)) (hp : p < rows.length)
    {b of nn cap : Nat} (e1 : gpart (hs i) 0 = .slice (some ⟨b, of, none⟩) nn cap) {t : Nat} {ti : TI} (htk : TI.ok t ti) (hts : ti.size = 1) (hkM : S.M.all (·.keepG i j) = true) :
    ∃ w' hs', (Instr.storeAt t (.pointer (some ⟨b, of + p * 1, none⟩)) (hs j)).run Tryz.prog w = .ok () w' ∧ Ok' c ⟨dropG i j S.F, (S.M.set i (.grid tyo ty s (rows.set p (some (r, m))) none)).set j .gone⟩ a w' g hs' := by
  have hij : i ≠ j := fun e => by subst e; rw [hm] at hj; cases hj
  have hit := h.items i _ hm
  obtain ⟨csj, hcj, hrj⟩ := h.items j _ hj
  obtain ⟨us, ocs, u1, u2, u3, u3', u4, u4', uk, u5⟩ := hit
  have hlo : ocs.length = rows.length := by have := u3.1; omega
  have hslj := own_slice hcj
  have hcvj : cellV (hs j) := by obtain ⟨_, _, e⟩ := hslj; rw [e]; trivial
  have hcj1 := cellV.cells hcvj
  rw [← hlo] at u3
  obtain ⟨w', k1, k2, cs', k3, k4⟩ := run_storeOwn (T := rawT) (l := ocs) (y := hs j) (k := p) (g := g) (t := t) (nn := nn) (cap := cap) (pv := .pointer (some ⟨b, of + p * 1, none⟩)) htk (by rw [hts]; rfl) rawT_solid u3 (raw_read u3') e1 rfl (by omega) ⟨rfl, hcvj⟩ rfl
  have := raw_cells k4
  subst this
  have hbi : Blk (hs i) b := Blk.part u1 (k := 0) (by omega) (by rw [e1]; rfl)
  have hl0 : p + 1 < us.length := by omega
  let hs' : Nat → Value := fun k => if k = i then .tuple (us.set (p + 1) (hs j)).toArray else hs k
  have hsi : hs' i = .tuple (us.set (p + 1) (hs j)).toArray := if_pos rfl
  have hsk : ∀ k, k ≠ i → hs' k = hs k := fun k hk => if_neg hk
  have hg0 : gpart (hs' i) 0 = gpart (hs i) 0 := by rw [hsi, gpart_set_ne (by omega), u1]
  have hgp : gpart (hs' i) (p + 1) = hs j := by rw [hsi, gpart_set_same hl0]
  have hgq : ∀ q, q ≠ p + 1 → gpart (hs' i) q = gpart (hs i) q := fun q hq => by rw [hsi, gpart_set_ne hq, u1]
  have hbj : ∀ b', blk (hs j) = some b' → ¬ Blk (hs i) b' := fun b' e => h.sep j i _ _ (Ne.symm hij) hj hm rfl (by simp) b' (Blk.of e)
  have hbs : ∀ b', Blk (hs' i) b' → Blk (hs i) b' ∨ blk (hs j) = some b' := fun b' hb => by
    rw [hsi] at hb
    rw [u1]
    exact Blk_set hb
  have hne : ∀ q, q < us.length → q ≠ 0 → (gpart (hs i) q).ownBlock = none ∨ (gpart (hs i) q).ownBlock ≠ some b := fun q hq hq0 => by
    cases hb : (gpart (hs i) q).ownBlock with
    | none => exact .inl rfl
    | some b' => exact .inr (fun e => by cases e; exact u5 0 q b (by omega) hq (fun e => hq0 e.symm) (by rw [e1]; rfl) (ownBlock_blk' hb))
  have hset : ∀ (k : Nat) (kt : Item), (((S.M.set i (.grid tyo ty s (rows.set p (some (r, m))) none)).set j .gone))[k]? = some kt → kt ≠ .gone → (k = i ∧ kt = .grid tyo ty s (rows.set p (some (r, m))) none) ∨ (k ≠ i ∧ k ≠ j ∧ S.M[k]? = some kt) := fun k kt hk hn => by
    rw [List.getElem?_set] at hk
    by_cases ej : j = k
    · rw [if_pos ej] at hk
      split at hk
      · simp at hk; exact absurd hk.symm hn
      · cases hk
    · rw [if_neg ej, List.getElem?_set] at hk
      by_cases ei : i = k
      · rw [if_pos ei] at hk
        split at hk
        · simp at hk; exact .inl ⟨ei.symm, hk.symm⟩
        · cases hk
      · rw [if_neg ei] at hk
        exact .inr ⟨Ne.symm ei, Ne.symm ej, hk⟩
  refine ⟨w', hs', k1, h.size, h.defers, h.base.kept k2 (fun b' e => by cases e; exact (h.mine i _ hm (by simp) b hbi).2 rfl), fun t x hx => ?_, fun k kt hk => ?_, fun k l kt lt hkl hk hl hf hn b' hb => ?_, fun k kt hk hn b' hb => ?_⟩
  · obtain ⟨hx1, hx2⟩ := List.mem_filter.1 hx
    exact SC.keepG_ok hg0 (fun k hk _ => hsk k hk) hx2 (h.slots t x hx1)
  · by_cases hn : kt = .gone
    · subst hn; trivial
    · rcases hset k kt hk hn with ⟨rfl, rfl⟩ | ⟨h1, h2, h3⟩
      · refine ⟨us.set (p + 1) (hs j), ocs.set p (hs j), hsi, by simp [u2], ?_, fun u hu => ?_, fun q r' n' hq => ?_, fun q hq => ?_, (fun p k e => by cases e), fun q q' b' hq hq' hqq hb1 hb2 => ?_⟩
        · rw [hg0, List.length_set, ← hlo]
          exact k3
        · rcases List.mem_or_eq_of_mem_set hu with hu | hu
          · exact u3' u hu
          · obtain ⟨ao, cp, e⟩ := hslj
            exact ⟨ao, m, cp, hu.trans e⟩
        · rw [List.getElem?_set] at hq
          by_cases e : p = q
          · subst e
            rw [if_pos rfl, if_pos hp] at hq
            simp only [Option.some.injEq, Prod.mk.injEq] at hq
            obtain ⟨rfl, rfl⟩ := hq
            rw [hgp]
            refine ⟨by rw [List.getElem?_set_self (by omega)], csj, hcj.kept k2 ?_, hrj⟩
            cases hb : (hs j).ownBlock with
            | none => exact .inl rfl
            | some b' => exact .inr (fun e => by cases e; exact hbj b (ownBlock_blk' hb) hbi)
          · rw [if_neg e] at hq
            have hql := (List.getElem?_eq_some_iff.1 hq).1
            obtain ⟨k5, cs2, k6, k7⟩ := u4 q r' n' hq
            rw [hgq (q + 1) (by omega)]
            exact ⟨by rw [List.getElem?_set_ne e]; exact k5, cs2, k6.kept k2 (hne (q + 1) (by omega) (by omega)), k7⟩
        · rw [List.getElem?_set] at hq
          by_cases e : p = q
          · rw [if_pos e] at hq
            split at hq <;> simp at hq
          · rw [if_neg e] at hq
            rw [hgq (q + 1) (by omega)]
            exact u4' q hq
        · rw [List.length_set] at hq hq'
          by_cases e : q = p + 1
          · subst e
            rw [hgp] at hb1
            rw [hgq q' (Ne.symm hqq)] at hb2
            exact hbj b' hb1 (Blk.part u1 hq' hb2)
          · rw [hgq q e] at hb1
            by_cases e' : q' = p + 1
            · subst e'
              rw [hgp] at hb2
              exact hbj b' hb2 (Blk.part u1 hq hb1)
            · rw [hgq q' e'] at hb2
              exact u5 q q' b' hq hq' hqq hb1 hb2
      · rw [hsk k h1]
        refine Item.keepG_ok hg0 (fun k hk _ => hsk k hk) (List.all_eq_true.1 hkM kt (List.mem_of_getElem? h3)) ?_
        exact Item.kept k2 (h := h.items k kt h3) fun b' hb => ⟨(h.mine k kt h3 hn b' hb).1, fun e => by cases e; exact h.sep i k _ kt (Ne.symm h1) hm h3 rfl hn b hbi hb⟩
  · rcases hset k kt hk (fz_gone hf) with ⟨rfl, rfl⟩ | ⟨h1, h2, h3⟩
    · rcases hset l lt hl hn with ⟨rfl, rfl⟩ | ⟨l1, l2, l3⟩
      · exact absurd rfl hkl
      · rw [hsk l l1]
        rcases hbs b' hb with h4 | h4
        · exact h.sep k l _ lt hkl hm l3 rfl hn b' h4
        · exact h.sep j l _ lt (Ne.symm l2) hj l3 rfl hn b' (Blk.of h4)
    · rw [hsk k h1] at hb
      rcases hset l lt hl hn with ⟨rfl, rfl⟩ | ⟨l1, l2, l3⟩
      · intro hb2
        rcases hbs b' hb2 with h4 | h4
        · exact h.sep k l kt _ hkl h3 hm hf (by simp) b' hb h4
        · exact h.sep k j kt _ h2 h3 hj hf (by simp) b' hb (Blk.of h4)
      · rw [hsk l l1]
        exact h.sep k l kt lt hkl h3 l3 hf hn b' hb
  · rcases hset k kt hk hn with ⟨rfl, rfl⟩ | ⟨h1, h2, h3⟩
    · rcases hbs b' hb with h4 | h4
      · obtain ⟨m1, m2⟩ := h.mine k _ hm (by simp) b' h4
        exact ⟨Nat.lt_of_lt_of_le m1 k2.size, fun _ => m2 rfl⟩
      · obtain ⟨m1, m2⟩ := h.mine j _ hj (by simp) b' (Blk.of h4)
        exact ⟨Nat.lt_of_lt_of_le m1 k2.size, fun _ => m2 rfl⟩
    · rw [hsk k h1] at hb
      obtain ⟨m1, m2⟩ := h.mine k kt h3 hn b' hb
      exact ⟨Nat.lt_of_lt_of_le m1 k2.size, m2⟩
abbrev gridH {α : Type} (tyo ty : Nat) (T : Ty α) (L : List (List α)) (p : Nat) (link : Option (Nat × Nat)) : Item := .grid tyo ty T.s ((L.map fun l => some (rowR T l, l.length)).set p none) link
theorem WL.putG0 {i j p tyo ty s m t : Nat} {rows : List (Option (Rl (List Value) × Nat))} {link : Option (Nat × Nat)} {r : Rl (List Value)} {ti : TI} {x v : Operand} {S1 : St} (ht : tab.ok) (hn : c.n = n) (hw : wantE ops S.F o = some true) (ho : o.op = .store t x v) (h1 : tab t = some ti) (h2 : ti.size = 1)
    (hx : evX S.F x = some (.sv (.one (.ge i 0 p 1)))) (hv : evX S.F v = some (.sv (.one (.own j)))) (hm : S.M[i]? = some (.grid tyo ty s rows link)) (hj : S.M[j]? = some (.row ty s r m)) (hp : p < rows.length) (hkM : S.M.all (·.keepG i j) = true)
    (e : putE n o.dst (.tup []) ⟨dropG i j S.F, (S.M.set i (.grid tyo ty s (rows.set p (some (r, m))) none)).set j .gone⟩ = some S1) (h : WL c ops rest S1 N) : WL c ops (o :: rest) S N := fun a w ⟨g, hs, hh⟩ => by
  unfold wpList
  rw [if_pos (wantE_ok hh hw)]
  refine .inl ?_
  unfold Oper.wp
  obtain ⟨⟨b, of, nn, cap, e1, e2⟩, _⟩ := evX_ok hh hx
  have hvj : a.eval v = hs j := (evX_ok hh hv).1
  obtain ⟨w', hs', k1, k2⟩ := hh.putG hm hj hp e1 (ht t ti h1) h2 hkM
  have hrun : (execOp a.eval o).run Tryz.prog w = .ok .skip w' := by
    have : execOp a.eval o = (do Instr.storeAt t (a.eval x) (a.eval v); pure .skip : Sem Next) := by unfold execOp; rw [ho]
    rw [this, e2, hvj]
    simp only [Sem.run_bind, k1, Result.andThen_ok, Sem.run_pure]
  rw [hrun]
  exact h _ _ ⟨g, hs', putE_ok k2 hn undef_ok e⟩
theorem gridI_set {α : Type} {T : Ty α} {L : List (List α)} {l : List α} {p : Nat} : (L.map fun l => some (rowR T l, l.length)).set p (some (rowR T l, l.length)) = ((L.set p l).map fun l => some (rowR T l, l.length)) := by
  rw [List.map_set]
theorem WL.putG {α : Type} {T : Ty α} {L : List (List α)} {l : List α} {i j p tyo ty t : Nat} {ti : TI} {x v : Operand} {S1 : St} (ht : tab.ok) (hn : c.n = n) (hw : wantE ops S.F o = some true) (ho : o.op = .store t x v) (h1 : tab t = some ti) (h2 : ti.size = 1)
    (hx : evX S.F x = some (.sv (.one (.ge i 0 p 1)))) (hv : evX S.F v = some (.sv (.one (.own j)))) (hm : S.M[i]? = some (gridI tyo ty T L)) (hj : S.M[j]? = some (rowI ty T l)) (hp : p < L.length) (hkM : S.M.all (·.keepG i j) = true)
    (e : putE n o.dst (.tup []) ⟨dropG i j S.F, (S.M.set i (gridI tyo ty T (L.set p l))).set j .gone⟩ = some S1) (h : WL c ops rest S1 N) : WL c ops (o :: rest) S N :=
  WL.putG0 ht hn hw ho h1 h2 hx hv hm hj (by rw [List.length_map]; exact hp) hkM (by rw [gridI_set]; exact e) h
theorem WL.putGH {α : Type} {T : Ty α} {L : List (List α)} {l : List α} {link : Option (Nat × Nat)} {i j p tyo ty t : Nat} {ti : TI} {x v : Operand} {S1 : St} (ht : tab.ok) (hn : c.n = n) (hw : wantE ops S.F o = some true) (ho : o.op = .store t x v) (h1 : tab t = some ti) (h2 : ti.size = 1)
    (hx : evX S.F x = some (.sv (.one (.ge i 0 p 1)))) (hv : evX S.F v = some (.sv (.one (.own j)))) (hm : S.M[i]? = some (gridH tyo ty T L p link)) (hj : S.M[j]? = some (rowI ty T l)) (hp : p < L.length) (hkM : S.M.all (·.keepG i j) = true)
    (e : putE n o.dst (.tup []) ⟨dropG i j S.F, (S.M.set i (gridI tyo ty T (L.set p l))).set j .gone⟩ = some S1) (h : WL c ops rest S1 N) : WL c ops (o :: rest) S N :=
  WL.putG0 ht hn hw ho h1 h2 hx hv hm hj (by rw [List.length_set, List.length_map]; exact hp) hkM (by rw [List.set_set, gridI_set]; exact e) h
theorem Ok'.takeG {i p tyo ty s m : Nat} {rows : List (Option (Rl (List Value) × Nat))} {link : Option (Nat × Nat)} {r : Rl (List Value)} (h : Ok' c S a w g hs) (hm : S.M[i]? = some (.grid tyo ty s rows link)) (hp : rows[p]? = some (some (r, m))) (hkM : S.M.all (·.keepG i S.M.length) = true) :
    ∃ hs', hs' S.M.length = gpart (hs i) (p + 1) ∧ Ok' c ⟨dropG i S.M.length S.F, S.M.set i (.grid tyo ty s (rows.set p none) (some (p, S.M.length))) ++ [.row ty s r m]⟩ a w g hs' := by
  have hil : i < S.M.length := (List.getElem?_eq_some_iff.1 hm).1
  have hpl : p < rows.length := (List.getElem?_eq_some_iff.1 hp).1
  have hit := h.items i _ hm
  obtain ⟨us, ocs, u1, u2, u3, u3', u4, u4', uk, u5⟩ := hit
  obtain ⟨q1, csj, q2, q3⟩ := u4 p r m hp
  have hslj := own_slice q2
  have hl0 : p + 1 < us.length := by omega
  let hs' : Nat → Value := fun k => if k = i then .tuple (us.set (p + 1) (.slice none 0 0)).toArray else if k = S.M.length then gpart (hs i) (p + 1) else hs k
  have hsi : hs' i = .tuple (us.set (p + 1) (.slice none 0 0)).toArray := if_pos rfl
  have hsj : hs' S.M.length = gpart (hs i) (p + 1) := by
    show (if S.M.length = i then _ else if S.M.length = S.M.length then _ else _) = _
    rw [if_neg (by omega), if_pos rfl]
  have hsk : ∀ k, k ≠ i → k ≠ S.M.length → hs' k = hs k := fun k h1 h2 => by
    show (if k = i then _ else if k = S.M.length then _ else hs k) = _
    rw [if_neg h1, if_neg h2]
  have hg0 : gpart (hs' i) 0 = gpart (hs i) 0 := by rw [hsi, gpart_set_ne (by omega), u1]
  have hgp : gpart (hs' i) (p + 1) = .slice none 0 0 := by rw [hsi, gpart_set_same hl0]
  have hgq : ∀ q, q ≠ p + 1 → gpart (hs' i) q = gpart (hs i) q := fun q hq => by rw [hsi, gpart_set_ne hq, u1]
  have hbs : ∀ b', Blk (hs' i) b' → Blk (hs i) b' ∧ blk (gpart (hs i) (p + 1)) ≠ some b' := fun b' hb => by
    rw [hsi] at hb
    obtain ⟨u, hu, e⟩ := hb
    obtain ⟨q, hq⟩ := List.mem_iff_getElem?.1 hu
    have hql := (List.getElem?_eq_some_iff.1 hq).1
    rw [List.length_set] at hql
    by_cases eq : q = p + 1
    · subst eq
      rw [List.getElem?_set_self hl0] at hq
      simp at hq
      rw [← hq] at e
      cases e
    · rw [List.getElem?_set_ne (Ne.symm eq)] at hq
      have hgu : gpart (hs i) q = u := by
        rw [u1]
        show us.getD q undef = u
        rw [List.getD_eq_getElem?_getD, hq]
        rfl
      exact ⟨Blk.part u1 hql (by rw [hgu]; exact e), fun e2 => u5 q (p + 1) b' hql hl0 eq (by rw [hgu]; exact e) e2⟩
  have hbj : ∀ b', Blk (hs' S.M.length) b' → blk (gpart (hs i) (p + 1)) = some b' := fun b' hb => by
    rw [hsj] at hb
    obtain ⟨ao, cp, e⟩ := hslj
    rw [e] at hb ⊢
    exact hb
  have hbj2 : ∀ b', blk (gpart (hs i) (p + 1)) = some b' → Blk (hs i) b' := fun b' e => Blk.part u1 hl0 e
  have hset : ∀ (k : Nat) (kt : Item), (S.M.set i (.grid tyo ty s (rows.set p none) (some (p, S.M.length))) ++ [.row ty s r m])[k]? = some kt → (k = i ∧ kt = .grid tyo ty s (rows.set p none) (some (p, S.M.length))) ∨ (k = S.M.length ∧ kt = .row ty s r m) ∨ (k ≠ i ∧ k ≠ S.M.length ∧ S.M[k]? = some kt) := fun k kt hk => by
    rw [List.getElem?_append, List.length_set] at hk
    split at hk
    · rename_i hlt
      rw [List.getElem?_set] at hk
      by_cases ei : i = k
      · rw [if_pos ei, if_pos hil] at hk
        simp at hk
        exact .inl ⟨ei.symm, hk.symm⟩
      · rw [if_neg ei] at hk
        exact .inr (.inr ⟨Ne.symm ei, by omega, hk⟩)
    · by_cases e2 : k = S.M.length
      · subst e2
        simp at hk
        exact .inr (.inl ⟨rfl, hk.symm⟩)
      · rw [List.getElem?_eq_none (by simp; omega)] at hk
        cases hk
  refine ⟨hs', hsj, h.size, h.defers, h.base, fun t x hx => ?_, fun k kt hk => ?_, fun k l kt lt hkl hk hl hf hn b' hb => ?_, fun k kt hk hn b' hb => ?_⟩
  · obtain ⟨hx1, hx2⟩ := List.mem_filter.1 hx
    exact SC.keepG_ok hg0 hsk hx2 (h.slots t x hx1)
  · rcases hset k kt hk with ⟨rfl, rfl⟩ | ⟨rfl, rfl⟩ | ⟨h1, h2, h3⟩
    · refine ⟨us.set (p + 1) (.slice none 0 0), ocs, hsi, by simp [u2], by rw [hg0, List.length_set]; exact u3, u3', fun q r' n' hq => ?_, fun q hq => ?_, (fun p' k e => by cases e; rw [hsj]; exact q1), fun q q' b' hq hq' hqq hb1 hb2 => ?_⟩
      · rw [List.getElem?_set] at hq
        by_cases e : p = q
        · rw [if_pos e] at hq
          split at hq <;> simp at hq
        · rw [if_neg e] at hq
          rw [hgq (q + 1) (by omega)]
          exact u4 q r' n' hq
      · rw [List.getElem?_set] at hq
        by_cases e : p = q
        · subst e
          exact hgp
        · rw [if_neg e] at hq
          rw [hgq (q + 1) (by omega)]
          exact u4' q hq
      · rw [List.length_set] at hq hq'
        by_cases e : q = p + 1
        · subst e
          rw [hgp] at hb1
          cases hb1
        · rw [hgq q e] at hb1
          by_cases e' : q' = p + 1
          · subst e'
            rw [hgp] at hb2
            cases hb2
          · rw [hgq q' e'] at hb2
            exact u5 q q' b' hq hq' hqq hb1 hb2
    · rw [hsj]
      exact ⟨csj, q2, q3⟩
    · by_cases hn : kt = .gone
      · subst hn; trivial
      · rw [hsk k h1 h2]
        exact Item.keepG_ok hg0 hsk (List.all_eq_true.1 hkM kt (List.mem_of_getElem? h3)) (h.items k kt h3)
  · rcases hset k kt hk with ⟨rfl, rfl⟩ | ⟨rfl, rfl⟩ | ⟨h1, h2, h3⟩
    · obtain ⟨hb1, hb2⟩ := hbs b' hb
      rcases hset l lt hl with ⟨rfl, rfl⟩ | ⟨rfl, rfl⟩ | ⟨l1, l2, l3⟩
      · exact absurd rfl hkl
      · exact fun e => hb2 (hbj b' e)
      · rw [hsk l l1 l2]
        exact h.sep k l _ lt hkl hm l3 rfl hn b' hb1
    · have hb1 := hbj b' hb
      rcases hset l lt hl with ⟨rfl, rfl⟩ | ⟨rfl, rfl⟩ | ⟨l1, l2, l3⟩
      · exact fun e => (hbs b' e).2 hb1
      · exact absurd rfl hkl
      · rw [hsk l l1 l2]
        exact h.sep i l _ lt (Ne.symm l1) hm l3 rfl hn b' (hbj2 b' hb1)
    · rw [hsk k h1 h2] at hb
      rcases hset l lt hl with ⟨rfl, rfl⟩ | ⟨rfl, rfl⟩ | ⟨l1, l2, l3⟩
      · exact fun e => h.sep k l kt _ hkl h3 hm hf (by simp) b' hb (hbs b' e).1
      · exact fun e => h.sep k i kt _ h1 h3 hm hf (by simp) b' hb (hbj2 b' (hbj b' e))
      · rw [hsk l l1 l2]
        exact h.sep k l kt lt hkl h3 l3 hf hn b' hb
  · rcases hset k kt hk with ⟨rfl, rfl⟩ | ⟨rfl, rfl⟩ | ⟨h1, h2, h3⟩
    · exact h.mine k _ hm (by simp) b' (hbs b' hb).1
    · exact h.mine i _ hm (by simp) b' (hbj2 b' (hbj b' hb))
    · rw [hsk k h1 h2] at hb
      exact h.mine k kt h3 hn b' hb
theorem WL.takeG {α : Type} {T : Ty α} {L : List (List α)} {l : List α} {L0 : List Oper} {i p tyo ty j : Nat} (t0 : Nat) (hm : S.M[i]? = some (gridI tyo ty T L)) (hp : L[p]? = some l) (hl : look t0 S.F = some (.sv (.one (.gs i (p + 1))))) (hj : S.M.length = j) (hkM : S.M.all (·.keepG i j) = true)
    (h : WL c ops L0 ⟨(t0, .sv (.one (.own j))) :: dropG i j S.F, (S.M.set i (gridH tyo ty T L p (some (p, j))) ++ [rowI ty T l]).set i (gridH tyo ty T L p none)⟩ N) : WL c ops L0 S N := fun a w ⟨g, hs, hk⟩ => by
  subst hj
  obtain ⟨hs', hsj, hk'⟩ := hk.takeG (p := p) (r := rowR T l) (m := l.length) hm (by rw [List.getElem?_map, hp]; rfl) hkM
  have hil := (List.getElem?_eq_some_iff.1 hm).1
  have hi' : (S.M.set i (gridH tyo ty T L p (some (p, S.M.length))) ++ [rowI ty T l])[i]? = some (gridH tyo ty T L p (some (p, S.M.length))) := by
    rw [List.getElem?_append_left (by rw [List.length_set]; exact hil), List.getElem?_set_self hil]
  have h1 := hk'.items i _ hi'
  have h2 := hk'.retell (it' := gridH tyo ty T L p none) hi' rfl rfl (by
    obtain ⟨us, ocs, u1, u2, u3, u4, u5, u6, u7, u8⟩ := h1
    exact ⟨us, ocs, u1, u2, u3, u4, u5, u6, (fun p k e => by cases e), u8⟩)
  refine h a w ⟨g, hs', h2.size, h2.defers, h2.base, fun t x hx => ?_, h2.items, h2.sep, h2.mine⟩
  rcases List.mem_cons.1 hx with hx | hx
  · cases hx
    have h5 := hk.slots t0 _ (look_mem hl)
    refine ⟨?_, h5.2⟩
    show _ = hs' S.M.length
    rw [hsj]
    exact h5.1
  · exact h2.slots t x hx
theorem En.takeGL {α : Type} {T : Ty α} {L : List (List α)} {l : List α} {i p tyo ty j : Nat} (hm : S.M[i]? = some (gridI tyo ty T L)) (hp : L[p]? = some l) (hj : S.M.length = j) (hkM : S.M.all (·.keepG i j) = true)
    (h : En c ⟨dropG i j S.F, S.M.set i (gridH tyo ty T L p (some (p, j))) ++ [rowI ty T l]⟩ N) : En c S N := fun a w ⟨g, hs, hk⟩ => by
  subst hj
  obtain ⟨hs', _, hk'⟩ := hk.takeG (p := p) (r := rowR T l) (m := l.length) hm (by rw [List.getElem?_map, hp]; rfl) hkM
  exact h a w ⟨g, hs', hk'⟩
theorem val_indexGH {α : Type} {T : Ty α} {L : List (List α)} {i tyo ty q : Nat} {link : Option (Nat × Nat)} {k : Int} {t el : Nat} {ti te : TI} {x ix : Operand} {ik : IntKind} (ht : tab.ok) (ho : o.op = .indexAddr t x ix) (h1 : tab t = some ti) (h2 : ti.sl = some el) (h3 : tab el = some te) (h4 : te.size = 1)
    (hx : evX S.F x = some (.sv (.one (.gs i 0)))) (hm : S.M[i]? = some (gridH tyo ty T L q link)) (hi : evK S.F ix = some (.int ik k)) (hk : 0 ≤ k ∧ k < (L.length : Int)) : Val c S o (.sv (.one (.ge i 0 k.toNat 1))) := fun a w g hs h => by
  have hv : a.eval x = gpart (hs i) 0 := (evX_ok h hx).1
  obtain ⟨us, ocs, _, _, r1, _⟩ := h.items i _ hm
  rw [List.length_set, List.length_map] at r1
  rw [← hv] at r1
  obtain ⟨b, of, cap, e1, e2⟩ := run_indexOwn (iv := a.eval ix) ht h1 h2 h3 h4 (by decide) r1 (evK_ok h hi) hk
  refine ⟨.pointer (some ⟨b, of + k.toNat * 1, none⟩), ?_, ⟨b, of, L.length, cap, by rw [← hv]; exact e1, rfl⟩, trivial⟩
  have : (execOp a.eval o) = (do pure (.value (← Instr.indexAt t (a.eval x) (a.eval ix))) : Sem Next) := by unfold execOp; rw [ho]
  rw [this]
  exact run_val e2
theorem val_loadGH {α : Type} {T : Ty α} {L : List (List α)} {i p j tyo ty t : Nat} {ti : TI} {x : Operand} (ht : tab.ok) (ho : o.op = .load t x) (h1 : tab t = some ti) (h3 : ti.agg = false)
    (hx : evX S.F x = some (.sv (.one (.ge i 0 p 1)))) (hm : S.M[i]? = some (gridH tyo ty T L p (some (p, j)))) : Val c S o (.sv (.one (.own j))) := fun a w g hs h => by
  obtain ⟨⟨b, of, nn, cap, e1, e2⟩, _⟩ := evX_ok h hx
  obtain ⟨us, ocs, _, _, r1, r2, _, _, r3, _⟩ := h.items i _ hm
  have hc0 := r3 p j rfl
  have htk := ht t ti h1
  obtain ⟨ao, m, cp, hsl⟩ := r2 _ (List.mem_of_getElem? hc0)
  have hcv : cellV (hs j) := by rw [hsl]; trivial
  have hlo : ocs.length = ((L.map fun l => some (rowR T l, l.length)).set p none).length := by have := r1.1; omega
  have hnn : nn = ((L.map fun l => some (rowR T l, l.length)).set p none).length := by
    obtain ⟨_, r⟩ := r1
    rcases r with ⟨e3, _⟩ | ⟨gb, of', cap', cur, e3, _⟩
    · rw [e1] at e3; cases e3
    · rw [e1] at e3; simp only [Value.slice.injEq] at e3; exact e3.2.1
  subst hnn
  have hc := own_cell (q := 0) r1 e1 (k := p) (j := 0) (u := hs j) (by rw [Nat.mul_one, Nat.add_zero]; exact hc0)
  rw [svs_add, Nat.add_zero, Nat.mul_one] at hc
  have : (execOp a.eval o) = (do pure (.value (← Instr.loadAt t (a.eval x))) : Sem Next) := by unfold execOp; rw [ho]
  rw [this]
  refine ⟨hs j, run_val ?_, rfl, hcv⟩
  simp only [Instr.loadAt, e2, Instr.sureAddr, loadVar, Sem.run_bind, Sem.run_pure, Result.andThen_ok, htk.run_isAgg]
  rw [h3]
  simp [load, Sem.run, hc]
theorem mt_lendG {α : Type} {T : Ty α} {L : List (List α)} {tyo ty : Nat} {x : SC} (i : Nat) (hm : S.M[i]? = some (gridI tyo ty T L)) (hp : plainB x = true) (h : MT c (sealG S i (LS (lsT T) L)) o x [] none) : MT c S o x [] none := fun a w g hs hk N Z hN => by
  obtain ⟨g2, hk2⟩ := hk.sealG hm
  exact h a w g2 hs hk2 N Z fun v w' g' h' h1 h2 _ => hN v w' g h' (h1.back hk.base.pers) (plainB_ok hp h2) trivial
theorem Ok'.lendR {α : Type} {T : Ty α} {L : List (List α)} {l : List α} {tyo ty i p t : Nat} (h : Ok' c S a w g hs) (hm : S.M[i]? = some (gridI tyo ty T L)) (hq : L[p]? = some l) (hl : look t S.F = some (.sv (.one (.gs i (p + 1))))) : ∃ g', Ok' c ⟨(t, .sv (.one (LS T l))) :: (Proofs.YtijgcihlodofdaaGreatDoor.sealG S i (LS (lsT T) L)).F, (Proofs.YtijgcihlodofdaaGreatDoor.sealG S i (LS (lsT T) L)).M⟩ a w g' hs := by
  classical
  have hit := h.items i _ hm
  obtain ⟨cs, r1, r2⟩ := grid_row hit hq
  have hsl := h.slots t _ (look_mem hl)
  have hpl := (List.getElem?_eq_some_iff.1 hq).1
  obtain ⟨g', hle, hb, h2⟩ := h.sealG' hm
  refine ⟨g', h2.size, h2.defers, h2.base, fun t' x hx => ?_, h2.items, h2.sep, h2.mine⟩
  rcases List.mem_cons.1 hx with hx | hx
  · cases hx
    have h5 : a.tmps.getD t undef = gpart (hs i) (p + 1) := hsl.1
    show (LS T l).ok g' hs _
    rw [h5]
    obtain ⟨us, ocs, hv, hul, _⟩ := hit
    rw [List.length_map] at hul
    exact row_LS r1 r2 hle (fun b e => hb b (Blk.part hv (by omega) (ownBlock_blk' e)))
  · exact h2.slots t' x hx
theorem mt_lendR {α : Type} {T : Ty α} {L : List (List α)} {l : List α} {tyo ty p : Nat} {x : SC} (i t : Nat) (hm : S.M[i]? = some (gridI tyo ty T L)) (hq : L[p]? = some l) (hl : look t S.F = some (.sv (.one (.gs i (p + 1))))) (hp : plainB x = true) (h : MT c ⟨(t, .sv (.one (LS T l))) :: (sealG S i (LS (lsT T) L)).F, (sealG S i (LS (lsT T) L)).M⟩ o x [] none) : MT c S o x [] none := fun a w g hs hk N Z hN => by
  obtain ⟨g2, hk2⟩ := hk.lendR hm hq hl
  exact h a w g2 hs hk2 N Z fun v w' g' h' h1 h2 _ => hN v w' g h' (h1.back hk.base.pers) (plainB_ok hp h2) trivial
end
section
variable {c : Cfg} {S S1 : St} {a : Act} {w : World} {g : Gh} {hs : Nat → Value} {tab : Tab} {n : Nat} {o : Oper} {ops : Array Oper} {rest : List Oper} {N : Po}
theorem run_bounds {lo hi : Option Operand} {lv hv : Int} {m cap : Nat} (h : Ok' c S a w g hs) (hlo : (lo = none ∧ lv = 0) ∨ ∃ q, lo = some q ∧ evK S.F q = some (.int .i64 lv)) (hhi : (hi = none ∧ hv = m) ∨ ∃ q, hi = some q ∧ evK S.F q = some (.int .i64 hv)) (h5 : 0 ≤ lv ∧ lv ≤ hv ∧ hv ≤ m) (hc : m ≤ cap) : (Instr.sliceBounds true m cap (lo.map a.eval) (hi.map a.eval) none).run Tryz.prog w = .ok (lv.toNat, hv.toNat, cap) w := by
  unfold Instr.sliceBounds
  rcases hlo with ⟨rfl, rfl⟩ | ⟨q', rfl, hlo⟩ <;> rcases hhi with ⟨rfl, rfl⟩ | ⟨q, rfl, hhi⟩
  · simp
  · simp only [Option.map_none, Option.map_some, Sem.run_bind, Sem.run_pure, Result.andThen_ok, Instr.sliceBound, evK_ok h hhi, asIntOf]
    rw [if_pos (by omega)]
    simp
  · simp only [Option.map_none, Option.map_some, Sem.run_bind, Sem.run_pure, Result.andThen_ok, Instr.sliceBound, evK_ok h hlo, asIntOf]
    rw [if_pos (by omega)]
    simp
  · simp only [Option.map_some, Sem.run_bind, Sem.run_pure, Result.andThen_ok, Instr.sliceBound, evK_ok h hhi, evK_ok h hlo, asIntOf]
    rw [if_pos (by omega)]
    simp only [Sem.run_bind, Sem.run_pure, Result.andThen_ok]
    rw [if_pos (by omega)]
    simp
theorem run_boundsS {lo hi : Option Operand} {lv hv : Int} {m : Nat} {b : Bool} (h : Ok' c S a w g hs) (hlo : (lo = none ∧ lv = 0) ∨ ∃ q, lo = some q ∧ evK S.F q = some (.int .i64 lv)) (hhi : (hi = none ∧ hv = m) ∨ ∃ q, hi = some q ∧ evK S.F q = some (.int .i64 hv)) (h5 : 0 ≤ lv ∧ lv ≤ hv ∧ hv ≤ m) : (Instr.sliceBounds b m m (lo.map a.eval) (hi.map a.eval) none).run Tryz.prog w = .ok (lv.toNat, hv.toNat, m) w := by
  unfold Instr.sliceBounds
  rcases hlo with ⟨rfl, rfl⟩ | ⟨q', rfl, hlo⟩ <;> rcases hhi with ⟨rfl, rfl⟩ | ⟨q, rfl, hhi⟩
  · simp
  · simp only [Option.map_none, Option.map_some, Sem.run_bind, Sem.run_pure, Result.andThen_ok, Instr.sliceBound, evK_ok h hhi, asIntOf]
    rw [if_pos (by omega)]
    simp
  · simp only [Option.map_none, Option.map_some, Sem.run_bind, Sem.run_pure, Result.andThen_ok, Instr.sliceBound, evK_ok h hlo, asIntOf]
    rw [if_pos (by omega)]
    simp
  · simp only [Option.map_some, Sem.run_bind, Sem.run_pure, Result.andThen_ok, Instr.sliceBound, evK_ok h hhi, evK_ok h hlo, asIntOf]
    rw [if_pos (by omega)]
    simp only [Sem.run_bind, Sem.run_pure, Result.andThen_ok]
    rw [if_pos (by omega)]
    simp
theorem val_view {α : Type} {T : Ty α} {l : List α} {i t el : Nat} {ti te : TI} {x : Operand} {lo hi : Option Operand} {lv hv : Int} (ht : tab.ok) (ho : o.op = .slice t x lo hi none) (h1 : tab t = some ti) (h2 : ti.sl = some el) (h3 : tab el = some te) (h4 : te.size = T.s)
    (hx : evX S.F x = some (.sv (.one (.own i)))) (hm : S.M[i]? = some (rowI el T l)) (hlo : (match lo with | some q => evK S.F q = some (.int .i64 lv) | none => lv = 0)) (hhi : (match hi with | some q => evK S.F q = some (.int .i64 hv) | none => hv = l.length)) (h5 : 0 ≤ lv ∧ lv ≤ hv ∧ hv ≤ l.length) :
    Val c S o (.sv (.one (.vw i lv.toNat (hv.toNat - lv.toNat) T.s))) := fun a w g hs h => by
  obtain ⟨h6, h7, h8⟩ := h5
  have hu := slT_some ((ht t ti h1).sl.trans h2)
  have hv0 : a.eval x = hs i := (evX_ok h hx).1
  obtain ⟨cs, ⟨hl0, r1⟩, r2⟩ := h.items i _ hm
  obtain ⟨ao, cap, e1, hcap, hao⟩ : ∃ ao cap, hs i = .slice ao l.length cap ∧ l.length ≤ cap ∧ ((ao = none ∧ cap = 0) ∨ ∃ gb of, ao = some ⟨gb, of, none⟩) := by
    rcases r1 with ⟨e3, e4⟩ | ⟨gb, of, cap, cur, e3, e4, e5, _⟩
    · exact ⟨none, 0, by rw [e3, e4], by rw [e4]; exact Nat.le_refl _, .inl ⟨rfl, rfl⟩⟩
    · exact ⟨_, cap, e3, e5, .inr ⟨gb, of, rfl⟩⟩
  have hb := run_bounds (lo := lo) (hi := hi) h (by cases lo <;> simp only at hlo <;> first | exact .inl ⟨rfl, hlo⟩ | exact .inr ⟨_, rfl, hlo⟩) (by cases hi <;> simp only at hhi <;> first | exact .inl ⟨rfl, hhi⟩ | exact .inr ⟨_, rfl, hhi⟩) ⟨h6, h7, h8⟩ hcap
  have this : execOp a.eval o = (do pure (.value (← Instr.sliceAt t (a.eval x) (lo.map a.eval) (hi.map a.eval) none)) : Sem Next) := by unfold execOp; rw [ho]; rfl
  have hrun : (Instr.sliceAt t (a.eval x) (lo.map a.eval) (hi.map a.eval) none).run Tryz.prog w = .ok (.slice (if cap = lv.toNat then ao else ao.map (·.add (lv.toNat * T.s))) (hv.toNat - lv.toNat) (cap - lv.toNat)) w := by
    simp only [Instr.sliceAt, Instr.slice, Sem.run_bind, run_underlying hu, Result.andThen_ok, hv0, e1, hb, (ht el te h3).run_size, Sem.run_pure, h4]
  rw [this]
  refine ⟨_, run_val hrun, ⟨_, _, rfl, fun e => ?_, fun h0 => ?_⟩, trivial⟩
  · rcases hao with ⟨e1, e2⟩ | ⟨gb, of, rfl⟩
    · omega
    · split at e <;> simp at e
  · rcases hao with ⟨_, e⟩ | ⟨gb, of, rfl⟩
    · omega
    · refine ⟨gb, of, _, _, e1, ?_⟩
      rw [if_neg (by omega)]
      simp [svs_add]
def DstOk (c : Cfg) (S : St) (x : Operand) (i lo m : Nat) : Prop := ∀ a w g hs, Ok' c S a w g hs → ∃ ao cap, a.eval x = .slice ao m cap ∧ (0 < m → ∃ b o n cp, hs i = .slice (some ⟨b, o, none⟩) n cp ∧ ao = some ⟨b, o + lo, none⟩)
theorem dstVw {x : Operand} {i lo m : Nat} (hx : evX S.F x = some (.sv (.one (.vw i lo m 1)))) : DstOk c S x i lo m := fun a w g hs h => by
  obtain ⟨ao, cap, h1, _, h2⟩ := (evX_ok h hx).1
  refine ⟨ao, cap, h1, fun h0 => ?_⟩
  obtain ⟨b, o, n, cp, h3, h4⟩ := h2 h0
  exact ⟨b, o, n, cp, h3, by rw [h4, Nat.mul_one]⟩
theorem dstOwn {α : Type} {T : Ty α} {l : List α} {x : Operand} {i e : Nat} (hx : evX S.F x = some (.sv (.one (.own i)))) (hm : S.M[i]? = some (rowI e T l)) : DstOk c S x i 0 l.length := fun a w g hs h => by
  have hv0 : a.eval x = hs i := (evX_ok h hx).1
  obtain ⟨cs, ⟨hl0, r1⟩, r2⟩ := h.items i _ hm
  rcases r1 with ⟨e3, e4⟩ | ⟨gb, of, cap, cur, e3, e4, e5, _⟩
  · exact ⟨none, 0, by rw [hv0, e3, e4], fun h0 => by omega⟩
  · exact ⟨_, cap, hv0.trans e3, fun h0 => ⟨gb, of, _, _, e3, rfl⟩⟩
theorem srcVw {α : Type} {T : Ty α} {l : List α} {y : Operand} {i lo m e : Nat} (hs1 : T.s = 1) (hT : T.solid) (hy : evX S.F y = some (.sv (.one (.vw i lo m 1)))) (hm : S.M[i]? = some (rowI e T l)) (hlm : lo + m ≤ l.length) : SrcOk c S y T ((l.drop lo).take m) := fun a w g hs h => by
  obtain ⟨ao, cap, h1, hao, h2⟩ := (evX_ok h hy).1
  obtain ⟨cs, ⟨hl0, r1⟩, r2⟩ := h.items i _ hm
  have hln : ((l.drop lo).take m).length = m := by simp; omega
  rw [hs1, Nat.mul_one] at hl0
  have hr : rowRead T ((l.drop lo).take m) g ((cs.drop lo).take m) := by
    have := (r2.drop lo).take m
    rwa [hs1, Nat.mul_one, Nat.mul_one] at this
  by_cases h0 : 0 < m
  · obtain ⟨b, of, nn, cp, h3, rfl⟩ := h2 h0
    refine ⟨(cs.drop lo).take m, ⟨_, cap, by rw [h1, hln], (fun e => by cases e), by rw [hln, hs1]; simp; omega, fun j u hj => ⟨b, of + lo * 1, rfl, ?_⟩, fun u hu => (hr.cells hT u hu).one⟩, hr⟩
    rw [List.getElem?_take] at hj
    split at hj
    · rw [List.getElem?_drop] at hj
      rcases r1 with ⟨e3, _⟩ | ⟨gb, of', cap', cur, e3, e4, _, _, _, e5⟩
      · rw [h3] at e3; cases e3
      · rw [h3] at e3
        simp at e3
        obtain ⟨⟨rfl, rfl⟩, rfl, rfl⟩ := e3
        unfold World.cell?
        rw [e4]
        rw [← e5, List.getElem?_take] at hj
        split at hj
        · rw [List.getElem?_drop] at hj
          simpa [Nat.add_assoc] using hj
        · cases hj
    · cases hj
  · have hm0 : m = 0 := by omega
    subst hm0
    exact ⟨[], ⟨ao, cap, by rw [h1]; simp, fun e => ⟨hao e, by simp⟩, by simp, fun j u hj => by simp at hj, fun u hu => by simp at hu⟩, by simpa using rowRead.nil⟩
theorem copy_cells {α : Type} (C R X : List α) {of m lo k : Nat} (hR : (C.drop of).take m = R) (hm : of + m ≤ C.length) (hX : X.length = k) (hk : lo + k ≤ m) : ((C.take (of + lo) ++ X ++ C.drop (of + lo + k)).drop of).take m = R.take lo ++ X ++ R.drop (lo + k) := by
  subst hR
  have h1 : (C.take (of + lo)).drop of = ((C.drop of).take m).take lo := by
    rw [List.take_take, Nat.min_eq_left (by omega), List.drop_take, Nat.add_sub_cancel_left]
  rw [List.append_assoc, List.drop_append_of_le_length (by rw [List.length_take]; omega), h1]
  have h2 : (((C.drop of).take m).take lo).length = lo := by simp; omega
  have h3 : ∀ A D : List α, A.length = lo → (A ++ (X ++ D)).take m = A ++ (X ++ D.take (m - (lo + k))) := fun A D hA => by
    rw [List.take_append, List.take_of_length_le (by omega), List.take_append, List.take_of_length_le (l := X) (by omega)]
    congr 3
    omega
  rw [h3 _ _ h2, List.append_assoc]
  congr 2
  rw [List.drop_take, List.drop_drop, Nat.add_assoc]
theorem me_copy {α : Type} {T : Ty α} {L es : List α} {i lo m t ts e : Nat} {ti te : TI} {x y : Operand} (hs1 : T.s = 1) (hT : T.solid) (ht : tab.ok) (ho : o.op = .call ⟨.builtin .copy, #[x, y], #[t, ts]⟩) (h1 : tab t = some ti) (h2 : ti.sl = some e) (h3 : tab e = some te) (h4 : te.size = 1)
    (hm : S.M[i]? = some (rowI e T L)) (hd : DstOk c S x i lo m) (hsrc : SrcOk c S y T es) (hlm : lo + m ≤ L.length) : ME c S o (.sv (.one (I ((min es.length m : Nat) : Int)))) [(i, rowI e T (L.take lo ++ es.take (min es.length m) ++ L.drop (lo + min es.length m)))] := fun a w g hs h N Z hN => by
  have hu := slT_some ((ht t ti h1).sl.trans h2)
  obtain ⟨cs, ⟨hl0, r1⟩, r2⟩ := h.items i _ hm
  rw [hs1, Nat.mul_one] at hl0
  obtain ⟨dp, dcap, d1, d2⟩ := hd a w g hs h
  obtain ⟨news, ⟨ao, sc, s1, s2, s3, s4, s5⟩, s6⟩ := hsrc a w g hs h
  rw [hs1, Nat.mul_one] at s3
  have hmine := h.mine i _ hm (by simp)
  have hisz : (Tryz.prog.info? e).map (·.size) = some 1 := by
    obtain ⟨x', z, i1, _, i3, _⟩ := (ht e te h3).parts
    rw [i1, Option.map_some, i3, h4]
  generalize hk : min es.length m = k at *
  have hcopy : execOp a.eval o = (do pure (.value (← Builtin.copy_ #[t, ts] o.type #[a.eval x, a.eval y])) : Sem Next) := by
    unfold execOp
    rw [ho]
    simp [resolve, invoke, builtin]
  have hnew : (L.take lo ++ es.take k ++ L.drop (lo + k)).length = L.length := by simp; omega
  have hread : rowRead T (L.take lo ++ es.take k ++ L.drop (lo + k)) g (cs.take lo ++ news.take k ++ cs.drop (lo + k)) := by
    have a1 := r2.take lo
    have a2 := s6.take k
    have a3 := r2.drop (lo + k)
    rw [hs1, Nat.mul_one] at a1 a2 a3
    exact (a1.append a2).append a3
  unfold Oper.wp
  by_cases h0 : 0 < k
  · obtain ⟨b, of, nn, cp, e1, rfl⟩ := d2 (by omega)
    rcases r1 with ⟨e3, _⟩ | ⟨gb, of', cap', cur, e3, e4, e5, e6, e7, e8⟩
    · rw [e1] at e3; cases e3
    · rw [e1] at e3
      simp at e3
      obtain ⟨⟨rfl, rfl⟩, rfl, rfl⟩ := e3
      rw [hs1, Nat.mul_one] at e7
      rw [hs1, Nat.mul_one] at e8
      cases ao with
      | none => have := (s2 rfl).2; omega
      | some ad =>
        have hlk : (news.take k).length = k := by simp; omega
        have had : ∀ j v, (news.take k)[j]? = some v → w.cell? (ad.add j) = some v := fun j v hj => by
          rw [List.getElem?_take] at hj
          split at hj
          · obtain ⟨b', o', k1, k2⟩ := s4 j v hj
            cases k1
            rw [svs_add]
            exact k2
          · cases hj
        have hrun := run_copy_row (P := Tryz.prog) w t ts o.type e b (of + lo) m dcap ad es.length sc cur e (news.take k) hu hisz e4 (by rw [hlk, ← hk]) had (by rw [hlk]; omega) (fun v hv => s5 v (List.mem_of_mem_take hv))
        rw [hcopy, d1, s1, run_valW hrun, hlk]
        have hgr : w.grownBy (w.setRow b (cur.toList.take (of + lo) ++ news.take k ++ cur.toList.drop (of + lo + k)).toArray) (some b) := ⟨rfl, rfl, rfl, by simp, fun q hq hne => setRow_other w b q _ (fun e => hne (by rw [e]))⟩
        have hbi : Blk (hs i) b := by rw [e1]; rfl
        refine hN _ _ g ⟨hgr.os, hgr.tape, hgr.output, hgr.size, fun b' hb hk => hgr.block b' hb (fun e => by cases e; exact hk i (by simp) hbi), Gh.le.refl g, fun b o e => .inl e, ?_⟩ (fun q hq b' hb => ?_) ⟨rfl, trivial⟩ (fun p hp => ?_)
        · exact (h.base.kept hgr (fun b' e => by cases e; exact (hmine b hbi).2 rfl)).pers
        · simp at hq
          subst hq
          exact ((hmine b' hb).2 rfl).2
        · rw [List.mem_singleton] at hp
          subst hp
          refine ⟨_, ⟨hread.length, .inr ⟨b, of, cp, _, ?_, setRow_heap w b _ _ _ _ e4, by rw [hnew]; exact e5, e6, ?_, ?_⟩⟩, hread⟩
          · rw [e1, hnew]
          · rw [hs1, Nat.mul_one]
            simp only [List.size_toArray, List.length_append, hlk, List.length_take, List.length_drop, Array.length_toList]
            omega
          · rw [hs1, Nat.mul_one, hnew]
            exact copy_cells _ _ _ e8 (by have h9 := Array.length_toList (xs := cur); omega) hlk (by omega)
  · have hk0 : k = 0 := by omega
    subst hk0
    have hrun := run_copy_none (P := Tryz.prog) w t ts o.type e dp ao m dcap es.length sc hu hisz hk
    rw [hcopy, d1, s1, run_valW hrun]
    refine hN _ _ g ⟨rfl, rfl, rfl, Nat.le_refl _, fun _ _ _ => rfl, Gh.le.refl g, fun b o e => .inl e, h.base.pers⟩ (fun q hq b' hb => ?_) ⟨rfl, trivial⟩ (fun p hp => ?_)
    · simp at hq
      subst hq
      exact ((hmine b' hb).2 rfl).2
    · rw [List.mem_singleton] at hp
      subst hp
      have e0 : L.take lo ++ es.take 0 ++ L.drop (lo + 0) = L := by simp
      rw [e0]
      exact h.items i _ hm
theorem view_le {lv hv : Int} {m : Nat} (h : partOk lv hv m) : lv.toNat + (hv.toNat - lv.toNat) ≤ m := by
  obtain ⟨h1, h2, h3⟩ := h
  omega
theorem WL.me {x : SC} {i : Nat} {it it' : Item} (hn : c.n = n) (hw : wantE ops S.F o = some true) (hm : ME c S o x [(i, it')]) (hi : S.M[i]? = some it) (hf : it.fz = false) (hf' : it'.fz = false) (e : putE n o.dst x ⟨S.F, S.M.set i it'⟩ = some S1) (h : WL c ops rest S1 N) : WL c ops (o :: rest) S N := fun a w ⟨g, hs, hk⟩ => by
  unfold wpList
  rw [if_pos (wantE_ok hk hw)]
  refine .inl (hm a w g hs hk _ N fun v w' g' h1 h2 h3 h4 => ?_)
  have := hk.updS (us := [(i, it')]) (fun p hp => by simp at hp; subst hp; exact ⟨it, hi, hf⟩) (fun p hp => by simp at hp; subst hp; exact hf') h1 h2 h4
  exact h _ _ ⟨g', hs, putE_ok this hn h3 e⟩
end
def PanC (c : Cfg) (ps : List PanicEntry → Prop) (bad : Prop) : Prop := ∀ ch a w' g', a.defers = c.dfr → ps ch → bad → Base c w' g' → c.pan ch a w'
def CtP {β : Type} (f : Nat) (ins : List SC) (M : List Item) (pin : List Nat) (post : β → Prop) (out : β → SC) (M' : β → List Item) (ps : List PanicEntry → Prop) (bad : Prop) : Prop := ∀ (w : World) (g : Gh) (hs : Nat → Value) (args : List Value), Pers g w → okArgs g hs ins args → ItemsOk (fun _ => True) 0 M g hs w →
  Calls Tryz.prog f args.toArray w (fun en w' => (∃ v g' hs' r, en = .returned v ∧ post r ∧ (out r).ok g' hs' v ∧ (∀ i ∈ pin, hs' i = hs i) ∧ Base (cfgM 0 w g (mayM M hs)) w' g' ∧ ItemsOk (mayM M hs) w.heap.size (M' r) g' hs' w') ∨
    ∃ ch g', en = .panicked ch ∧ ps ch ∧ bad ∧ Base (cfgM 0 w g (mayM M hs)) w' g')
def CtX (f : Nat) (ins : List SC) (M : List Item) (ps : List PanicEntry → Prop) : Prop := ∀ (w : World) (g : Gh) (hs : Nat → Value) (args : List Value), Pers g w → okArgs g hs ins args → ItemsOk (fun _ => True) 0 M g hs w →
  Calls Tryz.prog f args.toArray w (fun en w' => ∃ ch g', en = .panicked ch ∧ ps ch ∧ Base (cfgM 0 w g (mayM M hs)) w' g')
theorem CtP.toE {β γ : Type} {f : Nat} {ins : List SC} {M : List Item} {pin : List Nat} {post : β → Prop} {out : β → SC} {M1 : β → List Item} {ps : List PanicEntry → Prop} {post' : γ → Prop} {out' : γ → SC} {M2 : γ → List Item} (h : CtP f ins M pin post out M1 ps False) (hp : ∀ r, post r → ∃ s, post' s ∧ out' s = out r ∧ M2 s = M1 r) : CtE f ins M pin post' out' M2 := fun w g hs args h1 h2 h3 =>
  (h w g hs args h1 h2 h3).mono fun e w' k => by
    rcases k with ⟨v, g', hs', r, e1, e2, e3, e4⟩ | ⟨_, _, _, _, k, _⟩
    · obtain ⟨s, s1, s2, s3⟩ := hp r e2
      exact ⟨v, g', hs', s, e1, s1, by rw [s2]; exact e3, by rw [s3]; exact e4⟩
    · exact k.elim
theorem CtP.toX {β : Type} {f : Nat} {ins : List SC} {M : List Item} {pin : List Nat} {out : β → SC} {M1 : β → List Item} {ps : List PanicEntry → Prop} {P : Prop} (h : CtP f ins M pin (fun _ => False) out M1 ps P) : CtX f ins M ps := fun w g hs args h1 h2 h3 =>
  (h w g hs args h1 h2 h3).mono fun e w' k => by
    rcases k with ⟨_, _, _, _, _, k, _⟩ | ⟨ch, g', e1, e2, _, e4⟩
    · exact k.elim
    · exact ⟨ch, g', e1, e2, e4⟩
theorem Base.cast {c c' : Cfg} {w : World} {g : Gh} (h : Base c w g) (h1 : c'.w0 = c.w0) (h2 : c'.g0 = c.g0) (h3 : c'.may = c.may) : Base c' w g := by
  refine ⟨h1 ▸ h.os, h1 ▸ h.tape, h1 ▸ h.output, h1 ▸ h.grows, fun b hb hm => ?_, h2 ▸ h.ghle, fun b o e => ?_, h.pers⟩
  · rw [h1] at hb ⊢
    rw [h3] at hm
    exact h.frame b hb hm
  · rw [h1, h2, h3]
    exact h.ghnew b o e
theorem CtP.body {β : Type} {f : Nat} {fn : Func} {code : Code} {n : Nat} {rs : Array ResultVar} {ins : List SC} {M : List Item} {pin : List Nat} {post : β → Prop} {out : β → SC} {M' : β → List Item} {ps : List PanicEntry → Prop} {bad : Prop} (hf : Tryz.prog.funcs[f]? = some fn) (hb : fn.body = some code) (hn : fn.ntmps = n) (hr : fn.results = rs)
    (hl : Nat.ble ins.length n = true) (hpin : pinned pin ins = true) (h : ∀ (c : Cfg) (B : Nat → Nat), c.n = n → PanC c ps bad → En c ⟨enumF 0 (ins.map (pinS pin B)), M⟩ (cwp code (PQ c (RetE c rs pin B post out M') [] (RetE c rs pin B post out M')))) : CtP f ins M pin post out M' ps bad := fun w g hs args hp ha hm => by
  have hl := Nat.le_of_ble_eq_true hl
  have hla := okArgs_length ha
  have hB : ∀ i ∈ pin, hs i = .pointer (some ⟨(blk (hs i)).getD 0, 0, none⟩) := fun i hi => by
    obtain ⟨x, hx, e⟩ := List.any_eq_true.1 (List.all_eq_true.1 hpin i hi)
    split at e
    · rename_i j
      have e := Nat.eq_of_beq_eq_true e
      subst e
      obtain ⟨u, ⟨b, h1, _⟩, _⟩ := okArgs_get ha hx
      rw [h1]
      rfl
    · cases e
  let c : Cfg := ⟨n, w, g, mayM M hs, [], fun ch a w' => a.defers = [] ∧ ps ch ∧ bad ∧ ∃ g', Base (cfgM 0 w g (mayM M hs)) w' g'⟩
  have hpc : PanC c ps bad := fun ch a w' g' h1 h2 h3 h4 => ⟨h1, h2, h3, g', h4.cast rfl rfl rfl⟩
  refine calls_of_wp hf hb (Code.wp_mono (fun e a w' q => ?_) (h c (fun i => (blk (hs i)).getD 0) rfl hpc { tmps := args.toArray ++ Array.replicate (fn.ntmps - args.toArray.size) undef, defers := [] } w ⟨g, hs, ?_⟩))
  · have key : RetE c rs pin (fun i => (blk (hs i)).getD 0) post out M' a w' → a.defers = [] ∧ ∃ v, (results fn a.tmps).run Tryz.prog w' = .ok v w' ∧ ((∃ v' g' hs' r, Ending.returned v = .returned v' ∧ post r ∧ (out r).ok g' hs' v' ∧ (∀ i ∈ pin, hs' i = hs i) ∧ Base (cfgM 0 w g (mayM M hs)) w' g' ∧ ItemsOk (mayM M hs) w.heap.size (M' r) g' hs' w') ∨ ∃ ch g', Ending.returned v = .panicked ch ∧ ps ch ∧ bad ∧ Base (cfgM 0 w g (mayM M hs)) w' g') := fun ⟨h1, v, g', hs', r, h2, h3, h4, h5, h6, h7⟩ => by
      refine ⟨h1, v, ?_, .inl ⟨v, g', hs', r, rfl, h3, h4, fun i hi => (h5 i hi).trans (hB i hi).symm, h6.cast rfl rfl rfl, h7⟩⟩
      subst hr
      exact h2
    cases e with
    | panic ch =>
      obtain ⟨q1, q2, q3, g', q4⟩ := (q : a.defers = [] ∧ ps ch ∧ bad ∧ ∃ g', Base (cfgM 0 w g (mayM M hs)) w' g')
      exact ⟨q1, .inr ⟨ch, g', rfl, q2, q3, q4⟩⟩
    | normal => exact key q
    | ret => exact key q
    | exit _ => exact (q : False).elim
    | goto _ => exact (q : False).elim
    | outgrown => exact (q : False).elim
  · refine ⟨?_, rfl, ⟨rfl, rfl, rfl, Nat.le_refl _, fun _ _ _ => rfl, Gh.le.refl g, fun b o e => .inl e, hp⟩, fun t x hx => ?_, hm.items, hm.sep, fun i it hi hn b hb => ?_⟩
    · simp [c, hn]
      omega
    · obtain ⟨u, h1, _, h3⟩ := enumF_ok (okArgs_pin hB ha) hx
      simp only [Nat.sub_zero] at h1
      have hlt := (List.getElem?_eq_some_iff.1 h1).1
      have : (args.toArray ++ Array.replicate (fn.ntmps - args.toArray.size) undef).getD t undef = u := by
        rw [Array.getD_eq_getD_getElem?, Array.getElem?_append_left (by simpa using hlt)]
        simp [h1]
      rw [this]
      exact h3
    · obtain ⟨h1, h2⟩ := hm.mine i it hi hn b hb
      exact ⟨h1, fun hf => ⟨.inl ⟨i, it, hi, hf, hb⟩, (h2 hf).2⟩⟩
theorem splitO {α : Type} {p : Prop} (o : Option α) (h1 : o = none → p) (h2 : ∀ r, o = some r → p) : p := by
  cases h : o with
  | none => exact h1 h
  | some r => exact h2 r h
def deadR : Rd := ⟨fun _ _ => False, fun _ _ _ _ h => h⟩
section
variable {c : Cfg} {S S1 : St} {a : Act} {w : World} {g : Gh} {hs : Nat → Value} {tab : Tab} {n : Nat} {o : Oper} {ops : Array Oper} {rest : List Oper} {N : Po}
theorem Base.callM (h : Ok' c S a w g hs) {M : List Item} {rn : List Nat} (hM : M.map (fun it => some (it.mv (rnF rn S.M.length))) = rn.map (fun j => S.M[j]?)) {w' : World} {g' : Gh} (hb : Base (cfgM 0 w g (mayM M (fun i => hs (rnF rn S.M.length i)))) w' g') : Base c w' g' := by
  have hat : ∀ (i : Nat) (it : Item), M[i]? = some it → ∃ j, rn[i]? = some j ∧ rnF rn S.M.length i = j ∧ S.M[j]? = some (it.mv (rnF rn S.M.length)) := fun i it hi => by
    have := congrArg (·[i]?) hM
    simp only [List.getElem?_map, hi, Option.map_some] at this
    cases hr : rn[i]? with
    | none => rw [hr] at this; simp at this
    | some j =>
      rw [hr] at this
      simp at this
      have hlt := (List.getElem?_eq_some_iff.1 hr).1
      refine ⟨j, rfl, ?_, this.symm⟩
      unfold rnF
      rw [show Nat.blt i rn.length = true from by simpa [Nat.blt_eq] using hlt]
      simp [hr]
  have hmay : ∀ b, mayM M (fun i => hs (rnF rn S.M.length i)) b → ∃ j it, S.M[j]? = some it ∧ it.fz = false ∧ Blk (hs j) b := fun b ⟨i, it, h1, h2, h3⟩ => by
    obtain ⟨j, _, h4, h5⟩ := hat i it h1
    simp only [h4] at h3
    exact ⟨j, _, h5, by rw [Item.mv_fz]; exact h2, h3⟩
  refine ⟨hb.os.trans h.base.os, hb.tape.trans h.base.tape, hb.output.trans h.base.output, Nat.le_trans h.base.grows hb.grows, fun b hb1 hm => ?_, h.base.ghle.trans hb.ghle, fun b o e => ?_, hb.pers⟩
  · refine (hb.frame b (Nat.lt_of_lt_of_le hb1 h.base.grows) fun hm2 => ?_).trans (h.base.frame b hb1 hm)
    obtain ⟨j, jt, h8, h9, h10⟩ := hmay b hm2
    rcases ((h.mine j jt h8 (fz_gone h9) b h10).2 h9).1 with h11 | h11
    · exact hm h11
    · omega
  · rcases hb.ghnew b o e with h1 | h1 | h1
    · exact h.base.ghnew b o h1
    · obtain ⟨j, jt, h8, h9, h10⟩ := hmay b h1
      exact .inr ((h.mine j jt h8 (fz_gone h9) b h10).2 h9).1
    · exact .inr (.inr (Nat.le_trans h.base.grows h1))
def LeftX (c : Cfg) (S : St) (M : List Item) (rn : List Nat) (ps : List PanicEntry → Prop) : Prop := ∀ a w g hs, Ok' c S a w g hs → ∀ ch w' g', ps ch → Base (cfgM 0 w g (mayM M (fun i => hs (rnF rn S.M.length i)))) w' g' → Base c w' g' → c.pan ch a w'
theorem leftX {M : List Item} {rn : List Nat} {ps : List PanicEntry → Prop} {P : Prop} (hpan : PanC c ps P) (hP : P) : LeftX c S M rn ps := fun a w g hs hk ch w' g' h1 _ h2 => hpan ch a w' g' hk.defers h1 hP h2
theorem mt_callX {f : Nat} {ins : List SC} {M : List Item} {ps : List PanicEntry → Prop} {x : SC} {K : List Nat} {p : Option (Nat × Item)} (ct : CtX f ins M ps) (en : ∀ args w, (callFunc f args).run Tryz.prog w = .ok (.enter f args) w) {caps : List Nat} (rn : List Nat) {fo : Operand} {args : Array Operand} {ats : Array TypeId}
    (ho : o.op = .call ⟨.value fo, args, ats⟩) (hf : evX S.F fo = some (.sv (.one (.fn f caps)))) (ha : ArgsAs c S args caps (ins.map (SC.ren (rnF rn S.M.length))))
    (hM : M.map (fun it => some (it.mv (rnF rn S.M.length))) = rn.map (fun j => S.M[j]?)) (hnd : rn.Nodup) (hpan : LeftX c S M rn ps) : MT c S o x K p := fun a w g hs hk N Z hN => by
  unfold Oper.wp
  have hfv : a.eval fo = .func (.func f) #[] (caps.map hs).toArray := (evX_ok hk hf).1
  have hrun : (execOp a.eval o).run Tryz.prog w = .ok (.enter f ((args.toList.map a.eval) ++ caps.map hs).toArray) w := by
    unfold execOp
    simp only [ho, resolve, hfv, Deferred.ofValue, Sem.run_bind, Sem.run_pure, Result.andThen_ok, invoke]
    rw [show (#[] ++ Array.map a.eval args ++ (List.map hs caps).toArray : Array Value) = (args.toList.map a.eval ++ caps.map hs).toArray by simp]
    exact en _ _
  rw [hrun]
  refine (ct w g (fun i => hs (rnF rn S.M.length i)) _ hk.base.pers (okArgs_ren (ha a w g hs hk)) (items_in hk hM hnd)).mono ?_
  rintro e' w' ⟨ch, g', rfl, h1, h2⟩
  exact hpan a w g hs hk ch w' g' h1 h2 (Base.callM hk hM h2)
theorem WL.callX {f : Nat} {ins : List SC} {M : List Item} {ps : List PanicEntry → Prop} (ct : CtX f ins M ps) (en : ∀ args w, (callFunc f args).run Tryz.prog w = .ok (.enter f args) w) {caps : List Nat} (rn : List Nat) {fo : Operand} {args : Array Operand} {ats : Array TypeId}
    (hw : wantE ops S.F o = some true) (ho : o.op = .call ⟨.value fo, args, ats⟩) (hf : evX S.F fo = some (.sv (.one (.fn f caps)))) (ha : ArgsAs c S args caps (ins.map (SC.ren (rnF rn S.M.length))))
    (hM : M.map (fun it => some (it.mv (rnF rn S.M.length))) = rn.map (fun j => S.M[j]?)) (hnd : rn.Nodup) (hpan : LeftX c S M rn ps) : WL c ops (o :: rest) S N := fun a w ⟨g, hs, hk⟩ => by
  unfold wpList
  rw [if_pos (wantE_ok hk hw)]
  exact .inl (mt_callX (x := .sv (.one (.rd deadR))) (K := []) (p := none) ct en rn ho hf ha hM hnd hpan a w g hs hk _ N fun v w' g' h' _ h2 _ => absurd h2.1 (fun h => h))
theorem mt_dead {x : SC} {K : List Nat} {p : Option (Nat × Item)} (t : Nat) (hl : look t S.F = some (.sv (.one (.rd deadR)))) : MT c S o x K p := fun a w g hs hk N Z hN => absurd (hk.slots t _ (look_mem hl)).1 (fun h => h)
theorem En.dead (t : Nat) (hl : look t S.F = some (.sv (.one (.rd deadR)))) : En c S N := fun a w ⟨g, hs, hk⟩ => absurd (hk.slots t _ (look_mem hl)).1 (fun h => h)
theorem WL.dead (t : Nat) (hl : look t S.F = some (.sv (.one (.rd deadR)))) : WL c ops rest S N := fun a w ⟨g, hs, hk⟩ => absurd (hk.slots t _ (look_mem hl)).1 (fun h => h)
def psStop (ty : Nat) (ch : List PanicEntry) : Prop := ∃ code at_ : Int, code ≠ 0 ∧ ch = [{ v := .iface ty (.agg #[.int .i64 code, .int .i64 at_]), recovered := false }]
theorem WL.panicI {ty d : Nat} {fs : Array Field} {o1 o2 : Oper} {x : Operand} {code at_ : Int} {P : Prop} (hn : c.n = n) (hw1 : wantE ops S.F o1 = some true) (ho1 : o1.op = .makeInterface ty x) (hd : o1.dst = some d) (hdn : Nat.blt d n = true) (hu : Tryz.prog.underlying ty = some (.struct fs)) (hx : evX S.F x = some (.sv (.agg [I code, I at_])))
    (hw2 : wantE ops S.F o2 = some true) (hg2 : o2.guard = none) (ho2 : o2.op = .panic (.tmp d)) (hc : code ≠ 0) (hpan : PanC c (psStop ty) P) (hP : P) : WL c ops (o1 :: o2 :: rest) S N := fun a w ⟨g, hs, hk⟩ => by
  unfold wpList
  rw [if_pos (wantE_ok hk hw1)]
  refine .inl ?_
  unfold Oper.wp
  obtain ⟨cs, h1, h2⟩ := evX_ok hk hx
  have hcs : cs = [.int .i64 code, .int .i64 at_] := by
    match cs, h2 with
    | [c1, c2], h2 =>
      have e1 : c1 = .int .i64 code := h2.1.1
      have e2 : c2 = .int .i64 at_ := h2.2.2.1.1
      rw [e1, e2]
  subst hcs
  have hrun : (execOp a.eval o1).run Tryz.prog w = .ok (.value (.iface ty (.agg #[.int .i64 code, .int .i64 at_]))) w := by
    have : execOp a.eval o1 = (do pure (.value (← Instr.makeInterface ty (a.eval x))) : Sem Next) := by unfold execOp; rw [ho1]
    rw [this]
    refine run_val ?_
    simp only [Instr.makeInterface, Sem.run_bind, run_underlying hu, Result.andThen_ok, h1, Sem.run_pure]
  rw [hrun]
  show wpList Tryz.prog ops (OnlyP c N) (o2 :: rest) _ w
  unfold wpList
  have hwant : Region.wanted o2 (yielded ops (a.put o1.dst (.iface ty (.agg #[.int .i64 code, .int .i64 at_]))).tmps) = true := by unfold Region.wanted; rw [hg2]
  rw [if_pos hwant]
  refine .inl ?_
  unfold Oper.wp
  have hev : (a.put o1.dst (.iface ty (.agg #[.int .i64 code, .int .i64 at_]))).eval (.tmp d) = .iface ty (.agg #[.int .i64 code, .int .i64 at_]) := by
    rw [hd]
    have hsz : d < a.tmps.size := by rw [hk.size, hn]; exact Nat.le_of_ble_eq_true hdn
    simp [Act.put, Act.eval, hsz]
  have hrun2 : (execOp (a.put o1.dst (.iface ty (.agg #[.int .i64 code, .int .i64 at_]))).eval o2).run Tryz.prog w = .halt (.panic (.iface ty (.agg #[.int .i64 code, .int .i64 at_]))) w := by
    have : execOp (a.put o1.dst (.iface ty (.agg #[.int .i64 code, .int .i64 at_]))).eval o2 = (do pure (.value (← Instr.panic ((a.put o1.dst (.iface ty (.agg #[.int .i64 code, .int .i64 at_]))).eval (.tmp d)))) : Sem Next) := by unfold execOp; rw [ho2]
    rw [this, hev]
    rfl
  rw [hrun2]
  refine hpan _ _ w g ?_ ⟨code, at_, hc, rfl⟩ hP hk.base
  rw [hd]
  exact hk.defers
end
def byteAt (s : ByteArray) (i : Int) : Option Int := if 0 ≤ i then (s[i.toNat]?).map (fun b => ((b.toNat : Nat) : Int)) else none
section
variable {c : Cfg} {S S1 : St} {a : Act} {w : World} {g : Gh} {hs : Nat → Value} {tab : Tab} {n : Nat} {o : Oper} {ops : Array Oper} {rest : List Oper} {N : Po}
theorem val_indexS {x ix : Operand} {t : Nat} {s : ByteArray} {k : IntKind} {i b : Int} (ho : o.op = .index t x ix) (hu : Tryz.prog.underlying t = some .string) (hx : evX S.F x = some (.sv (.one (.v (.string s))))) (hi : evK S.F ix = some (.int k i)) (hb : byteAt s i = some b) : Val c S o (.sv (.one (.v (.int .u8 b)))) := fun a w g hs h => by
  have h1 : a.eval x = .string s := (evX_ok h hx).1
  unfold byteAt at hb
  split at hb
  · rename_i h0
    cases hs : s[i.toNat]? with
    | none => rw [hs] at hb; cases hb
    | some y =>
      rw [hs] at hb
      simp at hb
      subst hb
      refine ⟨.int .u8 (y.toNat : Int), ?_, rfl, trivial⟩
      have e : execOp a.eval o = (do pure (.value (← Instr.index t (a.eval x) (a.eval ix))) : Sem Next) := by unfold execOp; rw [ho]
      rw [e]
      refine run_val ?_
      simp only [Instr.index, evK_ok h hi, asIntOf, h1, Sem.run_bind, Sem.run_pure, Result.andThen_ok, run_underlying hu, if_pos h0, hs]
  · cases hb
theorem val_ext2 {f : Nat} {fo x y : Operand} {ats : Array TypeId} {u v r : Value} (hrun : ∀ w, (callFunc f #[u, v]).run Tryz.prog w = .ok (.value r) w) (hr : cellV r) (ho : o.op = .call ⟨.value fo, #[x, y], ats⟩) (hf : evX S.F fo = some (.sv (.one (.fn f [])))) (hx : evX S.F x = some (.sv (.one (.v u)))) (hy : evX S.F y = some (.sv (.one (.v v)))) : Val c S o (.sv (.one (.v r))) := fun a w g hs h => by
  have h1 : a.eval x = u := (evX_ok h hx).1
  have h2 : a.eval y = v := (evX_ok h hy).1
  have hfv : a.eval fo = .func (.func f) #[] #[] := (evX_ok h hf).1
  refine ⟨r, ?_, rfl, hr⟩
  unfold execOp
  simp only [ho, resolve, hfv, Deferred.ofValue, Sem.run_bind, Sem.run_pure, Result.andThen_ok, invoke]
  have e : (#[] ++ Array.map a.eval #[x, y] ++ #[] : Array Value) = #[u, v] := by simp [h1, h2]
  rw [e]
  exact hrun w
theorem val_lenS {x : Operand} {t : Nat} {s : ByteArray} (ho : o.op = .call ⟨.builtin .len, #[x], #[t]⟩) (hu : Tryz.prog.underlying t = some .string) (hx : evX S.F x = some (.sv (.one (.v (.string s))))) : Val c S o (.sv (.one (I (s.size : Int)))) := fun a w g hs h => by
  have h1 : a.eval x = .string s := (evX_ok h hx).1
  refine ⟨.int .i64 s.size, ?_, rfl, trivial⟩
  have e : execOp a.eval o = (do pure (.value (← Builtin.len_ #[t] o.type #[a.eval x])) : Sem Next) := by
    unfold execOp
    rw [ho]
    simp [resolve, invoke, builtin]
  rw [e, h1]
  refine run_val ?_
  simp [Builtin.len_, run_underlying hu, goInt]
theorem val_addS {x y : Operand} {t : Nat} {b : TypeId} {u v : ByteArray} (ho : o.op = .binOp .add t x y b) (hx : evX S.F x = some (.sv (.one (.v (.string u))))) (hy : evX S.F y = some (.sv (.one (.v (.string v))))) (hs : u.size + v.size ≤ 1048576) : Val c S o (.sv (.one (.v (.string (u ++ v))))) := fun a w g hs' h => by
  have h1 : a.eval x = .string u := (evX_ok h hx).1
  have h2 : a.eval y = .string v := (evX_ok h hy).1
  refine ⟨.string (u ++ v), ?_, rfl, trivial⟩
  have e : execOp a.eval o = (do pure (.value (← (do eqGuard .add t x y (a.eval x) (a.eval y); binOp .add t (a.eval x) (a.eval y) : Sem Value))) : Sem Next) := by unfold execOp; rw [ho]
  rw [e]
  refine run_val ?_
  rw [h1, h2]
  have hg : (eqGuard .add t x y (.string u) (.string v)).run Tryz.prog w = .ok () w := by simp [eqGuard]
  rw [Sem.run_bind, hg, Result.andThen_ok]
  have hm : ¬ (((u.size + v.size : Nat) : Int) > IntKind.i64.max) := by
    have : IntKind.i64.max = 9223372036854775807 := rfl
    omega
  simp only [binOp, Op.stringOp]
  rw [if_neg hm]
  rfl
theorem val_sliceS {x : Operand} {lo hi : Option Operand} {t : Nat} {s : ByteArray} {lv hv : Int} (ho : o.op = .slice t x lo hi none) (hu : Tryz.prog.underlying t = some .string) (hx : evX S.F x = some (.sv (.one (.v (.string s)))))
    (hlo : (match lo with | some q => evK S.F q = some (.int .i64 lv) | none => lv = 0)) (hhi : (match hi with | some q => evK S.F q = some (.int .i64 hv) | none => hv = s.size)) (h5 : 0 ≤ lv ∧ lv ≤ hv ∧ hv ≤ s.size) : Val c S o (.sv (.one (.v (.string (s.extract lv.toNat hv.toNat))))) := fun a w g hs h => by
  have h1 : a.eval x = .string s := (evX_ok h hx).1
  refine ⟨_, ?_, rfl, trivial⟩
  have hb := run_boundsS (lo := lo) (hi := hi) (b := false) h (by cases lo <;> simp only at hlo <;> first | exact .inl ⟨rfl, hlo⟩ | exact .inr ⟨_, rfl, hlo⟩) (by cases hi <;> simp only at hhi <;> first | exact .inl ⟨rfl, hhi⟩ | exact .inr ⟨_, rfl, hhi⟩) h5
  have e : execOp a.eval o = (do pure (.value (← Instr.sliceAt t (a.eval x) (lo.map a.eval) (hi.map a.eval) none)) : Sem Next) := by unfold execOp; rw [ho]; rfl
  rw [e]
  refine run_val ?_
  have key : Sem.run Tryz.prog (Instr.sliceAt t (.string s) (lo.map a.eval) (hi.map a.eval) none) w = (Sem.run Tryz.prog (Instr.sliceBounds false s.size s.size (lo.map a.eval) (hi.map a.eval) none) w).andThen fun x w' => .ok (.string (s.extract x.1 x.2.1)) w' := by
    simp [Instr.sliceAt, Instr.slice, Sem.run_bind, run_underlying hu, Result.andThen_ok]
  rw [h1, key, hb]
  rfl
end
inductive Tr (α : Type) where
  | node (a : α) (kids : List (Tr α))
def Tr.lab {α : Type} : Tr α → α
  | .node a _ => a
def Tr.kids {α : Type} : Tr α → List (Tr α)
  | .node _ l => l
theorem Tr.eta {α : Type} (t : Tr α) : Tr.node t.lab t.kids = t := by cases t; rfl
inductive TrOk {α : Type} (lab : α → List Value) (g : Gh) : Tr α → Value → Prop
  | mk (a : α) (kids : List (Tr α)) (b off : Nat) (ao : Option Addr) (cap b' o' : Nat) (us : Nat → Value)
      (h1 : ∀ j c, (lab a)[j]? = some c → g.cell ⟨b, off + j, none⟩ = some c) (h2 : g.cell ⟨b, off + (lab a).length, none⟩ = some (.slice ao kids.length cap))
      (h3 : kids.length ≤ cap) (h4 : cap ≤ maxLen) (h5 : ao = none → cap = 0) (h6 : 0 < kids.length → ao = some ⟨b', o', none⟩)
      (h7 : ∀ q x, kids[q]? = some x → g.cell ⟨b', o' + q, none⟩ = some (us q)) (h8 : ∀ q x, kids[q]? = some x → TrOk lab g x (us q)) : TrOk lab g (.node a kids) (.pointer (some ⟨b, off, none⟩))
theorem TrOk.mono {α : Type} {lab : α → List Value} {g g' : Gh} (hg : Gh.le g g') {t : Tr α} {v : Value} (h : TrOk lab g t v) : TrOk lab g' t v := by
  induction h with
  | mk a kids b off ao cap b' o' us h1 h2 h3 h4 h5 h6 h7 h8 ih => exact .mk a kids b off ao cap b' o' us (fun j c hj => Gh.cell_up hg (h1 j c hj)) (Gh.cell_up hg h2) h3 h4 h5 h6 (fun q x hx => Gh.cell_up hg (h7 q x hx)) ih
theorem TrOk.ptr {α : Type} {lab : α → List Value} {g : Gh} {t : Tr α} {v : Value} (h : TrOk lab g t v) : ∃ b off, v = .pointer (some ⟨b, off, none⟩) := by
  cases h
  exact ⟨_, _, rfl⟩
def trR {α : Type} (lab : α → List Value) (t : Tr α) : Rd := ⟨fun g v => TrOk lab g t v, fun _ _ _ hg h => h.mono hg⟩
abbrev TT {α : Type} (lab : α → List Value) : Ty (Tr α) := ⟨1, fun t => .one (.rd (trR lab t))⟩
def nodeS {α : Type} (lab : α → List Value) (a : α) (kids : List (Tr α)) : List At := (lab a).map .v ++ [LS (TT lab) kids]
theorem oks_vals {g : Gh} {hs : Nat → Value} : ∀ {l : List Value}, (∀ c ∈ l, cellV c) → oks g hs (l.map .v) l
  | [], _ => trivial
  | c :: _, h => ⟨⟨rfl, h c List.mem_cons_self⟩, h c List.mem_cons_self, oks_vals fun x hx => h x (List.mem_cons_of_mem _ hx)⟩
theorem vals_oks {g : Gh} {hs : Nat → Value} : ∀ {l us : List Value}, oks g hs (l.map .v) us → us = l
  | [], [], _ => rfl
  | [], _ :: _, h => h.elim
  | _ :: _, [], h => h.elim
  | c :: l, u :: us, h => by
    have h1 : u = c := h.1.1
    rw [h1, vals_oks h.2.2]
theorem oks_split {g : Gh} {hs : Nat → Value} : ∀ {l l' : List At} {us : List Value}, oks g hs (l ++ l') us → ∃ u1 u2, us = u1 ++ u2 ∧ oks g hs l u1 ∧ oks g hs l' u2
  | [], l', us, h => ⟨[], us, rfl, trivial, h⟩
  | _ :: _, _, [], h => h.elim
  | _ :: _, _, u :: _, h => by
    obtain ⟨u1, u2, e, h1, h2⟩ := oks_split h.2.2
    exact ⟨u :: u1, u2, by rw [e]; rfl, ⟨h.1, h.2.1, h1⟩, h2⟩
theorem oks_join {g : Gh} {hs : Nat → Value} : ∀ {l l' : List At} {us us' : List Value}, oks g hs l us → oks g hs l' us' → oks g hs (l ++ l') (us ++ us')
  | [], _, [], _, _, h => h
  | [], _, _ :: _, _, h, _ => h.elim
  | _ :: _, _, [], _, h, _ => h.elim
  | _ :: _, _, _ :: _, _, h, h' => ⟨h.1, h.2.1, oks_join h.2.2 h'⟩
theorem tr_pe {α : Type} {lab : α → List Value} (hl : ∀ a, ∀ c ∈ lab a, cellV c) {g : Gh} {t : Tr α} {v : Value} (h : TrOk lab g t v) : ptrTo (svR (.agg (nodeS lab t.lab t.kids))) ((lab t.lab).length + 1) g v := by
  cases h with
  | mk a kids b off ao cap b' o' us h1 h2 h3 h4 h5 h6 h7 h8 =>
    have hLS : oks g hs0 [LS (TT lab) kids] [Value.slice ao kids.length cap] := by
      refine ⟨⟨⟨⟨ao, kids.length, cap, rfl, rfl, h3, h4, h5, fun q x hx => ?_⟩, ao, cap, rfl⟩, trivial⟩, trivial, trivial⟩
      have hq := (List.getElem?_eq_some_iff.1 hx).1
      obtain ⟨b2, o2, e⟩ := (h8 q x hx).ptr
      have hc : (us q).cells = #[us q] := by rw [e]; rfl
      refine ⟨b', o', us q, h6 (by omega), ⟨h8 q x hx, by rw [e]; trivial⟩, by rw [hc]; rfl, fun j c hj => ?_⟩
      rw [hc] at hj
      cases j with
      | zero =>
        simp at hj
        subst hj
        have := h7 q x hx
        simpa using this
      | succ j => simp at hj
    refine ⟨b, off, .agg (lab a ++ [Value.slice ao kids.length cap]).toArray, rfl, ⟨_, rfl, oks_join (oks_vals (hl a)) hLS⟩, by simp [Value.cells, Tr.lab], fun j c hj => ?_⟩
    have hj : (lab a ++ [Value.slice ao kids.length cap])[j]? = some c := by simpa [Value.cells] using hj
    rw [List.getElem?_append] at hj
    split at hj
    · exact h1 j c hj
    · rename_i hn
      have : j = (lab a).length := by
        have := (List.getElem?_eq_some_iff.1 hj).1
        simp at this
        omega
      subst this
      simp at hj
      subst hj
      exact h2
theorem pe_tr {α : Type} {lab : α → List Value} {g : Gh} {a : α} {kids : List (Tr α)} {v : Value} (h : ptrTo (svR (.agg (nodeS lab a kids))) ((lab a).length + 1) g v) : TrOk lab g (.node a kids) v := by
  obtain ⟨b, off, x, rfl, ⟨cs, rfl, h1⟩, _, h2⟩ := h
  obtain ⟨u1, u2, rfl, k1, k2⟩ := oks_split h1
  have := vals_oks k1
  subst this
  match u2, k2 with
  | [u], k2 =>
    obtain ⟨⟨⟨ao, n, cap, rfl, rfl, h3, h4, h5, h6⟩, _⟩, _⟩ := k2.1
    have hc : ∀ j c, (lab a ++ [Value.slice ao kids.length cap])[j]? = some c → g.cell ⟨b, off + j, none⟩ = some c := fun j c hj => h2 j c (by simpa [Value.cells] using hj)
    have key : ∀ q, ∃ u : Value, ∀ x, kids[q]? = some x → ∃ b o, ao = some ⟨b, o, none⟩ ∧ TrOk lab g x u ∧ g.cell ⟨b, o + q, none⟩ = some u := fun q => by
      cases hq : kids[q]? with
      | none => exact ⟨undef, fun x hx => by cases hx⟩
      | some x =>
        obtain ⟨b', o', u, e, k3, k4, k5⟩ := h6 q x hq
        refine ⟨u, fun y hy => ?_⟩
        cases hy
        have k3 : TrOk lab g x u := k3.1
        obtain ⟨b2, o2, e2⟩ := k3.ptr
        have := k5 0 u (by rw [e2]; rfl)
        refine ⟨b', o', e, k3, ?_⟩
        simpa using this
    have hao : 0 < kids.length → ∃ b o, ao = some ⟨b, o, none⟩ := fun hp => by
      obtain ⟨b', o', u, e, _⟩ := h6 0 kids[0] (by simp [hp])
      exact ⟨b', o', e⟩
    by_cases hp : 0 < kids.length
    · obtain ⟨b', o', rfl⟩ := hao hp
      refine .mk a kids b off _ cap b' o' (fun q => (key q).choose) (fun j c hj => hc j c (by rw [List.getElem?_append_left (List.getElem?_eq_some_iff.1 hj).1]; exact hj)) (hc _ _ (by simp)) h3 h4 h5 (fun _ => rfl) (fun q x hx => ?_) (fun q x hx => ?_)
      · obtain ⟨b2, o2, e, _, k⟩ := (key q).choose_spec x hx
        cases e
        exact k
      · obtain ⟨b2, o2, e, k, _⟩ := (key q).choose_spec x hx
        exact k
    · have hk : kids = [] := by
        cases kids with
        | nil => rfl
        | cons _ _ => simp at hp
      subst hk
      exact .mk a [] b off ao cap 0 0 (fun _ => undef) (fun j c hj => hc j c (by rw [List.getElem?_append_left (List.getElem?_eq_some_iff.1 hj).1]; exact hj)) (hc _ _ (by simp)) h3 h4 h5 (fun h => by simp at h) (fun q x hx => by simp at hx) (fun q x hx => by simp at hx)
section
variable {c : Cfg} {S S1 : St} {a : Act} {w : World} {g : Gh} {hs : Nat → Value} {tab : Tab} {n : Nat} {o : Oper} {ops : Array Oper} {rest : List Oper} {N : Po}
theorem tree_of {α : Type} {lab : α → List Value} {x : α} {kids : List (Tr α)} {i ty : Nat} {cells : List At} {k : Nat} (hm : S.M[i]? = some (.box cells ty true)) (hc : cells = nodeS lab x kids) (hk : (lab x).length + 1 = k) : ∀ a w g hs, Ok' c S a w g hs → ∀ u, SC.ok g hs (.sv (.one (.ptr i 0))) u → SC.ok g hs (.sv (.one (.rd (trR lab (.node x kids))))) u := fun a w g hs h u hu => by
  obtain ⟨⟨b, h1, rfl⟩, _⟩ := hu
  obtain ⟨b', cs, h2, h3, h4, h5⟩ := h.items i _ hm
  rw [h1] at h2
  simp at h2
  subst h2
  subst hc
  have hg := h5 rfl
  have hrefs : (nodeS lab x kids).flatMap At.refs = [] := by
    unfold nodeS
    rw [List.flatMap_append]
    have : ((lab x).map At.v).flatMap At.refs = [] := by
      induction lab x with
      | nil => rfl
      | cons y l ih => simp [At.refs, ih]
    rw [this]
    rfl
  refine ⟨pe_tr ⟨b, 0, .agg cs.toArray, rfl, ⟨cs, rfl, oks_hs (fun i hi => by rw [hrefs] at hi; cases hi) h3⟩, ?_, fun j c hj => ?_⟩, trivial⟩
  · have := oks_length h3
    simp only [nodeS, List.length_append, List.length_map, List.length_cons, List.length_nil] at this
    simp [Value.cells, ← this]
  · unfold Gh.cell
    rw [hg]
    simpa [Value.cells] using hj
theorem node_of {α : Type} {lab : α → List Value} (hl : ∀ a, ∀ c ∈ lab a, cellV c) {t : Tr α} {s : SV} {k : Nat} (hs : SV.agg (nodeS lab t.lab t.kids) = s) (hk : (lab t.lab).length + 1 = k) : ∀ a w g hs', Ok' c S a w g hs' → ∀ u, SC.ok g hs' (.sv (.one (.rd (trR lab t)))) u → SC.ok g hs' (.sv (.one (.pe (svR s) k))) u := fun a w g hs' _ u hu => by
  subst hs hk
  exact ⟨tr_pe hl hu.1, hu.2⟩
theorem val_node {α : Type} {lab : α → List Value} (hl : ∀ a, ∀ c ∈ lab a, cellV c) {t : Tr α} {s : SV} {k : Nat} {x : Operand} (ho : o.op = .nilCheck x) (hx : evX S.F x = some (.sv (.one (.rd (trR lab t))))) (hs : SV.agg (nodeS lab t.lab t.kids) = s) (hk : (lab t.lab).length + 1 = k) : Val c S o (.sv (.one (.pe (svR s) k))) := fun a w g hs' h => by
  have h1 := evX_ok h hx
  have h2 : TrOk lab g t (a.eval x) := h1.1
  obtain ⟨b, off, e⟩ := h2.ptr
  exact ⟨a.eval x, by simp [execOp, ho, e], node_of hl hs hk a w g hs' h _ h1⟩
def optR {α : Type} (lab : α → List Value) (o : Option (Tr α)) : Rd := ⟨fun g v => match o with
  | none => v = .pointer none
  | some t => TrOk lab g t v, fun g g' v hg h => by
    cases o with
    | none => exact h
    | some t => exact h.mono hg⟩
theorem some_of {α : Type} {lab : α → List Value} {o : Option (Tr α)} {t : Tr α} (h : o = some t) : ∀ a w g hs, Ok' c S a w g hs → ∀ u, SC.ok g hs (.sv (.one (.rd (optR lab o)))) u → SC.ok g hs (.sv (.one (.rd (trR lab t)))) u := fun a w g hs _ u hu => by
  subst h
  exact hu
end
def RetL (fn : Func) (R : Ending → World → Prop) : Po := fun a w => Leaves Tryz.prog fn a.tmps R a.defers .returning w
theorem Ct.bodyD {β : Type} {f : Nat} {fn : Func} {code : Code} {n : Nat} {ins : List SC} {post : β → Prop} {out : β → SC} (hf : Tryz.prog.funcs[f]? = some fn) (hb : fn.body = some code) (hn : fn.ntmps = n) (hl : Nat.ble ins.length n = true)
    (h : ∀ (c : Cfg) (R : Ending → World → Prop), c.n = n → c.dfr = [] → (∀ v w' g' r, post r → (out r).ok g' hs0 v → Base c w' g' → R (.returned v) w') → (∀ ch a w', Leaves Tryz.prog fn a.tmps R a.defers (.panicking ch) w' → c.pan ch a w') → En c ⟨enumF 0 ins, []⟩ (cwp code (PQ c (RetL fn R) [] (RetL fn R)))) : Ct f ins [] post out := fun w g hs args hp ha hm => by
  have hl := Nat.le_of_ble_eq_true hl
  have hla := okArgs_length ha
  let R := RetP w g post out
  let c : Cfg := ⟨n, w, g, fun _ => False, [], fun ch a w' => Leaves Tryz.prog fn a.tmps R a.defers (.panicking ch) w'⟩
  have hR : ∀ v w' g' r, post r → (out r).ok g' hs0 v → Base c w' g' → R (.returned v) w' := fun v w' g' r h1 h2 h3 => ⟨v, g', r, rfl, h1, h2, h3.cast rfl rfl rfl⟩
  refine calls_of_wp_defers hf hb (Code.wp_mono (fun e a w' q => ?_) (h c R rfl rfl hR (fun _ _ _ h => h) { tmps := args.toArray ++ Array.replicate (fn.ntmps - args.toArray.size) undef, defers := [] } w ⟨g, hs, ?_⟩))
  · cases e with
    | panic ch => exact q
    | normal => exact q
    | ret => exact q
    | exit _ => exact (q : False).elim
    | goto _ => exact (q : False).elim
    | outgrown => exact (q : False).elim
  · refine ⟨?_, rfl, ⟨rfl, rfl, rfl, Nat.le_refl _, fun _ _ _ => rfl, Gh.le.refl g, fun b o e => .inl e, hp⟩, fun t x hx => ?_, fun i it hi => by simp at hi, fun i j it jt _ hi => by simp at hi, fun i it hi => by simp at hi⟩
    · simp [c, hn]
      omega
    · obtain ⟨u, h1, _, h3⟩ := enumF_ok ha hx
      simp only [Nat.sub_zero] at h1
      have hlt := (List.getElem?_eq_some_iff.1 h1).1
      have : (args.toArray ++ Array.replicate (fn.ntmps - args.toArray.size) undef).getD t undef = u := by
        rw [Array.getD_eq_getD_getElem?, Array.getElem?_append_left (by simpa using hlt)]
        simp [h1]
      rw [this]
      exact h3
def CtD (f : Nat) (M M' : List Item) (u u' : FrameMode) : Prop := ∀ (w : World) (g : Gh) (hs : Nat → Value), Pers g w → ItemsOk (fun _ => True) 0 M g hs w → (∃ b0 b1, hs 0 = .pointer (some ⟨b0, 0, none⟩) ∧ hs 1 = .pointer (some ⟨b1, 0, none⟩)) →
  CallsD Tryz.prog f #[hs 0, hs 1] u w (fun e u2 w' => u2 = u' ∧ ∃ v g' hs', e = .returned v ∧ (∀ i ∈ [0, 1], hs' i = hs i) ∧ Base (cfgM 0 w g (mayM M hs)) w' g' ∧ ItemsOk (mayM M hs) w.heap.size M' g' hs' w')
theorem CtD.body {f : Nat} {fn : Func} {id d n : Nat} {o : Oper} {y : Code} {M M' : List Item} {u u' : FrameMode} {pv : Value} (hf : Tryz.prog.funcs[f]? = some fn) (hb : fn.body = some (.seq (.region id #[o] false) y)) (hn : fn.ntmps = n) (hr : fn.results = #[]) (h2n : Nat.blt 2 n = true) (hdn : Nat.blt d n = true) (hd2 : Nat.blt 1 d = true)
    (hop : o.op = .call ⟨.builtin .recover, #[], #[]⟩) (hg : o.guard = none) (hod : o.dst = some d) (hrec : ∀ (c₀ : Frame) (cs : List Frame), c₀.mode = u → (match recoverD (c₀ :: cs) with
      | some (v, cs') => v = pv ∧ cs' = { c₀ with mode := u' } :: cs
      | none => .nilIface = pv ∧ u = u')) (hpv : cellV pv)
    (h : ∀ (c : Cfg) (B : Nat → Nat), c.n = n → En c ⟨[(0, .sv (.one (.pptr 0 0 (B 0)))), (1, .sv (.one (.pptr 1 0 (B 1)))), (d, .sv (.one (.v pv)))], M⟩ (cwp y (PQ c (RetE c #[] [0, 1] B (fun (_ : Unit) => True) (fun _ => .tup []) (fun _ => M')) [] (RetE c #[] [0, 1] B (fun (_ : Unit) => True) (fun _ => .tup []) (fun _ => M'))))) : CtD f M M' u u' := fun w g hs hp hm ⟨b0, b1, e0, e1⟩ => by
  have h2n := Nat.le_of_ble_eq_true h2n
  have hdn := Nat.le_of_ble_eq_true hdn
  have hd2 := Nat.le_of_ble_eq_true hd2
  refine callsD_of_wpS hf hb fun c₀ cs hu => ?_
  apply wpS_seq
  apply wpS_region
  have hl : List.range (#[o] : Array Oper).size = [0] := rfl
  rw [hl]
  let a0 : Act := { tmps := #[hs 0, hs 1] ++ Array.replicate (fn.ntmps - (#[hs 0, hs 1] : Array Value).size) undef, defers := [] }
  have hwant : Region.wanted o (yielded #[o] a0.tmps) = true := by unfold Region.wanted; rw [hg]
  have hrun : (execOp a0.eval o).run Tryz.prog w = .ok .recover w := by
    unfold execOp
    rw [hop]
    rfl
  have key : (y.wpS Tryz.prog (bodyPostS Tryz.prog fn c₀ cs fun e u2 w' => u2 = u' ∧ ∃ v g' hs', e = .returned v ∧ (∀ i ∈ [0, 1], hs' i = hs i) ∧ Base (cfgM 0 w g (mayM M hs)) w' g' ∧ ItemsOk (mayM M hs) w.heap.size M' g' hs' w') (a0.put (some d) pv) ({ c₀ with mode := u' } :: cs) w) := by
    refine wpS_of_wp ?_
    let B : Nat → Nat := fun i => if i = 0 then b0 else b1
    refine Code.wp_mono (fun e a w' q => ?_) (h (cfgM n w g (mayM M hs)) B rfl (a0.put (some d) pv) w ⟨g, hs, ?_⟩)
    · have fin : RetE (cfgM n w g (mayM M hs)) #[] [0, 1] B (fun (_ : Unit) => True) (fun _ => .tup []) (fun _ => M') a w' → a.defers = [] ∧ ∃ u2, ({ c₀ with mode := u' } :: cs : List Frame) = { c₀ with mode := u2 } :: cs ∧ ∃ v, (results fn a.tmps).run Tryz.prog w' = .ok v w' ∧ (u2 = u' ∧ ∃ v' g' hs', Ending.returned v = .returned v' ∧ (∀ i ∈ [0, 1], hs' i = hs i) ∧ Base (cfgM 0 w g (mayM M hs)) w' g' ∧ ItemsOk (mayM M hs) w.heap.size M' g' hs' w') := fun ⟨h1, v, g', hs', _, h2, _, _, h5, h6, h7⟩ => by
        refine ⟨h1, u', rfl, v, ?_, rfl, v, g', hs', rfl, fun i hi => (h5 i hi).trans ?_, h6.cast rfl rfl rfl, h7⟩
        · have := h2
          unfold results
          rw [hr]
          exact this
        · simp at hi
          rcases hi with rfl | rfl
          · exact e0.symm
          · exact e1.symm
      cases e with
      | normal => exact fin q
      | ret => exact fin q
      | panic _ => exact (q : False).elim
      | exit _ => exact (q : False).elim
      | goto _ => exact (q : False).elim
      | outgrown => exact (q : False).elim
    · have hsz : a0.tmps.size = n := by
        simp only [a0, Array.size_append, Array.size_replicate, hn, List.size_toArray, List.length_cons, List.length_nil]
        omega
      have hget : ∀ t v, t ≠ d → a0.tmps.getD t undef = v → (a0.put (some d) pv).tmps.getD t undef = v := fun t v ht hv => by
        simp only [Act.put]
        rw [Array.getD_eq_getD_getElem?, Array.getElem?_setIfInBounds_ne (Ne.symm ht), ← Array.getD_eq_getD_getElem?]
        exact hv
      refine ⟨by simp [Act.put, hsz], rfl, ⟨rfl, rfl, rfl, Nat.le_refl _, fun _ _ _ => rfl, Gh.le.refl g, fun b o e => .inl e, hp⟩, fun t x hx => ?_, hm.items, hm.sep, fun i it hi hn' b hb => ?_⟩
      · simp only [List.mem_cons, List.not_mem_nil, or_false, Prod.mk.injEq] at hx
        rcases hx with ⟨rfl, rfl⟩ | ⟨rfl, rfl⟩ | ⟨rfl, rfl⟩
        · rw [hget 0 (hs 0) (by omega) (by show (#[hs 0, hs 1] ++ Array.replicate _ undef : Array Value).getD 0 undef = hs 0; rw [Array.getD_eq_getD_getElem?, Array.getElem?_append_left (by simp)]; rfl)]
          exact ⟨⟨e0, e0⟩, by rw [e0]; trivial⟩
        · rw [hget 1 (hs 1) (by omega) (by show (#[hs 0, hs 1] ++ Array.replicate _ undef : Array Value).getD 1 undef = hs 1; rw [Array.getD_eq_getD_getElem?, Array.getElem?_append_left (by simp)]; rfl)]
          exact ⟨⟨e1, e1⟩, by rw [e1]; trivial⟩
        · have : (a0.put (some t) pv).tmps.getD t undef = pv := by
            have ht : t < a0.tmps.size := by omega
            simp [Act.put, ht]
          rw [this]
          exact ⟨rfl, hpv⟩
      · obtain ⟨h1, h2⟩ := hm.mine i it hi hn' b hb
        exact ⟨h1, fun hf => ⟨.inl ⟨i, it, hi, hf, hb⟩, (h2 hf).2⟩⟩
  show wpOpsS Tryz.prog #[o] _ [0] a0 (c₀ :: cs) w
  have hr0 := hrec c₀ cs hu
  unfold wpOpsS
  have h0 : (#[o] : Array Oper)[0]? = some o := rfl
  rw [h0]
  simp only
  rw [if_pos hwant, hrun]
  simp only
  cases hrd : recoverD (c₀ :: cs) with
  | none =>
    rw [hrd] at hr0
    simp only at hr0 ⊢
    obtain ⟨k1, k2⟩ := hr0
    unfold wpOpsS
    show y.wpS Tryz.prog _ (a0.put o.dst .nilIface) (c₀ :: cs) w
    rw [hod, k1]
    have : c₀ = { c₀ with mode := u' } := by rw [← k2, ← hu]
    rw [this]
    exact key
  | some x =>
    obtain ⟨v, cs'⟩ := x
    rw [hrd] at hr0
    simp only at hr0 ⊢
    obtain ⟨rfl, rfl⟩ := hr0
    unfold wpOpsS
    show y.wpS Tryz.prog _ (a0.put o.dst v) _ w
    rw [hod]
    exact key
section
variable {c : Cfg} {S S1 : St} {a : Act} {w : World} {g : Gh} {hs : Nat → Value} {tab : Tab} {n : Nat} {o : Oper} {ops : Array Oper} {rest : List Oper} {N R : Po} {E : List (Nat × Po)}
theorem val_ifNil {x : Operand} {t : Nat} {b : TypeId} {y : Operand} {ty : Nat} {v : Value} (ho : o.op = .binOp .eql t x y b) (hx : evX S.F x = some (.sv (.one (.v (.iface ty v))))) (hy : evX S.F y = some (.sv (.one (.v .nilIface)))) (hrun : ∀ w, (do eqGuard .eql t x y (.iface ty v) .nilIface; binOp .eql t (.iface ty v) .nilIface : Sem Value).run Tryz.prog w = .ok (.bool false) w) : Val c S o (.sv (.one (B false))) := fun a w g hs h => by
  have h1 : a.eval x = .iface ty v := (evX_ok h hx).1
  have h2 : a.eval y = .nilIface := (evX_ok h hy).1
  refine ⟨_, ?_, rfl, trivial⟩
  have e : execOp a.eval o = (do pure (.value (← (do eqGuard .eql t x y (a.eval x) (a.eval y); binOp .eql t (a.eval x) (a.eval y) : Sem Value))) : Sem Next) := by unfold execOp; rw [ho]
  rw [e]
  refine run_val ?_
  rw [h1, h2]
  exact hrun w
theorem val_nilNil {x : Operand} {t : Nat} {b : TypeId} {y : Operand} (ho : o.op = .binOp .eql t x y b) (hx : evX S.F x = some (.sv (.one (.v .nilIface)))) (hy : evX S.F y = some (.sv (.one (.v .nilIface)))) (hrun : ∀ w, (do eqGuard .eql t x y .nilIface .nilIface; binOp .eql t .nilIface .nilIface : Sem Value).run Tryz.prog w = .ok (.bool true) w) : Val c S o (.sv (.one (B true))) := fun a w g hs h => by
  have h1 : a.eval x = .nilIface := (evX_ok h hx).1
  have h2 : a.eval y = .nilIface := (evX_ok h hy).1
  refine ⟨_, ?_, rfl, trivial⟩
  have e : execOp a.eval o = (do pure (.value (← (do eqGuard .eql t x y (a.eval x) (a.eval y); binOp .eql t (a.eval x) (a.eval y) : Sem Value))) : Sem Next) := by unfold execOp; rw [ho]
  rw [e]
  refine run_val ?_
  rw [h1, h2]
  exact hrun w
theorem val_assert {x : Operand} {t1 t2 : Nat} {ty : Nat} {cs : List Value} {l : List At} (ho : o.op = .typeAssert x t1 t2 true) (hx : evX S.F x = some (.sv (.one (.v (.iface ty (.agg cs.toArray)))))) (hl : l = cs.map .v) (hc : ∀ c ∈ cs, cellV c) (hrun : ∀ w, (Instr.typeAssert (.iface ty (.agg cs.toArray)) t1 t2 true).run Tryz.prog w = .ok (.tuple #[.agg cs.toArray, .bool true]) w) : Val c S o (.tup [.agg l, .one (B true)]) := fun a w g hs h => by
  have h1 : a.eval x = .iface ty (.agg cs.toArray) := (evX_ok h hx).1
  subst hl
  refine ⟨.tuple #[.agg cs.toArray, .bool true], ?_, [.agg cs.toArray, .bool true], rfl, ⟨cs, rfl, oks_vals hc⟩, ⟨rfl, trivial⟩, trivial⟩
  have e : execOp a.eval o = (do pure (.value (← Instr.typeAssert (a.eval x) t1 t2 true)) : Sem Next) := by unfold execOp; rw [ho]
  rw [e, h1]
  exact run_val (hrun w)
theorem WL.defer {F t0 t1 d i j : Nat} (hw : wantE ops S.F o = some true) (ho : o.op = .defer ⟨.value (.tmp d), #[], #[]⟩) (hd : o.dst = none) (hf : look d S.F = some (.sv (.one (.fn F [i, j])))) (h0 : look t0 S.F = some (.sv (.one (.ptr i 0)))) (h1 : look t1 S.F = some (.sv (.one (.ptr j 0)))) (hc : c.dfr = [])
    (h : ∀ (c' : Cfg) (B : Nat → Nat), c'.n = c.n → c'.w0 = c.w0 → c'.g0 = c.g0 → c'.may = c.may → c'.pan = c.pan → c'.dfr = [⟨.fn (.func F) #[.pointer (some ⟨B i, 0, none⟩), .pointer (some ⟨B j, 0, none⟩)], #[]⟩] → WL c' ops rest ⟨(t0, .sv (.one (.pptr i 0 (B i)))) :: (t1, .sv (.one (.pptr j 0 (B j)))) :: S.F, S.M⟩ N) : WL c ops (o :: rest) S N := fun a w ⟨g, hs, hk⟩ => by
  unfold wpList
  rw [if_pos (wantE_ok hk hw)]
  refine .inl ?_
  unfold Oper.wp
  have hfv : a.tmps.getD d undef = .func (.func F) #[] #[hs i, hs j] := (hk.slots d _ (look_mem hf)).1
  obtain ⟨B, eB0, eB1⟩ : ∃ B : Nat → Nat, hs i = .pointer (some ⟨B i, 0, none⟩) ∧ hs j = .pointer (some ⟨B j, 0, none⟩) := by
    obtain ⟨⟨b0, e0, _⟩, _⟩ := hk.slots t0 _ (look_mem h0)
    obtain ⟨⟨b1, e1, _⟩, _⟩ := hk.slots t1 _ (look_mem h1)
    refine ⟨fun k => if k = i then b0 else b1, by show hs i = .pointer (some ⟨if i = i then b0 else b1, 0, none⟩); rw [if_pos rfl]; exact e0, ?_⟩
    show hs j = .pointer (some ⟨if j = i then b0 else b1, 0, none⟩)
    by_cases e : j = i
    · rw [if_pos e, e]; exact e0
    · rw [if_neg e]; exact e1
  obtain ⟨⟨b0, e0, e0'⟩, _⟩ := hk.slots t0 _ (look_mem h0)
  obtain ⟨⟨b1, e1, e1'⟩, _⟩ := hk.slots t1 _ (look_mem h1)
  have k0 : b0 = B i := by rw [e0] at eB0; simpa using eB0
  have k1 : b1 = B j := by rw [e1] at eB1; simpa using eB1
  have hrun : (execOp a.eval o).run Tryz.prog w = .ok (.defer ⟨.fn (.func F) #[hs i, hs j], #[]⟩) w := by
    unfold execOp
    have hev : a.eval (.tmp d) = .func (.func F) #[] #[hs i, hs j] := hfv
    simp only [ho, resolve, hev, Deferred.ofValue, Sem.run_bind, Sem.run_pure, Result.andThen_ok]
    simp
  rw [hrun]
  show wpList Tryz.prog ops (OnlyP c N) rest _ w
  let c' : Cfg := { c with dfr := [⟨.fn (.func F) #[.pointer (some ⟨B i, 0, none⟩), .pointer (some ⟨B j, 0, none⟩)], #[]⟩] }
  have := h c' B rfl rfl rfl rfl rfl rfl ({ a with defers := ⟨.fn (.func F) #[hs i, hs j], #[]⟩ :: a.defers }.put o.dst undef) w ⟨g, hs, ?_⟩
  · have e : OnlyP c' N = OnlyP c N := rfl
    rw [← e]
    exact this
  · rw [hd]
    refine ⟨hk.size, ?_, hk.base.cast rfl rfl rfl, fun t x hx => ?_, hk.items, hk.sep, hk.mine⟩
    · show (⟨.fn (.func F) #[hs i, hs j], #[]⟩ : Deferred) :: a.defers = _
      rw [hk.defers, hc, eB0, eB1]
    · rcases List.mem_cons.1 hx with hx | hx
      · cases hx
        exact ⟨⟨eB0, by rw [← k0]; exact e0'⟩, (hk.slots _ _ (look_mem h0)).2⟩
      · rcases List.mem_cons.1 hx with hx | hx
        · cases hx
          exact ⟨⟨eB1, by rw [← k1]; exact e1'⟩, (hk.slots _ _ (look_mem h1)).2⟩
        · exact hk.slots t x hx
theorem En.cfg {c' : Cfg} {y : Code} (h : c'.pan = c.pan) (k : En c' S (cwp y (PQ c' N E R))) : En c' S (cwp y (PQ c N E R)) := by
  have e : PQ c N E R = PQ c' N E R := by
    funext ex a w
    cases ex <;> first | rfl | (show c.pan _ _ _ = c'.pan _ _ _; rw [h])
  rw [e]
  exact k
theorem Ok'.afterX (h : Ok' c S a w g hs) {M : List Item} {rn : List Nat} (hM : M.map (fun it => some (it.mv (rnF rn S.M.length))) = rn.map (fun j => S.M[j]?)) {w' : World} {g' : Gh} (hb : Base (cfgM 0 w g (mayM M (fun i => hs (rnF rn S.M.length i)))) w' g') : Ok' c ⟨S.F, goneM S.M rn⟩ a w' g' hs := by
  have hat : ∀ (i : Nat) (it : Item), M[i]? = some it → ∃ j, rn[i]? = some j ∧ rnF rn S.M.length i = j ∧ S.M[j]? = some (it.mv (rnF rn S.M.length)) := fun i it hi => by
    have := congrArg (·[i]?) hM
    simp only [List.getElem?_map, hi, Option.map_some] at this
    cases hr : rn[i]? with
    | none => rw [hr] at this; simp at this
    | some j =>
      rw [hr] at this
      simp at this
      have hlt := (List.getElem?_eq_some_iff.1 hr).1
      refine ⟨j, rfl, ?_, this.symm⟩
      unfold rnF
      rw [show Nat.blt i rn.length = true from by simpa [Nat.blt_eq] using hlt]
      simp [hr]
  have hmay : ∀ b, mayM M (fun i => hs (rnF rn S.M.length i)) b → ∃ j it, j ∈ rn ∧ S.M[j]? = some it ∧ it.fz = false ∧ Blk (hs j) b := fun b ⟨i, it, h1, h2, h3⟩ => by
    obtain ⟨j, h4, h5, h6⟩ := hat i it h1
    simp only [h5] at h3
    exact ⟨j, _, List.mem_of_getElem? h4, h6, by rw [Item.mv_fz]; exact h2, h3⟩
  have hoth : ∀ k jt b, k ∉ rn → S.M[k]? = some jt → jt ≠ .gone → Blk (hs k) b → ¬ mayM M (fun i => hs (rnF rn S.M.length i)) b := fun k jt b h1 h2 h3 h4 h5 => by
    obtain ⟨j, it, h6, h7, h8, h9⟩ := hmay b h5
    exact h.sep j k it jt (fun e => h1 (e ▸ h6)) h7 h2 h8 h3 b h9 h4
  refine ⟨h.size, h.defers, Base.callM h hM hb, fun t x hx => SC.mono hb.ghle (h.slots t x hx), fun k kt hk => ?_, fun k l kt lt hkl hk hl hf hn b hb1 => ?_, fun k kt hk hn b hb1 => ?_⟩
  · by_cases hn : kt = .gone
    · subst hn; trivial
    · obtain ⟨h1, h2⟩ := goneM_get k kt hk hn
      exact Item.same hb.ghle (fun b hb1 => hb.frame b (h.mine k kt h2 hn b hb1).1 (hoth k kt b h1 h2 hn hb1)) (h.items k kt h2)
  · obtain ⟨h1, h2⟩ := goneM_get k kt hk (fz_gone hf)
    obtain ⟨h3, h4⟩ := goneM_get l lt hl hn
    exact h.sep k l kt lt hkl h2 h4 hf hn b hb1
  · obtain ⟨h1, h2⟩ := goneM_get k kt hk hn
    obtain ⟨m1, m2⟩ := h.mine k kt h2 hn b hb1
    refine ⟨Nat.lt_of_lt_of_le m1 hb.grows, fun hf => ⟨(m2 hf).1, ?_⟩⟩
    cases hg : g' b with
    | none => rfl
    | some o =>
      rcases hb.ghnew b o hg with h5 | h5 | h5
      · have h6 := (m2 hf).2
        have h5 : g b = some o := h5
        rw [h6] at h5; cases h5
      · exact absurd h5 (hoth k kt b h1 h2 hn hb1)
      · have : w.heap.size ≤ b := h5
        omega
theorem leave_one {β : Type} {fn : Func} {R : Ending → World → Prop} {rs : Array ResultVar} {post : β → Prop} {out : β → SC} {f t0 t1 i j b0 b1 : Nat} {M M' : List Item} {u u' : FrameMode} {S2 : St} (ht : tab.ok) (hk : Ok' c S a w g hs) (hr : fn.results = rs) (hR : ∀ v w' g' r, post r → (out r).ok g' hs0 v → Base c w' g' → R (.returned v) w')
    (hdf : c.dfr = [⟨.fn (.func f) #[.pointer (some ⟨b0, 0, none⟩), .pointer (some ⟨b1, 0, none⟩)], #[]⟩]) (h0 : look t0 S.F = some (.sv (.one (.pptr i 0 b0)))) (h1 : look t1 S.F = some (.sv (.one (.pptr j 0 b1)))) (hu : u ≠ .run) (hs' : settle u' = .returning)
    (ct : CtD f M M' u u') (en : ∀ args w, (callFunc f args).run Tryz.prog w = .ok (.enter f args) w) (hM : M.map (fun it => some (it.mv (rnF [i, j] S.M.length))) = [i, j].map (fun j => S.M[j]?)) (hnd : [i, j].Nodup) (hal : aloneE S [i, j] [0, 1] = true) (hrf : refsB M' = true) (hlen : M.length ≤ M'.length) (hbk : backC [0, 1] M M' = true)
    (hS2 : S2 = ⟨S.F, putItems (rnF [i, j] S.M.length) S.M [i, j] M'⟩) (r : β) (hp : post r) (e : evR tab S2 rs = some (out r)) (hcl : (out r).refs = []) : Leaves Tryz.prog fn a.tmps R a.defers u w := by
  rw [hk.defers, hdf]
  have e0 : hs i = .pointer (some ⟨b0, 0, none⟩) := (hk.slots t0 _ (look_mem h0)).1.1
  have e1 : hs j = .pointer (some ⟨b1, 0, none⟩) := (hk.slots t1 _ (look_mem h1)).1.1
  refine leaves_cons (f := f) (args := #[.pointer (some ⟨b0, 0, none⟩), .pointer (some ⟨b1, 0, none⟩)]) hu (by
    simp only [invoke]
    rw [show (#[] ++ #[Value.pointer (some ⟨b0, 0, none⟩), Value.pointer (some ⟨b1, 0, none⟩)] : Array Value) = #[.pointer (some ⟨b0, 0, none⟩), .pointer (some ⟨b1, 0, none⟩)] by simp]
    exact en _ _) ?_
  have hr0 : rnF [i, j] S.M.length 0 = i := rfl
  have hr1 : rnF [i, j] S.M.length 1 = j := rfl
  have hcall := ct w g (fun k => hs (rnF [i, j] S.M.length k)) hk.base.pers (items_in hk hM hnd) ⟨b0, b1, by rw [hr0]; exact e0, by rw [hr1]; exact e1⟩
  simp only [hr0, hr1, e0, e1] at hcall
  refine hcall.mono ?_
  rintro e' u2 w' ⟨rfl, v, g', hs'', rfl, k1, k2, k3⟩
  show Leaves Tryz.prog fn a.tmps R [] (settle u2) w'
  rw [hs']
  obtain ⟨hsN, n1, n2⟩ := hk.backE hM hnd hal hrf hlen (backB_of hbk) (fun q hq => k1 q hq) (fun q hq => by simp at hq; rcases hq with rfl | rfl <;> simp) k2 k3
  rw [← hS2] at n1
  obtain ⟨v', r1, r2⟩ := evR_ok ht n1 e
  refine ⟨v', ?_, hR v' w' g' r hp (SC.ok_closed hcl r2) n1.base⟩
  subst hr
  exact r1
theorem En.backD {β : Type} {fn : Func} {R : Ending → World → Prop} {rs : Array ResultVar} {post : β → Prop} {out : β → SC} {f b0 b1 : Nat} {M M' : List Item} {S2 : St} (t0 t1 i j : Nat) (ht : tab.ok) (hr : fn.results = rs) (hR : ∀ v w' g' r, post r → (out r).ok g' hs0 v → Base c w' g' → R (.returned v) w')
    (hdf : c.dfr = [⟨.fn (.func f) #[.pointer (some ⟨b0, 0, none⟩), .pointer (some ⟨b1, 0, none⟩)], #[]⟩]) (h0 : look t0 S.F = some (.sv (.one (.pptr i 0 b0)))) (h1 : look t1 S.F = some (.sv (.one (.pptr j 0 b1))))
    (ct : CtD f M M' .returning .returning) (en : ∀ args w, (callFunc f args).run Tryz.prog w = .ok (.enter f args) w) (hM : M.map (fun it => some (it.mv (rnF [i, j] S.M.length))) = [i, j].map (fun j => S.M[j]?)) (hnd : [i, j].Nodup) (hal : aloneE S [i, j] [0, 1] = true) (hrf : refsB M' = true) (hlen : M.length ≤ M'.length) (hbk : backC [0, 1] M M' = true)
    (hS2 : S2 = ⟨S.F, putItems (rnF [i, j] S.M.length) S.M [i, j] M'⟩) (r : β) (hp : post r) (e : evR tab S2 rs = some (out r)) (hcl : (out r).refs = []) : En c S (RetL fn R) := fun a w ⟨g, hs, hk⟩ =>
  leave_one ht hk hr hR hdf h0 h1 (by simp) rfl ct en hM hnd hal hrf hlen hbk hS2 r hp e hcl
theorem En.backD0 {β : Type} {fn : Func} {R : Ending → World → Prop} {rs : Array ResultVar} {post : β → Prop} {out : β → SC} (ht : tab.ok) (hr : fn.results = rs) (hR : ∀ v w' g' r, post r → (out r).ok g' hs0 v → Base c w' g' → R (.returned v) w') (hdf : c.dfr = []) (r : β) (hp : post r) (e : evR tab S rs = some (out r)) (hcl : (out r).refs = []) : En c S (RetL fn R) := fun a w ⟨g, hs, hk⟩ => by
  show Leaves Tryz.prog fn a.tmps R a.defers .returning w
  rw [hk.defers, hdf]
  obtain ⟨v', r1, r2⟩ := evR_ok ht hk e
  refine ⟨v', ?_, hR v' w g r hp (SC.ok_closed hcl r2) hk.base⟩
  subst hr
  exact r1
theorem leftD {β : Type} {fn : Func} {R : Ending → World → Prop} {rs : Array ResultVar} {post : β → Prop} {out : β → SC} {f b0 b1 ty : Nat} {M M0 : List Item} {M' : Int → Int → List Item} {rn : List Nat} {S2 : Int → Int → St} (t0 t1 i j : Nat) (ht : tab.ok) (hr : fn.results = rs) (hR : ∀ v w' g' r, post r → (out r).ok g' hs0 v → Base c w' g' → R (.returned v) w') (hpan : ∀ ch a w', Leaves Tryz.prog fn a.tmps R a.defers (.panicking ch) w' → c.pan ch a w')
    (hdf : c.dfr = [⟨.fn (.func f) #[.pointer (some ⟨b0, 0, none⟩), .pointer (some ⟨b1, 0, none⟩)], #[]⟩]) (h0 : look t0 S.F = some (.sv (.one (.pptr i 0 b0)))) (h1 : look t1 S.F = some (.sv (.one (.pptr j 0 b1))))
    (ct : ∀ code at_, code ≠ 0 → CtD f M (M' code at_) (.panicking [{ v := .iface ty (.agg #[.int .i64 code, .int .i64 at_]), recovered := false }]) (.panicking [{ v := .iface ty (.agg #[.int .i64 code, .int .i64 at_]), recovered := true }])) (en : ∀ args w, (callFunc f args).run Tryz.prog w = .ok (.enter f args) w)
    (hMc : M0.map (fun it => some (it.mv (rnF rn S.M.length))) = rn.map (fun j => S.M[j]?)) (hM : M.map (fun it => some (it.mv (rnF [i, j] (goneM S.M rn).length))) = [i, j].map (fun j => (goneM S.M rn)[j]?)) (hnd : [i, j].Nodup) (hal : aloneE ⟨S.F, goneM S.M rn⟩ [i, j] [0, 1] = true) (hrf : ∀ code at_, refsB (M' code at_) = true) (hlen : ∀ code at_, M.length ≤ (M' code at_).length) (hbk : ∀ code at_, backC [0, 1] M (M' code at_) = true)
    (hS2 : ∀ code at_, S2 code at_ = ⟨S.F, putItems (rnF [i, j] (goneM S.M rn).length) (goneM S.M rn) [i, j] (M' code at_)⟩) (r : Int → Int → β) (hp : ∀ code at_, code ≠ 0 → post (r code at_)) (e : ∀ code at_, evR tab (S2 code at_) rs = some (out (r code at_))) (hcl : ∀ code at_, (out (r code at_)).refs = []) : LeftX c S M0 rn (psStop ty) := fun a w g hs hk ch w' g' ⟨code, at_, hc, hch⟩ hb _ => by
  subst hch
  refine hpan _ a w' ?_
  have hk2 := hk.afterX hMc hb
  exact leave_one (S := ⟨S.F, goneM S.M rn⟩) ht hk2 hr hR hdf h0 h1 (by simp) rfl (ct code at_ hc) en hM hnd hal (hrf code at_) (hlen code at_) (hbk code at_) (hS2 code at_) (r code at_) (hp code at_ hc) (e code at_) (hcl code at_)
theorem mt_rangeS (p : Nat) {t : Nat} {m : Operand} {s : ByteArray} (ho : o.op = .range t m) (ht : Tryz.prog.underlying t = some .string) (hm : evX S.F m = some (.sv (.one (.v (.string s))))) : MT c S o (.sv (.one (.own p))) [] (some (p, .siter s 0)) := fun a w g hs h N Z hN => by
  unfold Oper.wp
  have hu : (Go.underlying t).run Tryz.prog w = .ok .string w := run_underlying ht w
  have hrun : (execOp a.eval o).run Tryz.prog w = .ok (.value (.pointer (some ⟨w.heap.size, 0, none⟩))) (w.alloc (.stringIter s 0)) := by
    have : execOp a.eval o = (do pure (.value (← Instr.range t (a.eval m))) : Sem Next) := by unfold execOp; rw [ho]
    rw [this, show a.eval m = .string s from (evX_ok h hm).1]
    refine run_valW ?_
    simp only [Instr.range, Sem.run_bind, hu, Result.andThen_ok, Sem.run_pure, newObj]
    rfl
  rw [hrun]
  refine hN _ _ g (.pointer (some ⟨w.heap.size, 0, none⟩)) ⟨rfl, rfl, rfl, by simp, fun b hb _ => (World.grownBy_alloc w _ none).block b hb (by simp), Gh.le.refl g, fun b o e => .inl e, fun b o e => ?_⟩ ⟨?_, trivial⟩ ⟨⟨w.heap.size, rfl, heap_alloc_new w _⟩, fun b hb => ?_⟩
  · exact ((World.grownBy_alloc w _ none).block b (h.base.pers.lt e) (by simp)).trans (h.base.pers b o e)
  · show _ = (if p = p then _ else hs p)
    rw [if_pos rfl]
  · cases hb
    refine ⟨by simp, fun _ => ?_, .inl (Nat.le_refl _)⟩
    cases hgb : g w.heap.size with
    | none => rfl
    | some o => have := h.base.pers.lt hgb; omega
def putBlock (w : World) (b : Nat) (ob : Obj) : World := { w with heap := w.heap.setIfInBounds b ob }
theorem heap_putBlock (w : World) (b : Nat) (ob : Obj) (h : b < w.heap.size) : (putBlock w b ob).heap[b]? = some ob := by
  unfold putBlock
  simp [h]
theorem WL.nextS {r pos : Nat} {x : Operand} {s : ByteArray} (hn : c.n = n) (hw : wantE ops S.F o = some true) (ho : o.op = .next x true) (hx : evX S.F x = some (.sv (.one (.own r)))) (hr : S.M[r]? = some (.siter s pos))
    (h1 : decide (pos < s.size) = false → ∃ S1, putE n o.dst (.tup [.one (B false)]) S = some S1 ∧ WL c ops rest S1 N)
    (h2 : decide (pos < s.size) = true → ∃ S1, putE n o.dst (.tup [.one (B true), .one (I ((pos : Nat) : Int)), .one (.v (.int .i32 (((Utf8.decode s pos).1 : Nat) : Int)))]) ⟨S.F, S.M.set r (.siter s (pos + (Utf8.decode s pos).2))⟩ = some S1 ∧ WL c ops rest S1 N) : WL c ops (o :: rest) S N := fun a w ⟨g, hs, hk⟩ => by
  unfold wpList
  rw [if_pos (wantE_ok hk hw)]
  refine .inl ?_
  unfold Oper.wp
  obtain ⟨rb, e1, e2⟩ := hk.items r _ hr
  have hv : a.eval x = .pointer (some ⟨rb, 0, none⟩) := ((evX_ok hk hx).1).trans e1
  have hop : execOp a.eval o = (do pure (.value (← Instr.next (a.eval x) true o.type)) : Sem Next) := by unfold execOp; rw [ho]
  by_cases hp : pos < s.size
  · have hrun : (Instr.next (.pointer (some ⟨rb, 0, none⟩)) true o.type).run Tryz.prog w = .ok (.tuple #[.bool true, goInt pos, .int .i32 (((Utf8.decode s pos).1 : Nat) : Int)]) (putBlock w rb (.stringIter s (pos + (Utf8.decode s pos).2))) := by
      have hlt := (Array.getElem?_eq_some_iff.1 e2).1
      simp only [Instr.next, Sem.run_bind, getObj, Sem.run, e2, Result.andThen_ok, if_pos hp, setObj, Sem.run_pure]
      rfl
    rw [hop, hv, run_valW hrun]
    obtain ⟨S1, k1, k2⟩ := h2 (decide_eq_true hp)
    have hb : ∀ b, blk (hs r) = some b → b = rb := fun b e => by rw [e1] at e; simpa [blk] using e.symm
    have hlt := (Array.getElem?_eq_some_iff.1 e2).1
    have hgr : w.grownBy (putBlock w rb (.stringIter s (pos + (Utf8.decode s pos).2))) (blk (hs r)) := by
      rw [e1]
      exact ⟨rfl, rfl, rfl, by simp [putBlock], fun q hq hne => by
        unfold putBlock
        have : rb ≠ q := fun e => hne (by rw [← e]; rfl)
        simp [this]⟩
    have := hk.upd (it' := .siter s (pos + (Utf8.decode s pos).2)) hr rfl rfl hgr ⟨rb, e1, heap_putBlock w rb _ hlt⟩
    refine k2 _ _ ⟨g, hs, putE_ok this hn (x := .tup [.one (B true), .one (I ((pos : Nat) : Int)), .one (.v (.int .i32 (((Utf8.decode s pos).1 : Nat) : Int)))]) ⟨[.bool true, goInt pos, .int .i32 (((Utf8.decode s pos).1 : Nat) : Int)], rfl, ⟨rfl, trivial⟩, ⟨rfl, trivial⟩, ⟨rfl, trivial⟩, trivial⟩ k1⟩
  · have hrun : (Instr.next (.pointer (some ⟨rb, 0, none⟩)) true o.type).run Tryz.prog w = .ok (.tuple #[.bool false]) w := by
      simp only [Instr.next, Sem.run_bind, getObj, Sem.run, e2, Result.andThen_ok, if_neg hp, Sem.run_pure]
    rw [hop, hv, run_val hrun]
    obtain ⟨S1, k1, k2⟩ := h1 (decide_eq_false hp)
    exact k2 _ _ ⟨g, hs, putE_ok hk hn (x := .tup [.one (B false)]) ⟨[.bool false], rfl, ⟨rfl, trivial⟩, trivial⟩ k1⟩
theorem dec_width (s : ByteArray) (pos : Nat) (h : pos < s.size) : 1 ≤ (Utf8.decode s pos).2 := by
  by_cases ha : (s[pos]'h).toNat < 128
  · rw [decode_ascii s pos h ha]
    exact Nat.le_refl _
  · exact (decode_high s pos h (by omega)).2
theorem optNil {α : Type} {lab : α → List Value} : ∀ a w g hs, Ok' c S a w g hs → ∀ u, At.ok g hs (.v (.pointer none)) u → At.ok g hs (.rd (optR lab (none : Option (Tr α)))) u := fun a w g hs _ u h => h
theorem optSome {α : Type} {lab : α → List Value} {t : Tr α} : ∀ a w g hs, Ok' c S a w g hs → ∀ u, At.ok g hs (.rd (trR lab t)) u → At.ok g hs (.rd (optR lab (some t))) u := fun a w g hs _ u h => h
theorem hR_cast {β : Type} {R : Ending → World → Prop} {post : β → Prop} {out : β → SC} {c' : Cfg} (h1 : c'.w0 = c.w0) (h2 : c'.g0 = c.g0) (h3 : c'.may = c.may) (hR : ∀ v w' g' r, post r → (out r).ok g' hs0 v → Base c w' g' → R (.returned v) w') : ∀ v w' g' r, post r → (out r).ok g' hs0 v → Base c' w' g' → R (.returned v) w' := fun v w' g' r k1 k2 k3 => hR v w' g' r k1 k2 (k3.cast h1.symm h2.symm h3.symm)
theorem hpan_cast {fn : Func} {R : Ending → World → Prop} {c' : Cfg} (h : c'.pan = c.pan) (hpan : ∀ ch a w', Leaves Tryz.prog fn a.tmps R a.defers (.panicking ch) w' → c.pan ch a w') : ∀ ch a w', Leaves Tryz.prog fn a.tmps R a.defers (.panicking ch) w' → c'.pan ch a w' := fun ch a w' k => by rw [h]; exact hpan ch a w' k
end
theorem gpart_cons {v : Value} {l : List Value} {k : Nat} : gpart (.tuple (v :: l).toArray) (k + 1) = l.getD k undef := rfl
section
variable {c : Cfg} {S S1 : St} {a : Act} {w : World} {g : Gh} {hs : Nat → Value} {tab : Tab} {n : Nat} {o : Oper} {ops : Array Oper} {rest L0 : List Oper} {N : Po}
theorem mt_appendG {α : Type} {T : Ty α} {L : List (List α)} {m i p ty : Nat} {x y : Operand} {t e : Nat} {ti te : TI} (ht : tab.ok) (ho : o.op = .call ⟨.builtin .append, #[x, y], #[t, t]⟩) (h1 : tab t = some ti) (h2 : ti.sl = some e) (h3 : tab e = some te) (h4 : te.size = 1)
    (hx : evX S.F x = some (.sv (.one (.gs i 0)))) (hm : S.M[i]? = some (gridI e ty T L)) (hsrc : SrcOk c S y nilT (List.replicate m ())) (hb : (L.length + m) * te.bytes ≤ 140737488355328) (hb2 : L.length + m ≤ 140737488355328) : MT c S o (.sv (.one (.gs p 0))) [i] (some (p, gridI e ty T (L ++ List.replicate m []))) := fun a w g hs h N Z hN => by
  have hu := slT_some ((ht t ti h1).sl.trans h2)
  have hv : a.eval x = gpart (hs i) 0 := (evX_ok h hx).1
  obtain ⟨us, ocs, u1, u2, u3, u3', u4, u4', _, u5⟩ := h.items i _ hm
  obtain ⟨cs', r3, r4⟩ := hsrc a w g hs h
  have := nil_cells r4
  subst this
  rw [List.length_replicate] at r3
  have hn1 : nilT.s = 1 := rfl
  rw [hn1, ← h4] at r3
  rw [List.length_map] at u2 u3
  rw [← h4] at u3
  obtain ⟨v', w', k1, k2, k3, k4⟩ := run_append_src (ty := o.type) (ti := ti) hu (ht e te h3) (by rw [h4]; decide) u3 r3 (by simp only [maxLen]; omega) hb
  unfold Oper.wp
  have hrun : (execOp a.eval o).run Tryz.prog w = .ok (.value v') w' := by
    have : execOp a.eval o = (do pure (.value (← Builtin.append_ #[t, t] o.type #[a.eval x, a.eval y])) : Sem Next) := by
      unfold execOp
      rw [ho]
      simp [resolve, invoke, builtin]
    rw [this, hv]
    exact run_valW k1
  rw [hrun]
  have hsl := ownsRow_slice u3
  have hsl' := ownsRow_slice k2
  have hlo : ocs.length = L.length := by have := u3.1; rw [h4] at this; omega
  have hBi : ∀ b, (gpart (hs i) 0).ownBlock = some b → Blk (hs i) b := fun b hb => Blk.part u1 (by omega) (ownBlock_blk' hb)
  have hbi : ∀ b, (gpart (hs i) 0).ownBlock = some b → g b = none := fun b hb => ((h.mine i _ hm (by simp) b (hBi b hb)).2 rfl).2
  have hgq : ∀ q, q < L.length → us[q + 1]? = some (gpart (hs i) (q + 1)) := fun q hq => by
    rw [u1]
    show us[q + 1]? = some (us.getD (q + 1) undef)
    have : q + 1 < us.length := by omega
    simp [this]
  -- the new value
  let ns : List Value := us.drop 1 ++ List.replicate m (.slice none 0 0)
  have hnl : ns.length = L.length + m := by simp [ns]; omega
  have hnq : ∀ q, q < L.length → ns.getD q undef = gpart (hs i) (q + 1) := fun q hq => by
    have h1 : (us.drop 1)[q]? = some (gpart (hs i) (q + 1)) := by rw [List.getElem?_drop, Nat.add_comm]; exact hgq q hq
    have h2 : q < (us.drop 1).length := by simp; omega
    show (us.drop 1 ++ List.replicate m _).getD q undef = _
    rw [List.getD_eq_getElem?_getD, List.getElem?_append_left h2, h1]
    rfl
  have hnr : ∀ q, L.length ≤ q → q < L.length + m → ns.getD q undef = .slice none 0 0 := fun q hq hq2 => by
    have h2 : (us.drop 1).length = L.length := by simp; omega
    show (us.drop 1 ++ List.replicate m _).getD q undef = _
    rw [List.getD_eq_getElem?_getD, List.getElem?_append_right (by omega), h2, List.getElem?_replicate, if_pos (by omega)]
    rfl
  have hblk' : ∀ b, blk v' = some b → (gpart (hs i) 0).ownBlock = some b ∨ b = w.heap.size := fun b hb => by
    have e : v'.ownBlock = some b := by rw [← blk_slice hsl']; exact hb
    rcases k4 with e2 | e2
    · left; rw [← e2]; exact e
    · rw [e] at e2; cases e2; exact .inr rfl
  have hne : ∀ q, q < L.length → (gpart (hs i) (q + 1)).ownBlock = none ∨ (gpart (hs i) (q + 1)).ownBlock ≠ (gpart (hs i) 0).ownBlock := fun q hq => by
    cases hb : (gpart (hs i) (q + 1)).ownBlock with
    | none => exact .inl rfl
    | some b => exact .inr (fun e => u5 (q + 1) 0 b (by omega) (by omega) (by omega) (ownBlock_blk' hb) (ownBlock_blk' e.symm))
  refine hN v' w' g (.tuple (v' :: ns).toArray) ⟨k3.os, k3.tape, k3.output, k3.size, fun b hb hk => k3.block b hb (fun e => hk i (by simp) (hBi b e.symm)), Gh.le.refl g, fun b o e => .inl e, fun b o e => ?_⟩ ⟨?_, ?_⟩ ⟨⟨v' :: ns, ocs ++ List.replicate m (.slice none 0 0), rfl, ?_, ?_, fun u hu => ?_, fun q r n' hq => ?_, fun q hq => ?_, (fun p k e => by cases e), fun q q' b hq hq' hqq hb1 hb2' => ?_⟩, fun b hb => ?_⟩
  · refine (k3.block b (h.base.pers.lt e) (fun e2 => ?_)).trans (h.base.pers b o e)
    rw [hbi b e2.symm] at e
    cases e
  · show v' = gpart (if p = p then _ else hs p) 0
    rw [if_pos rfl]
    rfl
  · obtain ⟨ao, m, cap, rfl⟩ := hsl'
    trivial
  · simp [hnl]
  · rw [List.length_map, List.length_append, List.length_replicate, ← h4]
    exact k2
  · rcases List.mem_append.1 hu with hu | hu
    · exact u3' u hu
    · exact ⟨none, 0, 0, List.eq_of_mem_replicate hu⟩
  · rw [List.getElem?_map] at hq
    cases hL : (L ++ List.replicate m [])[q]? with
    | none => rw [hL] at hq; cases hq
    | some l =>
      rw [hL] at hq
      simp only [Option.map_some, Option.some.injEq, Prod.mk.injEq] at hq
      obtain ⟨rfl, rfl⟩ := hq
      have hql := (List.getElem?_eq_some_iff.1 hL).1
      rw [List.length_append, List.length_replicate] at hql
      rw [gpart_cons]
      by_cases hlt : q < L.length
      · rw [List.getElem?_append_left hlt] at hL
        obtain ⟨k5, cs2, k6, k7⟩ := u4 q (rowR T l) l.length (by rw [List.getElem?_map, hL]; rfl)
        rw [hnq q hlt]
        exact ⟨by rw [List.getElem?_append_left (by omega)]; exact k5, cs2, k6.kept k3 (hne q hlt), k7⟩
      · rw [List.getElem?_append_right (by omega), List.getElem?_replicate, if_pos (by omega)] at hL
        cases hL
        rw [hnr q (by omega) hql]
        exact ⟨by rw [List.getElem?_append_right (by omega), List.getElem?_replicate, if_pos (by omega)], [], World.ownsAt_nil _ _ _, rowRead.nil⟩
  · rw [List.getElem?_map] at hq
    cases hL : (L ++ List.replicate m [])[q]? <;> (rw [hL] at hq; simp at hq)
  · simp only [List.length_cons, hnl] at hq hq'
    have key : ∀ q, q < L.length + m → ∀ b, blk (ns.getD q undef) = some b → q < L.length ∧ blk (gpart (hs i) (q + 1)) = some b := fun q hq b hb => by
      by_cases hlt : q < L.length
      · rw [hnq q hlt] at hb
        exact ⟨hlt, hb⟩
      · rw [hnr q (by omega) hq] at hb
        cases hb
    have k0 : ∀ q b, q < L.length + m → blk (ns.getD q undef) = some b → blk v' ≠ some b := fun q b hq hb e => by
      obtain ⟨hlt, hb'⟩ := key q hq b hb
      rcases hblk' b e with e2 | e2
      · exact u5 (q + 1) 0 b (by omega) (by omega) (by omega) hb' (ownBlock_blk' e2)
      · have := (h.mine i _ hm (by simp) b (Blk.part u1 (by omega) hb')).1
        omega
    cases q with
    | zero =>
      cases q' with
      | zero => exact hqq rfl
      | succ q' =>
        rw [gpart_cons] at hb2'
        exact k0 q' b (by omega) hb2' hb1
    | succ q =>
      rw [gpart_cons] at hb1
      cases q' with
      | zero => exact k0 q b (by omega) hb1 hb2'
      | succ q' =>
        rw [gpart_cons] at hb2'
        obtain ⟨l1, m1⟩ := key q (by omega) b hb1
        obtain ⟨l2, m2⟩ := key q' (by omega) b hb2'
        exact u5 (q + 1) (q' + 1) b (by omega) (by omega) (by omega) m1 m2
  · have fresh : b = w.heap.size → b < w'.heap.size → g b = none := fun e _ => by
      cases hgb : g b with
      | none => rfl
      | some o => have := h.base.pers.lt hgb; omega
    obtain ⟨u, hu, hub⟩ := hb
    rcases List.mem_cons.1 hu with rfl | hu
    · rcases hblk' b hub with e2 | e2
      · obtain ⟨m1, m2⟩ := h.mine i _ hm (by simp) b (hBi b e2)
        exact ⟨Nat.lt_of_lt_of_le m1 k3.size, fun _ => (m2 rfl).2, .inr ⟨i, by simp, hBi b e2⟩⟩
      · have hlt := (k2.lt b (by rw [← blk_slice hsl']; exact hub)).2
        exact ⟨hlt, fun _ => fresh e2 hlt, .inl (by omega)⟩
    · rcases List.mem_append.1 hu with hu | hu
      · have hBu : Blk (hs i) b := by
          rw [u1]
          exact ⟨u, List.mem_of_mem_drop hu, hub⟩
        obtain ⟨m1, m2⟩ := h.mine i _ hm (by simp) b hBu
        exact ⟨Nat.lt_of_lt_of_le m1 k3.size, fun _ => (m2 rfl).2, .inr ⟨i, by simp, hBu⟩⟩
      · rw [List.eq_of_mem_replicate hu] at hub
        cases hub
theorem nilBoxG_ok {α : Type} {i j p e ty tb : Nat} {T : Ty α} {cells : List At} (hm : S.M[i]? = some (.box cells tb false)) (hj : cells[j]? = some (.v (.slice none 0 0))) (hp : (newM S.M [] (some (p, gridI e ty T [])))[i]? = some (.box cells tb false)) (hr : S.refsAll (fun i => !(Nat.beq i p)) = true) (hk : Ok' c S a w g hs) :
    ∃ hs', Ok' c ⟨S.F, (newM S.M [] (some (p, gridI e ty T []))).set i (.box (cells.set j (.gs p 0)) tb false)⟩ a w g hs' := by
  have he := hk.eff (K := []) (p := some (p, gridI e ty T [])) (h' := .tuple #[.slice none 0 0]) (Eff.refl hk.base) ⟨⟨[.slice none 0 0], [], rfl, rfl, World.ownsAt_nil _ _ _, fun u hu => by simp at hu, fun q r n hq => by simp at hq, fun q hq => by simp at hq, (fun p k e => by cases e), fun q q' b hq hq' hqq hb1 _ => by
    have : q = 0 := by simpa using hq
    subst this
    cases hb1⟩, fun b hb => by
    obtain ⟨u, hu, e⟩ := hb
    simp at hu
    subst hu
    cases e⟩ hr rfl
  refine ⟨_, he.retell (it' := .box (cells.set j (.gs p 0)) tb false) hp rfl rfl ?_⟩
  obtain ⟨b, cs, h1, h2, h3⟩ := he.items i _ hp
  refine ⟨b, cs, h1, oks_turn (fun u hu => ?_) j hj h2, h3⟩
  have : u = .slice none 0 0 := hu.1
  subst this
  refine ⟨?_, trivial⟩
  show _ = gpart (if p = p then _ else hs p) 0
  rw [if_pos rfl]
  rfl
theorem WL.nilBoxG {α : Type} {T : Ty α} {cells : List At} {tb : Nat} (i j p e ty : Nat) (hm : S.M[i]? = some (.box cells tb false)) (hj : cells[j]? = some (.v (.slice none 0 0))) (hp : (newM S.M [] (some (p, gridI e ty T ([] : List (List α)))))[i]? = some (.box cells tb false)) (hr : S.refsAll (fun i => !(Nat.beq i p)) = true)
    (h : WL c ops L0 ⟨S.F, (newM S.M [] (some (p, gridI e ty T []))).set i (.box (cells.set j (.gs p 0)) tb false)⟩ N) : WL c ops L0 S N := fun a w ⟨g, _, hk⟩ => by
  obtain ⟨hs', hk'⟩ := nilBoxG_ok hm hj hp hr hk
  exact h a w ⟨g, hs', hk'⟩
def At.subR (x : At) (i : Nat) : At := match x with
  | .gs j 0 => match Nat.beq j i with
    | true => .own i
    | false => .gs j 0
  | x => x
def SV.subR (s : SV) (i : Nat) : SV := match s with
  | .one x => .one (x.subR i)
  | .agg l => .agg (l.map (·.subR i))
def SC.subR (x : SC) (i : Nat) : SC := match x with
  | .sv s => .sv (s.subR i)
  | .tup l => .tup (l.map (·.subR i))
def Item.subR (it : Item) (i : Nat) : Item := match it with
  | .box cells ty fz => .box (cells.map (·.subR i)) ty fz
  | it => it
def At.onlyG (i : Nat) : At → Bool
  | .gs k q => !(Nat.beq k i) || Nat.beq q 0
  | x => x.refs.all fun k => !(Nat.beq k i)
def SV.onlyG (i : Nat) : SV → Bool
  | .one x => x.onlyG i
  | .agg l => l.all (·.onlyG i)
def SC.onlyG (i : Nat) : SC → Bool
  | .sv s => s.onlyG i
  | .tup l => l.all (·.onlyG i)
def Item.onlyG (i : Nat) : Item → Bool
  | .box cells _ _ => cells.all (·.onlyG i)
  | .iter k _ => !(Nat.beq k i)
  | .grid _ _ _ _ (some (_, k)) => !(Nat.beq k i)
  | _ => true
theorem At.subR_ok {g' : Gh} {hs' : Nat → Value} {i : Nat} (hg : Gh.le g g') (hi : hs' i = gpart (hs i) 0) (hk : ∀ k, k ≠ i → hs' k = hs k) {x : At} {u : Value} (ho : x.onlyG i = true) (h : x.ok g hs u) : (x.subR i).ok g' hs' u := by
  have gen : ∀ x : At, (x.refs.all fun k => !(Nat.beq k i)) = true → x.ok g hs u → x.ok g' hs' u := fun x hx h => At.ok_hs (fun k hk' => hk k (beq_ne (List.all_eq_true.1 hx k hk'))) (At.mono hg h)
  cases x with
  | gs k q =>
    obtain ⟨h1, h2⟩ := h
    have h1 : u = gpart (hs k) q := h1
    simp only [At.onlyG, Bool.or_eq_true] at ho
    by_cases e : k = i
    · subst e
      have hq : q = 0 := by
        rcases ho with ho | ho
        · exact absurd rfl (beq_ne ho)
        · exact Nat.eq_of_beq_eq_true ho
      subst hq
      have : At.subR (.gs k 0) k = .own k := by simp [At.subR]
      rw [this]
      exact ⟨h1.trans hi.symm, h2⟩
    · have : At.subR (.gs k q) i = .gs k q := by
        cases q with
        | zero =>
          have hb : Nat.beq k i = false := by
            cases hb : Nat.beq k i with
            | false => rfl
            | true => exact absurd (Nat.eq_of_beq_eq_true hb) e
          simp [At.subR, hb]
        | succ q => rfl
      rw [this]
      refine ⟨?_, h2⟩
      show u = gpart (hs' k) q
      rw [hk k e]
      exact h1
  | _ => exact gen _ ho h
theorem oks_subR {g' : Gh} {hs' : Nat → Value} {i : Nat} (hg : Gh.le g g') (hi : hs' i = gpart (hs i) 0) (hk : ∀ k, k ≠ i → hs' k = hs k) : ∀ {l : List At} {us : List Value}, l.all (·.onlyG i) = true → oks g hs l us → oks g' hs' (l.map (·.subR i)) us
  | [], [], _, _ => trivial
  | [], _ :: _, _, h => h.elim
  | _ :: _, [], _, h => h.elim
  | _ :: _, _ :: _, ho, h => by
    rw [List.all_cons, Bool.and_eq_true] at ho
    exact ⟨At.subR_ok hg hi hk ho.1 h.1, h.2.1, oks_subR hg hi hk ho.2 h.2.2⟩
theorem SV.subR_ok {g' : Gh} {hs' : Nat → Value} {i : Nat} (hg : Gh.le g g') (hi : hs' i = gpart (hs i) 0) (hk : ∀ k, k ≠ i → hs' k = hs k) {x : SV} {u : Value} (ho : x.onlyG i = true) (h : x.ok g hs u) : (x.subR i).ok g' hs' u := by
  cases x with
  | one a => exact At.subR_ok hg hi hk ho h
  | agg l =>
    obtain ⟨cs, h1, h2⟩ := h
    exact ⟨cs, h1, oks_subR hg hi hk ho h2⟩
theorem svs_subR {g' : Gh} {hs' : Nat → Value} {i : Nat} (hg : Gh.le g g') (hi : hs' i = gpart (hs i) 0) (hk : ∀ k, k ≠ i → hs' k = hs k) : ∀ {l : List SV} {us : List Value}, l.all (·.onlyG i) = true → SV.oks g hs l us → SV.oks g' hs' (l.map (·.subR i)) us
  | [], [], _, _ => trivial
  | [], _ :: _, _, h => h.elim
  | _ :: _, [], _, h => h.elim
  | _ :: _, _ :: _, ho, h => by
    rw [List.all_cons, Bool.and_eq_true] at ho
    exact ⟨SV.subR_ok hg hi hk ho.1 h.1, svs_subR hg hi hk ho.2 h.2⟩
theorem SC.subR_ok {g' : Gh} {hs' : Nat → Value} {i : Nat} (hg : Gh.le g g') (hi : hs' i = gpart (hs i) 0) (hk : ∀ k, k ≠ i → hs' k = hs k) {x : SC} {u : Value} (ho : x.onlyG i = true) (h : x.ok g hs u) : (x.subR i).ok g' hs' u := by
  cases x with
  | sv s => exact SV.subR_ok hg hi hk ho h
  | tup l =>
    obtain ⟨us, h1, h2⟩ := h
    exact ⟨us, h1, svs_subR hg hi hk ho h2⟩
theorem Ok'.sealRows {α : Type} {T : Ty α} {L : List (List α)} {tyo ty i : Nat} (h : Ok' c S a w g hs) (hm : S.M[i]? = some (gridI tyo ty T L)) (hF : S.F.all (fun x => x.2.onlyG i) = true) (hM : S.M.all (·.onlyG i) = true) : ∃ g' hs', Ok' c ⟨S.F.map fun x => (x.1, x.2.subR i), (S.M.map (·.subR i)).set i (rowI tyo (lsT T) L)⟩ a w g' hs' := by
  classical
  have hit := h.items i _ hm
  have hmine := h.mine i _ hm (by simp)
  have hil := (List.getElem?_eq_some_iff.1 hm).1
  obtain ⟨us, ocs, u1, u2, u3, u3', u4, u4', _, u5⟩ := hit
  rw [List.length_map] at u2 u3
  let In : Nat → Prop := fun b => ∃ k, k + 1 < us.length ∧ blk (gpart (hs i) (k + 1)) = some b
  have hInB : ∀ b, In b → Blk (hs i) b := fun b ⟨k, h1, h2⟩ => Blk.part u1 h1 h2
  let g' : Gh := fun x => if In x then w.heap[x]? else g x
  have hle : Gh.le g g' := fun x o e => by
    show (if In x then _ else g x) = some o
    by_cases hx : In x
    · have := ((hmine x (hInB x hx)).2 rfl).2
      rw [this] at e
      cases e
    · rw [if_neg hx]; exact e
  let hs' : Nat → Value := fun k => if k = i then gpart (hs i) 0 else hs k
  have hsi : hs' i = gpart (hs i) 0 := if_pos rfl
  have hsk : ∀ k, k ≠ i → hs' k = hs k := fun k hk => if_neg hk
  have hsl := own_slice u3
  have hB0 : ∀ b, Blk (hs' i) b → blk (gpart (hs i) 0) = some b := fun b hb => by
    rw [hsi] at hb
    obtain ⟨ao, cap, e⟩ := hsl
    rw [e] at hb ⊢
    exact hb
  have hB0' : ∀ b, Blk (hs' i) b → Blk (hs i) b := fun b hb => Blk.part u1 (by omega) (hB0 b hb)
  have hset : ∀ (k : Nat) (kt : Item), ((S.M.map (·.subR i)).set i (rowI tyo (lsT T) L))[k]? = some kt → (k = i ∧ kt = rowI tyo (lsT T) L) ∨ ∃ jt, k ≠ i ∧ S.M[k]? = some jt ∧ kt = jt.subR i ∧ kt.fz = jt.fz ∧ (kt ≠ .gone → jt ≠ .gone) := fun k kt hk => by
    rw [List.getElem?_set] at hk
    by_cases e : i = k
    · rw [if_pos e] at hk
      split at hk
      · simp at hk; exact .inl ⟨e.symm, hk.symm⟩
      · cases hk
    · rw [if_neg e, List.getElem?_map] at hk
      cases hj : S.M[k]? with
      | none => rw [hj] at hk; cases hk
      | some jt =>
        rw [hj] at hk
        simp at hk
        refine .inr ⟨jt, Ne.symm e, rfl, hk.symm, by rw [← hk]; cases jt <;> rfl, fun hn e => hn ?_⟩
        subst e
        exact hk.symm
  refine ⟨g', hs', h.size, h.defers, ⟨h.base.os, h.base.tape, h.base.output, h.base.grows, h.base.frame, h.base.ghle.trans hle, fun x o e => ?_, fun x o e => ?_⟩, fun t x hx => ?_, fun k kt hk => ?_, fun k l kt lt hkl hk hl hf hn b hb => ?_, fun k kt hk hn b hb => ?_⟩
  · by_cases hx : In x
    · exact .inr ((hmine x (hInB x hx)).2 rfl).1
    · rw [show g' x = g x from if_neg hx] at e
      exact h.base.ghnew x o e
  · by_cases hx : In x
    · rw [show g' x = w.heap[x]? from if_pos hx] at e
      exact e
    · rw [show g' x = g x from if_neg hx] at e
      exact h.base.pers x o e
  · obtain ⟨y, hy, e⟩ := List.mem_map.1 hx
    cases e
    exact SC.subR_ok hle hsi hsk (List.all_eq_true.1 hF y hy) (h.slots _ _ hy)
  · rcases hset k kt hk with ⟨rfl, rfl⟩ | ⟨jt, h1, h2, rfl, _, _⟩
    · rw [hsi]
      have hlo : ocs.length = L.length := by have := u3.1; omega
      refine ⟨ocs, u3, ⟨ocs, ?_, hlo, fun q u l hu hl => ?_⟩⟩
      · have : ∀ l : List Value, (∀ u ∈ l, ∃ ao m cap, u = Value.slice ao m cap) → l = l.flatMap fun u => u.cells.toList := fun l => by
          induction l with
          | nil => intro _; rfl
          | cons u l ih =>
            intro hc
            obtain ⟨ao, m, cp, e⟩ := hc u List.mem_cons_self
            rw [List.flatMap_cons, ← ih fun x hx => hc x (List.mem_cons_of_mem _ hx), e]
            rfl
        exact this _ u3'
      · obtain ⟨k5, cs, k6, k7⟩ := u4 q (rowR T l) l.length (by rw [List.getElem?_map, hl]; rfl)
        rw [hu] at k5
        have k5 : u = gpart (hs k) (q + 1) := Option.some.inj k5
        have hql := (List.getElem?_eq_some_iff.1 hl).1
        obtain ⟨ao, m, cp, e⟩ := u3' u (List.mem_of_getElem? hu)
        refine ⟨?_, by rw [e]; rfl⟩
        rw [k5]
        have := row_LS (g' := g') (hs := hs0) k6 k7 hle (fun b hb => if_pos ⟨q, by omega, ownBlock_blk' hb⟩)
        exact this
    · by_cases hn : jt = .gone
      · subst hn; trivial
      · rw [hsk k h1]
        have hall := List.all_eq_true.1 hM jt (List.mem_of_getElem? h2)
        have h3 := h.items k jt h2
        cases jt with
        | box cells ty fz =>
          obtain ⟨b, cs, k1, k2, k3, k4⟩ := h3
          exact ⟨b, cs, k1, oks_subR hle hsi hsk hall k2, k3, fun e => hle _ _ (k4 e)⟩
        | iter j r =>
          obtain ⟨rb, m, clock, seen, k1, k2, k3⟩ := h3
          exact ⟨rb, m, clock, seen, k1, (hsk j (beq_ne hall)).trans k2, k3⟩
        | grid tyo' ty' s' rows' link' =>
          have h4 := Item.mono hle h3
          obtain ⟨vs, ocs', v1, v2, v3, v4, v5, v6, v7, v8⟩ := h4
          refine ⟨vs, ocs', v1, v2, v3, v4, v5, v6, fun p k hl => ?_, v8⟩
          subst hl
          rw [hsk k (beq_ne hall)]
          exact v7 p k rfl
        | _ => exact Item.mono hle h3
  · rcases hset k kt hk with ⟨rfl, rfl⟩ | ⟨jt, h1, h2, rfl, h3, h4⟩
    · rcases hset l lt hl with ⟨rfl, rfl⟩ | ⟨jt, l1, l2, rfl, l3, l4⟩
      · exact absurd rfl hkl
      · rw [hsk l l1]
        exact h.sep k l _ jt hkl hm l2 rfl (l4 hn) b (hB0' b hb)
    · rw [hsk k h1] at hb
      rw [h3] at hf
      rcases hset l lt hl with ⟨rfl, rfl⟩ | ⟨jt', l1, l2, rfl, l3, l4⟩
      · exact fun e => h.sep k l jt _ hkl h2 hm hf (by simp) b hb (hB0' b e)
      · rw [hsk l l1]
        exact h.sep k l jt jt' hkl h2 l2 hf (l4 hn) b hb
  · rcases hset k kt hk with ⟨rfl, rfl⟩ | ⟨jt, h1, h2, rfl, h3, h4⟩
    · obtain ⟨m1, m2⟩ := h.mine k _ hm (by simp) b (hB0' b hb)
      refine ⟨m1, fun _ => ⟨(m2 rfl).1, ?_⟩⟩
      have hni : ¬ In b := fun ⟨q, q1, q2⟩ => u5 0 (q + 1) b (by omega) q1 (by omega) (hB0 b hb) q2
      rw [show g' b = g b from if_neg hni]
      exact (m2 rfl).2
    · rw [hsk k h1] at hb
      obtain ⟨m1, m2⟩ := h.mine k jt h2 (h4 hn) b hb
      refine ⟨m1, fun hf => ?_⟩
      rw [h3] at hf
      refine ⟨(m2 hf).1, ?_⟩
      have hni : ¬ In b := fun hb2 => h.sep k i jt _ h1 h2 hm hf (by simp) b hb (hInB b hb2)
      rw [show g' b = g b from if_neg hni]
      exact (m2 hf).2
theorem WL.sealRows {α : Type} {T : Ty α} {L : List (List α)} {tyo ty : Nat} (i : Nat) (hm : S.M[i]? = some (gridI tyo ty T L)) (hF : S.F.all (fun x => x.2.onlyG i) = true) (hM : S.M.all (·.onlyG i) = true) (h : WL c ops L0 ⟨S.F.map fun x => (x.1, x.2.subR i), (S.M.map (·.subR i)).set i (rowI tyo (lsT T) L)⟩ N) : WL c ops L0 S N := fun a w ⟨g, hs, hk⟩ => by
  obtain ⟨g', hs', hk'⟩ := hk.sealRows hm hF hM
  exact h a w ⟨g', hs', hk'⟩
end
abbrev sl (n : Nat) (x : At) : Nat × SC := (n, .sv (.one x))
abbrev o1 (x : At) : SC := .sv (.one x)
theorem letsOut_any {c : Cfg} {N Z : Po} (h : LetsOut (OnlyP c N)) : LetsOut (OnlyP c Z) := by
  obtain ⟨a, w, h⟩ := h
  exact h.elim
theorem wp_anyN {c : Cfg} {o : Oper} {a : Act} {w : World} {K N Z : Po} (hh : o.wp Tryz.prog a w K (OnlyP c N)) : o.wp Tryz.prog a w K (OnlyP c Z) := by
  unfold Oper.wp at *
  generalize (execOp a.eval o).run Tryz.prog w = r at *
  cases r with
  | ok n w' =>
    cases n <;> simp only [Oper.upon] at hh ⊢ <;>
      first
        | exact hh
        | exact Calls.mono hh (fun e w'' he => by cases e <;> first | exact he | exact letsOut_any he)
  | halt x w' => cases x <;> simp only [Oper.upon] at hh ⊢ <;> exact hh
section
variable {c : Cfg} {l : List Oper} {N : Po} {S : St} {fuel : Nat} {listed : Array Bool}
def RD (c : Cfg) (l : List Oper) (N : Po) (fuel : Nat) (listed : Array Bool) (S : St) : Prop := ∀ a w, Ok c S a w → wpAny Tryz.prog .any l.toArray (OnlyP c N) fuel listed a w
theorem RD.nil (hr : Region.ready .any l.toArray listed = []) (h : En c S N) : RD c l N 0 listed S := fun a w hk => ⟨hr, h a w hk⟩
def RDs (c : Cfg) (l : List Oper) (N : Po) (fuel : Nat) (listed : Array Bool) (S : St) : List Nat → Prop
  | [] => True
  | i :: r => (∃ (o : Oper) (S' : St) (L' : Array Bool), l[i]? = some o ∧ WL c l.toArray [o] S (fun a w => Ok c S' a w) ∧ listed.setIfInBounds i true = L' ∧ RD c l N fuel L' S') ∧ RDs c l N fuel listed S r
theorem RDs.get : ∀ {is : List Nat}, RDs c l N fuel listed S is → ∀ i ∈ is, ∃ (o : Oper) (S' : St), l[i]? = some o ∧ WL c l.toArray [o] S (fun a w => Ok c S' a w) ∧ RD c l N fuel (listed.setIfInBounds i true) S'
  | j :: r, h, i, hi => by
    rcases List.mem_cons.1 hi with e | hi
    · subst e
      obtain ⟨o, S', L', h1, h2, h3, h4⟩ := h.1
      subst h3
      exact ⟨o, S', h1, h2, h4⟩
    · exact RDs.get h.2 i hi
theorem RD.succ (is : List Nat) (hr : Region.ready .any l.toArray listed = is) (hne : is.isEmpty = false) (h : RDs c l N fuel listed S is) : RD c l N (fuel + 1) listed S := fun a w hk => by
  refine ⟨fun e => ?_, fun i hi => ?_⟩
  · rw [hr] at e
    subst e
    cases hne
  · rw [hr] at hi
    obtain ⟨o, S', ho, hw, hd⟩ := RDs.get h i hi
    have hw := hw a w hk
    have ho' : l.toArray[i]? = some o := by simpa using ho
    unfold wpOp
    rw [ho']
    simp only
    unfold wpList at hw
    split
    · rename_i hwant
      rw [if_pos hwant] at hw
      rcases hw with hw | hw
      · exact .inl (wp_anyN (Oper.wp_mono (fun a' w' h' => hd a' w' h') hw))
      · exact .inr ⟨hw.1, letsOut_any hw.2⟩
    · rename_i hwant
      rw [if_neg hwant] at hw
      exact hd _ _ hw
theorem RD.have {N : Po} {f : Nat} {L : Array Bool} (f' : Nat) (L' : Array Bool) (S' : St) (h1 : RD c l N f' L' S') (h2 : RD c l N f' L' S' → RD c l N f L S) : RD c l N f L S := h2 h1
theorem RD.start {f : Nat} {L : Array Bool} {S' : St} (h : RD c l N f L S') (hf : f = l.length) (hL : L = Array.replicate l.length false) (hs : ∀ a w, Ok c S a w → Ok c S' a w) : RD c l N l.length (Array.replicate l.length false) S := by
  subst hf
  subst hL
  exact fun a w hk => h a w (hs a w hk)
theorem WL.nilI {ops : Array Oper} : WL c ops [] S (fun a w => Ok c S a w) := fun _ _ hk => hk
theorem En.regionD {id : Nat} {E : List (Nat × Po)} {R : Po} (fin : St) (hm : Tryz.prog.follows .mixedOrders = true) (h : ∀ N : Po, En c fin N → RD c l N l.length (Array.replicate l.length false) S) (hN : En c fin N) : En c S (cwp (.region id l.toArray true) (PQ c N E R)) := fun a w ⟨g, hs', hok⟩ => by
  have hok1 : Ok' c S a w.drew g hs' := hok.grown (grown_drew w)
  refine Code.wp_mono (fun e a w q => ?_) (wp_region_any (Q := OnlyP c N) hm ?_)
  · cases e <;> first | exact q | exact (q : False).elim
  · have := h N hN a w.drew ⟨g, hs', hok1⟩
    simpa using this
end
section
variable {c : Cfg} {S : St}
theorem pe_of {i ty : Nat} {cells : List At} {k : Nat} (hm : S.M[i]? = some (.box cells ty true)) (hrefs : cells.flatMap At.refs = []) (hk : cells.length = k) : ∀ a w g hs, Ok' c S a w g hs → ∀ u, SC.ok g hs (.sv (.one (.ptr i 0))) u → SC.ok g hs (.sv (.one (.pe (svR (.agg cells)) k))) u := fun a w g hs h u hu => by
  obtain ⟨⟨b, h1, rfl⟩, _⟩ := hu
  obtain ⟨b', cs, h2, h3, h4, h5⟩ := h.items i _ hm
  rw [h1] at h2
  simp at h2
  subst h2
  have hg := h5 rfl
  refine ⟨⟨b, 0, .agg cs.toArray, rfl, ⟨cs, rfl, oks_hs (fun i hi => by rw [hrefs] at hi; cases hi) h3⟩, ?_, fun j c hj => ?_⟩, trivial⟩
  · have := oks_length h3
    simp [Value.cells, ← this, hk]
  · unfold Gh.cell
    rw [hg]
    simpa [Value.cells] using hj
end
theorem setL_len {k v : Int} : ∀ (l : List Int) (j : Nat), (setL k v j l).length = l.length
  | [], _ => rfl
  | e :: es, j => by
    rw [setL, List.length_cons, List.length_cons, setL_len es]
def rowA (L : List Int) (k : Int) (z : Nat) : Nat → Nat → List At
  | _, 0 => []
  | j, m + 1 => I (arrG L (k * (z : Int) + (j : Int))) :: rowA L k z (j + 1) m
theorem rowA_eq {L : List Int} {k : Int} {z : Nat} (hk : 0 ≤ k) : ∀ (m j : Nat), j + m ≤ z → (k.toNat + 1) * z ≤ L.length → rowA L k z j m = ((L.map I).drop (k.toNat * z + j)).take m
  | 0, _, _, _ => rfl
  | m + 1, j, h1, h2 => by
    have e : (k.toNat + 1) * z = k.toNat * z + z := by rw [Nat.add_mul, Nat.one_mul]
    have hlt : k.toNat * z + j < (L.map I).length := by rw [List.length_map]; omega
    have h3 : k * (z : Int) + (j : Int) = ((k.toNat * z + j : Nat) : Int) := by
      rw [Int.natCast_add, Int.natCast_mul, Int.toNat_of_nonneg hk]
    have h4 := arrG_at L (k := k * (z : Int) + (j : Int)) (by rw [h3]; rw [List.length_map] at hlt; omega)
    rw [show (k * (z : Int) + (j : Int)).toNat = k.toNat * z + j by rw [h3, Int.toNat_natCast]] at h4
    rw [List.drop_eq_getElem_cons hlt, List.take_succ_cons, rowA, rowA_eq hk m (j + 1) (by omega) h2]
    rw [List.getElem?_eq_getElem hlt] at h4
    rw [← Option.some.inj h4]
    rfl
section
variable {c : Cfg} {S S1 : St} {o : Oper} {tab : Tab} {n : Nat} {ops : Array Oper} {rest : List Oper} {N : Po}
theorem box_at {cells : List At} {l : List Int} {off m q : Nat} {k : Int} (hN : l.length = m) (hc : (cells.drop off).take m = l.map I) (hk : 0 ≤ k ∧ k < (m : Int)) (hq : q = off + k.toNat) : cells[q]? = some (I (arrG l k)) := by
  subst hN hq
  have h := arrG_at l hk
  rw [← hc, List.getElem?_take, if_pos (by omega), List.getElem?_drop] at h
  exact h
theorem val_loadPO {i t ty q m : Nat} {fz : Bool} {ti : TI} {x : Operand} {cells : List At} (l : List Int) {k : Int} (off : Nat) (ht : tab.ok) (ho : o.op = .load t x) (h3 : tab t = some ti) (h4 : ti.size = 1) (h5 : ti.agg = false) (hx : evX S.F x = some (.sv (.one (.ptr i q)))) (hm : S.M[i]? = some (.box cells ty fz)) (hN : l.length = m) (hc : (cells.drop off).take m = l.map I) (hk : 0 ≤ k ∧ k < (m : Int)) (hq : q = off + k.toNat) : Val c S o (.sv (.one (I (arrG l k)))) := fun a w g hs h => by
  obtain ⟨dst, op, type, pos, after, guard⟩ := o
  have ho : op = .load t x := ho
  subst ho
  refine evV_ok ht h ?_
  show evLoad tab S t x = _
  simp only [evLoad, hx, hm, h3, h4, h5, partE_one (box_at hN hc hk hq)]
theorem box_set {cells : List At} {l : List Int} {off m q : Nat} {k v : Int} (hN : l.length = m) (hc : (cells.drop off).take m = l.map I) (hk : 0 ≤ k ∧ k < (m : Int)) (hq : q = off + k.toNat) : q < cells.length ∧ cells.take q ++ [I v] ++ cells.drop (q + 1) = cells.take off ++ (setL k v 0 l).map I ++ cells.drop (off + m) := by
  subst hN hq
  have hlt : off + k.toNat < cells.length := (List.getElem?_eq_some_iff.1 (box_at rfl hc hk rfl)).1
  have e := setA_ok l (v := v) hk
  refine ⟨hlt, ?_⟩
  rw [← e, ← hc, List.take_take, Nat.min_eq_left (by omega), List.drop_take, List.take_add, List.append_assoc, List.append_assoc, List.append_assoc, List.append_assoc, List.append_assoc]
  congr 2
  rw [List.drop_drop]
  congr 1
  have h5 : (cells.drop (off + (k.toNat + 1))) = ((cells.drop (off + (k.toNat + 1))).take (l.length - (k.toNat + 1))) ++ (cells.drop (off + l.length)) := by
    have := (List.take_append_drop (l.length - (k.toNat + 1)) (cells.drop (off + (k.toNat + 1)))).symm
    rw [List.drop_drop, show off + (k.toNat + 1) + (l.length - (k.toNat + 1)) = off + l.length by omega] at this
    exact this
  rw [show off + k.toNat + 1 = off + (k.toNat + 1) by omega]
  exact h5
theorem mu_storePO {t i ty q m : Nat} {ti : TI} {x y : Operand} {v : Int} {cells r : List At} (l : List Int) {k : Int} (off : Nat) (ht : tab.ok) (ho : o.op = .store t x y) (h1 : tab t = some ti) (h4 : ti.size = 1) (hx : evX S.F x = some (.sv (.one (.ptr i q)))) (hm : S.M[i]? = some (.box cells ty false)) (hy : evX S.F y = some (.sv (.one (I v)))) (hN : l.length = m) (hc : (cells.drop off).take m = l.map I) (hr : cells.take off ++ (setL k v 0 l).map I ++ cells.drop (off + m) = r) (hk : 0 ≤ k ∧ k < (m : Int)) (hq : q = off + k.toNat) : MU c S o i (.box r ty false) := by
  obtain ⟨hlt, e⟩ := box_set (v := v) hN hc hk hq
  subst hr
  refine mu_store2 ht ho h1 hx hm hy (fun h => by cases h) ?_ e
  rw [h4]
  show (Nat.beq 1 1 && Nat.ble (q + 1) cells.length) = true
  rw [Bool.and_eq_true]
  exact ⟨rfl, Nat.ble_eq_true_of_le (by omega)⟩
theorem WL.storePO {t i ty q m : Nat} {ti : TI} {x y : Operand} {v : Int} {cells r : List At} (l : List Int) {k : Int} (off : Nat) (ht : tab.ok) (hn : c.n = n) (hw : wantE ops S.F o = some true) (ho : o.op = .store t x y) (h1 : tab t = some ti) (h4 : ti.size = 1) (hx : evX S.F x = some (.sv (.one (.ptr i q)))) (hm : S.M[i]? = some (.box cells ty false)) (hy : evX S.F y = some (.sv (.one (I v)))) (hN : l.length = m) (hc : (cells.drop off).take m = l.map I) (hr : cells.take off ++ (setL k v 0 l).map I ++ cells.drop (off + m) = r) (hk : 0 ≤ k ∧ k < (m : Int)) (hq : q = off + k.toNat)
    (e : putE n o.dst (.tup []) ⟨S.F, S.M.set i (.box r ty false)⟩ = some S1) (h : WL c ops rest S1 N) : WL c ops (o :: rest) S N := fun a w ⟨g, hs, hh⟩ => by
  obtain ⟨hlt, e2⟩ := box_set (v := v) hN hc hk hq
  have e' : evM tab n S o = some S1 := by
    unfold evM
    rw [ho]
    subst hr
    show evStore tab n S o.dst t x y = _
    have hb : (Nat.beq (svCells (.one (I v))).length ti.size && Nat.ble (q + (svCells (.one (I v))).length) cells.length) = true := by
      rw [h4]
      show (Nat.beq 1 1 && Nat.ble (q + 1) cells.length) = true
      rw [Bool.and_eq_true]
      exact ⟨rfl, Nat.ble_eq_true_of_le (by omega)⟩
    unfold evStore
    rw [hx]
    simp only
    rw [hm]
    simp only
    rw [h1]
    simp only
    rw [hy]
    simp only
    rw [hb]
    simp only
    rw [← e, ← e2]
    rfl
  unfold wpList
  rw [if_pos (wantE_ok hh hw)]
  refine .inl ?_
  unfold Oper.wp
  obtain ⟨v, w', hs', h2 | ⟨h2, rfl⟩, h3⟩ := evM_ok ht hh hn e'
  · rw [h2]; exact h _ _ ⟨g, hs', h3⟩
  · rw [h2]; exact h _ _ ⟨g, hs', h3⟩
theorem val_indexPE {l : List At} {sz t m el fs : Nat} {ag : Bool} {te : TI} {x ix : Operand} {ik : IntKind} {k : Int} {r : SV} (ht : tab.ok) (ho : o.op = .indexAddr t x ix) (hu : Tryz.prog.underlying t = some (.array m el)) (h3 : tab el = some te) (h4 : te.size = fs + 1)
    (hx : evX S.F x = some (.sv (.one (.pe (svR (.agg l)) sz)))) (hi : evK S.F ix = some (.int ik k)) (h0 : 0 ≤ k ∧ k < (m : Int)) (h5 : partE l (k.toNat * (fs + 1)) (fs + 1) ag = some r) (h6 : (svCells r).length = fs + 1) : Val c S o (.sv (.one (.pe (svR r) (fs + 1)))) := fun a w g hs h => by
  obtain ⟨⟨b, off, u, e1, ⟨cs, rfl, e2⟩, e3, e4⟩, _⟩ := evX_ok h hx
  have : (execOp a.eval o) = (do pure (.value (← Instr.indexAt t (a.eval x) (a.eval ix))) : Sem Next) := by unfold execOp; rw [ho]
  rw [this]
  have key : ∃ v : Value, r.ok g hs0 v ∧ v.cells.size = fs + 1 ∧ ∀ j c, v.cells[j]? = some c → cs[k.toNat * (fs + 1) + j]? = some c := by
    cases ag with
    | true =>
      simp only [partE] at h5
      split at h5
      · rename_i hb
        cases h5
        have ho := oks_take (fs + 1) (oks_drop (k.toNat * (fs + 1)) e2)
        have hl := oks_length ho
        refine ⟨.agg ((cs.drop (k.toNat * (fs + 1))).take (fs + 1)).toArray, ⟨_, rfl, ho⟩, by simp only [Value.cells, List.size_toArray]; rw [← hl]; exact h6, fun j c hj => ?_⟩
        simp only [Value.cells, List.getElem?_toArray, List.getElem?_take] at hj
        split at hj
        · rwa [List.getElem?_drop] at hj
        · cases hj
      · cases h5
    | false =>
      simp only [partE] at h5
      split at h5
      · rename_i y hy
        cases h5
        obtain ⟨v, hv, h7, h8⟩ := oks_get e2 hy
        have h9 : fs + 1 = 1 := by simpa [svCells] using h6.symm
        refine ⟨v, h7, by rw [cellV.cells h8, h9]; rfl, fun j c hj => ?_⟩
        rw [cellV.cells h8] at hj
        cases j with
        | zero => simp at hj; subst hj; exact hv
        | succ j => simp at hj
      · cases h5
  obtain ⟨v, v1, v2, v3⟩ := key
  refine ⟨.pointer (some ⟨b, off + k.toNat * (fs + 1), none⟩), ?_, ⟨b, off + k.toNat * (fs + 1), v, rfl, v1, v2, fun j c hj => ?_⟩, trivial⟩
  · refine run_val ?_
    simp only [Instr.indexAt, evK_ok h hi, asIntOf, e1, Instr.sureAddr, Sem.run_bind, Sem.run_pure, Result.andThen_ok, run_underlying hu, if_pos h0, (ht el te h3).run_size, h4, svs_add]
  · rw [Nat.add_assoc]
    exact e4 (k.toNat * (fs + 1) + j) c (by simpa [Value.cells] using v3 j c hj)
theorem val_ix1 {L : List Int} {sz t m el : Nat} {te : TI} {x ix : Operand} {ik : IntKind} {k : Int} (ht : tab.ok) (ho : o.op = .indexAddr t x ix) (hu : Tryz.prog.underlying t = some (.array m el)) (h3 : tab el = some te) (h4 : te.size = 1)
    (hx : evX S.F x = some (.sv (.one (.pe (svR (.agg (L.map I))) sz)))) (hi : evK S.F ix = some (.int ik k)) (hL : L.length = m) (h0 : 0 ≤ k ∧ k < (m : Int)) : Val c S o (.sv (.one (.pe (svR (.one (I (arrG L k)))) 1))) :=
  val_indexPE (ag := false) (fs := 0) ht ho hu h3 h4 hx hi h0 (by rw [Nat.zero_add, Nat.mul_one]; exact partE_one (arrG_at L (by omega))) rfl
theorem val_ix2 {L : List Int} {r : List At} {sz t m el fs : Nat} {te : TI} {x ix : Operand} {ik : IntKind} {k : Int} (ht : tab.ok) (ho : o.op = .indexAddr t x ix) (hu : Tryz.prog.underlying t = some (.array m el)) (h3 : tab el = some te) (h4 : te.size = fs + 1)
    (hx : evX S.F x = some (.sv (.one (.pe (svR (.agg (L.map I))) sz)))) (hi : evK S.F ix = some (.int ik k)) (hL : L.length = m * (fs + 1)) (hr : rowA L k (fs + 1) 0 (fs + 1) = r) (h6 : (svCells (.agg r)).length = fs + 1) (h0 : 0 ≤ k ∧ k < (m : Int)) : Val c S o (.sv (.one (.pe (svR (.agg r)) (fs + 1)))) := by
  have h1 : (k.toNat + 1) * (fs + 1) ≤ L.length := by rw [hL]; exact Nat.mul_le_mul_right _ (by omega)
  have e : r = ((L.map I).drop (k.toNat * (fs + 1))).take (fs + 1) := by rw [← hr]; exact rowA_eq (z := fs + 1) h0.1 (fs + 1) 0 (by omega) h1
  refine val_indexPE (ag := true) ht ho hu h3 h4 hx hi h0 ?_ h6
  unfold partE
  rw [← e]
  have h6 : r.length = fs + 1 := h6
  rw [h6, show Nat.beq (fs + 1) (fs + 1) = true from Nat.beq_refl _]
theorem WL.mu {i : Nat} {it it' : Item} (hd : o.dst = none) (hw : wantE ops S.F o = some true) (hm : MU c S o i it') (hi : S.M[i]? = some it) (hf : it.fz = false) (hf' : it'.fz = false) (h : WL c ops rest ⟨S.F, S.M.set i it'⟩ N) : WL c ops (o :: rest) S N := fun a w ⟨g, hs, hh⟩ => by
  unfold wpList
  rw [if_pos (wantE_ok hh hw)]
  refine .inl (hm a w g hs hh _ N fun v w' h1 h2 => ?_)
  rw [hd]
  exact h _ _ ⟨g, hs, hh.upd hi hf hf' h1 h2⟩
end
theorem oks_set {g : Gh} {hs : Nat → Value} {x y : At} (hxy : ∀ u, x.ok g hs u → y.ok g hs u) : ∀ {l : List At} {us : List Value} (j : Nat), l[j]? = some x → oks g hs l us → oks g hs (l.set j y) us
  | [], _, _, e, _ => by simp at e
  | _ :: _, [], _, _, h => h.elim
  | a :: _, u :: _, 0, e, h => by
    simp at e
    subst e
    exact ⟨hxy u h.1, h.2.1, h.2.2⟩
  | _ :: _, _ :: _, j + 1, e, h => ⟨h.1, h.2.1, oks_set hxy j (by simpa using e) h.2.2⟩
section
variable {c : Cfg} {S : St} {a : Act} {w : World} {g : Gh} {hs : Nat → Value} {N : Po} {ops : Array Oper} {L : List Oper}
theorem peBox_ok {cells cells' : List At} {ty ty' k : Nat} {fz : Bool} (i j p : Nat) (hm : S.M[i]? = some (.box cells ty fz)) (hj : cells[j]? = some (.ptr p 0)) (hp : S.M[p]? = some (.box cells' ty' true)) (hrefs : cells'.flatMap At.refs = []) (hl : cells'.length = k) (hk : Ok' c S a w g hs) : Ok' c ⟨S.F, S.M.set i (.box (cells.set j (.pe (svR (.agg cells')) k)) ty fz)⟩ a w g hs := by
  have hset : ∀ (k' : Nat) (jt : Item), (S.M.set i (.box (cells.set j (.pe (svR (.agg cells')) k)) ty fz))[k']? = some jt → (k' = i ∧ jt = .box (cells.set j (.pe (svR (.agg cells')) k)) ty fz) ∨ (k' ≠ i ∧ S.M[k']? = some jt) := fun k' jt hk => by
    rw [List.getElem?_set] at hk
    by_cases e : i = k'
    · rw [if_pos e] at hk
      split at hk
      · simp at hk; exact .inl ⟨e.symm, hk.symm⟩
      · cases hk
    · rw [if_neg e] at hk; exact .inr ⟨Ne.symm e, hk⟩
  have old : ∀ (k' : Nat) (jt : Item), (S.M.set i (.box (cells.set j (.pe (svR (.agg cells')) k)) ty fz))[k']? = some jt → jt ≠ .gone → ∃ kt, S.M[k']? = some kt ∧ kt.fz = jt.fz ∧ kt ≠ .gone := fun k' jt hk hn => by
    rcases hset k' jt hk with ⟨rfl, rfl⟩ | ⟨_, h⟩
    · exact ⟨_, hm, rfl, by simp⟩
    · exact ⟨jt, h, rfl, hn⟩
  refine ⟨hk.size, hk.defers, hk.base, hk.slots, fun k' jt hj' => ?_, fun k' l jt lt hkl h1 h2 hf hn => ?_, fun k' jt h1 hn => ?_⟩
  · rcases hset k' jt hj' with ⟨rfl, rfl⟩ | ⟨_, h⟩
    · obtain ⟨b, cs, h1, h2, h3⟩ := hk.items k' _ hm
      exact ⟨b, cs, h1, oks_set (fun u hu => pe_of hp hrefs hl a w g hs hk u hu) j hj h2, h3⟩
    · exact hk.items k' jt h
  · obtain ⟨kt, a1, a2, a3⟩ := old k' jt h1 (fz_gone hf)
    obtain ⟨kt', b1, b2, b3⟩ := old l lt h2 hn
    exact hk.sep k' l kt kt' hkl a1 b1 (a2.trans hf) b3
  · obtain ⟨kt, a1, a2, a3⟩ := old k' jt h1 hn
    rw [← a2]
    exact hk.mine k' kt a1 a3
theorem En.peBox {cells cells' : List At} {ty ty' k : Nat} {fz : Bool} (i j p : Nat) (hm : S.M[i]? = some (.box cells ty fz)) (hj : cells[j]? = some (.ptr p 0)) (hp : S.M[p]? = some (.box cells' ty' true)) (hrefs : cells'.flatMap At.refs = []) (hl : cells'.length = k) (h : En c ⟨S.F, S.M.set i (.box (cells.set j (.pe (svR (.agg cells')) k)) ty fz)⟩ N) : En c S N := fun a w ⟨g, hs, hk⟩ => h a w ⟨g, hs, peBox_ok i j p hm hj hp hrefs hl hk⟩
theorem WL.peBox {cells cells' : List At} {ty ty' k : Nat} {fz : Bool} (i j p : Nat) (hm : S.M[i]? = some (.box cells ty fz)) (hj : cells[j]? = some (.ptr p 0)) (hp : S.M[p]? = some (.box cells' ty' true)) (hrefs : cells'.flatMap At.refs = []) (hl : cells'.length = k) (h : WL c ops L ⟨S.F, S.M.set i (.box (cells.set j (.pe (svR (.agg cells')) k)) ty fz)⟩ N) : WL c ops L S N := fun a w ⟨g, hs, hk⟩ => h a w ⟨g, hs, peBox_ok i j p hm hj hp hrefs hl hk⟩
end
end Go.Proofs.YtijgcihlodofdaaGreatDoor
namespace Go.Proofs.YtijgcihlodofdaaGreatDoor
open Go.RowKit Go.MapKept
set_option linter.unusedSimpArgs false
set_option linter.unusedVariables false
set_option maxRecDepth 100000
set_option linter.unusedSectionVars false
section
variable {c : Cfg} {S S1 : St} {a : Act} {w : World} {g : Gh} {hs : Nat → Value} {tab : Tab} {n : Nat} {o : Oper}
theorem mtq_callS {β : Type} {Q : β → Prop} {itf : β → Item} {out x : β → SC} (p : Nat) {f : Nat} {ins : List SC} {M : List Item} (ct : CtS f ins M Q out itf) (en : ∀ args w, (callFunc f args).run Tryz.prog w = .ok (.enter f args) w) {caps : List Nat} (rn : List Nat) {fo : Operand} {args : Array Operand} {ats : Array TypeId} (hir : ∀ r, (itf r).refs = []) (hx : ∀ r, (out r).ren (fun _ => p) = x r)
    (ho : o.op = .call ⟨.value fo, args, ats⟩) (hf : evX S.F fo = some (.sv (.one (.fn f caps)))) (ha : (match evXs S.F args.toList with | some l => some (l ++ caps.map fun i => .sv (.one (.ptr i 0))) | none => none) = some (ins.map (SC.ren fun i => rn.getD i 0)))
    (hM : fzE S.M (fun i => rn.getD i 0) 0 M = M.map fun it => some (it.ren fun i => rn.getD i 0)) (hz : M.all fzB = true) (hcb : caps.all (boxB S) = true) : MTQ c S o Q x (fun r => some (p, itf r)) := fun a w g hs h N Z hN => by
  unfold Oper.wp
  have hfv : a.eval fo = .func (.func f) #[] (caps.map hs).toArray := (evX_ok h hf).1
  split at ha
  case h_2 => cases ha
  rename_i l' hl
  simp only [Option.some.injEq] at ha
  have h1 := evXs_ok h hl
  have hcp : ∀ i ∈ caps, ∃ b, hs i = .pointer (some ⟨b, 0, none⟩) := fun i hi => by
    have := List.all_eq_true.1 hcb i hi
    unfold boxB at this
    cases hm : S.M[i]? with
    | none => rw [hm] at this; cases this
    | some it =>
      rw [hm] at this
      cases it <;> try (cases this; done)
      obtain ⟨b, cs, h1, _⟩ := h.items i _ hm
      exact ⟨b, h1⟩
  have h2 : okArgs g hs (caps.map fun i => SC.sv (.one (.ptr i 0))) (caps.map hs) := by
    clear ha hf hfv hcb
    induction caps with
    | nil => trivial
    | cons i caps ih =>
      refine ⟨?_, ih (fun j hj => hcp j (List.mem_cons_of_mem _ hj))⟩
      obtain ⟨b, hb⟩ := hcp i (by simp)
      exact ⟨⟨b, hb, hb⟩, by rw [hb]; trivial⟩
  have h3 := okArgs_append h1 h2
  rw [ha] at h3
  have h4 := okArgs_ren h3
  have hrun : (execOp a.eval o).run Tryz.prog w = .ok (.enter f ((args.toList.map a.eval) ++ caps.map hs).toArray) w := by
    unfold execOp
    simp only [ho, resolve, hfv, Deferred.ofValue, Sem.run_bind, Sem.run_pure, Result.andThen_ok, invoke]
    rw [show (#[] ++ Array.map a.eval args ++ (List.map hs caps).toArray : Array Value) = (args.toList.map a.eval ++ caps.map hs).toArray by simp]
    exact en _ _
  rw [hrun]
  refine (ct w g (fun i => hs (rn.getD i 0)) _ h.base.pers h4 (fun i it hi => ?_)).mono ?_
  · have h5 := fzE_ok hM i it hi
    rw [Nat.zero_add] at h5
    exact fz_of (f := fun i => rn.getD i 0) (i := i) h5 (List.all_eq_true.1 hz it (List.mem_of_getElem? hi)) h
  · rintro e' w' ⟨v, g', r, h', rfl, hq, h5, h6, h7, h8⟩
    refine hN r hq v w' g' h' (Eff.of_base h5) ?_ ⟨Item.ok_hs (fun j hj => by rw [hir r] at hj; cases hj) h7, fun b hb => ⟨(h8 b hb).1, fun _ => (h8 b hb).2.2, .inl (h8 b hb).2.1⟩⟩
    rw [← hx r]
    refine SC.ren_ok ?_
    show SC.ok g' (fun _ => if p = p then h' else hs p) (out r) v
    rw [if_pos rfl]
    exact h6
end
end Go.Proofs.YtijgcihlodofdaaGreatDoor
