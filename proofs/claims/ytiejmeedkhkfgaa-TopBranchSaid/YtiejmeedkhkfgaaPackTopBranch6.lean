/- Lemmas towards the statement: mirrors of functions, and plain laws. No condition. -/
import Derived.Test.YtiejmeedkhkfgaaPackTopBranch5
namespace Go.Proofs.Ytiejmeedkhkfgaa
open Go.RowKit Go.MapKept
set_option linter.unusedSimpArgs false
set_option linter.unusedVariables false
set_option maxRecDepth 100000
structure BLab where
 fSign : Int
 fAll : Bool
 fLetter : Int
deriving DecidableEq, Inhabited
def bLab (a : BLab) : List Value := [.int .u8 a.fSign, .bool a.fAll, .int .i64 a.fLetter]
theorem bLabH : ∀ a, ∀ c ∈ bLab a, cellV c := fun a c h => by
 simp only [bLab, List.mem_cons, List.not_mem_nil, or_false] at h
 rcases h with rfl | rfl | rfl <;> trivial
def bch (text : ByteArray) (i : Int) : Int := (byteAt text i).getD 0
theorem bAt_ok {text : ByteArray} {i : Int} (h0 : 0 ≤ i) (h1 : i < text.size) : byteAt text i = some (bch text i) := by
 unfold bch byteAt
 rw [if_pos h0]
 have : i.toNat < text.size := by omega
 simp [this]
theorem bch_end {text : ByteArray} {i : Int} (h1 : text.size ≤ i) : bch text i = 0 := by
 unfold bch byteAt
 split
 ·have : ¬ i.toNat < text.size := by omega
  simp [this]
 ·rfl
theorem bch_lt {text : ByteArray} {p : Int} (h : bch text p ≠ 0) : p < text.size := by
 by_cases hh : p < text.size
 ·exact hh
 ·exact absurd (bch_end (by omega)) h
structure BS where
 pos : Int
 deep : Int
 cnt : Int
abbrev BTr := Tr BLab
def bn (sign : Int) (all : Bool) (letter : Int) (kids : List BTr) : BTr := .node ⟨sign, all, letter⟩ kids
def bcnt (s : BS) : Option BS := if s.cnt + 1 > 30 then none else some ⟨s.pos + 1, s.deep, s.cnt + 1⟩
def bopen (s : BS) : Option BS := if s.deep = 40 then none else some ⟨s.pos + 1, s.deep + 1, s.cnt⟩
def bwant (c : Int) (text : ByteArray) (s : BS) : Option BS := if bch text s.pos = c then some ⟨s.pos + 1, s.deep, s.cnt⟩ else none
def bshut (text : ByteArray) (s : BS) : Option BS := (bwant 41 text s).bind fun s => some ⟨s.pos, s.deep - 1, s.cnt⟩
def wayB (rec0 rec3 : BS → Option (BTr × BS)) (all : Bool) (text : ByteArray) (s : BS) : Option (BTr × BS) := (bcnt s).bind fun s1 =>
 if bch text s1.pos = 88 ∨ bch text s1.pos = 70 ∨ bch text s1.pos = 71 then (rec0 ⟨s1.pos + 1, s1.deep, s1.cnt⟩).bind fun r => some (bn (bch text s1.pos) all 0 [r.1], r.2)
 else if bch text s1.pos = 40 then (bopen s1).bind fun s2 => (rec3 s2).bind fun a => (bwant 85 text a.2).bind fun s3 => (rec3 s3).bind fun b => (bshut text b.2).bind fun s4 => some (bn 85 all 0 [a.1, b.1], s4)
 else none
def parB (rec0 rec3 : BS → Option (BTr × BS)) (text : ByteArray) (s : BS) : Option (BTr × BS) :=
 if bch text s.pos = 48 ∨ bch text s.pos = 49 then (bcnt s).bind fun s1 => some (bn (bch text s.pos) false 0 [], s1)
 else if 97 ≤ bch text s.pos ∧ bch text s.pos ≤ 100 then (bcnt s).bind fun s1 => some (bn 97 false (bch text s.pos - 97) [], s1)
 else if bch text s.pos = 33 then (bcnt s).bind fun s1 => (rec0 s1).bind fun r => some (bn 33 false 0 [r.1], r.2)
 else if bch text s.pos = 69 ∨ bch text s.pos = 65 then wayB rec0 rec3 (decide (bch text s.pos = 65)) text s
 else if bch text s.pos = 40 then (bopen s).bind fun s1 => (rec3 s1).bind fun r => (bshut text r.2).bind fun s2 => some (r.1, s2)
 else none
def lopBL (ch : Int) (rec : BS → Option (BTr × BS)) (text : ByteArray) : Nat → BTr → BS → Option (BTr × BS)
 | 0, _, _ => none
 | m + 1, t, s => if bch text s.pos = ch then (bcnt s).bind fun s1 => (rec s1).bind fun r => lopBL ch rec text m (bn ch false 0 [t, r.1]) r.2 else some (t, s)
def lopB (ch : Int) (rec : BS → Option (BTr × BS)) (text : ByteArray) (s : BS) : Option (BTr × BS) := (rec s).bind fun r => lopBL ch rec text (text.size + 1) r.1 r.2
def pB (text : ByteArray) : Nat → Nat → BS → Option (BTr × BS)
 | 0, _, _ => none
 | k + 1, 0, s => parB (pB text k 0) (pB text k 2) text s
 | k + 1, 1, s => lopB 38 (pB text k 0) text s
 | k + 1, _, s => lopB 124 (pB text k 1) text s
def gB (text : ByteArray) (s : BS) : Prop := (0 ≤ s.pos ∧ s.pos ≤ text.size) ∧ (0 ≤ s.cnt ∧ s.cnt ≤ 30) ∧ (0 ≤ s.deep ∧ s.deep ≤ 40)
def bOk (k kd : Nat) (text : ByteArray) (s : BS) : Prop := text.size ≤ 4000 ∧ 4 * (text.size - s.pos) + kd < k ∧ gB text s
def Shp : Nat → BTr → Prop
 | 0, _ => False
 | k + 1, .node a kids => ((a.fSign = 48 ∨ a.fSign = 49 ∨ a.fSign = 97) ∧ kids = []) ∨ ((a.fSign = 33 ∨ a.fSign = 88 ∨ a.fSign = 70 ∨ a.fSign = 71) ∧ ∃ x, kids = [x] ∧ Shp k x) ∨ ((a.fSign = 38 ∨ a.fSign = 124 ∨ a.fSign = 85) ∧ ∃ x y, kids = [x, y] ∧ Shp k x ∧ Shp k y)
theorem Shp.mono : ∀ {k k' : Nat} {t : BTr}, Shp k t → k ≤ k' → Shp k' t
 | 0, _, _, h, _ => h.elim
 | k + 1, 0, _, _, h => absurd h (by omega)
 | k + 1, k' + 1, .node a kids, h, hk => by
  rcases h with h | ⟨h, x, e, hx⟩ | ⟨h, x, y, e, hx, hy⟩
  ·exact .inl h
  ·exact .inr (.inl ⟨h, x, e, hx.mono (by omega)⟩)
  ·exact .inr (.inr ⟨h, x, y, e, hx.mono (by omega), hy.mono (by omega)⟩)
def wayQ (rec0 rec3 : Int → Option (BTr × Int)) (all : Bool) (text : ByteArray) (p : Int) : Option (BTr × Int) :=
 if bch text (p + 1) = 88 ∨ bch text (p + 1) = 70 ∨ bch text (p + 1) = 71 then (rec0 (p + 1 + 1)).bind fun r => some (bn (bch text (p + 1)) all 0 [r.1], r.2)
 else if bch text (p + 1) = 40 then (rec3 (p + 1 + 1)).bind fun a => if bch text a.2 = 85 then (rec3 (a.2 + 1)).bind fun b => if bch text b.2 = 41 then some (bn 85 all 0 [a.1, b.1], b.2 + 1) else none else none
 else none
def parQ (rec0 rec3 : Int → Option (BTr × Int)) (text : ByteArray) (p : Int) : Option (BTr × Int) :=
 if bch text p = 48 ∨ bch text p = 49 then some (bn (bch text p) false 0 [], p + 1)
 else if 97 ≤ bch text p ∧ bch text p ≤ 100 then some (bn 97 false (bch text p - 97) [], p + 1)
 else if bch text p = 33 then (rec0 (p + 1)).bind fun r => some (bn 33 false 0 [r.1], r.2)
 else if bch text p = 69 ∨ bch text p = 65 then wayQ rec0 rec3 (decide (bch text p = 65)) text p
 else if bch text p = 40 then (rec3 (p + 1)).bind fun r => if bch text r.2 = 41 then some (r.1, r.2 + 1) else none
 else none
def lopQL (ch : Int) (rec : Int → Option (BTr × Int)) (text : ByteArray) : Nat → BTr → Int → Option (BTr × Int)
 | 0, _, _ => none
 | m + 1, t, p => if bch text p = ch then (rec (p + 1)).bind fun r => lopQL ch rec text m (bn ch false 0 [t, r.1]) r.2 else some (t, p)
def lopQ (ch : Int) (rec : Int → Option (BTr × Int)) (text : ByteArray) (p : Int) : Option (BTr × Int) := (rec p).bind fun r => lopQL ch rec text (text.size + 1) r.1 r.2
def qB (text : ByteArray) : Nat → Nat → Int → Option (BTr × Int)
 | 0, _, _ => none
 | k + 1, 0, p => parQ (qB text k 0) (qB text k 2) text p
 | k + 1, 1, p => lopQ 38 (qB text k 0) text p
 | k + 1, _, p => lopQ 124 (qB text k 1) text p
theorem bcnt_some {s s1 : BS} (h : bcnt s = some s1) : s1 = ⟨s.pos + 1, s.deep, s.cnt + 1⟩ ∧ s.cnt + 1 ≤ 30 := by
 unfold bcnt at h
 split at h
 ·cases h
 ·cases h
  exact ⟨rfl, by omega⟩
theorem bopen_some {s s1 : BS} (h : bopen s = some s1) : s1 = ⟨s.pos + 1, s.deep + 1, s.cnt⟩ ∧ s.deep ≠ 40 := by
 unfold bopen at h
 split at h
 ·cases h
 ·cases h
  exact ⟨rfl, by assumption⟩
theorem bwant_some {c : Int} {text : ByteArray} {s s1 : BS} (h : bwant c text s = some s1) : s1 = ⟨s.pos + 1, s.deep, s.cnt⟩ ∧ bch text s.pos = c := by
 unfold bwant at h
 split at h
 ·cases h
  exact ⟨rfl, by assumption⟩
 ·cases h
theorem bshut_some {text : ByteArray} {s s1 : BS} (h : bshut text s = some s1) : s1 = ⟨s.pos + 1, s.deep - 1, s.cnt⟩ ∧ bch text s.pos = 41 := by
 obtain ⟨x, hx, e⟩ := Option.bind_eq_some_iff.1 h
 cases e
 obtain ⟨rfl, h2⟩ := bwant_some hx
 exact ⟨rfl, h2⟩
structure GdB (text : ByteArray) (T : Int → Option (BTr × Int)) (s : BS) (r : BTr × BS) : Prop where
 pos : s.pos < r.2.pos
 ok : gB text r.2
 deep : r.2.deep = s.deep
 cnt : s.cnt ≤ r.2.cnt
 shp : Shp (r.2.cnt - s.cnt).toNat r.1
 tree : T s.pos = some (r.1, r.2.pos)
def GoodB (text : ByteArray) (f : BS → Option (BTr × BS)) (T : Int → Option (BTr × Int)) : Prop := ∀ s r, text.size ≤ 4000 → gB text s → f s = some r → GdB text T s r
section
variable {text : ByteArray} {R0 R3 : BS → Option (BTr × BS)} {T0 T3 : Int → Option (BTr × Int)}
theorem wayB_good (h0 : GoodB text R0 T0) (h3 : GoodB text R3 T3) (all : Bool) {s : BS} {r : BTr × BS} (hz : text.size ≤ 4000) (hg : gB text s) (hlt : s.pos < text.size) (e : wayB R0 R3 all text s = some r) : GdB text (wayQ T0 T3 all text) s r := by
 obtain ⟨s1, z1, e⟩ := Option.bind_eq_some_iff.1 e
 obtain ⟨rfl, hc⟩ := bcnt_some z1
 obtain ⟨⟨p0, p1⟩, ⟨n0, n1⟩, d0, d1⟩ := hg
 simp only at e
 by_cases c1 : bch text (s.pos + 1) = 88 ∨ bch text (s.pos + 1) = 70 ∨ bch text (s.pos + 1) = 71
 ·rw [if_pos c1] at e
  have hl := bch_lt (text := text) (p := s.pos + 1) (by omega)
  obtain ⟨x, z2, e⟩ := Option.bind_eq_some_iff.1 e
  cases e
  have G := h0 _ x hz (show gB text ⟨s.pos + 1 + 1, s.deep, s.cnt + 1⟩ from ⟨⟨by show 0 ≤ s.pos + 1 + 1; omega, by show s.pos + 1 + 1 ≤ text.size; omega⟩, ⟨by show 0 ≤ s.cnt + 1; omega, hc⟩, d0, d1⟩) z2
  obtain ⟨g1, g2, g3, g4, g5, g6⟩ := G
  simp only at g1 g3 g4 g5
  refine ⟨by show s.pos < x.2.pos; omega, g2, g3, by show s.cnt ≤ x.2.cnt; omega, ?_, ?_⟩
  ·show Shp (x.2.cnt - s.cnt).toNat (bn (bch text (s.pos + 1)) all 0 [x.1])
   rw [show (x.2.cnt - s.cnt).toNat = (x.2.cnt - (s.cnt + 1)).toNat + 1 by omega]
   exact .inr (.inl ⟨.inr c1, x.1, rfl, g5⟩)
  ·unfold wayQ
   rw [if_pos c1]
   exact ob g6
 rw [if_neg c1] at e
 by_cases c2 : bch text (s.pos + 1) = 40
 ·rw [if_pos c2] at e
  have hl := bch_lt (text := text) (p := s.pos + 1) (by omega)
  obtain ⟨s2, z2, e⟩ := Option.bind_eq_some_iff.1 e
  obtain ⟨rfl, hd⟩ := bopen_some z2
  simp only at hd
  obtain ⟨a, z3, e⟩ := Option.bind_eq_some_iff.1 e
  have G := h3 _ a hz (show gB text ⟨s.pos + 1 + 1, s.deep + 1, s.cnt + 1⟩ from ⟨⟨by show 0 ≤ s.pos + 1 + 1; omega, by show s.pos + 1 + 1 ≤ text.size; omega⟩, ⟨by show 0 ≤ s.cnt + 1; omega, hc⟩, by show 0 ≤ s.deep + 1; omega, by show s.deep + 1 ≤ 40; omega⟩) z3
  obtain ⟨g1, ⟨⟨q0, q1⟩, ⟨m0, m1⟩, f0, f1⟩, g3, g4, g5, g6⟩ := G
  simp only at g1 g3 g4 g5
  obtain ⟨s3, z4, e⟩ := Option.bind_eq_some_iff.1 e
  obtain ⟨rfl, hw⟩ := bwant_some z4
  have hl2 := bch_lt (text := text) (p := a.2.pos) (by omega)
  obtain ⟨b, z5, e⟩ := Option.bind_eq_some_iff.1 e
  have G2 := h3 _ b hz (show gB text ⟨a.2.pos + 1, a.2.deep, a.2.cnt⟩ from ⟨⟨by show 0 ≤ a.2.pos + 1; omega, by show a.2.pos + 1 ≤ text.size; omega⟩, ⟨m0, m1⟩, f0, f1⟩) z5
  obtain ⟨k1, ⟨⟨w0, w1⟩, ⟨v0, v1⟩, u0, u1⟩, k3, k4, k5, k6⟩ := G2
  simp only at k1 k3 k4 k5
  obtain ⟨s4, z6, e⟩ := Option.bind_eq_some_iff.1 e
  obtain ⟨rfl, hs⟩ := bshut_some z6
  have hl3 := bch_lt (text := text) (p := b.2.pos) (by omega)
  cases e
  refine ⟨by show s.pos < b.2.pos + 1; omega, ⟨⟨by show 0 ≤ b.2.pos + 1; omega, by show b.2.pos + 1 ≤ text.size; omega⟩, ⟨v0, v1⟩, by show 0 ≤ b.2.deep - 1; omega, by show b.2.deep - 1 ≤ 40; omega⟩, by show b.2.deep - 1 = s.deep; omega, by show s.cnt ≤ b.2.cnt; omega, ?_, ?_⟩
  ·show Shp (b.2.cnt - s.cnt).toNat (bn 85 all 0 [a.1, b.1])
   rw [show (b.2.cnt - s.cnt).toNat = (b.2.cnt - (s.cnt + 1)).toNat + 1 by omega]
   exact .inr (.inr ⟨.inr (.inr rfl), a.1, b.1, rfl, g5.mono (by omega), k5.mono (by omega)⟩)
  ·unfold wayQ
   rw [if_neg c1, if_pos c2]
   refine (ob g6).trans ?_
   show (if bch text a.2.pos = 85 then _ else none) = _
   rw [if_pos hw]
   refine (ob k6).trans ?_
   show (if bch text b.2.pos = 41 then _ else none) = _
   rw [if_pos hs]
 ·rw [if_neg c2] at e
  cases e
theorem parB_good (h0 : GoodB text R0 T0) (h3 : GoodB text R3 T3) : GoodB text (parB R0 R3 text) (parQ T0 T3 text) := fun s r hz hg e => by
 have hg' := hg
 obtain ⟨⟨p0, p1⟩, ⟨n0, n1⟩, d0, d1⟩ := hg
 unfold parB at e
 have hT : ∀ v, (parQ T0 T3 text s.pos = v) ↔ (parQ T0 T3 text s.pos = v) := fun _ => Iff.rfl
 by_cases c1 : bch text s.pos = 48 ∨ bch text s.pos = 49
 ·rw [if_pos c1] at e
  have hl := bch_lt (text := text) (p := s.pos) (by omega)
  obtain ⟨s1, z1, e⟩ := Option.bind_eq_some_iff.1 e
  obtain ⟨rfl, hc⟩ := bcnt_some z1
  cases e
  refine ⟨by show s.pos < s.pos + 1; omega, ⟨⟨by show 0 ≤ s.pos + 1; omega, by show s.pos + 1 ≤ text.size; omega⟩, ⟨by show 0 ≤ s.cnt + 1; omega, hc⟩, d0, d1⟩, rfl, by show s.cnt ≤ s.cnt + 1; omega, ?_, ?_⟩
  ·show Shp (s.cnt + 1 - s.cnt).toNat _
   rw [show (s.cnt + 1 - s.cnt).toNat = 0 + 1 by omega]
   exact .inl ⟨c1.elim .inl fun h => .inr (.inl h), rfl⟩
  ·unfold parQ
   rw [if_pos c1]
 rw [if_neg c1] at e
 by_cases c2 : 97 ≤ bch text s.pos ∧ bch text s.pos ≤ 100
 ·rw [if_pos c2] at e
  have hl := bch_lt (text := text) (p := s.pos) (by omega)
  obtain ⟨s1, z1, e⟩ := Option.bind_eq_some_iff.1 e
  obtain ⟨rfl, hc⟩ := bcnt_some z1
  cases e
  refine ⟨by show s.pos < s.pos + 1; omega, ⟨⟨by show 0 ≤ s.pos + 1; omega, by show s.pos + 1 ≤ text.size; omega⟩, ⟨by show 0 ≤ s.cnt + 1; omega, hc⟩, d0, d1⟩, rfl, by show s.cnt ≤ s.cnt + 1; omega, ?_, ?_⟩
  ·show Shp (s.cnt + 1 - s.cnt).toNat _
   rw [show (s.cnt + 1 - s.cnt).toNat = 0 + 1 by omega]
   exact .inl ⟨.inr (.inr rfl), rfl⟩
  ·unfold parQ
   rw [if_neg c1, if_pos c2]
 rw [if_neg c2] at e
 by_cases c3 : bch text s.pos = 33
 ·rw [if_pos c3] at e
  have hl := bch_lt (text := text) (p := s.pos) (by omega)
  obtain ⟨s1, z1, e⟩ := Option.bind_eq_some_iff.1 e
  obtain ⟨rfl, hc⟩ := bcnt_some z1
  obtain ⟨x, z2, e⟩ := Option.bind_eq_some_iff.1 e
  cases e
  obtain ⟨g1, g2, g3, g4, g5, g6⟩ := h0 _ x hz (show gB text ⟨s.pos + 1, s.deep, s.cnt + 1⟩ from ⟨⟨by show 0 ≤ s.pos + 1; omega, by show s.pos + 1 ≤ text.size; omega⟩, ⟨by show 0 ≤ s.cnt + 1; omega, hc⟩, d0, d1⟩) z2
  simp only at g1 g3 g4 g5
  refine ⟨by show s.pos < x.2.pos; omega, g2, g3, by show s.cnt ≤ x.2.cnt; omega, ?_, ?_⟩
  ·show Shp (x.2.cnt - s.cnt).toNat (bn 33 false 0 [x.1])
   rw [show (x.2.cnt - s.cnt).toNat = (x.2.cnt - (s.cnt + 1)).toNat + 1 by omega]
   exact .inr (.inl ⟨.inl rfl, x.1, rfl, g5⟩)
  ·unfold parQ
   rw [if_neg c1, if_neg c2, if_pos c3]
   exact ob g6
 rw [if_neg c3] at e
 by_cases c4 : bch text s.pos = 69 ∨ bch text s.pos = 65
 ·rw [if_pos c4] at e
  have hl := bch_lt (text := text) (p := s.pos) (by omega)
  obtain ⟨g1, g2, g3, g4, g5, g6⟩ := wayB_good h0 h3 _ hz hg' hl e
  refine ⟨g1, g2, g3, g4, g5, ?_⟩
  unfold parQ
  rw [if_neg c1, if_neg c2, if_neg c3, if_pos c4]
  exact g6
 rw [if_neg c4] at e
 by_cases c5 : bch text s.pos = 40
 ·rw [if_pos c5] at e
  have hl := bch_lt (text := text) (p := s.pos) (by omega)
  obtain ⟨s2, z2, e⟩ := Option.bind_eq_some_iff.1 e
  obtain ⟨rfl, hd⟩ := bopen_some z2
  obtain ⟨a, z3, e⟩ := Option.bind_eq_some_iff.1 e
  obtain ⟨g1, ⟨⟨q0, q1⟩, ⟨m0, m1⟩, f0, f1⟩, g3, g4, g5, g6⟩ := h3 _ a hz (show gB text ⟨s.pos + 1, s.deep + 1, s.cnt⟩ from ⟨⟨by show 0 ≤ s.pos + 1; omega, by show s.pos + 1 ≤ text.size; omega⟩, ⟨n0, n1⟩, by show 0 ≤ s.deep + 1; omega, by show s.deep + 1 ≤ 40; omega⟩) z3
  simp only at g1 g3 g4 g5
  obtain ⟨s4, z6, e⟩ := Option.bind_eq_some_iff.1 e
  obtain ⟨rfl, hs⟩ := bshut_some z6
  have hl3 := bch_lt (text := text) (p := a.2.pos) (by omega)
  cases e
  refine ⟨by show s.pos < a.2.pos + 1; omega, ⟨⟨by show 0 ≤ a.2.pos + 1; omega, by show a.2.pos + 1 ≤ text.size; omega⟩, ⟨m0, m1⟩, by show 0 ≤ a.2.deep - 1; omega, by show a.2.deep - 1 ≤ 40; omega⟩, by show a.2.deep - 1 = s.deep; omega, by show s.cnt ≤ a.2.cnt; omega, g5, ?_⟩
  unfold parQ
  rw [if_neg c1, if_neg c2, if_neg c3, if_neg c4, if_pos c5]
  refine (ob g6).trans ?_
  show (if bch text a.2.pos = 41 then _ else none) = _
  rw [if_pos hs]
 ·rw [if_neg c5] at e
  cases e
theorem lopBL_good {ch : Int} (hch : ch = 38 ∨ ch = 124) (h0 : GoodB text R0 T0) {s : BS} (hz : text.size ≤ 4000) (hg : gB text s) : ∀ (m m' : Nat) (t : BTr) (s1 : BS) (r : BTr × BS), text.size - s1.pos < m' → gB text s1 → s1.deep = s.deep → s.cnt ≤ s1.cnt → Shp (s1.cnt - s.cnt).toNat t → lopBL ch R0 text m t s1 = some r → s1.pos ≤ r.2.pos ∧ gB text r.2 ∧ r.2.deep = s.deep ∧ s.cnt ≤ r.2.cnt ∧ Shp (r.2.cnt - s.cnt).toNat r.1 ∧ lopQL ch T0 text m' t s1.pos = some (r.1, r.2.pos)
 | 0, _, _, _, _, _, _, _, _, _, e => by simp [lopBL] at e
 | m + 1, 0, _, s1, _, hm, h1, _, _, _, _ => by
  have := h1.1.2
  omega
 | m + 1, m' + 1, t, s1, r, hm, h1, hd, hn, ht, e => by
  rw [lopBL] at e
  rw [lopQL]
  by_cases hc : bch text s1.pos = ch
  ·rw [if_pos hc] at e
   rw [if_pos hc]
   have hl := bch_lt (text := text) (p := s1.pos) (by omega)
   obtain ⟨s2, z1, e⟩ := Option.bind_eq_some_iff.1 e
   obtain ⟨rfl, hc2⟩ := bcnt_some z1
   obtain ⟨x, z2, e⟩ := Option.bind_eq_some_iff.1 e
   obtain ⟨⟨p0, p1⟩, ⟨n0, n1⟩, d0, d1⟩ := h1
   obtain ⟨g1, g2, g3, g4, g5, g6⟩ := h0 _ x hz (show gB text ⟨s1.pos + 1, s1.deep, s1.cnt + 1⟩ from ⟨⟨by show 0 ≤ s1.pos + 1; omega, by show s1.pos + 1 ≤ text.size; omega⟩, ⟨by show 0 ≤ s1.cnt + 1; omega, hc2⟩, d0, d1⟩) z2
   simp only at g1 g3 g4 g5
   obtain ⟨k1, k2, k3, k4, k5, k6⟩ := lopBL_good hch h0 hz hg m m' _ x.2 r (by omega) g2 (by omega) (by omega) (by
    rw [show (x.2.cnt - s.cnt).toNat = (x.2.cnt - s.cnt - 1).toNat + 1 by omega]
    exact .inr (.inr ⟨hch.elim .inl fun h => .inr (.inl h), t, x.1, rfl, ht.mono (by omega), g5.mono (by omega)⟩)) e
   exact ⟨by omega, k2, k3, k4, k5, (ob g6).trans k6⟩
  ·rw [if_neg hc] at e
   rw [if_neg hc]
   cases e
   exact ⟨Int.le_refl _, h1, hd, hn, ht, rfl⟩
theorem lopB_good {ch : Int} (hch : ch = 38 ∨ ch = 124) (h0 : GoodB text R0 T0) : GoodB text (lopB ch R0 text) (lopQ ch T0 text) := fun s r hz hg e => by
 obtain ⟨x, z0, e⟩ := Option.bind_eq_some_iff.1 e
 obtain ⟨g1, g2, g3, g4, g5, g6⟩ := h0 s x hz hg z0
 have := hg.1.1
 obtain ⟨k1, k2, k3, k4, k5, k6⟩ := lopBL_good hch h0 hz hg (text.size + 1) (text.size + 1) x.1 x.2 r (by omega) g2 g3 g4 g5 e
 exact ⟨by omega, k2, k3, k4, k5, (ob g6).trans k6⟩
theorem pB_good : ∀ k kd, GoodB text (pB text k kd) (qB text k kd)
 | 0, _ => fun s r _ _ e => by simp [pB] at e
 | k + 1, 0 => parB_good (pB_good k 0) (pB_good k 2)
 | k + 1, 1 => lopB_good (.inl rfl) (pB_good k 0)
 | k + 1, 2 => lopB_good (.inr rfl) (pB_good k 1)
 | k + 1, n + 3 => lopB_good (.inr rfl) (pB_good k 1)
end
def bNow_vc (text : ByteArray) (pos : Int) (deep : Int) (cnt : Int) (Q : Int × Int × Int × Int → Prop) : Prop :=
 IfP (decide (pos < (text.size : Int))) (∃ b, byteAt text pos = some b ∧
 Q (b, pos, deep, cnt)) (Q (0, pos, deep, cnt))
noncomputable abbrev qbNow0 (text : ByteArray) (pos : Int) (deep : Int) (cnt : Int) := ([.box [.v (.string text), I pos, I deep, I cnt] 111 false] : List Item)
theorem bNow_walk (text : ByteArray) (pos : Int) (deep : Int) (cnt : Int) (Q : Int × Int × Int × Int → Prop) (h : bNow_vc text pos deep cnt Q) : CtE 96 [.sv (.one (.ptr 0 0))] [.box [.v (.string text), I pos, I deep, I cnt] 111 false] [0] Q (fun (r : Int × Int × Int × Int) => .sv (.one (.v (.int .u8 r.1)))) (fun (r : Int × Int × Int × Int) => [.box [.v (.string text), I r.2.1, I r.2.2.1, I r.2.2.2] 111 false]) := by
 have ht := tab_ok
 refine CtE.body Try.func96 rfl rfl rfl (by kernel_rfl) (by kernel_rfl) (fun c Bk hn => ?_)
 unfold bNow_vc at h
 show En c ⟨[sl 0 (.pptr 0 0 (Bk 0))], (qbNow0 text pos deep cnt)⟩ _
 refine En.sr ?_
 refine WL.rn ht hn 1 ⟨[sl 0 (.pptr 0 0 (Bk 0))], (qbNow0 text pos deep cnt)⟩ ?_
 refine En.seq ?_
 refine En.seq ?_
 refine En.regionS (by kernel_rfl) (by kernel_rfl) ?_
 refine SL.run ht hn 8 ⟨[sl 0 (.pptr 0 0 (Bk 0)), sl 3 (.ptr 0 0), sl 4 (.ptr 0 0), sl 5 (.ptr 0 1), sl 6 (I pos), sl 7 (.ptr 0 0), sl 8 (.ptr 0 0), sl 9 (.ptr 0 0), sl 10 (.v (.string text))], (qbNow0 text pos deep cnt)⟩ (by kernel_rfl) ?_
 refine SL.val hn (by rfl) (val_lenS (s := text) rfl Try.underlying9 (by rfl)) (by rfl) ?_
 refine SL.run ht hn 1 ⟨[sl 0 (.pptr 0 0 (Bk 0)), sl 3 (.ptr 0 0), sl 4 (.ptr 0 0), sl 5 (.ptr 0 1), sl 6 (I pos), sl 7 (.ptr 0 0), sl 8 (.ptr 0 0), sl 9 (.ptr 0 0), sl 10 (.v (.string text)), sl 11 (I (text.size : Int)), sl 12 (B (decide (pos < (text.size : Int))))], (qbNow0 text pos deep cnt)⟩ (by kernel_rfl) ?_
 refine SL.nil ⟨by kernel_rfl, ?_⟩
 refine En.cd (b := (decide (pos < (text.size : Int)))) (fun hb => ?_) (fun hb => ?_)
 replace h := h.1 hb
 refine En.seq ?_
 obtain ⟨b, hb_2, h⟩ := h
 refine En.regionA ⟨[sl 0 (.pptr 0 0 (Bk 0))], [.sv (.one (.ptr 0 0)), .sv (.one (.ptr 0 0)), .sv (.one (.ptr 0 0)), .sv (.one (.v (.string text))), .sv (.one (.ptr 0 0)), .sv (.one (.ptr 0 0)), .sv (.one (.ptr 0 1)), .sv (.one (I pos)), .sv (.one (.v (.int .u8 b))), .sv (.one (.v (.int .u8 b)))], [⟨.box [.v (.string text), I pos, I deep, I cnt] 111 false, none, none, none⟩]⟩ ⟨[sl 0 (.pptr 0 0 (Bk 0)), sl 2 (.v (.int .u8 b))], (qbNow0 text pos deep cnt)⟩ (by kernel_rfl) hn (by kernel_rfl) (by rfl) (by kernel_rfl) ?_ (by kernel_rfl) ?_
 exact ⟨.ev ⟨[sl 0 (.pptr 0 0 (Bk 0))], []⟩ ht,
 .ev ⟨[sl 13 (.ptr 0 0)], []⟩ ht,
 .ev ⟨[sl 14 (.ptr 0 0)], []⟩ ht,
 .ev ⟨[sl 15 (.ptr 0 0)], (qbNow0 text pos deep cnt)⟩ ht,
 .ev ⟨[sl 0 (.pptr 0 0 (Bk 0))], []⟩ ht,
 .ev ⟨[sl 17 (.ptr 0 0)], []⟩ ht,
 .ev ⟨[sl 18 (.ptr 0 0)], []⟩ ht,
 .ev ⟨[sl 19 (.ptr 0 1)], (qbNow0 text pos deep cnt)⟩ ht,
 .vl ⟨[sl 16 (.v (.string text)), sl 20 (I pos)], []⟩ (mt_val (val_indexS (s := text) (i := pos) rfl Try.underlying9 (by rfl) (by rfl) hb_2)),
 .ev ⟨[sl 21 (.v (.int .u8 b))], []⟩ ht,
 trivial⟩
 refine En.ret ?_
 exact En.backE [0] ht (b, pos, deep, cnt) h (by kernel_rfl) (by rfl) rfl
 replace h := h.2 hb
 refine En.skip ?_
 refine En.sr ?_
 refine WL.rn ht hn 1 ⟨[sl 0 (.pptr 0 0 (Bk 0)), sl 2 (.v (.int .u8 0))], (qbNow0 text pos deep cnt)⟩ ?_
 refine En.ret ?_
 exact En.backE [0] ht (0, pos, deep, cnt) h (by kernel_rfl) (by rfl) rfl
theorem en96 : ∀ args w, (callFunc 96 args).run Try.prog w = .ok (.enter 96 args) w := enters_of Try.func96 (by kernel_rfl) rfl
theorem bNow_ct (text : ByteArray) (pos : Int) (deep : Int) (cnt : Int) (hp : 0 ≤ pos)  : CtE 96 [.sv (.one (.ptr 0 0))] [.box [.v (.string text), I pos, I deep, I cnt] 111 false] [0] (fun (_ : Unit) => True) (fun _ => .sv (.one (.v (.int .u8 (bch text pos))))) (fun _ => [.box [.v (.string text), I (pos), I (deep), I (cnt)] 111 false]) := by
 refine (bNow_walk text pos deep cnt (fun res_ => res_ = (bch text pos, pos, deep, cnt)) ?_).imp (fun r hr => ⟨(), trivial, by subst hr; rfl, by subst hr; rfl⟩)
 unfold bNow_vc
 refine ⟨fun h => ⟨_, bAt_ok hp (of_decide_eq_true h), rfl⟩, fun h => ?_⟩
 rw [bch_end (by have := of_decide_eq_false h; omega)]
theorem en48 : ∀ args w, (callFunc 48 args).run Try.prog w = .ok (.enter 48 args) w := enters_of Try.func48 (by kernel_rfl) rfl
theorem bFail_ct (text : ByteArray) (pos deep cnt : Int) (code : Int) (hp : code ≠ 0) : CtX 48 [.sv (.one (.ptr 0 0)), .sv (.one (I code))] [.box [.v (.string text), I pos, I deep, I cnt] 111 false] (psStop 108) := by
 have ht := tab_ok
 refine CtP.toX (β := Unit) (pin := [0]) (out := fun _ => .tup []) (M1 := fun _ => []) (P := True) ?_
 refine CtP.body Try.func48 rfl rfl rfl (by kernel_rfl) (by kernel_rfl) (fun c Bk hn hpan => ?_)
 show En c ⟨[(0, .sv (.one (.pptr 0 0 (Bk 0)))), (1, .sv (.one (I code)))], [.box [.v (.string text), I pos, I deep, I cnt] 111 false]⟩ _
 refine En.region ?_
 refine WL.run ht hn 7 ⟨[(10, .sv (.agg [I code, I pos]))], [.box [.v (.string text), I pos, I deep, I cnt] 111 false]⟩ (by kernel_rfl) ?_
 exact WL.panicI (code := code) (at_ := pos) hn (by rfl) rfl rfl (by rfl) Try.underlying108 (by rfl) (by rfl) rfl rfl hp hpan trivial
theorem bOk_of {k kd : Nat} {text : ByteArray} {s : BS} (hz : text.size ≤ 4000) (hg : gB text s) (hk : 4 * ((text.size : Int) - s.pos) + (kd : Int) < (k : Int)) : bOk k kd text s := ⟨hz, hk, hg⟩
theorem cnt_g {text : ByteArray} {s s1 : BS} (hg : gB text s) (hl : s.pos < text.size) (h : bcnt s = some s1) : gB text s1 ∧ s1.pos = s.pos + 1 := by
 obtain ⟨rfl, hc⟩ := bcnt_some h
 obtain ⟨⟨p0, p1⟩, ⟨n0, n1⟩, d0, d1⟩ := hg
 exact ⟨⟨⟨by show 0 ≤ s.pos + 1; omega, by show s.pos + 1 ≤ text.size; omega⟩, ⟨by show 0 ≤ s.cnt + 1; omega, hc⟩, d0, d1⟩, rfl⟩
theorem open_g {text : ByteArray} {s s1 : BS} (hg : gB text s) (hl : s.pos < text.size) (h : bopen s = some s1) : gB text s1 ∧ s1.pos = s.pos + 1 := by
 obtain ⟨rfl, hc⟩ := bopen_some h
 obtain ⟨⟨p0, p1⟩, ⟨n0, n1⟩, d0, d1⟩ := hg
 exact ⟨⟨⟨by show 0 ≤ s.pos + 1; omega, by show s.pos + 1 ≤ text.size; omega⟩, ⟨n0, n1⟩, by show 0 ≤ s.deep + 1; omega, by show s.deep + 1 ≤ 40; omega⟩, rfl⟩
theorem want_g {c : Int} (hc : c ≠ 0) {text : ByteArray} {s s1 : BS} (hg : gB text s) (h : bwant c text s = some s1) : gB text s1 ∧ s1.pos = s.pos + 1 := by
 obtain ⟨rfl, hw⟩ := bwant_some h
 have hl := bch_lt (text := text) (p := s.pos) (by omega)
 obtain ⟨⟨p0, p1⟩, ⟨n0, n1⟩, d0, d1⟩ := hg
 exact ⟨⟨⟨by show 0 ≤ s.pos + 1; omega, by show s.pos + 1 ≤ text.size; omega⟩, ⟨n0, n1⟩, d0, d1⟩, rfl⟩
theorem let_in {c : Int} (h0 : 97 ≤ c) (h1 : c ≤ 100) : wr (IntKind.wrap .u8 (c - 97)) = c - 97 := by
 have : IntKind.wrap .u8 (c - 97) = c - 97 := by
  show (c - 97) % 256 = c - 97
  exact Int.emod_eq_of_lt (by omega) (by omega)
 rw [this, wr_in (by omega) (by omega)]
def bWnt_vc (text : ByteArray) (pos : Int) (deep : Int) (cnt : Int) (ch : Int) (Q : Int × Int × Int → Prop) (P : Prop) : Prop :=
 (0 ≤ pos) ∧
 IfP ((bch text pos) != ch) (((4 : Int) ≠ 0) ∧
 P) (Q ((wr ((pos) + 1)), (deep), (cnt)))
theorem bWnt_walk (text : ByteArray) (pos : Int) (deep : Int) (cnt : Int) (ch : Int) (Q : Int × Int × Int → Prop) (P : Prop) (h : bWnt_vc text pos deep cnt ch Q P) : CtP 157 [.sv (.one (.ptr 0 0)), .sv (.one (.v (.int .u8 ch)))] [.box [.v (.string text), I pos, I deep, I cnt] 111 false] [0] Q (fun (r : Int × Int × Int) => .tup []) (fun (r : Int × Int × Int) => [.box [.v (.string text), I r.1, I r.2.1, I r.2.2] 111 false]) (psStop 108) P := by
 have ht := tab_ok
 refine CtP.body Try.func157 rfl rfl rfl (by kernel_rfl) (by kernel_rfl) (fun c Bk hn hpan => ?_)
 unfold bWnt_vc at h
 show En c ⟨[sl 0 (.pptr 0 0 (Bk 0)), sl 1 (.v (.int .u8 ch))], [.box [.v (.string text), I pos, I deep, I cnt] 111 false]⟩ _
 refine En.seq ?_
 refine En.sr ?_
 refine WL.r ht hn 1 ⟨[sl 0 (.pptr 0 0 (Bk 0)), sl 1 (.v (.int .u8 ch)), sl 4 (.ptr 0 0)], [.box [.v (.string text), I pos, I deep, I cnt] 111 false]⟩ ?_
 obtain ⟨hp, h⟩ := h
 refine WL.cE (bNow_ct text pos deep cnt hp) en96 [0] hn rfl ?_
 refine WL.rn ht hn 2 ⟨[sl 0 (.pptr 0 0 (Bk 0)), sl 7 (B ((bch text pos) != ch))], [.box [.v (.string text), I pos, I deep, I cnt] 111 false]⟩ ?_
 refine En.cd (b := ((bch text pos) != ch)) (fun hb => ?_) (fun hb => ?_)
 replace h := h.1 hb
 refine En.region ?_
 refine WL.r ht hn 1 ⟨[sl 0 (.pptr 0 0 (Bk 0)), sl 8 (.ptr 0 0)], [.box [.v (.string text), I pos, I deep, I cnt] 111 false]⟩ ?_
 obtain ⟨hp, h⟩ := h
 exact WL.cX (bFail_ct text pos deep cnt 4 hp) en48 [0] rfl (leftX hpan h)
 replace h := h.2 hb
 refine En.skip ?_
 refine En.region ?_
 refine WL.rn ht hn 8 ⟨[sl 0 (.pptr 0 0 (Bk 0))], [.box [.v (.string text), I (wr (pos + 1)), I deep, I cnt] 111 false]⟩ ?_
 exact En.backE [0] ht ((wr (pos + 1)), deep, cnt) h (by kernel_rfl) (by rfl) rfl
theorem en157 : ∀ args w, (callFunc 157 args).run Try.prog w = .ok (.enter 157 args) w := enters_of Try.func157 (by kernel_rfl) rfl
theorem bWnt_all (text : ByteArray) (s : BS) (c : Int) (hp : gB text s ∧ text.size ≤ 4000 ∧ c ≠ 0) (Q : Int × Int × Int → Prop) (P : Prop) (h1 : bwant c text s = none → P) (h2 : ∀ r, bwant c text s = some r → Q (r.pos, r.deep, r.cnt)) : bWnt_vc text s.pos s.deep s.cnt c Q P := by
 obtain ⟨hg, hz, hc⟩ := hp
 unfold bWnt_vc
 refine ⟨hg.1.1, fun h => ⟨by decide, h1 (if_neg (bne_iff_ne.1 h))⟩, fun h => ?_⟩
 rw [bne_eq_false_iff_eq] at h
 have hl := bch_lt (text := text) (p := s.pos) (by omega)
 have := hg.1.1
 rw [wr_in (n := s.pos + 1) (by omega) (by omega)]
 exact h2 ⟨s.pos + 1, s.deep, s.cnt⟩ (if_pos h)
theorem bWnt_ok (text : ByteArray) (pos deep cnt : Int) (c : Int) (hp : gB text ⟨pos, deep, cnt⟩ ∧ text.size ≤ 4000 ∧ c ≠ 0) (r : BS) (hx : bwant c text ⟨pos, deep, cnt⟩ = some r) : CtE 157 [.sv (.one (.ptr 0 0)), .sv (.one (.v (.int .u8 c)))] [.box [.v (.string text), I pos, I deep, I cnt] 111 false] [0] (fun (_ : Unit) => True) (fun _ => .tup []) (fun _ => [.box [.v (.string text), I r.pos, I r.deep, I r.cnt] 111 false]) :=
 (bWnt_walk text pos deep cnt c (fun x => x = (r.pos, r.deep, r.cnt)) False (bWnt_all text ⟨pos, deep, cnt⟩ c hp _ _ (fun e => by rw [hx] at e; cases e) (fun y e => by rw [hx] at e; cases e; rfl))).toE fun x hx => ⟨(), trivial, by subst hx; rfl, by subst hx; rfl⟩
theorem bWnt_bad (text : ByteArray) (pos deep cnt : Int) (c : Int) (hp : gB text ⟨pos, deep, cnt⟩ ∧ text.size ≤ 4000 ∧ c ≠ 0) (hx : bwant c text ⟨pos, deep, cnt⟩ = none) : CtX 157 [.sv (.one (.ptr 0 0)), .sv (.one (.v (.int .u8 c)))] [.box [.v (.string text), I pos, I deep, I cnt] 111 false] (psStop 108) :=
 (bWnt_walk text pos deep cnt c (fun _ => False) True (bWnt_all text ⟨pos, deep, cnt⟩ c hp _ _ (fun _ => trivial) (fun y e => by rw [hx] at e; cases e))).toX
def bCnt_vc (text : ByteArray) (pos : Int) (deep : Int) (cnt : Int) (Q : Int × Int × Int → Prop) (P : Prop) : Prop :=
 IfP (decide ((wr (cnt + 1)) > 30)) (((7 : Int) ≠ 0) ∧
 P) (Q ((wr (pos + 1)), deep, (wr (cnt + 1))))
theorem bCnt_walk (text : ByteArray) (pos : Int) (deep : Int) (cnt : Int) (Q : Int × Int × Int → Prop) (P : Prop) (h : bCnt_vc text pos deep cnt Q P) : CtP 97 [.sv (.one (.ptr 0 0))] [.box [.v (.string text), I pos, I deep, I cnt] 111 false] [0] Q (fun (r : Int × Int × Int) => .tup []) (fun (r : Int × Int × Int) => [.box [.v (.string text), I r.1, I r.2.1, I r.2.2] 111 false]) (psStop 108) P := by
 have ht := tab_ok
 refine CtP.body Try.func97 rfl rfl rfl (by kernel_rfl) (by kernel_rfl) (fun c Bk hn hpan => ?_)
 unfold bCnt_vc at h
 show En c ⟨[sl 0 (.pptr 0 0 (Bk 0))], [.box [.v (.string text), I pos, I deep, I cnt] 111 false]⟩ _
 refine En.seq ?_
 refine En.sr ?_
 refine WL.rn ht hn 8 ⟨[sl 0 (.pptr 0 0 (Bk 0))], [.box [.v (.string text), I pos, I deep, I (wr (cnt + 1))] 111 false]⟩ ?_
 refine En.sr ?_
 refine WL.rn ht hn 5 ⟨[sl 0 (.pptr 0 0 (Bk 0)), sl 13 (B (decide ((wr (cnt + 1)) > 30)))], [.box [.v (.string text), I pos, I deep, I (wr (cnt + 1))] 111 false]⟩ ?_
 refine En.cd (b := (decide ((wr (cnt + 1)) > 30))) (fun hb => ?_) (fun hb => ?_)
 replace h := h.1 hb
 refine En.region ?_
 refine WL.r ht hn 1 ⟨[sl 0 (.pptr 0 0 (Bk 0)), sl 14 (.ptr 0 0)], [.box [.v (.string text), I pos, I deep, I (wr (cnt + 1))] 111 false]⟩ ?_
 obtain ⟨hp, h⟩ := h
 exact WL.cX (bFail_ct text pos deep (wr (cnt + 1)) 7 hp) en48 [0] rfl (leftX hpan h)
 replace h := h.2 hb
 refine En.skip ?_
 refine En.region ?_
 refine WL.rn ht hn 8 ⟨[sl 0 (.pptr 0 0 (Bk 0))], [.box [.v (.string text), I (wr (pos + 1)), I deep, I (wr (cnt + 1))] 111 false]⟩ ?_
 exact En.backE [0] ht ((wr (pos + 1)), deep, (wr (cnt + 1))) h (by kernel_rfl) (by rfl) rfl
theorem en97 : ∀ args w, (callFunc 97 args).run Try.prog w = .ok (.enter 97 args) w := enters_of Try.func97 (by kernel_rfl) rfl
theorem bCnt_all (text : ByteArray) (s : BS) (hp : gB text s ∧ text.size ≤ 4000 ∧ s.pos < text.size) (Q : Int × Int × Int → Prop) (P : Prop) (h1 : bcnt s = none → P) (h2 : ∀ r, bcnt s = some r → Q (r.pos, r.deep, r.cnt)) : bCnt_vc text s.pos s.deep s.cnt Q P := by
 obtain ⟨⟨⟨p0, p1⟩, ⟨n0, n1⟩, d0, d1⟩, hz, hl⟩ := hp
 unfold bCnt_vc
 rw [wr_in (n := s.pos + 1) (by omega) (by omega), wr_in (n := s.cnt + 1) (by omega) (by omega)]
 exact ⟨fun h => ⟨by decide, h1 (if_pos (of_decide_eq_true h))⟩, fun h => h2 _ (if_neg (of_decide_eq_false h))⟩
theorem bCnt_ok (text : ByteArray) (pos deep cnt : Int) (hp : gB text ⟨pos, deep, cnt⟩ ∧ text.size ≤ 4000 ∧ pos < text.size) (r : BS) (hx : bcnt ⟨pos, deep, cnt⟩ = some r) : CtE 97 [.sv (.one (.ptr 0 0))] [.box [.v (.string text), I pos, I deep, I cnt] 111 false] [0] (fun (_ : Unit) => True) (fun _ => .tup []) (fun _ => [.box [.v (.string text), I r.pos, I r.deep, I r.cnt] 111 false]) :=
 (bCnt_walk text pos deep cnt (fun x => x = (r.pos, r.deep, r.cnt)) False (bCnt_all text ⟨pos, deep, cnt⟩ hp _ _ (fun e => by rw [hx] at e; cases e) (fun y e => by rw [hx] at e; cases e; rfl))).toE fun x hx => ⟨(), trivial, by subst hx; rfl, by subst hx; rfl⟩
theorem bCnt_bad (text : ByteArray) (pos deep cnt : Int) (hp : gB text ⟨pos, deep, cnt⟩ ∧ text.size ≤ 4000 ∧ pos < text.size) (hx : bcnt ⟨pos, deep, cnt⟩ = none) : CtX 97 [.sv (.one (.ptr 0 0))] [.box [.v (.string text), I pos, I deep, I cnt] 111 false] (psStop 108) :=
 (bCnt_walk text pos deep cnt (fun _ => False) True (bCnt_all text ⟨pos, deep, cnt⟩ hp _ _ (fun _ => trivial) (fun y e => by rw [hx] at e; cases e))).toX
def bOpn_vc (text : ByteArray) (pos : Int) (deep : Int) (cnt : Int) (Q : Int × Int × Int → Prop) (P : Prop) : Prop :=
 IfP (deep == 40) (((7 : Int) ≠ 0) ∧
 P) (Q ((wr (pos + 1)), (wr (deep + 1)), cnt))
theorem bOpn_walk (text : ByteArray) (pos : Int) (deep : Int) (cnt : Int) (Q : Int × Int × Int → Prop) (P : Prop) (h : bOpn_vc text pos deep cnt Q P) : CtP 147 [.sv (.one (.ptr 0 0))] [.box [.v (.string text), I pos, I deep, I cnt] 111 false] [0] Q (fun (r : Int × Int × Int) => .tup []) (fun (r : Int × Int × Int) => [.box [.v (.string text), I r.1, I r.2.1, I r.2.2] 111 false]) (psStop 108) P := by
 have ht := tab_ok
 refine CtP.body Try.func147 rfl rfl rfl (by kernel_rfl) (by kernel_rfl) (fun c Bk hn hpan => ?_)
 unfold bOpn_vc at h
 show En c ⟨[sl 0 (.pptr 0 0 (Bk 0))], [.box [.v (.string text), I pos, I deep, I cnt] 111 false]⟩ _
 refine En.seq ?_
 refine En.sr ?_
 refine WL.rn ht hn 5 ⟨[sl 0 (.pptr 0 0 (Bk 0)), sl 6 (B (deep == 40))], [.box [.v (.string text), I pos, I deep, I cnt] 111 false]⟩ ?_
 refine En.cd (b := (deep == 40)) (fun hb => ?_) (fun hb => ?_)
 replace h := h.1 hb
 refine En.region ?_
 refine WL.r ht hn 1 ⟨[sl 0 (.pptr 0 0 (Bk 0)), sl 7 (.ptr 0 0)], [.box [.v (.string text), I pos, I deep, I cnt] 111 false]⟩ ?_
 obtain ⟨hp, h⟩ := h
 exact WL.cX (bFail_ct text pos deep cnt 7 hp) en48 [0] rfl (leftX hpan h)
 replace h := h.2 hb
 refine En.skip ?_
 refine En.sr ?_
 refine WL.rn ht hn 8 ⟨[sl 0 (.pptr 0 0 (Bk 0))], [.box [.v (.string text), I pos, I (wr (deep + 1)), I cnt] 111 false]⟩ ?_
 refine En.region ?_
 refine WL.rn ht hn 8 ⟨[sl 0 (.pptr 0 0 (Bk 0))], [.box [.v (.string text), I (wr (pos + 1)), I (wr (deep + 1)), I cnt] 111 false]⟩ ?_
 exact En.backE [0] ht ((wr (pos + 1)), (wr (deep + 1)), cnt) h (by kernel_rfl) (by rfl) rfl
theorem en147 : ∀ args w, (callFunc 147 args).run Try.prog w = .ok (.enter 147 args) w := enters_of Try.func147 (by kernel_rfl) rfl
theorem bOpn_all (text : ByteArray) (s : BS) (hp : gB text s ∧ text.size ≤ 4000 ∧ s.pos < text.size) (Q : Int × Int × Int → Prop) (P : Prop) (h1 : bopen s = none → P) (h2 : ∀ r, bopen s = some r → Q (r.pos, r.deep, r.cnt)) : bOpn_vc text s.pos s.deep s.cnt Q P := by
 obtain ⟨⟨⟨p0, p1⟩, ⟨n0, n1⟩, d0, d1⟩, hz, hl⟩ := hp
 unfold bOpn_vc
 rw [wr_in (n := s.pos + 1) (by omega) (by omega), wr_in (n := s.deep + 1) (by omega) (by omega)]
 exact ⟨fun h => ⟨by decide, h1 (if_pos (eq_of_beq h))⟩, fun h => h2 _ (if_neg (by simpa using h))⟩
theorem bOpn_ok (text : ByteArray) (pos deep cnt : Int) (hp : gB text ⟨pos, deep, cnt⟩ ∧ text.size ≤ 4000 ∧ pos < text.size) (r : BS) (hx : bopen ⟨pos, deep, cnt⟩ = some r) : CtE 147 [.sv (.one (.ptr 0 0))] [.box [.v (.string text), I pos, I deep, I cnt] 111 false] [0] (fun (_ : Unit) => True) (fun _ => .tup []) (fun _ => [.box [.v (.string text), I r.pos, I r.deep, I r.cnt] 111 false]) :=
 (bOpn_walk text pos deep cnt (fun x => x = (r.pos, r.deep, r.cnt)) False (bOpn_all text ⟨pos, deep, cnt⟩ hp _ _ (fun e => by rw [hx] at e; cases e) (fun y e => by rw [hx] at e; cases e; rfl))).toE fun x hx => ⟨(), trivial, by subst hx; rfl, by subst hx; rfl⟩
theorem bOpn_bad (text : ByteArray) (pos deep cnt : Int) (hp : gB text ⟨pos, deep, cnt⟩ ∧ text.size ≤ 4000 ∧ pos < text.size) (hx : bopen ⟨pos, deep, cnt⟩ = none) : CtX 147 [.sv (.one (.ptr 0 0))] [.box [.v (.string text), I pos, I deep, I cnt] 111 false] (psStop 108) :=
 (bOpn_walk text pos deep cnt (fun _ => False) True (bOpn_all text ⟨pos, deep, cnt⟩ hp _ _ (fun _ => trivial) (fun y e => by rw [hx] at e; cases e))).toX
def bSht_vc (text : ByteArray) (pos : Int) (deep : Int) (cnt : Int) (Q : Int × Int × Int → Prop) (P : Prop) : Prop :=
 (gB text ⟨pos, deep, cnt⟩ ∧ text.size ≤ 4000 ∧ (41 : Int) ≠ 0) ∧
 ((bwant 41 text ⟨pos, deep, cnt⟩) = none → P) ∧ ∀ r, (bwant 41 text ⟨pos, deep, cnt⟩) = some r →
 (Q ((r.pos), (wr ((r.deep) - 1)), (r.cnt)))
theorem bSht_walk (text : ByteArray) (pos : Int) (deep : Int) (cnt : Int) (Q : Int × Int × Int → Prop) (P : Prop) (h : bSht_vc text pos deep cnt Q P) : CtP 148 [.sv (.one (.ptr 0 0))] [.box [.v (.string text), I pos, I deep, I cnt] 111 false] [0] Q (fun (r : Int × Int × Int) => .tup []) (fun (r : Int × Int × Int) => [.box [.v (.string text), I r.1, I r.2.1, I r.2.2] 111 false]) (psStop 108) P := by
 have ht := tab_ok
 refine CtP.body Try.func148 rfl rfl rfl (by kernel_rfl) (by kernel_rfl) (fun c Bk hn hpan => ?_)
 unfold bSht_vc at h
 show En c ⟨[sl 0 (.pptr 0 0 (Bk 0))], [.box [.v (.string text), I pos, I deep, I cnt] 111 false]⟩ _
 refine En.sr ?_
 refine WL.r ht hn 1 ⟨[sl 0 (.pptr 0 0 (Bk 0)), sl 2 (.ptr 0 0)], [.box [.v (.string text), I pos, I deep, I cnt] 111 false]⟩ ?_
 obtain ⟨hp, h⟩ := h
 refine splitO (bwant 41 text ⟨pos, deep, cnt⟩) (fun hr_2 => ?_) (fun r hr_2 => ?_)
 exact WL.cX (bWnt_bad text pos deep cnt 41 hp hr_2) en157 [0] rfl (leftX hpan (h.1 hr_2))
 replace h := h.2 r hr_2
 refine WL.cE (bWnt_ok text pos deep cnt 41 hp r hr_2) en157 [0] hn rfl ?_
 refine WL.nil ?_
 refine En.region ?_
 refine WL.rn ht hn 8 ⟨[sl 0 (.pptr 0 0 (Bk 0))], [.box [.v (.string text), I r.pos, I (wr (r.deep - 1)), I r.cnt] 111 false]⟩ ?_
 exact En.backE [0] ht (r.pos, (wr (r.deep - 1)), r.cnt) h (by kernel_rfl) (by rfl) rfl
theorem en148 : ∀ args w, (callFunc 148 args).run Try.prog w = .ok (.enter 148 args) w := enters_of Try.func148 (by kernel_rfl) rfl
theorem bSht_all (text : ByteArray) (s : BS) (hp : gB text s ∧ text.size ≤ 4000) (Q : Int × Int × Int → Prop) (P : Prop) (h1 : bshut text s = none → P) (h2 : ∀ r, bshut text s = some r → Q (r.pos, r.deep, r.cnt)) : bSht_vc text s.pos s.deep s.cnt Q P := by
 obtain ⟨hg, hz⟩ := hp
 unfold bSht_vc
 refine ⟨⟨hg, hz, by decide⟩, fun z => h1 (ob_none z), fun s1 z1 => ?_⟩
 obtain ⟨g1, q1⟩ := want_g (by decide) hg z1
 obtain ⟨⟨p0, p1⟩, ⟨n0, n1⟩, d0, d1⟩ := g1
 rw [wr_in (n := s1.deep - 1) (by omega) (by omega)]
 exact h2 ⟨s1.pos, s1.deep - 1, s1.cnt⟩ (ob z1)
theorem bSht_ok (text : ByteArray) (pos deep cnt : Int) (hp : gB text ⟨pos, deep, cnt⟩ ∧ text.size ≤ 4000) (r : BS) (hx : bshut text ⟨pos, deep, cnt⟩ = some r) : CtE 148 [.sv (.one (.ptr 0 0))] [.box [.v (.string text), I pos, I deep, I cnt] 111 false] [0] (fun (_ : Unit) => True) (fun _ => .tup []) (fun _ => [.box [.v (.string text), I r.pos, I r.deep, I r.cnt] 111 false]) :=
 (bSht_walk text pos deep cnt (fun x => x = (r.pos, r.deep, r.cnt)) False (bSht_all text ⟨pos, deep, cnt⟩ hp _ _ (fun e => by rw [hx] at e; cases e) (fun y e => by rw [hx] at e; cases e; rfl))).toE fun x hx => ⟨(), trivial, by subst hx; rfl, by subst hx; rfl⟩
theorem bSht_bad (text : ByteArray) (pos deep cnt : Int) (hp : gB text ⟨pos, deep, cnt⟩ ∧ text.size ≤ 4000) (hx : bshut text ⟨pos, deep, cnt⟩ = none) : CtX 148 [.sv (.one (.ptr 0 0))] [.box [.v (.string text), I pos, I deep, I cnt] 111 false] (psStop 108) :=
 (bSht_walk text pos deep cnt (fun _ => False) True (bSht_all text ⟨pos, deep, cnt⟩ hp _ _ (fun _ => trivial) (fun y e => by rw [hx] at e; cases e))).toX
def TC (k : Nat) : Prop := ∀ (text : ByteArray) (pos deep cnt : Int), (bOk k 0 text ⟨pos, deep, cnt⟩ → (∀ r, pB text k 0 ⟨pos, deep, cnt⟩ = some r → CtE 134 [.sv (.one (.ptr 0 0))] [.box [.v (.string text), I pos, I deep, I cnt] 111 false] [0] (fun (_ : Unit) => True) (fun _ => .sv (.one (.rd (trR bLab r.1)))) (fun _ => [.box [.v (.string text), I r.2.pos, I r.2.deep, I r.2.cnt] 111 false])) ∧ (pB text k 0 ⟨pos, deep, cnt⟩ = none → CtX 134 [.sv (.one (.ptr 0 0))] [.box [.v (.string text), I pos, I deep, I cnt] 111 false] (psStop 108))) ∧ (bOk k 1 text ⟨pos, deep, cnt⟩ → (∀ r, pB text k 1 ⟨pos, deep, cnt⟩ = some r → CtE 95 [.sv (.one (.ptr 0 0))] [.box [.v (.string text), I pos, I deep, I cnt] 111 false] [0] (fun (_ : Unit) => True) (fun _ => .sv (.one (.rd (trR bLab r.1)))) (fun _ => [.box [.v (.string text), I r.2.pos, I r.2.deep, I r.2.cnt] 111 false])) ∧ (pB text k 1 ⟨pos, deep, cnt⟩ = none → CtX 95 [.sv (.one (.ptr 0 0))] [.box [.v (.string text), I pos, I deep, I cnt] 111 false] (psStop 108))) ∧ (bOk k 2 text ⟨pos, deep, cnt⟩ → (∀ r, pB text k 2 ⟨pos, deep, cnt⟩ = some r → CtE 47 [.sv (.one (.ptr 0 0))] [.box [.v (.string text), I pos, I deep, I cnt] 111 false] [0] (fun (_ : Unit) => True) (fun _ => .sv (.one (.rd (trR bLab r.1)))) (fun _ => [.box [.v (.string text), I r.2.pos, I r.2.deep, I r.2.cnt] 111 false])) ∧ (pB text k 2 ⟨pos, deep, cnt⟩ = none → CtX 47 [.sv (.one (.ptr 0 0))] [.box [.v (.string text), I pos, I deep, I cnt] 111 false] (psStop 108)))
theorem bI0_ok (k : Nat) (ih : TC k) (text : ByteArray) (pos deep cnt : Int) (hp : bOk k 0 text ⟨pos, deep, cnt⟩) (r : BTr × BS) (hx : pB text k 0 ⟨pos, deep, cnt⟩ = some r) : CtE 134 [.sv (.one (.ptr 0 0))] [.box [.v (.string text), I pos, I deep, I cnt] 111 false] [0] (fun (_ : Unit) => True) (fun _ => .sv (.one (.rd (trR bLab r.1)))) (fun _ => [.box [.v (.string text), I r.2.pos, I r.2.deep, I r.2.cnt] 111 false]) := ((ih text pos deep cnt).1 hp).1 r hx
theorem bI0_bad (k : Nat) (ih : TC k) (text : ByteArray) (pos deep cnt : Int) (hp : bOk k 0 text ⟨pos, deep, cnt⟩) (hx : pB text k 0 ⟨pos, deep, cnt⟩ = none) : CtX 134 [.sv (.one (.ptr 0 0))] [.box [.v (.string text), I pos, I deep, I cnt] 111 false] (psStop 108) := ((ih text pos deep cnt).1 hp).2 hx
theorem en134 : ∀ args w, (callFunc 134 args).run Try.prog w = .ok (.enter 134 args) w := enters_of Try.func134 (by kernel_rfl) rfl
theorem bI1_ok (k : Nat) (ih : TC k) (text : ByteArray) (pos deep cnt : Int) (hp : bOk k 1 text ⟨pos, deep, cnt⟩) (r : BTr × BS) (hx : pB text k 1 ⟨pos, deep, cnt⟩ = some r) : CtE 95 [.sv (.one (.ptr 0 0))] [.box [.v (.string text), I pos, I deep, I cnt] 111 false] [0] (fun (_ : Unit) => True) (fun _ => .sv (.one (.rd (trR bLab r.1)))) (fun _ => [.box [.v (.string text), I r.2.pos, I r.2.deep, I r.2.cnt] 111 false]) := ((ih text pos deep cnt).2.1 hp).1 r hx
theorem bI1_bad (k : Nat) (ih : TC k) (text : ByteArray) (pos deep cnt : Int) (hp : bOk k 1 text ⟨pos, deep, cnt⟩) (hx : pB text k 1 ⟨pos, deep, cnt⟩ = none) : CtX 95 [.sv (.one (.ptr 0 0))] [.box [.v (.string text), I pos, I deep, I cnt] 111 false] (psStop 108) := ((ih text pos deep cnt).2.1 hp).2 hx
theorem en95 : ∀ args w, (callFunc 95 args).run Try.prog w = .ok (.enter 95 args) w := enters_of Try.func95 (by kernel_rfl) rfl
theorem bI2_ok (k : Nat) (ih : TC k) (text : ByteArray) (pos deep cnt : Int) (hp : bOk k 2 text ⟨pos, deep, cnt⟩) (r : BTr × BS) (hx : pB text k 2 ⟨pos, deep, cnt⟩ = some r) : CtE 47 [.sv (.one (.ptr 0 0))] [.box [.v (.string text), I pos, I deep, I cnt] 111 false] [0] (fun (_ : Unit) => True) (fun _ => .sv (.one (.rd (trR bLab r.1)))) (fun _ => [.box [.v (.string text), I r.2.pos, I r.2.deep, I r.2.cnt] 111 false]) := ((ih text pos deep cnt).2.2 hp).1 r hx
theorem bI2_bad (k : Nat) (ih : TC k) (text : ByteArray) (pos deep cnt : Int) (hp : bOk k 2 text ⟨pos, deep, cnt⟩) (hx : pB text k 2 ⟨pos, deep, cnt⟩ = none) : CtX 47 [.sv (.one (.ptr 0 0))] [.box [.v (.string text), I pos, I deep, I cnt] 111 false] (psStop 108) := ((ih text pos deep cnt).2.2 hp).2 hx
theorem en47 : ∀ args w, (callFunc 47 args).run Try.prog w = .ok (.enter 47 args) w := enters_of Try.func47 (by kernel_rfl) rfl
def bWay_vc (k : Nat) (text : ByteArray) (pos : Int) (deep : Int) (cnt : Int) (all : Bool) (Q : (Tr BLab) × Int × Int × Int → Prop) (P : Prop) : Prop :=
 (gB text ⟨pos, deep, cnt⟩ ∧ text.size ≤ 4000 ∧ pos < text.size) ∧
 ((bcnt ⟨pos, deep, cnt⟩) = none → P) ∧ ∀ r, (bcnt ⟨pos, deep, cnt⟩) = some r →
 ((0 ≤ (r.pos)) ∧
 ∃ J : Bool → Prop, (IfP ((bch text (r.pos)) == 88) (J ((bch text (r.pos)) == 88)) (IfP ((bch text (r.pos)) == 70) (J ((bch text (r.pos)) == 70)) (J ((bch text (r.pos)) == 71)))) ∧
 (∀ (x13 : Bool), J x13 → IfP x13 ((bOk k 0 text ⟨(wr (((r.pos)) + 1)), ((r.deep)), ((r.cnt))⟩) ∧
 ((pB text k 0 ⟨(wr (((r.pos)) + 1)), ((r.deep)), ((r.cnt))⟩) = none → P) ∧ ∀ r_2, (pB text k 0 ⟨(wr (((r.pos)) + 1)), ((r.deep)), ((r.cnt))⟩) = some r_2 →
 (Q ((Tr.node (BLab.mk (bch text (r.pos)) all 0) ([(r_2.1)] : (List (Tr BLab)))), (r_2.2.pos), (r_2.2.deep), (r_2.2.cnt)))) (IfP ((bch text (r.pos)) == 40) ((gB text ⟨((r.pos)), ((r.deep)), ((r.cnt))⟩ ∧ text.size ≤ 4000 ∧ ((r.pos)) < text.size) ∧
 ((bopen ⟨((r.pos)), ((r.deep)), ((r.cnt))⟩) = none → P) ∧ ∀ r_3, (bopen ⟨((r.pos)), ((r.deep)), ((r.cnt))⟩) = some r_3 →
 ((bOk k 2 text ⟨(r_3.pos), (r_3.deep), (r_3.cnt)⟩) ∧
 ((pB text k 2 ⟨(r_3.pos), (r_3.deep), (r_3.cnt)⟩) = none → P) ∧ ∀ r_4, (pB text k 2 ⟨(r_3.pos), (r_3.deep), (r_3.cnt)⟩) = some r_4 →
 ((gB text ⟨(r_4.2.pos), (r_4.2.deep), (r_4.2.cnt)⟩ ∧ text.size ≤ 4000 ∧ (85 : Int) ≠ 0) ∧
 ((bwant 85 text ⟨(r_4.2.pos), (r_4.2.deep), (r_4.2.cnt)⟩) = none → P) ∧ ∀ r_5, (bwant 85 text ⟨(r_4.2.pos), (r_4.2.deep), (r_4.2.cnt)⟩) = some r_5 →
 ((bOk k 2 text ⟨(r_5.pos), (r_5.deep), (r_5.cnt)⟩) ∧
 ((pB text k 2 ⟨(r_5.pos), (r_5.deep), (r_5.cnt)⟩) = none → P) ∧ ∀ r_6, (pB text k 2 ⟨(r_5.pos), (r_5.deep), (r_5.cnt)⟩) = some r_6 →
 ((gB text ⟨(r_6.2.pos), (r_6.2.deep), (r_6.2.cnt)⟩ ∧ text.size ≤ 4000) ∧
 ((bshut text ⟨(r_6.2.pos), (r_6.2.deep), (r_6.2.cnt)⟩) = none → P) ∧ ∀ r_7, (bshut text ⟨(r_6.2.pos), (r_6.2.deep), (r_6.2.cnt)⟩) = some r_7 →
 (Q ((Tr.node (BLab.mk 85 all 0) ([(r_4.1), (r_6.1)] : (List (Tr BLab)))), (r_7.pos), (r_7.deep), (r_7.cnt)))))))) (((4 : Int) ≠ 0) ∧
 P))))
noncomputable abbrev qbWay0 (text : ByteArray) (y0 : Int) (y1 : Int) (y2 : Int) := ([.box [.v (.string text), I y0, I y1, I y2] 111 false] : List Item)
noncomputable abbrev qbWay1 (y0 : Nat → Nat) := sl 0 (.pptr 0 0 (y0 0))
noncomputable abbrev qbWay2 (text : ByteArray) (y0 : Int) := sl 5 (.v (.int .u8 (bch text y0)))
noncomputable abbrev qbWay3 := (List (Tr BLab))
noncomputable abbrev qbWay4 (text : ByteArray) (y0 : Int) := sl 12 (.v (.int .u8 (bch text y0)))
theorem bWay_walk (k : Nat) (text : ByteArray) (pos : Int) (deep : Int) (cnt : Int) (all : Bool) (ih : TC k) (Q : (Tr BLab) × Int × Int × Int → Prop) (P : Prop) (h : bWay_vc k text pos deep cnt all Q P) : CtP 146 [.sv (.one (.ptr 0 0)), .sv (.one (B all))] [.box [.v (.string text), I pos, I deep, I cnt] 111 false] [0] Q (fun (r : (Tr BLab) × Int × Int × Int) => .sv (.one (.rd (trR bLab r.1)))) (fun (r : (Tr BLab) × Int × Int × Int) => [.box [.v (.string text), I r.2.1, I r.2.2.1, I r.2.2.2] 111 false]) (psStop 108) P := by
 have ht := tab_ok
 refine CtP.body Try.func146 rfl rfl rfl (by kernel_rfl) (by kernel_rfl) (fun c Bk hn hpan => ?_)
 unfold bWay_vc at h
 show En c ⟨[(qbWay1 Bk), sl 1 (B all)], [.box [.v (.string text), I pos, I deep, I cnt] 111 false]⟩ _
 refine En.sr ?_
 refine WL.rn ht hn 1 ⟨[(qbWay1 Bk), sl 1 (B all)], [.box [.v (.string text), I pos, I deep, I cnt] 111 false]⟩ ?_
 refine En.sr ?_
 refine WL.r ht hn 1 ⟨[(qbWay1 Bk), sl 1 (B all), sl 8 (.ptr 0 0)], [.box [.v (.string text), I pos, I deep, I cnt] 111 false]⟩ ?_
 obtain ⟨hp, h⟩ := h
 refine splitO (bcnt ⟨pos, deep, cnt⟩) (fun hr_2 => ?_) (fun r hr_2 => ?_)
 exact WL.cX (bCnt_bad text pos deep cnt hp hr_2) en97 [0] rfl (leftX hpan (h.1 hr_2))
 replace h := h.2 r hr_2
 refine WL.cE (bCnt_ok text pos deep cnt hp r hr_2) en97 [0] hn rfl ?_
 refine WL.nil ?_
 refine En.seq ?_
 refine En.sr ?_
 refine WL.r ht hn 1 ⟨[(qbWay1 Bk), sl 1 (B all), sl 10 (.ptr 0 0)], (qbWay0 text r.pos r.deep r.cnt)⟩ ?_
 obtain ⟨hp, h⟩ := h
 refine WL.cE (bNow_ct text r.pos r.deep r.cnt hp) en96 [0] hn rfl ?_
 refine WL.rn ht hn 1 ⟨[(qbWay1 Bk), sl 1 (B all), (qbWay2 text r.pos)], (qbWay0 text r.pos r.deep r.cnt)⟩ ?_
 refine En.sr ?_
 refine WL.rn ht hn 1 ⟨[(qbWay1 Bk), sl 1 (B all), (qbWay2 text r.pos), (qbWay4 text r.pos)], (qbWay0 text r.pos r.deep r.cnt)⟩ ?_
 refine En.block ?_
 obtain ⟨J, h, hJ⟩ := h
 refine En.seqJ (σ := Bool) (fun zz => J zz) (fun zz => ⟨[(qbWay1 Bk), sl 1 (B all), (qbWay2 text r.pos), (qbWay4 text r.pos), sl 13 (B zz)], (qbWay0 text r.pos r.deep r.cnt)⟩) ?_ ?_
 refine En.sr ?_
 refine WL.rn ht hn 2 ⟨[(qbWay1 Bk), sl 1 (B all), (qbWay2 text r.pos), (qbWay4 text r.pos), sl 13 (B ((bch text r.pos) == 88))], (qbWay0 text r.pos r.deep r.cnt)⟩ ?_
 refine En.cd (b := ((bch text r.pos) == 88)) (fun hb => ?_) (fun hb => ?_)
 replace h := h.1 hb
 refine En.skip ?_
 exact En.at (I := fun zz => J zz) (T := fun zz => ⟨[(qbWay1 Bk), sl 1 (B all), (qbWay2 text r.pos), (qbWay4 text r.pos), sl 13 (B zz)], (qbWay0 text r.pos r.deep r.cnt)⟩) ((bch text r.pos) == 88) h (by kernel_rfl)
 replace h := h.2 hb
 refine En.sr ?_
 refine WL.rn ht hn 2 ⟨[(qbWay1 Bk), sl 1 (B all), (qbWay2 text r.pos), (qbWay4 text r.pos), sl 13 (B ((bch text r.pos) == 70))], (qbWay0 text r.pos r.deep r.cnt)⟩ ?_
 refine En.cd (b := ((bch text r.pos) == 70)) (fun hb => ?_) (fun hb => ?_)
 replace h := h.1 hb
 refine En.skip ?_
 exact En.at (I := fun zz => J zz) (T := fun zz => ⟨[(qbWay1 Bk), sl 1 (B all), (qbWay2 text r.pos), (qbWay4 text r.pos), sl 13 (B zz)], (qbWay0 text r.pos r.deep r.cnt)⟩) ((bch text r.pos) == 70) h (by kernel_rfl)
 replace h := h.2 hb
 refine En.region ?_
 refine WL.rn ht hn 2 ⟨[(qbWay1 Bk), sl 1 (B all), (qbWay2 text r.pos), (qbWay4 text r.pos), sl 13 (B ((bch text r.pos) == 71))], (qbWay0 text r.pos r.deep r.cnt)⟩ ?_
 exact En.at (I := fun zz => J zz) (T := fun zz => ⟨[(qbWay1 Bk), sl 1 (B all), (qbWay2 text r.pos), (qbWay4 text r.pos), sl 13 (B zz)], (qbWay0 text r.pos r.deep r.cnt)⟩) ((bch text r.pos) == 71) h (by kernel_rfl)
 intro x13 h
 replace h := hJ _ h
 show En c ⟨[(qbWay1 Bk), sl 1 (B all), (qbWay2 text r.pos), (qbWay4 text r.pos), sl 13 (B x13)], (qbWay0 text r.pos r.deep r.cnt)⟩ _
 refine En.cd (b := x13) (fun hb => ?_) (fun hb => ?_)
 replace h := h.1 hb
 refine En.sr ?_
 refine WL.rn ht hn 8 ⟨[(qbWay1 Bk), sl 1 (B all), (qbWay2 text r.pos)], [.box [.v (.string text), I (wr (r.pos + 1)), I r.deep, I r.cnt] 111 false]⟩ ?_
 refine En.sr ?_
 refine WL.r ht hn 3 ⟨[(qbWay1 Bk), sl 24 (.v (.int .u8 (bch text r.pos))), sl 25 (B all), sl 26 (.ptr 0 0)], [.box [.v (.string text), I (wr (r.pos + 1)), I r.deep, I r.cnt] 111 false]⟩ ?_
 obtain ⟨hp, h⟩ := h
 refine splitO (pB text k 0 ⟨(wr (r.pos + 1)), r.deep, r.cnt⟩) (fun hr_3 => ?_) (fun r_2 hr_3 => ?_)
 exact WL.cX (bI0_bad k ih text (wr (r.pos + 1)) r.deep r.cnt hp hr_3) en134 [0] rfl (leftX hpan (h.1 hr_3))
 replace h := h.2 r_2 hr_3
 refine WL.cE (bI0_ok k ih text (wr (r.pos + 1)) r.deep r.cnt hp r_2 hr_3) en134 [0] hn rfl ?_
 refine WL.mt0 (K := []) (p := some (1, rowI 63 (TT bLab) ([r_2.1] : (qbWay3)))) hn (by rfl) (mt_lit (T := (TT bLab)) ([r_2.1] : (qbWay3)) (mt_bsl 1 (r := cellsOf (TT bLab) ([r_2.1] : (qbWay3))) ht rfl (by rfl) (by rfl) (by rfl) (by kernel_rfl) (by rfl)) (fun _ h => by cases h) (fun _ => rfl) (fun _ => rfl) (by rfl) (Nat.le_of_ble_eq_true rfl)) (by rfl) (by rfl) (by rfl) ?_
 refine WL.rn ht hn 3 ⟨[(qbWay1 Bk), sl 4 (.ptr 2 0)], [.box [.v (.string text), I r_2.2.pos, I r_2.2.deep, I r_2.2.cnt] 111 false, rowI 63 (TT bLab) ([r_2.1] : (qbWay3)), .box [.v (.int .u8 (bch text r.pos)), B all, I 0, .own 1] 119 false]⟩ ?_
 refine En.ret ?_
 refine En.seal (T := (TT bLab)) (l := ([r_2.1] : (qbWay3))) (e := 63) 1 rfl ?_
 refine En.freeze [2] (by rfl) ?_
 refine En.ghost 4 (o1 (.rd (trR bLab (Tr.node (BLab.mk (bch text r.pos) all 0) ([r_2.1] : (qbWay3)))))) (by rfl) (tree_of (lab := bLab) (x := (BLab.mk (bch text r.pos) all 0)) (kids := ([r_2.1] : (qbWay3))) (i := 2) (by rfl) (by rfl) (by rfl)) ?_
 exact En.backE [0] ht ((Tr.node (BLab.mk (bch text r.pos) all 0) ([r_2.1] : (qbWay3))), r_2.2.pos, r_2.2.deep, r_2.2.cnt) h (by kernel_rfl) (by rfl) rfl
 replace h := h.2 hb
 refine En.sr ?_
 refine WL.rn ht hn 2 ⟨[(qbWay1 Bk), sl 1 (B all), sl 31 (B ((bch text r.pos) == 40))], (qbWay0 text r.pos r.deep r.cnt)⟩ ?_
 refine En.cd (b := ((bch text r.pos) == 40)) (fun hb => ?_) (fun hb => ?_)
 replace h := h.1 hb
 refine En.sr ?_
 refine WL.r ht hn 1 ⟨[(qbWay1 Bk), sl 1 (B all), sl 33 (.ptr 0 0)], (qbWay0 text r.pos r.deep r.cnt)⟩ ?_
 obtain ⟨hp, h⟩ := h
 refine splitO (bopen ⟨r.pos, r.deep, r.cnt⟩) (fun hr_4 => ?_) (fun r_3 hr_4 => ?_)
 exact WL.cX (bOpn_bad text r.pos r.deep r.cnt hp hr_4) en147 [0] rfl (leftX hpan (h.1 hr_4))
 replace h := h.2 r_3 hr_4
 refine WL.cE (bOpn_ok text r.pos r.deep r.cnt hp r_3 hr_4) en147 [0] hn rfl ?_
 refine WL.nil ?_
 refine En.sr ?_
 refine WL.r ht hn 1 ⟨[(qbWay1 Bk), sl 1 (B all), sl 35 (.ptr 0 0)], [.box [.v (.string text), I r_3.pos, I r_3.deep, I r_3.cnt] 111 false]⟩ ?_
 obtain ⟨hp, h⟩ := h
 refine splitO (pB text k 2 ⟨r_3.pos, r_3.deep, r_3.cnt⟩) (fun hr_5 => ?_) (fun r_4 hr_5 => ?_)
 exact WL.cX (bI2_bad k ih text r_3.pos r_3.deep r_3.cnt hp hr_5) en47 [0] rfl (leftX hpan (h.1 hr_5))
 replace h := h.2 r_4 hr_5
 refine WL.cE (bI2_ok k ih text r_3.pos r_3.deep r_3.cnt hp r_4 hr_5) en47 [0] hn rfl ?_
 refine WL.rn ht hn 1 ⟨[(qbWay1 Bk), sl 1 (B all), sl 6 (.rd (trR bLab r_4.1))], [.box [.v (.string text), I r_4.2.pos, I r_4.2.deep, I r_4.2.cnt] 111 false]⟩ ?_
 refine En.sr ?_
 refine WL.r ht hn 1 ⟨[(qbWay1 Bk), sl 1 (B all), sl 6 (.rd (trR bLab r_4.1)), sl 37 (.ptr 0 0)], [.box [.v (.string text), I r_4.2.pos, I r_4.2.deep, I r_4.2.cnt] 111 false]⟩ ?_
 obtain ⟨hp, h⟩ := h
 refine splitO (bwant 85 text ⟨r_4.2.pos, r_4.2.deep, r_4.2.cnt⟩) (fun hr_6 => ?_) (fun r_5 hr_6 => ?_)
 exact WL.cX (bWnt_bad text r_4.2.pos r_4.2.deep r_4.2.cnt 85 hp hr_6) en157 [0] rfl (leftX hpan (h.1 hr_6))
 replace h := h.2 r_5 hr_6
 refine WL.cE (bWnt_ok text r_4.2.pos r_4.2.deep r_4.2.cnt 85 hp r_5 hr_6) en157 [0] hn rfl ?_
 refine WL.nil ?_
 refine En.sr ?_
 refine WL.r ht hn 1 ⟨[(qbWay1 Bk), sl 1 (B all), sl 6 (.rd (trR bLab r_4.1)), sl 39 (.ptr 0 0)], [.box [.v (.string text), I r_5.pos, I r_5.deep, I r_5.cnt] 111 false]⟩ ?_
 obtain ⟨hp, h⟩ := h
 refine splitO (pB text k 2 ⟨r_5.pos, r_5.deep, r_5.cnt⟩) (fun hr_7 => ?_) (fun r_6 hr_7 => ?_)
 exact WL.cX (bI2_bad k ih text r_5.pos r_5.deep r_5.cnt hp hr_7) en47 [0] rfl (leftX hpan (h.1 hr_7))
 replace h := h.2 r_6 hr_7
 refine WL.cE (bI2_ok k ih text r_5.pos r_5.deep r_5.cnt hp r_6 hr_7) en47 [0] hn rfl ?_
 refine WL.rn ht hn 1 ⟨[(qbWay1 Bk), sl 1 (B all), sl 6 (.rd (trR bLab r_4.1)), sl 7 (.rd (trR bLab r_6.1))], [.box [.v (.string text), I r_6.2.pos, I r_6.2.deep, I r_6.2.cnt] 111 false]⟩ ?_
 refine En.sr ?_
 refine WL.r ht hn 1 ⟨[(qbWay1 Bk), sl 1 (B all), sl 6 (.rd (trR bLab r_4.1)), sl 7 (.rd (trR bLab r_6.1)), sl 41 (.ptr 0 0)], [.box [.v (.string text), I r_6.2.pos, I r_6.2.deep, I r_6.2.cnt] 111 false]⟩ ?_
 obtain ⟨hp, h⟩ := h
 refine splitO (bshut text ⟨r_6.2.pos, r_6.2.deep, r_6.2.cnt⟩) (fun hr_8 => ?_) (fun r_7 hr_8 => ?_)
 exact WL.cX (bSht_bad text r_6.2.pos r_6.2.deep r_6.2.cnt hp hr_8) en148 [0] rfl (leftX hpan (h.1 hr_8))
 replace h := h.2 r_7 hr_8
 refine WL.cE (bSht_ok text r_6.2.pos r_6.2.deep r_6.2.cnt hp r_7 hr_8) en148 [0] hn rfl ?_
 refine WL.nil ?_
 refine En.sr ?_
 refine WL.r ht hn 3 ⟨[(qbWay1 Bk), sl 43 (B all), sl 44 (.rd (trR bLab r_4.1)), sl 45 (.rd (trR bLab r_6.1))], [.box [.v (.string text), I r_7.pos, I r_7.deep, I r_7.cnt] 111 false]⟩ ?_
 refine WL.mt0 (K := []) (p := some (1, rowI 63 (TT bLab) ([r_4.1, r_6.1] : (qbWay3)))) hn (by rfl) (mt_lit (T := (TT bLab)) ([r_4.1, r_6.1] : (qbWay3)) (mt_bsl 1 (r := cellsOf (TT bLab) ([r_4.1, r_6.1] : (qbWay3))) ht rfl (by rfl) (by rfl) (by rfl) (by kernel_rfl) (by rfl)) (fun _ h => by cases h) (fun _ => rfl) (fun _ => rfl) (by rfl) (Nat.le_of_ble_eq_true rfl)) (by rfl) (by rfl) (by rfl) ?_
 refine WL.rn ht hn 3 ⟨[(qbWay1 Bk), sl 4 (.ptr 2 0)], [.box [.v (.string text), I r_7.pos, I r_7.deep, I r_7.cnt] 111 false, rowI 63 (TT bLab) ([r_4.1, r_6.1] : (qbWay3)), .box [.v (.int .u8 85), B all, I 0, .own 1] 119 false]⟩ ?_
 refine En.ret ?_
 refine En.seal (T := (TT bLab)) (l := ([r_4.1, r_6.1] : (qbWay3))) (e := 63) 1 rfl ?_
 refine En.freeze [2] (by rfl) ?_
 refine En.ghost 4 (o1 (.rd (trR bLab (Tr.node (BLab.mk 85 all 0) ([r_4.1, r_6.1] : (qbWay3)))))) (by rfl) (tree_of (lab := bLab) (x := (BLab.mk 85 all 0)) (kids := ([r_4.1, r_6.1] : (qbWay3))) (i := 2) (by rfl) (by rfl) (by rfl)) ?_
 exact En.backE [0] ht ((Tr.node (BLab.mk 85 all 0) ([r_4.1, r_6.1] : (qbWay3))), r_7.pos, r_7.deep, r_7.cnt) h (by kernel_rfl) (by rfl) rfl
 replace h := h.2 hb
 refine En.skip ?_
 refine En.sr ?_
 refine WL.r ht hn 1 ⟨[(qbWay1 Bk), sl 49 (.ptr 0 0)], (qbWay0 text r.pos r.deep r.cnt)⟩ ?_
 obtain ⟨hp, h⟩ := h
 exact WL.cX (bFail_ct text r.pos r.deep r.cnt 4 hp) en48 [0] rfl (leftX hpan h)
theorem en146 : ∀ args w, (callFunc 146 args).run Try.prog w = .ok (.enter 146 args) w := enters_of Try.func146 (by kernel_rfl) rfl
theorem bWay_all (k : Nat) (text : ByteArray) (s : BS) (all : Bool) (hp : bOk (k + 1) 0 text s ∧ s.pos < text.size) (Q : BTr × Int × Int × Int → Prop) (P : Prop) (h1 : wayB (pB text k 0) (pB text k 2) all text s = none → P) (h2 : ∀ r, wayB (pB text k 0) (pB text k 2) all text s = some r → Q (r.1, r.2.pos, r.2.deep, r.2.cnt)) : bWay_vc k text s.pos s.deep s.cnt all Q P := by
 obtain ⟨⟨hz, hk, hg⟩, hlt⟩ := hp
 unfold bWay_vc
 unfold wayB at h1 h2
 refine ⟨⟨hg, hz, hlt⟩, fun z => h1 (ob_none z), fun s1 z1 => ?_⟩
 obtain ⟨g1, q1⟩ := cnt_g hg hlt z1
 have k1 := fun e => h1 ((ob z1).trans e)
 have k2 := fun r e => h2 r ((ob z1).trans e)
 have w0 := g1.1.1
 refine ⟨w0, fun b => b = true ↔ (bch text s1.pos = 88 ∨ bch text s1.pos = 70 ∨ bch text s1.pos = 71), ⟨fun h => ⟨fun _ => .inl (eq_of_beq h), fun _ => h⟩, fun h => ⟨fun h' => ⟨fun _ => .inr (.inl (eq_of_beq h')), fun _ => h'⟩, fun h' => ⟨fun e => .inr (.inr (eq_of_beq e)), fun e => ?_⟩⟩⟩, fun x hx => ⟨fun hxt => ?_, fun hxf => ?_⟩⟩
 ·rcases e with e | e | e
  ·exact absurd h (by rw [e]; decide)
  ·exact absurd h' (by rw [e]; decide)
  ·rw [e]
   rfl
 ·have c := hx.1 hxt
  have hl := bch_lt (text := text) (p := s1.pos) (by omega)
  rw [wr_in (n := s1.pos + 1) (by omega) (by omega)]
  have g' : gB text ⟨s1.pos + 1, s1.deep, s1.cnt⟩ := ⟨⟨by show 0 ≤ s1.pos + 1; omega, by show s1.pos + 1 ≤ text.size; omega⟩, g1.2⟩
  exact ⟨bOk_of hz g' (by show 4 * ((text.size : Int) - (s1.pos + 1)) + _ < _; omega), fun z => k1 ((if_pos c).trans (ob_none z)), fun r z => k2 (bn (bch text s1.pos) all 0 [r.1], r.2) ((if_pos c).trans (ob z))⟩
 ·have c : ¬ (bch text s1.pos = 88 ∨ bch text s1.pos = 70 ∨ bch text s1.pos = 71) := fun e => by
   rw [hx.2 e] at hxf
   cases hxf
  refine ⟨fun h => ?_, fun h => ⟨by decide, k1 ((if_neg c).trans (if_neg (by simpa using h)))⟩⟩
  have c2 := eq_of_beq h
  have hl := bch_lt (text := text) (p := s1.pos) (by omega)
  refine ⟨⟨g1, hz, hl⟩, fun z => k1 ((if_neg c).trans ((if_pos c2).trans (ob_none z))), fun s2 z2 => ?_⟩
  obtain ⟨g2, q2⟩ := open_g g1 hl z2
  have q2 : s2.pos = s1.pos + 1 := q2
  have k3 := fun e => k1 ((if_neg c).trans ((if_pos c2).trans ((ob z2).trans e)))
  have k4 := fun r e => k2 r ((if_neg c).trans ((if_pos c2).trans ((ob z2).trans e)))
  refine ⟨bOk_of hz g2 (by show 4 * ((text.size : Int) - s2.pos) + _ < _; omega), fun z => k3 (ob_none z), fun a za => ?_⟩
  have G := pB_good k 2 s2 a hz g2 za
  have hG := G.pos
  refine ⟨⟨G.ok, hz, by decide⟩, fun z => k3 ((ob za).trans (ob_none z)), fun s3 z3 => ?_⟩
  obtain ⟨g3, q3⟩ := want_g (by decide) G.ok z3
  have q3 : s3.pos = a.2.pos + 1 := q3
  refine ⟨bOk_of hz g3 (by show 4 * ((text.size : Int) - s3.pos) + _ < _; omega), fun z => k3 ((ob za).trans ((ob z3).trans (ob_none z))), fun b zb => ?_⟩
  have G2 := pB_good k 2 s3 b hz g3 zb
  exact ⟨⟨G2.ok, hz⟩, fun z => k3 ((ob za).trans ((ob z3).trans ((ob zb).trans (ob_none z)))), fun s4 z4 => k4 (bn 85 all 0 [a.1, b.1], s4) ((ob za).trans ((ob z3).trans ((ob zb).trans (ob z4))))⟩
theorem bWay_ok (k : Nat) (ih : TC k) (text : ByteArray) (pos deep cnt : Int) (all : Bool) (hp : bOk (k + 1) 0 text ⟨pos, deep, cnt⟩ ∧ pos < text.size) (r : (BTr × BS)) (hx : wayB (pB text k 0) (pB text k 2) all text ⟨pos, deep, cnt⟩ = some r) : CtE 146 [.sv (.one (.ptr 0 0)), .sv (.one (B all))] [.box [.v (.string text), I pos, I deep, I cnt] 111 false] [0] (fun (_ : Unit) => True) (fun _ => .sv (.one (.rd (trR bLab r.1)))) (fun _ => [.box [.v (.string text), I r.2.pos, I r.2.deep, I r.2.cnt] 111 false]) :=
 (bWay_walk k text pos deep cnt all ih (fun x => x = (r.1, r.2.pos, r.2.deep, r.2.cnt)) False (bWay_all k text ⟨pos, deep, cnt⟩ all hp _ _ (fun e => by rw [hx] at e; cases e) (fun y e => by rw [hx] at e; cases e; rfl))).toE fun x hx => ⟨(), trivial, by subst hx; rfl, by subst hx; rfl⟩
theorem bWay_bad (k : Nat) (ih : TC k) (text : ByteArray) (pos deep cnt : Int) (all : Bool) (hp : bOk (k + 1) 0 text ⟨pos, deep, cnt⟩ ∧ pos < text.size) (hx : wayB (pB text k 0) (pB text k 2) all text ⟨pos, deep, cnt⟩ = none) : CtX 146 [.sv (.one (.ptr 0 0)), .sv (.one (B all))] [.box [.v (.string text), I pos, I deep, I cnt] 111 false] (psStop 108) :=
 (bWay_walk k text pos deep cnt all ih (fun _ => False) True (bWay_all k text ⟨pos, deep, cnt⟩ all hp _ _ (fun _ => trivial) (fun y e => by rw [hx] at e; cases e))).toX
def bPar_vc (k : Nat) (text : ByteArray) (pos : Int) (deep : Int) (cnt : Int) (Q : (Tr BLab) × Int × Int × Int → Prop) (P : Prop) : Prop :=
 (0 ≤ pos) ∧
 IfP (((bch text pos) == 48) || ((bch text pos) == 49)) ((gB text ⟨(pos), (deep), (cnt)⟩ ∧ text.size ≤ 4000 ∧ (pos) < text.size) ∧
 ((bcnt ⟨(pos), (deep), (cnt)⟩) = none → P) ∧ ∀ r, (bcnt ⟨(pos), (deep), (cnt)⟩) = some r →
 (Q ((Tr.node (BLab.mk (bch text pos) false 0) []), (r.pos), (r.deep), (r.cnt)))) (IfP ((decide ((bch text pos) ≥ 97)) && (decide ((bch text pos) ≤ 100))) ((gB text ⟨(pos), (deep), (cnt)⟩ ∧ text.size ≤ 4000 ∧ (pos) < text.size) ∧
 ((bcnt ⟨(pos), (deep), (cnt)⟩) = none → P) ∧ ∀ r_2, (bcnt ⟨(pos), (deep), (cnt)⟩) = some r_2 →
 (Q ((Tr.node (BLab.mk 97 false (wr (IntKind.wrap .u8 ((bch text pos) - 97)))) []), (r_2.pos), (r_2.deep), (r_2.cnt)))) (IfP ((bch text pos) == 33) ((gB text ⟨(pos), (deep), (cnt)⟩ ∧ text.size ≤ 4000 ∧ (pos) < text.size) ∧
 ((bcnt ⟨(pos), (deep), (cnt)⟩) = none → P) ∧ ∀ r_3, (bcnt ⟨(pos), (deep), (cnt)⟩) = some r_3 →
 ((bOk k 0 text ⟨(r_3.pos), (r_3.deep), (r_3.cnt)⟩) ∧
 ((pB text k 0 ⟨(r_3.pos), (r_3.deep), (r_3.cnt)⟩) = none → P) ∧ ∀ r_4, (pB text k 0 ⟨(r_3.pos), (r_3.deep), (r_3.cnt)⟩) = some r_4 →
 (Q ((Tr.node (BLab.mk 33 false 0) ([(r_4.1)] : (List (Tr BLab)))), (r_4.2.pos), (r_4.2.deep), (r_4.2.cnt))))) (IfP (((bch text pos) == 69) || ((bch text pos) == 65)) ((bOk (k + 1) 0 text ⟨(pos), (deep), (cnt)⟩ ∧ (pos) < text.size) ∧
 ((wayB (pB text k 0) (pB text k 2) ((bch text pos) == 65) text ⟨(pos), (deep), (cnt)⟩) = none → P) ∧ ∀ r_5, (wayB (pB text k 0) (pB text k 2) ((bch text pos) == 65) text ⟨(pos), (deep), (cnt)⟩) = some r_5 →
 (Q ((r_5.1), (r_5.2.pos), (r_5.2.deep), (r_5.2.cnt)))) (IfP ((bch text pos) != 40) (((4 : Int) ≠ 0) ∧
 P) ((gB text ⟨(pos), (deep), (cnt)⟩ ∧ text.size ≤ 4000 ∧ (pos) < text.size) ∧
 ((bopen ⟨(pos), (deep), (cnt)⟩) = none → P) ∧ ∀ r_6, (bopen ⟨(pos), (deep), (cnt)⟩) = some r_6 →
 ((bOk k 2 text ⟨(r_6.pos), (r_6.deep), (r_6.cnt)⟩) ∧
 ((pB text k 2 ⟨(r_6.pos), (r_6.deep), (r_6.cnt)⟩) = none → P) ∧ ∀ r_7, (pB text k 2 ⟨(r_6.pos), (r_6.deep), (r_6.cnt)⟩) = some r_7 →
 ((gB text ⟨(r_7.2.pos), (r_7.2.deep), (r_7.2.cnt)⟩ ∧ text.size ≤ 4000) ∧
 ((bshut text ⟨(r_7.2.pos), (r_7.2.deep), (r_7.2.cnt)⟩) = none → P) ∧ ∀ r_8, (bshut text ⟨(r_7.2.pos), (r_7.2.deep), (r_7.2.cnt)⟩) = some r_8 →
 (Q ((r_7.1), (r_8.pos), (r_8.deep), (r_8.cnt))))))))))
noncomputable abbrev qbPar0 (text : ByteArray) (pos : Int) (deep : Int) (cnt : Int) := ([.box [.v (.string text), I pos, I deep, I cnt] 111 false] : List Item)
noncomputable abbrev qbPar1 (y0 : Nat → Nat) := sl 0 (.pptr 0 0 (y0 0))
noncomputable abbrev qbPar2 (text : ByteArray) (pos : Int) := sl 3 (.v (.int .u8 (bch text pos)))
set_option maxHeartbeats 2000000 in
theorem bPar_walk (k : Nat) (text : ByteArray) (pos : Int) (deep : Int) (cnt : Int) (ih : TC k) (Q : (Tr BLab) × Int × Int × Int → Prop) (P : Prop) (h : bPar_vc k text pos deep cnt Q P) : CtP 134 [.sv (.one (.ptr 0 0))] [.box [.v (.string text), I pos, I deep, I cnt] 111 false] [0] Q (fun (r : (Tr BLab) × Int × Int × Int) => .sv (.one (.rd (trR bLab r.1)))) (fun (r : (Tr BLab) × Int × Int × Int) => [.box [.v (.string text), I r.2.1, I r.2.2.1, I r.2.2.2] 111 false]) (psStop 108) P := by
 have ht := tab_ok
 refine CtP.body Try.func134 rfl rfl rfl (by kernel_rfl) (by kernel_rfl) (fun c Bk hn hpan => ?_)
 unfold bPar_vc at h
 show En c ⟨[(qbPar1 Bk)], (qbPar0 text pos deep cnt)⟩ _
 refine En.sr ?_
 refine WL.rn ht hn 1 ⟨[(qbPar1 Bk)], (qbPar0 text pos deep cnt)⟩ ?_
 refine En.seq ?_
 refine En.sr ?_
 refine WL.r ht hn 1 ⟨[(qbPar1 Bk), sl 5 (.ptr 0 0)], (qbPar0 text pos deep cnt)⟩ ?_
 obtain ⟨hp, h⟩ := h
 refine WL.cE (bNow_ct text pos deep cnt hp) en96 [0] hn rfl ?_
 refine WL.rn ht hn 1 ⟨[(qbPar1 Bk), (qbPar2 text pos)], (qbPar0 text pos deep cnt)⟩ ?_
 refine En.block ?_
 refine En.sr ?_
 refine WL.r ht hn 3 ⟨[(qbPar1 Bk), (qbPar2 text pos), sl 10 (B ((bch text pos) == 48))], (qbPar0 text pos deep cnt)⟩ ?_
 refine WL.thru ⟨[(qbPar1 Bk), (qbPar2 text pos), sl 7 (B (((bch text pos) == 48) || ((bch text pos) == 49)))], (qbPar0 text pos deep cnt)⟩ ?_ ?_
 refine splitB ((bch text pos) == 48) (fun hb0 => ?_) (fun hb0 => ?_)
 refine WL.sB 10 hb0 ?_
 refine WL.r ht hn 4 ⟨[(qbPar1 Bk), (qbPar2 text pos), sl 7 (B true)], (qbPar0 text pos deep cnt)⟩ ?_
 exact WL.nil (sub_ok (by simp only [hb0]; kernel_rfl))
 refine WL.sB 10 hb0 ?_
 refine WL.r ht hn 4 ⟨[(qbPar1 Bk), (qbPar2 text pos), sl 7 (B ((bch text pos) == 49))], (qbPar0 text pos deep cnt)⟩ ?_
 exact WL.nil (sub_ok (by simp only [hb0]; kernel_rfl))
 refine En.cd (b := (((bch text pos) == 48) || ((bch text pos) == 49))) (fun hb => ?_) (fun hb => ?_)
 replace h := h.1 hb
 refine En.sr ?_
 refine WL.r ht hn 1 ⟨[(qbPar1 Bk), (qbPar2 text pos), sl 14 (.ptr 0 0)], (qbPar0 text pos deep cnt)⟩ ?_
 obtain ⟨hp, h⟩ := h
 refine splitO (bcnt ⟨pos, deep, cnt⟩) (fun hr_2 => ?_) (fun r hr_2 => ?_)
 exact WL.cX (bCnt_bad text pos deep cnt hp hr_2) en97 [0] rfl (leftX hpan (h.1 hr_2))
 replace h := h.2 r hr_2
 refine WL.cE (bCnt_ok text pos deep cnt hp r hr_2) en97 [0] hn rfl ?_
 refine WL.nil ?_
 refine En.sr ?_
 refine WL.rn ht hn 4 ⟨[(qbPar1 Bk), sl 2 (.ptr 1 0)], [.box [.v (.string text), I r.pos, I r.deep, I r.cnt] 111 false, .box [.v (.int .u8 (bch text pos)), B false, I 0, .v (.slice none 0 0)] 119 false]⟩ ?_
 refine En.ret ?_
 refine En.nilBox (T := (TT bLab)) 1 3 (by rfl) (by rfl) ?_
 refine En.freeze [1] (by rfl) ?_
 refine En.ghost 2 (o1 (.rd (trR bLab (Tr.node (BLab.mk (bch text pos) false 0) [])))) (by rfl) (tree_of (lab := bLab) (x := (BLab.mk (bch text pos) false 0)) (kids := []) (i := 1) (by rfl) (by rfl) (by rfl)) ?_
 exact En.backE [0] ht ((Tr.node (BLab.mk (bch text pos) false 0) []), r.pos, r.deep, r.cnt) h (by kernel_rfl) (by rfl) rfl
 replace h := h.2 hb
 refine En.sr ?_
 refine WL.r ht hn 3 ⟨[(qbPar1 Bk), (qbPar2 text pos), sl 22 (B (decide ((bch text pos) ≥ 97)))], (qbPar0 text pos deep cnt)⟩ ?_
 refine WL.thru ⟨[(qbPar1 Bk), (qbPar2 text pos), sl 19 (B ((decide ((bch text pos) ≥ 97)) && (decide ((bch text pos) ≤ 100))))], (qbPar0 text pos deep cnt)⟩ ?_ ?_
 refine splitB (decide ((bch text pos) ≥ 97)) (fun hb0 => ?_) (fun hb0 => ?_)
 refine WL.sB 22 hb0 ?_
 refine WL.r ht hn 4 ⟨[(qbPar1 Bk), (qbPar2 text pos), sl 19 (B (decide ((bch text pos) ≤ 100)))], (qbPar0 text pos deep cnt)⟩ ?_
 exact WL.nil (sub_ok (by simp only [hb0]; kernel_rfl))
 refine WL.sB 22 hb0 ?_
 refine WL.r ht hn 4 ⟨[(qbPar1 Bk), (qbPar2 text pos), sl 19 (B false)], (qbPar0 text pos deep cnt)⟩ ?_
 exact WL.nil (sub_ok (by simp only [hb0]; kernel_rfl))
 refine En.cd (b := ((decide ((bch text pos) ≥ 97)) && (decide ((bch text pos) ≤ 100)))) (fun hb => ?_) (fun hb => ?_)
 replace h := h.1 hb
 refine En.sr ?_
 refine WL.r ht hn 1 ⟨[(qbPar1 Bk), (qbPar2 text pos), sl 26 (.ptr 0 0)], (qbPar0 text pos deep cnt)⟩ ?_
 obtain ⟨hp, h⟩ := h
 refine splitO (bcnt ⟨pos, deep, cnt⟩) (fun hr_3 => ?_) (fun r_2 hr_3 => ?_)
 exact WL.cX (bCnt_bad text pos deep cnt hp hr_3) en97 [0] rfl (leftX hpan (h.1 hr_3))
 replace h := h.2 r_2 hr_3
 refine WL.cE (bCnt_ok text pos deep cnt hp r_2 hr_3) en97 [0] hn rfl ?_
 refine WL.nil ?_
 refine En.sr ?_
 refine WL.rn ht hn 6 ⟨[(qbPar1 Bk), sl 2 (.ptr 1 0)], [.box [.v (.string text), I r_2.pos, I r_2.deep, I r_2.cnt] 111 false, .box [.v (.int .u8 97), B false, I (wr (IntKind.wrap .u8 ((bch text pos) - 97))), .v (.slice none 0 0)] 119 false]⟩ ?_
 refine En.ret ?_
 refine En.nilBox (T := (TT bLab)) 1 3 (by rfl) (by rfl) ?_
 refine En.freeze [1] (by rfl) ?_
 refine En.ghost 2 (o1 (.rd (trR bLab (Tr.node (BLab.mk 97 false (wr (IntKind.wrap .u8 ((bch text pos) - 97)))) [])))) (by rfl) (tree_of (lab := bLab) (x := (BLab.mk 97 false (wr (IntKind.wrap .u8 ((bch text pos) - 97))))) (kids := []) (i := 1) (by rfl) (by rfl) (by rfl)) ?_
 exact En.backE [0] ht ((Tr.node (BLab.mk 97 false (wr (IntKind.wrap .u8 ((bch text pos) - 97)))) []), r_2.pos, r_2.deep, r_2.cnt) h (by kernel_rfl) (by rfl) rfl
 replace h := h.2 hb
 refine En.sr ?_
 refine WL.rn ht hn 3 ⟨[(qbPar1 Bk), (qbPar2 text pos), sl 33 (B ((bch text pos) == 33))], (qbPar0 text pos deep cnt)⟩ ?_
 refine En.cd (b := ((bch text pos) == 33)) (fun hb => ?_) (fun hb => ?_)
 replace h := h.1 hb
 refine En.sr ?_
 refine WL.r ht hn 1 ⟨[(qbPar1 Bk), sl 36 (.ptr 0 0)], (qbPar0 text pos deep cnt)⟩ ?_
 obtain ⟨hp, h⟩ := h
 refine splitO (bcnt ⟨pos, deep, cnt⟩) (fun hr_4 => ?_) (fun r_3 hr_4 => ?_)
 exact WL.cX (bCnt_bad text pos deep cnt hp hr_4) en97 [0] rfl (leftX hpan (h.1 hr_4))
 replace h := h.2 r_3 hr_4
 refine WL.cE (bCnt_ok text pos deep cnt hp r_3 hr_4) en97 [0] hn rfl ?_
 refine WL.nil ?_
 refine En.sr ?_
 refine WL.r ht hn 1 ⟨[(qbPar1 Bk), sl 38 (.ptr 0 0)], [.box [.v (.string text), I r_3.pos, I r_3.deep, I r_3.cnt] 111 false]⟩ ?_
 obtain ⟨hp, h⟩ := h
 refine splitO (pB text k 0 ⟨r_3.pos, r_3.deep, r_3.cnt⟩) (fun hr_5 => ?_) (fun r_4 hr_5 => ?_)
 exact WL.cX (bI0_bad k ih text r_3.pos r_3.deep r_3.cnt hp hr_5) en134 [0] rfl (leftX hpan (h.1 hr_5))
 replace h := h.2 r_4 hr_5
 refine WL.cE (bI0_ok k ih text r_3.pos r_3.deep r_3.cnt hp r_4 hr_5) en134 [0] hn rfl ?_
 refine WL.mt0 (K := []) (p := some (1, rowI 63 (TT bLab) ([r_4.1] : (List (Tr BLab))))) hn (by rfl) (mt_lit (T := (TT bLab)) ([r_4.1] : (List (Tr BLab))) (mt_bsl 1 (r := cellsOf (TT bLab) ([r_4.1] : (List (Tr BLab)))) ht rfl (by rfl) (by rfl) (by rfl) (by kernel_rfl) (by rfl)) (fun _ h => by cases h) (fun _ => rfl) (fun _ => rfl) (by rfl) (Nat.le_of_ble_eq_true rfl)) (by rfl) (by rfl) (by rfl) ?_
 refine WL.rn ht hn 3 ⟨[(qbPar1 Bk), sl 2 (.ptr 2 0)], [.box [.v (.string text), I r_4.2.pos, I r_4.2.deep, I r_4.2.cnt] 111 false, rowI 63 (TT bLab) ([r_4.1] : (List (Tr BLab))), .box [.v (.int .u8 33), B false, I 0, .own 1] 119 false]⟩ ?_
 refine En.ret ?_
 refine En.seal (T := (TT bLab)) (l := ([r_4.1] : (List (Tr BLab)))) (e := 63) 1 rfl ?_
 refine En.freeze [2] (by rfl) ?_
 refine En.ghost 2 (o1 (.rd (trR bLab (Tr.node (BLab.mk 33 false 0) ([r_4.1] : (List (Tr BLab))))))) (by rfl) (tree_of (lab := bLab) (x := (BLab.mk 33 false 0)) (kids := ([r_4.1] : (List (Tr BLab)))) (i := 2) (by rfl) (by rfl) (by rfl)) ?_
 exact En.backE [0] ht ((Tr.node (BLab.mk 33 false 0) ([r_4.1] : (List (Tr BLab)))), r_4.2.pos, r_4.2.deep, r_4.2.cnt) h (by kernel_rfl) (by rfl) rfl
 replace h := h.2 hb
 refine En.sr ?_
 refine WL.r ht hn 3 ⟨[(qbPar1 Bk), (qbPar2 text pos), sl 46 (B ((bch text pos) == 69))], (qbPar0 text pos deep cnt)⟩ ?_
 refine WL.thru ⟨[(qbPar1 Bk), (qbPar2 text pos), sl 43 (B (((bch text pos) == 69) || ((bch text pos) == 65)))], (qbPar0 text pos deep cnt)⟩ ?_ ?_
 refine splitB ((bch text pos) == 69) (fun hb0 => ?_) (fun hb0 => ?_)
 refine WL.sB 46 hb0 ?_
 refine WL.r ht hn 4 ⟨[(qbPar1 Bk), (qbPar2 text pos), sl 43 (B true)], (qbPar0 text pos deep cnt)⟩ ?_
 exact WL.nil (sub_ok (by simp only [hb0]; kernel_rfl))
 refine WL.sB 46 hb0 ?_
 refine WL.r ht hn 4 ⟨[(qbPar1 Bk), (qbPar2 text pos), sl 43 (B ((bch text pos) == 65))], (qbPar0 text pos deep cnt)⟩ ?_
 exact WL.nil (sub_ok (by simp only [hb0]; kernel_rfl))
 refine En.cd (b := (((bch text pos) == 69) || ((bch text pos) == 65))) (fun hb => ?_) (fun hb => ?_)
 replace h := h.1 hb
 refine En.sr ?_
 refine WL.r ht hn 3 ⟨[(qbPar1 Bk), sl 50 (.ptr 0 0), sl 52 (B ((bch text pos) == 65))], (qbPar0 text pos deep cnt)⟩ ?_
 obtain ⟨hp, h⟩ := h
 refine splitO (wayB (pB text k 0) (pB text k 2) ((bch text pos) == 65) text ⟨pos, deep, cnt⟩) (fun hr_6 => ?_) (fun r_5 hr_6 => ?_)
 exact WL.cX (bWay_bad k ih text pos deep cnt ((bch text pos) == 65) hp hr_6) en146 [0] rfl (leftX hpan (h.1 hr_6))
 replace h := h.2 r_5 hr_6
 refine WL.cE (bWay_ok k ih text pos deep cnt ((bch text pos) == 65) hp r_5 hr_6) en146 [0] hn rfl ?_
 refine WL.rn ht hn 1 ⟨[(qbPar1 Bk), sl 2 (.rd (trR bLab r_5.1))], [.box [.v (.string text), I r_5.2.pos, I r_5.2.deep, I r_5.2.cnt] 111 false]⟩ ?_
 refine En.ret ?_
 exact En.backE [0] ht (r_5.1, r_5.2.pos, r_5.2.deep, r_5.2.cnt) h (by kernel_rfl) (by rfl) rfl
 replace h := h.2 hb
 refine En.sr ?_
 refine WL.rn ht hn 3 ⟨[(qbPar1 Bk), sl 54 (B ((bch text pos) != 40))], (qbPar0 text pos deep cnt)⟩ ?_
 refine En.cd (b := ((bch text pos) != 40)) (fun hb => ?_) (fun hb => ?_)
 replace h := h.1 hb
 refine En.region ?_
 refine WL.r ht hn 1 ⟨[(qbPar1 Bk), sl 57 (.ptr 0 0)], (qbPar0 text pos deep cnt)⟩ ?_
 obtain ⟨hp, h⟩ := h
 exact WL.cX (bFail_ct text pos deep cnt 4 hp) en48 [0] rfl (leftX hpan h)
 replace h := h.2 hb
 refine En.skip ?_
 refine En.sr ?_
 refine WL.r ht hn 1 ⟨[(qbPar1 Bk), sl 59 (.ptr 0 0)], (qbPar0 text pos deep cnt)⟩ ?_
 obtain ⟨hp, h⟩ := h
 refine splitO (bopen ⟨pos, deep, cnt⟩) (fun hr_7 => ?_) (fun r_6 hr_7 => ?_)
 exact WL.cX (bOpn_bad text pos deep cnt hp hr_7) en147 [0] rfl (leftX hpan (h.1 hr_7))
 replace h := h.2 r_6 hr_7
 refine WL.cE (bOpn_ok text pos deep cnt hp r_6 hr_7) en147 [0] hn rfl ?_
 refine WL.nil ?_
 refine En.sr ?_
 refine WL.r ht hn 1 ⟨[(qbPar1 Bk), sl 61 (.ptr 0 0)], [.box [.v (.string text), I r_6.pos, I r_6.deep, I r_6.cnt] 111 false]⟩ ?_
 obtain ⟨hp, h⟩ := h
 refine splitO (pB text k 2 ⟨r_6.pos, r_6.deep, r_6.cnt⟩) (fun hr_8 => ?_) (fun r_7 hr_8 => ?_)
 exact WL.cX (bI2_bad k ih text r_6.pos r_6.deep r_6.cnt hp hr_8) en47 [0] rfl (leftX hpan (h.1 hr_8))
 replace h := h.2 r_7 hr_8
 refine WL.cE (bI2_ok k ih text r_6.pos r_6.deep r_6.cnt hp r_7 hr_8) en47 [0] hn rfl ?_
 refine WL.rn ht hn 1 ⟨[(qbPar1 Bk), sl 4 (.rd (trR bLab r_7.1))], [.box [.v (.string text), I r_7.2.pos, I r_7.2.deep, I r_7.2.cnt] 111 false]⟩ ?_
 refine En.sr ?_
 refine WL.r ht hn 1 ⟨[(qbPar1 Bk), sl 4 (.rd (trR bLab r_7.1)), sl 63 (.ptr 0 0)], [.box [.v (.string text), I r_7.2.pos, I r_7.2.deep, I r_7.2.cnt] 111 false]⟩ ?_
 obtain ⟨hp, h⟩ := h
 refine splitO (bshut text ⟨r_7.2.pos, r_7.2.deep, r_7.2.cnt⟩) (fun hr_9 => ?_) (fun r_8 hr_9 => ?_)
 exact WL.cX (bSht_bad text r_7.2.pos r_7.2.deep r_7.2.cnt hp hr_9) en148 [0] rfl (leftX hpan (h.1 hr_9))
 replace h := h.2 r_8 hr_9
 refine WL.cE (bSht_ok text r_7.2.pos r_7.2.deep r_7.2.cnt hp r_8 hr_9) en148 [0] hn rfl ?_
 refine WL.nil ?_
 refine En.sr ?_
 refine WL.rn ht hn 2 ⟨[(qbPar1 Bk), sl 2 (.rd (trR bLab r_7.1))], [.box [.v (.string text), I r_8.pos, I r_8.deep, I r_8.cnt] 111 false]⟩ ?_
 refine En.ret ?_
 exact En.backE [0] ht (r_7.1, r_8.pos, r_8.deep, r_8.cnt) h (by kernel_rfl) (by rfl) rfl
theorem bPar_all (k : Nat) (text : ByteArray) (s : BS) (hp : bOk (k + 1) 0 text s) (Q : BTr × Int × Int × Int → Prop) (P : Prop) (h1 : pB text (k + 1) 0 s = none → P) (h2 : ∀ r, pB text (k + 1) 0 s = some r → Q (r.1, r.2.pos, r.2.deep, r.2.cnt)) : bPar_vc k text s.pos s.deep s.cnt Q P := by
 obtain ⟨hz, hk, hg⟩ := hp
 have e0 : pB text (k + 1) 0 s = parB (pB text k 0) (pB text k 2) text s := rfl
 rw [e0] at h1
 simp only [e0] at h2
 unfold parB at h1 h2
 unfold bPar_vc
 have w0 := hg.1.1
 refine ⟨w0, fun h => ?_, fun h => ?_⟩
 ·have c : bch text s.pos = 48 ∨ bch text s.pos = 49 := by simpa using h
  have hl := bch_lt (text := text) (p := s.pos) (by omega)
  exact ⟨⟨hg, hz, hl⟩, fun z => h1 ((if_pos c).trans (ob_none z)), fun s1 z => h2 (bn (bch text s.pos) false 0 [], s1) ((if_pos c).trans (ob z))⟩
 have n1 : ¬ (bch text s.pos = 48 ∨ bch text s.pos = 49) := by simpa using h
 rw [if_neg n1] at h1
 simp only [if_neg n1] at h2
 refine ⟨fun h => ?_, fun h => ?_⟩
 ·have c : 97 ≤ bch text s.pos ∧ bch text s.pos ≤ 100 := by simpa using h
  have hl := bch_lt (text := text) (p := s.pos) (by omega)
  rw [let_in c.1 c.2]
  exact ⟨⟨hg, hz, hl⟩, fun z => h1 ((if_pos c).trans (ob_none z)), fun s1 z => h2 (bn 97 false (bch text s.pos - 97) [], s1) ((if_pos c).trans (ob z))⟩
 have n2 : ¬ (97 ≤ bch text s.pos ∧ bch text s.pos ≤ 100) := by
  intro hh
  have := hh.1
  have := hh.2
  simp [*] at h
 rw [if_neg n2] at h1
 simp only [if_neg n2] at h2
 refine ⟨fun h => ?_, fun h => ?_⟩
 ·have c := eq_of_beq h
  have hl := bch_lt (text := text) (p := s.pos) (by omega)
  refine ⟨⟨hg, hz, hl⟩, fun z => h1 ((if_pos c).trans (ob_none z)), fun s1 z1 => ?_⟩
  obtain ⟨g1, q1⟩ := cnt_g hg hl z1
  have q1 : s1.pos = s.pos + 1 := q1
  exact ⟨bOk_of hz g1 (by show 4 * ((text.size : Int) - s1.pos) + _ < _; omega), fun z => h1 ((if_pos c).trans ((ob z1).trans (ob_none z))), fun r z => h2 (bn 33 false 0 [r.1], r.2) ((if_pos c).trans ((ob z1).trans (ob z)))⟩
 have n3 : ¬ bch text s.pos = 33 := by simpa using h
 rw [if_neg n3] at h1
 simp only [if_neg n3] at h2
 refine ⟨fun h => ?_, fun h => ?_⟩
 ·have c : bch text s.pos = 69 ∨ bch text s.pos = 65 := by simpa using h
  have hl := bch_lt (text := text) (p := s.pos) (by omega)
  exact ⟨⟨⟨hz, hk, hg⟩, hl⟩, fun z => h1 ((if_pos c).trans z), fun r z => h2 r ((if_pos c).trans z)⟩
 have n4 : ¬ (bch text s.pos = 69 ∨ bch text s.pos = 65) := by simpa using h
 rw [if_neg n4] at h1
 simp only [if_neg n4] at h2
 refine ⟨fun h => ⟨by decide, h1 (if_neg (bne_iff_ne.1 h))⟩, fun h => ?_⟩
 have c := bne_eq_false_iff_eq.1 h
 have hl := bch_lt (text := text) (p := s.pos) (by omega)
 refine ⟨⟨hg, hz, hl⟩, fun z => h1 ((if_pos c).trans (ob_none z)), fun s1 z1 => ?_⟩
 obtain ⟨g1, q1⟩ := open_g hg hl z1
 have q1 : s1.pos = s.pos + 1 := q1
 refine ⟨bOk_of hz g1 (by show 4 * ((text.size : Int) - s1.pos) + _ < _; omega), fun z => h1 ((if_pos c).trans ((ob z1).trans (ob_none z))), fun r z => ?_⟩
 have G := pB_good k 2 s1 r hz g1 z
 exact ⟨⟨G.ok, hz⟩, fun z2 => h1 ((if_pos c).trans ((ob z1).trans ((ob z).trans (ob_none z2)))), fun s2 z2 => h2 (r.1, s2) ((if_pos c).trans ((ob z1).trans ((ob z).trans (ob z2))))⟩
theorem bPar_ok (k : Nat) (ih : TC k) (text : ByteArray) (pos deep cnt : Int) (hp : bOk (k + 1) 0 text ⟨pos, deep, cnt⟩) (r : (BTr × BS)) (hx : pB text (k + 1) 0 ⟨pos, deep, cnt⟩ = some r) : CtE 134 [.sv (.one (.ptr 0 0))] [.box [.v (.string text), I pos, I deep, I cnt] 111 false] [0] (fun (_ : Unit) => True) (fun _ => .sv (.one (.rd (trR bLab r.1)))) (fun _ => [.box [.v (.string text), I r.2.pos, I r.2.deep, I r.2.cnt] 111 false]) :=
 (bPar_walk k text pos deep cnt ih (fun x => x = (r.1, r.2.pos, r.2.deep, r.2.cnt)) False (bPar_all k text ⟨pos, deep, cnt⟩ hp _ _ (fun e => by rw [hx] at e; cases e) (fun y e => by rw [hx] at e; cases e; rfl))).toE fun x hx => ⟨(), trivial, by subst hx; rfl, by subst hx; rfl⟩
theorem bPar_bad (k : Nat) (ih : TC k) (text : ByteArray) (pos deep cnt : Int) (hp : bOk (k + 1) 0 text ⟨pos, deep, cnt⟩) (hx : pB text (k + 1) 0 ⟨pos, deep, cnt⟩ = none) : CtX 134 [.sv (.one (.ptr 0 0))] [.box [.v (.string text), I pos, I deep, I cnt] 111 false] (psStop 108) :=
 (bPar_walk k text pos deep cnt ih (fun _ => False) True (bPar_all k text ⟨pos, deep, cnt⟩ hp _ _ (fun _ => trivial) (fun y e => by rw [hx] at e; cases e))).toX
def bTrm_vc (k : Nat) (text : ByteArray) (pos : Int) (deep : Int) (cnt : Int) (Q : (Tr BLab) × Int × Int × Int → Prop) (P : Prop) : Prop :=
 (bOk k 0 text ⟨pos, deep, cnt⟩) ∧
 ((pB text k 0 ⟨pos, deep, cnt⟩) = none → P) ∧ ∀ r, (pB text k 0 ⟨pos, deep, cnt⟩) = some r →
 (∃ (Inv : (Tr BLab) → Int → Int → Int → Prop) (mu : (Tr BLab) → Int → Int → Int → Nat), Inv (r.1) (r.2.pos) (r.2.deep) (r.2.cnt) ∧
 ∀ (x3 : (Tr BLab)) (y01 : Int) (y02 : Int) (y03 : Int) , Inv x3 y01 y02 y03 → ((0 ≤ y01) ∧
 IfP ((bch text y01) == 38) ((gB text ⟨(y01), (y02), (y03)⟩ ∧ text.size ≤ 4000 ∧ (y01) < text.size) ∧
 ((bcnt ⟨(y01), (y02), (y03)⟩) = none → P) ∧ ∀ r_2, (bcnt ⟨(y01), (y02), (y03)⟩) = some r_2 →
 ((bOk k 0 text ⟨(r_2.pos), (r_2.deep), (r_2.cnt)⟩) ∧
 ((pB text k 0 ⟨(r_2.pos), (r_2.deep), (r_2.cnt)⟩) = none → P) ∧ ∀ r_3, (pB text k 0 ⟨(r_2.pos), (r_2.deep), (r_2.cnt)⟩) = some r_3 →
 ((Inv (Tr.node (BLab.mk 38 false 0) ([x3, (r_3.1)] : (List (Tr BLab)))) (r_3.2.pos) (r_3.2.deep) (r_3.2.cnt) ∧ mu (Tr.node (BLab.mk 38 false 0) ([x3, (r_3.1)] : (List (Tr BLab)))) (r_3.2.pos) (r_3.2.deep) (r_3.2.cnt) < mu x3 y01 y02 y03)))) (Q (x3, (y01), (y02), (y03)))))
noncomputable abbrev qbTrm0 (y0 : Nat → Nat) := sl 0 (.pptr 0 0 (y0 0))
theorem bTrm_walk (k : Nat) (text : ByteArray) (pos : Int) (deep : Int) (cnt : Int) (ih : TC k) (Q : (Tr BLab) × Int × Int × Int → Prop) (P : Prop) (h : bTrm_vc k text pos deep cnt Q P) : CtP 95 [.sv (.one (.ptr 0 0))] [.box [.v (.string text), I pos, I deep, I cnt] 111 false] [0] Q (fun (r : (Tr BLab) × Int × Int × Int) => .sv (.one (.rd (trR bLab r.1)))) (fun (r : (Tr BLab) × Int × Int × Int) => [.box [.v (.string text), I r.2.1, I r.2.2.1, I r.2.2.2] 111 false]) (psStop 108) P := by
 have ht := tab_ok
 refine CtP.body Try.func95 rfl rfl rfl (by kernel_rfl) (by kernel_rfl) (fun c Bk hn hpan => ?_)
 unfold bTrm_vc at h
 show En c ⟨[(qbTrm0 Bk)], [.box [.v (.string text), I pos, I deep, I cnt] 111 false]⟩ _
 refine En.sr ?_
 refine WL.rn ht hn 1 ⟨[(qbTrm0 Bk)], [.box [.v (.string text), I pos, I deep, I cnt] 111 false]⟩ ?_
 refine En.sr ?_
 refine WL.r ht hn 1 ⟨[(qbTrm0 Bk), sl 4 (.ptr 0 0)], [.box [.v (.string text), I pos, I deep, I cnt] 111 false]⟩ ?_
 obtain ⟨hp, h⟩ := h
 refine splitO (pB text k 0 ⟨pos, deep, cnt⟩) (fun hr_2 => ?_) (fun r hr_2 => ?_)
 exact WL.cX (bI0_bad k ih text pos deep cnt hp hr_2) en134 [0] rfl (leftX hpan (h.1 hr_2))
 replace h := h.2 r hr_2
 refine WL.cE (bI0_ok k ih text pos deep cnt hp r hr_2) en134 [0] hn rfl ?_
 refine WL.rn ht hn 1 ⟨[(qbTrm0 Bk), sl 3 (.rd (trR bLab r.1))], [.box [.v (.string text), I r.2.pos, I r.2.deep, I r.2.cnt] 111 false]⟩ ?_
 refine En.seq ?_
 refine En.block ?_
 obtain ⟨Inv, mu, h0, hI⟩ := h
 refine En.loop (σ := (Tr BLab) × Int × Int × Int) (fun zz => Inv zz.1 zz.2.1 zz.2.2.1 zz.2.2.2) (fun zz => mu zz.1 zz.2.1 zz.2.2.1 zz.2.2.2) (fun zz => ⟨[(qbTrm0 Bk), sl 3 (.rd (trR bLab zz.1))], [.box [.v (.string text), I zz.2.1, I zz.2.2.1, I zz.2.2.2] 111 false]⟩) (r.1, r.2.pos, r.2.deep, r.2.cnt) h0 (sub_ok (by kernel_rfl)) ?_
 rintro ⟨x3, y01, y02, y03⟩ h
 replace h := hI _ _ _ _ h
 show En c ⟨[(qbTrm0 Bk), sl 3 (.rd (trR bLab x3))], [.box [.v (.string text), I y01, I y02, I y03] 111 false]⟩ _
 refine En.seq ?_
 refine En.sr ?_
 refine WL.r ht hn 1 ⟨[(qbTrm0 Bk), sl 3 (.rd (trR bLab x3)), sl 6 (.ptr 0 0)], [.box [.v (.string text), I y01, I y02, I y03] 111 false]⟩ ?_
 obtain ⟨hp, h⟩ := h
 refine WL.cE (bNow_ct text y01 y02 y03 hp) en96 [0] hn rfl ?_
 refine WL.rn ht hn 1 ⟨[(qbTrm0 Bk), sl 3 (.rd (trR bLab x3)), sl 8 (B ((bch text y01) == 38))], [.box [.v (.string text), I y01, I y02, I y03] 111 false]⟩ ?_
 refine En.cd (b := ((bch text y01) == 38)) (fun hb => ?_) (fun hb => ?_)
 replace h := h.1 hb
 refine En.skip ?_
 refine En.block ?_
 refine En.sr ?_
 refine WL.r ht hn 1 ⟨[(qbTrm0 Bk), sl 3 (.rd (trR bLab x3)), sl 9 (.ptr 0 0)], [.box [.v (.string text), I y01, I y02, I y03] 111 false]⟩ ?_
 obtain ⟨hp, h⟩ := h
 refine splitO (bcnt ⟨y01, y02, y03⟩) (fun hr_3 => ?_) (fun r_2 hr_3 => ?_)
 exact WL.cX (bCnt_bad text y01 y02 y03 hp hr_3) en97 [0] rfl (leftX hpan (h.1 hr_3))
 replace h := h.2 r_2 hr_3
 refine WL.cE (bCnt_ok text y01 y02 y03 hp r_2 hr_3) en97 [0] hn rfl ?_
 refine WL.nil ?_
 refine En.region ?_
 refine WL.r ht hn 2 ⟨[(qbTrm0 Bk), sl 11 (.rd (trR bLab x3)), sl 12 (.ptr 0 0)], [.box [.v (.string text), I r_2.pos, I r_2.deep, I r_2.cnt] 111 false]⟩ ?_
 obtain ⟨hp, h⟩ := h
 refine splitO (pB text k 0 ⟨r_2.pos, r_2.deep, r_2.cnt⟩) (fun hr_4 => ?_) (fun r_3 hr_4 => ?_)
 exact WL.cX (bI0_bad k ih text r_2.pos r_2.deep r_2.cnt hp hr_4) en134 [0] rfl (leftX hpan (h.1 hr_4))
 replace h := h.2 r_3 hr_4
 refine WL.cE (bI0_ok k ih text r_2.pos r_2.deep r_2.cnt hp r_3 hr_4) en134 [0] hn rfl ?_
 refine WL.mt0 (K := []) (p := some (1, rowI 63 (TT bLab) ([x3, r_3.1] : (List (Tr BLab))))) hn (by rfl) (mt_lit (T := (TT bLab)) ([x3, r_3.1] : (List (Tr BLab))) (mt_bsl 1 (r := cellsOf (TT bLab) ([x3, r_3.1] : (List (Tr BLab)))) ht rfl (by rfl) (by rfl) (by rfl) (by kernel_rfl) (by rfl)) (fun _ h => by cases h) (fun _ => rfl) (fun _ => rfl) (by rfl) (Nat.le_of_ble_eq_true rfl)) (by rfl) (by rfl) (by rfl) ?_
 refine WL.rn ht hn 3 ⟨[(qbTrm0 Bk), sl 3 (.ptr 2 0)], [.box [.v (.string text), I r_3.2.pos, I r_3.2.deep, I r_3.2.cnt] 111 false, rowI 63 (TT bLab) ([x3, r_3.1] : (List (Tr BLab))), .box [.v (.int .u8 38), B false, I 0, .own 1] 119 false]⟩ ?_
 refine En.seal (T := (TT bLab)) (l := ([x3, r_3.1] : (List (Tr BLab)))) (e := 63) 1 rfl ?_
 refine En.freeze [2] (by rfl) ?_
 refine En.ghost 3 (o1 (.rd (trR bLab (Tr.node (BLab.mk 38 false 0) ([x3, r_3.1] : (List (Tr BLab))))))) (by rfl) (tree_of (lab := bLab) (x := (BLab.mk 38 false 0)) (kids := ([x3, r_3.1] : (List (Tr BLab)))) (i := 2) (by rfl) (by rfl) (by rfl)) ?_
 exact En.at (I := fun zz => Inv zz.1 zz.2.1 zz.2.2.1 zz.2.2.2 ∧ mu zz.1 zz.2.1 zz.2.2.1 zz.2.2.2 < mu x3 y01 y02 y03) (T := fun zz => ⟨[(qbTrm0 Bk), sl 3 (.rd (trR bLab zz.1))], [.box [.v (.string text), I zz.2.1, I zz.2.2.1, I zz.2.2.2] 111 false]⟩) ((Tr.node (BLab.mk 38 false 0) ([x3, r_3.1] : (List (Tr BLab)))), r_3.2.pos, r_3.2.deep, r_3.2.cnt) h (by kernel_rfl)
 replace h := h.2 hb
 refine En.exit rfl ?_
 refine En.sr ?_
 refine WL.rn ht hn 2 ⟨[(qbTrm0 Bk), sl 2 (.rd (trR bLab x3))], [.box [.v (.string text), I y01, I y02, I y03] 111 false]⟩ ?_
 refine En.ret ?_
 exact En.backE [0] ht (x3, y01, y02, y03) h (by kernel_rfl) (by rfl) rfl
theorem bTrm_all (k : Nat) (text : ByteArray) (s : BS) (hp : bOk (k + 1) 1 text s) (Q : BTr × Int × Int × Int → Prop) (P : Prop) (h1 : pB text (k + 1) 1 s = none → P) (h2 : ∀ r, pB text (k + 1) 1 s = some r → Q (r.1, r.2.pos, r.2.deep, r.2.cnt)) : bTrm_vc k text s.pos s.deep s.cnt Q P := by
 obtain ⟨hz, hk, hg⟩ := hp
 have e0 : pB text (k + 1) 1 s = (pB text k 0 s).bind fun r => lopBL 38 (pB text k 0) text (text.size + 1) r.1 r.2 := rfl
 unfold bTrm_vc
 refine ⟨bOk_of (s := s) hz hg (by omega), fun z => h1 (e0.trans (ob_none z)), fun r z0 => ?_⟩
 have G0 := pB_good k 0 s r hz hg z0
 have k1 := fun e => h1 (e0.trans ((ob z0).trans e))
 have k2 := fun x e => h2 x (e0.trans ((ob z0).trans e))
 have hpos := G0.pos
 have hp0 := hg.1.1
 obtain ⟨R, hR⟩ : ∃ R, R = lopBL 38 (pB text k 0) text (text.size + 1) r.1 r.2 := ⟨_, rfl⟩
 refine ⟨fun t p d n => ∃ m : Nat, text.size - p < m ∧ gB text ⟨p, d, n⟩ ∧ s.pos < p ∧ lopBL 38 (pB text k 0) text m t ⟨p, d, n⟩ = R, fun _ p _ _ => (text.size - p).toNat, ⟨text.size + 1, by omega, G0.ok, hpos, hR.symm⟩, ?_⟩
 rintro t p d n ⟨m, hm, hgp, hps, heq⟩
 have hsz : p ≤ text.size := hgp.1.2
 have hp1 : 0 ≤ p := hgp.1.1
 obtain ⟨m', rfl⟩ : ∃ m', m = m' + 1 := ⟨m - 1, by omega⟩
 rw [lopBL] at heq
 simp only at heq
 rw [hR] at heq
 refine ⟨hp1, fun hb => ?_, fun hb => ?_⟩
 ·have c : bch text p = 38 := eq_of_beq hb
  have hlt := bch_lt (text := text) (p := p) (by omega)
  rw [if_pos c] at heq
  refine ⟨⟨hgp, hz, hlt⟩, fun z => k1 (heq.symm.trans (ob_none z)), fun s1 z1 => ?_⟩
  obtain ⟨g1, q1⟩ := cnt_g hgp hlt z1
  have q1 : s1.pos = p + 1 := q1
  refine ⟨bOk_of hz g1 (by show 4 * ((text.size : Int) - s1.pos) + _ < _; omega), fun z => k1 (heq.symm.trans ((ob z1).trans (ob_none z))), fun y z2 => ?_⟩
  have G := pB_good k 0 s1 y hz g1 z2
  have hy := G.pos
  have hy2 := G.ok.1.2
  refine ⟨⟨m', by omega, G.ok, by omega, ?_⟩, by show ((text.size : Int) - y.2.pos).toNat < ((text.size : Int) - p).toNat; omega⟩
  rw [hR]
  exact ((ob z1).trans ((ob z2).trans rfl)).symm.trans heq
 ·have c : ¬ bch text p = 38 := by simpa using hb
  rw [if_neg c] at heq
  exact k2 (t, ⟨p, d, n⟩) heq.symm
theorem bTrm_ok (k : Nat) (ih : TC k) (text : ByteArray) (pos deep cnt : Int) (hp : bOk (k + 1) 1 text ⟨pos, deep, cnt⟩) (r : (BTr × BS)) (hx : pB text (k + 1) 1 ⟨pos, deep, cnt⟩ = some r) : CtE 95 [.sv (.one (.ptr 0 0))] [.box [.v (.string text), I pos, I deep, I cnt] 111 false] [0] (fun (_ : Unit) => True) (fun _ => .sv (.one (.rd (trR bLab r.1)))) (fun _ => [.box [.v (.string text), I r.2.pos, I r.2.deep, I r.2.cnt] 111 false]) :=
 (bTrm_walk k text pos deep cnt ih (fun x => x = (r.1, r.2.pos, r.2.deep, r.2.cnt)) False (bTrm_all k text ⟨pos, deep, cnt⟩ hp _ _ (fun e => by rw [hx] at e; cases e) (fun y e => by rw [hx] at e; cases e; rfl))).toE fun x hx => ⟨(), trivial, by subst hx; rfl, by subst hx; rfl⟩
theorem bTrm_bad (k : Nat) (ih : TC k) (text : ByteArray) (pos deep cnt : Int) (hp : bOk (k + 1) 1 text ⟨pos, deep, cnt⟩) (hx : pB text (k + 1) 1 ⟨pos, deep, cnt⟩ = none) : CtX 95 [.sv (.one (.ptr 0 0))] [.box [.v (.string text), I pos, I deep, I cnt] 111 false] (psStop 108) :=
 (bTrm_walk k text pos deep cnt ih (fun _ => False) True (bTrm_all k text ⟨pos, deep, cnt⟩ hp _ _ (fun _ => trivial) (fun y e => by rw [hx] at e; cases e))).toX
def bWho_vc (k : Nat) (text : ByteArray) (pos : Int) (deep : Int) (cnt : Int) (Q : (Tr BLab) × Int × Int × Int → Prop) (P : Prop) : Prop :=
 (bOk k 1 text ⟨pos, deep, cnt⟩) ∧
 ((pB text k 1 ⟨pos, deep, cnt⟩) = none → P) ∧ ∀ r, (pB text k 1 ⟨pos, deep, cnt⟩) = some r →
 (∃ (Inv : (Tr BLab) → Int → Int → Int → Prop) (mu : (Tr BLab) → Int → Int → Int → Nat), Inv (r.1) (r.2.pos) (r.2.deep) (r.2.cnt) ∧
 ∀ (x3 : (Tr BLab)) (y01 : Int) (y02 : Int) (y03 : Int) , Inv x3 y01 y02 y03 → ((0 ≤ y01) ∧
 IfP ((bch text y01) == 124) ((gB text ⟨(y01), (y02), (y03)⟩ ∧ text.size ≤ 4000 ∧ (y01) < text.size) ∧
 ((bcnt ⟨(y01), (y02), (y03)⟩) = none → P) ∧ ∀ r_2, (bcnt ⟨(y01), (y02), (y03)⟩) = some r_2 →
 ((bOk k 1 text ⟨(r_2.pos), (r_2.deep), (r_2.cnt)⟩) ∧
 ((pB text k 1 ⟨(r_2.pos), (r_2.deep), (r_2.cnt)⟩) = none → P) ∧ ∀ r_3, (pB text k 1 ⟨(r_2.pos), (r_2.deep), (r_2.cnt)⟩) = some r_3 →
 ((Inv (Tr.node (BLab.mk 124 false 0) ([x3, (r_3.1)] : (List (Tr BLab)))) (r_3.2.pos) (r_3.2.deep) (r_3.2.cnt) ∧ mu (Tr.node (BLab.mk 124 false 0) ([x3, (r_3.1)] : (List (Tr BLab)))) (r_3.2.pos) (r_3.2.deep) (r_3.2.cnt) < mu x3 y01 y02 y03)))) (Q (x3, (y01), (y02), (y03)))))
noncomputable abbrev qbWho0 (y0 : Nat → Nat) := sl 0 (.pptr 0 0 (y0 0))
theorem bWho_walk (k : Nat) (text : ByteArray) (pos : Int) (deep : Int) (cnt : Int) (ih : TC k) (Q : (Tr BLab) × Int × Int × Int → Prop) (P : Prop) (h : bWho_vc k text pos deep cnt Q P) : CtP 47 [.sv (.one (.ptr 0 0))] [.box [.v (.string text), I pos, I deep, I cnt] 111 false] [0] Q (fun (r : (Tr BLab) × Int × Int × Int) => .sv (.one (.rd (trR bLab r.1)))) (fun (r : (Tr BLab) × Int × Int × Int) => [.box [.v (.string text), I r.2.1, I r.2.2.1, I r.2.2.2] 111 false]) (psStop 108) P := by
 have ht := tab_ok
 refine CtP.body Try.func47 rfl rfl rfl (by kernel_rfl) (by kernel_rfl) (fun c Bk hn hpan => ?_)
 unfold bWho_vc at h
 show En c ⟨[(qbWho0 Bk)], [.box [.v (.string text), I pos, I deep, I cnt] 111 false]⟩ _
 refine En.sr ?_
 refine WL.rn ht hn 1 ⟨[(qbWho0 Bk)], [.box [.v (.string text), I pos, I deep, I cnt] 111 false]⟩ ?_
 refine En.sr ?_
 refine WL.r ht hn 1 ⟨[(qbWho0 Bk), sl 4 (.ptr 0 0)], [.box [.v (.string text), I pos, I deep, I cnt] 111 false]⟩ ?_
 obtain ⟨hp, h⟩ := h
 refine splitO (pB text k 1 ⟨pos, deep, cnt⟩) (fun hr_2 => ?_) (fun r hr_2 => ?_)
 exact WL.cX (bI1_bad k ih text pos deep cnt hp hr_2) en95 [0] rfl (leftX hpan (h.1 hr_2))
 replace h := h.2 r hr_2
 refine WL.cE (bI1_ok k ih text pos deep cnt hp r hr_2) en95 [0] hn rfl ?_
 refine WL.rn ht hn 1 ⟨[(qbWho0 Bk), sl 3 (.rd (trR bLab r.1))], [.box [.v (.string text), I r.2.pos, I r.2.deep, I r.2.cnt] 111 false]⟩ ?_
 refine En.seq ?_
 refine En.block ?_
 obtain ⟨Inv, mu, h0, hI⟩ := h
 refine En.loop (σ := (Tr BLab) × Int × Int × Int) (fun zz => Inv zz.1 zz.2.1 zz.2.2.1 zz.2.2.2) (fun zz => mu zz.1 zz.2.1 zz.2.2.1 zz.2.2.2) (fun zz => ⟨[(qbWho0 Bk), sl 3 (.rd (trR bLab zz.1))], [.box [.v (.string text), I zz.2.1, I zz.2.2.1, I zz.2.2.2] 111 false]⟩) (r.1, r.2.pos, r.2.deep, r.2.cnt) h0 (sub_ok (by kernel_rfl)) ?_
 rintro ⟨x3, y01, y02, y03⟩ h
 replace h := hI _ _ _ _ h
 show En c ⟨[(qbWho0 Bk), sl 3 (.rd (trR bLab x3))], [.box [.v (.string text), I y01, I y02, I y03] 111 false]⟩ _
 refine En.seq ?_
 refine En.sr ?_
 refine WL.r ht hn 1 ⟨[(qbWho0 Bk), sl 3 (.rd (trR bLab x3)), sl 6 (.ptr 0 0)], [.box [.v (.string text), I y01, I y02, I y03] 111 false]⟩ ?_
 obtain ⟨hp, h⟩ := h
 refine WL.cE (bNow_ct text y01 y02 y03 hp) en96 [0] hn rfl ?_
 refine WL.rn ht hn 1 ⟨[(qbWho0 Bk), sl 3 (.rd (trR bLab x3)), sl 8 (B ((bch text y01) == 124))], [.box [.v (.string text), I y01, I y02, I y03] 111 false]⟩ ?_
 refine En.cd (b := ((bch text y01) == 124)) (fun hb => ?_) (fun hb => ?_)
 replace h := h.1 hb
 refine En.skip ?_
 refine En.block ?_
 refine En.sr ?_
 refine WL.r ht hn 1 ⟨[(qbWho0 Bk), sl 3 (.rd (trR bLab x3)), sl 9 (.ptr 0 0)], [.box [.v (.string text), I y01, I y02, I y03] 111 false]⟩ ?_
 obtain ⟨hp, h⟩ := h
 refine splitO (bcnt ⟨y01, y02, y03⟩) (fun hr_3 => ?_) (fun r_2 hr_3 => ?_)
 exact WL.cX (bCnt_bad text y01 y02 y03 hp hr_3) en97 [0] rfl (leftX hpan (h.1 hr_3))
 replace h := h.2 r_2 hr_3
 refine WL.cE (bCnt_ok text y01 y02 y03 hp r_2 hr_3) en97 [0] hn rfl ?_
 refine WL.nil ?_
 refine En.region ?_
 refine WL.r ht hn 2 ⟨[(qbWho0 Bk), sl 11 (.rd (trR bLab x3)), sl 12 (.ptr 0 0)], [.box [.v (.string text), I r_2.pos, I r_2.deep, I r_2.cnt] 111 false]⟩ ?_
 obtain ⟨hp, h⟩ := h
 refine splitO (pB text k 1 ⟨r_2.pos, r_2.deep, r_2.cnt⟩) (fun hr_4 => ?_) (fun r_3 hr_4 => ?_)
 exact WL.cX (bI1_bad k ih text r_2.pos r_2.deep r_2.cnt hp hr_4) en95 [0] rfl (leftX hpan (h.1 hr_4))
 replace h := h.2 r_3 hr_4
 refine WL.cE (bI1_ok k ih text r_2.pos r_2.deep r_2.cnt hp r_3 hr_4) en95 [0] hn rfl ?_
 refine WL.mt0 (K := []) (p := some (1, rowI 63 (TT bLab) ([x3, r_3.1] : (List (Tr BLab))))) hn (by rfl) (mt_lit (T := (TT bLab)) ([x3, r_3.1] : (List (Tr BLab))) (mt_bsl 1 (r := cellsOf (TT bLab) ([x3, r_3.1] : (List (Tr BLab)))) ht rfl (by rfl) (by rfl) (by rfl) (by kernel_rfl) (by rfl)) (fun _ h => by cases h) (fun _ => rfl) (fun _ => rfl) (by rfl) (Nat.le_of_ble_eq_true rfl)) (by rfl) (by rfl) (by rfl) ?_
 refine WL.rn ht hn 3 ⟨[(qbWho0 Bk), sl 3 (.ptr 2 0)], [.box [.v (.string text), I r_3.2.pos, I r_3.2.deep, I r_3.2.cnt] 111 false, rowI 63 (TT bLab) ([x3, r_3.1] : (List (Tr BLab))), .box [.v (.int .u8 124), B false, I 0, .own 1] 119 false]⟩ ?_
 refine En.seal (T := (TT bLab)) (l := ([x3, r_3.1] : (List (Tr BLab)))) (e := 63) 1 rfl ?_
 refine En.freeze [2] (by rfl) ?_
 refine En.ghost 3 (o1 (.rd (trR bLab (Tr.node (BLab.mk 124 false 0) ([x3, r_3.1] : (List (Tr BLab))))))) (by rfl) (tree_of (lab := bLab) (x := (BLab.mk 124 false 0)) (kids := ([x3, r_3.1] : (List (Tr BLab)))) (i := 2) (by rfl) (by rfl) (by rfl)) ?_
 exact En.at (I := fun zz => Inv zz.1 zz.2.1 zz.2.2.1 zz.2.2.2 ∧ mu zz.1 zz.2.1 zz.2.2.1 zz.2.2.2 < mu x3 y01 y02 y03) (T := fun zz => ⟨[(qbWho0 Bk), sl 3 (.rd (trR bLab zz.1))], [.box [.v (.string text), I zz.2.1, I zz.2.2.1, I zz.2.2.2] 111 false]⟩) ((Tr.node (BLab.mk 124 false 0) ([x3, r_3.1] : (List (Tr BLab)))), r_3.2.pos, r_3.2.deep, r_3.2.cnt) h (by kernel_rfl)
 replace h := h.2 hb
 refine En.exit rfl ?_
 refine En.sr ?_
 refine WL.rn ht hn 2 ⟨[(qbWho0 Bk), sl 2 (.rd (trR bLab x3))], [.box [.v (.string text), I y01, I y02, I y03] 111 false]⟩ ?_
 refine En.ret ?_
 exact En.backE [0] ht (x3, y01, y02, y03) h (by kernel_rfl) (by rfl) rfl
theorem bWho_all (k : Nat) (text : ByteArray) (s : BS) (hp : bOk (k + 1) 2 text s) (Q : BTr × Int × Int × Int → Prop) (P : Prop) (h1 : pB text (k + 1) 2 s = none → P) (h2 : ∀ r, pB text (k + 1) 2 s = some r → Q (r.1, r.2.pos, r.2.deep, r.2.cnt)) : bWho_vc k text s.pos s.deep s.cnt Q P := by
 obtain ⟨hz, hk, hg⟩ := hp
 have e0 : pB text (k + 1) 2 s = (pB text k 1 s).bind fun r => lopBL 124 (pB text k 1) text (text.size + 1) r.1 r.2 := rfl
 unfold bWho_vc
 refine ⟨bOk_of (s := s) hz hg (by omega), fun z => h1 (e0.trans (ob_none z)), fun r z0 => ?_⟩
 have G0 := pB_good k 1 s r hz hg z0
 have k1 := fun e => h1 (e0.trans ((ob z0).trans e))
 have k2 := fun x e => h2 x (e0.trans ((ob z0).trans e))
 have hpos := G0.pos
 have hp0 := hg.1.1
 obtain ⟨R, hR⟩ : ∃ R, R = lopBL 124 (pB text k 1) text (text.size + 1) r.1 r.2 := ⟨_, rfl⟩
 refine ⟨fun t p d n => ∃ m : Nat, text.size - p < m ∧ gB text ⟨p, d, n⟩ ∧ s.pos < p ∧ lopBL 124 (pB text k 1) text m t ⟨p, d, n⟩ = R, fun _ p _ _ => (text.size - p).toNat, ⟨text.size + 1, by omega, G0.ok, hpos, hR.symm⟩, ?_⟩
 rintro t p d n ⟨m, hm, hgp, hps, heq⟩
 have hsz : p ≤ text.size := hgp.1.2
 have hp1 : 0 ≤ p := hgp.1.1
 obtain ⟨m', rfl⟩ : ∃ m', m = m' + 1 := ⟨m - 1, by omega⟩
 rw [lopBL] at heq
 simp only at heq
 rw [hR] at heq
 refine ⟨hp1, fun hb => ?_, fun hb => ?_⟩
 ·have c : bch text p = 124 := eq_of_beq hb
  have hlt := bch_lt (text := text) (p := p) (by omega)
  rw [if_pos c] at heq
  refine ⟨⟨hgp, hz, hlt⟩, fun z => k1 (heq.symm.trans (ob_none z)), fun s1 z1 => ?_⟩
  obtain ⟨g1, q1⟩ := cnt_g hgp hlt z1
  have q1 : s1.pos = p + 1 := q1
  refine ⟨bOk_of hz g1 (by show 4 * ((text.size : Int) - s1.pos) + _ < _; omega), fun z => k1 (heq.symm.trans ((ob z1).trans (ob_none z))), fun y z2 => ?_⟩
  have G := pB_good k 1 s1 y hz g1 z2
  have hy := G.pos
  have hy2 := G.ok.1.2
  refine ⟨⟨m', by omega, G.ok, by omega, ?_⟩, by show ((text.size : Int) - y.2.pos).toNat < ((text.size : Int) - p).toNat; omega⟩
  rw [hR]
  exact ((ob z1).trans ((ob z2).trans rfl)).symm.trans heq
 ·have c : ¬ bch text p = 124 := by simpa using hb
  rw [if_neg c] at heq
  exact k2 (t, ⟨p, d, n⟩) heq.symm
theorem bWho_ok (k : Nat) (ih : TC k) (text : ByteArray) (pos deep cnt : Int) (hp : bOk (k + 1) 2 text ⟨pos, deep, cnt⟩) (r : (BTr × BS)) (hx : pB text (k + 1) 2 ⟨pos, deep, cnt⟩ = some r) : CtE 47 [.sv (.one (.ptr 0 0))] [.box [.v (.string text), I pos, I deep, I cnt] 111 false] [0] (fun (_ : Unit) => True) (fun _ => .sv (.one (.rd (trR bLab r.1)))) (fun _ => [.box [.v (.string text), I r.2.pos, I r.2.deep, I r.2.cnt] 111 false]) :=
 (bWho_walk k text pos deep cnt ih (fun x => x = (r.1, r.2.pos, r.2.deep, r.2.cnt)) False (bWho_all k text ⟨pos, deep, cnt⟩ hp _ _ (fun e => by rw [hx] at e; cases e) (fun y e => by rw [hx] at e; cases e; rfl))).toE fun x hx => ⟨(), trivial, by subst hx; rfl, by subst hx; rfl⟩
theorem bWho_bad (k : Nat) (ih : TC k) (text : ByteArray) (pos deep cnt : Int) (hp : bOk (k + 1) 2 text ⟨pos, deep, cnt⟩) (hx : pB text (k + 1) 2 ⟨pos, deep, cnt⟩ = none) : CtX 47 [.sv (.one (.ptr 0 0))] [.box [.v (.string text), I pos, I deep, I cnt] 111 false] (psStop 108) :=
 (bWho_walk k text pos deep cnt ih (fun _ => False) True (bWho_all k text ⟨pos, deep, cnt⟩ hp _ _ (fun _ => trivial) (fun y e => by rw [hx] at e; cases e))).toX
theorem brAll : ∀ k, TC k
 | 0 => fun text pos deep cnt => ⟨fun hp => absurd hp.2.1 (by have := hp.2.2.1.2; simp only at this; show ¬ (4 * ((text.size : Int) - pos) + _ < _); omega), fun hp => absurd hp.2.1 (by have := hp.2.2.1.2; simp only at this; show ¬ (4 * ((text.size : Int) - pos) + _ < _); omega), fun hp => absurd hp.2.1 (by have := hp.2.2.1.2; simp only at this; show ¬ (4 * ((text.size : Int) - pos) + _ < _); omega)⟩
 | k + 1 => fun text pos deep cnt => ⟨fun hp => ⟨bPar_ok k (brAll k) text pos deep cnt hp, bPar_bad k (brAll k) text pos deep cnt hp⟩, fun hp => ⟨bTrm_ok k (brAll k) text pos deep cnt hp, bTrm_bad k (brAll k) text pos deep cnt hp⟩, fun hp => ⟨bWho_ok k (brAll k) text pos deep cnt hp, bWho_bad k (brAll k) text pos deep cnt hp⟩⟩
theorem en46 : ∀ args w, (callFunc 46 args).run Try.prog w = .ok (.enter 46 args) w := enters_of Try.func46 (by kernel_rfl) rfl
theorem braCatch (r0 : Rd) (c0 a0 code at_ : Int) (hc : code ≠ 0) : CtD 46 [.box [.rd r0] 63 false, .box [I c0, I a0] 32 false] [.box [.rd (optR bLab none)] 63 false, .box [I code, I at_] 32 false] (.panicking [{ v := .iface 108 (.agg #[.int .i64 code, .int .i64 at_]), recovered := false }]) (.panicking [{ v := .iface 108 (.agg #[.int .i64 code, .int .i64 at_]), recovered := true }]) := by
 have ht := tab_ok
 refine CtD.body (pv := .iface 108 (.agg #[.int .i64 code, .int .i64 at_])) (d := 5) Try.func46 rfl rfl rfl (by kernel_rfl) (by kernel_rfl) (by kernel_rfl) rfl rfl rfl (fun c₀ cs hm => by simp [recoverD, hm]) trivial (fun c Bk hn => ?_)
 have h : True := trivial
 refine En.block ?_
 refine En.seq ?_
 refine En.region ?_
 refine WL.val hn (by rfl) (val_ifNil rfl (by rfl) (by rfl) (fun w => by kernel_rfl)) (by rfl) ?_
 refine WL.nil ?_
 refine En.cond (b := false) (by kernel_rfl) (fun hb => ?_) (fun hb => ?_)
 ·cases hb
 ·refine En.seq ?_
  refine En.region ?_
  refine WL.val hn (by rfl) (val_assert (cs := [.int .i64 code, .int .i64 at_]) rfl (by rfl) rfl (by simp [cellV]) (fun w => by kernel_rfl)) (by rfl) ?_
  refine WL.run ht hn 2 ⟨[(0, .sv (.one (.pptr 0 0 (Bk 0)))), (1, .sv (.one (.pptr 1 0 (Bk 1)))), (5, .sv (.one (.v (.iface 108 (.agg #[.int .i64 code, .int .i64 at_]))))), (9, .sv (.one (B true))), (10, .sv (.agg [I code, I at_]))], [.box [.rd r0] 63 false, .box [I c0, I a0] 32 false]⟩ (by kernel_rfl) ?_
  refine WL.nil ?_
  refine En.cond (b := true) (by kernel_rfl) (fun hb => ?_) (fun hb => ?_)
  ·refine En.seq ?_
   refine En.region ?_
   refine WL.run ht hn 2 ⟨[(0, .sv (.one (.pptr 0 0 (Bk 0)))), (1, .sv (.one (.pptr 1 0 (Bk 1)))), (3, .sv (.one (.ptr 2 0)))], [.box [.rd r0] 63 false, .box [I c0, I a0] 32 false, .box [I code, I at_] 108 false]⟩ (by kernel_rfl) ?_
   refine WL.nil ?_
   refine En.regionA ⟨[(0, .sv (.one (.pptr 0 0 (Bk 0)))), (1, .sv (.one (.pptr 1 0 (Bk 1)))), (3, .sv (.one (.ptr 2 0)))], [.sv (.one (.ptr 2 0)), .sv (.agg [I code, I at_]), .tup [], .tup []], [⟨.box [.rd r0] 63 false, none, none, some (2, .box [.v (.pointer none)] 63 false)⟩, ⟨.box [I c0, I a0] 32 false, none, none, some (3, .box [I code, I at_] 32 false)⟩, ⟨.box [I code, I at_] 108 false, none, none, none⟩]⟩ ⟨[(0, .sv (.one (.pptr 0 0 (Bk 0)))), (1, .sv (.one (.pptr 1 0 (Bk 1))))], [.box [.v (.pointer none)] 63 false, .box [I code, I at_] 32 false, .gone]⟩ (by kernel_rfl) hn (by kernel_rfl) (by rfl) (by kernel_rfl) ?_ (by kernel_rfl) ?_
   ·exact ⟨.mt ⟨[(3, .sv (.one (.ptr 2 0)))], []⟩ [] none (by kernel_rfl) (by rfl) (mt_ev ht (by kernel_rfl)) rfl rfl rfl rfl,
  .mt ⟨[(11, .sv (.one (.ptr 2 0)))], [.gone, .gone, .box [I code, I at_] 108 false]⟩ [] none (by kernel_rfl) (by rfl) (mt_ev ht (by kernel_rfl)) rfl rfl rfl rfl,
  .mu ⟨[(0, .sv (.one (.pptr 0 0 (Bk 0))))], [.box [.rd r0] 63 false]⟩ 0 _ _ rfl rfl (by kernel_rfl) (by rfl) (mu_store2 ht rfl (by rfl) (by rfl) (by rfl) (by rfl) (fun h => by cases h) (by rfl) (by rfl)) rfl rfl rfl rfl rfl rfl rfl,
  .mu ⟨[(1, .sv (.one (.pptr 1 0 (Bk 1)))), (12, .sv (.agg [I code, I at_]))], [.gone, .box [I c0, I a0] 32 false]⟩ 1 _ _ rfl rfl (by kernel_rfl) (by rfl) (mu_store2 ht rfl (by rfl) (by rfl) (by rfl) (by rfl) (fun h => by cases h) (by rfl) (by rfl)) rfl rfl rfl rfl rfl rfl rfl,
  trivial⟩
   ·refine En.boxTurn (.rd (optR bLab none)) 0 0 (by rfl) (by rfl) optNil ?_
    exact En.backE [0, 1] ht () trivial (by kernel_rfl) (by rfl) rfl
  ·cases hb
theorem braIdle (r0 : Rd) (c0 a0 : Int) : CtD 46 [.box [.rd r0] 63 false, .box [I c0, I a0] 32 false] [.box [.rd r0] 63 false, .box [I c0, I a0] 32 false] (.returning) (.returning) := by
 have ht := tab_ok
 refine CtD.body (pv := .nilIface) (d := 5) Try.func46 rfl rfl rfl (by kernel_rfl) (by kernel_rfl) (by kernel_rfl) rfl rfl rfl (fun c₀ cs hm => by simp [recoverD, hm]) trivial (fun c Bk hn => ?_)
 have h : True := trivial
 refine En.block ?_
 refine En.seq ?_
 refine En.region ?_
 refine WL.val hn (by rfl) (val_nilNil rfl (by rfl) (by rfl) (fun w => by kernel_rfl)) (by rfl) ?_
 refine WL.nil ?_
 refine En.cond (b := true) (by kernel_rfl) (fun hb => ?_) (fun hb => ?_)
 ·refine En.region ?_
  refine WL.run ht hn 1 ⟨[(0, .sv (.one (.pptr 0 0 (Bk 0)))), (1, .sv (.one (.pptr 1 0 (Bk 1))))], [.box [.rd r0] 63 false, .box [I c0, I a0] 32 false]⟩ (by kernel_rfl) ?_
  refine WL.nil ?_
  exact En.backE [0, 1] ht () trivial (by kernel_rfl) (by rfl) rfl
 ·cases hb
def bParse_vc (text : ByteArray) (Q : (Option (Tr BLab) × ApiFault) → Prop) : Prop :=
 IfP (decide ((text.size : Int) > 4000)) (Q (none, ApiFault.mk 1 0)) ((bOk (4 * text.size + 4) 2 text ⟨0, 0, 0⟩) ∧
 ((pB text (4 * text.size + 4) 2 ⟨0, 0, 0⟩) = none → (∀ code at_ : Int, code ≠ 0 → Q (none, ApiFault.mk code at_))) ∧ ∀ r, (pB text (4 * text.size + 4) 2 ⟨0, 0, 0⟩) = some r →
 (IfP (decide ((r.2.pos) < (text.size : Int))) (((4 : Int) ≠ 0) ∧
 (∀ code at_ : Int, code ≠ 0 → Q (none, ApiFault.mk code at_))) (Q ((some (r.1)), ApiFault.mk 0 0))))
noncomputable abbrev qbParse0 := ([.box [.v (.pointer none)] 63 false, .box [I 0, I 0] 32 false] : List Item)
noncomputable abbrev qbParse1 (text : ByteArray) (y0) (y1 : Int) (y2 : Int) (y3 : Int) := ([.box [.rd (trR bLab y0)] 63 false, .box [I 0, I 0] 32 false, .box [.v (.string text), I y1, I y2, I y3] 111 false] : List Item)
theorem bParse_walk (text : ByteArray) (Q : (Option (Tr BLab) × ApiFault) → Prop) (h : bParse_vc text Q) : Ct 21 [.sv (.one (.v (.string text)))] [] Q (fun (r : (Option (Tr BLab) × ApiFault)) => .tup [.one (.rd (optR bLab r.1)), .agg [I r.2.fCode, I r.2.fAt]]) := by
 have ht := tab_ok
 refine Ct.bodyD Try.func21 rfl rfl rfl (fun c R hn hdf hR hpan => ?_)
 unfold bParse_vc at h
 refine En.sr ?_
 refine WL.rn ht hn 2 ⟨[sl 0 (.v (.string text)), sl 2 (.ptr 0 0), sl 3 (.ptr 1 0)], (qbParse0)⟩ ?_
 refine En.seq ?_
 refine En.sr ?_
 refine WL.r ht hn 1 ⟨[sl 0 (.v (.string text)), sl 2 (.ptr 0 0), sl 3 (.ptr 1 0), sl 5 (.v (.string text))], (qbParse0)⟩ ?_
 refine WL.v hn (val_lenS (s := text) rfl Try.underlying9 (by rfl)) ?_
 refine WL.rn ht hn 1 ⟨[sl 0 (.v (.string text)), sl 2 (.ptr 0 0), sl 3 (.ptr 1 0), sl 7 (B (decide ((text.size : Int) > 4000)))], (qbParse0)⟩ ?_
 refine En.cd (b := (decide ((text.size : Int) > 4000))) (fun hb => ?_) (fun hb => ?_)
 replace h := h.1 hb
 refine En.sr ?_
 refine WL.rn ht hn 3 ⟨[sl 2 (.ptr 0 0), sl 3 (.ptr 1 0)], [.box [.v (.pointer none)] 63 false, .box [I 1, I 0] 32 false]⟩ ?_
 refine En.ret ?_
 refine En.boxTurn (.rd (optR bLab none)) 0 0 (by rfl) (by rfl) optNil ?_
 exact En.backD0 ht rfl hR hdf (none, ApiFault.mk 1 0) h (by kernel_rfl) rfl
 replace h := h.2 hb
 refine En.skip ?_
 refine En.sr ?_
 refine WL.r ht hn 1 ⟨[sl 0 (.v (.string text)), sl 2 (.ptr 0 0), sl 3 (.ptr 1 0), sl 9 (.fn 46 [0, 1])], (qbParse0)⟩ ?_
 refine WL.defer (F := 46) (t0 := 2) (t1 := 3) (d := 9) (i := 0) (j := 1) (by rfl) rfl rfl (by rfl) (by rfl) (by rfl) hdf (fun c' Bk hn' hw0 hg0 hm0 hpn hdf => ?_)
 replace hR := hR_cast hw0 hg0 hm0 hR
 replace hpan := hpan_cast hpn hpan
 replace hn := hn'.trans hn
 clear hn' hw0 hg0 hm0
 refine WL.sub ⟨[sl 0 (.v (.string text)), sl 2 (.pptr 0 0 (Bk 0)), sl 3 (.pptr 1 0 (Bk 1)), sl 9 (.fn 46 [0, 1])], (qbParse0)⟩ (by kernel_rfl) ?_
 refine WL.boxTurn (.rd (optR bLab none)) 0 0 (by rfl) (by rfl) optNil ?_
 refine WL.nil ?_
 refine En.cfg hpn ?_
 refine En.sr ?_
 refine WL.rn ht hn 4 ⟨[sl 0 (.v (.string text)), sl 2 (.pptr 0 0 (Bk 0)), sl 3 (.pptr 1 0 (Bk 1)), sl 4 (.ptr 2 0)], [.box [.rd (optR bLab none)] 63 false, .box [I 0, I 0] 32 false, .box [.v (.string text), I 0, I 0, I 0] 111 false]⟩ ?_
 refine En.sr ?_
 refine WL.r ht hn 1 ⟨[sl 0 (.v (.string text)), sl 2 (.pptr 0 0 (Bk 0)), sl 3 (.pptr 1 0 (Bk 1)), sl 4 (.ptr 2 0), sl 13 (.ptr 2 0)], [.box [.rd (optR bLab none)] 63 false, .box [I 0, I 0] 32 false, .box [.v (.string text), I 0, I 0, I 0] 111 false]⟩ ?_
 obtain ⟨hp, h⟩ := h
 refine splitO (pB text (4 * text.size + 4) 2 ⟨0, 0, 0⟩) (fun hr_2 => ?_) (fun r hr_2 => ?_)
 exact WL.cX (bI2_bad _ (brAll _) text 0 0 0 hp hr_2) en47 [2] rfl (leftD (ty := 108) 2 3 0 1 ht rfl hR hpan hdf (by rfl) (by rfl) (fun code at_ hc => braCatch (optR bLab none) 0 0 code at_ hc) en46 (by kernel_rfl) (by kernel_rfl) (by decide) (by rfl) (fun _ _ => by rfl) (fun _ _ => Nat.le_of_ble_eq_true rfl) (fun _ _ => by rfl) (fun _ _ => rfl) (fun code at_ => (none, ApiFault.mk code at_)) (fun code at_ hc => (h.1 hr_2) code at_ hc) (fun _ _ => by kernel_rfl) (fun _ _ => rfl))
 replace h := h.2 r hr_2
 refine WL.cE (bI2_ok _ (brAll _) text 0 0 0 hp r hr_2) en47 [2] hn rfl ?_
 refine WL.rn ht hn 1 ⟨[sl 0 (.v (.string text)), sl 2 (.pptr 0 0 (Bk 0)), sl 3 (.pptr 1 0 (Bk 1)), sl 4 (.ptr 2 0)], (qbParse1 text r.1 r.2.pos r.2.deep r.2.cnt)⟩ ?_
 refine En.seq ?_
 refine En.sr ?_
 refine WL.r ht hn 5 ⟨[sl 2 (.pptr 0 0 (Bk 0)), sl 3 (.pptr 1 0 (Bk 1)), sl 4 (.ptr 2 0), sl 18 (I r.2.pos), sl 19 (.v (.string text))], (qbParse1 text r.1 r.2.pos r.2.deep r.2.cnt)⟩ ?_
 refine WL.v hn (val_lenS (s := text) rfl Try.underlying9 (by rfl)) ?_
 refine WL.rn ht hn 1 ⟨[sl 2 (.pptr 0 0 (Bk 0)), sl 3 (.pptr 1 0 (Bk 1)), sl 4 (.ptr 2 0), sl 21 (B (decide (r.2.pos < (text.size : Int))))], (qbParse1 text r.1 r.2.pos r.2.deep r.2.cnt)⟩ ?_
 refine En.cd (b := (decide (r.2.pos < (text.size : Int)))) (fun hb => ?_) (fun hb => ?_)
 replace h := h.1 hb
 refine En.region ?_
 refine WL.r ht hn 1 ⟨[sl 2 (.pptr 0 0 (Bk 0)), sl 3 (.pptr 1 0 (Bk 1)), sl 22 (.ptr 2 0)], (qbParse1 text r.1 r.2.pos r.2.deep r.2.cnt)⟩ ?_
 obtain ⟨hp, h⟩ := h
 exact WL.cX (bFail_ct text r.2.pos r.2.deep r.2.cnt 4 hp) en48 [2] rfl (leftD (ty := 108) 2 3 0 1 ht rfl hR hpan hdf (by rfl) (by rfl) (fun code at_ hc => braCatch (trR bLab r.1) 0 0 code at_ hc) en46 (by kernel_rfl) (by kernel_rfl) (by decide) (by rfl) (fun _ _ => by rfl) (fun _ _ => Nat.le_of_ble_eq_true rfl) (fun _ _ => by rfl) (fun _ _ => rfl) (fun code at_ => (none, ApiFault.mk code at_)) (fun code at_ hc => h code at_ hc) (fun _ _ => by kernel_rfl) (fun _ _ => rfl))
 replace h := h.2 hb
 refine En.skip ?_
 refine En.sr ?_
 refine WL.rn ht hn 4 ⟨[sl 2 (.pptr 0 0 (Bk 0)), sl 3 (.pptr 1 0 (Bk 1))], [.box [.rd (trR bLab r.1)] 63 false, .box [I 0, I 0] 32 false, .gone]⟩ ?_
 refine En.ret ?_
 refine En.boxTurn (.rd (optR bLab (some r.1))) 0 0 (by rfl) (by rfl) optSome ?_
 exact En.backD 2 3 0 1 ht rfl hR hdf (by rfl) (by rfl) (braIdle (optR bLab (some r.1)) 0 0) en46 (by kernel_rfl) (by decide) (by rfl) (by rfl) (Nat.le_of_ble_eq_true rfl) (by rfl) rfl ((some r.1), ApiFault.mk 0 0) h (by kernel_rfl) rfl
theorem en21 : ∀ args w, (callFunc 21 args).run Try.prog w = .ok (.enter 21 args) w := enters_of Try.func21 (by kernel_rfl) rfl
def fullB (text : ByteArray) : Option BTr := if 4000 < text.size then none else match pB text (4 * text.size + 4) 2 ⟨0, 0, 0⟩ with
 | none => none
 | some r => if r.2.pos < text.size then none else some r.1
def ParsedB (text : ByteArray) (r : Option BTr × ApiFault) : Prop := (r.1 = none ∧ r.2.fCode ≠ 0 ∧ fullB text = none) ∨ ∃ t, fullB text = some t ∧ r = (some t, ⟨0, 0⟩)
theorem fullB_some {text : ByteArray} {t : BTr} (h : fullB text = some t) : text.size ≤ 4000 ∧ Shp 30 t ∧ qB text (4 * text.size + 4) 2 0 = some (t, (text.size : Int)) := by
 unfold fullB at h
 split at h
 ·cases h
 rename_i hz
 split at h
 ·cases h
 rename_i r hr
 split at h
 ·cases h
 rename_i he
 cases h
 have hz : text.size ≤ 4000 := by omega
 obtain ⟨_, g2, _, _, g5, g6⟩ := pB_good _ _ ⟨0, 0, 0⟩ r hz (show gB text ⟨0, 0, 0⟩ from ⟨⟨by decide, Int.natCast_nonneg _⟩, ⟨by decide, by decide⟩, by decide, by decide⟩) hr
 obtain ⟨⟨_, q1⟩, ⟨n0, n1⟩, _⟩ := g2
 refine ⟨hz, g5.mono (by show (r.2.cnt - 0).toNat ≤ 30; omega), ?_⟩
 have : r.2.pos = (text.size : Int) := by omega
 rw [← this]
 exact g6
theorem bParse_ct (text : ByteArray) : Ct 21 [.sv (.one (.v (.string text)))] [] (ParsedB text) (fun (r : (Option (Tr BLab) × ApiFault)) => .tup [.one (.rd (optR bLab r.1)), .agg [I r.2.fCode, I r.2.fAt]]) := by
 refine bParse_walk text (ParsedB text) ?_
 unfold bParse_vc
 refine ⟨fun hb => .inl ⟨rfl, by show (1 : Int) ≠ 0; decide, ?_⟩, fun hb => ?_⟩
 ·have := of_decide_eq_true hb
  unfold fullB
  rw [if_pos (by omega)]
 have hz : text.size ≤ 4000 := by have := of_decide_eq_false hb; omega
 have hg : gB text ⟨0, 0, 0⟩ := ⟨⟨by decide, Int.natCast_nonneg _⟩, ⟨by decide, by decide⟩, by decide, by decide⟩
 refine ⟨bOk_of hz hg (by show 4 * ((text.size : Int) - 0) + 2 < ((4 * text.size + 4 : Nat) : Int); omega), fun hn code at_ hc => .inl ⟨rfl, hc, ?_⟩, fun r hr => ⟨fun hb2 => ⟨by decide, fun code at_ hc => .inl ⟨rfl, hc, ?_⟩⟩, fun hb2 => .inr ⟨r.1, ?_, rfl⟩⟩⟩
 ·unfold fullB
  rw [if_neg (by omega), hn]
 ·have := of_decide_eq_true hb2
  unfold fullB
  rw [if_neg (by omega), hr]
  exact if_pos this
 ·have := of_decide_eq_false hb2
  unfold fullB
  rw [if_neg (by omega), hr]
  exact if_neg this
end Go.Proofs.Ytiejmeedkhkfgaa
