/- Lemmas towards the statement: mirrors of functions, and plain laws. No condition. -/
import Derived.Test.YtiejmeedkhkfgaaPackBranchTurns3


namespace Go.Proofs.Ytiejmeedkhkfgaa
open Go.RowKit Go.MapKept
set_option linter.unusedSimpArgs false
set_option linter.unusedVariables false
set_option maxRecDepth 100000
structure BLab where
 fSign : Int
 fAll : Bool
 fLetter : Int
deriving DecidableEq, Inhabited
def bLab (a : BLab) : List Value := [.int .u8 a.fSign, .bool a.fAll, .int .i64 a.fLetter]
theorem bLabH : ∀ a, ∀ c ∈ bLab a, cellV c := fun a c h => by
 simp only [bLab, List.mem_cons, List.not_mem_nil, or_false] at h
 rcases h with rfl | rfl | rfl <;> trivial
def bch (text : ByteArray) (i : Int) : Int := (byteAt text i).getD 0
theorem bAt_ok {text : ByteArray} {i : Int} (h0 : 0 ≤ i) (h1 : i < text.size) : byteAt text i = some (bch text i) := by
 unfold bch byteAt
 rw [if_pos h0]
 have : i.toNat < text.size := by omega
 simp [this]
theorem bch_end {text : ByteArray} {i : Int} (h1 : text.size ≤ i) : bch text i = 0 := by
 unfold bch byteAt
 split
 ·have : ¬ i.toNat < text.size := by omega
  simp [this]
 ·rfl
theorem bch_lt {text : ByteArray} {p : Int} (h : bch text p ≠ 0) : p < text.size := by
 by_cases hh : p < text.size
 ·exact hh
 ·exact absurd (bch_end (by omega)) h
structure BS where
 pos : Int
 deep : Int
 cnt : Int
abbrev BTr := Tr BLab
def bn (sign : Int) (all : Bool) (letter : Int) (kids : List BTr) : BTr := .node ⟨sign, all, letter⟩ kids
def bcnt (s : BS) : Option BS := if s.cnt + 1 > 30 then none else some ⟨s.pos + 1, s.deep, s.cnt + 1⟩
def bopen (s : BS) : Option BS := if s.deep = 40 then none else some ⟨s.pos + 1, s.deep + 1, s.cnt⟩
def bwant (c : Int) (text : ByteArray) (s : BS) : Option BS := if bch text s.pos = c then some ⟨s.pos + 1, s.deep, s.cnt⟩ else none
def bshut (text : ByteArray) (s : BS) : Option BS := (bwant 41 text s).bind fun s => some ⟨s.pos, s.deep - 1, s.cnt⟩
def wayB (rec0 rec3 : BS → Option (BTr × BS)) (all : Bool) (text : ByteArray) (s : BS) : Option (BTr × BS) := (bcnt s).bind fun s1 =>
 if bch text s1.pos = 88 ∨ bch text s1.pos = 70 ∨ bch text s1.pos = 71 then (rec0 ⟨s1.pos + 1, s1.deep, s1.cnt⟩).bind fun r => some (bn (bch text s1.pos) all 0 [r.1], r.2)
 else if bch text s1.pos = 40 then (bopen s1).bind fun s2 => (rec3 s2).bind fun a => (bwant 85 text a.2).bind fun s3 => (rec3 s3).bind fun b => (bshut text b.2).bind fun s4 => some (bn 85 all 0 [a.1, b.1], s4)
 else none
def parB (rec0 rec3 : BS → Option (BTr × BS)) (text : ByteArray) (s : BS) : Option (BTr × BS) :=
 if bch text s.pos = 48 ∨ bch text s.pos = 49 then (bcnt s).bind fun s1 => some (bn (bch text s.pos) false 0 [], s1)
 else if 97 ≤ bch text s.pos ∧ bch text s.pos ≤ 100 then (bcnt s).bind fun s1 => some (bn 97 false (bch text s.pos - 97) [], s1)
 else if bch text s.pos = 33 then (bcnt s).bind fun s1 => (rec0 s1).bind fun r => some (bn 33 false 0 [r.1], r.2)
 else if bch text s.pos = 69 ∨ bch text s.pos = 65 then wayB rec0 rec3 (decide (bch text s.pos = 65)) text s
 else if bch text s.pos = 40 then (bopen s).bind fun s1 => (rec3 s1).bind fun r => (bshut text r.2).bind fun s2 => some (r.1, s2)
 else none
def lopBL (ch : Int) (rec : BS → Option (BTr × BS)) (text : ByteArray) : Nat → BTr → BS → Option (BTr × BS)
 | 0, _, _ => none
 | m + 1, t, s => if bch text s.pos = ch then (bcnt s).bind fun s1 => (rec s1).bind fun r => lopBL ch rec text m (bn ch false 0 [t, r.1]) r.2 else some (t, s)
def lopB (ch : Int) (rec : BS → Option (BTr × BS)) (text : ByteArray) (s : BS) : Option (BTr × BS) := (rec s).bind fun r => lopBL ch rec text (text.size + 1) r.1 r.2
def pB (text : ByteArray) : Nat → Nat → BS → Option (BTr × BS)
 | 0, _, _ => none
 | k + 1, 0, s => parB (pB text k 0) (pB text k 2) text s
 | k + 1, 1, s => lopB 38 (pB text k 0) text s
 | k + 1, _, s => lopB 124 (pB text k 1) text s
def gB (text : ByteArray) (s : BS) : Prop := (0 ≤ s.pos ∧ s.pos ≤ text.size) ∧ (0 ≤ s.cnt ∧ s.cnt ≤ 30) ∧ (0 ≤ s.deep ∧ s.deep ≤ 40)
def bOk (k kd : Nat) (text : ByteArray) (s : BS) : Prop := text.size ≤ 4000 ∧ 4 * (text.size - s.pos) + kd < k ∧ gB text s
def Shp : Nat → BTr → Prop
 | 0, _ => False
 | k + 1, .node a kids => ((a.fSign = 48 ∨ a.fSign = 49 ∨ a.fSign = 97) ∧ kids = []) ∨ ((a.fSign = 33 ∨ a.fSign = 88 ∨ a.fSign = 70 ∨ a.fSign = 71) ∧ ∃ x, kids = [x] ∧ Shp k x) ∨ ((a.fSign = 38 ∨ a.fSign = 124 ∨ a.fSign = 85) ∧ ∃ x y, kids = [x, y] ∧ Shp k x ∧ Shp k y)
theorem Shp.mono : ∀ {k k' : Nat} {t : BTr}, Shp k t → k ≤ k' → Shp k' t
 | 0, _, _, h, _ => h.elim
 | k + 1, 0, _, _, h => absurd h (by omega)
 | k + 1, k' + 1, .node a kids, h, hk => by
  rcases h with h | ⟨h, x, e, hx⟩ | ⟨h, x, y, e, hx, hy⟩
  ·exact .inl h
  ·exact .inr (.inl ⟨h, x, e, hx.mono (by omega)⟩)
  ·exact .inr (.inr ⟨h, x, y, e, hx.mono (by omega), hy.mono (by omega)⟩)
def wayQ (rec0 rec3 : Int → Option (BTr × Int)) (all : Bool) (text : ByteArray) (p : Int) : Option (BTr × Int) :=
 if bch text (p + 1) = 88 ∨ bch text (p + 1) = 70 ∨ bch text (p + 1) = 71 then (rec0 (p + 1 + 1)).bind fun r => some (bn (bch text (p + 1)) all 0 [r.1], r.2)
 else if bch text (p + 1) = 40 then (rec3 (p + 1 + 1)).bind fun a => if bch text a.2 = 85 then (rec3 (a.2 + 1)).bind fun b => if bch text b.2 = 41 then some (bn 85 all 0 [a.1, b.1], b.2 + 1) else none else none
 else none
def parQ (rec0 rec3 : Int → Option (BTr × Int)) (text : ByteArray) (p : Int) : Option (BTr × Int) :=
 if bch text p = 48 ∨ bch text p = 49 then some (bn (bch text p) false 0 [], p + 1)
 else if 97 ≤ bch text p ∧ bch text p ≤ 100 then some (bn 97 false (bch text p - 97) [], p + 1)
 else if bch text p = 33 then (rec0 (p + 1)).bind fun r => some (bn 33 false 0 [r.1], r.2)
 else if bch text p = 69 ∨ bch text p = 65 then wayQ rec0 rec3 (decide (bch text p = 65)) text p
 else if bch text p = 40 then (rec3 (p + 1)).bind fun r => if bch text r.2 = 41 then some (r.1, r.2 + 1) else none
 else none
def lopQL (ch : Int) (rec : Int → Option (BTr × Int)) (text : ByteArray) : Nat → BTr → Int → Option (BTr × Int)
 | 0, _, _ => none
 | m + 1, t, p => if bch text p = ch then (rec (p + 1)).bind fun r => lopQL ch rec text m (bn ch false 0 [t, r.1]) r.2 else some (t, p)
def lopQ (ch : Int) (rec : Int → Option (BTr × Int)) (text : ByteArray) (p : Int) : Option (BTr × Int) := (rec p).bind fun r => lopQL ch rec text (text.size + 1) r.1 r.2
def qB (text : ByteArray) : Nat → Nat → Int → Option (BTr × Int)
 | 0, _, _ => none
 | k + 1, 0, p => parQ (qB text k 0) (qB text k 2) text p
 | k + 1, 1, p => lopQ 38 (qB text k 0) text p
 | k + 1, _, p => lopQ 124 (qB text k 1) text p
theorem ob {α β : Type} {x : Option α} {f : α → Option β} {a : α} (h : x = some a) : x.bind f = f a := by rw [h]; rfl
theorem ob_none {α β : Type} {x : Option α} {f : α → Option β} (h : x = none) : x.bind f = none := by rw [h]; rfl
theorem bcnt_some {s s1 : BS} (h : bcnt s = some s1) : s1 = ⟨s.pos + 1, s.deep, s.cnt + 1⟩ ∧ s.cnt + 1 ≤ 30 := by
 unfold bcnt at h
 split at h
 ·cases h
 ·cases h
  exact ⟨rfl, by omega⟩
theorem bopen_some {s s1 : BS} (h : bopen s = some s1) : s1 = ⟨s.pos + 1, s.deep + 1, s.cnt⟩ ∧ s.deep ≠ 40 := by
 unfold bopen at h
 split at h
 ·cases h
 ·cases h
  exact ⟨rfl, by assumption⟩
theorem bwant_some {c : Int} {text : ByteArray} {s s1 : BS} (h : bwant c text s = some s1) : s1 = ⟨s.pos + 1, s.deep, s.cnt⟩ ∧ bch text s.pos = c := by
 unfold bwant at h
 split at h
 ·cases h
  exact ⟨rfl, by assumption⟩
 ·cases h
theorem bshut_some {text : ByteArray} {s s1 : BS} (h : bshut text s = some s1) : s1 = ⟨s.pos + 1, s.deep - 1, s.cnt⟩ ∧ bch text s.pos = 41 := by
 obtain ⟨x, hx, e⟩ := Option.bind_eq_some_iff.1 h
 cases e
 obtain ⟨rfl, h2⟩ := bwant_some hx
 exact ⟨rfl, h2⟩
structure GdB (text : ByteArray) (T : Int → Option (BTr × Int)) (s : BS) (r : BTr × BS) : Prop where
 pos : s.pos < r.2.pos
 ok : gB text r.2
 deep : r.2.deep = s.deep
 cnt : s.cnt ≤ r.2.cnt
 shp : Shp (r.2.cnt - s.cnt).toNat r.1
 tree : T s.pos = some (r.1, r.2.pos)
def GoodB (text : ByteArray) (f : BS → Option (BTr × BS)) (T : Int → Option (BTr × Int)) : Prop := ∀ s r, text.size ≤ 4000 → gB text s → f s = some r → GdB text T s r
section
variable {text : ByteArray} {R0 R3 : BS → Option (BTr × BS)} {T0 T3 : Int → Option (BTr × Int)}
theorem wayB_good (h0 : GoodB text R0 T0) (h3 : GoodB text R3 T3) (all : Bool) {s : BS} {r : BTr × BS} (hz : text.size ≤ 4000) (hg : gB text s) (hlt : s.pos < text.size) (e : wayB R0 R3 all text s = some r) : GdB text (wayQ T0 T3 all text) s r := by
 obtain ⟨s1, z1, e⟩ := Option.bind_eq_some_iff.1 e
 obtain ⟨rfl, hc⟩ := bcnt_some z1
 obtain ⟨⟨p0, p1⟩, ⟨n0, n1⟩, d0, d1⟩ := hg
 simp only at e
 by_cases c1 : bch text (s.pos + 1) = 88 ∨ bch text (s.pos + 1) = 70 ∨ bch text (s.pos + 1) = 71
 ·rw [if_pos c1] at e
  have hl := bch_lt (text := text) (p := s.pos + 1) (by omega)
  obtain ⟨x, z2, e⟩ := Option.bind_eq_some_iff.1 e
  cases e
  have G := h0 _ x hz (show gB text ⟨s.pos + 1 + 1, s.deep, s.cnt + 1⟩ from ⟨⟨by show 0 ≤ s.pos + 1 + 1; omega, by show s.pos + 1 + 1 ≤ text.size; omega⟩, ⟨by show 0 ≤ s.cnt + 1; omega, hc⟩, d0, d1⟩) z2
  obtain ⟨g1, g2, g3, g4, g5, g6⟩ := G
  simp only at g1 g3 g4 g5
  refine ⟨by show s.pos < x.2.pos; omega, g2, g3, by show s.cnt ≤ x.2.cnt; omega, ?_, ?_⟩
  ·show Shp (x.2.cnt - s.cnt).toNat (bn (bch text (s.pos + 1)) all 0 [x.1])
   rw [show (x.2.cnt - s.cnt).toNat = (x.2.cnt - (s.cnt + 1)).toNat + 1 by omega]
   exact .inr (.inl ⟨.inr c1, x.1, rfl, g5⟩)
  ·unfold wayQ
   rw [if_pos c1]
   exact ob g6
 rw [if_neg c1] at e
 by_cases c2 : bch text (s.pos + 1) = 40
 ·rw [if_pos c2] at e
  have hl := bch_lt (text := text) (p := s.pos + 1) (by omega)
  obtain ⟨s2, z2, e⟩ := Option.bind_eq_some_iff.1 e
  obtain ⟨rfl, hd⟩ := bopen_some z2
  simp only at hd
  obtain ⟨a, z3, e⟩ := Option.bind_eq_some_iff.1 e
  have G := h3 _ a hz (show gB text ⟨s.pos + 1 + 1, s.deep + 1, s.cnt + 1⟩ from ⟨⟨by show 0 ≤ s.pos + 1 + 1; omega, by show s.pos + 1 + 1 ≤ text.size; omega⟩, ⟨by show 0 ≤ s.cnt + 1; omega, hc⟩, by show 0 ≤ s.deep + 1; omega, by show s.deep + 1 ≤ 40; omega⟩) z3
  obtain ⟨g1, ⟨⟨q0, q1⟩, ⟨m0, m1⟩, f0, f1⟩, g3, g4, g5, g6⟩ := G
  simp only at g1 g3 g4 g5
  obtain ⟨s3, z4, e⟩ := Option.bind_eq_some_iff.1 e
  obtain ⟨rfl, hw⟩ := bwant_some z4
  have hl2 := bch_lt (text := text) (p := a.2.pos) (by omega)
  obtain ⟨b, z5, e⟩ := Option.bind_eq_some_iff.1 e
  have G2 := h3 _ b hz (show gB text ⟨a.2.pos + 1, a.2.deep, a.2.cnt⟩ from ⟨⟨by show 0 ≤ a.2.pos + 1; omega, by show a.2.pos + 1 ≤ text.size; omega⟩, ⟨m0, m1⟩, f0, f1⟩) z5
  obtain ⟨k1, ⟨⟨w0, w1⟩, ⟨v0, v1⟩, u0, u1⟩, k3, k4, k5, k6⟩ := G2
  simp only at k1 k3 k4 k5
  obtain ⟨s4, z6, e⟩ := Option.bind_eq_some_iff.1 e
  obtain ⟨rfl, hs⟩ := bshut_some z6
  have hl3 := bch_lt (text := text) (p := b.2.pos) (by omega)
  cases e
  refine ⟨by show s.pos < b.2.pos + 1; omega, ⟨⟨by show 0 ≤ b.2.pos + 1; omega, by show b.2.pos + 1 ≤ text.size; omega⟩, ⟨v0, v1⟩, by show 0 ≤ b.2.deep - 1; omega, by show b.2.deep - 1 ≤ 40; omega⟩, by show b.2.deep - 1 = s.deep; omega, by show s.cnt ≤ b.2.cnt; omega, ?_, ?_⟩
  ·show Shp (b.2.cnt - s.cnt).toNat (bn 85 all 0 [a.1, b.1])
   rw [show (b.2.cnt - s.cnt).toNat = (b.2.cnt - (s.cnt + 1)).toNat + 1 by omega]
   exact .inr (.inr ⟨.inr (.inr rfl), a.1, b.1, rfl, g5.mono (by omega), k5.mono (by omega)⟩)
  ·unfold wayQ
   rw [if_neg c1, if_pos c2]
   refine (ob g6).trans ?_
   show (if bch text a.2.pos = 85 then _ else none) = _
   rw [if_pos hw]
   refine (ob k6).trans ?_
   show (if bch text b.2.pos = 41 then _ else none) = _
   rw [if_pos hs]
 ·rw [if_neg c2] at e
  cases e
theorem parB_good (h0 : GoodB text R0 T0) (h3 : GoodB text R3 T3) : GoodB text (parB R0 R3 text) (parQ T0 T3 text) := fun s r hz hg e => by
 have hg' := hg
 obtain ⟨⟨p0, p1⟩, ⟨n0, n1⟩, d0, d1⟩ := hg
 unfold parB at e
 have hT : ∀ v, (parQ T0 T3 text s.pos = v) ↔ (parQ T0 T3 text s.pos = v) := fun _ => Iff.rfl
 by_cases c1 : bch text s.pos = 48 ∨ bch text s.pos = 49
 ·rw [if_pos c1] at e
  have hl := bch_lt (text := text) (p := s.pos) (by omega)
  obtain ⟨s1, z1, e⟩ := Option.bind_eq_some_iff.1 e
  obtain ⟨rfl, hc⟩ := bcnt_some z1
  cases e
  refine ⟨by show s.pos < s.pos + 1; omega, ⟨⟨by show 0 ≤ s.pos + 1; omega, by show s.pos + 1 ≤ text.size; omega⟩, ⟨by show 0 ≤ s.cnt + 1; omega, hc⟩, d0, d1⟩, rfl, by show s.cnt ≤ s.cnt + 1; omega, ?_, ?_⟩
  ·show Shp (s.cnt + 1 - s.cnt).toNat _
   rw [show (s.cnt + 1 - s.cnt).toNat = 0 + 1 by omega]
   exact .inl ⟨c1.elim .inl fun h => .inr (.inl h), rfl⟩
  ·unfold parQ
   rw [if_pos c1]
 rw [if_neg c1] at e
 by_cases c2 : 97 ≤ bch text s.pos ∧ bch text s.pos ≤ 100
 ·rw [if_pos c2] at e
  have hl := bch_lt (text := text) (p := s.pos) (by omega)
  obtain ⟨s1, z1, e⟩ := Option.bind_eq_some_iff.1 e
  obtain ⟨rfl, hc⟩ := bcnt_some z1
  cases e
  refine ⟨by show s.pos < s.pos + 1; omega, ⟨⟨by show 0 ≤ s.pos + 1; omega, by show s.pos + 1 ≤ text.size; omega⟩, ⟨by show 0 ≤ s.cnt + 1; omega, hc⟩, d0, d1⟩, rfl, by show s.cnt ≤ s.cnt + 1; omega, ?_, ?_⟩
  ·show Shp (s.cnt + 1 - s.cnt).toNat _
   rw [show (s.cnt + 1 - s.cnt).toNat = 0 + 1 by omega]
   exact .inl ⟨.inr (.inr rfl), rfl⟩
  ·unfold parQ
   rw [if_neg c1, if_pos c2]
 rw [if_neg c2] at e
 by_cases c3 : bch text s.pos = 33
 ·rw [if_pos c3] at e
  have hl := bch_lt (text := text) (p := s.pos) (by omega)
  obtain ⟨s1, z1, e⟩ := Option.bind_eq_some_iff.1 e
  obtain ⟨rfl, hc⟩ := bcnt_some z1
  obtain ⟨x, z2, e⟩ := Option.bind_eq_some_iff.1 e
  cases e
  obtain ⟨g1, g2, g3, g4, g5, g6⟩ := h0 _ x hz (show gB text ⟨s.pos + 1, s.deep, s.cnt + 1⟩ from ⟨⟨by show 0 ≤ s.pos + 1; omega, by show s.pos + 1 ≤ text.size; omega⟩, ⟨by show 0 ≤ s.cnt + 1; omega, hc⟩, d0, d1⟩) z2
  simp only at g1 g3 g4 g5
  refine ⟨by show s.pos < x.2.pos; omega, g2, g3, by show s.cnt ≤ x.2.cnt; omega, ?_, ?_⟩
  ·show Shp (x.2.cnt - s.cnt).toNat (bn 33 false 0 [x.1])
   rw [show (x.2.cnt - s.cnt).toNat = (x.2.cnt - (s.cnt + 1)).toNat + 1 by omega]
   exact .inr (.inl ⟨.inl rfl, x.1, rfl, g5⟩)
  ·unfold parQ
   rw [if_neg c1, if_neg c2, if_pos c3]
   exact ob g6
 rw [if_neg c3] at e
 by_cases c4 : bch text s.pos = 69 ∨ bch text s.pos = 65
 ·rw [if_pos c4] at e
  have hl := bch_lt (text := text) (p := s.pos) (by omega)
  obtain ⟨g1, g2, g3, g4, g5, g6⟩ := wayB_good h0 h3 _ hz hg' hl e
  refine ⟨g1, g2, g3, g4, g5, ?_⟩
  unfold parQ
  rw [if_neg c1, if_neg c2, if_neg c3, if_pos c4]
  exact g6
 rw [if_neg c4] at e
 by_cases c5 : bch text s.pos = 40
 ·rw [if_pos c5] at e
  have hl := bch_lt (text := text) (p := s.pos) (by omega)
  obtain ⟨s2, z2, e⟩ := Option.bind_eq_some_iff.1 e
  obtain ⟨rfl, hd⟩ := bopen_some z2
  obtain ⟨a, z3, e⟩ := Option.bind_eq_some_iff.1 e
  obtain ⟨g1, ⟨⟨q0, q1⟩, ⟨m0, m1⟩, f0, f1⟩, g3, g4, g5, g6⟩ := h3 _ a hz (show gB text ⟨s.pos + 1, s.deep + 1, s.cnt⟩ from ⟨⟨by show 0 ≤ s.pos + 1; omega, by show s.pos + 1 ≤ text.size; omega⟩, ⟨n0, n1⟩, by show 0 ≤ s.deep + 1; omega, by show s.deep + 1 ≤ 40; omega⟩) z3
  simp only at g1 g3 g4 g5
  obtain ⟨s4, z6, e⟩ := Option.bind_eq_some_iff.1 e
  obtain ⟨rfl, hs⟩ := bshut_some z6
  have hl3 := bch_lt (text := text) (p := a.2.pos) (by omega)
  cases e
  refine ⟨by show s.pos < a.2.pos + 1; omega, ⟨⟨by show 0 ≤ a.2.pos + 1; omega, by show a.2.pos + 1 ≤ text.size; omega⟩, ⟨m0, m1⟩, by show 0 ≤ a.2.deep - 1; omega, by show a.2.deep - 1 ≤ 40; omega⟩, by show a.2.deep - 1 = s.deep; omega, by show s.cnt ≤ a.2.cnt; omega, g5, ?_⟩
  unfold parQ
  rw [if_neg c1, if_neg c2, if_neg c3, if_neg c4, if_pos c5]
  refine (ob g6).trans ?_
  show (if bch text a.2.pos = 41 then _ else none) = _
  rw [if_pos hs]
 ·rw [if_neg c5] at e
  cases e
theorem lopBL_good {ch : Int} (hch : ch = 38 ∨ ch = 124) (h0 : GoodB text R0 T0) {s : BS} (hz : text.size ≤ 4000) (hg : gB text s) : ∀ (m m' : Nat) (t : BTr) (s1 : BS) (r : BTr × BS), text.size - s1.pos < m' → gB text s1 → s1.deep = s.deep → s.cnt ≤ s1.cnt → Shp (s1.cnt - s.cnt).toNat t → lopBL ch R0 text m t s1 = some r → s1.pos ≤ r.2.pos ∧ gB text r.2 ∧ r.2.deep = s.deep ∧ s.cnt ≤ r.2.cnt ∧ Shp (r.2.cnt - s.cnt).toNat r.1 ∧ lopQL ch T0 text m' t s1.pos = some (r.1, r.2.pos)
 | 0, _, _, _, _, _, _, _, _, _, e => by simp [lopBL] at e
 | m + 1, 0, _, s1, _, hm, h1, _, _, _, _ => by
  have := h1.1.2
  omega
 | m + 1, m' + 1, t, s1, r, hm, h1, hd, hn, ht, e => by
  rw [lopBL] at e
  rw [lopQL]
  by_cases hc : bch text s1.pos = ch
  ·rw [if_pos hc] at e
   rw [if_pos hc]
   have hl := bch_lt (text := text) (p := s1.pos) (by omega)
   obtain ⟨s2, z1, e⟩ := Option.bind_eq_some_iff.1 e
   obtain ⟨rfl, hc2⟩ := bcnt_some z1
   obtain ⟨x, z2, e⟩ := Option.bind_eq_some_iff.1 e
   obtain ⟨⟨p0, p1⟩, ⟨n0, n1⟩, d0, d1⟩ := h1
   obtain ⟨g1, g2, g3, g4, g5, g6⟩ := h0 _ x hz (show gB text ⟨s1.pos + 1, s1.deep, s1.cnt + 1⟩ from ⟨⟨by show 0 ≤ s1.pos + 1; omega, by show s1.pos + 1 ≤ text.size; omega⟩, ⟨by show 0 ≤ s1.cnt + 1; omega, hc2⟩, d0, d1⟩) z2
   simp only at g1 g3 g4 g5
   obtain ⟨k1, k2, k3, k4, k5, k6⟩ := lopBL_good hch h0 hz hg m m' _ x.2 r (by omega) g2 (by omega) (by omega) (by
    rw [show (x.2.cnt - s.cnt).toNat = (x.2.cnt - s.cnt - 1).toNat + 1 by omega]
    exact .inr (.inr ⟨hch.elim .inl fun h => .inr (.inl h), t, x.1, rfl, ht.mono (by omega), g5.mono (by omega)⟩)) e
   exact ⟨by omega, k2, k3, k4, k5, (ob g6).trans k6⟩
  ·rw [if_neg hc] at e
   rw [if_neg hc]
   cases e
   exact ⟨Int.le_refl _, h1, hd, hn, ht, rfl⟩
theorem lopB_good {ch : Int} (hch : ch = 38 ∨ ch = 124) (h0 : GoodB text R0 T0) : GoodB text (lopB ch R0 text) (lopQ ch T0 text) := fun s r hz hg e => by
 obtain ⟨x, z0, e⟩ := Option.bind_eq_some_iff.1 e
 obtain ⟨g1, g2, g3, g4, g5, g6⟩ := h0 s x hz hg z0
 have := hg.1.1
 obtain ⟨k1, k2, k3, k4, k5, k6⟩ := lopBL_good hch h0 hz hg (text.size + 1) (text.size + 1) x.1 x.2 r (by omega) g2 g3 g4 g5 e
 exact ⟨by omega, k2, k3, k4, k5, (ob g6).trans k6⟩
theorem pB_good : ∀ k kd, GoodB text (pB text k kd) (qB text k kd)
 | 0, _ => fun s r _ _ e => by simp [pB] at e
 | k + 1, 0 => parB_good (pB_good k 0) (pB_good k 2)
 | k + 1, 1 => lopB_good (.inl rfl) (pB_good k 0)
 | k + 1, 2 => lopB_good (.inr rfl) (pB_good k 1)
 | k + 1, n + 3 => lopB_good (.inr rfl) (pB_good k 1)
end
def bNow_vc (text : ByteArray) (pos : Int) (deep : Int) (cnt : Int) (Q : Int × Int × Int × Int → Prop) : Prop :=
 IfP (decide (pos < (text.size : Int))) (∃ b, byteAt text pos = some b ∧
 Q (b, pos, deep, cnt)) (Q (0, pos, deep, cnt))
theorem bNow_walk (text : ByteArray) (pos : Int) (deep : Int) (cnt : Int) (Q : Int × Int × Int × Int → Prop) (h : bNow_vc text pos deep cnt Q) : CtE 96 [.sv (.one (.ptr 0 0))] [.box [.v (.string text), I pos, I deep, I cnt] 111 false] [0] Q (fun (r : Int × Int × Int × Int) => .sv (.one (.v (.int .u8 r.1)))) (fun (r : Int × Int × Int × Int) => [.box [.v (.string text), I r.2.1, I r.2.2.1, I r.2.2.2] 111 false]) := by
 have ht := tab_ok
 refine CtE.body Try.func96 rfl rfl rfl (by kernel_rfl) (by kernel_rfl) (fun c Bk hn => ?_)
 unfold bNow_vc at h
 show En c ⟨[sl 0 (.pptr 0 0 (Bk 0))], [.box [.v (.string text), I pos, I deep, I cnt] 111 false]⟩ _
 refine En.seq ?_
 refine En.region ?_
 refine WL.run ht hn 1 ⟨[sl 0 (.pptr 0 0 (Bk 0))], [.box [.v (.string text), I pos, I deep, I cnt] 111 false]⟩ (by kernel_rfl) ?_
 refine WL.nil ?_
 refine En.seq ?_
 refine En.seq ?_
 refine En.regionS (by kernel_rfl) (by kernel_rfl) ?_
 refine SL.run ht hn 8 ⟨[sl 0 (.pptr 0 0 (Bk 0)), sl 3 (.ptr 0 0), sl 4 (.ptr 0 0), sl 5 (.ptr 0 1), sl 6 (I pos), sl 7 (.ptr 0 0), sl 8 (.ptr 0 0), sl 9 (.ptr 0 0), sl 10 (.v (.string text))], [.box [.v (.string text), I pos, I deep, I cnt] 111 false]⟩ (by kernel_rfl) ?_
 refine SL.val hn (by rfl) (val_lenS (s := text) rfl Try.underlying9 (by rfl)) (by rfl) ?_
 refine SL.run ht hn 1 ⟨[sl 0 (.pptr 0 0 (Bk 0)), sl 3 (.ptr 0 0), sl 4 (.ptr 0 0), sl 5 (.ptr 0 1), sl 6 (I pos), sl 7 (.ptr 0 0), sl 8 (.ptr 0 0), sl 9 (.ptr 0 0), sl 10 (.v (.string text)), sl 11 (I (text.size : Int)), sl 12 (B (decide (pos < (text.size : Int))))], [.box [.v (.string text), I pos, I deep, I cnt] 111 false]⟩ (by kernel_rfl) ?_
 refine SL.nil ⟨by kernel_rfl, ?_⟩
 refine En.cond (b := (decide (pos < (text.size : Int)))) (by kernel_rfl) (fun hb => ?_) (fun hb => ?_)
 replace h := h.1 hb
 refine En.seq ?_
 obtain ⟨b, hb_2, h⟩ := h
 refine En.regionA ⟨[sl 0 (.pptr 0 0 (Bk 0))], [.sv (.one (.ptr 0 0)), .sv (.one (.ptr 0 0)), .sv (.one (.ptr 0 0)), .sv (.one (.v (.string text))), .sv (.one (.ptr 0 0)), .sv (.one (.ptr 0 0)), .sv (.one (.ptr 0 1)), .sv (.one (I pos)), .sv (.one (.v (.int .u8 b))), .sv (.one (.v (.int .u8 b)))], [⟨.box [.v (.string text), I pos, I deep, I cnt] 111 false, none, none, none⟩]⟩ ⟨[sl 0 (.pptr 0 0 (Bk 0)), sl 2 (.v (.int .u8 b))], [.box [.v (.string text), I pos, I deep, I cnt] 111 false]⟩ (by kernel_rfl) hn (by kernel_rfl) (by rfl) (by kernel_rfl) ?_ (by kernel_rfl) ?_
 exact ⟨.mt ⟨[sl 0 (.pptr 0 0 (Bk 0))], []⟩ [] none (by kernel_rfl) (by rfl) (mt_ev ht (by kernel_rfl)) rfl rfl rfl rfl,
 .mt ⟨[sl 13 (.ptr 0 0)], []⟩ [] none (by kernel_rfl) (by rfl) (mt_ev ht (by kernel_rfl)) rfl rfl rfl rfl,
 .mt ⟨[sl 14 (.ptr 0 0)], []⟩ [] none (by kernel_rfl) (by rfl) (mt_ev ht (by kernel_rfl)) rfl rfl rfl rfl,
 .mt ⟨[sl 15 (.ptr 0 0)], [.box [.v (.string text), I pos, I deep, I cnt] 111 false]⟩ [] none (by kernel_rfl) (by rfl) (mt_ev ht (by kernel_rfl)) rfl rfl rfl rfl,
 .mt ⟨[sl 0 (.pptr 0 0 (Bk 0))], []⟩ [] none (by kernel_rfl) (by rfl) (mt_ev ht (by kernel_rfl)) rfl rfl rfl rfl,
 .mt ⟨[sl 17 (.ptr 0 0)], []⟩ [] none (by kernel_rfl) (by rfl) (mt_ev ht (by kernel_rfl)) rfl rfl rfl rfl,
 .mt ⟨[sl 18 (.ptr 0 0)], []⟩ [] none (by kernel_rfl) (by rfl) (mt_ev ht (by kernel_rfl)) rfl rfl rfl rfl,
 .mt ⟨[sl 19 (.ptr 0 1)], [.box [.v (.string text), I pos, I deep, I cnt] 111 false]⟩ [] none (by kernel_rfl) (by rfl) (mt_ev ht (by kernel_rfl)) rfl rfl rfl rfl,
 .mt ⟨[sl 16 (.v (.string text)), sl 20 (I pos)], []⟩ [] none (by kernel_rfl) (by rfl) (mt_val (val_indexS (s := text) (i := pos) rfl Try.underlying9 (by rfl) (by rfl) hb_2)) rfl rfl rfl rfl,
 .mt ⟨[sl 21 (.v (.int .u8 b))], []⟩ [] none (by kernel_rfl) (by rfl) (mt_ev ht (by kernel_rfl)) rfl rfl rfl rfl,
 trivial⟩
 refine En.ret ?_
 exact En.backE [0] ht (b, pos, deep, cnt) h (by kernel_rfl) (by rfl) rfl
 replace h := h.2 hb
 refine En.skip ?_
 refine En.seq ?_
 refine En.region ?_
 refine WL.run ht hn 1 ⟨[sl 0 (.pptr 0 0 (Bk 0)), sl 2 (.v (.int .u8 0))], [.box [.v (.string text), I pos, I deep, I cnt] 111 false]⟩ (by kernel_rfl) ?_
 refine WL.nil ?_
 refine En.ret ?_
 exact En.backE [0] ht (0, pos, deep, cnt) h (by kernel_rfl) (by rfl) rfl
theorem en96 : ∀ args w, (callFunc 96 args).run Try.prog w = .ok (.enter 96 args) w := enters_of Try.func96 (by kernel_rfl) rfl
theorem bNow_ct (text : ByteArray) (pos : Int) (deep : Int) (cnt : Int) (hp : 0 ≤ pos)  : CtE 96 [.sv (.one (.ptr 0 0))] [.box [.v (.string text), I pos, I deep, I cnt] 111 false] [0] (fun (_ : Unit) => True) (fun _ => .sv (.one (.v (.int .u8 (bch text pos))))) (fun _ => [.box [.v (.string text), I (pos), I (deep), I (cnt)] 111 false]) := by
 refine (bNow_walk text pos deep cnt (fun res_ => res_ = (bch text pos, pos, deep, cnt)) ?_).imp (fun r hr => ⟨(), trivial, by subst hr; rfl, by subst hr; rfl⟩)
 unfold bNow_vc
 refine ⟨fun h => ⟨_, bAt_ok hp (of_decide_eq_true h), rfl⟩, fun h => ?_⟩
 rw [bch_end (by have := of_decide_eq_false h; omega)]
theorem en48 : ∀ args w, (callFunc 48 args).run Try.prog w = .ok (.enter 48 args) w := enters_of Try.func48 (by kernel_rfl) rfl
theorem bFail_ct (text : ByteArray) (pos deep cnt : Int) (code : Int) (hp : code ≠ 0) : CtX 48 [.sv (.one (.ptr 0 0)), .sv (.one (I code))] [.box [.v (.string text), I pos, I deep, I cnt] 111 false] (psStop 108) := by
 have ht := tab_ok
 refine CtP.toX (β := Unit) (pin := [0]) (out := fun _ => .tup []) (M1 := fun _ => []) (P := True) ?_
 refine CtP.body Try.func48 rfl rfl rfl (by kernel_rfl) (by kernel_rfl) (fun c Bk hn hpan => ?_)
 show En c ⟨[(0, .sv (.one (.pptr 0 0 (Bk 0)))), (1, .sv (.one (I code)))], [.box [.v (.string text), I pos, I deep, I cnt] 111 false]⟩ _
 refine En.region ?_
 refine WL.run ht hn 7 ⟨[(10, .sv (.agg [I code, I pos]))], [.box [.v (.string text), I pos, I deep, I cnt] 111 false]⟩ (by kernel_rfl) ?_
 exact WL.panicI (code := code) (at_ := pos) hn (by rfl) rfl rfl (by rfl) Try.underlying108 (by rfl) (by rfl) rfl rfl hp hpan trivial
theorem bOk_of {k kd : Nat} {text : ByteArray} {s : BS} (hz : text.size ≤ 4000) (hg : gB text s) (hk : 4 * ((text.size : Int) - s.pos) + (kd : Int) < (k : Int)) : bOk k kd text s := ⟨hz, hk, hg⟩
theorem cnt_g {text : ByteArray} {s s1 : BS} (hg : gB text s) (hl : s.pos < text.size) (h : bcnt s = some s1) : gB text s1 ∧ s1.pos = s.pos + 1 := by
 obtain ⟨rfl, hc⟩ := bcnt_some h
 obtain ⟨⟨p0, p1⟩, ⟨n0, n1⟩, d0, d1⟩ := hg
 exact ⟨⟨⟨by show 0 ≤ s.pos + 1; omega, by show s.pos + 1 ≤ text.size; omega⟩, ⟨by show 0 ≤ s.cnt + 1; omega, hc⟩, d0, d1⟩, rfl⟩
theorem open_g {text : ByteArray} {s s1 : BS} (hg : gB text s) (hl : s.pos < text.size) (h : bopen s = some s1) : gB text s1 ∧ s1.pos = s.pos + 1 := by
 obtain ⟨rfl, hc⟩ := bopen_some h
 obtain ⟨⟨p0, p1⟩, ⟨n0, n1⟩, d0, d1⟩ := hg
 exact ⟨⟨⟨by show 0 ≤ s.pos + 1; omega, by show s.pos + 1 ≤ text.size; omega⟩, ⟨n0, n1⟩, by show 0 ≤ s.deep + 1; omega, by show s.deep + 1 ≤ 40; omega⟩, rfl⟩
theorem want_g {c : Int} (hc : c ≠ 0) {text : ByteArray} {s s1 : BS} (hg : gB text s) (h : bwant c text s = some s1) : gB text s1 ∧ s1.pos = s.pos + 1 := by
 obtain ⟨rfl, hw⟩ := bwant_some h
 have hl := bch_lt (text := text) (p := s.pos) (by omega)
 obtain ⟨⟨p0, p1⟩, ⟨n0, n1⟩, d0, d1⟩ := hg
 exact ⟨⟨⟨by show 0 ≤ s.pos + 1; omega, by show s.pos + 1 ≤ text.size; omega⟩, ⟨n0, n1⟩, d0, d1⟩, rfl⟩
theorem let_in {c : Int} (h0 : 97 ≤ c) (h1 : c ≤ 100) : wr (IntKind.wrap .u8 (c - 97)) = c - 97 := by
 have : IntKind.wrap .u8 (c - 97) = c - 97 := by
  show (c - 97) % 256 = c - 97
  exact Int.emod_eq_of_lt (by omega) (by omega)
 rw [this, wr_in (by omega) (by omega)]
def bWnt_vc (text : ByteArray) (pos : Int) (deep : Int) (cnt : Int) (ch : Int) (Q : Int × Int × Int → Prop) (P : Prop) : Prop :=
 (0 ≤ pos) ∧
 IfP ((bch text pos) != ch) (((4 : Int) ≠ 0) ∧
 P) (Q ((wr ((pos) + 1)), (deep), (cnt)))
theorem bWnt_walk (text : ByteArray) (pos : Int) (deep : Int) (cnt : Int) (ch : Int) (Q : Int × Int × Int → Prop) (P : Prop) (h : bWnt_vc text pos deep cnt ch Q P) : CtP 157 [.sv (.one (.ptr 0 0)), .sv (.one (.v (.int .u8 ch)))] [.box [.v (.string text), I pos, I deep, I cnt] 111 false] [0] Q (fun (r : Int × Int × Int) => .tup []) (fun (r : Int × Int × Int) => [.box [.v (.string text), I r.1, I r.2.1, I r.2.2] 111 false]) (psStop 108) P := by
 have ht := tab_ok
 refine CtP.body Try.func157 rfl rfl rfl (by kernel_rfl) (by kernel_rfl) (fun c Bk hn hpan => ?_)
 unfold bWnt_vc at h
 show En c ⟨[sl 0 (.pptr 0 0 (Bk 0)), sl 1 (.v (.int .u8 ch))], [.box [.v (.string text), I pos, I deep, I cnt] 111 false]⟩ _
 refine En.seq ?_
 refine En.seq ?_
 refine En.region ?_
 refine WL.run ht hn 1 ⟨[sl 0 (.pptr 0 0 (Bk 0)), sl 1 (.v (.int .u8 ch)), sl 4 (.ptr 0 0)], [.box [.v (.string text), I pos, I deep, I cnt] 111 false]⟩ (by kernel_rfl) ?_
 have hp := h.1
 replace h := h.2
 refine WL.callE (bNow_ct text pos deep cnt hp) en96 (caps := []) [0] hn (by rfl) rfl (by rfl) (argsAs (by kernel_rfl) (by rfl)) (by kernel_rfl) (by decide) (by rfl) (by rfl) (fun _ _ => ⟨by rfl, _, by rfl, ?_⟩)
 refine WL.run ht hn 2 ⟨[sl 0 (.pptr 0 0 (Bk 0)), sl 7 (B ((bch text pos) != ch))], [.box [.v (.string text), I (pos), I (deep), I (cnt)] 111 false]⟩ (by kernel_rfl) ?_
 refine WL.nil ?_
 refine En.cond (b := ((bch text pos) != ch)) (by kernel_rfl) (fun hb => ?_) (fun hb => ?_)
 replace h := h.1 hb
 refine En.region ?_
 refine WL.run ht hn 1 ⟨[sl 0 (.pptr 0 0 (Bk 0)), sl 8 (.ptr 0 0)], [.box [.v (.string text), I (pos), I (deep), I (cnt)] 111 false]⟩ (by kernel_rfl) ?_
 have hp := h.1
 replace h := h.2
 exact WL.callX (bFail_ct text (pos) (deep) (cnt) 4 hp) en48 (caps := []) [0] (by rfl) rfl (by rfl) (argsAs (by kernel_rfl) (by rfl)) (by kernel_rfl) (by decide) (leftX hpan h)
 replace h := h.2 hb
 refine En.skip ?_
 refine En.region ?_
 refine WL.run ht hn 8 ⟨[sl 0 (.pptr 0 0 (Bk 0))], [.box [.v (.string text), I (wr ((pos) + 1)), I (deep), I (cnt)] 111 false]⟩ (by kernel_rfl) ?_
 refine WL.nil ?_
 exact En.backE [0] ht ((wr ((pos) + 1)), (deep), (cnt)) h (by kernel_rfl) (by rfl) rfl
theorem en157 : ∀ args w, (callFunc 157 args).run Try.prog w = .ok (.enter 157 args) w := enters_of Try.func157 (by kernel_rfl) rfl
theorem bWnt_all (text : ByteArray) (s : BS) (c : Int) (hp : gB text s ∧ text.size ≤ 4000 ∧ c ≠ 0) (Q : Int × Int × Int → Prop) (P : Prop) (h1 : bwant c text s = none → P) (h2 : ∀ r, bwant c text s = some r → Q (r.pos, r.deep, r.cnt)) : bWnt_vc text s.pos s.deep s.cnt c Q P := by
 obtain ⟨hg, hz, hc⟩ := hp
 unfold bWnt_vc
 refine ⟨hg.1.1, fun h => ⟨by decide, h1 (if_neg (bne_iff_ne.1 h))⟩, fun h => ?_⟩
 rw [bne_eq_false_iff_eq] at h
 have hl := bch_lt (text := text) (p := s.pos) (by omega)
 have := hg.1.1
 rw [wr_in (n := s.pos + 1) (by omega) (by omega)]
 exact h2 ⟨s.pos + 1, s.deep, s.cnt⟩ (if_pos h)
theorem bWnt_ok (text : ByteArray) (pos deep cnt : Int) (c : Int) (hp : gB text ⟨pos, deep, cnt⟩ ∧ text.size ≤ 4000 ∧ c ≠ 0) (r : BS) (hx : bwant c text ⟨pos, deep, cnt⟩ = some r) : CtE 157 [.sv (.one (.ptr 0 0)), .sv (.one (.v (.int .u8 c)))] [.box [.v (.string text), I pos, I deep, I cnt] 111 false] [0] (fun (_ : Unit) => True) (fun _ => .tup []) (fun _ => [.box [.v (.string text), I r.pos, I r.deep, I r.cnt] 111 false]) :=
 (bWnt_walk text pos deep cnt c (fun x => x = (r.pos, r.deep, r.cnt)) False (bWnt_all text ⟨pos, deep, cnt⟩ c hp _ _ (fun e => by rw [hx] at e; cases e) (fun y e => by rw [hx] at e; cases e; rfl))).toE fun x hx => ⟨(), trivial, by subst hx; rfl, by subst hx; rfl⟩
theorem bWnt_bad (text : ByteArray) (pos deep cnt : Int) (c : Int) (hp : gB text ⟨pos, deep, cnt⟩ ∧ text.size ≤ 4000 ∧ c ≠ 0) (hx : bwant c text ⟨pos, deep, cnt⟩ = none) : CtX 157 [.sv (.one (.ptr 0 0)), .sv (.one (.v (.int .u8 c)))] [.box [.v (.string text), I pos, I deep, I cnt] 111 false] (psStop 108) :=
 (bWnt_walk text pos deep cnt c (fun _ => False) True (bWnt_all text ⟨pos, deep, cnt⟩ c hp _ _ (fun _ => trivial) (fun y e => by rw [hx] at e; cases e))).toX
def bCnt_vc (text : ByteArray) (pos : Int) (deep : Int) (cnt : Int) (Q : Int × Int × Int → Prop) (P : Prop) : Prop :=
 IfP (decide ((wr (cnt + 1)) > 30)) (((7 : Int) ≠ 0) ∧
 P) (Q ((wr (pos + 1)), deep, (wr (cnt + 1))))
theorem bCnt_walk (text : ByteArray) (pos : Int) (deep : Int) (cnt : Int) (Q : Int × Int × Int → Prop) (P : Prop) (h : bCnt_vc text pos deep cnt Q P) : CtP 97 [.sv (.one (.ptr 0 0))] [.box [.v (.string text), I pos, I deep, I cnt] 111 false] [0] Q (fun (r : Int × Int × Int) => .tup []) (fun (r : Int × Int × Int) => [.box [.v (.string text), I r.1, I r.2.1, I r.2.2] 111 false]) (psStop 108) P := by
 have ht := tab_ok
 refine CtP.body Try.func97 rfl rfl rfl (by kernel_rfl) (by kernel_rfl) (fun c Bk hn hpan => ?_)
 unfold bCnt_vc at h
 show En c ⟨[sl 0 (.pptr 0 0 (Bk 0))], [.box [.v (.string text), I pos, I deep, I cnt] 111 false]⟩ _
 refine En.seq ?_
 refine En.seq ?_
 refine En.region ?_
 refine WL.run ht hn 8 ⟨[sl 0 (.pptr 0 0 (Bk 0))], [.box [.v (.string text), I pos, I deep, I (wr (cnt + 1))] 111 false]⟩ (by kernel_rfl) ?_
 refine WL.nil ?_
 refine En.seq ?_
 refine En.region ?_
 refine WL.run ht hn 5 ⟨[sl 0 (.pptr 0 0 (Bk 0)), sl 13 (B (decide ((wr (cnt + 1)) > 30)))], [.box [.v (.string text), I pos, I deep, I (wr (cnt + 1))] 111 false]⟩ (by kernel_rfl) ?_
 refine WL.nil ?_
 refine En.cond (b := (decide ((wr (cnt + 1)) > 30))) (by kernel_rfl) (fun hb => ?_) (fun hb => ?_)
 replace h := h.1 hb
 refine En.region ?_
 refine WL.run ht hn 1 ⟨[sl 0 (.pptr 0 0 (Bk 0)), sl 14 (.ptr 0 0)], [.box [.v (.string text), I pos, I deep, I (wr (cnt + 1))] 111 false]⟩ (by kernel_rfl) ?_
 have hp := h.1
 replace h := h.2
 exact WL.callX (bFail_ct text pos deep (wr (cnt + 1)) 7 hp) en48 (caps := []) [0] (by rfl) rfl (by rfl) (argsAs (by kernel_rfl) (by rfl)) (by kernel_rfl) (by decide) (leftX hpan h)
 replace h := h.2 hb
 refine En.skip ?_
 refine En.region ?_
 refine WL.run ht hn 8 ⟨[sl 0 (.pptr 0 0 (Bk 0))], [.box [.v (.string text), I (wr (pos + 1)), I deep, I (wr (cnt + 1))] 111 false]⟩ (by kernel_rfl) ?_
 refine WL.nil ?_
 exact En.backE [0] ht ((wr (pos + 1)), deep, (wr (cnt + 1))) h (by kernel_rfl) (by rfl) rfl
theorem en97 : ∀ args w, (callFunc 97 args).run Try.prog w = .ok (.enter 97 args) w := enters_of Try.func97 (by kernel_rfl) rfl
theorem bCnt_all (text : ByteArray) (s : BS) (hp : gB text s ∧ text.size ≤ 4000 ∧ s.pos < text.size) (Q : Int × Int × Int → Prop) (P : Prop) (h1 : bcnt s = none → P) (h2 : ∀ r, bcnt s = some r → Q (r.pos, r.deep, r.cnt)) : bCnt_vc text s.pos s.deep s.cnt Q P := by
 obtain ⟨⟨⟨p0, p1⟩, ⟨n0, n1⟩, d0, d1⟩, hz, hl⟩ := hp
 unfold bCnt_vc
 rw [wr_in (n := s.pos + 1) (by omega) (by omega), wr_in (n := s.cnt + 1) (by omega) (by omega)]
 exact ⟨fun h => ⟨by decide, h1 (if_pos (of_decide_eq_true h))⟩, fun h => h2 _ (if_neg (of_decide_eq_false h))⟩
theorem bCnt_ok (text : ByteArray) (pos deep cnt : Int) (hp : gB text ⟨pos, deep, cnt⟩ ∧ text.size ≤ 4000 ∧ pos < text.size) (r : BS) (hx : bcnt ⟨pos, deep, cnt⟩ = some r) : CtE 97 [.sv (.one (.ptr 0 0))] [.box [.v (.string text), I pos, I deep, I cnt] 111 false] [0] (fun (_ : Unit) => True) (fun _ => .tup []) (fun _ => [.box [.v (.string text), I r.pos, I r.deep, I r.cnt] 111 false]) :=
 (bCnt_walk text pos deep cnt (fun x => x = (r.pos, r.deep, r.cnt)) False (bCnt_all text ⟨pos, deep, cnt⟩ hp _ _ (fun e => by rw [hx] at e; cases e) (fun y e => by rw [hx] at e; cases e; rfl))).toE fun x hx => ⟨(), trivial, by subst hx; rfl, by subst hx; rfl⟩
theorem bCnt_bad (text : ByteArray) (pos deep cnt : Int) (hp : gB text ⟨pos, deep, cnt⟩ ∧ text.size ≤ 4000 ∧ pos < text.size) (hx : bcnt ⟨pos, deep, cnt⟩ = none) : CtX 97 [.sv (.one (.ptr 0 0))] [.box [.v (.string text), I pos, I deep, I cnt] 111 false] (psStop 108) :=
 (bCnt_walk text pos deep cnt (fun _ => False) True (bCnt_all text ⟨pos, deep, cnt⟩ hp _ _ (fun _ => trivial) (fun y e => by rw [hx] at e; cases e))).toX
def bOpn_vc (text : ByteArray) (pos : Int) (deep : Int) (cnt : Int) (Q : Int × Int × Int → Prop) (P : Prop) : Prop :=
 IfP (deep == 40) (((7 : Int) ≠ 0) ∧
 P) (Q ((wr (pos + 1)), (wr (deep + 1)), cnt))
theorem bOpn_walk (text : ByteArray) (pos : Int) (deep : Int) (cnt : Int) (Q : Int × Int × Int → Prop) (P : Prop) (h : bOpn_vc text pos deep cnt Q P) : CtP 147 [.sv (.one (.ptr 0 0))] [.box [.v (.string text), I pos, I deep, I cnt] 111 false] [0] Q (fun (r : Int × Int × Int) => .tup []) (fun (r : Int × Int × Int) => [.box [.v (.string text), I r.1, I r.2.1, I r.2.2] 111 false]) (psStop 108) P := by
 have ht := tab_ok
 refine CtP.body Try.func147 rfl rfl rfl (by kernel_rfl) (by kernel_rfl) (fun c Bk hn hpan => ?_)
 unfold bOpn_vc at h
 show En c ⟨[sl 0 (.pptr 0 0 (Bk 0))], [.box [.v (.string text), I pos, I deep, I cnt] 111 false]⟩ _
 refine En.seq ?_
 refine En.seq ?_
 refine En.region ?_
 refine WL.run ht hn 5 ⟨[sl 0 (.pptr 0 0 (Bk 0)), sl 6 (B (deep == 40))], [.box [.v (.string text), I pos, I deep, I cnt] 111 false]⟩ (by kernel_rfl) ?_
 refine WL.nil ?_
 refine En.cond (b := (deep == 40)) (by kernel_rfl) (fun hb => ?_) (fun hb => ?_)
 replace h := h.1 hb
 refine En.region ?_
 refine WL.run ht hn 1 ⟨[sl 0 (.pptr 0 0 (Bk 0)), sl 7 (.ptr 0 0)], [.box [.v (.string text), I pos, I deep, I cnt] 111 false]⟩ (by kernel_rfl) ?_
 have hp := h.1
 replace h := h.2
 exact WL.callX (bFail_ct text pos deep cnt 7 hp) en48 (caps := []) [0] (by rfl) rfl (by rfl) (argsAs (by kernel_rfl) (by rfl)) (by kernel_rfl) (by decide) (leftX hpan h)
 replace h := h.2 hb
 refine En.skip ?_
 refine En.seq ?_
 refine En.region ?_
 refine WL.run ht hn 8 ⟨[sl 0 (.pptr 0 0 (Bk 0))], [.box [.v (.string text), I pos, I (wr (deep + 1)), I cnt] 111 false]⟩ (by kernel_rfl) ?_
 refine WL.nil ?_
 refine En.region ?_
 refine WL.run ht hn 8 ⟨[sl 0 (.pptr 0 0 (Bk 0))], [.box [.v (.string text), I (wr (pos + 1)), I (wr (deep + 1)), I cnt] 111 false]⟩ (by kernel_rfl) ?_
 refine WL.nil ?_
 exact En.backE [0] ht ((wr (pos + 1)), (wr (deep + 1)), cnt) h (by kernel_rfl) (by rfl) rfl
theorem en147 : ∀ args w, (callFunc 147 args).run Try.prog w = .ok (.enter 147 args) w := enters_of Try.func147 (by kernel_rfl) rfl
theorem bOpn_all (text : ByteArray) (s : BS) (hp : gB text s ∧ text.size ≤ 4000 ∧ s.pos < text.size) (Q : Int × Int × Int → Prop) (P : Prop) (h1 : bopen s = none → P) (h2 : ∀ r, bopen s = some r → Q (r.pos, r.deep, r.cnt)) : bOpn_vc text s.pos s.deep s.cnt Q P := by
 obtain ⟨⟨⟨p0, p1⟩, ⟨n0, n1⟩, d0, d1⟩, hz, hl⟩ := hp
 unfold bOpn_vc
 rw [wr_in (n := s.pos + 1) (by omega) (by omega), wr_in (n := s.deep + 1) (by omega) (by omega)]
 exact ⟨fun h => ⟨by decide, h1 (if_pos (eq_of_beq h))⟩, fun h => h2 _ (if_neg (by simpa using h))⟩
theorem bOpn_ok (text : ByteArray) (pos deep cnt : Int) (hp : gB text ⟨pos, deep, cnt⟩ ∧ text.size ≤ 4000 ∧ pos < text.size) (r : BS) (hx : bopen ⟨pos, deep, cnt⟩ = some r) : CtE 147 [.sv (.one (.ptr 0 0))] [.box [.v (.string text), I pos, I deep, I cnt] 111 false] [0] (fun (_ : Unit) => True) (fun _ => .tup []) (fun _ => [.box [.v (.string text), I r.pos, I r.deep, I r.cnt] 111 false]) :=
 (bOpn_walk text pos deep cnt (fun x => x = (r.pos, r.deep, r.cnt)) False (bOpn_all text ⟨pos, deep, cnt⟩ hp _ _ (fun e => by rw [hx] at e; cases e) (fun y e => by rw [hx] at e; cases e; rfl))).toE fun x hx => ⟨(), trivial, by subst hx; rfl, by subst hx; rfl⟩
theorem bOpn_bad (text : ByteArray) (pos deep cnt : Int) (hp : gB text ⟨pos, deep, cnt⟩ ∧ text.size ≤ 4000 ∧ pos < text.size) (hx : bopen ⟨pos, deep, cnt⟩ = none) : CtX 147 [.sv (.one (.ptr 0 0))] [.box [.v (.string text), I pos, I deep, I cnt] 111 false] (psStop 108) :=
 (bOpn_walk text pos deep cnt (fun _ => False) True (bOpn_all text ⟨pos, deep, cnt⟩ hp _ _ (fun _ => trivial) (fun y e => by rw [hx] at e; cases e))).toX
def bSht_vc (text : ByteArray) (pos : Int) (deep : Int) (cnt : Int) (Q : Int × Int × Int → Prop) (P : Prop) : Prop :=
 (gB text ⟨pos, deep, cnt⟩ ∧ text.size ≤ 4000 ∧ (41 : Int) ≠ 0) ∧
 ((bwant 41 text ⟨pos, deep, cnt⟩) = none → P) ∧ ∀ r, (bwant 41 text ⟨pos, deep, cnt⟩) = some r →
 (Q ((r.pos), (wr ((r.deep) - 1)), (r.cnt)))
theorem bSht_walk (text : ByteArray) (pos : Int) (deep : Int) (cnt : Int) (Q : Int × Int × Int → Prop) (P : Prop) (h : bSht_vc text pos deep cnt Q P) : CtP 148 [.sv (.one (.ptr 0 0))] [.box [.v (.string text), I pos, I deep, I cnt] 111 false] [0] Q (fun (r : Int × Int × Int) => .tup []) (fun (r : Int × Int × Int) => [.box [.v (.string text), I r.1, I r.2.1, I r.2.2] 111 false]) (psStop 108) P := by
 have ht := tab_ok
 refine CtP.body Try.func148 rfl rfl rfl (by kernel_rfl) (by kernel_rfl) (fun c Bk hn hpan => ?_)
 unfold bSht_vc at h
 show En c ⟨[sl 0 (.pptr 0 0 (Bk 0))], [.box [.v (.string text), I pos, I deep, I cnt] 111 false]⟩ _
 refine En.seq ?_
 refine En.region ?_
 refine WL.run ht hn 1 ⟨[sl 0 (.pptr 0 0 (Bk 0)), sl 2 (.ptr 0 0)], [.box [.v (.string text), I pos, I deep, I cnt] 111 false]⟩ (by kernel_rfl) ?_
 have hp := h.1
 replace h := h.2
 refine splitO ((bwant 41 text ⟨pos, deep, cnt⟩)) (fun hr_2 => ?_) (fun r hr_2 => ?_)
 exact WL.callX (bWnt_bad text pos deep cnt 41 hp hr_2) en157 (caps := []) [0] (by rfl) rfl (by rfl) (argsAs (by kernel_rfl) (by rfl)) (by kernel_rfl) (by decide) (leftX hpan (h.1 hr_2))
 replace h := h.2 r hr_2
 refine WL.callE (bWnt_ok text pos deep cnt 41 hp r hr_2) en157 (caps := []) [0] hn (by rfl) rfl (by rfl) (argsAs (by kernel_rfl) (by rfl)) (by kernel_rfl) (by decide) (by rfl) (by rfl) (fun _ _ => ⟨by rfl, _, by rfl, ?_⟩)
 refine WL.nil ?_
 refine En.region ?_
 refine WL.run ht hn 8 ⟨[sl 0 (.pptr 0 0 (Bk 0))], [.box [.v (.string text), I (r.pos), I (wr ((r.deep) - 1)), I (r.cnt)] 111 false]⟩ (by kernel_rfl) ?_
 refine WL.nil ?_
 exact En.backE [0] ht ((r.pos), (wr ((r.deep) - 1)), (r.cnt)) h (by kernel_rfl) (by rfl) rfl
theorem en148 : ∀ args w, (callFunc 148 args).run Try.prog w = .ok (.enter 148 args) w := enters_of Try.func148 (by kernel_rfl) rfl
theorem bSht_all (text : ByteArray) (s : BS) (hp : gB text s ∧ text.size ≤ 4000) (Q : Int × Int × Int → Prop) (P : Prop) (h1 : bshut text s = none → P) (h2 : ∀ r, bshut text s = some r → Q (r.pos, r.deep, r.cnt)) : bSht_vc text s.pos s.deep s.cnt Q P := by
 obtain ⟨hg, hz⟩ := hp
 unfold bSht_vc
 refine ⟨⟨hg, hz, by decide⟩, fun z => h1 (ob_none z), fun s1 z1 => ?_⟩
 obtain ⟨g1, q1⟩ := want_g (by decide) hg z1
 obtain ⟨⟨p0, p1⟩, ⟨n0, n1⟩, d0, d1⟩ := g1
 rw [wr_in (n := s1.deep - 1) (by omega) (by omega)]
 exact h2 ⟨s1.pos, s1.deep - 1, s1.cnt⟩ (ob z1)
theorem bSht_ok (text : ByteArray) (pos deep cnt : Int) (hp : gB text ⟨pos, deep, cnt⟩ ∧ text.size ≤ 4000) (r : BS) (hx : bshut text ⟨pos, deep, cnt⟩ = some r) : CtE 148 [.sv (.one (.ptr 0 0))] [.box [.v (.string text), I pos, I deep, I cnt] 111 false] [0] (fun (_ : Unit) => True) (fun _ => .tup []) (fun _ => [.box [.v (.string text), I r.pos, I r.deep, I r.cnt] 111 false]) :=
 (bSht_walk text pos deep cnt (fun x => x = (r.pos, r.deep, r.cnt)) False (bSht_all text ⟨pos, deep, cnt⟩ hp _ _ (fun e => by rw [hx] at e; cases e) (fun y e => by rw [hx] at e; cases e; rfl))).toE fun x hx => ⟨(), trivial, by subst hx; rfl, by subst hx; rfl⟩
theorem bSht_bad (text : ByteArray) (pos deep cnt : Int) (hp : gB text ⟨pos, deep, cnt⟩ ∧ text.size ≤ 4000) (hx : bshut text ⟨pos, deep, cnt⟩ = none) : CtX 148 [.sv (.one (.ptr 0 0))] [.box [.v (.string text), I pos, I deep, I cnt] 111 false] (psStop 108) :=
 (bSht_walk text pos deep cnt (fun _ => False) True (bSht_all text ⟨pos, deep, cnt⟩ hp _ _ (fun _ => trivial) (fun y e => by rw [hx] at e; cases e))).toX
def TC (k : Nat) : Prop := ∀ (text : ByteArray) (pos deep cnt : Int), (bOk k 0 text ⟨pos, deep, cnt⟩ → (∀ r, pB text k 0 ⟨pos, deep, cnt⟩ = some r → CtE 134 [.sv (.one (.ptr 0 0))] [.box [.v (.string text), I pos, I deep, I cnt] 111 false] [0] (fun (_ : Unit) => True) (fun _ => .sv (.one (.rd (trR bLab r.1)))) (fun _ => [.box [.v (.string text), I r.2.pos, I r.2.deep, I r.2.cnt] 111 false])) ∧ (pB text k 0 ⟨pos, deep, cnt⟩ = none → CtX 134 [.sv (.one (.ptr 0 0))] [.box [.v (.string text), I pos, I deep, I cnt] 111 false] (psStop 108))) ∧ (bOk k 1 text ⟨pos, deep, cnt⟩ → (∀ r, pB text k 1 ⟨pos, deep, cnt⟩ = some r → CtE 95 [.sv (.one (.ptr 0 0))] [.box [.v (.string text), I pos, I deep, I cnt] 111 false] [0] (fun (_ : Unit) => True) (fun _ => .sv (.one (.rd (trR bLab r.1)))) (fun _ => [.box [.v (.string text), I r.2.pos, I r.2.deep, I r.2.cnt] 111 false])) ∧ (pB text k 1 ⟨pos, deep, cnt⟩ = none → CtX 95 [.sv (.one (.ptr 0 0))] [.box [.v (.string text), I pos, I deep, I cnt] 111 false] (psStop 108))) ∧ (bOk k 2 text ⟨pos, deep, cnt⟩ → (∀ r, pB text k 2 ⟨pos, deep, cnt⟩ = some r → CtE 47 [.sv (.one (.ptr 0 0))] [.box [.v (.string text), I pos, I deep, I cnt] 111 false] [0] (fun (_ : Unit) => True) (fun _ => .sv (.one (.rd (trR bLab r.1)))) (fun _ => [.box [.v (.string text), I r.2.pos, I r.2.deep, I r.2.cnt] 111 false])) ∧ (pB text k 2 ⟨pos, deep, cnt⟩ = none → CtX 47 [.sv (.one (.ptr 0 0))] [.box [.v (.string text), I pos, I deep, I cnt] 111 false] (psStop 108)))
theorem bI0_ok (k : Nat) (ih : TC k) (text : ByteArray) (pos deep cnt : Int) (hp : bOk k 0 text ⟨pos, deep, cnt⟩) (r : BTr × BS) (hx : pB text k 0 ⟨pos, deep, cnt⟩ = some r) : CtE 134 [.sv (.one (.ptr 0 0))] [.box [.v (.string text), I pos, I deep, I cnt] 111 false] [0] (fun (_ : Unit) => True) (fun _ => .sv (.one (.rd (trR bLab r.1)))) (fun _ => [.box [.v (.string text), I r.2.pos, I r.2.deep, I r.2.cnt] 111 false]) := ((ih text pos deep cnt).1 hp).1 r hx
theorem bI0_bad (k : Nat) (ih : TC k) (text : ByteArray) (pos deep cnt : Int) (hp : bOk k 0 text ⟨pos, deep, cnt⟩) (hx : pB text k 0 ⟨pos, deep, cnt⟩ = none) : CtX 134 [.sv (.one (.ptr 0 0))] [.box [.v (.string text), I pos, I deep, I cnt] 111 false] (psStop 108) := ((ih text pos deep cnt).1 hp).2 hx
theorem en134 : ∀ args w, (callFunc 134 args).run Try.prog w = .ok (.enter 134 args) w := enters_of Try.func134 (by kernel_rfl) rfl
theorem bI1_ok (k : Nat) (ih : TC k) (text : ByteArray) (pos deep cnt : Int) (hp : bOk k 1 text ⟨pos, deep, cnt⟩) (r : BTr × BS) (hx : pB text k 1 ⟨pos, deep, cnt⟩ = some r) : CtE 95 [.sv (.one (.ptr 0 0))] [.box [.v (.string text), I pos, I deep, I cnt] 111 false] [0] (fun (_ : Unit) => True) (fun _ => .sv (.one (.rd (trR bLab r.1)))) (fun _ => [.box [.v (.string text), I r.2.pos, I r.2.deep, I r.2.cnt] 111 false]) := ((ih text pos deep cnt).2.1 hp).1 r hx
theorem bI1_bad (k : Nat) (ih : TC k) (text : ByteArray) (pos deep cnt : Int) (hp : bOk k 1 text ⟨pos, deep, cnt⟩) (hx : pB text k 1 ⟨pos, deep, cnt⟩ = none) : CtX 95 [.sv (.one (.ptr 0 0))] [.box [.v (.string text), I pos, I deep, I cnt] 111 false] (psStop 108) := ((ih text pos deep cnt).2.1 hp).2 hx
theorem en95 : ∀ args w, (callFunc 95 args).run Try.prog w = .ok (.enter 95 args) w := enters_of Try.func95 (by kernel_rfl) rfl
theorem bI2_ok (k : Nat) (ih : TC k) (text : ByteArray) (pos deep cnt : Int) (hp : bOk k 2 text ⟨pos, deep, cnt⟩) (r : BTr × BS) (hx : pB text k 2 ⟨pos, deep, cnt⟩ = some r) : CtE 47 [.sv (.one (.ptr 0 0))] [.box [.v (.string text), I pos, I deep, I cnt] 111 false] [0] (fun (_ : Unit) => True) (fun _ => .sv (.one (.rd (trR bLab r.1)))) (fun _ => [.box [.v (.string text), I r.2.pos, I r.2.deep, I r.2.cnt] 111 false]) := ((ih text pos deep cnt).2.2 hp).1 r hx
theorem bI2_bad (k : Nat) (ih : TC k) (text : ByteArray) (pos deep cnt : Int) (hp : bOk k 2 text ⟨pos, deep, cnt⟩) (hx : pB text k 2 ⟨pos, deep, cnt⟩ = none) : CtX 47 [.sv (.one (.ptr 0 0))] [.box [.v (.string text), I pos, I deep, I cnt] 111 false] (psStop 108) := ((ih text pos deep cnt).2.2 hp).2 hx
theorem en47 : ∀ args w, (callFunc 47 args).run Try.prog w = .ok (.enter 47 args) w := enters_of Try.func47 (by kernel_rfl) rfl
def bWay_vc (k : Nat) (text : ByteArray) (pos : Int) (deep : Int) (cnt : Int) (all : Bool) (Q : (Tr BLab) × Int × Int × Int → Prop) (P : Prop) : Prop :=
 (gB text ⟨pos, deep, cnt⟩ ∧ text.size ≤ 4000 ∧ pos < text.size) ∧
 ((bcnt ⟨pos, deep, cnt⟩) = none → P) ∧ ∀ r, (bcnt ⟨pos, deep, cnt⟩) = some r →
 ((0 ≤ (r.pos)) ∧
 ∃ J : Bool → Prop, (IfP ((bch text (r.pos)) == 88) (J ((bch text (r.pos)) == 88)) (IfP ((bch text (r.pos)) == 70) (J ((bch text (r.pos)) == 70)) (J ((bch text (r.pos)) == 71)))) ∧
 (∀ (x13 : Bool), J x13 → IfP x13 ((bOk k 0 text ⟨(wr (((r.pos)) + 1)), ((r.deep)), ((r.cnt))⟩) ∧
 ((pB text k 0 ⟨(wr (((r.pos)) + 1)), ((r.deep)), ((r.cnt))⟩) = none → P) ∧ ∀ r_2, (pB text k 0 ⟨(wr (((r.pos)) + 1)), ((r.deep)), ((r.cnt))⟩) = some r_2 →
 (Q ((Tr.node (BLab.mk (bch text (r.pos)) all 0) ([(r_2.1)] : (List (Tr BLab)))), (r_2.2.pos), (r_2.2.deep), (r_2.2.cnt)))) (IfP ((bch text (r.pos)) == 40) ((gB text ⟨((r.pos)), ((r.deep)), ((r.cnt))⟩ ∧ text.size ≤ 4000 ∧ ((r.pos)) < text.size) ∧
 ((bopen ⟨((r.pos)), ((r.deep)), ((r.cnt))⟩) = none → P) ∧ ∀ r_3, (bopen ⟨((r.pos)), ((r.deep)), ((r.cnt))⟩) = some r_3 →
 ((bOk k 2 text ⟨(r_3.pos), (r_3.deep), (r_3.cnt)⟩) ∧
 ((pB text k 2 ⟨(r_3.pos), (r_3.deep), (r_3.cnt)⟩) = none → P) ∧ ∀ r_4, (pB text k 2 ⟨(r_3.pos), (r_3.deep), (r_3.cnt)⟩) = some r_4 →
 ((gB text ⟨(r_4.2.pos), (r_4.2.deep), (r_4.2.cnt)⟩ ∧ text.size ≤ 4000 ∧ (85 : Int) ≠ 0) ∧
 ((bwant 85 text ⟨(r_4.2.pos), (r_4.2.deep), (r_4.2.cnt)⟩) = none → P) ∧ ∀ r_5, (bwant 85 text ⟨(r_4.2.pos), (r_4.2.deep), (r_4.2.cnt)⟩) = some r_5 →
 ((bOk k 2 text ⟨(r_5.pos), (r_5.deep), (r_5.cnt)⟩) ∧
 ((pB text k 2 ⟨(r_5.pos), (r_5.deep), (r_5.cnt)⟩) = none → P) ∧ ∀ r_6, (pB text k 2 ⟨(r_5.pos), (r_5.deep), (r_5.cnt)⟩) = some r_6 →
 ((gB text ⟨(r_6.2.pos), (r_6.2.deep), (r_6.2.cnt)⟩ ∧ text.size ≤ 4000) ∧
 ((bshut text ⟨(r_6.2.pos), (r_6.2.deep), (r_6.2.cnt)⟩) = none → P) ∧ ∀ r_7, (bshut text ⟨(r_6.2.pos), (r_6.2.deep), (r_6.2.cnt)⟩) = some r_7 →
 (Q ((Tr.node (BLab.mk 85 all 0) ([(r_4.1), (r_6.1)] : (List (Tr BLab)))), (r_7.pos), (r_7.deep), (r_7.cnt)))))))) (((4 : Int) ≠ 0) ∧
 P))))
noncomputable abbrev qbWay0 := (List (Tr BLab))
theorem bWay_walk (k : Nat) (text : ByteArray) (pos : Int) (deep : Int) (cnt : Int) (all : Bool) (ih : TC k) (Q : (Tr BLab) × Int × Int × Int → Prop) (P : Prop) (h : bWay_vc k text pos deep cnt all Q P) : CtP 146 [.sv (.one (.ptr 0 0)), .sv (.one (B all))] [.box [.v (.string text), I pos, I deep, I cnt] 111 false] [0] Q (fun (r : (Tr BLab) × Int × Int × Int) => .sv (.one (.rd (trR bLab r.1)))) (fun (r : (Tr BLab) × Int × Int × Int) => [.box [.v (.string text), I r.2.1, I r.2.2.1, I r.2.2.2] 111 false]) (psStop 108) P := by
 have ht := tab_ok
 refine CtP.body Try.func146 rfl rfl rfl (by kernel_rfl) (by kernel_rfl) (fun c Bk hn hpan => ?_)
 unfold bWay_vc at h
 show En c ⟨[sl 0 (.pptr 0 0 (Bk 0)), sl 1 (B all)], [.box [.v (.string text), I pos, I deep, I cnt] 111 false]⟩ _
 refine En.seq ?_
 refine En.region ?_
 refine WL.run ht hn 1 ⟨[sl 0 (.pptr 0 0 (Bk 0)), sl 1 (B all)], [.box [.v (.string text), I pos, I deep, I cnt] 111 false]⟩ (by kernel_rfl) ?_
 refine WL.nil ?_
 refine En.seq ?_
 refine En.region ?_
 refine WL.run ht hn 1 ⟨[sl 0 (.pptr 0 0 (Bk 0)), sl 1 (B all), sl 8 (.ptr 0 0)], [.box [.v (.string text), I pos, I deep, I cnt] 111 false]⟩ (by kernel_rfl) ?_
 have hp := h.1
 replace h := h.2
 refine splitO ((bcnt ⟨pos, deep, cnt⟩)) (fun hr_2 => ?_) (fun r hr_2 => ?_)
 exact WL.callX (bCnt_bad text pos deep cnt hp hr_2) en97 (caps := []) [0] (by rfl) rfl (by rfl) (argsAs (by kernel_rfl) (by rfl)) (by kernel_rfl) (by decide) (leftX hpan (h.1 hr_2))
 replace h := h.2 r hr_2
 refine WL.callE (bCnt_ok text pos deep cnt hp r hr_2) en97 (caps := []) [0] hn (by rfl) rfl (by rfl) (argsAs (by kernel_rfl) (by rfl)) (by kernel_rfl) (by decide) (by rfl) (by rfl) (fun _ _ => ⟨by rfl, _, by rfl, ?_⟩)
 refine WL.nil ?_
 refine En.seq ?_
 refine En.seq ?_
 refine En.region ?_
 refine WL.run ht hn 1 ⟨[sl 0 (.pptr 0 0 (Bk 0)), sl 1 (B all), sl 10 (.ptr 0 0)], [.box [.v (.string text), I (r.pos), I (r.deep), I (r.cnt)] 111 false]⟩ (by kernel_rfl) ?_
 have hp := h.1
 replace h := h.2
 refine WL.callE (bNow_ct text (r.pos) (r.deep) (r.cnt) hp) en96 (caps := []) [0] hn (by rfl) rfl (by rfl) (argsAs (by kernel_rfl) (by rfl)) (by kernel_rfl) (by decide) (by rfl) (by rfl) (fun _ _ => ⟨by rfl, _, by rfl, ?_⟩)
 refine WL.run ht hn 1 ⟨[sl 0 (.pptr 0 0 (Bk 0)), sl 1 (B all), sl 5 (.v (.int .u8 (bch text (r.pos))))], [.box [.v (.string text), I ((r.pos)), I ((r.deep)), I ((r.cnt))] 111 false]⟩ (by kernel_rfl) ?_
 refine WL.nil ?_
 refine En.seq ?_
 refine En.region ?_
 refine WL.run ht hn 1 ⟨[sl 0 (.pptr 0 0 (Bk 0)), sl 1 (B all), sl 5 (.v (.int .u8 (bch text (r.pos)))), sl 12 (.v (.int .u8 (bch text (r.pos))))], [.box [.v (.string text), I ((r.pos)), I ((r.deep)), I ((r.cnt))] 111 false]⟩ (by kernel_rfl) ?_
 refine WL.nil ?_
 refine En.block ?_
 obtain ⟨J, h, hJ⟩ := h
 refine En.seqJ (σ := Bool) (fun zz => J zz) (fun zz => ⟨[sl 0 (.pptr 0 0 (Bk 0)), sl 1 (B all), sl 5 (.v (.int .u8 (bch text (r.pos)))), sl 12 (.v (.int .u8 (bch text (r.pos)))), sl 13 (B zz)], [.box [.v (.string text), I ((r.pos)), I ((r.deep)), I ((r.cnt))] 111 false]⟩) ?_ ?_
 refine En.seq ?_
 refine En.region ?_
 refine WL.run ht hn 2 ⟨[sl 0 (.pptr 0 0 (Bk 0)), sl 1 (B all), sl 5 (.v (.int .u8 (bch text (r.pos)))), sl 12 (.v (.int .u8 (bch text (r.pos)))), sl 13 (B ((bch text (r.pos)) == 88))], [.box [.v (.string text), I ((r.pos)), I ((r.deep)), I ((r.cnt))] 111 false]⟩ (by kernel_rfl) ?_
 refine WL.nil ?_
 refine En.cond (b := ((bch text (r.pos)) == 88)) (by kernel_rfl) (fun hb => ?_) (fun hb => ?_)
 replace h := h.1 hb
 refine En.skip ?_
 exact En.at (I := fun zz => J zz) (T := fun zz => ⟨[sl 0 (.pptr 0 0 (Bk 0)), sl 1 (B all), sl 5 (.v (.int .u8 (bch text (r.pos)))), sl 12 (.v (.int .u8 (bch text (r.pos)))), sl 13 (B zz)], [.box [.v (.string text), I ((r.pos)), I ((r.deep)), I ((r.cnt))] 111 false]⟩) ((bch text (r.pos)) == 88) h (by kernel_rfl)
 replace h := h.2 hb
 refine En.seq ?_
 refine En.region ?_
 refine WL.run ht hn 2 ⟨[sl 0 (.pptr 0 0 (Bk 0)), sl 1 (B all), sl 5 (.v (.int .u8 (bch text (r.pos)))), sl 12 (.v (.int .u8 (bch text (r.pos)))), sl 13 (B ((bch text (r.pos)) == 70))], [.box [.v (.string text), I ((r.pos)), I ((r.deep)), I ((r.cnt))] 111 false]⟩ (by kernel_rfl) ?_
 refine WL.nil ?_
 refine En.cond (b := ((bch text (r.pos)) == 70)) (by kernel_rfl) (fun hb => ?_) (fun hb => ?_)
 replace h := h.1 hb
 refine En.skip ?_
 exact En.at (I := fun zz => J zz) (T := fun zz => ⟨[sl 0 (.pptr 0 0 (Bk 0)), sl 1 (B all), sl 5 (.v (.int .u8 (bch text (r.pos)))), sl 12 (.v (.int .u8 (bch text (r.pos)))), sl 13 (B zz)], [.box [.v (.string text), I ((r.pos)), I ((r.deep)), I ((r.cnt))] 111 false]⟩) ((bch text (r.pos)) == 70) h (by kernel_rfl)
 replace h := h.2 hb
 refine En.region ?_
 refine WL.run ht hn 2 ⟨[sl 0 (.pptr 0 0 (Bk 0)), sl 1 (B all), sl 5 (.v (.int .u8 (bch text (r.pos)))), sl 12 (.v (.int .u8 (bch text (r.pos)))), sl 13 (B ((bch text (r.pos)) == 71))], [.box [.v (.string text), I ((r.pos)), I ((r.deep)), I ((r.cnt))] 111 false]⟩ (by kernel_rfl) ?_
 refine WL.nil ?_
 exact En.at (I := fun zz => J zz) (T := fun zz => ⟨[sl 0 (.pptr 0 0 (Bk 0)), sl 1 (B all), sl 5 (.v (.int .u8 (bch text (r.pos)))), sl 12 (.v (.int .u8 (bch text (r.pos)))), sl 13 (B zz)], [.box [.v (.string text), I ((r.pos)), I ((r.deep)), I ((r.cnt))] 111 false]⟩) ((bch text (r.pos)) == 71) h (by kernel_rfl)
 intro x13 h
 replace h := hJ _ h
 show En c ⟨[sl 0 (.pptr 0 0 (Bk 0)), sl 1 (B all), sl 5 (.v (.int .u8 (bch text (r.pos)))), sl 12 (.v (.int .u8 (bch text (r.pos)))), sl 13 (B x13)], [.box [.v (.string text), I ((r.pos)), I ((r.deep)), I ((r.cnt))] 111 false]⟩ _
 refine En.cond (b := x13) (by kernel_rfl) (fun hb => ?_) (fun hb => ?_)
 replace h := h.1 hb
 refine En.seq ?_
 refine En.region ?_
 refine WL.run ht hn 8 ⟨[sl 0 (.pptr 0 0 (Bk 0)), sl 1 (B all), sl 5 (.v (.int .u8 (bch text (r.pos))))], [.box [.v (.string text), I (wr (((r.pos)) + 1)), I ((r.deep)), I ((r.cnt))] 111 false]⟩ (by kernel_rfl) ?_
 refine WL.nil ?_
 refine En.seq ?_
 refine En.region ?_
 refine WL.run ht hn 3 ⟨[sl 0 (.pptr 0 0 (Bk 0)), sl 24 (.v (.int .u8 (bch text (r.pos)))), sl 25 (B all), sl 26 (.ptr 0 0)], [.box [.v (.string text), I (wr (((r.pos)) + 1)), I ((r.deep)), I ((r.cnt))] 111 false]⟩ (by kernel_rfl) ?_
 have hp := h.1
 replace h := h.2
 refine splitO ((pB text k 0 ⟨(wr (((r.pos)) + 1)), ((r.deep)), ((r.cnt))⟩)) (fun hr_3 => ?_) (fun r_2 hr_3 => ?_)
 exact WL.callX (bI0_bad k ih text (wr (((r.pos)) + 1)) ((r.deep)) ((r.cnt)) hp hr_3) en134 (caps := []) [0] (by rfl) rfl (by rfl) (argsAs (by kernel_rfl) (by rfl)) (by kernel_rfl) (by decide) (leftX hpan (h.1 hr_3))
 replace h := h.2 r_2 hr_3
 refine WL.callE (bI0_ok k ih text (wr (((r.pos)) + 1)) ((r.deep)) ((r.cnt)) hp r_2 hr_3) en134 (caps := []) [0] hn (by rfl) rfl (by rfl) (argsAs (by kernel_rfl) (by rfl)) (by kernel_rfl) (by decide) (by rfl) (by rfl) (fun _ _ => ⟨by rfl, _, by rfl, ?_⟩)
 refine WL.mt0 (K := []) (p := some (1, rowI 63 (TT bLab) ([(r_2.1)] : (qbWay0)))) hn (by rfl) (mt_lit (T := (TT bLab)) ([(r_2.1)] : (qbWay0)) (mt_bsl 1 (r := cellsOf (TT bLab) ([(r_2.1)] : (qbWay0))) ht rfl (by rfl) (by rfl) (by rfl) (by kernel_rfl) (by rfl)) (fun _ h => by cases h) (fun _ => rfl) (fun _ => rfl) (by rfl) (Nat.le_of_ble_eq_true rfl)) (by rfl) (by rfl) (by rfl) ?_
 refine WL.run ht hn 3 ⟨[sl 0 (.pptr 0 0 (Bk 0)), sl 4 (.ptr 2 0)], [.box [.v (.string text), I (r_2.2.pos), I (r_2.2.deep), I (r_2.2.cnt)] 111 false, rowI 63 (TT bLab) ([(r_2.1)] : (qbWay0)), .box [.v (.int .u8 (bch text (r.pos))), B all, I 0, .own 1] 119 false]⟩ (by kernel_rfl) ?_
 refine WL.nil ?_
 refine En.ret ?_
 refine En.seal (T := (TT bLab)) (l := ([(r_2.1)] : (qbWay0))) (e := 63) 1 rfl ?_
 refine En.freeze [2] (by rfl) ?_
 refine En.ghost 4 (o1 (.rd (trR bLab (Tr.node (BLab.mk (bch text (r.pos)) all 0) ([(r_2.1)] : (qbWay0)))))) (by rfl) (tree_of (lab := bLab) (x := (BLab.mk (bch text (r.pos)) all 0)) (kids := ([(r_2.1)] : (qbWay0))) (i := 2) (by rfl) (by rfl) (by rfl)) ?_
 exact En.backE [0] ht ((Tr.node (BLab.mk (bch text (r.pos)) all 0) ([(r_2.1)] : (qbWay0))), (r_2.2.pos), (r_2.2.deep), (r_2.2.cnt)) h (by kernel_rfl) (by rfl) rfl
 replace h := h.2 hb
 refine En.seq ?_
 refine En.region ?_
 refine WL.run ht hn 2 ⟨[sl 0 (.pptr 0 0 (Bk 0)), sl 1 (B all), sl 31 (B ((bch text (r.pos)) == 40))], [.box [.v (.string text), I ((r.pos)), I ((r.deep)), I ((r.cnt))] 111 false]⟩ (by kernel_rfl) ?_
 refine WL.nil ?_
 refine En.cond (b := ((bch text (r.pos)) == 40)) (by kernel_rfl) (fun hb => ?_) (fun hb => ?_)
 replace h := h.1 hb
 refine En.seq ?_
 refine En.region ?_
 refine WL.run ht hn 1 ⟨[sl 0 (.pptr 0 0 (Bk 0)), sl 1 (B all), sl 33 (.ptr 0 0)], [.box [.v (.string text), I ((r.pos)), I ((r.deep)), I ((r.cnt))] 111 false]⟩ (by kernel_rfl) ?_
 have hp := h.1
 replace h := h.2
 refine splitO ((bopen ⟨((r.pos)), ((r.deep)), ((r.cnt))⟩)) (fun hr_4 => ?_) (fun r_3 hr_4 => ?_)
 exact WL.callX (bOpn_bad text ((r.pos)) ((r.deep)) ((r.cnt)) hp hr_4) en147 (caps := []) [0] (by rfl) rfl (by rfl) (argsAs (by kernel_rfl) (by rfl)) (by kernel_rfl) (by decide) (leftX hpan (h.1 hr_4))
 replace h := h.2 r_3 hr_4
 refine WL.callE (bOpn_ok text ((r.pos)) ((r.deep)) ((r.cnt)) hp r_3 hr_4) en147 (caps := []) [0] hn (by rfl) rfl (by rfl) (argsAs (by kernel_rfl) (by rfl)) (by kernel_rfl) (by decide) (by rfl) (by rfl) (fun _ _ => ⟨by rfl, _, by rfl, ?_⟩)
 refine WL.nil ?_
 refine En.seq ?_
 refine En.region ?_
 refine WL.run ht hn 1 ⟨[sl 0 (.pptr 0 0 (Bk 0)), sl 1 (B all), sl 35 (.ptr 0 0)], [.box [.v (.string text), I (r_3.pos), I (r_3.deep), I (r_3.cnt)] 111 false]⟩ (by kernel_rfl) ?_
 have hp := h.1
 replace h := h.2
 refine splitO ((pB text k 2 ⟨(r_3.pos), (r_3.deep), (r_3.cnt)⟩)) (fun hr_5 => ?_) (fun r_4 hr_5 => ?_)
 exact WL.callX (bI2_bad k ih text (r_3.pos) (r_3.deep) (r_3.cnt) hp hr_5) en47 (caps := []) [0] (by rfl) rfl (by rfl) (argsAs (by kernel_rfl) (by rfl)) (by kernel_rfl) (by decide) (leftX hpan (h.1 hr_5))
 replace h := h.2 r_4 hr_5
 refine WL.callE (bI2_ok k ih text (r_3.pos) (r_3.deep) (r_3.cnt) hp r_4 hr_5) en47 (caps := []) [0] hn (by rfl) rfl (by rfl) (argsAs (by kernel_rfl) (by rfl)) (by kernel_rfl) (by decide) (by rfl) (by rfl) (fun _ _ => ⟨by rfl, _, by rfl, ?_⟩)
 refine WL.run ht hn 1 ⟨[sl 0 (.pptr 0 0 (Bk 0)), sl 1 (B all), sl 6 (.rd (trR bLab (r_4.1)))], [.box [.v (.string text), I (r_4.2.pos), I (r_4.2.deep), I (r_4.2.cnt)] 111 false]⟩ (by kernel_rfl) ?_
 refine WL.nil ?_
 refine En.seq ?_
 refine En.region ?_
 refine WL.run ht hn 1 ⟨[sl 0 (.pptr 0 0 (Bk 0)), sl 1 (B all), sl 6 (.rd (trR bLab (r_4.1))), sl 37 (.ptr 0 0)], [.box [.v (.string text), I (r_4.2.pos), I (r_4.2.deep), I (r_4.2.cnt)] 111 false]⟩ (by kernel_rfl) ?_
 have hp := h.1
 replace h := h.2
 refine splitO ((bwant 85 text ⟨(r_4.2.pos), (r_4.2.deep), (r_4.2.cnt)⟩)) (fun hr_6 => ?_) (fun r_5 hr_6 => ?_)
 exact WL.callX (bWnt_bad text (r_4.2.pos) (r_4.2.deep) (r_4.2.cnt) 85 hp hr_6) en157 (caps := []) [0] (by rfl) rfl (by rfl) (argsAs (by kernel_rfl) (by rfl)) (by kernel_rfl) (by decide) (leftX hpan (h.1 hr_6))
 replace h := h.2 r_5 hr_6
 refine WL.callE (bWnt_ok text (r_4.2.pos) (r_4.2.deep) (r_4.2.cnt) 85 hp r_5 hr_6) en157 (caps := []) [0] hn (by rfl) rfl (by rfl) (argsAs (by kernel_rfl) (by rfl)) (by kernel_rfl) (by decide) (by rfl) (by rfl) (fun _ _ => ⟨by rfl, _, by rfl, ?_⟩)
 refine WL.nil ?_
 refine En.seq ?_
 refine En.region ?_
 refine WL.run ht hn 1 ⟨[sl 0 (.pptr 0 0 (Bk 0)), sl 1 (B all), sl 6 (.rd (trR bLab (r_4.1))), sl 39 (.ptr 0 0)], [.box [.v (.string text), I (r_5.pos), I (r_5.deep), I (r_5.cnt)] 111 false]⟩ (by kernel_rfl) ?_
 have hp := h.1
 replace h := h.2
 refine splitO ((pB text k 2 ⟨(r_5.pos), (r_5.deep), (r_5.cnt)⟩)) (fun hr_7 => ?_) (fun r_6 hr_7 => ?_)
 exact WL.callX (bI2_bad k ih text (r_5.pos) (r_5.deep) (r_5.cnt) hp hr_7) en47 (caps := []) [0] (by rfl) rfl (by rfl) (argsAs (by kernel_rfl) (by rfl)) (by kernel_rfl) (by decide) (leftX hpan (h.1 hr_7))
 replace h := h.2 r_6 hr_7
 refine WL.callE (bI2_ok k ih text (r_5.pos) (r_5.deep) (r_5.cnt) hp r_6 hr_7) en47 (caps := []) [0] hn (by rfl) rfl (by rfl) (argsAs (by kernel_rfl) (by rfl)) (by kernel_rfl) (by decide) (by rfl) (by rfl) (fun _ _ => ⟨by rfl, _, by rfl, ?_⟩)
 refine WL.run ht hn 1 ⟨[sl 0 (.pptr 0 0 (Bk 0)), sl 1 (B all), sl 6 (.rd (trR bLab (r_4.1))), sl 7 (.rd (trR bLab (r_6.1)))], [.box [.v (.string text), I (r_6.2.pos), I (r_6.2.deep), I (r_6.2.cnt)] 111 false]⟩ (by kernel_rfl) ?_
 refine WL.nil ?_
 refine En.seq ?_
 refine En.region ?_
 refine WL.run ht hn 1 ⟨[sl 0 (.pptr 0 0 (Bk 0)), sl 1 (B all), sl 6 (.rd (trR bLab (r_4.1))), sl 7 (.rd (trR bLab (r_6.1))), sl 41 (.ptr 0 0)], [.box [.v (.string text), I (r_6.2.pos), I (r_6.2.deep), I (r_6.2.cnt)] 111 false]⟩ (by kernel_rfl) ?_
 have hp := h.1
 replace h := h.2
 refine splitO ((bshut text ⟨(r_6.2.pos), (r_6.2.deep), (r_6.2.cnt)⟩)) (fun hr_8 => ?_) (fun r_7 hr_8 => ?_)
 exact WL.callX (bSht_bad text (r_6.2.pos) (r_6.2.deep) (r_6.2.cnt) hp hr_8) en148 (caps := []) [0] (by rfl) rfl (by rfl) (argsAs (by kernel_rfl) (by rfl)) (by kernel_rfl) (by decide) (leftX hpan (h.1 hr_8))
 replace h := h.2 r_7 hr_8
 refine WL.callE (bSht_ok text (r_6.2.pos) (r_6.2.deep) (r_6.2.cnt) hp r_7 hr_8) en148 (caps := []) [0] hn (by rfl) rfl (by rfl) (argsAs (by kernel_rfl) (by rfl)) (by kernel_rfl) (by decide) (by rfl) (by rfl) (fun _ _ => ⟨by rfl, _, by rfl, ?_⟩)
 refine WL.nil ?_
 refine En.seq ?_
 refine En.region ?_
 refine WL.run ht hn 3 ⟨[sl 0 (.pptr 0 0 (Bk 0)), sl 43 (B all), sl 44 (.rd (trR bLab (r_4.1))), sl 45 (.rd (trR bLab (r_6.1)))], [.box [.v (.string text), I (r_7.pos), I (r_7.deep), I (r_7.cnt)] 111 false]⟩ (by kernel_rfl) ?_
 refine WL.mt0 (K := []) (p := some (1, rowI 63 (TT bLab) ([(r_4.1), (r_6.1)] : (qbWay0)))) hn (by rfl) (mt_lit (T := (TT bLab)) ([(r_4.1), (r_6.1)] : (qbWay0)) (mt_bsl 1 (r := cellsOf (TT bLab) ([(r_4.1), (r_6.1)] : (qbWay0))) ht rfl (by rfl) (by rfl) (by rfl) (by kernel_rfl) (by rfl)) (fun _ h => by cases h) (fun _ => rfl) (fun _ => rfl) (by rfl) (Nat.le_of_ble_eq_true rfl)) (by rfl) (by rfl) (by rfl) ?_
 refine WL.run ht hn 3 ⟨[sl 0 (.pptr 0 0 (Bk 0)), sl 4 (.ptr 2 0)], [.box [.v (.string text), I (r_7.pos), I (r_7.deep), I (r_7.cnt)] 111 false, rowI 63 (TT bLab) ([(r_4.1), (r_6.1)] : (qbWay0)), .box [.v (.int .u8 85), B all, I 0, .own 1] 119 false]⟩ (by kernel_rfl) ?_
 refine WL.nil ?_
 refine En.ret ?_
 refine En.seal (T := (TT bLab)) (l := ([(r_4.1), (r_6.1)] : (qbWay0))) (e := 63) 1 rfl ?_
 refine En.freeze [2] (by rfl) ?_
 refine En.ghost 4 (o1 (.rd (trR bLab (Tr.node (BLab.mk 85 all 0) ([(r_4.1), (r_6.1)] : (qbWay0)))))) (by rfl) (tree_of (lab := bLab) (x := (BLab.mk 85 all 0)) (kids := ([(r_4.1), (r_6.1)] : (qbWay0))) (i := 2) (by rfl) (by rfl) (by rfl)) ?_
 exact En.backE [0] ht ((Tr.node (BLab.mk 85 all 0) ([(r_4.1), (r_6.1)] : (qbWay0))), (r_7.pos), (r_7.deep), (r_7.cnt)) h (by kernel_rfl) (by rfl) rfl
 replace h := h.2 hb
 refine En.skip ?_
 refine En.seq ?_
 refine En.region ?_
 refine WL.run ht hn 1 ⟨[sl 0 (.pptr 0 0 (Bk 0)), sl 49 (.ptr 0 0)], [.box [.v (.string text), I ((r.pos)), I ((r.deep)), I ((r.cnt))] 111 false]⟩ (by kernel_rfl) ?_
 have hp := h.1
 replace h := h.2
 exact WL.callX (bFail_ct text ((r.pos)) ((r.deep)) ((r.cnt)) 4 hp) en48 (caps := []) [0] (by rfl) rfl (by rfl) (argsAs (by kernel_rfl) (by rfl)) (by kernel_rfl) (by decide) (leftX hpan h)
theorem en146 : ∀ args w, (callFunc 146 args).run Try.prog w = .ok (.enter 146 args) w := enters_of Try.func146 (by kernel_rfl) rfl
theorem bWay_all (k : Nat) (text : ByteArray) (s : BS) (all : Bool) (hp : bOk (k + 1) 0 text s ∧ s.pos < text.size) (Q : BTr × Int × Int × Int → Prop) (P : Prop) (h1 : wayB (pB text k 0) (pB text k 2) all text s = none → P) (h2 : ∀ r, wayB (pB text k 0) (pB text k 2) all text s = some r → Q (r.1, r.2.pos, r.2.deep, r.2.cnt)) : bWay_vc k text s.pos s.deep s.cnt all Q P := by
 obtain ⟨⟨hz, hk, hg⟩, hlt⟩ := hp
 unfold bWay_vc
 unfold wayB at h1 h2
 refine ⟨⟨hg, hz, hlt⟩, fun z => h1 (ob_none z), fun s1 z1 => ?_⟩
 obtain ⟨g1, q1⟩ := cnt_g hg hlt z1
 have k1 := fun e => h1 ((ob z1).trans e)
 have k2 := fun r e => h2 r ((ob z1).trans e)
 have w0 := g1.1.1
 refine ⟨w0, fun b => b = true ↔ (bch text s1.pos = 88 ∨ bch text s1.pos = 70 ∨ bch text s1.pos = 71), ⟨fun h => ⟨fun _ => .inl (eq_of_beq h), fun _ => h⟩, fun h => ⟨fun h' => ⟨fun _ => .inr (.inl (eq_of_beq h')), fun _ => h'⟩, fun h' => ⟨fun e => .inr (.inr (eq_of_beq e)), fun e => ?_⟩⟩⟩, fun x hx => ⟨fun hxt => ?_, fun hxf => ?_⟩⟩
 ·rcases e with e | e | e
  ·exact absurd h (by rw [e]; decide)
  ·exact absurd h' (by rw [e]; decide)
  ·rw [e]
   rfl
 ·have c := hx.1 hxt
  have hl := bch_lt (text := text) (p := s1.pos) (by omega)
  rw [wr_in (n := s1.pos + 1) (by omega) (by omega)]
  have g' : gB text ⟨s1.pos + 1, s1.deep, s1.cnt⟩ := ⟨⟨by show 0 ≤ s1.pos + 1; omega, by show s1.pos + 1 ≤ text.size; omega⟩, g1.2⟩
  exact ⟨bOk_of hz g' (by show 4 * ((text.size : Int) - (s1.pos + 1)) + _ < _; omega), fun z => k1 ((if_pos c).trans (ob_none z)), fun r z => k2 (bn (bch text s1.pos) all 0 [r.1], r.2) ((if_pos c).trans (ob z))⟩
 ·have c : ¬ (bch text s1.pos = 88 ∨ bch text s1.pos = 70 ∨ bch text s1.pos = 71) := fun e => by
   rw [hx.2 e] at hxf
   cases hxf
  refine ⟨fun h => ?_, fun h => ⟨by decide, k1 ((if_neg c).trans (if_neg (by simpa using h)))⟩⟩
  have c2 := eq_of_beq h
  have hl := bch_lt (text := text) (p := s1.pos) (by omega)
  refine ⟨⟨g1, hz, hl⟩, fun z => k1 ((if_neg c).trans ((if_pos c2).trans (ob_none z))), fun s2 z2 => ?_⟩
  obtain ⟨g2, q2⟩ := open_g g1 hl z2
  have q2 : s2.pos = s1.pos + 1 := q2
  have k3 := fun e => k1 ((if_neg c).trans ((if_pos c2).trans ((ob z2).trans e)))
  have k4 := fun r e => k2 r ((if_neg c).trans ((if_pos c2).trans ((ob z2).trans e)))
  refine ⟨bOk_of hz g2 (by show 4 * ((text.size : Int) - s2.pos) + _ < _; omega), fun z => k3 (ob_none z), fun a za => ?_⟩
  have G := pB_good k 2 s2 a hz g2 za
  have hG := G.pos
  refine ⟨⟨G.ok, hz, by decide⟩, fun z => k3 ((ob za).trans (ob_none z)), fun s3 z3 => ?_⟩
  obtain ⟨g3, q3⟩ := want_g (by decide) G.ok z3
  have q3 : s3.pos = a.2.pos + 1 := q3
  refine ⟨bOk_of hz g3 (by show 4 * ((text.size : Int) - s3.pos) + _ < _; omega), fun z => k3 ((ob za).trans ((ob z3).trans (ob_none z))), fun b zb => ?_⟩
  have G2 := pB_good k 2 s3 b hz g3 zb
  exact ⟨⟨G2.ok, hz⟩, fun z => k3 ((ob za).trans ((ob z3).trans ((ob zb).trans (ob_none z)))), fun s4 z4 => k4 (bn 85 all 0 [a.1, b.1], s4) ((ob za).trans ((ob z3).trans ((ob zb).trans (ob z4))))⟩
theorem bWay_ok (k : Nat) (ih : TC k) (text : ByteArray) (pos deep cnt : Int) (all : Bool) (hp : bOk (k + 1) 0 text ⟨pos, deep, cnt⟩ ∧ pos < text.size) (r : (BTr × BS)) (hx : wayB (pB text k 0) (pB text k 2) all text ⟨pos, deep, cnt⟩ = some r) : CtE 146 [.sv (.one (.ptr 0 0)), .sv (.one (B all))] [.box [.v (.string text), I pos, I deep, I cnt] 111 false] [0] (fun (_ : Unit) => True) (fun _ => .sv (.one (.rd (trR bLab r.1)))) (fun _ => [.box [.v (.string text), I r.2.pos, I r.2.deep, I r.2.cnt] 111 false]) :=
 (bWay_walk k text pos deep cnt all ih (fun x => x = (r.1, r.2.pos, r.2.deep, r.2.cnt)) False (bWay_all k text ⟨pos, deep, cnt⟩ all hp _ _ (fun e => by rw [hx] at e; cases e) (fun y e => by rw [hx] at e; cases e; rfl))).toE fun x hx => ⟨(), trivial, by subst hx; rfl, by subst hx; rfl⟩
theorem bWay_bad (k : Nat) (ih : TC k) (text : ByteArray) (pos deep cnt : Int) (all : Bool) (hp : bOk (k + 1) 0 text ⟨pos, deep, cnt⟩ ∧ pos < text.size) (hx : wayB (pB text k 0) (pB text k 2) all text ⟨pos, deep, cnt⟩ = none) : CtX 146 [.sv (.one (.ptr 0 0)), .sv (.one (B all))] [.box [.v (.string text), I pos, I deep, I cnt] 111 false] (psStop 108) :=
 (bWay_walk k text pos deep cnt all ih (fun _ => False) True (bWay_all k text ⟨pos, deep, cnt⟩ all hp _ _ (fun _ => trivial) (fun y e => by rw [hx] at e; cases e))).toX
def bPar_vc (k : Nat) (text : ByteArray) (pos : Int) (deep : Int) (cnt : Int) (Q : (Tr BLab) × Int × Int × Int → Prop) (P : Prop) : Prop :=
 (0 ≤ pos) ∧
 IfP (((bch text pos) == 48) || ((bch text pos) == 49)) ((gB text ⟨(pos), (deep), (cnt)⟩ ∧ text.size ≤ 4000 ∧ (pos) < text.size) ∧
 ((bcnt ⟨(pos), (deep), (cnt)⟩) = none → P) ∧ ∀ r, (bcnt ⟨(pos), (deep), (cnt)⟩) = some r →
 (Q ((Tr.node (BLab.mk (bch text pos) false 0) []), (r.pos), (r.deep), (r.cnt)))) (IfP ((decide ((bch text pos) ≥ 97)) && (decide ((bch text pos) ≤ 100))) ((gB text ⟨(pos), (deep), (cnt)⟩ ∧ text.size ≤ 4000 ∧ (pos) < text.size) ∧
 ((bcnt ⟨(pos), (deep), (cnt)⟩) = none → P) ∧ ∀ r_2, (bcnt ⟨(pos), (deep), (cnt)⟩) = some r_2 →
 (Q ((Tr.node (BLab.mk 97 false (wr (IntKind.wrap .u8 ((bch text pos) - 97)))) []), (r_2.pos), (r_2.deep), (r_2.cnt)))) (IfP ((bch text pos) == 33) ((gB text ⟨(pos), (deep), (cnt)⟩ ∧ text.size ≤ 4000 ∧ (pos) < text.size) ∧
 ((bcnt ⟨(pos), (deep), (cnt)⟩) = none → P) ∧ ∀ r_3, (bcnt ⟨(pos), (deep), (cnt)⟩) = some r_3 →
 ((bOk k 0 text ⟨(r_3.pos), (r_3.deep), (r_3.cnt)⟩) ∧
 ((pB text k 0 ⟨(r_3.pos), (r_3.deep), (r_3.cnt)⟩) = none → P) ∧ ∀ r_4, (pB text k 0 ⟨(r_3.pos), (r_3.deep), (r_3.cnt)⟩) = some r_4 →
 (Q ((Tr.node (BLab.mk 33 false 0) ([(r_4.1)] : (List (Tr BLab)))), (r_4.2.pos), (r_4.2.deep), (r_4.2.cnt))))) (IfP (((bch text pos) == 69) || ((bch text pos) == 65)) ((bOk (k + 1) 0 text ⟨(pos), (deep), (cnt)⟩ ∧ (pos) < text.size) ∧
 ((wayB (pB text k 0) (pB text k 2) ((bch text pos) == 65) text ⟨(pos), (deep), (cnt)⟩) = none → P) ∧ ∀ r_5, (wayB (pB text k 0) (pB text k 2) ((bch text pos) == 65) text ⟨(pos), (deep), (cnt)⟩) = some r_5 →
 (Q ((r_5.1), (r_5.2.pos), (r_5.2.deep), (r_5.2.cnt)))) (IfP ((bch text pos) != 40) (((4 : Int) ≠ 0) ∧
 P) ((gB text ⟨(pos), (deep), (cnt)⟩ ∧ text.size ≤ 4000 ∧ (pos) < text.size) ∧
 ((bopen ⟨(pos), (deep), (cnt)⟩) = none → P) ∧ ∀ r_6, (bopen ⟨(pos), (deep), (cnt)⟩) = some r_6 →
 ((bOk k 2 text ⟨(r_6.pos), (r_6.deep), (r_6.cnt)⟩) ∧
 ((pB text k 2 ⟨(r_6.pos), (r_6.deep), (r_6.cnt)⟩) = none → P) ∧ ∀ r_7, (pB text k 2 ⟨(r_6.pos), (r_6.deep), (r_6.cnt)⟩) = some r_7 →
 ((gB text ⟨(r_7.2.pos), (r_7.2.deep), (r_7.2.cnt)⟩ ∧ text.size ≤ 4000) ∧
 ((bshut text ⟨(r_7.2.pos), (r_7.2.deep), (r_7.2.cnt)⟩) = none → P) ∧ ∀ r_8, (bshut text ⟨(r_7.2.pos), (r_7.2.deep), (r_7.2.cnt)⟩) = some r_8 →
 (Q ((r_7.1), (r_8.pos), (r_8.deep), (r_8.cnt))))))))))
set_option maxHeartbeats 2000000 in
theorem bPar_walk (k : Nat) (text : ByteArray) (pos : Int) (deep : Int) (cnt : Int) (ih : TC k) (Q : (Tr BLab) × Int × Int × Int → Prop) (P : Prop) (h : bPar_vc k text pos deep cnt Q P) : CtP 134 [.sv (.one (.ptr 0 0))] [.box [.v (.string text), I pos, I deep, I cnt] 111 false] [0] Q (fun (r : (Tr BLab) × Int × Int × Int) => .sv (.one (.rd (trR bLab r.1)))) (fun (r : (Tr BLab) × Int × Int × Int) => [.box [.v (.string text), I r.2.1, I r.2.2.1, I r.2.2.2] 111 false]) (psStop 108) P := by
 have ht := tab_ok
 refine CtP.body Try.func134 rfl rfl rfl (by kernel_rfl) (by kernel_rfl) (fun c Bk hn hpan => ?_)
 unfold bPar_vc at h
 show En c ⟨[sl 0 (.pptr 0 0 (Bk 0))], [.box [.v (.string text), I pos, I deep, I cnt] 111 false]⟩ _
 refine En.seq ?_
 refine En.region ?_
 refine WL.run ht hn 1 ⟨[sl 0 (.pptr 0 0 (Bk 0))], [.box [.v (.string text), I pos, I deep, I cnt] 111 false]⟩ (by kernel_rfl) ?_
 refine WL.nil ?_
 refine En.seq ?_
 refine En.seq ?_
 refine En.region ?_
 refine WL.run ht hn 1 ⟨[sl 0 (.pptr 0 0 (Bk 0)), sl 5 (.ptr 0 0)], [.box [.v (.string text), I pos, I deep, I cnt] 111 false]⟩ (by kernel_rfl) ?_
 have hp := h.1
 replace h := h.2
 refine WL.callE (bNow_ct text pos deep cnt hp) en96 (caps := []) [0] hn (by rfl) rfl (by rfl) (argsAs (by kernel_rfl) (by rfl)) (by kernel_rfl) (by decide) (by rfl) (by rfl) (fun _ _ => ⟨by rfl, _, by rfl, ?_⟩)
 refine WL.run ht hn 1 ⟨[sl 0 (.pptr 0 0 (Bk 0)), sl 3 (.v (.int .u8 (bch text pos)))], [.box [.v (.string text), I (pos), I (deep), I (cnt)] 111 false]⟩ (by kernel_rfl) ?_
 refine WL.nil ?_
 refine En.block ?_
 refine En.seq ?_
 refine En.region ?_
 refine WL.run ht hn 3 ⟨[sl 0 (.pptr 0 0 (Bk 0)), sl 3 (.v (.int .u8 (bch text pos))), sl 10 (B ((bch text pos) == 48))], [.box [.v (.string text), I (pos), I (deep), I (cnt)] 111 false]⟩ (by kernel_rfl) ?_
 refine WL.thru ⟨[sl 0 (.pptr 0 0 (Bk 0)), sl 3 (.v (.int .u8 (bch text pos))), sl 7 (B (((bch text pos) == 48) || ((bch text pos) == 49)))], [.box [.v (.string text), I (pos), I (deep), I (cnt)] 111 false]⟩ ?_ ?_
 refine splitB ((bch text pos) == 48) (fun hb0 => ?_) (fun hb0 => ?_)
 refine WL.setB 10 hb0 (by kernel_rfl) ?_
 refine WL.run ht hn 4 ⟨[sl 0 (.pptr 0 0 (Bk 0)), sl 3 (.v (.int .u8 (bch text pos))), sl 7 (B true)], [.box [.v (.string text), I (pos), I (deep), I (cnt)] 111 false]⟩ (by kernel_rfl) ?_
 exact WL.nil (sub_ok (by simp only [hb0]; kernel_rfl))
 refine WL.setB 10 hb0 (by kernel_rfl) ?_
 refine WL.run ht hn 4 ⟨[sl 0 (.pptr 0 0 (Bk 0)), sl 3 (.v (.int .u8 (bch text pos))), sl 7 (B ((bch text pos) == 49))], [.box [.v (.string text), I (pos), I (deep), I (cnt)] 111 false]⟩ (by kernel_rfl) ?_
 exact WL.nil (sub_ok (by simp only [hb0]; kernel_rfl))
 refine En.cond (b := (((bch text pos) == 48) || ((bch text pos) == 49))) (by kernel_rfl) (fun hb => ?_) (fun hb => ?_)
 replace h := h.1 hb
 refine En.seq ?_
 refine En.region ?_
 refine WL.run ht hn 1 ⟨[sl 0 (.pptr 0 0 (Bk 0)), sl 3 (.v (.int .u8 (bch text pos))), sl 14 (.ptr 0 0)], [.box [.v (.string text), I (pos), I (deep), I (cnt)] 111 false]⟩ (by kernel_rfl) ?_
 have hp := h.1
 replace h := h.2
 refine splitO ((bcnt ⟨(pos), (deep), (cnt)⟩)) (fun hr_2 => ?_) (fun r hr_2 => ?_)
 exact WL.callX (bCnt_bad text (pos) (deep) (cnt) hp hr_2) en97 (caps := []) [0] (by rfl) rfl (by rfl) (argsAs (by kernel_rfl) (by rfl)) (by kernel_rfl) (by decide) (leftX hpan (h.1 hr_2))
 replace h := h.2 r hr_2
 refine WL.callE (bCnt_ok text (pos) (deep) (cnt) hp r hr_2) en97 (caps := []) [0] hn (by rfl) rfl (by rfl) (argsAs (by kernel_rfl) (by rfl)) (by kernel_rfl) (by decide) (by rfl) (by rfl) (fun _ _ => ⟨by rfl, _, by rfl, ?_⟩)
 refine WL.nil ?_
 refine En.seq ?_
 refine En.region ?_
 refine WL.run ht hn 4 ⟨[sl 0 (.pptr 0 0 (Bk 0)), sl 2 (.ptr 1 0)], [.box [.v (.string text), I (r.pos), I (r.deep), I (r.cnt)] 111 false, .box [.v (.int .u8 (bch text pos)), B false, I 0, .v (.slice none 0 0)] 119 false]⟩ (by kernel_rfl) ?_
 refine WL.nil ?_
 refine En.ret ?_
 refine En.nilBox (T := (TT bLab)) 1 3 (by rfl) (by rfl) ?_
 refine En.freeze [1] (by rfl) ?_
 refine En.ghost 2 (o1 (.rd (trR bLab (Tr.node (BLab.mk (bch text pos) false 0) [])))) (by rfl) (tree_of (lab := bLab) (x := (BLab.mk (bch text pos) false 0)) (kids := []) (i := 1) (by rfl) (by rfl) (by rfl)) ?_
 exact En.backE [0] ht ((Tr.node (BLab.mk (bch text pos) false 0) []), (r.pos), (r.deep), (r.cnt)) h (by kernel_rfl) (by rfl) rfl
 replace h := h.2 hb
 refine En.seq ?_
 refine En.region ?_
 refine WL.run ht hn 3 ⟨[sl 0 (.pptr 0 0 (Bk 0)), sl 3 (.v (.int .u8 (bch text pos))), sl 22 (B (decide ((bch text pos) ≥ 97)))], [.box [.v (.string text), I (pos), I (deep), I (cnt)] 111 false]⟩ (by kernel_rfl) ?_
 refine WL.thru ⟨[sl 0 (.pptr 0 0 (Bk 0)), sl 3 (.v (.int .u8 (bch text pos))), sl 19 (B ((decide ((bch text pos) ≥ 97)) && (decide ((bch text pos) ≤ 100))))], [.box [.v (.string text), I (pos), I (deep), I (cnt)] 111 false]⟩ ?_ ?_
 refine splitB (decide ((bch text pos) ≥ 97)) (fun hb0 => ?_) (fun hb0 => ?_)
 refine WL.setB 22 hb0 (by kernel_rfl) ?_
 refine WL.run ht hn 4 ⟨[sl 0 (.pptr 0 0 (Bk 0)), sl 3 (.v (.int .u8 (bch text pos))), sl 19 (B (decide ((bch text pos) ≤ 100)))], [.box [.v (.string text), I (pos), I (deep), I (cnt)] 111 false]⟩ (by kernel_rfl) ?_
 exact WL.nil (sub_ok (by simp only [hb0]; kernel_rfl))
 refine WL.setB 22 hb0 (by kernel_rfl) ?_
 refine WL.run ht hn 4 ⟨[sl 0 (.pptr 0 0 (Bk 0)), sl 3 (.v (.int .u8 (bch text pos))), sl 19 (B false)], [.box [.v (.string text), I (pos), I (deep), I (cnt)] 111 false]⟩ (by kernel_rfl) ?_
 exact WL.nil (sub_ok (by simp only [hb0]; kernel_rfl))
 refine En.cond (b := ((decide ((bch text pos) ≥ 97)) && (decide ((bch text pos) ≤ 100)))) (by kernel_rfl) (fun hb => ?_) (fun hb => ?_)
 replace h := h.1 hb
 refine En.seq ?_
 refine En.region ?_
 refine WL.run ht hn 1 ⟨[sl 0 (.pptr 0 0 (Bk 0)), sl 3 (.v (.int .u8 (bch text pos))), sl 26 (.ptr 0 0)], [.box [.v (.string text), I (pos), I (deep), I (cnt)] 111 false]⟩ (by kernel_rfl) ?_
 have hp := h.1
 replace h := h.2
 refine splitO ((bcnt ⟨(pos), (deep), (cnt)⟩)) (fun hr_3 => ?_) (fun r_2 hr_3 => ?_)
 exact WL.callX (bCnt_bad text (pos) (deep) (cnt) hp hr_3) en97 (caps := []) [0] (by rfl) rfl (by rfl) (argsAs (by kernel_rfl) (by rfl)) (by kernel_rfl) (by decide) (leftX hpan (h.1 hr_3))
 replace h := h.2 r_2 hr_3
 refine WL.callE (bCnt_ok text (pos) (deep) (cnt) hp r_2 hr_3) en97 (caps := []) [0] hn (by rfl) rfl (by rfl) (argsAs (by kernel_rfl) (by rfl)) (by kernel_rfl) (by decide) (by rfl) (by rfl) (fun _ _ => ⟨by rfl, _, by rfl, ?_⟩)
 refine WL.nil ?_
 refine En.seq ?_
 refine En.region ?_
 refine WL.run ht hn 6 ⟨[sl 0 (.pptr 0 0 (Bk 0)), sl 2 (.ptr 1 0)], [.box [.v (.string text), I (r_2.pos), I (r_2.deep), I (r_2.cnt)] 111 false, .box [.v (.int .u8 97), B false, I (wr (IntKind.wrap .u8 ((bch text pos) - 97))), .v (.slice none 0 0)] 119 false]⟩ (by kernel_rfl) ?_
 refine WL.nil ?_
 refine En.ret ?_
 refine En.nilBox (T := (TT bLab)) 1 3 (by rfl) (by rfl) ?_
 refine En.freeze [1] (by rfl) ?_
 refine En.ghost 2 (o1 (.rd (trR bLab (Tr.node (BLab.mk 97 false (wr (IntKind.wrap .u8 ((bch text pos) - 97)))) [])))) (by rfl) (tree_of (lab := bLab) (x := (BLab.mk 97 false (wr (IntKind.wrap .u8 ((bch text pos) - 97))))) (kids := []) (i := 1) (by rfl) (by rfl) (by rfl)) ?_
 exact En.backE [0] ht ((Tr.node (BLab.mk 97 false (wr (IntKind.wrap .u8 ((bch text pos) - 97)))) []), (r_2.pos), (r_2.deep), (r_2.cnt)) h (by kernel_rfl) (by rfl) rfl
 replace h := h.2 hb
 refine En.seq ?_
 refine En.region ?_
 refine WL.run ht hn 3 ⟨[sl 0 (.pptr 0 0 (Bk 0)), sl 3 (.v (.int .u8 (bch text pos))), sl 33 (B ((bch text pos) == 33))], [.box [.v (.string text), I (pos), I (deep), I (cnt)] 111 false]⟩ (by kernel_rfl) ?_
 refine WL.nil ?_
 refine En.cond (b := ((bch text pos) == 33)) (by kernel_rfl) (fun hb => ?_) (fun hb => ?_)
 replace h := h.1 hb
 refine En.seq ?_
 refine En.region ?_
 refine WL.run ht hn 1 ⟨[sl 0 (.pptr 0 0 (Bk 0)), sl 36 (.ptr 0 0)], [.box [.v (.string text), I (pos), I (deep), I (cnt)] 111 false]⟩ (by kernel_rfl) ?_
 have hp := h.1
 replace h := h.2
 refine splitO ((bcnt ⟨(pos), (deep), (cnt)⟩)) (fun hr_4 => ?_) (fun r_3 hr_4 => ?_)
 exact WL.callX (bCnt_bad text (pos) (deep) (cnt) hp hr_4) en97 (caps := []) [0] (by rfl) rfl (by rfl) (argsAs (by kernel_rfl) (by rfl)) (by kernel_rfl) (by decide) (leftX hpan (h.1 hr_4))
 replace h := h.2 r_3 hr_4
 refine WL.callE (bCnt_ok text (pos) (deep) (cnt) hp r_3 hr_4) en97 (caps := []) [0] hn (by rfl) rfl (by rfl) (argsAs (by kernel_rfl) (by rfl)) (by kernel_rfl) (by decide) (by rfl) (by rfl) (fun _ _ => ⟨by rfl, _, by rfl, ?_⟩)
 refine WL.nil ?_
 refine En.seq ?_
 refine En.region ?_
 refine WL.run ht hn 1 ⟨[sl 0 (.pptr 0 0 (Bk 0)), sl 38 (.ptr 0 0)], [.box [.v (.string text), I (r_3.pos), I (r_3.deep), I (r_3.cnt)] 111 false]⟩ (by kernel_rfl) ?_
 have hp := h.1
 replace h := h.2
 refine splitO ((pB text k 0 ⟨(r_3.pos), (r_3.deep), (r_3.cnt)⟩)) (fun hr_5 => ?_) (fun r_4 hr_5 => ?_)
 exact WL.callX (bI0_bad k ih text (r_3.pos) (r_3.deep) (r_3.cnt) hp hr_5) en134 (caps := []) [0] (by rfl) rfl (by rfl) (argsAs (by kernel_rfl) (by rfl)) (by kernel_rfl) (by decide) (leftX hpan (h.1 hr_5))
 replace h := h.2 r_4 hr_5
 refine WL.callE (bI0_ok k ih text (r_3.pos) (r_3.deep) (r_3.cnt) hp r_4 hr_5) en134 (caps := []) [0] hn (by rfl) rfl (by rfl) (argsAs (by kernel_rfl) (by rfl)) (by kernel_rfl) (by decide) (by rfl) (by rfl) (fun _ _ => ⟨by rfl, _, by rfl, ?_⟩)
 refine WL.mt0 (K := []) (p := some (1, rowI 63 (TT bLab) ([(r_4.1)] : (List (Tr BLab))))) hn (by rfl) (mt_lit (T := (TT bLab)) ([(r_4.1)] : (List (Tr BLab))) (mt_bsl 1 (r := cellsOf (TT bLab) ([(r_4.1)] : (List (Tr BLab)))) ht rfl (by rfl) (by rfl) (by rfl) (by kernel_rfl) (by rfl)) (fun _ h => by cases h) (fun _ => rfl) (fun _ => rfl) (by rfl) (Nat.le_of_ble_eq_true rfl)) (by rfl) (by rfl) (by rfl) ?_
 refine WL.run ht hn 3 ⟨[sl 0 (.pptr 0 0 (Bk 0)), sl 2 (.ptr 2 0)], [.box [.v (.string text), I (r_4.2.pos), I (r_4.2.deep), I (r_4.2.cnt)] 111 false, rowI 63 (TT bLab) ([(r_4.1)] : (List (Tr BLab))), .box [.v (.int .u8 33), B false, I 0, .own 1] 119 false]⟩ (by kernel_rfl) ?_
 refine WL.nil ?_
 refine En.ret ?_
 refine En.seal (T := (TT bLab)) (l := ([(r_4.1)] : (List (Tr BLab)))) (e := 63) 1 rfl ?_
 refine En.freeze [2] (by rfl) ?_
 refine En.ghost 2 (o1 (.rd (trR bLab (Tr.node (BLab.mk 33 false 0) ([(r_4.1)] : (List (Tr BLab))))))) (by rfl) (tree_of (lab := bLab) (x := (BLab.mk 33 false 0)) (kids := ([(r_4.1)] : (List (Tr BLab)))) (i := 2) (by rfl) (by rfl) (by rfl)) ?_
 exact En.backE [0] ht ((Tr.node (BLab.mk 33 false 0) ([(r_4.1)] : (List (Tr BLab)))), (r_4.2.pos), (r_4.2.deep), (r_4.2.cnt)) h (by kernel_rfl) (by rfl) rfl
 replace h := h.2 hb
 refine En.seq ?_
 refine En.region ?_
 refine WL.run ht hn 3 ⟨[sl 0 (.pptr 0 0 (Bk 0)), sl 3 (.v (.int .u8 (bch text pos))), sl 46 (B ((bch text pos) == 69))], [.box [.v (.string text), I (pos), I (deep), I (cnt)] 111 false]⟩ (by kernel_rfl) ?_
 refine WL.thru ⟨[sl 0 (.pptr 0 0 (Bk 0)), sl 3 (.v (.int .u8 (bch text pos))), sl 43 (B (((bch text pos) == 69) || ((bch text pos) == 65)))], [.box [.v (.string text), I (pos), I (deep), I (cnt)] 111 false]⟩ ?_ ?_
 refine splitB ((bch text pos) == 69) (fun hb0 => ?_) (fun hb0 => ?_)
 refine WL.setB 46 hb0 (by kernel_rfl) ?_
 refine WL.run ht hn 4 ⟨[sl 0 (.pptr 0 0 (Bk 0)), sl 3 (.v (.int .u8 (bch text pos))), sl 43 (B true)], [.box [.v (.string text), I (pos), I (deep), I (cnt)] 111 false]⟩ (by kernel_rfl) ?_
 exact WL.nil (sub_ok (by simp only [hb0]; kernel_rfl))
 refine WL.setB 46 hb0 (by kernel_rfl) ?_
 refine WL.run ht hn 4 ⟨[sl 0 (.pptr 0 0 (Bk 0)), sl 3 (.v (.int .u8 (bch text pos))), sl 43 (B ((bch text pos) == 65))], [.box [.v (.string text), I (pos), I (deep), I (cnt)] 111 false]⟩ (by kernel_rfl) ?_
 exact WL.nil (sub_ok (by simp only [hb0]; kernel_rfl))
 refine En.cond (b := (((bch text pos) == 69) || ((bch text pos) == 65))) (by kernel_rfl) (fun hb => ?_) (fun hb => ?_)
 replace h := h.1 hb
 refine En.seq ?_
 refine En.region ?_
 refine WL.run ht hn 3 ⟨[sl 0 (.pptr 0 0 (Bk 0)), sl 50 (.ptr 0 0), sl 52 (B ((bch text pos) == 65))], [.box [.v (.string text), I (pos), I (deep), I (cnt)] 111 false]⟩ (by kernel_rfl) ?_
 have hp := h.1
 replace h := h.2
 refine splitO ((wayB (pB text k 0) (pB text k 2) ((bch text pos) == 65) text ⟨(pos), (deep), (cnt)⟩)) (fun hr_6 => ?_) (fun r_5 hr_6 => ?_)
 exact WL.callX (bWay_bad k ih text (pos) (deep) (cnt) ((bch text pos) == 65) hp hr_6) en146 (caps := []) [0] (by rfl) rfl (by rfl) (argsAs (by kernel_rfl) (by rfl)) (by kernel_rfl) (by decide) (leftX hpan (h.1 hr_6))
 replace h := h.2 r_5 hr_6
 refine WL.callE (bWay_ok k ih text (pos) (deep) (cnt) ((bch text pos) == 65) hp r_5 hr_6) en146 (caps := []) [0] hn (by rfl) rfl (by rfl) (argsAs (by kernel_rfl) (by rfl)) (by kernel_rfl) (by decide) (by rfl) (by rfl) (fun _ _ => ⟨by rfl, _, by rfl, ?_⟩)
 refine WL.run ht hn 1 ⟨[sl 0 (.pptr 0 0 (Bk 0)), sl 2 (.rd (trR bLab (r_5.1)))], [.box [.v (.string text), I (r_5.2.pos), I (r_5.2.deep), I (r_5.2.cnt)] 111 false]⟩ (by kernel_rfl) ?_
 refine WL.nil ?_
 refine En.ret ?_
 exact En.backE [0] ht ((r_5.1), (r_5.2.pos), (r_5.2.deep), (r_5.2.cnt)) h (by kernel_rfl) (by rfl) rfl
 replace h := h.2 hb
 refine En.seq ?_
 refine En.region ?_
 refine WL.run ht hn 3 ⟨[sl 0 (.pptr 0 0 (Bk 0)), sl 54 (B ((bch text pos) != 40))], [.box [.v (.string text), I (pos), I (deep), I (cnt)] 111 false]⟩ (by kernel_rfl) ?_
 refine WL.nil ?_
 refine En.cond (b := ((bch text pos) != 40)) (by kernel_rfl) (fun hb => ?_) (fun hb => ?_)
 replace h := h.1 hb
 refine En.region ?_
 refine WL.run ht hn 1 ⟨[sl 0 (.pptr 0 0 (Bk 0)), sl 57 (.ptr 0 0)], [.box [.v (.string text), I (pos), I (deep), I (cnt)] 111 false]⟩ (by kernel_rfl) ?_
 have hp := h.1
 replace h := h.2
 exact WL.callX (bFail_ct text (pos) (deep) (cnt) 4 hp) en48 (caps := []) [0] (by rfl) rfl (by rfl) (argsAs (by kernel_rfl) (by rfl)) (by kernel_rfl) (by decide) (leftX hpan h)
 replace h := h.2 hb
 refine En.skip ?_
 refine En.seq ?_
 refine En.region ?_
 refine WL.run ht hn 1 ⟨[sl 0 (.pptr 0 0 (Bk 0)), sl 59 (.ptr 0 0)], [.box [.v (.string text), I (pos), I (deep), I (cnt)] 111 false]⟩ (by kernel_rfl) ?_
 have hp := h.1
 replace h := h.2
 refine splitO ((bopen ⟨(pos), (deep), (cnt)⟩)) (fun hr_7 => ?_) (fun r_6 hr_7 => ?_)
 exact WL.callX (bOpn_bad text (pos) (deep) (cnt) hp hr_7) en147 (caps := []) [0] (by rfl) rfl (by rfl) (argsAs (by kernel_rfl) (by rfl)) (by kernel_rfl) (by decide) (leftX hpan (h.1 hr_7))
 replace h := h.2 r_6 hr_7
 refine WL.callE (bOpn_ok text (pos) (deep) (cnt) hp r_6 hr_7) en147 (caps := []) [0] hn (by rfl) rfl (by rfl) (argsAs (by kernel_rfl) (by rfl)) (by kernel_rfl) (by decide) (by rfl) (by rfl) (fun _ _ => ⟨by rfl, _, by rfl, ?_⟩)
 refine WL.nil ?_
 refine En.seq ?_
 refine En.region ?_
 refine WL.run ht hn 1 ⟨[sl 0 (.pptr 0 0 (Bk 0)), sl 61 (.ptr 0 0)], [.box [.v (.string text), I (r_6.pos), I (r_6.deep), I (r_6.cnt)] 111 false]⟩ (by kernel_rfl) ?_
 have hp := h.1
 replace h := h.2
 refine splitO ((pB text k 2 ⟨(r_6.pos), (r_6.deep), (r_6.cnt)⟩)) (fun hr_8 => ?_) (fun r_7 hr_8 => ?_)
 exact WL.callX (bI2_bad k ih text (r_6.pos) (r_6.deep) (r_6.cnt) hp hr_8) en47 (caps := []) [0] (by rfl) rfl (by rfl) (argsAs (by kernel_rfl) (by rfl)) (by kernel_rfl) (by decide) (leftX hpan (h.1 hr_8))
 replace h := h.2 r_7 hr_8
 refine WL.callE (bI2_ok k ih text (r_6.pos) (r_6.deep) (r_6.cnt) hp r_7 hr_8) en47 (caps := []) [0] hn (by rfl) rfl (by rfl) (argsAs (by kernel_rfl) (by rfl)) (by kernel_rfl) (by decide) (by rfl) (by rfl) (fun _ _ => ⟨by rfl, _, by rfl, ?_⟩)
 refine WL.run ht hn 1 ⟨[sl 0 (.pptr 0 0 (Bk 0)), sl 4 (.rd (trR bLab (r_7.1)))], [.box [.v (.string text), I (r_7.2.pos), I (r_7.2.deep), I (r_7.2.cnt)] 111 false]⟩ (by kernel_rfl) ?_
 refine WL.nil ?_
 refine En.seq ?_
 refine En.region ?_
 refine WL.run ht hn 1 ⟨[sl 0 (.pptr 0 0 (Bk 0)), sl 4 (.rd (trR bLab (r_7.1))), sl 63 (.ptr 0 0)], [.box [.v (.string text), I (r_7.2.pos), I (r_7.2.deep), I (r_7.2.cnt)] 111 false]⟩ (by kernel_rfl) ?_
 have hp := h.1
 replace h := h.2
 refine splitO ((bshut text ⟨(r_7.2.pos), (r_7.2.deep), (r_7.2.cnt)⟩)) (fun hr_9 => ?_) (fun r_8 hr_9 => ?_)
 exact WL.callX (bSht_bad text (r_7.2.pos) (r_7.2.deep) (r_7.2.cnt) hp hr_9) en148 (caps := []) [0] (by rfl) rfl (by rfl) (argsAs (by kernel_rfl) (by rfl)) (by kernel_rfl) (by decide) (leftX hpan (h.1 hr_9))
 replace h := h.2 r_8 hr_9
 refine WL.callE (bSht_ok text (r_7.2.pos) (r_7.2.deep) (r_7.2.cnt) hp r_8 hr_9) en148 (caps := []) [0] hn (by rfl) rfl (by rfl) (argsAs (by kernel_rfl) (by rfl)) (by kernel_rfl) (by decide) (by rfl) (by rfl) (fun _ _ => ⟨by rfl, _, by rfl, ?_⟩)
 refine WL.nil ?_
 refine En.seq ?_
 refine En.region ?_
 refine WL.run ht hn 2 ⟨[sl 0 (.pptr 0 0 (Bk 0)), sl 2 (.rd (trR bLab (r_7.1)))], [.box [.v (.string text), I (r_8.pos), I (r_8.deep), I (r_8.cnt)] 111 false]⟩ (by kernel_rfl) ?_
 refine WL.nil ?_
 refine En.ret ?_
 exact En.backE [0] ht ((r_7.1), (r_8.pos), (r_8.deep), (r_8.cnt)) h (by kernel_rfl) (by rfl) rfl
theorem bPar_all (k : Nat) (text : ByteArray) (s : BS) (hp : bOk (k + 1) 0 text s) (Q : BTr × Int × Int × Int → Prop) (P : Prop) (h1 : pB text (k + 1) 0 s = none → P) (h2 : ∀ r, pB text (k + 1) 0 s = some r → Q (r.1, r.2.pos, r.2.deep, r.2.cnt)) : bPar_vc k text s.pos s.deep s.cnt Q P := by
 obtain ⟨hz, hk, hg⟩ := hp
 have e0 : pB text (k + 1) 0 s = parB (pB text k 0) (pB text k 2) text s := rfl
 rw [e0] at h1
 simp only [e0] at h2
 unfold parB at h1 h2
 unfold bPar_vc
 have w0 := hg.1.1
 refine ⟨w0, fun h => ?_, fun h => ?_⟩
 ·have c : bch text s.pos = 48 ∨ bch text s.pos = 49 := by simpa using h
  have hl := bch_lt (text := text) (p := s.pos) (by omega)
  exact ⟨⟨hg, hz, hl⟩, fun z => h1 ((if_pos c).trans (ob_none z)), fun s1 z => h2 (bn (bch text s.pos) false 0 [], s1) ((if_pos c).trans (ob z))⟩
 have n1 : ¬ (bch text s.pos = 48 ∨ bch text s.pos = 49) := by simpa using h
 rw [if_neg n1] at h1
 simp only [if_neg n1] at h2
 refine ⟨fun h => ?_, fun h => ?_⟩
 ·have c : 97 ≤ bch text s.pos ∧ bch text s.pos ≤ 100 := by simpa using h
  have hl := bch_lt (text := text) (p := s.pos) (by omega)
  rw [let_in c.1 c.2]
  exact ⟨⟨hg, hz, hl⟩, fun z => h1 ((if_pos c).trans (ob_none z)), fun s1 z => h2 (bn 97 false (bch text s.pos - 97) [], s1) ((if_pos c).trans (ob z))⟩
 have n2 : ¬ (97 ≤ bch text s.pos ∧ bch text s.pos ≤ 100) := by
  intro hh
  have := hh.1
  have := hh.2
  simp [*] at h
 rw [if_neg n2] at h1
 simp only [if_neg n2] at h2
 refine ⟨fun h => ?_, fun h => ?_⟩
 ·have c := eq_of_beq h
  have hl := bch_lt (text := text) (p := s.pos) (by omega)
  refine ⟨⟨hg, hz, hl⟩, fun z => h1 ((if_pos c).trans (ob_none z)), fun s1 z1 => ?_⟩
  obtain ⟨g1, q1⟩ := cnt_g hg hl z1
  have q1 : s1.pos = s.pos + 1 := q1
  exact ⟨bOk_of hz g1 (by show 4 * ((text.size : Int) - s1.pos) + _ < _; omega), fun z => h1 ((if_pos c).trans ((ob z1).trans (ob_none z))), fun r z => h2 (bn 33 false 0 [r.1], r.2) ((if_pos c).trans ((ob z1).trans (ob z)))⟩
 have n3 : ¬ bch text s.pos = 33 := by simpa using h
 rw [if_neg n3] at h1
 simp only [if_neg n3] at h2
 refine ⟨fun h => ?_, fun h => ?_⟩
 ·have c : bch text s.pos = 69 ∨ bch text s.pos = 65 := by simpa using h
  have hl := bch_lt (text := text) (p := s.pos) (by omega)
  exact ⟨⟨⟨hz, hk, hg⟩, hl⟩, fun z => h1 ((if_pos c).trans z), fun r z => h2 r ((if_pos c).trans z)⟩
 have n4 : ¬ (bch text s.pos = 69 ∨ bch text s.pos = 65) := by simpa using h
 rw [if_neg n4] at h1
 simp only [if_neg n4] at h2
 refine ⟨fun h => ⟨by decide, h1 (if_neg (bne_iff_ne.1 h))⟩, fun h => ?_⟩
 have c := bne_eq_false_iff_eq.1 h
 have hl := bch_lt (text := text) (p := s.pos) (by omega)
 refine ⟨⟨hg, hz, hl⟩, fun z => h1 ((if_pos c).trans (ob_none z)), fun s1 z1 => ?_⟩
 obtain ⟨g1, q1⟩ := open_g hg hl z1
 have q1 : s1.pos = s.pos + 1 := q1
 refine ⟨bOk_of hz g1 (by show 4 * ((text.size : Int) - s1.pos) + _ < _; omega), fun z => h1 ((if_pos c).trans ((ob z1).trans (ob_none z))), fun r z => ?_⟩
 have G := pB_good k 2 s1 r hz g1 z
 exact ⟨⟨G.ok, hz⟩, fun z2 => h1 ((if_pos c).trans ((ob z1).trans ((ob z).trans (ob_none z2)))), fun s2 z2 => h2 (r.1, s2) ((if_pos c).trans ((ob z1).trans ((ob z).trans (ob z2))))⟩
theorem bPar_ok (k : Nat) (ih : TC k) (text : ByteArray) (pos deep cnt : Int) (hp : bOk (k + 1) 0 text ⟨pos, deep, cnt⟩) (r : (BTr × BS)) (hx : pB text (k + 1) 0 ⟨pos, deep, cnt⟩ = some r) : CtE 134 [.sv (.one (.ptr 0 0))] [.box [.v (.string text), I pos, I deep, I cnt] 111 false] [0] (fun (_ : Unit) => True) (fun _ => .sv (.one (.rd (trR bLab r.1)))) (fun _ => [.box [.v (.string text), I r.2.pos, I r.2.deep, I r.2.cnt] 111 false]) :=
 (bPar_walk k text pos deep cnt ih (fun x => x = (r.1, r.2.pos, r.2.deep, r.2.cnt)) False (bPar_all k text ⟨pos, deep, cnt⟩ hp _ _ (fun e => by rw [hx] at e; cases e) (fun y e => by rw [hx] at e; cases e; rfl))).toE fun x hx => ⟨(), trivial, by subst hx; rfl, by subst hx; rfl⟩
theorem bPar_bad (k : Nat) (ih : TC k) (text : ByteArray) (pos deep cnt : Int) (hp : bOk (k + 1) 0 text ⟨pos, deep, cnt⟩) (hx : pB text (k + 1) 0 ⟨pos, deep, cnt⟩ = none) : CtX 134 [.sv (.one (.ptr 0 0))] [.box [.v (.string text), I pos, I deep, I cnt] 111 false] (psStop 108) :=
 (bPar_walk k text pos deep cnt ih (fun _ => False) True (bPar_all k text ⟨pos, deep, cnt⟩ hp _ _ (fun _ => trivial) (fun y e => by rw [hx] at e; cases e))).toX
def bTrm_vc (k : Nat) (text : ByteArray) (pos : Int) (deep : Int) (cnt : Int) (Q : (Tr BLab) × Int × Int × Int → Prop) (P : Prop) : Prop :=
 (bOk k 0 text ⟨pos, deep, cnt⟩) ∧
 ((pB text k 0 ⟨pos, deep, cnt⟩) = none → P) ∧ ∀ r, (pB text k 0 ⟨pos, deep, cnt⟩) = some r →
 (∃ (Inv : (Tr BLab) → Int → Int → Int → Prop) (mu : (Tr BLab) → Int → Int → Int → Nat), Inv (r.1) (r.2.pos) (r.2.deep) (r.2.cnt) ∧
 ∀ (x3 : (Tr BLab)) (y01 : Int) (y02 : Int) (y03 : Int) , Inv x3 y01 y02 y03 → ((0 ≤ y01) ∧
 IfP ((bch text y01) == 38) ((gB text ⟨(y01), (y02), (y03)⟩ ∧ text.size ≤ 4000 ∧ (y01) < text.size) ∧
 ((bcnt ⟨(y01), (y02), (y03)⟩) = none → P) ∧ ∀ r_2, (bcnt ⟨(y01), (y02), (y03)⟩) = some r_2 →
 ((bOk k 0 text ⟨(r_2.pos), (r_2.deep), (r_2.cnt)⟩) ∧
 ((pB text k 0 ⟨(r_2.pos), (r_2.deep), (r_2.cnt)⟩) = none → P) ∧ ∀ r_3, (pB text k 0 ⟨(r_2.pos), (r_2.deep), (r_2.cnt)⟩) = some r_3 →
 ((Inv (Tr.node (BLab.mk 38 false 0) ([x3, (r_3.1)] : (List (Tr BLab)))) (r_3.2.pos) (r_3.2.deep) (r_3.2.cnt) ∧ mu (Tr.node (BLab.mk 38 false 0) ([x3, (r_3.1)] : (List (Tr BLab)))) (r_3.2.pos) (r_3.2.deep) (r_3.2.cnt) < mu x3 y01 y02 y03)))) (Q (x3, (y01), (y02), (y03)))))
theorem bTrm_walk (k : Nat) (text : ByteArray) (pos : Int) (deep : Int) (cnt : Int) (ih : TC k) (Q : (Tr BLab) × Int × Int × Int → Prop) (P : Prop) (h : bTrm_vc k text pos deep cnt Q P) : CtP 95 [.sv (.one (.ptr 0 0))] [.box [.v (.string text), I pos, I deep, I cnt] 111 false] [0] Q (fun (r : (Tr BLab) × Int × Int × Int) => .sv (.one (.rd (trR bLab r.1)))) (fun (r : (Tr BLab) × Int × Int × Int) => [.box [.v (.string text), I r.2.1, I r.2.2.1, I r.2.2.2] 111 false]) (psStop 108) P := by
 have ht := tab_ok
 refine CtP.body Try.func95 rfl rfl rfl (by kernel_rfl) (by kernel_rfl) (fun c Bk hn hpan => ?_)
 unfold bTrm_vc at h
 show En c ⟨[sl 0 (.pptr 0 0 (Bk 0))], [.box [.v (.string text), I pos, I deep, I cnt] 111 false]⟩ _
 refine En.seq ?_
 refine En.region ?_
 refine WL.run ht hn 1 ⟨[sl 0 (.pptr 0 0 (Bk 0))], [.box [.v (.string text), I pos, I deep, I cnt] 111 false]⟩ (by kernel_rfl) ?_
 refine WL.nil ?_
 refine En.seq ?_
 refine En.region ?_
 refine WL.run ht hn 1 ⟨[sl 0 (.pptr 0 0 (Bk 0)), sl 4 (.ptr 0 0)], [.box [.v (.string text), I pos, I deep, I cnt] 111 false]⟩ (by kernel_rfl) ?_
 have hp := h.1
 replace h := h.2
 refine splitO ((pB text k 0 ⟨pos, deep, cnt⟩)) (fun hr_2 => ?_) (fun r hr_2 => ?_)
 exact WL.callX (bI0_bad k ih text pos deep cnt hp hr_2) en134 (caps := []) [0] (by rfl) rfl (by rfl) (argsAs (by kernel_rfl) (by rfl)) (by kernel_rfl) (by decide) (leftX hpan (h.1 hr_2))
 replace h := h.2 r hr_2
 refine WL.callE (bI0_ok k ih text pos deep cnt hp r hr_2) en134 (caps := []) [0] hn (by rfl) rfl (by rfl) (argsAs (by kernel_rfl) (by rfl)) (by kernel_rfl) (by decide) (by rfl) (by rfl) (fun _ _ => ⟨by rfl, _, by rfl, ?_⟩)
 refine WL.run ht hn 1 ⟨[sl 0 (.pptr 0 0 (Bk 0)), sl 3 (.rd (trR bLab (r.1)))], [.box [.v (.string text), I (r.2.pos), I (r.2.deep), I (r.2.cnt)] 111 false]⟩ (by kernel_rfl) ?_
 refine WL.nil ?_
 refine En.seq ?_
 refine En.block ?_
 obtain ⟨Inv, mu, h0, hI⟩ := h
 refine En.loop (σ := (Tr BLab) × Int × Int × Int) (fun zz => Inv zz.1 zz.2.1 zz.2.2.1 zz.2.2.2) (fun zz => mu zz.1 zz.2.1 zz.2.2.1 zz.2.2.2) (fun zz => ⟨[sl 0 (.pptr 0 0 (Bk 0)), sl 3 (.rd (trR bLab zz.1))], [.box [.v (.string text), I zz.2.1, I zz.2.2.1, I zz.2.2.2] 111 false]⟩) ((r.1), (r.2.pos), (r.2.deep), (r.2.cnt)) h0 (sub_ok (by kernel_rfl)) ?_
 rintro ⟨x3, y01, y02, y03⟩ h
 replace h := hI _ _ _ _ h
 show En c ⟨[sl 0 (.pptr 0 0 (Bk 0)), sl 3 (.rd (trR bLab x3))], [.box [.v (.string text), I y01, I y02, I y03] 111 false]⟩ _
 refine En.seq ?_
 refine En.seq ?_
 refine En.region ?_
 refine WL.run ht hn 1 ⟨[sl 0 (.pptr 0 0 (Bk 0)), sl 3 (.rd (trR bLab x3)), sl 6 (.ptr 0 0)], [.box [.v (.string text), I y01, I y02, I y03] 111 false]⟩ (by kernel_rfl) ?_
 have hp := h.1
 replace h := h.2
 refine WL.callE (bNow_ct text y01 y02 y03 hp) en96 (caps := []) [0] hn (by rfl) rfl (by rfl) (argsAs (by kernel_rfl) (by rfl)) (by kernel_rfl) (by decide) (by rfl) (by rfl) (fun _ _ => ⟨by rfl, _, by rfl, ?_⟩)
 refine WL.run ht hn 1 ⟨[sl 0 (.pptr 0 0 (Bk 0)), sl 3 (.rd (trR bLab x3)), sl 8 (B ((bch text y01) == 38))], [.box [.v (.string text), I (y01), I (y02), I (y03)] 111 false]⟩ (by kernel_rfl) ?_
 refine WL.nil ?_
 refine En.cond (b := ((bch text y01) == 38)) (by kernel_rfl) (fun hb => ?_) (fun hb => ?_)
 replace h := h.1 hb
 refine En.skip ?_
 refine En.block ?_
 refine En.seq ?_
 refine En.region ?_
 refine WL.run ht hn 1 ⟨[sl 0 (.pptr 0 0 (Bk 0)), sl 3 (.rd (trR bLab x3)), sl 9 (.ptr 0 0)], [.box [.v (.string text), I (y01), I (y02), I (y03)] 111 false]⟩ (by kernel_rfl) ?_
 have hp := h.1
 replace h := h.2
 refine splitO ((bcnt ⟨(y01), (y02), (y03)⟩)) (fun hr_3 => ?_) (fun r_2 hr_3 => ?_)
 exact WL.callX (bCnt_bad text (y01) (y02) (y03) hp hr_3) en97 (caps := []) [0] (by rfl) rfl (by rfl) (argsAs (by kernel_rfl) (by rfl)) (by kernel_rfl) (by decide) (leftX hpan (h.1 hr_3))
 replace h := h.2 r_2 hr_3
 refine WL.callE (bCnt_ok text (y01) (y02) (y03) hp r_2 hr_3) en97 (caps := []) [0] hn (by rfl) rfl (by rfl) (argsAs (by kernel_rfl) (by rfl)) (by kernel_rfl) (by decide) (by rfl) (by rfl) (fun _ _ => ⟨by rfl, _, by rfl, ?_⟩)
 refine WL.nil ?_
 refine En.region ?_
 refine WL.run ht hn 2 ⟨[sl 0 (.pptr 0 0 (Bk 0)), sl 11 (.rd (trR bLab x3)), sl 12 (.ptr 0 0)], [.box [.v (.string text), I (r_2.pos), I (r_2.deep), I (r_2.cnt)] 111 false]⟩ (by kernel_rfl) ?_
 have hp := h.1
 replace h := h.2
 refine splitO ((pB text k 0 ⟨(r_2.pos), (r_2.deep), (r_2.cnt)⟩)) (fun hr_4 => ?_) (fun r_3 hr_4 => ?_)
 exact WL.callX (bI0_bad k ih text (r_2.pos) (r_2.deep) (r_2.cnt) hp hr_4) en134 (caps := []) [0] (by rfl) rfl (by rfl) (argsAs (by kernel_rfl) (by rfl)) (by kernel_rfl) (by decide) (leftX hpan (h.1 hr_4))
 replace h := h.2 r_3 hr_4
 refine WL.callE (bI0_ok k ih text (r_2.pos) (r_2.deep) (r_2.cnt) hp r_3 hr_4) en134 (caps := []) [0] hn (by rfl) rfl (by rfl) (argsAs (by kernel_rfl) (by rfl)) (by kernel_rfl) (by decide) (by rfl) (by rfl) (fun _ _ => ⟨by rfl, _, by rfl, ?_⟩)
 refine WL.mt0 (K := []) (p := some (1, rowI 63 (TT bLab) ([x3, (r_3.1)] : (List (Tr BLab))))) hn (by rfl) (mt_lit (T := (TT bLab)) ([x3, (r_3.1)] : (List (Tr BLab))) (mt_bsl 1 (r := cellsOf (TT bLab) ([x3, (r_3.1)] : (List (Tr BLab)))) ht rfl (by rfl) (by rfl) (by rfl) (by kernel_rfl) (by rfl)) (fun _ h => by cases h) (fun _ => rfl) (fun _ => rfl) (by rfl) (Nat.le_of_ble_eq_true rfl)) (by rfl) (by rfl) (by rfl) ?_
 refine WL.run ht hn 3 ⟨[sl 0 (.pptr 0 0 (Bk 0)), sl 3 (.ptr 2 0)], [.box [.v (.string text), I (r_3.2.pos), I (r_3.2.deep), I (r_3.2.cnt)] 111 false, rowI 63 (TT bLab) ([x3, (r_3.1)] : (List (Tr BLab))), .box [.v (.int .u8 38), B false, I 0, .own 1] 119 false]⟩ (by kernel_rfl) ?_
 refine WL.nil ?_
 refine En.seal (T := (TT bLab)) (l := ([x3, (r_3.1)] : (List (Tr BLab)))) (e := 63) 1 rfl ?_
 refine En.freeze [2] (by rfl) ?_
 refine En.ghost 3 (o1 (.rd (trR bLab (Tr.node (BLab.mk 38 false 0) ([x3, (r_3.1)] : (List (Tr BLab))))))) (by rfl) (tree_of (lab := bLab) (x := (BLab.mk 38 false 0)) (kids := ([x3, (r_3.1)] : (List (Tr BLab)))) (i := 2) (by rfl) (by rfl) (by rfl)) ?_
 exact En.at (I := fun zz => Inv zz.1 zz.2.1 zz.2.2.1 zz.2.2.2 ∧ mu zz.1 zz.2.1 zz.2.2.1 zz.2.2.2 < mu x3 y01 y02 y03) (T := fun zz => ⟨[sl 0 (.pptr 0 0 (Bk 0)), sl 3 (.rd (trR bLab zz.1))], [.box [.v (.string text), I zz.2.1, I zz.2.2.1, I zz.2.2.2] 111 false]⟩) ((Tr.node (BLab.mk 38 false 0) ([x3, (r_3.1)] : (List (Tr BLab)))), (r_3.2.pos), (r_3.2.deep), (r_3.2.cnt)) h (by kernel_rfl)
 replace h := h.2 hb
 refine En.exit rfl ?_
 refine En.seq ?_
 refine En.region ?_
 refine WL.run ht hn 2 ⟨[sl 0 (.pptr 0 0 (Bk 0)), sl 2 (.rd (trR bLab x3))], [.box [.v (.string text), I (y01), I (y02), I (y03)] 111 false]⟩ (by kernel_rfl) ?_
 refine WL.nil ?_
 refine En.ret ?_
 exact En.backE [0] ht (x3, (y01), (y02), (y03)) h (by kernel_rfl) (by rfl) rfl
theorem bTrm_all (k : Nat) (text : ByteArray) (s : BS) (hp : bOk (k + 1) 1 text s) (Q : BTr × Int × Int × Int → Prop) (P : Prop) (h1 : pB text (k + 1) 1 s = none → P) (h2 : ∀ r, pB text (k + 1) 1 s = some r → Q (r.1, r.2.pos, r.2.deep, r.2.cnt)) : bTrm_vc k text s.pos s.deep s.cnt Q P := by
 obtain ⟨hz, hk, hg⟩ := hp
 have e0 : pB text (k + 1) 1 s = (pB text k 0 s).bind fun r => lopBL 38 (pB text k 0) text (text.size + 1) r.1 r.2 := rfl
 unfold bTrm_vc
 refine ⟨bOk_of (s := s) hz hg (by omega), fun z => h1 (e0.trans (ob_none z)), fun r z0 => ?_⟩
 have G0 := pB_good k 0 s r hz hg z0
 have k1 := fun e => h1 (e0.trans ((ob z0).trans e))
 have k2 := fun x e => h2 x (e0.trans ((ob z0).trans e))
 have hpos := G0.pos
 have hp0 := hg.1.1
 obtain ⟨R, hR⟩ : ∃ R, R = lopBL 38 (pB text k 0) text (text.size + 1) r.1 r.2 := ⟨_, rfl⟩
 refine ⟨fun t p d n => ∃ m : Nat, text.size - p < m ∧ gB text ⟨p, d, n⟩ ∧ s.pos < p ∧ lopBL 38 (pB text k 0) text m t ⟨p, d, n⟩ = R, fun _ p _ _ => (text.size - p).toNat, ⟨text.size + 1, by omega, G0.ok, hpos, hR.symm⟩, ?_⟩
 rintro t p d n ⟨m, hm, hgp, hps, heq⟩
 have hsz : p ≤ text.size := hgp.1.2
 have hp1 : 0 ≤ p := hgp.1.1
 obtain ⟨m', rfl⟩ : ∃ m', m = m' + 1 := ⟨m - 1, by omega⟩
 rw [lopBL] at heq
 simp only at heq
 rw [hR] at heq
 refine ⟨hp1, fun hb => ?_, fun hb => ?_⟩
 ·have c : bch text p = 38 := eq_of_beq hb
  have hlt := bch_lt (text := text) (p := p) (by omega)
  rw [if_pos c] at heq
  refine ⟨⟨hgp, hz, hlt⟩, fun z => k1 (heq.symm.trans (ob_none z)), fun s1 z1 => ?_⟩
  obtain ⟨g1, q1⟩ := cnt_g hgp hlt z1
  have q1 : s1.pos = p + 1 := q1
  refine ⟨bOk_of hz g1 (by show 4 * ((text.size : Int) - s1.pos) + _ < _; omega), fun z => k1 (heq.symm.trans ((ob z1).trans (ob_none z))), fun y z2 => ?_⟩
  have G := pB_good k 0 s1 y hz g1 z2
  have hy := G.pos
  have hy2 := G.ok.1.2
  refine ⟨⟨m', by omega, G.ok, by omega, ?_⟩, by show ((text.size : Int) - y.2.pos).toNat < ((text.size : Int) - p).toNat; omega⟩
  rw [hR]
  exact ((ob z1).trans ((ob z2).trans rfl)).symm.trans heq
 ·have c : ¬ bch text p = 38 := by simpa using hb
  rw [if_neg c] at heq
  exact k2 (t, ⟨p, d, n⟩) heq.symm
theorem bTrm_ok (k : Nat) (ih : TC k) (text : ByteArray) (pos deep cnt : Int) (hp : bOk (k + 1) 1 text ⟨pos, deep, cnt⟩) (r : (BTr × BS)) (hx : pB text (k + 1) 1 ⟨pos, deep, cnt⟩ = some r) : CtE 95 [.sv (.one (.ptr 0 0))] [.box [.v (.string text), I pos, I deep, I cnt] 111 false] [0] (fun (_ : Unit) => True) (fun _ => .sv (.one (.rd (trR bLab r.1)))) (fun _ => [.box [.v (.string text), I r.2.pos, I r.2.deep, I r.2.cnt] 111 false]) :=
 (bTrm_walk k text pos deep cnt ih (fun x => x = (r.1, r.2.pos, r.2.deep, r.2.cnt)) False (bTrm_all k text ⟨pos, deep, cnt⟩ hp _ _ (fun e => by rw [hx] at e; cases e) (fun y e => by rw [hx] at e; cases e; rfl))).toE fun x hx => ⟨(), trivial, by subst hx; rfl, by subst hx; rfl⟩
theorem bTrm_bad (k : Nat) (ih : TC k) (text : ByteArray) (pos deep cnt : Int) (hp : bOk (k + 1) 1 text ⟨pos, deep, cnt⟩) (hx : pB text (k + 1) 1 ⟨pos, deep, cnt⟩ = none) : CtX 95 [.sv (.one (.ptr 0 0))] [.box [.v (.string text), I pos, I deep, I cnt] 111 false] (psStop 108) :=
 (bTrm_walk k text pos deep cnt ih (fun _ => False) True (bTrm_all k text ⟨pos, deep, cnt⟩ hp _ _ (fun _ => trivial) (fun y e => by rw [hx] at e; cases e))).toX
def bWho_vc (k : Nat) (text : ByteArray) (pos : Int) (deep : Int) (cnt : Int) (Q : (Tr BLab) × Int × Int × Int → Prop) (P : Prop) : Prop :=
 (bOk k 1 text ⟨pos, deep, cnt⟩) ∧
 ((pB text k 1 ⟨pos, deep, cnt⟩) = none → P) ∧ ∀ r, (pB text k 1 ⟨pos, deep, cnt⟩) = some r →
 (∃ (Inv : (Tr BLab) → Int → Int → Int → Prop) (mu : (Tr BLab) → Int → Int → Int → Nat), Inv (r.1) (r.2.pos) (r.2.deep) (r.2.cnt) ∧
 ∀ (x3 : (Tr BLab)) (y01 : Int) (y02 : Int) (y03 : Int) , Inv x3 y01 y02 y03 → ((0 ≤ y01) ∧
 IfP ((bch text y01) == 124) ((gB text ⟨(y01), (y02), (y03)⟩ ∧ text.size ≤ 4000 ∧ (y01) < text.size) ∧
 ((bcnt ⟨(y01), (y02), (y03)⟩) = none → P) ∧ ∀ r_2, (bcnt ⟨(y01), (y02), (y03)⟩) = some r_2 →
 ((bOk k 1 text ⟨(r_2.pos), (r_2.deep), (r_2.cnt)⟩) ∧
 ((pB text k 1 ⟨(r_2.pos), (r_2.deep), (r_2.cnt)⟩) = none → P) ∧ ∀ r_3, (pB text k 1 ⟨(r_2.pos), (r_2.deep), (r_2.cnt)⟩) = some r_3 →
 ((Inv (Tr.node (BLab.mk 124 false 0) ([x3, (r_3.1)] : (List (Tr BLab)))) (r_3.2.pos) (r_3.2.deep) (r_3.2.cnt) ∧ mu (Tr.node (BLab.mk 124 false 0) ([x3, (r_3.1)] : (List (Tr BLab)))) (r_3.2.pos) (r_3.2.deep) (r_3.2.cnt) < mu x3 y01 y02 y03)))) (Q (x3, (y01), (y02), (y03)))))
theorem bWho_walk (k : Nat) (text : ByteArray) (pos : Int) (deep : Int) (cnt : Int) (ih : TC k) (Q : (Tr BLab) × Int × Int × Int → Prop) (P : Prop) (h : bWho_vc k text pos deep cnt Q P) : CtP 47 [.sv (.one (.ptr 0 0))] [.box [.v (.string text), I pos, I deep, I cnt] 111 false] [0] Q (fun (r : (Tr BLab) × Int × Int × Int) => .sv (.one (.rd (trR bLab r.1)))) (fun (r : (Tr BLab) × Int × Int × Int) => [.box [.v (.string text), I r.2.1, I r.2.2.1, I r.2.2.2] 111 false]) (psStop 108) P := by
 have ht := tab_ok
 refine CtP.body Try.func47 rfl rfl rfl (by kernel_rfl) (by kernel_rfl) (fun c Bk hn hpan => ?_)
 unfold bWho_vc at h
 show En c ⟨[sl 0 (.pptr 0 0 (Bk 0))], [.box [.v (.string text), I pos, I deep, I cnt] 111 false]⟩ _
 refine En.seq ?_
 refine En.region ?_
 refine WL.run ht hn 1 ⟨[sl 0 (.pptr 0 0 (Bk 0))], [.box [.v (.string text), I pos, I deep, I cnt] 111 false]⟩ (by kernel_rfl) ?_
 refine WL.nil ?_
 refine En.seq ?_
 refine En.region ?_
 refine WL.run ht hn 1 ⟨[sl 0 (.pptr 0 0 (Bk 0)), sl 4 (.ptr 0 0)], [.box [.v (.string text), I pos, I deep, I cnt] 111 false]⟩ (by kernel_rfl) ?_
 have hp := h.1
 replace h := h.2
 refine splitO ((pB text k 1 ⟨pos, deep, cnt⟩)) (fun hr_2 => ?_) (fun r hr_2 => ?_)
 exact WL.callX (bI1_bad k ih text pos deep cnt hp hr_2) en95 (caps := []) [0] (by rfl) rfl (by rfl) (argsAs (by kernel_rfl) (by rfl)) (by kernel_rfl) (by decide) (leftX hpan (h.1 hr_2))
 replace h := h.2 r hr_2
 refine WL.callE (bI1_ok k ih text pos deep cnt hp r hr_2) en95 (caps := []) [0] hn (by rfl) rfl (by rfl) (argsAs (by kernel_rfl) (by rfl)) (by kernel_rfl) (by decide) (by rfl) (by rfl) (fun _ _ => ⟨by rfl, _, by rfl, ?_⟩)
 refine WL.run ht hn 1 ⟨[sl 0 (.pptr 0 0 (Bk 0)), sl 3 (.rd (trR bLab (r.1)))], [.box [.v (.string text), I (r.2.pos), I (r.2.deep), I (r.2.cnt)] 111 false]⟩ (by kernel_rfl) ?_
 refine WL.nil ?_
 refine En.seq ?_
 refine En.block ?_
 obtain ⟨Inv, mu, h0, hI⟩ := h
 refine En.loop (σ := (Tr BLab) × Int × Int × Int) (fun zz => Inv zz.1 zz.2.1 zz.2.2.1 zz.2.2.2) (fun zz => mu zz.1 zz.2.1 zz.2.2.1 zz.2.2.2) (fun zz => ⟨[sl 0 (.pptr 0 0 (Bk 0)), sl 3 (.rd (trR bLab zz.1))], [.box [.v (.string text), I zz.2.1, I zz.2.2.1, I zz.2.2.2] 111 false]⟩) ((r.1), (r.2.pos), (r.2.deep), (r.2.cnt)) h0 (sub_ok (by kernel_rfl)) ?_
 rintro ⟨x3, y01, y02, y03⟩ h
 replace h := hI _ _ _ _ h
 show En c ⟨[sl 0 (.pptr 0 0 (Bk 0)), sl 3 (.rd (trR bLab x3))], [.box [.v (.string text), I y01, I y02, I y03] 111 false]⟩ _
 refine En.seq ?_
 refine En.seq ?_
 refine En.region ?_
 refine WL.run ht hn 1 ⟨[sl 0 (.pptr 0 0 (Bk 0)), sl 3 (.rd (trR bLab x3)), sl 6 (.ptr 0 0)], [.box [.v (.string text), I y01, I y02, I y03] 111 false]⟩ (by kernel_rfl) ?_
 have hp := h.1
 replace h := h.2
 refine WL.callE (bNow_ct text y01 y02 y03 hp) en96 (caps := []) [0] hn (by rfl) rfl (by rfl) (argsAs (by kernel_rfl) (by rfl)) (by kernel_rfl) (by decide) (by rfl) (by rfl) (fun _ _ => ⟨by rfl, _, by rfl, ?_⟩)
 refine WL.run ht hn 1 ⟨[sl 0 (.pptr 0 0 (Bk 0)), sl 3 (.rd (trR bLab x3)), sl 8 (B ((bch text y01) == 124))], [.box [.v (.string text), I (y01), I (y02), I (y03)] 111 false]⟩ (by kernel_rfl) ?_
 refine WL.nil ?_
 refine En.cond (b := ((bch text y01) == 124)) (by kernel_rfl) (fun hb => ?_) (fun hb => ?_)
 replace h := h.1 hb
 refine En.skip ?_
 refine En.block ?_
 refine En.seq ?_
 refine En.region ?_
 refine WL.run ht hn 1 ⟨[sl 0 (.pptr 0 0 (Bk 0)), sl 3 (.rd (trR bLab x3)), sl 9 (.ptr 0 0)], [.box [.v (.string text), I (y01), I (y02), I (y03)] 111 false]⟩ (by kernel_rfl) ?_
 have hp := h.1
 replace h := h.2
 refine splitO ((bcnt ⟨(y01), (y02), (y03)⟩)) (fun hr_3 => ?_) (fun r_2 hr_3 => ?_)
 exact WL.callX (bCnt_bad text (y01) (y02) (y03) hp hr_3) en97 (caps := []) [0] (by rfl) rfl (by rfl) (argsAs (by kernel_rfl) (by rfl)) (by kernel_rfl) (by decide) (leftX hpan (h.1 hr_3))
 replace h := h.2 r_2 hr_3
 refine WL.callE (bCnt_ok text (y01) (y02) (y03) hp r_2 hr_3) en97 (caps := []) [0] hn (by rfl) rfl (by rfl) (argsAs (by kernel_rfl) (by rfl)) (by kernel_rfl) (by decide) (by rfl) (by rfl) (fun _ _ => ⟨by rfl, _, by rfl, ?_⟩)
 refine WL.nil ?_
 refine En.region ?_
 refine WL.run ht hn 2 ⟨[sl 0 (.pptr 0 0 (Bk 0)), sl 11 (.rd (trR bLab x3)), sl 12 (.ptr 0 0)], [.box [.v (.string text), I (r_2.pos), I (r_2.deep), I (r_2.cnt)] 111 false]⟩ (by kernel_rfl) ?_
 have hp := h.1
 replace h := h.2
 refine splitO ((pB text k 1 ⟨(r_2.pos), (r_2.deep), (r_2.cnt)⟩)) (fun hr_4 => ?_) (fun r_3 hr_4 => ?_)
 exact WL.callX (bI1_bad k ih text (r_2.pos) (r_2.deep) (r_2.cnt) hp hr_4) en95 (caps := []) [0] (by rfl) rfl (by rfl) (argsAs (by kernel_rfl) (by rfl)) (by kernel_rfl) (by decide) (leftX hpan (h.1 hr_4))
 replace h := h.2 r_3 hr_4
 refine WL.callE (bI1_ok k ih text (r_2.pos) (r_2.deep) (r_2.cnt) hp r_3 hr_4) en95 (caps := []) [0] hn (by rfl) rfl (by rfl) (argsAs (by kernel_rfl) (by rfl)) (by kernel_rfl) (by decide) (by rfl) (by rfl) (fun _ _ => ⟨by rfl, _, by rfl, ?_⟩)
 refine WL.mt0 (K := []) (p := some (1, rowI 63 (TT bLab) ([x3, (r_3.1)] : (List (Tr BLab))))) hn (by rfl) (mt_lit (T := (TT bLab)) ([x3, (r_3.1)] : (List (Tr BLab))) (mt_bsl 1 (r := cellsOf (TT bLab) ([x3, (r_3.1)] : (List (Tr BLab)))) ht rfl (by rfl) (by rfl) (by rfl) (by kernel_rfl) (by rfl)) (fun _ h => by cases h) (fun _ => rfl) (fun _ => rfl) (by rfl) (Nat.le_of_ble_eq_true rfl)) (by rfl) (by rfl) (by rfl) ?_
 refine WL.run ht hn 3 ⟨[sl 0 (.pptr 0 0 (Bk 0)), sl 3 (.ptr 2 0)], [.box [.v (.string text), I (r_3.2.pos), I (r_3.2.deep), I (r_3.2.cnt)] 111 false, rowI 63 (TT bLab) ([x3, (r_3.1)] : (List (Tr BLab))), .box [.v (.int .u8 124), B false, I 0, .own 1] 119 false]⟩ (by kernel_rfl) ?_
 refine WL.nil ?_
 refine En.seal (T := (TT bLab)) (l := ([x3, (r_3.1)] : (List (Tr BLab)))) (e := 63) 1 rfl ?_
 refine En.freeze [2] (by rfl) ?_
 refine En.ghost 3 (o1 (.rd (trR bLab (Tr.node (BLab.mk 124 false 0) ([x3, (r_3.1)] : (List (Tr BLab))))))) (by rfl) (tree_of (lab := bLab) (x := (BLab.mk 124 false 0)) (kids := ([x3, (r_3.1)] : (List (Tr BLab)))) (i := 2) (by rfl) (by rfl) (by rfl)) ?_
 exact En.at (I := fun zz => Inv zz.1 zz.2.1 zz.2.2.1 zz.2.2.2 ∧ mu zz.1 zz.2.1 zz.2.2.1 zz.2.2.2 < mu x3 y01 y02 y03) (T := fun zz => ⟨[sl 0 (.pptr 0 0 (Bk 0)), sl 3 (.rd (trR bLab zz.1))], [.box [.v (.string text), I zz.2.1, I zz.2.2.1, I zz.2.2.2] 111 false]⟩) ((Tr.node (BLab.mk 124 false 0) ([x3, (r_3.1)] : (List (Tr BLab)))), (r_3.2.pos), (r_3.2.deep), (r_3.2.cnt)) h (by kernel_rfl)
 replace h := h.2 hb
 refine En.exit rfl ?_
 refine En.seq ?_
 refine En.region ?_
 refine WL.run ht hn 2 ⟨[sl 0 (.pptr 0 0 (Bk 0)), sl 2 (.rd (trR bLab x3))], [.box [.v (.string text), I (y01), I (y02), I (y03)] 111 false]⟩ (by kernel_rfl) ?_
 refine WL.nil ?_
 refine En.ret ?_
 exact En.backE [0] ht (x3, (y01), (y02), (y03)) h (by kernel_rfl) (by rfl) rfl
theorem bWho_all (k : Nat) (text : ByteArray) (s : BS) (hp : bOk (k + 1) 2 text s) (Q : BTr × Int × Int × Int → Prop) (P : Prop) (h1 : pB text (k + 1) 2 s = none → P) (h2 : ∀ r, pB text (k + 1) 2 s = some r → Q (r.1, r.2.pos, r.2.deep, r.2.cnt)) : bWho_vc k text s.pos s.deep s.cnt Q P := by
 obtain ⟨hz, hk, hg⟩ := hp
 have e0 : pB text (k + 1) 2 s = (pB text k 1 s).bind fun r => lopBL 124 (pB text k 1) text (text.size + 1) r.1 r.2 := rfl
 unfold bWho_vc
 refine ⟨bOk_of (s := s) hz hg (by omega), fun z => h1 (e0.trans (ob_none z)), fun r z0 => ?_⟩
 have G0 := pB_good k 1 s r hz hg z0
 have k1 := fun e => h1 (e0.trans ((ob z0).trans e))
 have k2 := fun x e => h2 x (e0.trans ((ob z0).trans e))
 have hpos := G0.pos
 have hp0 := hg.1.1
 obtain ⟨R, hR⟩ : ∃ R, R = lopBL 124 (pB text k 1) text (text.size + 1) r.1 r.2 := ⟨_, rfl⟩
 refine ⟨fun t p d n => ∃ m : Nat, text.size - p < m ∧ gB text ⟨p, d, n⟩ ∧ s.pos < p ∧ lopBL 124 (pB text k 1) text m t ⟨p, d, n⟩ = R, fun _ p _ _ => (text.size - p).toNat, ⟨text.size + 1, by omega, G0.ok, hpos, hR.symm⟩, ?_⟩
 rintro t p d n ⟨m, hm, hgp, hps, heq⟩
 have hsz : p ≤ text.size := hgp.1.2
 have hp1 : 0 ≤ p := hgp.1.1
 obtain ⟨m', rfl⟩ : ∃ m', m = m' + 1 := ⟨m - 1, by omega⟩
 rw [lopBL] at heq
 simp only at heq
 rw [hR] at heq
 refine ⟨hp1, fun hb => ?_, fun hb => ?_⟩
 ·have c : bch text p = 124 := eq_of_beq hb
  have hlt := bch_lt (text := text) (p := p) (by omega)
  rw [if_pos c] at heq
  refine ⟨⟨hgp, hz, hlt⟩, fun z => k1 (heq.symm.trans (ob_none z)), fun s1 z1 => ?_⟩
  obtain ⟨g1, q1⟩ := cnt_g hgp hlt z1
  have q1 : s1.pos = p + 1 := q1
  refine ⟨bOk_of hz g1 (by show 4 * ((text.size : Int) - s1.pos) + _ < _; omega), fun z => k1 (heq.symm.trans ((ob z1).trans (ob_none z))), fun y z2 => ?_⟩
  have G := pB_good k 1 s1 y hz g1 z2
  have hy := G.pos
  have hy2 := G.ok.1.2
  refine ⟨⟨m', by omega, G.ok, by omega, ?_⟩, by show ((text.size : Int) - y.2.pos).toNat < ((text.size : Int) - p).toNat; omega⟩
  rw [hR]
  exact ((ob z1).trans ((ob z2).trans rfl)).symm.trans heq
 ·have c : ¬ bch text p = 124 := by simpa using hb
  rw [if_neg c] at heq
  exact k2 (t, ⟨p, d, n⟩) heq.symm
theorem bWho_ok (k : Nat) (ih : TC k) (text : ByteArray) (pos deep cnt : Int) (hp : bOk (k + 1) 2 text ⟨pos, deep, cnt⟩) (r : (BTr × BS)) (hx : pB text (k + 1) 2 ⟨pos, deep, cnt⟩ = some r) : CtE 47 [.sv (.one (.ptr 0 0))] [.box [.v (.string text), I pos, I deep, I cnt] 111 false] [0] (fun (_ : Unit) => True) (fun _ => .sv (.one (.rd (trR bLab r.1)))) (fun _ => [.box [.v (.string text), I r.2.pos, I r.2.deep, I r.2.cnt] 111 false]) :=
 (bWho_walk k text pos deep cnt ih (fun x => x = (r.1, r.2.pos, r.2.deep, r.2.cnt)) False (bWho_all k text ⟨pos, deep, cnt⟩ hp _ _ (fun e => by rw [hx] at e; cases e) (fun y e => by rw [hx] at e; cases e; rfl))).toE fun x hx => ⟨(), trivial, by subst hx; rfl, by subst hx; rfl⟩
theorem bWho_bad (k : Nat) (ih : TC k) (text : ByteArray) (pos deep cnt : Int) (hp : bOk (k + 1) 2 text ⟨pos, deep, cnt⟩) (hx : pB text (k + 1) 2 ⟨pos, deep, cnt⟩ = none) : CtX 47 [.sv (.one (.ptr 0 0))] [.box [.v (.string text), I pos, I deep, I cnt] 111 false] (psStop 108) :=
 (bWho_walk k text pos deep cnt ih (fun _ => False) True (bWho_all k text ⟨pos, deep, cnt⟩ hp _ _ (fun _ => trivial) (fun y e => by rw [hx] at e; cases e))).toX
theorem brAll : ∀ k, TC k
 | 0 => fun text pos deep cnt => ⟨fun hp => absurd hp.2.1 (by have := hp.2.2.1.2; simp only at this; show ¬ (4 * ((text.size : Int) - pos) + _ < _); omega), fun hp => absurd hp.2.1 (by have := hp.2.2.1.2; simp only at this; show ¬ (4 * ((text.size : Int) - pos) + _ < _); omega), fun hp => absurd hp.2.1 (by have := hp.2.2.1.2; simp only at this; show ¬ (4 * ((text.size : Int) - pos) + _ < _); omega)⟩
 | k + 1 => fun text pos deep cnt => ⟨fun hp => ⟨bPar_ok k (brAll k) text pos deep cnt hp, bPar_bad k (brAll k) text pos deep cnt hp⟩, fun hp => ⟨bTrm_ok k (brAll k) text pos deep cnt hp, bTrm_bad k (brAll k) text pos deep cnt hp⟩, fun hp => ⟨bWho_ok k (brAll k) text pos deep cnt hp, bWho_bad k (brAll k) text pos deep cnt hp⟩⟩
end Go.Proofs.Ytiejmeedkhkfgaa


namespace Go.Proofs.Ytiejmeedkhkfgaa
open Go.RowKit Go.MapKept
set_option linter.unusedSimpArgs false
set_option linter.unusedVariables false
set_option maxRecDepth 100000
section
variable {c : Cfg} {S : St} {tab : Tab} {n : Nat} {o : Oper} {N : Po}
end
end Go.Proofs.Ytiejmeedkhkfgaa


namespace Go.Proofs.Ytiejmeedkhkfgaa
open Go.RowKit Go.MapKept
set_option linter.unusedSimpArgs false
set_option linter.unusedVariables false
set_option maxRecDepth 100000
theorem en46 : ∀ args w, (callFunc 46 args).run Try.prog w = .ok (.enter 46 args) w := enters_of Try.func46 (by kernel_rfl) rfl
theorem braCatch (r0 : Rd) (c0 a0 code at_ : Int) (hc : code ≠ 0) : CtD 46 [.box [.rd r0] 63 false, .box [I c0, I a0] 32 false] [.box [.rd (optR bLab none)] 63 false, .box [I code, I at_] 32 false] (.panicking [{ v := .iface 108 (.agg #[.int .i64 code, .int .i64 at_]), recovered := false }]) (.panicking [{ v := .iface 108 (.agg #[.int .i64 code, .int .i64 at_]), recovered := true }]) := by
 have ht := tab_ok
 refine CtD.body (pv := .iface 108 (.agg #[.int .i64 code, .int .i64 at_])) (d := 5) Try.func46 rfl rfl rfl (by kernel_rfl) (by kernel_rfl) (by kernel_rfl) rfl rfl rfl (fun c₀ cs hm => by simp [recoverD, hm]) trivial (fun c Bk hn => ?_)
 have h : True := trivial
 refine En.block ?_
 refine En.seq ?_
 refine En.region ?_
 refine WL.val hn (by rfl) (val_ifNil rfl (by rfl) (by rfl) (fun w => by kernel_rfl)) (by rfl) ?_
 refine WL.nil ?_
 refine En.cond (b := false) (by kernel_rfl) (fun hb => ?_) (fun hb => ?_)
 ·cases hb
 ·refine En.seq ?_
  refine En.region ?_
  refine WL.val hn (by rfl) (val_assert (cs := [.int .i64 code, .int .i64 at_]) rfl (by rfl) rfl (by simp [cellV]) (fun w => by kernel_rfl)) (by rfl) ?_
  refine WL.run ht hn 2 ⟨[(0, .sv (.one (.pptr 0 0 (Bk 0)))), (1, .sv (.one (.pptr 1 0 (Bk 1)))), (5, .sv (.one (.v (.iface 108 (.agg #[.int .i64 code, .int .i64 at_]))))), (9, .sv (.one (B true))), (10, .sv (.agg [I code, I at_]))], [.box [.rd r0] 63 false, .box [I c0, I a0] 32 false]⟩ (by kernel_rfl) ?_
  refine WL.nil ?_
  refine En.cond (b := true) (by kernel_rfl) (fun hb => ?_) (fun hb => ?_)
  ·refine En.seq ?_
   refine En.region ?_
   refine WL.run ht hn 2 ⟨[(0, .sv (.one (.pptr 0 0 (Bk 0)))), (1, .sv (.one (.pptr 1 0 (Bk 1)))), (3, .sv (.one (.ptr 2 0)))], [.box [.rd r0] 63 false, .box [I c0, I a0] 32 false, .box [I code, I at_] 108 false]⟩ (by kernel_rfl) ?_
   refine WL.nil ?_
   refine En.regionA ⟨[(0, .sv (.one (.pptr 0 0 (Bk 0)))), (1, .sv (.one (.pptr 1 0 (Bk 1)))), (3, .sv (.one (.ptr 2 0)))], [.sv (.one (.ptr 2 0)), .sv (.agg [I code, I at_]), .tup [], .tup []], [⟨.box [.rd r0] 63 false, none, none, some (2, .box [.v (.pointer none)] 63 false)⟩, ⟨.box [I c0, I a0] 32 false, none, none, some (3, .box [I code, I at_] 32 false)⟩, ⟨.box [I code, I at_] 108 false, none, none, none⟩]⟩ ⟨[(0, .sv (.one (.pptr 0 0 (Bk 0)))), (1, .sv (.one (.pptr 1 0 (Bk 1))))], [.box [.v (.pointer none)] 63 false, .box [I code, I at_] 32 false, .gone]⟩ (by kernel_rfl) hn (by kernel_rfl) (by rfl) (by kernel_rfl) ?_ (by kernel_rfl) ?_
   ·exact ⟨.mt ⟨[(3, .sv (.one (.ptr 2 0)))], []⟩ [] none (by kernel_rfl) (by rfl) (mt_ev ht (by kernel_rfl)) rfl rfl rfl rfl,
  .mt ⟨[(11, .sv (.one (.ptr 2 0)))], [.gone, .gone, .box [I code, I at_] 108 false]⟩ [] none (by kernel_rfl) (by rfl) (mt_ev ht (by kernel_rfl)) rfl rfl rfl rfl,
  .mu ⟨[(0, .sv (.one (.pptr 0 0 (Bk 0))))], [.box [.rd r0] 63 false]⟩ 0 _ _ rfl rfl (by kernel_rfl) (by rfl) (mu_store2 ht rfl (by rfl) (by rfl) (by rfl) (by rfl) (fun h => by cases h) (by rfl) (by rfl)) rfl rfl rfl rfl rfl rfl rfl,
  .mu ⟨[(1, .sv (.one (.pptr 1 0 (Bk 1)))), (12, .sv (.agg [I code, I at_]))], [.gone, .box [I c0, I a0] 32 false]⟩ 1 _ _ rfl rfl (by kernel_rfl) (by rfl) (mu_store2 ht rfl (by rfl) (by rfl) (by rfl) (by rfl) (fun h => by cases h) (by rfl) (by rfl)) rfl rfl rfl rfl rfl rfl rfl,
  trivial⟩
   ·refine En.boxTurn (.rd (optR bLab none)) 0 0 (by rfl) (by rfl) optNil ?_
    exact En.backE [0, 1] ht () trivial (by kernel_rfl) (by rfl) rfl
  ·cases hb
theorem braIdle (r0 : Rd) (c0 a0 : Int) : CtD 46 [.box [.rd r0] 63 false, .box [I c0, I a0] 32 false] [.box [.rd r0] 63 false, .box [I c0, I a0] 32 false] (.returning) (.returning) := by
 have ht := tab_ok
 refine CtD.body (pv := .nilIface) (d := 5) Try.func46 rfl rfl rfl (by kernel_rfl) (by kernel_rfl) (by kernel_rfl) rfl rfl rfl (fun c₀ cs hm => by simp [recoverD, hm]) trivial (fun c Bk hn => ?_)
 have h : True := trivial
 refine En.block ?_
 refine En.seq ?_
 refine En.region ?_
 refine WL.val hn (by rfl) (val_nilNil rfl (by rfl) (by rfl) (fun w => by kernel_rfl)) (by rfl) ?_
 refine WL.nil ?_
 refine En.cond (b := true) (by kernel_rfl) (fun hb => ?_) (fun hb => ?_)
 ·refine En.region ?_
  refine WL.run ht hn 1 ⟨[(0, .sv (.one (.pptr 0 0 (Bk 0)))), (1, .sv (.one (.pptr 1 0 (Bk 1))))], [.box [.rd r0] 63 false, .box [I c0, I a0] 32 false]⟩ (by kernel_rfl) ?_
  refine WL.nil ?_
  exact En.backE [0, 1] ht () trivial (by kernel_rfl) (by rfl) rfl
 ·cases hb
def bParse_vc (text : ByteArray) (Q : (Option (Tr BLab) × ApiFault) → Prop) : Prop :=
 IfP (decide ((text.size : Int) > 4000)) (Q (none, ApiFault.mk 1 0)) ((bOk (4 * text.size + 4) 2 text ⟨0, 0, 0⟩) ∧
 ((pB text (4 * text.size + 4) 2 ⟨0, 0, 0⟩) = none → (∀ code at_ : Int, code ≠ 0 → Q (none, ApiFault.mk code at_))) ∧ ∀ r, (pB text (4 * text.size + 4) 2 ⟨0, 0, 0⟩) = some r →
 (IfP (decide ((r.2.pos) < (text.size : Int))) (((4 : Int) ≠ 0) ∧
 (∀ code at_ : Int, code ≠ 0 → Q (none, ApiFault.mk code at_))) (Q ((some (r.1)), ApiFault.mk 0 0))))
theorem bParse_walk (text : ByteArray) (Q : (Option (Tr BLab) × ApiFault) → Prop) (h : bParse_vc text Q) : Ct 21 [.sv (.one (.v (.string text)))] [] Q (fun (r : (Option (Tr BLab) × ApiFault)) => .tup [.one (.rd (optR bLab r.1)), .agg [I r.2.fCode, I r.2.fAt]]) := by
 have ht := tab_ok
 refine Ct.bodyD Try.func21 rfl rfl rfl (fun c R hn hdf hR hpan => ?_)
 unfold bParse_vc at h
 refine En.seq ?_
 refine En.region ?_
 refine WL.run ht hn 2 ⟨[sl 0 (.v (.string text)), sl 2 (.ptr 0 0), sl 3 (.ptr 1 0)], [.box [.v (.pointer none)] 63 false, .box [I 0, I 0] 32 false]⟩ (by kernel_rfl) ?_
 refine WL.nil ?_
 refine En.seq ?_
 refine En.seq ?_
 refine En.region ?_
 refine WL.run ht hn 1 ⟨[sl 0 (.v (.string text)), sl 2 (.ptr 0 0), sl 3 (.ptr 1 0), sl 5 (.v (.string text))], [.box [.v (.pointer none)] 63 false, .box [I 0, I 0] 32 false]⟩ (by kernel_rfl) ?_
 refine WL.val hn (by rfl) (val_lenS (s := text) rfl Try.underlying9 (by rfl)) (by rfl) ?_
 refine WL.run ht hn 1 ⟨[sl 0 (.v (.string text)), sl 2 (.ptr 0 0), sl 3 (.ptr 1 0), sl 7 (B (decide ((text.size : Int) > 4000)))], [.box [.v (.pointer none)] 63 false, .box [I 0, I 0] 32 false]⟩ (by kernel_rfl) ?_
 refine WL.nil ?_
 refine En.cond (b := (decide ((text.size : Int) > 4000))) (by kernel_rfl) (fun hb => ?_) (fun hb => ?_)
 replace h := h.1 hb
 refine En.seq ?_
 refine En.region ?_
 refine WL.run ht hn 3 ⟨[sl 2 (.ptr 0 0), sl 3 (.ptr 1 0)], [.box [.v (.pointer none)] 63 false, .box [I 1, I 0] 32 false]⟩ (by kernel_rfl) ?_
 refine WL.nil ?_
 refine En.ret ?_
 refine En.boxTurn (.rd (optR bLab none)) 0 0 (by rfl) (by rfl) optNil ?_
 exact En.backD0 ht rfl hR hdf (none, ApiFault.mk 1 0) h (by kernel_rfl) rfl
 replace h := h.2 hb
 refine En.skip ?_
 refine En.seq ?_
 refine En.region ?_
 refine WL.run ht hn 1 ⟨[sl 0 (.v (.string text)), sl 2 (.ptr 0 0), sl 3 (.ptr 1 0), sl 9 (.fn 46 [0, 1])], [.box [.v (.pointer none)] 63 false, .box [I 0, I 0] 32 false]⟩ (by kernel_rfl) ?_
 refine WL.defer (F := 46) (t0 := 2) (t1 := 3) (d := 9) (i := 0) (j := 1) (by rfl) rfl rfl (by rfl) (by rfl) (by rfl) hdf (fun c' Bk hn' hw0 hg0 hm0 hpn hdf => ?_)
 replace hR := hR_cast hw0 hg0 hm0 hR
 replace hpan := hpan_cast hpn hpan
 replace hn := hn'.trans hn
 clear hn' hw0 hg0 hm0
 refine WL.sub ⟨[sl 0 (.v (.string text)), sl 2 (.pptr 0 0 (Bk 0)), sl 3 (.pptr 1 0 (Bk 1)), sl 9 (.fn 46 [0, 1])], [.box [.v (.pointer none)] 63 false, .box [I 0, I 0] 32 false]⟩ (by kernel_rfl) ?_
 refine WL.boxTurn (.rd (optR bLab none)) 0 0 (by rfl) (by rfl) optNil ?_
 refine WL.nil ?_
 refine En.cfg hpn ?_
 refine En.seq ?_
 refine En.region ?_
 refine WL.run ht hn 4 ⟨[sl 0 (.v (.string text)), sl 2 (.pptr 0 0 (Bk 0)), sl 3 (.pptr 1 0 (Bk 1)), sl 4 (.ptr 2 0)], [.box [.rd (optR bLab none)] 63 false, .box [I 0, I 0] 32 false, .box [.v (.string text), I 0, I 0, I 0] 111 false]⟩ (by kernel_rfl) ?_
 refine WL.nil ?_
 refine En.seq ?_
 refine En.region ?_
 refine WL.run ht hn 1 ⟨[sl 0 (.v (.string text)), sl 2 (.pptr 0 0 (Bk 0)), sl 3 (.pptr 1 0 (Bk 1)), sl 4 (.ptr 2 0), sl 13 (.ptr 2 0)], [.box [.rd (optR bLab none)] 63 false, .box [I 0, I 0] 32 false, .box [.v (.string text), I 0, I 0, I 0] 111 false]⟩ (by kernel_rfl) ?_
 have hp := h.1
 replace h := h.2
 refine splitO ((pB text (4 * text.size + 4) 2 ⟨0, 0, 0⟩)) (fun hr_2 => ?_) (fun r hr_2 => ?_)
 exact WL.callX (bI2_bad _ (brAll _) text 0 0 0 hp hr_2) en47 (caps := []) [2] (by rfl) rfl (by rfl) (argsAs (by kernel_rfl) (by rfl)) (by kernel_rfl) (by decide) (leftD (ty := 108) 2 3 0 1 ht rfl hR hpan hdf (by rfl) (by rfl) (fun code at_ hc => braCatch (optR bLab none) 0 0 code at_ hc) en46 (by kernel_rfl) (by kernel_rfl) (by decide) (by rfl) (fun _ _ => by rfl) (fun _ _ => Nat.le_of_ble_eq_true rfl) (fun _ _ => by rfl) (fun _ _ => rfl) (fun code at_ => (none, ApiFault.mk code at_)) (fun code at_ hc => (h.1 hr_2) code at_ hc) (fun _ _ => by kernel_rfl) (fun _ _ => rfl))
 replace h := h.2 r hr_2
 refine WL.callE (bI2_ok _ (brAll _) text 0 0 0 hp r hr_2) en47 (caps := []) [2] hn (by rfl) rfl (by rfl) (argsAs (by kernel_rfl) (by rfl)) (by kernel_rfl) (by decide) (by rfl) (by rfl) (fun _ _ => ⟨by rfl, _, by rfl, ?_⟩)
 refine WL.run ht hn 1 ⟨[sl 0 (.v (.string text)), sl 2 (.pptr 0 0 (Bk 0)), sl 3 (.pptr 1 0 (Bk 1)), sl 4 (.ptr 2 0)], [.box [.rd (trR bLab (r.1))] 63 false, .box [I 0, I 0] 32 false, .box [.v (.string text), I (r.2.pos), I (r.2.deep), I (r.2.cnt)] 111 false]⟩ (by kernel_rfl) ?_
 refine WL.nil ?_
 refine En.seq ?_
 refine En.seq ?_
 refine En.region ?_
 refine WL.run ht hn 5 ⟨[sl 2 (.pptr 0 0 (Bk 0)), sl 3 (.pptr 1 0 (Bk 1)), sl 4 (.ptr 2 0), sl 18 (I (r.2.pos)), sl 19 (.v (.string text))], [.box [.rd (trR bLab (r.1))] 63 false, .box [I 0, I 0] 32 false, .box [.v (.string text), I (r.2.pos), I (r.2.deep), I (r.2.cnt)] 111 false]⟩ (by kernel_rfl) ?_
 refine WL.val hn (by rfl) (val_lenS (s := text) rfl Try.underlying9 (by rfl)) (by rfl) ?_
 refine WL.run ht hn 1 ⟨[sl 2 (.pptr 0 0 (Bk 0)), sl 3 (.pptr 1 0 (Bk 1)), sl 4 (.ptr 2 0), sl 21 (B (decide ((r.2.pos) < (text.size : Int))))], [.box [.rd (trR bLab (r.1))] 63 false, .box [I 0, I 0] 32 false, .box [.v (.string text), I (r.2.pos), I (r.2.deep), I (r.2.cnt)] 111 false]⟩ (by kernel_rfl) ?_
 refine WL.nil ?_
 refine En.cond (b := (decide ((r.2.pos) < (text.size : Int)))) (by kernel_rfl) (fun hb => ?_) (fun hb => ?_)
 replace h := h.1 hb
 refine En.region ?_
 refine WL.run ht hn 1 ⟨[sl 2 (.pptr 0 0 (Bk 0)), sl 3 (.pptr 1 0 (Bk 1)), sl 22 (.ptr 2 0)], [.box [.rd (trR bLab (r.1))] 63 false, .box [I 0, I 0] 32 false, .box [.v (.string text), I (r.2.pos), I (r.2.deep), I (r.2.cnt)] 111 false]⟩ (by kernel_rfl) ?_
 have hp := h.1
 replace h := h.2
 exact WL.callX (bFail_ct text (r.2.pos) (r.2.deep) (r.2.cnt) 4 hp) en48 (caps := []) [2] (by rfl) rfl (by rfl) (argsAs (by kernel_rfl) (by rfl)) (by kernel_rfl) (by decide) (leftD (ty := 108) 2 3 0 1 ht rfl hR hpan hdf (by rfl) (by rfl) (fun code at_ hc => braCatch (trR bLab (r.1)) 0 0 code at_ hc) en46 (by kernel_rfl) (by kernel_rfl) (by decide) (by rfl) (fun _ _ => by rfl) (fun _ _ => Nat.le_of_ble_eq_true rfl) (fun _ _ => by rfl) (fun _ _ => rfl) (fun code at_ => (none, ApiFault.mk code at_)) (fun code at_ hc => h code at_ hc) (fun _ _ => by kernel_rfl) (fun _ _ => rfl))
 replace h := h.2 hb
 refine En.skip ?_
 refine En.seq ?_
 refine En.region ?_
 refine WL.run ht hn 4 ⟨[sl 2 (.pptr 0 0 (Bk 0)), sl 3 (.pptr 1 0 (Bk 1))], [.box [.rd (trR bLab (r.1))] 63 false, .box [I 0, I 0] 32 false, .gone]⟩ (by kernel_rfl) ?_
 refine WL.nil ?_
 refine En.ret ?_
 refine En.boxTurn (.rd (optR bLab (some (r.1)))) 0 0 (by rfl) (by rfl) optSome ?_
 exact En.backD 2 3 0 1 ht rfl hR hdf (by rfl) (by rfl) (braIdle (optR bLab (some (r.1))) 0 0) en46 (by kernel_rfl) (by decide) (by rfl) (by rfl) (Nat.le_of_ble_eq_true rfl) (by rfl) rfl ((some (r.1)), ApiFault.mk 0 0) h (by kernel_rfl) rfl
theorem en21 : ∀ args w, (callFunc 21 args).run Try.prog w = .ok (.enter 21 args) w := enters_of Try.func21 (by kernel_rfl) rfl
def fullB (text : ByteArray) : Option BTr := if 4000 < text.size then none else match pB text (4 * text.size + 4) 2 ⟨0, 0, 0⟩ with
 | none => none
 | some r => if r.2.pos < text.size then none else some r.1
def ParsedB (text : ByteArray) (r : Option BTr × ApiFault) : Prop := (r.1 = none ∧ r.2.fCode ≠ 0 ∧ fullB text = none) ∨ ∃ t, fullB text = some t ∧ r = (some t, ⟨0, 0⟩)
theorem fullB_some {text : ByteArray} {t : BTr} (h : fullB text = some t) : text.size ≤ 4000 ∧ Shp 30 t ∧ qB text (4 * text.size + 4) 2 0 = some (t, (text.size : Int)) := by
 unfold fullB at h
 split at h
 ·cases h
 rename_i hz
 split at h
 ·cases h
 rename_i r hr
 split at h
 ·cases h
 rename_i he
 cases h
 have hz : text.size ≤ 4000 := by omega
 obtain ⟨_, g2, _, _, g5, g6⟩ := pB_good _ _ ⟨0, 0, 0⟩ r hz (show gB text ⟨0, 0, 0⟩ from ⟨⟨by decide, Int.natCast_nonneg _⟩, ⟨by decide, by decide⟩, by decide, by decide⟩) hr
 obtain ⟨⟨_, q1⟩, ⟨n0, n1⟩, _⟩ := g2
 refine ⟨hz, g5.mono (by show (r.2.cnt - 0).toNat ≤ 30; omega), ?_⟩
 have : r.2.pos = (text.size : Int) := by omega
 rw [← this]
 exact g6
theorem bParse_ct (text : ByteArray) : Ct 21 [.sv (.one (.v (.string text)))] [] (ParsedB text) (fun (r : (Option (Tr BLab) × ApiFault)) => .tup [.one (.rd (optR bLab r.1)), .agg [I r.2.fCode, I r.2.fAt]]) := by
 refine bParse_walk text (ParsedB text) ?_
 unfold bParse_vc
 refine ⟨fun hb => .inl ⟨rfl, by show (1 : Int) ≠ 0; decide, ?_⟩, fun hb => ?_⟩
 ·have := of_decide_eq_true hb
  unfold fullB
  rw [if_pos (by omega)]
 have hz : text.size ≤ 4000 := by have := of_decide_eq_false hb; omega
 have hg : gB text ⟨0, 0, 0⟩ := ⟨⟨by decide, Int.natCast_nonneg _⟩, ⟨by decide, by decide⟩, by decide, by decide⟩
 refine ⟨bOk_of hz hg (by show 4 * ((text.size : Int) - 0) + 2 < ((4 * text.size + 4 : Nat) : Int); omega), fun hn code at_ hc => .inl ⟨rfl, hc, ?_⟩, fun r hr => ⟨fun hb2 => ⟨by decide, fun code at_ hc => .inl ⟨rfl, hc, ?_⟩⟩, fun hb2 => .inr ⟨r.1, ?_, rfl⟩⟩⟩
 ·unfold fullB
  rw [if_neg (by omega), hn]
 ·have := of_decide_eq_true hb2
  unfold fullB
  rw [if_neg (by omega), hr]
  exact if_pos this
 ·have := of_decide_eq_false hb2
  unfold fullB
  rw [if_neg (by omega), hr]
  exact if_neg this
def bCheck_vc (text : ByteArray) (Q : ApiFault → Prop) : Prop :=
 ∀ r : (Option BTr × ApiFault), (ParsedB text) r →
 (Q r.2)
theorem bCheck_walk (text : ByteArray) (Q : ApiFault → Prop) (h : bCheck_vc text Q) : Ct 10 [.sv (.one (.v (.string text)))] [] Q (fun (r : ApiFault) => .sv (.agg [I r.fCode, I r.fAt])) := by
 have ht := tab_ok
 refine Ct.body Try.func10 rfl rfl rfl rfl (fun c hn => ?_)
 unfold bCheck_vc at h
 refine En.seq ?_
 refine En.region ?_
 refine WL.run ht hn 1 ⟨[sl 0 (.v (.string text)), sl 2 (.ptr 0 0)], [.box [I 0, I 0] 32 false]⟩ (by kernel_rfl) ?_
 refine WL.nil ?_
 refine En.seq ?_
 refine En.region ?_
 refine WL.run ht hn 1 ⟨[sl 2 (.ptr 0 0), sl 6 (.v (.string text))], [.box [I 0, I 0] 32 false]⟩ (by kernel_rfl) ?_
 refine WL.mtQ (Q := ParsedB text) (x := fun (r : (Option BTr × ApiFault)) => .tup [.one (.rd (optR bLab r.1)), .agg (ApiFault.cl r.2)]) (p := fun _ => none) hn (by rfl) (mtq_call (bParse_ct text) en21 (caps := []) [] rfl (by rfl) (by kernel_rfl) (by kernel_rfl) (by rfl) (fun _ => rfl) (by rfl)) (fun r hr_2 => ⟨by rfl, _, by rfl, ?_⟩)
 replace h := h r hr_2
 refine WL.run ht hn 6 ⟨[sl 2 (.ptr 0 0), sl 4 (.ptr 1 0)], [.box [I 0, I 0] 32 false, .box (ApiFault.cl r.2) 32 false]⟩ (by kernel_rfl) ?_
 refine WL.nil ?_
 refine En.seq ?_
 refine En.region ?_
 refine WL.run ht hn 2 ⟨[sl 2 (.ptr 0 0)], [.box (ApiFault.cl r.2) 32 false, .gone]⟩ (by kernel_rfl) ?_
 refine WL.nil ?_
 refine En.ret ?_
 exact En.back ht r.2 h (by kernel_rfl) rfl
theorem en10 : ∀ args w, (callFunc 10 args).run Try.prog w = .ok (.enter 10 args) w := enters_of Try.func10 (by kernel_rfl) rfl
def CheckB (text : ByteArray) (r : ApiFault) : Prop := r.fCode = 0 → ∃ t, fullB text = some t
theorem bCheck_ct (text : ByteArray)  : Ct 10 [.sv (.one (.v (.string text)))] [] (CheckB text) (fun (r : ApiFault) => .sv (.agg [I r.fCode, I r.fAt])) := by
 refine bCheck_walk text (CheckB text) ?_
 unfold bCheck_vc
 intro r hr h
 rcases hr with ⟨_, h1, _⟩ | ⟨t, h1, _⟩
 ·exact absurd h h1
 ·exact ⟨t, h1⟩
end Go.Proofs.Ytiejmeedkhkfgaa


namespace Go.Proofs.Ytiejmeedkhkfgaa
open Go.RowKit Go.MapKept
set_option linter.unusedSimpArgs false
set_option linter.unusedVariables false
set_option maxRecDepth 100000
set_option linter.unusedSectionVars false
theorem nodup_le {α : Type} : ∀ {l m : List α}, l.Nodup → (∀ x ∈ l, x ∈ m) → l.length ≤ m.length
 | [], _, _, _ => Nat.zero_le _
 | x :: l, m, hn, h => by
  rw [List.nodup_cons] at hn
  obtain ⟨s, t, rfl⟩ := List.append_of_mem (h x List.mem_cons_self)
  have := nodup_le (l := l) (m := s ++ t) hn.2 fun y hy => by
   have h1 := h y (List.mem_cons_of_mem _ hy)
   rw [List.mem_append, List.mem_cons] at h1
   rw [List.mem_append]
   rcases h1 with h1 | rfl | h1
   ·exact .inl h1
   ·exact absurd hy hn.1
   ·exact .inr h1
  simp only [List.length_append, List.length_cons] at this ⊢
  omega
theorem idxOf_left {α : Type} [DecidableEq α] {x : α} : ∀ {l r : List α}, x ∈ l → (l ++ r).idxOf x = l.idxOf x
 | [], _, h => by simp at h
 | y :: l, r, h => by
  rw [List.cons_append, List.idxOf_cons, List.idxOf_cons]
  by_cases e : y = x
  ·simp [e]
  ·have hm : x ∈ l := by
    rcases List.mem_cons.1 h with h | h
    ·exact absurd h.symm e
    ·exact h
   simp [e, idxOf_left (r := r) hm]
section
variable {K : Type} [DecidableEq K]
variable {go : K → Nat → K} {mark : K → Int} {L : Nat} {k0 : K} {P : K → Prop}
section
variable {K' : Type} [DecidableEq K'] {go' : K' → Nat → K'} {mark' : K' → Int} {φ : K → K'}
end
end
abbrev Lang := List Nat → Int
noncomputable instance langDec : DecidableEq Lang := fun _ _ => Classical.propDecidable _
def rs (L : Nat) (r : Lang) : Lang := fun w => if ∀ a ∈ w, a < L then r w else 0
theorem rs_congr {L : Nat} {r s : Lang} (h : ∀ w, (∀ a ∈ w, a < L) → r w = s w) : rs L r = rs L s := by
 funext w
 unfold rs
 split
 ·rename_i hw
  exact h w hw
 ·rfl
theorem rs_at {L : Nat} {r s : Lang} (h : rs L r = rs L s) {w : List Nat} (hw : ∀ a ∈ w, a < L) : r w = s w := by
 have := congrFun h w
 unfold rs at this
 rw [if_pos hw, if_pos hw] at this
 exact this
section
variable {K : Type} [DecidableEq K] {go : K → Nat → K} {mark : K → Int} {L : Nat} {k0 : K} {P : K → Prop}
end
def stepD (d : ApiDet) (q : Nat) (a : Nat) : Nat := ((d.fNext.getD q []).getD a 0).toNat
def langD (d : ApiDet) (q : Nat) : Lang := fun w => d.fMark.getD (w.foldl (stepD d) q) 0
section
variable {K : Type} [DecidableEq K] {go : K → Nat → K} {mark : K → Int} {L : Nat} {k0 : K} {P : K → Prop}
end
structure Wf (d : ApiDet) : Prop where
 letters : 0 ≤ d.fLetters
 rows : ∀ r ∈ d.fNext, r.length = d.fLetters.toNat
 next : ∀ r ∈ d.fNext, ∀ x ∈ r, 0 ≤ x ∧ x < (d.fNext.length : Int)
 start : 0 ≤ d.fStart ∧ d.fStart < (d.fNext.length : Int)
 mark : d.fMark.length = d.fNext.length
section
variable {K : Type} [DecidableEq K] {go : K → Nat → K} {mark : K → Int} {L : Nat} {k0 : K} {P : K → Prop}
end
end Go.Proofs.Ytiejmeedkhkfgaa


namespace Go.Proofs.Ytiejmeedkhkfgaa
open Go.RowKit Go.MapKept
set_option linter.unusedSimpArgs false
set_option linter.unusedVariables false
set_option maxRecDepth 100000
set_option linter.unusedSectionVars false
section
variable {K : Type} [DecidableEq K] {go : K → Nat → K} {mark : K → Int} {L : Nat} {k0 : K} {P : K → Prop}
def MapOf (m : List (K × Int)) (l : List K) : Prop := ∀ k, mget k m = if k ∈ l then some (l.idxOf k : Int) else none
theorem MapOf.one : MapOf (mput k0 0 ([] : List (K × Int))) [k0] := fun k => by
 rw [mget_put]
 by_cases h : k = k0
 ·subst h; simp
 ·simp [h, mget]
theorem idxOf_last {l : List K} {k : K} (h : k ∉ l) : (l ++ [k]).idxOf k = l.length := by
 induction l with
 | nil => simp
 | cons x l ih =>
  have h1 : x ≠ k := fun e => h (e ▸ List.mem_cons_self)
  have h2 : k ∉ l := fun e => h (List.mem_cons_of_mem _ e)
  rw [List.cons_append, List.idxOf_cons, ih h2, show (x == k) = false by simpa using h1]
  simp
theorem MapOf.push {m : List (K × Int)} {l : List K} (h : MapOf m l) {k : K} (hk : k ∉ l) : MapOf (mput k (l.length : Int) m) (l ++ [k]) := fun q => by
 rw [mget_put]
 by_cases e : q = k
 ·subst e
  simp [idxOf_last hk]
 ·rw [if_neg e, h q]
  by_cases hq : q ∈ l
  ·rw [if_pos hq, if_pos (List.mem_append_left _ hq), idxOf_left hq]
  ·rw [if_neg hq, if_neg (by simp [hq, e])]
end
end Go.Proofs.Ytiejmeedkhkfgaa


namespace Go.Proofs.Ytiejmeedkhkfgaa
open Go.RowKit Go.MapKept
set_option linter.unusedSimpArgs false
set_option linter.unusedVariables false
set_option maxRecDepth 100000
set_option linter.unusedSectionVars false
theorem onto_inj {m : Nat} {f : Nat → Nat} (hon : ∀ j, j < m → ∃ i, i < m ∧ f i = j) {i j : Nat} (hi : i < m) (hj : j < m) (h : f i = f j) : i = j := by
 refine Decidable.byContradiction fun hne => ?_
 have := nodup_le (l := List.range m) (m := ((List.range m).erase i).map f) List.nodup_range fun x hx => by
  obtain ⟨q, hq, rfl⟩ := hon x (List.mem_range.1 hx)
  rw [List.mem_map]
  by_cases e : q = i
  ·subst e
   exact ⟨j, (List.mem_erase_of_ne (fun e => hne e.symm)).2 (List.mem_range.2 hj), h.symm⟩
  ·exact ⟨q, (List.mem_erase_of_ne e).2 (List.mem_range.2 hq), rfl⟩
 rw [List.length_range, List.length_map, List.length_erase_of_mem (List.mem_range.2 hi), List.length_range] at this
 omega
theorem onto_le {k m : Nat} {f : Nat → Nat} (hon : ∀ j, j < k → ∃ i, i < m ∧ f i = j) : k ≤ m := by
 have := nodup_le (l := List.range k) (m := (List.range m).map f) List.nodup_range fun x hx => by
  obtain ⟨q, hq, rfl⟩ := hon x (List.mem_range.1 hx)
  exact List.mem_map.2 ⟨q, List.mem_range.2 hq, rfl⟩
 simpa using this
def two8 (c : Int) : List Int := [c % 256, c / 256 % 256]
theorem two8_inj {c d : Int} (hc : 0 ≤ c ∧ c < 65536) (hd : 0 ≤ d ∧ d < 65536) (h : two8 c = two8 d) : c = d := by
 unfold two8 at h
 simp only [List.cons.injEq] at h
 omega
theorem two8_in {c : Int} : ∀ x ∈ two8 c, 0 ≤ x ∧ x < 256 := by
 intro x hx
 unfold two8 at hx
 simp only [List.mem_cons, List.not_mem_nil, or_false] at hx
 omega
theorem twos_inj : ∀ {l m : List Int}, (∀ x ∈ l, 0 ≤ x ∧ x < 65536) → (∀ x ∈ m, 0 ≤ x ∧ x < 65536) → l.flatMap two8 = m.flatMap two8 → l = m
 | [], [], _, _, _ => rfl
 | [], _ :: _, _, _, h => by simp [two8] at h
 | _ :: _, [], _, _, h => by simp [two8] at h
 | x :: l, y :: m, hl, hm, h => by
  rw [List.flatMap_cons, List.flatMap_cons] at h
  have h1 := List.append_inj h (by simp [two8])
  rw [two8_inj (hl x List.mem_cons_self) (hm y List.mem_cons_self) h1.1, twos_inj (fun z hz => hl z (List.mem_cons_of_mem _ hz)) (fun z hz => hm z (List.mem_cons_of_mem _ hz)) h1.2]
theorem twos_in {l : List Int} : ∀ x ∈ l.flatMap two8, 0 ≤ x ∧ x < 256 := fun x hx => by
 obtain ⟨c, _, h⟩ := List.mem_flatMap.1 hx
 exact two8_in x h
def rowCls (cls : List Int) (r : List Int) : List Int := r.map fun t => cls.getD t.toNat 0
def keyOf (cls : List Int) (q : Nat) (r : List Int) : DetSplit := ⟨cls.getD q 0, bytesOf ((rowCls cls r).flatMap two8)⟩
structure RoundOf (N : List (List Int)) (cls next : List Int) (m : Nat) : Prop where
 len : next.length = N.length
 range : ∀ x ∈ next, 0 ≤ x ∧ x < (m : Int)
 onto : ∀ j : Nat, j < m → (j : Int) ∈ next
 same : ∀ (p q : Nat) (r s : List Int) (x y : Int), N[p]? = some r → N[q]? = some s → next[p]? = some x → next[q]? = some y → (x = y ↔ keyOf cls p r = keyOf cls q s)
structure ClsPre (d : ApiDet) : Prop where
 size : d.fNext.length ≤ 65536
 next : ∀ r ∈ d.fNext, ∀ x ∈ r, 0 ≤ x ∧ x < (d.fNext.length : Int)
 wide : ∀ r ∈ d.fNext, r.length ≤ 1000
 marks : d.fMark.length = d.fNext.length
 small : ∀ x ∈ d.fMark, 0 ≤ x ∧ x < 65536
structure Half (N : List (List Int)) (cls : List Int) (q : Nat) (m2 : List (DetSplit × Int)) (next : List Int) : Prop where
 len : next.length = N.length
 get : ∀ (p : Nat) (r : List Int), p < q → N[p]? = some r → ∃ x : Int, next[p]? = some x ∧ mget (keyOf cls p r) m2 = some x
 range : ∀ (k : DetSplit) (x : Int), mget k m2 = some x → 0 ≤ x ∧ x < (m2.length : Int)
 inj : ∀ (k l : DetSplit) (x : Int), mget k m2 = some x → mget l m2 = some x → k = l
 onto : ∀ j : Nat, j < m2.length → ∃ p : Nat, p < q ∧ next[p]? = some (j : Int)
 size : m2.length ≤ q
theorem mput_length {κ : Type} [DecidableEq κ] {a : κ} {v : Int} : ∀ {D : List (κ × Int)}, mget a D = none → (mput a v D).length = D.length + 1
 | [], _ => rfl
 | x :: D, h => by
  rw [mget] at h
  split at h
  ·cases h
  ·rename_i e
   rw [mput, if_neg e, List.length_cons, mput_length h, List.length_cons]
theorem Half.start {N : List (List Int)} {cls next : List Int} (h : next.length = N.length) : Half N cls 0 [] next :=
 ⟨h, fun p r hp => absurd hp (Nat.not_lt_zero _), fun k x e => by simp [mget] at e, fun k l x e => by simp [mget] at e, fun j hj => by simp at hj, Nat.le_refl _⟩
theorem Half.known {N : List (List Int)} {cls next : List Int} {q : Nat} {m2 : List (DetSplit × Int)} (h : Half N cls q m2 next) {r : List Int} (hr : N[q]? = some r) {x : Int} (hx : mget (keyOf cls q r) m2 = some x) : Half N cls (q + 1) m2 (next.set q x) := by
 have hq : q < next.length := by rw [h.len]; exact (List.getElem?_eq_some_iff.1 hr).1
 refine ⟨by simp [h.len], fun p s hp hs => ?_, h.range, h.inj, fun j hj => ?_, Nat.le_succ_of_le h.size⟩
 ·by_cases e : p = q
  ·subst e
   rw [hr] at hs
   cases hs
   exact ⟨x, by rw [List.getElem?_set_self hq], hx⟩
  ·obtain ⟨y, h1, h2⟩ := h.get p s (by omega) hs
   exact ⟨y, by rw [List.getElem?_set_ne (Ne.symm e)]; exact h1, h2⟩
 ·obtain ⟨p, h1, h2⟩ := h.onto j hj
  exact ⟨p, by omega, by rw [List.getElem?_set_ne (by omega)]; exact h2⟩
theorem Half.new {N : List (List Int)} {cls next : List Int} {q : Nat} {m2 : List (DetSplit × Int)} (h : Half N cls q m2 next) {r : List Int} (hr : N[q]? = some r) (hx : mget (keyOf cls q r) m2 = none) : Half N cls (q + 1) (mput (keyOf cls q r) (m2.length : Int) m2) (next.set q (m2.length : Int)) := by
 have hq : q < next.length := by rw [h.len]; exact (List.getElem?_eq_some_iff.1 hr).1
 have hl := mput_length (v := (m2.length : Int)) hx
 refine ⟨by simp [h.len], fun p s hp hs => ?_, fun k x e => ?_, fun k l x e1 e2 => ?_, fun j hj => ?_, by rw [hl]; have := h.size; omega⟩
 ·by_cases e : p = q
  ·subst e
   rw [hr] at hs
   cases hs
   exact ⟨_, by rw [List.getElem?_set_self hq], by rw [mget_put, if_pos rfl]⟩
  ·obtain ⟨y, h1, h2⟩ := h.get p s (by omega) hs
   refine ⟨y, by rw [List.getElem?_set_ne (Ne.symm e)]; exact h1, ?_⟩
   rw [mget_put, if_neg (fun e2 => by rw [e2, hx] at h2; cases h2)]
   exact h2
 ·rw [mget_put] at e
  rw [hl]
  split at e
  ·cases e; omega
  ·have := h.range k x e
   omega
 ·rw [mget_put] at e1 e2
  split at e1 <;> split at e2
  ·rename_i a b; rw [a, b]
  ·cases e1
   have := h.range l _ e2
   omega
  ·cases e2
   have := h.range k _ e1
   omega
  ·exact h.inj k l x e1 e2
 ·rw [hl] at hj
  by_cases e : j = m2.length
  ·subst e
   exact ⟨q, by omega, by rw [List.getElem?_set_self hq]⟩
  ·obtain ⟨p, h1, h2⟩ := h.onto j (by omega)
   exact ⟨p, by omega, by rw [List.getElem?_set_ne (by omega)]; exact h2⟩
theorem Half.round {N : List (List Int)} {cls next : List Int} {m2 : List (DetSplit × Int)} (h : Half N cls N.length m2 next) : RoundOf N cls next m2.length := by
 have hget : ∀ (p : Nat) (r : List Int) (x : Int), N[p]? = some r → next[p]? = some x → mget (keyOf cls p r) m2 = some x := fun p r x h1 h2 => by
  obtain ⟨y, h3, h4⟩ := h.get p r (List.getElem?_eq_some_iff.1 h1).1 h1
  rw [h2] at h3
  cases h3
  exact h4
 refine ⟨h.len, fun x hx => ?_, fun j hj => ?_, fun p q r s x y h1 h2 h3 h4 => ?_⟩
 ·obtain ⟨p, hp⟩ := List.getElem?_of_mem hx
  have hlt := (List.getElem?_eq_some_iff.1 hp).1
  rw [h.len] at hlt
  exact h.range _ x (hget p _ x (List.getElem?_eq_getElem hlt) hp)
 ·obtain ⟨p, _, h2⟩ := h.onto j hj
  exact List.mem_of_getElem? h2
 ·have k1 := hget p r x h1 h3
  have k2 := hget q s y h2 h4
  constructor
  ·rintro rfl
   exact h.inj _ _ x k1 k2
  ·intro e
   rw [e, k2] at k1
   cases k1
   rfl
theorem succ_rs {d : ApiDet} {L p q a : Nat} (h : rs L (langD d p) = rs L (langD d q)) (ha : a < L) : rs L (langD d (stepD d p a)) = rs L (langD d (stepD d q a)) :=
 rs_congr fun w hw => rs_at (w := a :: w) h fun b hb => (List.mem_cons.1 hb).elim (fun e => e ▸ ha) (hw b)
structure ClsInv (d : ApiDet) (L : Nat) (x4 : Int) (cls : List Int) : Prop where
 len : cls.length = d.fNext.length
 range : ∀ x ∈ cls, 0 ≤ x ∧ x < 65536
 sound : ∀ p q, p < d.fNext.length → q < d.fNext.length → rs L (langD d p) = rs L (langD d q) → cls.getD p 0 = cls.getD q 0
 marks : ∀ p q, p < d.fNext.length → q < d.fNext.length → cls.getD p 0 = cls.getD q 0 → d.fMark.getD p 0 = d.fMark.getD q 0
 count : x4 = 0 ∨ ∃ m : Nat, x4 = m ∧ m ≤ d.fNext.length ∧ (∀ x ∈ cls, 0 ≤ x ∧ x < (m : Int)) ∧ ∀ j : Nat, j < m → (j : Int) ∈ cls
theorem getD_mem {α : Type} {l : List α} {i : Nat} {z : α} (h : i < l.length) : l.getD i z ∈ l := by
 rw [List.getD_eq_getElem?_getD, List.getElem?_eq_getElem h]
 exact List.getElem_mem h
theorem getD_some {α : Type} {l : List α} {i : Nat} {z : α} (h : i < l.length) : l[i]? = some (l.getD i z) := by
 rw [List.getD_eq_getElem?_getD, List.getElem?_eq_getElem h]
 rfl
section
variable {d : ApiDet} (hd : ClsPre d) {L : Nat} (hL : ∀ r ∈ d.fNext, r.length = L)
include hd
theorem ClsPre.step {q a : Nat} (hq : q < d.fNext.length) : stepD d q a < d.fNext.length := by
 unfold stepD
 have hr := getD_mem (z := []) hq
 by_cases h : a < (d.fNext.getD q []).length
 ·have := hd.next _ hr _ (getD_mem (z := 0) h)
  omega
 ·rw [List.getD_eq_getElem?_getD (l := d.fNext.getD q []), List.getElem?_eq_none (by omega)]
  simp only [Option.getD_none]
  omega
theorem keyOf_iff {cls : List Int} (hr : ∀ x ∈ cls, 0 ≤ x ∧ x < 65536) (hlen : cls.length = d.fNext.length) {p q : Nat} (hp : p < d.fNext.length) (hq : q < d.fNext.length) (hrows : (d.fNext.getD p []).length = (d.fNext.getD q []).length) :
  keyOf cls p (d.fNext.getD p []) = keyOf cls q (d.fNext.getD q []) ↔ cls.getD p 0 = cls.getD q 0 ∧ ∀ a, a < (d.fNext.getD p []).length → cls.getD (stepD d p a) 0 = cls.getD (stepD d q a) 0 := by
 have hin : ∀ r ∈ d.fNext, ∀ x ∈ rowCls cls r, 0 ≤ x ∧ x < 65536 := fun r hr2 x hx => by
  obtain ⟨t, ht, rfl⟩ := List.mem_map.1 hx
  have := hd.next r hr2 t ht
  exact hr _ (getD_mem (by omega))
 unfold keyOf
 simp only [DetSplit.mk.injEq]
 refine and_congr Iff.rfl ⟨fun h a ha => ?_, fun h => ?_⟩
 ·have h1 := twos_inj (hin _ (getD_mem hp)) (hin _ (getD_mem hq)) (bytesOf_inj twos_in twos_in h)
  have h2 := congrArg (fun l => l[a]?) h1
  simp only [rowCls, List.getElem?_map, getD_some (z := (0 : Int)) ha, getD_some (z := (0 : Int)) (show a < (d.fNext.getD q []).length by omega), Option.map_some, Option.some.injEq] at h2
  exact h2
 ·have : rowCls cls (d.fNext.getD p []) = rowCls cls (d.fNext.getD q []) := by
   unfold rowCls
   refine List.ext_getElem? fun a => ?_
   rw [List.getElem?_map, List.getElem?_map]
   by_cases ha : a < (d.fNext.getD p []).length
   ·rw [getD_some (z := (0 : Int)) ha, getD_some (z := (0 : Int)) (show a < (d.fNext.getD q []).length by omega), Option.map_some, Option.map_some]
    exact congrArg some (h a ha)
   ·rw [List.getElem?_eq_none (by omega), List.getElem?_eq_none (by omega)]
  rw [this]
include hL
theorem ClsInv.next {cls next : List Int} {x4 : Int} {m : Nat} (h : ClsInv d L x4 cls) (hR : RoundOf d.fNext cls next m) (hm : m ≤ d.fNext.length) : ClsInv d L m next := by
 have hrow : ∀ p, p < d.fNext.length → (d.fNext.getD p []).length = L := fun p hp => hL _ (getD_mem hp)
 have key : ∀ p q, p < d.fNext.length → q < d.fNext.length → (next.getD p 0 = next.getD q 0 ↔ cls.getD p 0 = cls.getD q 0 ∧ ∀ a, a < L → cls.getD (stepD d p a) 0 = cls.getD (stepD d q a) 0) := fun p q hp hq => by
  rw [hR.same p q _ _ _ _ (getD_some (z := []) hp) (getD_some (z := []) hq) (getD_some (z := 0) (by rw [hR.len]; exact hp)) (getD_some (z := 0) (by rw [hR.len]; exact hq)), keyOf_iff hd h.range h.len hp hq (by rw [hrow p hp, hrow q hq]), hrow p hp]
 have h65 := hd.size
 refine ⟨hR.len, fun x hx => by have := hR.range x hx; omega, fun p q hp hq hw => ?_, fun p q hp hq e => h.marks p q hp hq ((key p q hp hq).1 e).1, .inr ⟨m, rfl, hm, hR.range, hR.onto⟩⟩
 exact (key p q hp hq).2 ⟨h.sound p q hp hq hw, fun a ha => h.sound _ _ (hd.step hp) (hd.step hq) (succ_rs hw ha)⟩
theorem ClsInv.factor {cls next : List Int} {x4 : Int} {m : Nat} (h : ClsInv d L x4 cls) (hR : RoundOf d.fNext cls next m) : ∃ f : Nat → Nat, ∀ i, i < d.fNext.length → f (next.getD i 0).toNat = (cls.getD i 0).toNat := by
 have hrow : ∀ p, p < d.fNext.length → (d.fNext.getD p []).length = L := fun p hp => hL _ (getD_mem hp)
 have key : ∀ p q, p < d.fNext.length → q < d.fNext.length → next.getD p 0 = next.getD q 0 → cls.getD p 0 = cls.getD q 0 := fun p q hp hq e =>
  ((keyOf_iff hd h.range h.len hp hq (by rw [hrow p hp, hrow q hq])).1 ((hR.same p q _ _ _ _ (getD_some (z := []) hp) (getD_some (z := []) hq) (getD_some (z := 0) (by rw [hR.len]; exact hp)) (getD_some (z := 0) (by rw [hR.len]; exact hq))).1 e)).1
 have hx : ∀ j : Nat, j < m → ∃ i : Nat, i < d.fNext.length ∧ next.getD i 0 = (j : Int) := fun j hj => by
  obtain ⟨i, hi⟩ := List.getElem?_of_mem (hR.onto j hj)
  have hlt := (List.getElem?_eq_some_iff.1 hi).1
  exact ⟨i, by rw [hR.len] at hlt; exact hlt, by simp [hi]⟩
 refine ⟨fun j => if hj : j < m then (cls.getD (hx j hj).choose 0).toNat else 0, fun i hi => ?_⟩
 have hr := hR.range _ (getD_mem (l := next) (z := 0) (by rw [hR.len]; exact hi))
 have hj : (next.getD i 0).toNat < m := by omega
 show (if hj : _ then _ else _) = _
 rw [dif_pos hj]
 obtain ⟨k1, k2⟩ := (hx _ hj).choose_spec
 rw [key _ i k1 hi (by rw [k2]; omega)]
theorem ClsInv.le {cls next : List Int} {x4 : Int} {m : Nat} (h : ClsInv d L x4 cls) (hR : RoundOf d.fNext cls next m) : x4 ≤ m := by
 rcases h.count with h0 | ⟨m', h1, h2, h3, h4⟩
 ·omega
 ·obtain ⟨f, hf⟩ := h.factor hd hL hR
  have := onto_le (k := m') (m := m) (f := f) fun j hj => by
   obtain ⟨i, hi⟩ := List.getElem?_of_mem (h4 j hj)
   have hlt := (List.getElem?_eq_some_iff.1 hi).1
   rw [h.len] at hlt
   have hr := hR.range _ (getD_mem (l := next) (z := 0) (by rw [hR.len]; exact hlt))
   refine ⟨(next.getD i 0).toNat, by omega, ?_⟩
   rw [hf i hlt]
   simp [hi]
  omega
theorem ClsInv.ends {cls next : List Int} {x4 : Int} {m : Nat} (h : ClsInv d L x4 cls) (hR : RoundOf d.fNext cls next m) (hm : m ≤ d.fNext.length) (he : (m : Int) = x4) : ∀ p q, p < d.fNext.length → q < d.fNext.length → (next.getD p 0 = next.getD q 0 ↔ rs L (langD d p) = rs L (langD d q)) := by
 have hrow : ∀ p, p < d.fNext.length → (d.fNext.getD p []).length = L := fun p hp => hL _ (getD_mem hp)
 have key : ∀ p q, p < d.fNext.length → q < d.fNext.length → (next.getD p 0 = next.getD q 0 ↔ cls.getD p 0 = cls.getD q 0 ∧ ∀ a, a < L → cls.getD (stepD d p a) 0 = cls.getD (stepD d q a) 0) := fun p q hp hq => by
  rw [hR.same p q _ _ _ _ (getD_some (z := []) hp) (getD_some (z := []) hq) (getD_some (z := 0) (by rw [hR.len]; exact hp)) (getD_some (z := 0) (by rw [hR.len]; exact hq)), keyOf_iff hd h.range h.len hp hq (by rw [hrow p hp, hrow q hq]), hrow p hp]
 intro p q hp hq
 -- no class was split
 have stay : ∀ p q, p < d.fNext.length → q < d.fNext.length → cls.getD p 0 = cls.getD q 0 → next.getD p 0 = next.getD q 0 := by
  intro p q hp hq e
  have hnp := hR.range _ (getD_mem (l := next) (z := 0) (by rw [hR.len]; exact hp))
  have hnq := hR.range _ (getD_mem (l := next) (z := 0) (by rw [hR.len]; exact hq))
  rcases h.count with h0 | ⟨m', h1, h2, h3, h4⟩
  ·omega
  ·have hmm : m' = m := by omega
   subst hmm
   obtain ⟨f, hf⟩ := h.factor hd hL hR
   have hon : ∀ j, j < m' → ∃ i, i < m' ∧ f i = j := fun j hj => by
    obtain ⟨i, hi⟩ := List.getElem?_of_mem (h4 j hj)
    have hlt := (List.getElem?_eq_some_iff.1 hi).1
    rw [h.len] at hlt
    have hr := hR.range _ (getD_mem (l := next) (z := 0) (by rw [hR.len]; exact hlt))
    refine ⟨(next.getD i 0).toNat, by omega, ?_⟩
    rw [hf i hlt]
    simp [hi]
   have := onto_inj hon (i := (next.getD p 0).toNat) (j := (next.getD q 0).toNat) (by omega) (by omega) (by rw [hf p hp, hf q hq, e])
   omega
 constructor
 ·intro e
  have go : ∀ (w : List Nat) (p q : Nat), p < d.fNext.length → q < d.fNext.length → next.getD p 0 = next.getD q 0 → (∀ a ∈ w, a < L) → langD d p w = langD d q w := by
   intro w
   induction w with
   | nil => exact fun p q hp hq e _ => h.marks p q hp hq ((key p q hp hq).1 e).1
   | cons a w ih =>
    intro p q hp hq e hw
    exact ih (stepD d p a) (stepD d q a) (hd.step hp) (hd.step hq) (stay _ _ (hd.step hp) (hd.step hq) (((key p q hp hq).1 e).2 a (hw a List.mem_cons_self))) fun b hb => hw b (List.mem_cons_of_mem _ hb)
  exact rs_congr fun w hw => go w p q hp hq e hw
 ·exact fun e => (key p q hp hq).2 ⟨h.sound p q hp hq e, fun a ha => h.sound _ _ (hd.step hp) (hd.step hq) (succ_rs e ha)⟩
end
end Go.Proofs.Ytiejmeedkhkfgaa


namespace Go.Proofs.Ytiejmeedkhkfgaa
open Go.RowKit Go.MapKept
set_option linter.unusedSimpArgs false
set_option linter.unusedVariables false
set_option maxRecDepth 100000
set_option linter.unusedSectionVars false
section
variable {n : Nat} {R : Nat → Nat → Prop}
structure FirstsInv (n : Nat) (R : Nat → Nat → Prop) (q : Nat) (firsts next : List Int) : Prop where
 len : next.length = n
 size : firsts.length ≤ q
 alike : ∀ p, p < q → ∃ k : Nat, k < firsts.length ∧ next.getD p 0 = (k : Int) ∧ R (firsts.getD k 0).toNat p
 apart : ∀ i j, i < firsts.length → j < firsts.length → R (firsts.getD i 0).toNat (firsts.getD j 0).toNat → i = j
 first : ∀ j, j < firsts.length → ∃ r : Nat, r < q ∧ firsts.getD j 0 = (r : Int) ∧ next.getD r 0 = (j : Int)
theorem FirstsInv.start {next : List Int} (h : next.length = n) : FirstsInv n R 0 [] next :=
 ⟨h, Nat.le_refl _, fun p hp => absurd hp (Nat.not_lt_zero _), fun i j hi => absurd hi (Nat.not_lt_zero _), fun j hj => absurd hj (Nat.not_lt_zero _)⟩
theorem getD_set_eq {α : Type} {l : List α} {i : Nat} {x z : α} (h : i < l.length) : (l.set i x).getD i z = x := by
 rw [List.getD_eq_getElem?_getD, List.getElem?_set_self h]
 rfl
theorem getD_set_ne {α : Type} {l : List α} {i j : Nat} {x z : α} (h : i ≠ j) : (l.set i x).getD j z = l.getD j z := by
 rw [List.getD_eq_getElem?_getD, List.getElem?_set_ne h, ← List.getD_eq_getElem?_getD]
theorem getD_app {α : Type} {l : List α} {x z : α} : (l ++ [x]).getD l.length z = x := by simp [List.getD_eq_getElem?_getD]
theorem getD_app_lt {α : Type} {l r : List α} {z : α} {i : Nat} (h : i < l.length) : (l ++ r).getD i z = l.getD i z := by
 rw [List.getD_eq_getElem?_getD, List.getElem?_append_left h, ← List.getD_eq_getElem?_getD]
theorem FirstsInv.known {q k : Nat} {firsts next : List Int} (h : FirstsInv n R q firsts next) (hq : q < n) (hk : k < firsts.length) (hR : R (firsts.getD k 0).toNat q) : FirstsInv n R (q + 1) firsts (next.set q (k : Int)) := by
 have hl := h.len
 refine ⟨by simp [hl], Nat.le_succ_of_le h.size, fun p hp => ?_, h.apart, fun j hj => ?_⟩
 ·by_cases e : p = q
  ·subst e
   exact ⟨k, hk, getD_set_eq (by omega), hR⟩
  ·obtain ⟨k', h1, h2, h3⟩ := h.alike p (by omega)
   exact ⟨k', h1, by rw [getD_set_ne (Ne.symm e)]; exact h2, h3⟩
 ·obtain ⟨r, h1, h2, h3⟩ := h.first j hj
  exact ⟨r, by omega, h2, by rw [getD_set_ne (by omega)]; exact h3⟩
theorem FirstsInv.new {q : Nat} {firsts next : List Int} (h : FirstsInv n R q firsts next) (hq : q < n) (hr : ∀ q, q < n → R q q) (hs : ∀ p q, p < n → q < n → R p q → R q p) (hno : ∀ k, k < firsts.length → ¬ R (firsts.getD k 0).toNat q) : FirstsInv n R (q + 1) (firsts ++ [(q : Int)]) (next.set q (firsts.length : Int)) := by
 have hl := h.len
 have hll : (firsts ++ [(q : Int)]).length = firsts.length + 1 := by simp
 have hlt : ∀ k, k < firsts.length → (firsts.getD k 0).toNat < q := fun k hk => by
  obtain ⟨r, h1, h2, _⟩ := h.first k hk
  omega
 refine ⟨by simp [hl], by rw [hll]; have := h.size; omega, fun p hp => ?_, fun i j hi hj hR => ?_, fun j hj => ?_⟩
 ·by_cases e : p = q
  ·subst e
   exact ⟨firsts.length, by omega, getD_set_eq (by omega), by rw [getD_app]; exact hr _ hq⟩
  ·obtain ⟨k', h1, h2, h3⟩ := h.alike p (by omega)
   exact ⟨k', by omega, by rw [getD_set_ne (Ne.symm e)]; exact h2, by rw [getD_app_lt h1]; exact h3⟩
 ·rw [hll] at hi hj
  by_cases ei : i = firsts.length <;> by_cases ej : j = firsts.length
  ·omega
  ·subst ei
   rw [getD_app, getD_app_lt (by omega)] at hR
   have := hlt j (by omega)
   exact absurd (hs _ _ hq (by omega) hR) (hno j (by omega))
  ·subst ej
   rw [getD_app, getD_app_lt (by omega)] at hR
   exact absurd hR (hno i (by omega))
  ·rw [getD_app_lt (by omega), getD_app_lt (by omega)] at hR
   exact h.apart i j (by omega) (by omega) hR
 ·rw [hll] at hj
  by_cases ej : j = firsts.length
  ·subst ej
   exact ⟨q, by omega, getD_app, getD_set_eq (by omega)⟩
  ·obtain ⟨r, h1, h2, h3⟩ := h.first j (by omega)
   exact ⟨r, by omega, by rw [getD_app_lt (by omega)]; exact h2, by rw [getD_set_ne (by omega)]; exact h3⟩
structure RoundR (n : Nat) (R : Nat → Nat → Prop) (next : List Int) (m : Nat) : Prop where
 len : next.length = n
 size : m ≤ n
 range : ∀ p, p < n → 0 ≤ next.getD p 0 ∧ next.getD p 0 < (m : Int)
 onto : ∀ j : Nat, j < m → ∃ p, p < n ∧ next.getD p 0 = (j : Int)
 same : ∀ p q, p < n → q < n → (next.getD p 0 = next.getD q 0 ↔ R p q)
theorem FirstsInv.done {firsts next : List Int} (h : FirstsInv n R n firsts next) (hs : ∀ p q, p < n → q < n → R p q → R q p) (ht : ∀ p q r, p < n → q < n → r < n → R p q → R q r → R p r) : RoundR n R next firsts.length := by
 have hlt : ∀ k, k < firsts.length → (firsts.getD k 0).toNat < n := fun k hk => by
  obtain ⟨r, h1, h2, _⟩ := h.first k hk
  omega
 refine ⟨h.len, h.size, fun p hp => ?_, fun j hj => ?_, fun p q hp hq => ⟨fun e => ?_, fun hR => ?_⟩⟩
 ·obtain ⟨k, h1, h2, _⟩ := h.alike p hp
  omega
 ·obtain ⟨r, h1, _, h3⟩ := h.first j hj
  exact ⟨r, h1, h3⟩
 ·obtain ⟨k, h1, h2, h3⟩ := h.alike p hp
  obtain ⟨k', h1', h2', h3'⟩ := h.alike q hq
  have : k = k' := by omega
  subst this
  exact ht _ _ _ hp (hlt k h1) hq (hs _ _ (hlt k h1) hp h3) h3'
 ·obtain ⟨k, h1, h2, h3⟩ := h.alike p hp
  obtain ⟨k', h1', h2', h3'⟩ := h.alike q hq
  have : R (firsts.getD k 0).toNat (firsts.getD k' 0).toNat := ht _ _ _ (hlt k h1) hp (hlt k' h1') h3 (ht _ _ _ hp hq (hlt k' h1') hR (hs _ _ (hlt k' h1') hq h3'))
  have := h.apart k k' h1 h1' this
  omega
structure Onto (n m : Nat) (cls : List Int) : Prop where
 len : cls.length = n
 range : ∀ p, p < n → 0 ≤ cls.getD p 0 ∧ cls.getD p 0 < (m : Int)
 onto : ∀ j : Nat, j < m → ∃ p, p < n ∧ cls.getD p 0 = (j : Int)
theorem Onto.factor {m m' : Nat} {cls next : List Int} (h : Onto n m next) (h' : Onto n m' cls) (ref : ∀ p q, p < n → q < n → next.getD p 0 = next.getD q 0 → cls.getD p 0 = cls.getD q 0) : ∃ f : Nat → Nat, (∀ i, i < n → f (next.getD i 0).toNat = (cls.getD i 0).toNat) ∧ ∀ j, j < m' → ∃ i, i < m ∧ f i = j := by
 have hf : ∃ f : Nat → Nat, ∀ i, i < n → f (next.getD i 0).toNat = (cls.getD i 0).toNat := by
  refine ⟨fun j => if hj : j < m then (cls.getD (h.onto j hj).choose 0).toNat else 0, fun i hi => ?_⟩
  have hr := h.range i hi
  have hj : (next.getD i 0).toNat < m := by omega
  show (if hj : _ then _ else _) = _
  rw [dif_pos hj]
  obtain ⟨k1, k2⟩ := (h.onto _ hj).choose_spec
  rw [ref _ i k1 hi (by rw [k2]; omega)]
 obtain ⟨f, hf⟩ := hf
 refine ⟨f, hf, fun j hj => ?_⟩
 obtain ⟨p, h1, h2⟩ := h'.onto j hj
 have hr := h.range p h1
 exact ⟨(next.getD p 0).toNat, by omega, by rw [hf p h1, h2]; omega⟩
theorem Onto.le {m m' : Nat} {cls next : List Int} (h : Onto n m next) (h' : Onto n m' cls) (ref : ∀ p q, p < n → q < n → next.getD p 0 = next.getD q 0 → cls.getD p 0 = cls.getD q 0) : m' ≤ m := by
 obtain ⟨f, _, h2⟩ := h.factor h' ref
 exact onto_le h2
theorem Onto.stay {m : Nat} {cls next : List Int} (h : Onto n m next) (h' : Onto n m cls) (ref : ∀ p q, p < n → q < n → next.getD p 0 = next.getD q 0 → cls.getD p 0 = cls.getD q 0) {p q : Nat} (hp : p < n) (hq : q < n) (e : cls.getD p 0 = cls.getD q 0) : next.getD p 0 = next.getD q 0 := by
 obtain ⟨f, h1, h2⟩ := h.factor h' ref
 have hnp := h.range p hp
 have hnq := h.range q hq
 have := onto_inj h2 (i := (next.getD p 0).toNat) (j := (next.getD q 0).toNat) (by omega) (by omega) (by rw [h1 p hp, h1 q hq, e])
 omega
theorem Onto.pos {m : Nat} {cls : List Int} (h : Onto n m cls) (hn : 0 < n) : 0 < m := by
 have := h.range 0 hn
 omega
end
end Go.Proofs.Ytiejmeedkhkfgaa


namespace Go.Proofs.Ytiejmeedkhkfgaa
open Go.RowKit Go.MapKept
set_option linter.unusedSimpArgs false
set_option linter.unusedVariables false
set_option maxRecDepth 100000
def isNan_vc (x : Int) (Q : Bool → Prop) : Prop :=
 Q (x != x)
theorem isNan_walk (x : Int) (Q : Bool → Prop) (h : isNan_vc x Q) : Ct 133 [.sv (.one (I x))] [] Q (fun (r : Bool) => .sv (.one (B r))) := by
 have ht := tab_ok
 refine Ct.body Try.func133 rfl rfl rfl rfl (fun c hn => ?_)
 unfold isNan_vc at h
 refine En.seq ?_
 refine En.region ?_
 refine WL.run ht hn 1 ⟨[sl 0 (I x)], []⟩ (by kernel_rfl) ?_
 refine WL.nil ?_
 refine En.seq ?_
 refine En.region ?_
 refine WL.run ht hn 4 ⟨[sl 2 (B (x != x))], []⟩ (by kernel_rfl) ?_
 refine WL.nil ?_
 refine En.ret ?_
 exact En.back ht (x != x) h (by kernel_rfl) rfl
theorem en133 : ∀ args w, (callFunc 133 args).run Try.prog w = .ok (.enter 133 args) w := enters_of Try.func133 (by kernel_rfl) rfl
theorem isNan_ct (x : Int)  : Ct 133 [.sv (.one (I x))] [] (fun (_ : Unit) => True) (fun _ => .sv (.one (B (false)))) := by
 refine (isNan_walk x (fun res_ => res_ = (false)) ?_).fun
 unfold isNan_vc
 simp
def cmpC_vc (x : Int) (y : Int) (Q : Int → Prop) : Prop :=
 IfP (false) (IfP (false) (Q 0) (Q (-1))) (IfP (false) (Q 1) (IfP (decide (x < y)) (Q (-1)) (IfP (decide (x > y)) (Q 1) (Q 0))))
theorem cmpC_walk (x : Int) (y : Int) (Q : Int → Prop) (h : cmpC_vc x y Q) : Ct 94 [.sv (.one (I x)), .sv (.one (I y))] [] Q (fun (r : Int) => .sv (.one (I r))) := by
 have ht := tab_ok
 refine Ct.body Try.func94 rfl rfl rfl rfl (fun c hn => ?_)
 unfold cmpC_vc at h
 refine En.seq ?_
 refine En.region ?_
 refine WL.run ht hn 1 ⟨[sl 0 (I x), sl 1 (I y)], []⟩ (by kernel_rfl) ?_
 refine WL.nil ?_
 refine En.seq ?_
 refine En.region ?_
 refine WL.run ht hn 1 ⟨[sl 0 (I x), sl 1 (I y), sl 7 (I x)], []⟩ (by kernel_rfl) ?_
 refine WL.mt0 (K := []) (p := none) hn (by rfl) (mt_call (isNan_ct x) en133 (caps := []) [] rfl (by rfl) (by kernel_rfl) (by kernel_rfl) (by rfl) (by rfl) (by rfl)) (by rfl) (by rfl) (by rfl) ?_
 refine WL.run ht hn 1 ⟨[sl 0 (I x), sl 1 (I y), sl 5 (B (false))], []⟩ (by kernel_rfl) ?_
 refine WL.nil ?_
 refine En.seq ?_
 refine En.region ?_
 refine WL.run ht hn 1 ⟨[sl 0 (I x), sl 1 (I y), sl 5 (B (false)), sl 9 (I y)], []⟩ (by kernel_rfl) ?_
 refine WL.mt0 (K := []) (p := none) hn (by rfl) (mt_call (isNan_ct y) en133 (caps := []) [] rfl (by rfl) (by kernel_rfl) (by kernel_rfl) (by rfl) (by rfl) (by rfl)) (by rfl) (by rfl) (by rfl) ?_
 refine WL.run ht hn 1 ⟨[sl 0 (I x), sl 1 (I y), sl 5 (B (false)), sl 6 (B (false))], []⟩ (by kernel_rfl) ?_
 refine WL.nil ?_
 refine En.seq ?_
 refine En.seq ?_
 refine En.region ?_
 refine WL.run ht hn 1 ⟨[sl 0 (I x), sl 1 (I y), sl 6 (B (false)), sl 11 (B (false))], []⟩ (by kernel_rfl) ?_
 refine WL.nil ?_
 refine En.cond (b := (false)) (by kernel_rfl) (fun hb => ?_) (fun hb => ?_)
 replace h := h.1 hb
 refine En.seq ?_
 refine En.seq ?_
 refine En.region ?_
 refine WL.run ht hn 1 ⟨[sl 12 (B (false))], []⟩ (by kernel_rfl) ?_
 refine WL.nil ?_
 refine En.cond (b := (false)) (by kernel_rfl) (fun hb => ?_) (fun hb => ?_)
 replace h := h.1 hb
 refine En.seq ?_
 refine En.region ?_
 refine WL.run ht hn 1 ⟨[sl 4 (I 0)], []⟩ (by kernel_rfl) ?_
 refine WL.nil ?_
 refine En.ret ?_
 exact En.back ht 0 h (by kernel_rfl) rfl
 replace h := h.2 hb
 refine En.skip ?_
 refine En.seq ?_
 refine En.region ?_
 refine WL.run ht hn 1 ⟨[sl 4 (I (-1))], []⟩ (by kernel_rfl) ?_
 refine WL.nil ?_
 refine En.ret ?_
 exact En.back ht (-1) h (by kernel_rfl) rfl
 replace h := h.2 hb
 refine En.skip ?_
 refine En.seq ?_
 refine En.seq ?_
 refine En.region ?_
 refine WL.run ht hn 1 ⟨[sl 0 (I x), sl 1 (I y), sl 13 (B (false))], []⟩ (by kernel_rfl) ?_
 refine WL.nil ?_
 refine En.cond (b := (false)) (by kernel_rfl) (fun hb => ?_) (fun hb => ?_)
 replace h := h.1 hb
 refine En.seq ?_
 refine En.region ?_
 refine WL.run ht hn 1 ⟨[sl 4 (I 1)], []⟩ (by kernel_rfl) ?_
 refine WL.nil ?_
 refine En.ret ?_
 exact En.back ht 1 h (by kernel_rfl) rfl
 replace h := h.2 hb
 refine En.skip ?_
 refine En.seq ?_
 refine En.seq ?_
 refine En.region ?_
 refine WL.run ht hn 3 ⟨[sl 0 (I x), sl 1 (I y), sl 16 (B (decide (x < y)))], []⟩ (by kernel_rfl) ?_
 refine WL.nil ?_
 refine En.cond (b := (decide (x < y))) (by kernel_rfl) (fun hb => ?_) (fun hb => ?_)
 replace h := h.1 hb
 refine En.seq ?_
 refine En.region ?_
 refine WL.run ht hn 1 ⟨[sl 4 (I (-1))], []⟩ (by kernel_rfl) ?_
 refine WL.nil ?_
 refine En.ret ?_
 exact En.back ht (-1) h (by kernel_rfl) rfl
 replace h := h.2 hb
 refine En.skip ?_
 refine En.seq ?_
 refine En.seq ?_
 refine En.region ?_
 refine WL.run ht hn 3 ⟨[sl 19 (B (decide (x > y)))], []⟩ (by kernel_rfl) ?_
 refine WL.nil ?_
 refine En.cond (b := (decide (x > y))) (by kernel_rfl) (fun hb => ?_) (fun hb => ?_)
 replace h := h.1 hb
 refine En.seq ?_
 refine En.region ?_
 refine WL.run ht hn 1 ⟨[sl 4 (I 1)], []⟩ (by kernel_rfl) ?_
 refine WL.nil ?_
 refine En.ret ?_
 exact En.back ht 1 h (by kernel_rfl) rfl
 replace h := h.2 hb
 refine En.skip ?_
 refine En.seq ?_
 refine En.region ?_
 refine WL.run ht hn 1 ⟨[sl 4 (I 0)], []⟩ (by kernel_rfl) ?_
 refine WL.nil ?_
 refine En.ret ?_
 exact En.back ht 0 h (by kernel_rfl) rfl
theorem en94 : ∀ args w, (callFunc 94 args).run Try.prog w = .ok (.enter 94 args) w := enters_of Try.func94 (by kernel_rfl) rfl
def cmpI (x y : Int) : Int := if x < y then -1 else if x > y then 1 else 0
theorem cmpC_ct (x : Int) (y : Int)  : Ct 94 [.sv (.one (I x)), .sv (.one (I y))] [] (fun (_ : Unit) => True) (fun _ => .sv (.one (I (cmpI x y)))) := by
 refine (cmpC_walk x y (fun res_ => res_ = (cmpI x y)) ?_).fun
 unfold cmpC_vc cmpI
 refine ⟨fun h => Bool.noConfusion h, fun _ => ⟨fun h => Bool.noConfusion h, fun _ => ⟨fun h => ?_, fun h => ⟨fun h2 => ?_, fun h2 => ?_⟩⟩⟩⟩
 ·have h := of_decide_eq_true h; rw [if_pos h]
 ·have h := of_decide_eq_false h; have h2 := of_decide_eq_true h2; rw [if_neg h, if_pos h2]
 ·have h := of_decide_eq_false h; have h2 := of_decide_eq_false h2; rw [if_neg h, if_neg h2]
def cmpOr_vc (l : (List Int)) (Q : Int → Prop) : Prop :=
 l.length ≤ 9223372036854775807 →
 (∃ (Inv : Int → Prop) (mu : Int → Nat), Inv 0 ∧
 ∀ (x8 : Int) , Inv x8 → (IfP (decide (x8 < (l.length : Int))) (∃ e, idx l x8 = some e ∧
 IfP (e != 0) (Q e) ((Inv (wr (x8 + 1)) ∧ mu (wr (x8 + 1)) < mu x8))) (Q 0)))
theorem cmpOr_walk (l : (List Int)) (Q : Int → Prop) (h : cmpOr_vc l Q) : Ct 93 [.sv (.one (LS intT l))] [] Q (fun (r : Int) => .sv (.one (I r))) := by
 have ht := tab_ok
 refine Ct.body Try.func93 rfl rfl rfl rfl (fun c hn => ?_)
 unfold cmpOr_vc at h
 refine En.lenL 0 (by rfl) (fun hl => ?_)
 replace h := h hl
 clear hl
 refine En.seq ?_
 refine En.region ?_
 refine WL.run ht hn 1 ⟨[sl 0 (LS intT l)], []⟩ (by kernel_rfl) ?_
 refine WL.nil ?_
 refine En.seq ?_
 refine En.region ?_
 refine WL.run ht hn 1 ⟨[sl 0 (LS intT l), sl 3 (I 0)], []⟩ (by kernel_rfl) ?_
 refine WL.nil ?_
 refine En.seq ?_
 refine En.seq ?_
 refine En.region ?_
 refine WL.run ht hn 3 ⟨[sl 3 (I 0), sl 6 (LS intT l), sl 7 (I (l.length : Int)), sl 8 (I 0)], []⟩ (by kernel_rfl) ?_
 refine WL.nil ?_
 refine En.block ?_
 obtain ⟨Inv, mu, h0, hI⟩ := h
 refine En.loop (σ := Int) (fun zz => Inv zz) (fun zz => mu zz) (fun zz => ⟨[sl 3 (I 0), sl 6 (LS intT l), sl 7 (I (l.length : Int)), sl 8 (I zz)], []⟩) 0 h0 (sub_ok (by kernel_rfl)) ?_
 intro x8 h
 replace h := hI _ h
 show En c ⟨[sl 3 (I 0), sl 6 (LS intT l), sl 7 (I (l.length : Int)), sl 8 (I x8)], []⟩ _
 refine En.seq ?_
 refine En.region ?_
 refine WL.run ht hn 1 ⟨[sl 3 (I 0), sl 6 (LS intT l), sl 7 (I (l.length : Int)), sl 8 (I x8), sl 9 (B (decide (x8 < (l.length : Int))))], []⟩ (by kernel_rfl) ?_
 refine WL.nil ?_
 refine En.seq ?_
 refine En.cond (b := (decide (x8 < (l.length : Int)))) (by kernel_rfl) (fun hb => ?_) (fun hb => ?_)
 replace h := h.1 hb
 refine En.skip ?_
 refine En.seq ?_
 refine En.block ?_
 refine En.seq ?_
 refine En.region ?_
 obtain ⟨e, he, h⟩ := h
 refine WL.val hn (by rfl) (val_index (T := intT) (l := l) (i := x8) ht rfl (by rfl) (by rfl) (by rfl) (by rfl) (by rfl) (by rfl) he) (by rfl) ?_
 refine WL.val hn (by rfl) (val_load (s := .one (I e)) ht rfl (by rfl) (by rfl) (by rfl) (by rfl) (by rfl)) (by rfl) ?_
 refine WL.run ht hn 1 ⟨[sl 3 (I 0), sl 5 (I e), sl 6 (LS intT l), sl 7 (I (l.length : Int)), sl 8 (I x8)], []⟩ (by kernel_rfl) ?_
 refine WL.nil ?_
 refine En.seq ?_
 refine En.region ?_
 refine WL.run ht hn 3 ⟨[sl 3 (I 0), sl 5 (I e), sl 6 (LS intT l), sl 7 (I (l.length : Int)), sl 8 (I x8), sl 14 (B (e != 0))], []⟩ (by kernel_rfl) ?_
 refine WL.nil ?_
 refine En.cond (b := (e != 0)) (by kernel_rfl) (fun hb => ?_) (fun hb => ?_)
 replace h := h.1 hb
 refine En.seq ?_
 refine En.region ?_
 refine WL.run ht hn 2 ⟨[sl 2 (I e)], []⟩ (by kernel_rfl) ?_
 refine WL.nil ?_
 refine En.ret ?_
 exact En.back ht e h (by kernel_rfl) rfl
 replace h := h.2 hb
 refine En.skip ?_
 refine En.region ?_
 refine WL.run ht hn 2 ⟨[sl 3 (I 0), sl 6 (LS intT l), sl 7 (I (l.length : Int)), sl 8 (I (wr (x8 + 1)))], []⟩ (by kernel_rfl) ?_
 refine WL.nil ?_
 exact En.at (I := fun zz => Inv zz ∧ mu zz < mu x8) (T := fun zz => ⟨[sl 3 (I 0), sl 6 (LS intT l), sl 7 (I (l.length : Int)), sl 8 (I zz)], []⟩) (wr (x8 + 1)) h (by kernel_rfl)
 replace h := h.2 hb
 refine En.exit rfl ?_
 refine En.seq ?_
 refine En.region ?_
 refine WL.run ht hn 2 ⟨[sl 2 (I 0)], []⟩ (by kernel_rfl) ?_
 refine WL.nil ?_
 refine En.ret ?_
 exact En.back ht 0 h (by kernel_rfl) rfl
theorem en93 : ∀ args w, (callFunc 93 args).run Try.prog w = .ok (.enter 93 args) w := enters_of Try.func93 (by kernel_rfl) rfl
def firstNZ : List Int → Int
 | [] => 0
 | x :: l => if x != 0 then x else firstNZ l
theorem firstNZ_drop {l : List Int} {k : Nat} (h : k < l.length) : firstNZ (l.drop k) = if l[k] != 0 then l[k] else firstNZ (l.drop (k + 1)) := by
 rw [List.drop_eq_getElem_cons h, firstNZ]
theorem cmpOr_ct (l : (List Int))  : Ct 93 [.sv (.one (LS intT l))] [] (fun (_ : Unit) => True) (fun _ => .sv (.one (I (firstNZ l)))) := by
 refine (cmpOr_walk l (fun res_ => res_ = (firstNZ l)) ?_).fun
 unfold cmpOr_vc
 intro _
 refine ⟨fun i => ∃ k : Nat, i = k ∧ k ≤ l.length ∧ firstNZ (l.drop k) = firstNZ l, fun i => l.length - i.toNat, ⟨0, rfl, Nat.zero_le _, rfl⟩, ?_⟩
 rintro i ⟨k, rfl, hk, he⟩
 refine ⟨fun hb => ?_, fun hb => ?_⟩
 ·have hlt := dlt hb
  rw [firstNZ_drop hlt] at he
  refine ⟨_, idx_at hlt, fun h => ?_, fun h => ⟨⟨k + 1, wsucc (by omega), hlt, ?_⟩, mu_up hlt (by omega)⟩⟩
  ·rw [if_pos h] at he
   exact he
  ·rw [if_neg (by rw [h]; decide)] at he
   exact he
 ·rw [List.drop_eq_nil_of_le (dge hb)] at he
  exact he
def samOrd_vc (x : ApiArrow) (y : ApiArrow) (Q : Int → Prop) : Prop :=
 Q (firstNZ ([(cmpI x.fFrom y.fFrom), (cmpI x.fLetter y.fLetter), (cmpI x.fTo y.fTo)] : (List Int)))
noncomputable abbrev qsamOrd0 (x : ApiArrow) (y : ApiArrow) := (firstNZ ([(cmpI x.fFrom y.fFrom), (cmpI x.fLetter y.fLetter), (cmpI x.fTo y.fTo)] : (List Int)))
theorem samOrd_walk (x : ApiArrow) (y : ApiArrow) (Q : Int → Prop) (h : samOrd_vc x y Q) : Ct 45 [.sv (.agg [I x.fFrom, I x.fLetter, I x.fTo]), .sv (.agg [I y.fFrom, I y.fLetter, I y.fTo])] [] Q (fun (r : Int) => .sv (.one (I r))) := by
 have ht := tab_ok
 refine Ct.body Try.func45 rfl rfl rfl rfl (fun c hn => ?_)
 unfold samOrd_vc at h
 refine En.seq ?_
 refine En.region ?_
 refine WL.run ht hn 3 ⟨[sl 2 (.ptr 0 0), sl 3 (.ptr 1 0)], [.box (ApiArrow.cl x) 26 false, .box (ApiArrow.cl y) 26 false]⟩ (by kernel_rfl) ?_
 refine WL.nil ?_
 refine En.seq ?_
 refine En.regionA ⟨[sl 2 (.ptr 0 0), sl 3 (.ptr 1 0)], [.sv (.one (.ptr 0 0)), .sv (.one (I x.fFrom)), .sv (.one (.ptr 1 0)), .sv (.one (I y.fFrom)), .sv (.one (I (cmpI x.fFrom y.fFrom))), .sv (.one (.ptr 0 1)), .sv (.one (I x.fLetter)), .sv (.one (.ptr 1 1)), .sv (.one (I y.fLetter)), .sv (.one (I (cmpI x.fLetter y.fLetter))), .sv (.one (.ptr 0 2)), .sv (.one (I x.fTo)), .sv (.one (.ptr 1 2)), .sv (.one (I y.fTo)), .sv (.one (I (cmpI x.fTo y.fTo))), .sv (.one (.own 2)), .sv (.one (I (qsamOrd0 x y))), .sv (.one (I (qsamOrd0 x y)))], [⟨.box (ApiArrow.cl x) 26 false, none, none, none⟩, ⟨.box (ApiArrow.cl y) 26 false, none, none, none⟩, ⟨rowI 3 intT ([(cmpI x.fFrom y.fFrom), (cmpI x.fLetter y.fLetter), (cmpI x.fTo y.fTo)] : (List Int)), some 15, none, none⟩]⟩ ⟨[sl 4 (I (qsamOrd0 x y))], [.gone, .gone, .gone]⟩ (by kernel_rfl) hn (by kernel_rfl) (by rfl) (by kernel_rfl) ?_ (by kernel_rfl) ?_
 ·exact ⟨.mt ⟨[sl 2 (.ptr 0 0)], []⟩ [] none (by kernel_rfl) (by rfl) (mt_ev ht (by kernel_rfl)) rfl rfl rfl rfl,
  .mt ⟨[sl 5 (.ptr 0 0)], [.box (ApiArrow.cl x) 26 false]⟩ [] none (by kernel_rfl) (by rfl) (mt_ev ht (by kernel_rfl)) rfl rfl rfl rfl,
  .mt ⟨[sl 3 (.ptr 1 0)], []⟩ [] none (by kernel_rfl) (by rfl) (mt_ev ht (by kernel_rfl)) rfl rfl rfl rfl,
  .mt ⟨[sl 7 (.ptr 1 0)], [.gone, .box (ApiArrow.cl y) 26 false]⟩ [] none (by kernel_rfl) (by rfl) (mt_ev ht (by kernel_rfl)) rfl rfl rfl rfl,
  .mt ⟨[sl 6 (I x.fFrom), sl 8 (I y.fFrom)], []⟩ [] none (by kernel_rfl) (by rfl) (mt_call (cmpC_ct x.fFrom y.fFrom) en94 (caps := []) [] rfl (by rfl) (by kernel_rfl) (by kernel_rfl) (by rfl) (by rfl) (by rfl)) rfl rfl rfl rfl,
  .mt ⟨[sl 2 (.ptr 0 0)], []⟩ [] none (by kernel_rfl) (by rfl) (mt_ev ht (by kernel_rfl)) rfl rfl rfl rfl,
  .mt ⟨[sl 10 (.ptr 0 1)], [.box (ApiArrow.cl x) 26 false]⟩ [] none (by kernel_rfl) (by rfl) (mt_ev ht (by kernel_rfl)) rfl rfl rfl rfl,
  .mt ⟨[sl 3 (.ptr 1 0)], []⟩ [] none (by kernel_rfl) (by rfl) (mt_ev ht (by kernel_rfl)) rfl rfl rfl rfl,
  .mt ⟨[sl 12 (.ptr 1 1)], [.gone, .box (ApiArrow.cl y) 26 false]⟩ [] none (by kernel_rfl) (by rfl) (mt_ev ht (by kernel_rfl)) rfl rfl rfl rfl,
  .mt ⟨[sl 11 (I x.fLetter), sl 13 (I y.fLetter)], []⟩ [] none (by kernel_rfl) (by rfl) (mt_call (cmpC_ct x.fLetter y.fLetter) en94 (caps := []) [] rfl (by rfl) (by kernel_rfl) (by kernel_rfl) (by rfl) (by rfl) (by rfl)) rfl rfl rfl rfl,
  .mt ⟨[sl 2 (.ptr 0 0)], []⟩ [] none (by kernel_rfl) (by rfl) (mt_ev ht (by kernel_rfl)) rfl rfl rfl rfl,
  .mt ⟨[sl 15 (.ptr 0 2)], [.box (ApiArrow.cl x) 26 false]⟩ [] none (by kernel_rfl) (by rfl) (mt_ev ht (by kernel_rfl)) rfl rfl rfl rfl,
  .mt ⟨[sl 3 (.ptr 1 0)], []⟩ [] none (by kernel_rfl) (by rfl) (mt_ev ht (by kernel_rfl)) rfl rfl rfl rfl,
  .mt ⟨[sl 17 (.ptr 1 2)], [.gone, .box (ApiArrow.cl y) 26 false]⟩ [] none (by kernel_rfl) (by rfl) (mt_ev ht (by kernel_rfl)) rfl rfl rfl rfl,
  .mt ⟨[sl 16 (I x.fTo), sl 18 (I y.fTo)], []⟩ [] none (by kernel_rfl) (by rfl) (mt_call (cmpC_ct x.fTo y.fTo) en94 (caps := []) [] rfl (by rfl) (by kernel_rfl) (by kernel_rfl) (by rfl) (by rfl) (by rfl)) rfl rfl rfl rfl,
  .mt ⟨[sl 9 (I (cmpI x.fFrom y.fFrom)), sl 14 (I (cmpI x.fLetter y.fLetter)), sl 19 (I (cmpI x.fTo y.fTo))], []⟩ [] (some 2) (by kernel_rfl) (by rfl) (mt_lit (T := intT) ([(cmpI x.fFrom y.fFrom), (cmpI x.fLetter y.fLetter), (cmpI x.fTo y.fTo)] : (List Int)) (mt_bsl 2 (r := cellsOf intT ([(cmpI x.fFrom y.fFrom), (cmpI x.fLetter y.fLetter), (cmpI x.fTo y.fTo)] : (List Int))) ht rfl (by rfl) (by rfl) (by rfl) (by kernel_rfl) (by rfl)) (fun _ h => by cases h) (fun _ => rfl) (fun _ => rfl) (by rfl) (Nat.le_of_ble_eq_true rfl)) rfl rfl rfl rfl,
  .mt ⟨[sl 20 (.own 2)], [.gone, .gone, rowI 3 intT ([(cmpI x.fFrom y.fFrom), (cmpI x.fLetter y.fLetter), (cmpI x.fTo y.fTo)] : (List Int))]⟩ [] none (by kernel_rfl) (by rfl) (mt_lend (T := intT) (l := ([(cmpI x.fFrom y.fFrom), (cmpI x.fLetter y.fLetter), (cmpI x.fTo y.fTo)] : (List Int))) 2 (by rfl) (by rfl) (mt_call (cmpOr_ct ([(cmpI x.fFrom y.fFrom), (cmpI x.fLetter y.fLetter), (cmpI x.fTo y.fTo)] : (List Int))) en93 (caps := []) [] rfl (by rfl) (by kernel_rfl) (by kernel_rfl) (by rfl) (by rfl) (by rfl))) rfl rfl rfl rfl,
  .mt ⟨[sl 21 (I (qsamOrd0 x y))], []⟩ [] none (by kernel_rfl) (by rfl) (mt_ev ht (by kernel_rfl)) rfl rfl rfl rfl,
  trivial⟩
 ·refine En.ret ?_
  exact En.back ht (qsamOrd0 x y) h (by kernel_rfl) rfl
theorem en45 : ∀ args w, (callFunc 45 args).run Try.prog w = .ok (.enter 45 args) w := enters_of Try.func45 (by kernel_rfl) rfl
def ordA (x y : ApiArrow) : Int := firstNZ [cmpI x.fFrom y.fFrom, cmpI x.fLetter y.fLetter, cmpI x.fTo y.fTo]
theorem samOrd_ct (x : ApiArrow) (y : ApiArrow)  : Ct 45 [.sv (.agg [I x.fFrom, I x.fLetter, I x.fTo]), .sv (.agg [I y.fFrom, I y.fLetter, I y.fTo])] [] (fun (_ : Unit) => True) (fun _ => .sv (.one (I (ordA x y)))) := by
 refine (samOrd_walk x y (fun res_ => res_ = (ordA x y)) ?_).fun
 unfold samOrd_vc
 rfl
def samC1_vc (p : Int) (g : ApiGraph) (Q : Bool → Prop) : Prop :=
 Q ((decide (p < 0)) || (decide (p ≥ g.fPlaces)))
theorem samC1_walk (p : Int) (g : ApiGraph) (Q : Bool → Prop) (h : samC1_vc p g Q) : Ct 42 [.sv (.one (I p)), .sv (.one (.ptr 0 0))] [.box [I g.fLetters, I g.fPlaces, LS ApiArrow.ty g.fArrows] 24 true] Q (fun (r : Bool) => .sv (.one (B r))) := by
 have ht := tab_ok
 refine Ct.body Try.func42 rfl rfl rfl rfl (fun c hn => ?_)
 unfold samC1_vc at h
 refine En.seq ?_
 refine En.region ?_
 refine WL.run ht hn 1 ⟨[sl 0 (I p), sl 1 (.ptr 0 0)], [.box (ApiGraph.cl g) 24 true]⟩ (by kernel_rfl) ?_
 refine WL.nil ?_
 refine En.seq ?_
 refine En.region ?_
 refine WL.run ht hn 3 ⟨[sl 0 (I p), sl 1 (.ptr 0 0), sl 6 (B (decide (p < 0)))], [.box (ApiGraph.cl g) 24 true]⟩ (by kernel_rfl) ?_
 refine WL.thru ⟨[sl 3 (B ((decide (p < 0)) || (decide (p ≥ g.fPlaces))))], [.gone]⟩ ?_ ?_
 refine splitB (decide (p < 0)) (fun hb0 => ?_) (fun hb0 => ?_)
 refine WL.setB 6 hb0 (by kernel_rfl) ?_
 refine WL.run ht hn 6 ⟨[sl 3 (B true)], [.gone]⟩ (by kernel_rfl) ?_
 exact WL.nil (sub_ok (by simp only [hb0]; kernel_rfl))
 refine WL.setB 6 hb0 (by kernel_rfl) ?_
 refine WL.run ht hn 6 ⟨[sl 3 (B (decide (p ≥ g.fPlaces)))], [.gone]⟩ (by kernel_rfl) ?_
 exact WL.nil (sub_ok (by simp only [hb0]; kernel_rfl))
 refine En.ret ?_
 exact En.back ht ((decide (p < 0)) || (decide (p ≥ g.fPlaces))) h (by kernel_rfl) rfl
theorem en42 : ∀ args w, (callFunc 42 args).run Try.prog w = .ok (.enter 42 args) w := enters_of Try.func42 (by kernel_rfl) rfl
theorem samC1_ct (p : Int) (g : ApiGraph)  : Ct 42 [.sv (.one (I p)), .sv (.one (.ptr 0 0))] [.box [I g.fLetters, I g.fPlaces, LS ApiArrow.ty g.fArrows] 24 true] (fun (_ : Unit) => True) (fun _ => .sv (.one (B ((decide (p < 0)) || (decide (p ≥ g.fPlaces)))))) := by
 refine (samC1_walk p g (fun res_ => res_ = ((decide (p < 0)) || (decide (p ≥ g.fPlaces)))) ?_).fun
 unfold samC1_vc
 rfl
def offG (g : ApiGraph) (p : Int) : Bool := (decide (p < 0)) || (decide (p ≥ g.fPlaces))
def samC2_vc (x : ApiArrow) (domno : (Int → Prop)) (no : (Int → Bool)) (g : ApiGraph) (Q : Bool → Prop) : Prop :=
 ∃ J : Bool → Prop, ((domno x.fFrom) ∧
 IfP (no x.fFrom) (J true) ((domno x.fTo) ∧
 J (((no x.fTo) || (decide (x.fLetter < 0))) || (decide (x.fLetter ≥ g.fLetters))))) ∧
 (∀ (x4 : Bool), J x4 → Q x4)
theorem samC2_walk (x : ApiArrow) (domno : (Int → Prop)) (no : (Int → Bool)) (g : ApiGraph) (Q : Bool → Prop) (h : samC2_vc x domno no g Q) : Ct 44 [.sv (.agg [I x.fFrom, I x.fLetter, I x.fTo]), .sv (.one (.ptr 0 0)), .sv (.one (.ptr 1 0))] [.box [.rd (fvR (fun (x : Int) => [.sv (.one (I x))]) (fun (r : Bool) => .sv (.one (B r))) domno no)] 103 true, .box [I g.fLetters, I g.fPlaces, LS ApiArrow.ty g.fArrows] 24 true] Q (fun (r : Bool) => .sv (.one (B r))) := by
 have ht := tab_ok
 refine Ct.body Try.func44 rfl rfl rfl rfl (fun c hn => ?_)
 unfold samC2_vc at h
 refine En.seq ?_
 refine En.region ?_
 refine WL.run ht hn 2 ⟨[sl 1 (.ptr 0 0), sl 2 (.ptr 1 0), sl 3 (.ptr 2 0)], [.box [.rd (fvR (fun (x : Int) => [.sv (.one (I x))]) (fun (r : Bool) => .sv (.one (B r))) domno no)] 103 true, .box (ApiGraph.cl g) 24 true, .box (ApiArrow.cl x) 26 false]⟩ (by kernel_rfl) ?_
 refine WL.nil ?_
 obtain ⟨J, h, hJ⟩ := h
 refine En.seqJ (σ := Bool) (fun zz => J zz) (fun zz => ⟨[sl 4 (B zz)], [.gone, .gone, .gone]⟩) ?_ ?_
 refine En.region ?_
 refine WL.run ht hn 3 ⟨[sl 1 (.ptr 0 0), sl 2 (.ptr 1 0), sl 3 (.ptr 2 0), sl 5 (.rd (fvR (fun (x : Int) => [.sv (.one (I x))]) (fun (r : Bool) => .sv (.one (B r))) domno no)), sl 7 (I x.fFrom)], [.box [.rd (fvR (fun (x : Int) => [.sv (.one (I x))]) (fun (r : Bool) => .sv (.one (B r))) domno no)] 103 true, .box (ApiGraph.cl g) 24 true, .box (ApiArrow.cl x) 26 false]⟩ (by kernel_rfl) ?_
 have hp := h.1
 replace h := h.2
 refine WL.mt0 (K := []) (p := none) hn (by rfl) (mt_callv x.fFrom hp rfl (by rfl) (by rfl) (by rfl) (by rfl)) (by rfl) (by rfl) (by rfl) ?_
 refine WL.run ht hn 1 ⟨[sl 1 (.ptr 0 0), sl 2 (.ptr 1 0), sl 3 (.ptr 2 0), sl 9 (B (no x.fFrom))], [.box [.rd (fvR (fun (x : Int) => [.sv (.one (I x))]) (fun (r : Bool) => .sv (.one (B r))) domno no)] 103 true, .box (ApiGraph.cl g) 24 true, .box (ApiArrow.cl x) 26 false]⟩ (by kernel_rfl) ?_
 refine splitB (no x.fFrom) (fun hb => ?_) (fun hb => ?_)
 replace h := h.1 hb
 refine WL.setB 9 hb (by kernel_rfl) ?_
 refine WL.run ht hn 18 ⟨[sl 4 (B true)], [.gone, .gone, .gone]⟩ (by kernel_rfl) ?_
 refine WL.nil ?_
 exact En.at (I := fun zz => J zz) (T := fun zz => ⟨[sl 4 (B zz)], [.gone, .gone, .gone]⟩) true h (by kernel_rfl)
 replace h := h.2 hb
 refine WL.setB 9 hb (by kernel_rfl) ?_
 refine WL.run ht hn 3 ⟨[sl 2 (.ptr 1 0), sl 3 (.ptr 2 0), sl 9 (B false), sl 10 (.rd (fvR (fun (x : Int) => [.sv (.one (I x))]) (fun (r : Bool) => .sv (.one (B r))) domno no)), sl 12 (I x.fTo)], [.gone, .box (ApiGraph.cl g) 24 true, .box (ApiArrow.cl x) 26 false]⟩ (by kernel_rfl) ?_
 have hp := h.1
 replace h := h.2
 refine WL.mt0 (K := []) (p := none) hn (by rfl) (mt_callv x.fTo hp rfl (by rfl) (by rfl) (by rfl) (by rfl)) (by rfl) (by rfl) (by rfl) ?_
 refine WL.run ht hn 2 ⟨[sl 2 (.ptr 1 0), sl 3 (.ptr 2 0), sl 15 (B (no x.fTo))], [.gone, .box (ApiGraph.cl g) 24 true, .box (ApiArrow.cl x) 26 false]⟩ (by kernel_rfl) ?_
 refine WL.thru ⟨[sl 4 (B (((no x.fTo) || (decide (x.fLetter < 0))) || (decide (x.fLetter ≥ g.fLetters))))], [.gone, .gone, .gone]⟩ ?_ ?_
 refine splitB (no x.fTo) (fun hb0 => ?_) (fun hb0 => ?_)
 refine WL.setB 15 hb0 (by kernel_rfl) ?_
 refine WL.run ht hn 12 ⟨[sl 4 (B true)], [.gone, .gone, .gone]⟩ (by kernel_rfl) ?_
 exact WL.nil (sub_ok (by simp only [hb0]; kernel_rfl))
 refine WL.setB 15 hb0 (by kernel_rfl) ?_
 refine WL.run ht hn 5 ⟨[sl 2 (.ptr 1 0), sl 3 (.ptr 2 0), sl 20 (B (decide (x.fLetter < 0)))], [.gone, .box (ApiGraph.cl g) 24 true, .box (ApiArrow.cl x) 26 false]⟩ (by kernel_rfl) ?_
 refine splitB (decide (x.fLetter < 0)) (fun hb1 => ?_) (fun hb1 => ?_)
 refine WL.setB 20 hb1 (by kernel_rfl) ?_
 refine WL.run ht hn 7 ⟨[sl 4 (B true)], [.gone, .gone, .gone]⟩ (by kernel_rfl) ?_
 exact WL.nil (sub_ok (by simp only [hb0, hb1]; kernel_rfl))
 refine WL.setB 20 hb1 (by kernel_rfl) ?_
 refine WL.run ht hn 7 ⟨[sl 4 (B (decide (x.fLetter ≥ g.fLetters)))], [.gone, .gone, .gone]⟩ (by kernel_rfl) ?_
 exact WL.nil (sub_ok (by simp only [hb0, hb1]; kernel_rfl))
 exact En.at (I := fun zz => J zz) (T := fun zz => ⟨[sl 4 (B zz)], [.gone, .gone, .gone]⟩) (((no x.fTo) || (decide (x.fLetter < 0))) || (decide (x.fLetter ≥ g.fLetters))) h (by kernel_rfl)
 intro x4 h
 replace h := hJ _ h
 show En c ⟨[sl 4 (B x4)], [.gone, .gone, .gone]⟩ _
 refine En.ret ?_
 exact En.back ht x4 h (by kernel_rfl) rfl
theorem en44 : ∀ args w, (callFunc 44 args).run Try.prog w = .ok (.enter 44 args) w := enters_of Try.func44 (by kernel_rfl) rfl
def offA (no : Int → Bool) (g : ApiGraph) (x : ApiArrow) : Bool := no x.fFrom || ((no x.fTo || (decide (x.fLetter < 0))) || (decide (x.fLetter ≥ g.fLetters)))
theorem samC2_ct (x : ApiArrow) (domno : (Int → Prop)) (no : (Int → Bool)) (g : ApiGraph) (hp : domno x.fFrom ∧ domno x.fTo)  : Ct 44 [.sv (.agg [I x.fFrom, I x.fLetter, I x.fTo]), .sv (.one (.ptr 0 0)), .sv (.one (.ptr 1 0))] [.box [.rd (fvR (fun (x : Int) => [.sv (.one (I x))]) (fun (r : Bool) => .sv (.one (B r))) domno no)] 103 true, .box [I g.fLetters, I g.fPlaces, LS ApiArrow.ty g.fArrows] 24 true] (fun (_ : Unit) => True) (fun _ => .sv (.one (B (offA no g x)))) := by
 refine (samC2_walk x domno no g (fun res_ => res_ = (offA no g x)) ?_).fun
 unfold samC2_vc
 refine ⟨fun b => b = offA no g x, ⟨hp.1, fun h => ?_, fun h => ⟨hp.2, ?_⟩⟩, fun _ h => h⟩
 ·show true = _
  unfold offA
  rw [h]
  rfl
 ·show _ = _
  unfold offA
  rw [h]
  rfl
def indexApiArrow_vc (l : (List ApiArrow)) (dom : (ApiArrow → Prop)) (φ : (ApiArrow → Bool)) (Q : Int → Prop) : Prop :=
 l.length ≤ 9223372036854775807 →
 (∃ (Inv : Int → Prop) (mu : Int → Nat), Inv 0 ∧
 ∀ (x8 : Int) , Inv x8 → (IfP (decide (x8 < (l.length : Int))) (∃ e, idx l x8 = some e ∧
 (dom e) ∧
 IfP (φ e) (Q x8) ((Inv (wr (x8 + 1)) ∧ mu (wr (x8 + 1)) < mu x8))) (Q (-1))))
theorem indexApiArrow_walk (l : (List ApiArrow)) (dom : (ApiArrow → Prop)) (φ : (ApiArrow → Bool)) (Q : Int → Prop) (h : indexApiArrow_vc l dom φ Q) : Ct 92 [.sv (.one (LS ApiArrow.ty l)), .sv (.one (.rd (fvR (fun x => [.sv (.agg [I x.fFrom, I x.fLetter, I x.fTo])]) (fun b => .sv (.one (B b))) dom φ)))] [] Q (fun (r : Int) => .sv (.one (I r))) := by
 have ht := tab_ok
 refine Ct.body Try.func92 rfl rfl rfl rfl (fun c hn => ?_)
 unfold indexApiArrow_vc at h
 refine En.lenL 0 (by rfl) (fun hl => ?_)
 replace h := h hl
 clear hl
 refine En.seq ?_
 refine En.region ?_
 refine WL.run ht hn 1 ⟨[sl 0 (LS ApiArrow.ty l), sl 1 (.rd (fvR (fun x => [.sv (.agg (ApiArrow.cl x))]) (fun b => .sv (.one (B b))) dom φ))], []⟩ (by kernel_rfl) ?_
 refine WL.nil ?_
 refine En.seq ?_
 refine En.seq ?_
 refine En.region ?_
 refine WL.run ht hn 3 ⟨[sl 0 (LS ApiArrow.ty l), sl 1 (.rd (fvR (fun x => [.sv (.agg (ApiArrow.cl x))]) (fun b => .sv (.one (B b))) dom φ)), sl 7 (I (l.length : Int)), sl 8 (I 0)], []⟩ (by kernel_rfl) ?_
 refine WL.nil ?_
 refine En.block ?_
 obtain ⟨Inv, mu, h0, hI⟩ := h
 refine En.loop (σ := Int) (fun zz => Inv zz) (fun zz => mu zz) (fun zz => ⟨[sl 0 (LS ApiArrow.ty l), sl 1 (.rd (fvR (fun x => [.sv (.agg (ApiArrow.cl x))]) (fun b => .sv (.one (B b))) dom φ)), sl 7 (I (l.length : Int)), sl 8 (I zz)], []⟩) 0 h0 (sub_ok (by kernel_rfl)) ?_
 intro x8 h
 replace h := hI _ h
 show En c ⟨[sl 0 (LS ApiArrow.ty l), sl 1 (.rd (fvR (fun x => [.sv (.agg (ApiArrow.cl x))]) (fun b => .sv (.one (B b))) dom φ)), sl 7 (I (l.length : Int)), sl 8 (I x8)], []⟩ _
 refine En.seq ?_
 refine En.region ?_
 refine WL.run ht hn 1 ⟨[sl 0 (LS ApiArrow.ty l), sl 1 (.rd (fvR (fun x => [.sv (.agg (ApiArrow.cl x))]) (fun b => .sv (.one (B b))) dom φ)), sl 7 (I (l.length : Int)), sl 8 (I x8), sl 9 (B (decide (x8 < (l.length : Int))))], []⟩ (by kernel_rfl) ?_
 refine WL.nil ?_
 refine En.seq ?_
 refine En.cond (b := (decide (x8 < (l.length : Int)))) (by kernel_rfl) (fun hb => ?_) (fun hb => ?_)
 replace h := h.1 hb
 refine En.skip ?_
 refine En.seq ?_
 refine En.block ?_
 refine En.seq ?_
 refine En.region ?_
 refine WL.run ht hn 2 ⟨[sl 0 (LS ApiArrow.ty l), sl 1 (.rd (fvR (fun x => [.sv (.agg (ApiArrow.cl x))]) (fun b => .sv (.one (B b))) dom φ)), sl 5 (I x8), sl 7 (I (l.length : Int)), sl 8 (I x8)], []⟩ (by kernel_rfl) ?_
 refine WL.nil ?_
 refine En.seq ?_
 refine En.region ?_
 refine WL.run ht hn 3 ⟨[sl 0 (LS ApiArrow.ty l), sl 1 (.rd (fvR (fun x => [.sv (.agg (ApiArrow.cl x))]) (fun b => .sv (.one (B b))) dom φ)), sl 5 (I x8), sl 7 (I (l.length : Int)), sl 8 (I x8), sl 11 (.rd (fvR (fun x => [.sv (.agg (ApiArrow.cl x))]) (fun b => .sv (.one (B b))) dom φ)), sl 12 (LS ApiArrow.ty l), sl 13 (I x8)], []⟩ (by kernel_rfl) ?_
 obtain ⟨e, he, h⟩ := h
 refine WL.val hn (by rfl) (val_index (T := ApiArrow.ty) (l := l) (i := x8) ht rfl (by rfl) (by rfl) (by rfl) (by rfl) (by rfl) (by rfl) he) (by rfl) ?_
 refine WL.val hn (by rfl) (val_load (s := .agg (ApiArrow.cl e)) ht rfl (by rfl) (by rfl) (by rfl) (by rfl) (by rfl)) (by rfl) ?_
 have hp := h.1
 replace h := h.2
 refine WL.mt0 (K := []) (p := none) hn (by rfl) (mt_callv e hp rfl (by rfl) (by rfl) (by rfl) (by rfl)) (by rfl) (by rfl) (by rfl) ?_
 refine WL.nil ?_
 refine En.cond (b := (φ e)) (by kernel_rfl) (fun hb => ?_) (fun hb => ?_)
 replace h := h.1 hb
 refine En.seq ?_
 refine En.region ?_
 refine WL.run ht hn 2 ⟨[sl 4 (I x8)], []⟩ (by kernel_rfl) ?_
 refine WL.nil ?_
 refine En.ret ?_
 exact En.back ht x8 h (by kernel_rfl) rfl
 replace h := h.2 hb
 refine En.skip ?_
 refine En.region ?_
 refine WL.run ht hn 2 ⟨[sl 0 (LS ApiArrow.ty l), sl 1 (.rd (fvR (fun x => [.sv (.agg (ApiArrow.cl x))]) (fun b => .sv (.one (B b))) dom φ)), sl 7 (I (l.length : Int)), sl 8 (I (wr (x8 + 1)))], []⟩ (by kernel_rfl) ?_
 refine WL.nil ?_
 exact En.at (I := fun zz => Inv zz ∧ mu zz < mu x8) (T := fun zz => ⟨[sl 0 (LS ApiArrow.ty l), sl 1 (.rd (fvR (fun x => [.sv (.agg (ApiArrow.cl x))]) (fun b => .sv (.one (B b))) dom φ)), sl 7 (I (l.length : Int)), sl 8 (I zz)], []⟩) (wr (x8 + 1)) h (by kernel_rfl)
 replace h := h.2 hb
 refine En.exit rfl ?_
 refine En.seq ?_
 refine En.region ?_
 refine WL.run ht hn 1 ⟨[sl 4 (I (-1))], []⟩ (by kernel_rfl) ?_
 refine WL.nil ?_
 refine En.ret ?_
 exact En.back ht (-1) h (by kernel_rfl) rfl
theorem en92 : ∀ args w, (callFunc 92 args).run Try.prog w = .ok (.enter 92 args) w := enters_of Try.func92 (by kernel_rfl) rfl
theorem indexApiArrow_ct (l : List ApiArrow) (dom : ApiArrow → Prop) (φ : ApiArrow → Bool) (hd : ∀ x ∈ l, dom x) : Ct 92 [.sv (.one (LS ApiArrow.ty l)), .sv (.one (.rd (fvR (fun x => [.sv (.agg [I x.fFrom, I x.fLetter, I x.fTo])]) (fun b => .sv (.one (B b))) dom φ)))] [] (fun (_ : Unit) => True) (fun _ => .sv (.one (I (idxTo φ l)))) := by
 refine (indexApiArrow_walk l dom φ (fun r => r = idxTo φ l) ?_).fun
 unfold indexApiArrow_vc
 exact index_plain l dom φ hd
def anyApiArrow_vc (l : (List ApiArrow)) (dom : (ApiArrow → Prop)) (φ : (ApiArrow → Bool)) (Q : Bool → Prop) : Prop :=
 l.length ≤ 9223372036854775807 →
 ((∀ x_ ∈ l, dom x_) ∧
 Q (decide ((idxTo φ l) ≥ 0)))
theorem anyApiArrow_walk (l : (List ApiArrow)) (dom : (ApiArrow → Prop)) (φ : (ApiArrow → Bool)) (Q : Bool → Prop) (h : anyApiArrow_vc l dom φ Q) : Ct 43 [.sv (.one (LS ApiArrow.ty l)), .sv (.one (.rd (fvR (fun x => [.sv (.agg [I x.fFrom, I x.fLetter, I x.fTo])]) (fun b => .sv (.one (B b))) dom φ)))] [] Q (fun (r : Bool) => .sv (.one (B r))) := by
 have ht := tab_ok
 refine Ct.body Try.func43 rfl rfl rfl rfl (fun c hn => ?_)
 unfold anyApiArrow_vc at h
 refine En.lenL 0 (by rfl) (fun hl => ?_)
 replace h := h hl
 clear hl
 refine En.seq ?_
 refine En.region ?_
 refine WL.run ht hn 1 ⟨[sl 0 (LS ApiArrow.ty l), sl 1 (.rd (fvR (fun x => [.sv (.agg (ApiArrow.cl x))]) (fun b => .sv (.one (B b))) dom φ))], []⟩ (by kernel_rfl) ?_
 refine WL.nil ?_
 refine En.seq ?_
 refine En.region ?_
 refine WL.run ht hn 2 ⟨[sl 5 (LS ApiArrow.ty l), sl 6 (.rd (fvR (fun x => [.sv (.agg (ApiArrow.cl x))]) (fun b => .sv (.one (B b))) dom φ))], []⟩ (by kernel_rfl) ?_
 have hp := h.1
 replace h := h.2
 refine WL.mt0 (K := []) (p := none) hn (by rfl) (mt_call (indexApiArrow_ct l dom φ hp) en92 (caps := []) [] rfl (by rfl) (by kernel_rfl) (by kernel_rfl) (by rfl) (by rfl) (by rfl)) (by rfl) (by rfl) (by rfl) ?_
 refine WL.run ht hn 2 ⟨[sl 4 (B (decide ((idxTo φ l) ≥ 0)))], []⟩ (by kernel_rfl) ?_
 refine WL.nil ?_
 refine En.ret ?_
 exact En.back ht (decide ((idxTo φ l) ≥ 0)) h (by kernel_rfl) rfl
theorem en43 : ∀ args w, (callFunc 43 args).run Try.prog w = .ok (.enter 43 args) w := enters_of Try.func43 (by kernel_rfl) rfl
theorem anyApiArrow_ct (l : List ApiArrow) (dom : ApiArrow → Prop) (φ : ApiArrow → Bool) (hd : ∀ x ∈ l, dom x) : Ct 43 [.sv (.one (LS ApiArrow.ty l)), .sv (.one (.rd (fvR (fun x => [.sv (.agg [I x.fFrom, I x.fLetter, I x.fTo])]) (fun b => .sv (.one (B b))) dom φ)))] [] (fun (_ : Unit) => True) (fun _ => .sv (.one (B (l.any φ)))) := by
 refine (anyApiArrow_walk l dom φ (fun r => r = l.any φ) ?_).fun
 unfold anyApiArrow_vc
 exact fun _ => ⟨hd, by rw [← idxTo_nonneg φ l]⟩
def indexInt_vc (l : (List Int)) (dom : (Int → Prop)) (φ : (Int → Bool)) (Q : Int → Prop) : Prop :=
 l.length ≤ 9223372036854775807 →
 (∃ (Inv : Int → Prop) (mu : Int → Nat), Inv 0 ∧
 ∀ (x8 : Int) , Inv x8 → (IfP (decide (x8 < (l.length : Int))) (∃ e, idx l x8 = some e ∧
 (dom e) ∧
 IfP (φ e) (Q x8) ((Inv (wr (x8 + 1)) ∧ mu (wr (x8 + 1)) < mu x8))) (Q (-1))))
theorem indexInt_walk (l : (List Int)) (dom : (Int → Prop)) (φ : (Int → Bool)) (Q : Int → Prop) (h : indexInt_vc l dom φ Q) : Ct 69 [.sv (.one (LS intT l)), .sv (.one (.rd (fvR (fun x => [.sv (.one (I x))]) (fun b => .sv (.one (B b))) dom φ)))] [] Q (fun (r : Int) => .sv (.one (I r))) := by
 have ht := tab_ok
 refine Ct.body Try.func69 rfl rfl rfl rfl (fun c hn => ?_)
 unfold indexInt_vc at h
 refine En.lenL 0 (by rfl) (fun hl => ?_)
 replace h := h hl
 clear hl
 refine En.seq ?_
 refine En.region ?_
 refine WL.run ht hn 1 ⟨[sl 0 (LS intT l), sl 1 (.rd (fvR (fun x => [.sv (.one (I x))]) (fun b => .sv (.one (B b))) dom φ))], []⟩ (by kernel_rfl) ?_
 refine WL.nil ?_
 refine En.seq ?_
 refine En.seq ?_
 refine En.region ?_
 refine WL.run ht hn 3 ⟨[sl 0 (LS intT l), sl 1 (.rd (fvR (fun x => [.sv (.one (I x))]) (fun b => .sv (.one (B b))) dom φ)), sl 7 (I (l.length : Int)), sl 8 (I 0)], []⟩ (by kernel_rfl) ?_
 refine WL.nil ?_
 refine En.block ?_
 obtain ⟨Inv, mu, h0, hI⟩ := h
 refine En.loop (σ := Int) (fun zz => Inv zz) (fun zz => mu zz) (fun zz => ⟨[sl 0 (LS intT l), sl 1 (.rd (fvR (fun x => [.sv (.one (I x))]) (fun b => .sv (.one (B b))) dom φ)), sl 7 (I (l.length : Int)), sl 8 (I zz)], []⟩) 0 h0 (sub_ok (by kernel_rfl)) ?_
 intro x8 h
 replace h := hI _ h
 show En c ⟨[sl 0 (LS intT l), sl 1 (.rd (fvR (fun x => [.sv (.one (I x))]) (fun b => .sv (.one (B b))) dom φ)), sl 7 (I (l.length : Int)), sl 8 (I x8)], []⟩ _
 refine En.seq ?_
 refine En.region ?_
 refine WL.run ht hn 1 ⟨[sl 0 (LS intT l), sl 1 (.rd (fvR (fun x => [.sv (.one (I x))]) (fun b => .sv (.one (B b))) dom φ)), sl 7 (I (l.length : Int)), sl 8 (I x8), sl 9 (B (decide (x8 < (l.length : Int))))], []⟩ (by kernel_rfl) ?_
 refine WL.nil ?_
 refine En.seq ?_
 refine En.cond (b := (decide (x8 < (l.length : Int)))) (by kernel_rfl) (fun hb => ?_) (fun hb => ?_)
 replace h := h.1 hb
 refine En.skip ?_
 refine En.seq ?_
 refine En.block ?_
 refine En.seq ?_
 refine En.region ?_
 refine WL.run ht hn 2 ⟨[sl 0 (LS intT l), sl 1 (.rd (fvR (fun x => [.sv (.one (I x))]) (fun b => .sv (.one (B b))) dom φ)), sl 5 (I x8), sl 7 (I (l.length : Int)), sl 8 (I x8)], []⟩ (by kernel_rfl) ?_
 refine WL.nil ?_
 refine En.seq ?_
 refine En.region ?_
 refine WL.run ht hn 3 ⟨[sl 0 (LS intT l), sl 1 (.rd (fvR (fun x => [.sv (.one (I x))]) (fun b => .sv (.one (B b))) dom φ)), sl 5 (I x8), sl 7 (I (l.length : Int)), sl 8 (I x8), sl 11 (.rd (fvR (fun x => [.sv (.one (I x))]) (fun b => .sv (.one (B b))) dom φ)), sl 12 (LS intT l), sl 13 (I x8)], []⟩ (by kernel_rfl) ?_
 obtain ⟨e, he, h⟩ := h
 refine WL.val hn (by rfl) (val_index (T := intT) (l := l) (i := x8) ht rfl (by rfl) (by rfl) (by rfl) (by rfl) (by rfl) (by rfl) he) (by rfl) ?_
 refine WL.val hn (by rfl) (val_load (s := .one (I e)) ht rfl (by rfl) (by rfl) (by rfl) (by rfl) (by rfl)) (by rfl) ?_
 have hp := h.1
 replace h := h.2
 refine WL.mt0 (K := []) (p := none) hn (by rfl) (mt_callv e hp rfl (by rfl) (by rfl) (by rfl) (by rfl)) (by rfl) (by rfl) (by rfl) ?_
 refine WL.nil ?_
 refine En.cond (b := (φ e)) (by kernel_rfl) (fun hb => ?_) (fun hb => ?_)
 replace h := h.1 hb
 refine En.seq ?_
 refine En.region ?_
 refine WL.run ht hn 2 ⟨[sl 4 (I x8)], []⟩ (by kernel_rfl) ?_
 refine WL.nil ?_
 refine En.ret ?_
 exact En.back ht x8 h (by kernel_rfl) rfl
 replace h := h.2 hb
 refine En.skip ?_
 refine En.region ?_
 refine WL.run ht hn 2 ⟨[sl 0 (LS intT l), sl 1 (.rd (fvR (fun x => [.sv (.one (I x))]) (fun b => .sv (.one (B b))) dom φ)), sl 7 (I (l.length : Int)), sl 8 (I (wr (x8 + 1)))], []⟩ (by kernel_rfl) ?_
 refine WL.nil ?_
 exact En.at (I := fun zz => Inv zz ∧ mu zz < mu x8) (T := fun zz => ⟨[sl 0 (LS intT l), sl 1 (.rd (fvR (fun x => [.sv (.one (I x))]) (fun b => .sv (.one (B b))) dom φ)), sl 7 (I (l.length : Int)), sl 8 (I zz)], []⟩) (wr (x8 + 1)) h (by kernel_rfl)
 replace h := h.2 hb
 refine En.exit rfl ?_
 refine En.seq ?_
 refine En.region ?_
 refine WL.run ht hn 1 ⟨[sl 4 (I (-1))], []⟩ (by kernel_rfl) ?_
 refine WL.nil ?_
 refine En.ret ?_
 exact En.back ht (-1) h (by kernel_rfl) rfl
theorem en69 : ∀ args w, (callFunc 69 args).run Try.prog w = .ok (.enter 69 args) w := enters_of Try.func69 (by kernel_rfl) rfl
theorem indexInt_ct (l : List Int) (dom : Int → Prop) (φ : Int → Bool) (hd : ∀ x ∈ l, dom x) : Ct 69 [.sv (.one (LS intT l)), .sv (.one (.rd (fvR (fun x => [.sv (.one (I x))]) (fun b => .sv (.one (B b))) dom φ)))] [] (fun (_ : Unit) => True) (fun _ => .sv (.one (I (idxTo φ l)))) := by
 refine (indexInt_walk l dom φ (fun r => r = idxTo φ l) ?_).fun
 unfold indexInt_vc
 exact index_plain l dom φ hd
def samCheck_vc (g : ApiGraph) (Q : Int → Prop) : Prop :=
 g.fArrows.length ≤ 9223372036854775807 →
 (IfP ((decide (g.fLetters < 1)) || (decide (g.fLetters > 4))) (Q 2) (IfP (((decide (g.fPlaces < 1)) || (decide (g.fPlaces > 12))) || (decide ((g.fArrows.length : Int) > 60))) (Q 1) ((∀ x_ ∈ g.fArrows, (fun x => (fun _ => True) x.fFrom ∧ (fun _ => True) x.fTo) x_) ∧
 IfP (g.fArrows.any (offA (offG g) g)) (Q 2) (∃ (Inv : Int → Prop) (mu : Int → Nat), Inv 0 ∧
 ∀ (x35 : Int) , Inv x35 → (IfP (decide (x35 < (g.fArrows.length : Int))) (∃ J : Bool → Prop, (IfP (decide (x35 > 0)) (∃ e, idx g.fArrows (wr (x35 - 1)) = some e ∧
 ∃ e_2, idx g.fArrows x35 = some e_2 ∧
 J (decide ((ordA e e_2) ≥ 0))) (J false)) ∧
 (∀ (x54 : Bool), J x54 → IfP x54 (Q 3) ((Inv (wr (x35 + 1)) ∧ mu (wr (x35 + 1)) < mu x35)))) (Q 0))))))
theorem samCheck_walk (g : ApiGraph) (Q : Int → Prop) (h : samCheck_vc g Q) : Ct 20 [.sv (.agg [I g.fLetters, I g.fPlaces, LS ApiArrow.ty g.fArrows])] [] Q (fun (r : Int) => .sv (.one (I r))) := by
 have ht := tab_ok
 refine Ct.body Try.func20 rfl rfl rfl rfl (fun c hn => ?_)
 unfold samCheck_vc at h
 refine En.lenA 0 2 (by rfl) (by rfl) (fun hl => ?_)
 replace h := h hl
 clear hl
 refine En.seq ?_
 refine En.region ?_
 refine WL.run ht hn 2 ⟨[sl 1 (.ptr 0 0)], [.box (ApiGraph.cl g) 24 false]⟩ (by kernel_rfl) ?_
 refine WL.nil ?_
 refine En.seq ?_
 refine En.seq ?_
 refine En.region ?_
 refine WL.run ht hn 4 ⟨[sl 1 (.ptr 0 0), sl 8 (B (decide (g.fLetters < 1)))], [.box (ApiGraph.cl g) 24 false]⟩ (by kernel_rfl) ?_
 refine WL.thru ⟨[sl 1 (.ptr 0 0), sl 12 (B ((decide (g.fLetters < 1)) || (decide (g.fLetters > 4))))], [.box (ApiGraph.cl g) 24 false]⟩ ?_ ?_
 refine splitB (decide (g.fLetters < 1)) (fun hb0 => ?_) (fun hb0 => ?_)
 refine WL.setB 8 hb0 (by kernel_rfl) ?_
 refine WL.run ht hn 4 ⟨[sl 1 (.ptr 0 0), sl 12 (B true)], [.box (ApiGraph.cl g) 24 false]⟩ (by kernel_rfl) ?_
 exact WL.nil (sub_ok (by simp only [hb0]; kernel_rfl))
 refine WL.setB 8 hb0 (by kernel_rfl) ?_
 refine WL.run ht hn 4 ⟨[sl 1 (.ptr 0 0), sl 12 (B (decide (g.fLetters > 4)))], [.box (ApiGraph.cl g) 24 false]⟩ (by kernel_rfl) ?_
 exact WL.nil (sub_ok (by simp only [hb0]; kernel_rfl))
 refine En.cond (b := ((decide (g.fLetters < 1)) || (decide (g.fLetters > 4)))) (by kernel_rfl) (fun hb => ?_) (fun hb => ?_)
 replace h := h.1 hb
 refine En.seq ?_
 refine En.region ?_
 refine WL.run ht hn 1 ⟨[sl 2 (I 2)], [.gone]⟩ (by kernel_rfl) ?_
 refine WL.nil ?_
 refine En.ret ?_
 exact En.back ht 2 h (by kernel_rfl) rfl
 replace h := h.2 hb
 refine En.skip ?_
 refine En.seq ?_
 refine En.seq ?_
 refine En.region ?_
 refine WL.run ht hn 4 ⟨[sl 1 (.ptr 0 0), sl 16 (B (decide (g.fPlaces < 1)))], [.box (ApiGraph.cl g) 24 false]⟩ (by kernel_rfl) ?_
 refine WL.thru ⟨[sl 1 (.ptr 0 0), sl 26 (B (((decide (g.fPlaces < 1)) || (decide (g.fPlaces > 12))) || (decide ((g.fArrows.length : Int) > 60))))], [.box (ApiGraph.cl g) 24 false]⟩ ?_ ?_
 refine splitB (decide (g.fPlaces < 1)) (fun hb0 => ?_) (fun hb0 => ?_)
 refine WL.setB 16 hb0 (by kernel_rfl) ?_
 refine WL.run ht hn 10 ⟨[sl 1 (.ptr 0 0), sl 26 (B true)], [.box (ApiGraph.cl g) 24 false]⟩ (by kernel_rfl) ?_
 exact WL.nil (sub_ok (by simp only [hb0]; kernel_rfl))
 refine WL.setB 16 hb0 (by kernel_rfl) ?_
 refine WL.run ht hn 5 ⟨[sl 1 (.ptr 0 0), sl 21 (B (decide (g.fPlaces > 12)))], [.box (ApiGraph.cl g) 24 false]⟩ (by kernel_rfl) ?_
 refine splitB (decide (g.fPlaces > 12)) (fun hb1 => ?_) (fun hb1 => ?_)
 refine WL.setB 21 hb1 (by kernel_rfl) ?_
 refine WL.run ht hn 5 ⟨[sl 1 (.ptr 0 0), sl 26 (B true)], [.box (ApiGraph.cl g) 24 false]⟩ (by kernel_rfl) ?_
 exact WL.nil (sub_ok (by simp only [hb0, hb1]; kernel_rfl))
 refine WL.setB 21 hb1 (by kernel_rfl) ?_
 refine WL.run ht hn 5 ⟨[sl 1 (.ptr 0 0), sl 26 (B (decide ((g.fArrows.length : Int) > 60)))], [.box (ApiGraph.cl g) 24 false]⟩ (by kernel_rfl) ?_
 exact WL.nil (sub_ok (by simp only [hb0, hb1]; kernel_rfl))
 refine En.cond (b := (((decide (g.fPlaces < 1)) || (decide (g.fPlaces > 12))) || (decide ((g.fArrows.length : Int) > 60)))) (by kernel_rfl) (fun hb => ?_) (fun hb => ?_)
 replace h := h.1 hb
 refine En.seq ?_
 refine En.region ?_
 refine WL.run ht hn 1 ⟨[sl 2 (I 1)], [.gone]⟩ (by kernel_rfl) ?_
 refine WL.nil ?_
 refine En.ret ?_
 exact En.back ht 1 h (by kernel_rfl) rfl
 replace h := h.2 hb
 refine En.skip ?_
 refine En.seq ?_
 refine En.region ?_
 refine WL.run ht hn 3 ⟨[sl 1 (.ptr 0 0), sl 3 (.ptr 1 0)], [.box (ApiGraph.cl g) 24 false, .box [.fn 42 [0]] 103 false]⟩ (by kernel_rfl) ?_
 refine WL.nil ?_
 refine En.seq ?_
 refine En.seq ?_
 refine En.region ?_
 refine WL.run ht hn 3 ⟨[sl 1 (.ptr 0 0), sl 29 (LS ApiArrow.ty g.fArrows), sl 30 (.fn 44 [1, 0])], [.box (ApiGraph.cl g) 24 false, .box [.fn 42 [0]] 103 false]⟩ (by kernel_rfl) ?_
 have hp := h.1
 replace h := h.2
 refine WL.mt0 (K := []) (p := none) hn (by rfl) (mt_lendF [0] (by rfl) (by rfl) (mt_lendB (.rd (fvR (fun (x_ : Int) => [.sv (.one (I x_))]) (fun (r : Bool) => .sv (.one (B r))) (fun _ => True) (offG g))) 1 0 (by rfl) (by rfl) (fv_at (fv_of (M := [.box (ApiGraph.cl g) 24 true]) (caps := [0]) (fun x_ _ => samC1_ct x_ g) en42 rfl (by kernel_rfl) (by rfl) (fun _ => rfl))) (mt_lendF [1] (by rfl) (by rfl) (mt_ghost 30 (o1 (.rd (fvR (fun (x_ : ApiArrow) => [.sv (.agg (ApiArrow.cl x_))]) (fun (r : Bool) => .sv (.one (B r))) (fun x => (fun _ => True) x.fFrom ∧ (fun _ => True) x.fTo) (offA (offG g) g)))) (by rfl) (fv_of (M := [.box [.rd (fvR (fun (x_ : Int) => [.sv (.one (I x_))]) (fun (r : Bool) => .sv (.one (B r))) (fun _ => True) (offG g))] 103 true, .box (ApiGraph.cl g) 24 true]) (caps := [1, 0]) (fun x_ hx => samC2_ct x_ (fun _ => True) (offG g) g hx) en44 rfl (by kernel_rfl) (by rfl) (fun _ => rfl)) (mt_call (anyApiArrow_ct g.fArrows (fun x => (fun _ => True) x.fFrom ∧ (fun _ => True) x.fTo) (offA (offG g) g) hp) en43 (caps := []) [] rfl (by rfl) (by kernel_rfl) (by kernel_rfl) (by rfl) (by rfl) (by rfl)))))) (by rfl) (by rfl) (by rfl) ?_
 refine WL.nil ?_
 refine En.cond (b := (g.fArrows.any (offA (offG g) g))) (by kernel_rfl) (fun hb => ?_) (fun hb => ?_)
 replace h := h.1 hb
 refine En.seq ?_
 refine En.region ?_
 refine WL.run ht hn 1 ⟨[sl 2 (I 2)], [.gone, .gone]⟩ (by kernel_rfl) ?_
 refine WL.nil ?_
 refine En.ret ?_
 exact En.back ht 2 h (by kernel_rfl) rfl
 replace h := h.2 hb
 refine En.skip ?_
 refine En.seq ?_
 refine En.seq ?_
 refine En.region ?_
 refine WL.run ht hn 4 ⟨[sl 1 (.ptr 0 0), sl 34 (I (g.fArrows.length : Int)), sl 35 (I 0)], [.box (ApiGraph.cl g) 24 false, .gone]⟩ (by kernel_rfl) ?_
 refine WL.nil ?_
 refine En.block ?_
 obtain ⟨Inv, mu, h0, hI⟩ := h
 refine En.loop (σ := Int) (fun zz => Inv zz) (fun zz => mu zz) (fun zz => ⟨[sl 1 (.ptr 0 0), sl 34 (I (g.fArrows.length : Int)), sl 35 (I zz)], [.box (ApiGraph.cl g) 24 false, .gone]⟩) 0 h0 (sub_ok (by kernel_rfl)) ?_
 intro x35 h
 replace h := hI _ h
 show En c ⟨[sl 1 (.ptr 0 0), sl 34 (I (g.fArrows.length : Int)), sl 35 (I x35)], [.box (ApiGraph.cl g) 24 false, .gone]⟩ _
 refine En.seq ?_
 refine En.region ?_
 refine WL.run ht hn 1 ⟨[sl 1 (.ptr 0 0), sl 34 (I (g.fArrows.length : Int)), sl 35 (I x35), sl 36 (B (decide (x35 < (g.fArrows.length : Int))))], [.box (ApiGraph.cl g) 24 false, .gone]⟩ (by kernel_rfl) ?_
 refine WL.nil ?_
 refine En.seq ?_
 refine En.cond (b := (decide (x35 < (g.fArrows.length : Int)))) (by kernel_rfl) (fun hb => ?_) (fun hb => ?_)
 replace h := h.1 hb
 refine En.skip ?_
 refine En.seq ?_
 refine En.block ?_
 refine En.seq ?_
 refine En.region ?_
 refine WL.run ht hn 2 ⟨[sl 1 (.ptr 0 0), sl 4 (I x35), sl 34 (I (g.fArrows.length : Int)), sl 35 (I x35)], [.box (ApiGraph.cl g) 24 false, .gone]⟩ (by kernel_rfl) ?_
 refine WL.nil ?_
 obtain ⟨J, h, hJ⟩ := h
 refine En.seqJ (σ := Bool) (fun zz => J zz) (fun zz => ⟨[sl 1 (.ptr 0 0), sl 34 (I (g.fArrows.length : Int)), sl 35 (I x35), sl 54 (B zz)], [.box (ApiGraph.cl g) 24 false, .gone]⟩) ?_ ?_
 refine splitB (decide (x35 > 0)) (fun hb_2 => ?_) (fun hb_2 => ?_)
 replace h := h.1 hb_2
 obtain ⟨e, he, h⟩ := h
 obtain ⟨e_2, he_2, h⟩ := h
 refine En.regionA ⟨[sl 1 (.ptr 0 0), sl 4 (I x35), sl 34 (I (g.fArrows.length : Int)), sl 35 (I x35)], [.sv (.one (I x35)), .sv (.one (B true)), .sv (.one (B true)), .sv (.one (.ptr 0 2)), .sv (.one (LS ApiArrow.ty g.fArrows)), .sv (.one (I x35)), .sv (.one (I (wr (x35 - 1)))), .sv (.one (.pe (svR (.agg (ApiArrow.cl e))) 3)), .sv (.agg (ApiArrow.cl e)), .sv (.one (.ptr 0 2)), .sv (.one (LS ApiArrow.ty g.fArrows)), .sv (.one (I x35)), .sv (.one (.pe (svR (.agg (ApiArrow.cl e_2))) 3)), .sv (.agg (ApiArrow.cl e_2)), .sv (.one (I (ordA e e_2))), .sv (.one (B (decide ((ordA e e_2) ≥ 0)))), .sv (.one (B (decide ((ordA e e_2) ≥ 0))))], [⟨.box (ApiGraph.cl g) 24 false, none, none, none⟩, ⟨.gone, none, none, none⟩]⟩ ⟨[sl 1 (.ptr 0 0), sl 34 (I (g.fArrows.length : Int)), sl 35 (I x35), sl 54 (B (decide ((ordA e e_2) ≥ 0)))], [.box (ApiGraph.cl g) 24 false, .gone]⟩ (by kernel_rfl) hn (by kernel_rfl) (by rfl) (by kernel_rfl) ?_ (by kernel_rfl) ?_
 exact ⟨.mt ⟨[sl 4 (I x35)], []⟩ [] none (by kernel_rfl) (by rfl) (mt_ev ht (by kernel_rfl)) rfl rfl rfl rfl,
 .mt ⟨[sl 38 (I x35)], []⟩ [] none (by kernel_rfl) (by rfl) (mt_castB hb_2 (mt_ev ht (by kernel_rfl))) rfl rfl rfl rfl,
 .mt ⟨[sl 39 (B true)], []⟩ [] none (by kernel_rfl) (by rfl) (mt_ev ht (by kernel_rfl)) rfl rfl rfl rfl,
 .mt ⟨[sl 1 (.ptr 0 0), sl 40 (B true)], []⟩ [] none (by kernel_rfl) (by rfl) (mt_ev ht (by kernel_rfl)) rfl rfl rfl rfl,
 .mt ⟨[sl 40 (B true), sl 41 (.ptr 0 2)], [.box (ApiGraph.cl g) 24 false]⟩ [] none (by kernel_rfl) (by rfl) (mt_ev ht (by kernel_rfl)) rfl rfl rfl rfl,
 .mt ⟨[sl 4 (I x35), sl 40 (B true)], []⟩ [] none (by kernel_rfl) (by rfl) (mt_ev ht (by kernel_rfl)) rfl rfl rfl rfl,
 .mt ⟨[sl 40 (B true), sl 43 (I x35)], []⟩ [] none (by kernel_rfl) (by rfl) (mt_ev ht (by kernel_rfl)) rfl rfl rfl rfl,
 .mt ⟨[sl 40 (B true), sl 42 (LS ApiArrow.ty g.fArrows), sl 44 (I (wr (x35 - 1)))], []⟩ [] none (by kernel_rfl) (by rfl) (mt_val (val_index (T := ApiArrow.ty) (l := g.fArrows) (i := (wr (x35 - 1))) ht rfl (by rfl) (by rfl) (by rfl) (by rfl) (by rfl) (by rfl) he)) rfl rfl rfl rfl,
 .mt ⟨[sl 40 (B true), sl 45 (.pe (svR (.agg (ApiArrow.cl e))) 3)], []⟩ [] none (by kernel_rfl) (by rfl) (mt_val (val_load (s := .agg (ApiArrow.cl e)) ht rfl (by rfl) (by rfl) (by rfl) (by rfl) (by rfl))) rfl rfl rfl rfl,
 .mt ⟨[sl 1 (.ptr 0 0), sl 40 (B true)], []⟩ [] none (by kernel_rfl) (by rfl) (mt_ev ht (by kernel_rfl)) rfl rfl rfl rfl,
 .mt ⟨[sl 40 (B true), sl 47 (.ptr 0 2)], [.box (ApiGraph.cl g) 24 false]⟩ [] none (by kernel_rfl) (by rfl) (mt_ev ht (by kernel_rfl)) rfl rfl rfl rfl,
 .mt ⟨[sl 4 (I x35), sl 40 (B true)], []⟩ [] none (by kernel_rfl) (by rfl) (mt_ev ht (by kernel_rfl)) rfl rfl rfl rfl,
 .mt ⟨[sl 40 (B true), sl 48 (LS ApiArrow.ty g.fArrows), sl 49 (I x35)], []⟩ [] none (by kernel_rfl) (by rfl) (mt_val (val_index (T := ApiArrow.ty) (l := g.fArrows) (i := x35) ht rfl (by rfl) (by rfl) (by rfl) (by rfl) (by rfl) (by rfl) he_2)) rfl rfl rfl rfl,
 .mt ⟨[sl 40 (B true), sl 50 (.pe (svR (.agg (ApiArrow.cl e_2))) 3)], []⟩ [] none (by kernel_rfl) (by rfl) (mt_val (val_load (s := .agg (ApiArrow.cl e_2)) ht rfl (by rfl) (by rfl) (by rfl) (by rfl) (by rfl))) rfl rfl rfl rfl,
 .mt ⟨[sl 40 (B true), (46, .sv (.agg (ApiArrow.cl e))), (51, .sv (.agg (ApiArrow.cl e_2)))], []⟩ [] none (by kernel_rfl) (by rfl) (mt_call (samOrd_ct e e_2) en45 (caps := []) [] rfl (by rfl) (by kernel_rfl) (by kernel_rfl) (by rfl) (by rfl) (by rfl)) rfl rfl rfl rfl,
 .mt ⟨[sl 40 (B true), sl 52 (I (ordA e e_2))], []⟩ [] none (by kernel_rfl) (by rfl) (mt_ev ht (by kernel_rfl)) rfl rfl rfl rfl,
 .mt ⟨[sl 40 (B true), sl 53 (B (decide ((ordA e e_2) ≥ 0)))], []⟩ [] none (by kernel_rfl) (by rfl) (mt_ev ht (by kernel_rfl)) rfl rfl rfl rfl,
 trivial⟩
 exact En.at (I := fun zz => J zz) (T := fun zz => ⟨[sl 1 (.ptr 0 0), sl 34 (I (g.fArrows.length : Int)), sl 35 (I x35), sl 54 (B zz)], [.box (ApiGraph.cl g) 24 false, .gone]⟩) (decide ((ordA e e_2) ≥ 0)) h (by kernel_rfl)
 replace h := h.2 hb_2
 refine En.regionA ⟨[sl 1 (.ptr 0 0), sl 4 (I x35), sl 34 (I (g.fArrows.length : Int)), sl 35 (I x35)], [.sv (.one (I x35)), .sv (.one (B false)), .sv (.one (B false)), .tup [], .tup [], .tup [], .tup [], .tup [], .tup [], .tup [], .tup [], .tup [], .tup [], .tup [], .tup [], .tup [], .sv (.one (B false))], [⟨.box (ApiGraph.cl g) 24 false, none, none, none⟩, ⟨.gone, none, none, none⟩]⟩ ⟨[sl 1 (.ptr 0 0), sl 34 (I (g.fArrows.length : Int)), sl 35 (I x35), sl 54 (B false)], [.box (ApiGraph.cl g) 24 false, .gone]⟩ (by kernel_rfl) hn (by kernel_rfl) (by rfl) (by kernel_rfl) ?_ (by kernel_rfl) ?_
 exact ⟨.mt ⟨[sl 4 (I x35)], []⟩ [] none (by kernel_rfl) (by rfl) (mt_ev ht (by kernel_rfl)) rfl rfl rfl rfl,
 .mt ⟨[sl 38 (I x35)], []⟩ [] none (by kernel_rfl) (by rfl) (mt_castB hb_2 (mt_ev ht (by kernel_rfl))) rfl rfl rfl rfl,
 .mt ⟨[sl 39 (B false)], []⟩ [] none (by kernel_rfl) (by rfl) (mt_ev ht (by kernel_rfl)) rfl rfl rfl rfl,
 .skip ⟨[sl 40 (B false)], []⟩ (by kernel_rfl) (by rfl) rfl rfl rfl rfl,
 .skip ⟨[sl 40 (B false)], []⟩ (by kernel_rfl) (by rfl) rfl rfl rfl rfl,
 .skip ⟨[sl 40 (B false)], []⟩ (by kernel_rfl) (by rfl) rfl rfl rfl rfl,
 .skip ⟨[sl 40 (B false)], []⟩ (by kernel_rfl) (by rfl) rfl rfl rfl rfl,
 .skip ⟨[sl 40 (B false)], []⟩ (by kernel_rfl) (by rfl) rfl rfl rfl rfl,
 .skip ⟨[sl 40 (B false)], []⟩ (by kernel_rfl) (by rfl) rfl rfl rfl rfl,
 .skip ⟨[sl 40 (B false)], []⟩ (by kernel_rfl) (by rfl) rfl rfl rfl rfl,
 .skip ⟨[sl 40 (B false)], []⟩ (by kernel_rfl) (by rfl) rfl rfl rfl rfl,
 .skip ⟨[sl 40 (B false)], []⟩ (by kernel_rfl) (by rfl) rfl rfl rfl rfl,
 .skip ⟨[sl 40 (B false)], []⟩ (by kernel_rfl) (by rfl) rfl rfl rfl rfl,
 .skip ⟨[sl 40 (B false)], []⟩ (by kernel_rfl) (by rfl) rfl rfl rfl rfl,
 .skip ⟨[sl 40 (B false)], []⟩ (by kernel_rfl) (by rfl) rfl rfl rfl rfl,
 .skip ⟨[sl 40 (B false)], []⟩ (by kernel_rfl) (by rfl) rfl rfl rfl rfl,
 .mt ⟨[sl 40 (B false), (53, .tup [])], []⟩ [] none (by kernel_rfl) (by rfl) (mt_ev ht (by kernel_rfl)) rfl rfl rfl rfl,
 trivial⟩
 exact En.at (I := fun zz => J zz) (T := fun zz => ⟨[sl 1 (.ptr 0 0), sl 34 (I (g.fArrows.length : Int)), sl 35 (I x35), sl 54 (B zz)], [.box (ApiGraph.cl g) 24 false, .gone]⟩) false h (by kernel_rfl)
 intro x54 h
 replace h := hJ _ h
 show En c ⟨[sl 1 (.ptr 0 0), sl 34 (I (g.fArrows.length : Int)), sl 35 (I x35), sl 54 (B x54)], [.box (ApiGraph.cl g) 24 false, .gone]⟩ _
 refine En.cond (b := x54) (by kernel_rfl) (fun hb => ?_) (fun hb => ?_)
 replace h := h.1 hb
 refine En.seq ?_
 refine En.region ?_
 refine WL.run ht hn 1 ⟨[sl 2 (I 3)], [.gone, .gone]⟩ (by kernel_rfl) ?_
 refine WL.nil ?_
 refine En.ret ?_
 exact En.back ht 3 h (by kernel_rfl) rfl
 replace h := h.2 hb
 refine En.skip ?_
 refine En.region ?_
 refine WL.run ht hn 2 ⟨[sl 1 (.ptr 0 0), sl 34 (I (g.fArrows.length : Int)), sl 35 (I (wr (x35 + 1)))], [.box (ApiGraph.cl g) 24 false, .gone]⟩ (by kernel_rfl) ?_
 refine WL.nil ?_
 exact En.at (I := fun zz => Inv zz ∧ mu zz < mu x35) (T := fun zz => ⟨[sl 1 (.ptr 0 0), sl 34 (I (g.fArrows.length : Int)), sl 35 (I zz)], [.box (ApiGraph.cl g) 24 false, .gone]⟩) (wr (x35 + 1)) h (by kernel_rfl)
 replace h := h.2 hb
 refine En.exit rfl ?_
 refine En.seq ?_
 refine En.region ?_
 refine WL.run ht hn 1 ⟨[sl 2 (I 0)], [.gone, .gone]⟩ (by kernel_rfl) ?_
 refine WL.nil ?_
 refine En.ret ?_
 exact En.back ht 0 h (by kernel_rfl) rfl
theorem en20 : ∀ args w, (callFunc 20 args).run Try.prog w = .ok (.enter 20 args) w := enters_of Try.func20 (by kernel_rfl) rfl
def samLate (g : ApiGraph) : Bool := (List.range g.fArrows.length).any fun i => decide (0 < i) && decide (ordA (g.fArrows.getD (i - 1) default) (g.fArrows.getD i default) ≥ 0)
def samErr (g : ApiGraph) : Int := if (decide (g.fLetters < 1)) || (decide (g.fLetters > 4)) then 2 else if ((decide (g.fPlaces < 1)) || (decide (g.fPlaces > 12))) || (decide ((g.fArrows.length : Int) > 60)) then 1 else if g.fArrows.any (offA (offG g) g) then 2 else if samLate g then 3 else 0
structure GraphOk (g : ApiGraph) : Prop where
 let_ : 1 ≤ g.fLetters ∧ g.fLetters ≤ 4
 pl : 1 ≤ g.fPlaces ∧ g.fPlaces ≤ 12
 len : g.fArrows.length ≤ 60
 arr : ∀ x ∈ g.fArrows, (0 ≤ x.fFrom ∧ x.fFrom < g.fPlaces) ∧ (0 ≤ x.fTo ∧ x.fTo < g.fPlaces) ∧ 0 ≤ x.fLetter ∧ x.fLetter < g.fLetters
theorem samErr_ok {g : ApiGraph} (h : samErr g = 0) : GraphOk g := by
 unfold samErr at h
 by_cases h1 : ((decide (g.fLetters < 1)) || (decide (g.fLetters > 4))) = true
 ·rw [if_pos h1] at h; cases h
 rw [if_neg h1] at h
 by_cases h2 : (((decide (g.fPlaces < 1)) || (decide (g.fPlaces > 12))) || (decide ((g.fArrows.length : Int) > 60))) = true
 ·rw [if_pos h2] at h; cases h
 rw [if_neg h2] at h
 by_cases h3 : g.fArrows.any (offA (offG g) g) = true
 ·rw [if_pos h3] at h; cases h
 simp only [Bool.not_eq_true, Bool.or_eq_false_iff, decide_eq_false_iff_not] at h1 h2
 rw [Bool.not_eq_true, List.any_eq_false] at h3
 refine ⟨by omega, by omega, by omega, fun x hx => ?_⟩
 have := h3 x hx
 unfold offA offG at this
 simp at this
 omega
theorem idx_getS {α : Type} {l : List α} {s : Nat} (z : α) (h : s < l.length) : idx l (s : Int) = some (l.getD s z) := by
 have := idx_of (l := l) (i := (s : Int)) z (by omega) (by omega)
 rwa [Int.toNat_natCast] at this
theorem samCheck_ct (g : ApiGraph)  : Ct 20 [.sv (.agg [I g.fLetters, I g.fPlaces, LS ApiArrow.ty g.fArrows])] [] (fun (_ : Unit) => True) (fun _ => .sv (.one (I (samErr g)))) := by
 refine (samCheck_walk g (fun res_ => res_ = (samErr g)) ?_).fun
 unfold samCheck_vc
 intro _
 refine ⟨fun h => ?_, fun h1 => ⟨fun h => ?_, fun h2 => ⟨fun _ _ => ⟨trivial, trivial⟩, fun h => ?_, fun h3 => ?_⟩⟩⟩
 ·show 2 = _; unfold samErr; rw [if_pos h]
 ·show 1 = _; unfold samErr; rw [if_neg (by rw [h1]; decide), if_pos h]
 ·show 2 = _; unfold samErr; rw [if_neg (by rw [h1]; decide), if_neg (by rw [h2]; decide), if_pos h]
 have he : samErr g = if samLate g then 3 else 0 := by unfold samErr; rw [if_neg (by rw [h1]; decide), if_neg (by rw [h2]; decide), if_neg (by rw [h3]; decide)]
 rw [he]
 refine ⟨fun i => ∃ k : Nat, i = k ∧ k ≤ g.fArrows.length ∧ ∀ j, j < k → (decide (0 < j) && decide (ordA (g.fArrows.getD (j - 1) default) (g.fArrows.getD j default) ≥ 0)) = false, fun i => g.fArrows.length - i.toNat, ⟨0, rfl, Nat.zero_le _, fun j hj => absurd hj (Nat.not_lt_zero _)⟩, ?_⟩
 rintro i ⟨k, rfl, hk, hf⟩
 simp only [Bool.or_eq_false_iff, decide_eq_false_iff_not] at h2
 refine ⟨fun hb => ?_, fun hb => ?_⟩
 ·have hlt := dlt hb
  refine ⟨fun b => b = (decide (0 < k) && decide (ordA (g.fArrows.getD (k - 1) default) (g.fArrows.getD k default) ≥ 0)), ⟨fun hc => ?_, fun hc => ?_⟩, ?_⟩
  ·have hc : (k : Int) > 0 := of_decide_eq_true hc
   have hw : wr ((k : Int) - 1) = ((k - 1 : Nat) : Int) := by rw [wr_in (by omega) (by omega)]; omega
   refine ⟨_, by rw [hw]; exact idx_getS default (by omega), _, idx_getS default hlt, ?_⟩
   show decide _ = (_ && _)
   rw [decide_eq_true (show 0 < k by omega), Bool.true_and]
  ·have hc := of_decide_eq_false hc
   show false = (_ && _)
   rw [decide_eq_false (show ¬ 0 < k by omega)]
   rfl
  ·rintro b rfl
   refine ⟨fun hc => ?_, fun hc => ⟨⟨k + 1, wsucc (by omega), hlt, fun j hj => ?_⟩, mu_up hlt (by omega)⟩⟩
   ·have : samLate g = true := by
     unfold samLate
     exact List.any_eq_true.2 ⟨k, List.mem_range.2 hlt, hc⟩
    rw [if_pos this]
   ·by_cases e : j = k
    ·rw [e]; exact hc
    ·exact hf j (by omega)
 ·have : samLate g = false := by
   unfold samLate
   rw [List.any_eq_false]
   intro j hj
   rw [hf j (by have := List.mem_range.1 hj; have := dge hb; omega)]
   decide
  rw [this]
  rfl
def ansOne (q : Int) (x : ApiArrow) (ok : Int × Int → Bool) (y : ApiArrow) : Bool := (y.fFrom == q) && ((y.fLetter == x.fLetter) && ok (x.fTo, y.fTo))
def ansB (g : ApiGraph) (p q : Int) (ok : Int × Int → Bool) : Bool := g.fArrows.all fun x => !(x.fFrom == p && !(g.fArrows.any (ansOne q x ok)))
def alikeC (c : List Int) (y : Int × Int) : Bool := c.getD y.1.toNat 0 == c.getD y.2.toNat 0
def r2B (cl : List Int) (p : Int) (g : ApiGraph) (al : Int × Int → Bool) (q : Int) : Bool := (cl.getD p.toNat 0 == cl.getD q.toNat 0) && (ansB g p q al && ansB g q p al)
theorem alikeC_iff {c : List Int} {y : Int × Int} : alikeC c y = true ↔ c.getD y.1.toNat 0 = c.getD y.2.toNat 0 := beq_iff_eq
theorem ansB_iff {g : ApiGraph} {p q : Int} {ok : Int × Int → Bool} : ansB g p q ok = true ↔ ∀ x ∈ g.fArrows, x.fFrom = p → ∃ y ∈ g.fArrows, y.fFrom = q ∧ y.fLetter = x.fLetter ∧ ok (x.fTo, y.fTo) = true := by
 unfold ansB
 rw [List.all_eq_true]
 refine ⟨fun h x hx hp => ?_, fun h x hx => ?_⟩
 ·have := h x hx
  rw [show (x.fFrom == p) = true from beq_iff_eq.2 hp, Bool.true_and, Bool.not_not] at this
  obtain ⟨y, hy, h2⟩ := List.any_eq_true.1 this
  unfold ansOne at h2
  rw [Bool.and_eq_true, Bool.and_eq_true, beq_iff_eq, beq_iff_eq] at h2
  exact ⟨y, hy, h2⟩
 ·by_cases hp : x.fFrom = p
  ·obtain ⟨y, hy, h2⟩ := h x hx hp
   have : g.fArrows.any (ansOne q x ok) = true := List.any_eq_true.2 ⟨y, hy, by unfold ansOne; rw [Bool.and_eq_true, Bool.and_eq_true, beq_iff_eq, beq_iff_eq]; exact h2⟩
   rw [this]
   simp
  ·rw [show (x.fFrom == p) = false from beq_eq_false_iff_ne.2 hp]
   rfl
def StepS (g : ApiGraph) (cl : List Int) (p q : Nat) : Prop := r2B cl (p : Int) g (alikeC cl) (q : Int) = true
theorem StepS.iff {g : ApiGraph} {cl : List Int} {p q : Nat} : StepS g cl p q ↔ cl.getD p 0 = cl.getD q 0 ∧ ansB g p q (alikeC cl) = true ∧ ansB g q p (alikeC cl) = true := by
 unfold StepS r2B
 rw [Bool.and_eq_true, Bool.and_eq_true, beq_iff_eq]
 rfl
theorem ans_refl {g : ApiGraph} {cl : List Int} (p : Int) : ansB g p p (alikeC cl) = true := ansB_iff.2 fun x hx e => ⟨x, hx, e, rfl, alikeC_iff.2 rfl⟩
theorem ans_trans {g : ApiGraph} {cl : List Int} {p q r : Int} (h1 : ansB g p q (alikeC cl) = true) (h2 : ansB g q r (alikeC cl) = true) : ansB g p r (alikeC cl) = true := ansB_iff.2 fun x hx e => by
 obtain ⟨y, hy, e1, e2, e3⟩ := ansB_iff.1 h1 x hx e
 obtain ⟨z, hz, e4, e5, e6⟩ := ansB_iff.1 h2 y hy e1
 exact ⟨z, hz, e4, e5.trans e2, alikeC_iff.2 ((alikeC_iff.1 e3).trans (alikeC_iff.1 e6))⟩
theorem StepS.refl {g : ApiGraph} {cl : List Int} (p : Nat) : StepS g cl p p := StepS.iff.2 ⟨rfl, ans_refl _, ans_refl _⟩
theorem StepS.symm {g : ApiGraph} {cl : List Int} {p q : Nat} (h : StepS g cl p q) : StepS g cl q p := by
 obtain ⟨h1, h2, h3⟩ := StepS.iff.1 h
 exact StepS.iff.2 ⟨h1.symm, h3, h2⟩
theorem StepS.trans {g : ApiGraph} {cl : List Int} {p q r : Nat} (h : StepS g cl p q) (h' : StepS g cl q r) : StepS g cl p r := by
 obtain ⟨h1, h2, h3⟩ := StepS.iff.1 h
 obtain ⟨k1, k2, k3⟩ := StepS.iff.1 h'
 exact StepS.iff.2 ⟨h1.trans k1, ans_trans h2 k2, ans_trans k3 h3⟩
structure StableC (g : ApiGraph) (cl : List Int) : Prop where
 len : cl.length = g.fPlaces.toNat
 same : ∀ p q, p < g.fPlaces.toNat → q < g.fPlaces.toNat → cl.getD p 0 = cl.getD q 0 → StepS g cl p q
end Go.Proofs.Ytiejmeedkhkfgaa


namespace Go.Proofs.Ytiejmeedkhkfgaa
open Go.RowKit Go.MapKept
set_option linter.unusedSimpArgs false
set_option linter.unusedVariables false
set_option maxRecDepth 100000
section
variable {c : Cfg} {S S1 : St} {a : Act} {w : World} {g : Gh} {hs : Nat → Value} {tab : Tab} {n : Nat} {o : Oper} {ops : Array Oper} {rest L0 : List Oper} {N : Po}
end
end Go.Proofs.Ytiejmeedkhkfgaa


namespace Go.Proofs.Ytiejmeedkhkfgaa
open Go.RowKit Go.MapKept
set_option linter.unusedSimpArgs false
set_option linter.unusedVariables false
set_option maxRecDepth 100000
theorem letsOut_any {c : Cfg} {N Z : Po} (h : LetsOut (OnlyP c N)) : LetsOut (OnlyP c Z) := by
 obtain ⟨a, w, h⟩ := h
 exact h.elim
theorem wp_anyN {c : Cfg} {o : Oper} {a : Act} {w : World} {K N Z : Po} (hh : o.wp Try.prog a w K (OnlyP c N)) : o.wp Try.prog a w K (OnlyP c Z) := by
 unfold Oper.wp at *
 generalize (execOp a.eval o).run Try.prog w = r at *
 cases r with
 | ok n w' =>
  cases n <;> simp only [Oper.upon] at hh ⊢ <;>
   first
    | exact hh
    | exact Calls.mono hh (fun e w'' he => by cases e <;> first | exact he | exact letsOut_any he)
 | halt x w' => cases x <;> simp only [Oper.upon] at hh ⊢ <;> exact hh
section
variable {c : Cfg} {l : List Oper} {N : Po} {S : St} {fuel : Nat} {listed : Array Bool}
def RD (c : Cfg) (l : List Oper) (N : Po) (fuel : Nat) (listed : Array Bool) (S : St) : Prop := ∀ a w, Ok c S a w → wpAny Try.prog .any l.toArray (OnlyP c N) fuel listed a w
theorem RD.nil (hr : Region.ready .any l.toArray listed = []) (h : En c S N) : RD c l N 0 listed S := fun a w hk => ⟨hr, h a w hk⟩
def RDs (c : Cfg) (l : List Oper) (N : Po) (fuel : Nat) (listed : Array Bool) (S : St) : List Nat → Prop
 | [] => True
 | i :: r => (∃ (o : Oper) (S' : St) (L' : Array Bool), l[i]? = some o ∧ WL c l.toArray [o] S (fun a w => Ok c S' a w) ∧ listed.setIfInBounds i true = L' ∧ RD c l N fuel L' S') ∧ RDs c l N fuel listed S r
theorem RDs.get : ∀ {is : List Nat}, RDs c l N fuel listed S is → ∀ i ∈ is, ∃ (o : Oper) (S' : St), l[i]? = some o ∧ WL c l.toArray [o] S (fun a w => Ok c S' a w) ∧ RD c l N fuel (listed.setIfInBounds i true) S'
 | j :: r, h, i, hi => by
  rcases List.mem_cons.1 hi with e | hi
  ·subst e
   obtain ⟨o, S', L', h1, h2, h3, h4⟩ := h.1
   subst h3
   exact ⟨o, S', h1, h2, h4⟩
  ·exact RDs.get h.2 i hi
theorem RD.succ (is : List Nat) (hr : Region.ready .any l.toArray listed = is) (hne : is.isEmpty = false) (h : RDs c l N fuel listed S is) : RD c l N (fuel + 1) listed S := fun a w hk => by
 refine ⟨fun e => ?_, fun i hi => ?_⟩
 ·rw [hr] at e
  subst e
  cases hne
 ·rw [hr] at hi
  obtain ⟨o, S', ho, hw, hd⟩ := RDs.get h i hi
  have hw := hw a w hk
  have ho' : l.toArray[i]? = some o := by simpa using ho
  unfold wpOp
  rw [ho']
  simp only
  unfold wpList at hw
  split
  ·rename_i hwant
   rw [if_pos hwant] at hw
   rcases hw with hw | hw
   ·exact .inl (wp_anyN (Oper.wp_mono (fun a' w' h' => hd a' w' h') hw))
   ·exact .inr ⟨hw.1, letsOut_any hw.2⟩
  ·rename_i hwant
   rw [if_neg hwant] at hw
   exact hd _ _ hw
theorem RD.have {N : Po} {f : Nat} {L : Array Bool} (f' : Nat) (L' : Array Bool) (S' : St) (h1 : RD c l N f' L' S') (h2 : RD c l N f' L' S' → RD c l N f L S) : RD c l N f L S := h2 h1
theorem RD.start {f : Nat} {L : Array Bool} {S' : St} (h : RD c l N f L S') (hf : f = l.length) (hL : L = Array.replicate l.length false) (hs : ∀ a w, Ok c S a w → Ok c S' a w) : RD c l N l.length (Array.replicate l.length false) S := by
 subst hf
 subst hL
 exact fun a w hk => h a w (hs a w hk)
end
section
variable {c : Cfg} {S : St}
theorem pe_of {i ty : Nat} {cells : List At} {k : Nat} (hm : S.M[i]? = some (.box cells ty true)) (hrefs : cells.flatMap At.refs = []) (hk : cells.length = k) : ∀ a w g hs, Ok' c S a w g hs → ∀ u, SC.ok g hs (.sv (.one (.ptr i 0))) u → SC.ok g hs (.sv (.one (.pe (svR (.agg cells)) k))) u := fun a w g hs h u hu => by
 obtain ⟨⟨b, h1, rfl⟩, _⟩ := hu
 obtain ⟨b', cs, h2, h3, h4, h5⟩ := h.items i _ hm
 rw [h1] at h2
 simp at h2
 subst h2
 have hg := h5 rfl
 refine ⟨⟨b, 0, .agg cs.toArray, rfl, ⟨cs, rfl, oks_hs (fun i hi => by rw [hrefs] at hi; cases hi) h3⟩, ?_, fun j c hj => ?_⟩, trivial⟩
 ·have := oks_length h3
  simp [Value.cells, ← this, hk]
 ·unfold Gh.cell
  rw [hg]
  simpa [Value.cells] using hj
end
end Go.Proofs.Ytiejmeedkhkfgaa


namespace Go.Proofs.Ytiejmeedkhkfgaa
open Go.RowKit Go.MapKept
set_option linter.unusedSimpArgs false
set_option linter.unusedVariables false
set_option maxRecDepth 100000
section
variable {c : Cfg} {S : St} {o : Oper}
theorem mt_lendFI {p : Nat} {it : Item} (l : List Nat) {M' : List Item} (hm : fzSets S.M l = some M') (hp : plainI it) (h : MT c ⟨S.F, M'⟩ o (.sv (.one (.own p))) [] (some (p, it))) : MT c S o (.sv (.one (.own p))) [] (some (p, it)) := fun a w g hs hk N Z hN => by
 obtain ⟨g2, hk2⟩ := freezes (F := S.F) hm hk
 refine h a w g2 hs hk2 N Z fun v w' g' h' h1 h2 h3 => hN v w' g h' (h1.back hk.base.pers) ⟨h2.1, h2.2⟩ ⟨hp _ _ _ _ _ _ h3.1, fun b hb => ?_⟩
 obtain ⟨m1, m2, m3⟩ := h3.2 b hb
 refine ⟨m1, fun _ => ?_, m3⟩
 rcases m3 with m3 | ⟨k, hk, _⟩
 ·cases hg : g b with
  | none => rfl
  | some o => have := hk.base.pers.lt hg; omega
 ·simp at hk
end
end Go.Proofs.Ytiejmeedkhkfgaa

