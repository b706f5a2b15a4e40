/- The walk of package muller: what an automaton accepts. No condition. -/
import Derived.Test.YtfpdnigihjmohaaMullerB
import Derived.IntWalk
namespace Go.Proofs.Ytfpdnigihjmohaa
open Go.RowKit
set_option linter.unusedSimpArgs false
set_option linter.unusedVariables false
set_option maxRecDepth 100000
attribute [local irreducible] wpList

/-- states that a row of letters leads to, as bits; and the last one -/
def visitS (N : List (List Int)) (x : Nat × Nat) (a : Int) : Nat × Nat := (x.1 ||| 2 ^ nextS N x.2 a, nextS N x.2 a)
def roundS (N : List (List Int)) (l : List Int) (x : Nat × Nat) : Nat × Nat := l.foldl (visitS N) x
/-- round and round till the first state comes again -/
def runS (N : List (List Int)) (l : List Int) (first : Nat) : Nat → Nat × Nat → Nat
  | 0, x => x.1
  | f + 1, x => if (roundS N l x).2 = first then (roundS N l x).1 else runS N l first f (roundS N l x)
def timesS (N : List (List Int)) (l : List Int) : Nat → Nat → Nat
  | 0, q => q
  | k + 1, q => afterS N (timesS N l k q) l
/-- the states that come again and again -/
def againS (N : List (List Int)) (q : Nat) (h l : List Int) : Nat := runS N l (timesS N l N.length (afterS N q h)) N.length (0, timesS N l N.length (afterS N q h))
theorem round_snd (N : List (List Int)) : ∀ (l : List Int) (x : Nat × Nat), (roundS N l x).2 = afterS N x.2 l
  | [], x => rfl
  | a :: l, x => round_snd N l (visitS N x a)
theorem or_lt16 {a b : Nat} (ha : a < 16) (hb : b < 16) : a ||| b < 16 := Nat.or_lt_two_pow (n := 4) ha hb
theorem pow_lt16 {q : Nat} (h : q < 4) : 2 ^ q < 16 := Nat.pow_lt_pow_right (n := 4) (by decide) h
theorem or_bits {s t : Nat} (hs : s < 16) (ht : t < 16) : bits .or .i64 (s : Int) (t : Int) = ((s ||| t : Nat) : Int) := by
  have h := or_lt16 hs ht
  have e : (BitVec.ofInt 64 (s : Int) ||| BitVec.ofInt 64 (t : Int)).toNat = s ||| t := by
    rw [BitVec.toNat_or, BitVec.ofInt_natCast, BitVec.ofInt_natCast, BitVec.toNat_ofNat, BitVec.toNat_ofNat, Nat.mod_eq_of_lt (by omega), Nat.mod_eq_of_lt (by omega)]
  change IntKind.i64.wrap ((BitVec.ofInt 64 (s : Int) ||| BitVec.ofInt 64 (t : Int)).toNat : Int) = _
  rw [e]
  exact IntWalk.i64_in _ (by omega)

theorem times_lt {N : List (List Int)} {k : Int} (hN : OkN N k) {l : List Int} (hl : ∀ a ∈ l, 0 ≤ a ∧ a < k) {q : Nat} (hq : q < N.length) : ∀ i, timesS N l i q < N.length
  | 0 => hq
  | i + 1 => after_lt hN _ _ (times_lt hN hl hq i) hl
theorem times_add (N : List (List Int)) (l : List Int) (q : Nat) (i : Nat) : ∀ j, timesS N l (i + j) q = timesS N l j (timesS N l i q)
  | 0 => rfl
  | j + 1 => by rw [← Nat.add_assoc, timesS, times_add N l q i j]; rfl
/-- among n + 1 numbers below n two are alike -/
theorem pigeon : ∀ (n : Nat) (f : Nat → Nat), (∀ i, i ≤ n → f i < n) → ∃ i j, i < j ∧ j ≤ n ∧ f i = f j
  | 0, f, h => absurd (h 0 (Nat.le_refl _)) (Nat.not_lt_zero _)
  | n + 1, f, h => by
    by_cases hx : ∃ i, i < n + 1 ∧ f i = f (n + 1)
    · obtain ⟨i, hi, e⟩ := hx
      exact ⟨i, n + 1, hi, Nat.le_refl _, e⟩
    · -- move the last value out of the way
      have h' : ∀ i, i ≤ n → (fun i => if f i = n then f (n + 1) else f i) i < n := fun i hi => by
        have h1 := h i (by omega)
        have h2 := h (n + 1) (Nat.le_refl _)
        have h3 : f i ≠ f (n + 1) := fun e => hx ⟨i, by omega, e⟩
        show (if f i = n then f (n + 1) else f i) < n
        split <;> omega
      obtain ⟨i, j, hij, hj, e⟩ := pigeon n _ h'
      refine ⟨i, j, hij, by omega, ?_⟩
      have h3 : f i ≠ f (n + 1) := fun e => hx ⟨i, by omega, e⟩
      have h4 : f j ≠ f (n + 1) := fun e => hx ⟨j, by omega, e⟩
      replace e : (if f i = n then f (n + 1) else f i) = (if f j = n then f (n + 1) else f j) := e
      split at e <;> split at e <;> omega
theorem times_back {N : List (List Int)} {k : Int} (hN : OkN N k) {l : List Int} (hl : ∀ a ∈ l, 0 ≤ a ∧ a < k) {q : Nat} (hq : q < N.length) :
    ∃ j, 1 ≤ j ∧ j ≤ N.length ∧ timesS N l j (timesS N l N.length q) = timesS N l N.length q := by
  obtain ⟨i, j, hij, hj, e⟩ := pigeon N.length (fun i => timesS N l i q) (fun i _ => times_lt hN hl hq i)
  replace e : timesS N l i q = timesS N l j q := e
  refine ⟨j - i, by omega, by omega, ?_⟩
  rw [← times_add, show N.length + (j - i) = j + (N.length - i) from by omega, times_add, ← e, ← times_add, show i + (N.length - i) = N.length from by omega]

/-- the answer -/
def acceptsS (k q : Int) (N : List (List Int)) (G h l : List Int) : Bool × Int :=
  if mullerS k q N G ≠ 0 then (false, mullerS k q N G) else if lassoOf k h l ≠ 0 then (false, lassoOf k h l) else (G.any (fun y => (againS N q.toNat h l : Int) == y), 0)
set_option maxHeartbeats 2000000 in
theorem accepts_ok (v1 v2 v3 v4 : Value) (k : Int) (q : Nat) (N : List (List Int)) (G h l : List Int) (w : World) (h1 : Rows2 w v1 N) (h2 : Ints w v2 G) (h3 : Ints w v3 h) (h4 : Ints w v4 l)
    (hc : mullerS k q N G = 0) (hl : lassoOf k h l = 0) (hN : OkN N k) (hq : q < N.length) (hn : N.length ≤ 4) (hh : ∀ a ∈ h, 0 ≤ a ∧ a < k) (hll : ∀ a ∈ l, 0 ≤ a ∧ a < k) :
    Calls Try.prog 20 #[.agg #[.int .i64 k, .int .i64 q, v1, v2], .agg #[v3, v4]] w fun e w' => e = .returned (.tuple #[.bool (G.any (fun y => (againS N q h l : Int) == y)), .int .i64 0]) ∧ Below w.heap.size w w' := by
  obtain ⟨ao1, n1, cap1, rfl, H1, L1, hc1, hm1⟩ := h1.shape
  obtain ⟨ao2, n2, cap2, rfl, H2, L2, hc2, hm2⟩ := h2.shape
  obtain ⟨ao3, n3, cap3, rfl, H3, L3, hc3, hm3⟩ := h3.shape
  obtain ⟨ao4, n4, cap4, rfl, H4, L4, hc4, hm4⟩ := h4.shape
  have C1 := Lib.hid (fun W (hW : Below w.heap.size w W) => mullerCheck_any _ _ k q N G W (h1.up hW) (h2.up hW) (by omega) (by omega))
  have C2 := Lib.hid (fun W (hW : Below w.heap.size w W) => lasso_any k _ _ h l W (h3.up hW) (h4.up hW))
  rw [hc] at C1
  rw [hl] at C2
  have C3 : Hid (∀ W (hW : Below w.heap.size w W) (p : Nat), p < n1 → Calls Try.prog 50 #[.agg #[.int .i64 k, .int .i64 0, .slice ao1 n1 cap1, .slice none 0 0], .int .i64 p, .slice ao3 n3 cap3] W fun e w' => e = .returned (.int .i64 (afterS N p h)) ∧ Below W.heap.size W w') := fun W hW p hp =>
    after_any _ _ _ _ _ N k p h W rfl rfl rfl (h1.up hW) (h3.up hW) hN (by rw [← L1.out]; exact hp) hh (by omega)
  have C4 : Hid (∀ W (hW : Below w.heap.size w W) (p : Nat), p < n1 → Calls Try.prog 50 #[.agg #[.int .i64 k, .int .i64 0, .slice ao1 n1 cap1, .slice none 0 0], .int .i64 p, .slice ao4 n4 cap4] W fun e w' => e = .returned (.int .i64 (afterS N p l)) ∧ Below W.heap.size W w') := fun W hW p hp =>
    after_any _ _ _ _ _ N k p l W rfl rfl rfl (h1.up hW) (h4.up hW) hN (by rw [← L1.out]; exact hp) hll (by omega)
  clear hc hl h1 h2 h3 h4
  go_enter Try.func20, Try.ntmps20
  go_wp2_with fail
  refine (C1.out _ (by (repeat' (first | exact Below.refl _ _ | assumption | (refine Below.alloc ?_ ?_ _) | (refine Below.drew ?_) | (refine Below.setCell ?_ ?_ _) | (refine Below.trans ?_ (Below.mono (by assumption) ?_)) | omega | (simp; done) | (simp; omega))))).mono ?_
  rintro e w1 ⟨rfl, hb1⟩
  have hw1 : Below w.heap.size w w1 := Below.trans (by (repeat' (first | exact Below.refl _ _ | assumption | (refine Below.alloc ?_ ?_ _) | (refine Below.drew ?_) | (refine Below.setCell ?_ ?_ _) | (refine Below.trans ?_ (Below.mono (by assumption) ?_)) | omega | (simp; done) | (simp; omega)))) (hb1.mono (by simp; omega))
  have hs1 : w.heap.size + 1 < w1.heap.size := by have := hb1.size; simp at this; omega
  have ht1 : w.heap.size < w1.heap.size := by omega
  obtain ⟨d0, d1⟩ := bcell hb1
  go_wp2_with fail
  refine (C2.out _ hw1).mono ?_
  rintro e w2 ⟨rfl, hb2⟩
  have hw2 : Below w.heap.size w w2 := hw1.trans (hb2.mono hw1.size)
  have hs2 : w.heap.size + 1 < w2.heap.size := Nat.lt_of_lt_of_le hs1 hb2.size
  have ht2 : w.heap.size < w2.heap.size := by omega
  obtain ⟨e0, e1⟩ := bcell hb2
  have c0 : w2.cell? ⟨w.heap.size, 0, none⟩ = some (.int .i64 k) := by go_simp
  have c1 : w2.cell? ⟨w.heap.size, 1, none⟩ = some (.int .i64 q) := by go_simp
  have c2 : w2.cell? ⟨w.heap.size, 2, none⟩ = some (.slice ao1 n1 cap1) := by go_simp
  have c3 : w2.cell? ⟨w.heap.size, 3, none⟩ = some (.slice ao2 n2 cap2) := by go_simp
  have c4 : w2.cell? ⟨w.heap.size + 1, 0, none⟩ = some (.slice ao3 n3 cap3) := by go_simp
  have c5 : w2.cell? ⟨w.heap.size + 1, 1, none⟩ = some (.slice ao4 n4 cap4) := by go_simp
  clear d0 d1 e0 e1 hb1 hb2 hw1 hs1 ht1
  go_wp2_with fail
  refine (C3.out _ (by (repeat' (first | exact Below.refl _ _ | assumption | (refine Below.alloc ?_ ?_ _) | (refine Below.drew ?_) | (refine Below.setCell ?_ ?_ _) | (refine Below.trans ?_ (Below.mono (by assumption) ?_)) | omega | (simp; done) | (simp; omega)))) q (by rw [L1.out]; exact hq)).mono ?_
  rintro e w3 ⟨rfl, hb3⟩
  have hw3 : Below w.heap.size w w3 := Below.trans (by (repeat' (first | exact Below.refl _ _ | assumption | (refine Below.alloc ?_ ?_ _) | (refine Below.drew ?_) | (refine Below.setCell ?_ ?_ _) | (refine Below.trans ?_ (Below.mono (by assumption) ?_)) | omega | (simp; done) | (simp; omega)))) (hb3.mono (by simp; omega))
  have hs3 : w2.heap.size < w3.heap.size := by have := hb3.size; simp at this; omega
  have ht3 : w.heap.size + 1 < w3.heap.size := by omega
  have hu3 : w.heap.size < w3.heap.size := by omega
  obtain ⟨e0, e1⟩ := bcell hb3
  have f0 : w3.cell? ⟨w.heap.size, 0, none⟩ = some (.int .i64 k) := by go_simp
  have f1 : w3.cell? ⟨w.heap.size, 1, none⟩ = some (.int .i64 q) := by go_simp
  have f2 : w3.cell? ⟨w.heap.size, 2, none⟩ = some (.slice ao1 n1 cap1) := by go_simp
  have f3 : w3.cell? ⟨w.heap.size, 3, none⟩ = some (.slice ao2 n2 cap2) := by go_simp
  have f4 : w3.cell? ⟨w.heap.size + 1, 0, none⟩ = some (.slice ao3 n3 cap3) := by go_simp
  have f5 : w3.cell? ⟨w.heap.size + 1, 1, none⟩ = some (.slice ao4 n4 cap4) := by go_simp
  have g0 : w3.cell? ⟨w2.heap.size, 0, none⟩ = some (.int .i64 k) := by go_simp
  have g1 : w3.cell? ⟨w2.heap.size, 1, none⟩ = some (.int .i64 0) := by go_simp
  have g2 : w3.cell? ⟨w2.heap.size, 2, none⟩ = some (.slice ao1 n1 cap1) := by go_simp
  have g3 : w3.cell? ⟨w2.heap.size, 3, none⟩ = some (.slice none 0 0) := by go_simp
  clear c0 c1 c2 c3 c4 c5 e0 e1 hb3 C1 C2 C3
  go_wp2
  go_loopw [9, 40] (fun v9 v40 wr => ∃ i p : Nat, i ≤ n1 ∧ v40 = .int .i64 i ∧ v9 = .int .i64 p ∧ p < n1 ∧ timesS N l i (afterS N q h) = p ∧ Below w3.heap.size w3 wr) (fun _ v40 _ => n1 - (intOf v40).toNat)
  case atStart => exact ⟨0, afterS N q h, Nat.zero_le _, rfl, rfl, by rw [L1.out]; exact after_lt hN _ _ hq hh, rfl, Below.refl _ _⟩
  case round =>
    obtain ⟨i, p, hi, rfl, rfl, hp, ht, hb⟩ := hrel
    replace ht := Lib.hid ht
    have hbw := hw3.trans (hb.mono hw3.size)
    obtain ⟨e0, e1⟩ := bcell hb
    have hsr := hb.size
    have hsr2 : w2.heap.size < wr.heap.size := by omega
    by_cases hlt : i < n1
    · go_wp2_with fail
      refine (C4.out _ hbw p hp).mono ?_
      rintro e w4 ⟨rfl, hb4⟩
      go_wp2
      go_roundw
      case rel => exact ⟨i + 1, afterS N p l, by omega, by go_num, rfl, by rw [L1.out]; exact after_lt hN _ _ (by rw [← L1.out]; exact hp) hll, by rw [timesS, ht.out], hb.trans (hb4.mono hb.size)⟩
      case measure => simp [intOf]; omega
    · have e : i = n1 := by omega
      subst e
      obtain ⟨wo, rfl⟩ : ∃ wo : World, wo = wr := ⟨_, rfl⟩
      have hto : w2.heap.size < wo.heap.size := hsr2
      have hto1 : w.heap.size + 1 < wo.heap.size := by omega
      have hto2 : w.heap.size < wo.heap.size := by omega
      have f2 : wo.cell? ⟨w.heap.size, 2, none⟩ = some (.slice ao1 i cap1) := cell_up f2 hb
      have f3 : wo.cell? ⟨w.heap.size, 3, none⟩ = some (.slice ao2 n2 cap2) := cell_up f3 hb
      have f5 : wo.cell? ⟨w.heap.size + 1, 1, none⟩ = some (.slice ao4 n4 cap4) := cell_up f5 hb
      have H1 := H1.up hbw
      have H4 := H4.up hbw
      have H2 := H2.up hbw
      clear e0 e1 g0 g1 g2 g3 f0 f1 f4 C4
      have hA : Hid (againS N q h l = runS N l p i (0, p)) := by
        unfold againS
        rw [← L1.out, ht.out]
        exact Lib.hid rfl
      have hper := Lib.hid (times_back hN hll (q := afterS N q h) (after_lt hN _ _ hq hh))
      have hpl : p < N.length := by rw [← L1.out]; exact hp
      have hi4 : i ≤ 4 := by rw [L1.out]; exact hn
      replace L1 := Lib.hid L1.out
      go_wp2
      obtain ⟨J, hJ⟩ : ∃ j, 1 ≤ j ∧ j ≤ i ∧ timesS N l j p = p := by
        have := hper.out
        rw [← L1.out, ht.out] at this
        exact this
      replace hJ := Lib.hid hJ
      clear hper ht
      go_loopg [9, 10] i (fun gg v9 v10 wr => ∃ (x : Nat × Nat) (f j : Nat), v9 = .int .i64 x.2 ∧ v10 = .int .i64 x.1 ∧ x.1 < 16 ∧ x.2 < i ∧ f ≤ gg ∧ Hid (1 ≤ j ∧ j ≤ f ∧ timesS N l j x.2 = p ∧ runS N l p f x = againS N q h l) ∧ wr = wo)
      case atStart => exact ⟨(0, p), i, J, rfl, rfl, (show 0 < 16 by omega), hp, Nat.le_refl _, ⟨hJ.out.1, hJ.out.2.1, hJ.out.2.2, hA.out.symm⟩, rfl⟩
      case round =>
        obtain ⟨⟨s0, p0⟩, f, j, rfl, rfl, hs0, hp0, hfg, hr, rfl⟩ := hrel
        replace hr := Lib.hid hr.out
        have hend := Lib.hid (show l.take n4 = l by rw [L4.out, List.take_length])
        go_wp2
        go_loop [9, 10, 52] (fun v9 v10 v52 => ∃ (t : Nat) (y : Nat × Nat), t ≤ n4 ∧ v52 = .int .i64 t ∧ v9 = .int .i64 y.2 ∧ v10 = .int .i64 y.1 ∧ y.1 < 16 ∧ y.2 < i ∧ Hid ((l.take t).foldl (visitS N) (s0, p0) = y)) (fun _ _ v52 => n4 - (intOf v52).toNat)
        case atStart => exact ⟨0, (s0, p0), Nat.zero_le _, rfl, rfl, rfl, hs0, hp0, Lib.hid rfl⟩
        case round =>
          obtain ⟨t, ⟨s1, p1⟩, htn, rfl, rfl, rfl, hs1, hp1, hy⟩ := hrel
          replace hy := Lib.hid hy.out
          by_cases hlt : t < n4
          · obtain ⟨b3, o3, rfl, hc3, hb3, hw3, hw3'⟩ := H4.int hlt
            have hst := Lib.hid (take_next (w := l) (k := t) (by rw [← L4.out]; exact hlt) (visitS N) (s0, p0))
            have hmem : l.getD t 0 ∈ l := getD_mem (by rw [← L4.out]; exact hlt)
            obtain ⟨hz0, hzk⟩ := hll _ hmem
            have hp : Hid ((l.take (t + 1)).foldl (visitS N) (s0, p0) = visitS N (s1, p1) (l.getD t 0)) := by rw [hst.out, hy.out]; exact Lib.hid rfl
            clear hmem hst
            simp only at hs1 hp1
            generalize l.getD t 0 = z at *
            obtain ⟨hlen, hcell, hlt2⟩ := next_cell hN (q := p1) (by rw [← L1.out]; exact hp1) hz0 hzk
            obtain ⟨b1, o1, u, rfl, hc1, hb1, hu⟩ := H1.row (k := p1) hp1
            obtain ⟨ao4, n4, cap4, rfl, H4, L4, hc4, hm4⟩ := hu.shape
            obtain ⟨b4, o4, rfl, hc4, hb4, hw4, hw4'⟩ := H4.int (k := z.toNat) (by rw [L4.out]; exact hlen)
            have hn4 : z.toNat < n4 := by rw [L4.out]; exact hlen
            rw [hcell] at hc4
            obtain ⟨z, rfl⟩ := Int.eq_ofNat_of_zero_le hz0
            simp only [Int.toNat_natCast] at hc4 hn4
            unfold visitS at hp
            simp only at hp
            have hnx : nextS N p1 z < i := by rw [L1.out]; exact hlt2
            clear hu H4 hlen hcell hw4 hw4' hz0 hzk hw3 hw3' hlt2
            generalize nextS N p1 (z : Int) = p2 at *
            obtain ⟨q1, q2⟩ := pow_bound (n := p2) (by omega)
            have hor : bits .or .i64 (s1 : Int) (2 ^ p2) = ((s1 ||| 2 ^ p2 : Nat) : Int) := by
              have := or_bits hs1 (pow_lt16 (show p2 < 4 by omega))
              rwa [Int.natCast_pow] at this
            have ho16 := or_lt16 hs1 (pow_lt16 (show p2 < 4 by omega))
            go_wp2
            go_round
            case rel => exact ⟨t + 1, (s1 ||| 2 ^ p2, p2), by omega, by go_num, rfl, rfl, ho16, hnx, hp⟩
            case measure => simp [intOf]; omega
          · have e : t = n4 := by omega
            subst e
            have hrd : roundS N l (s0, p0) = (s1, p1) := by
              unfold roundS
              rw [← hy.out, hend.out]
            simp only at hs1 hp1
            have hp1' : p1 = afterS N p0 l := by
              have := round_snd N l (s0, p0)
              rw [hrd] at this
              exact this
            obtain ⟨r1, r2, r3, r4⟩ := hr.out
            obtain ⟨f, rfl⟩ : ∃ f', f = f' + 1 := ⟨f - 1, by omega⟩
            rw [runS, hrd] at r4
            simp only at r3 r4
            have C := Lib.hid (fun (x : Nat) => contains_ints _ G x wr H2)
            replace hy := Lib.hid hy.out
            by_cases hz : p1 = p
            · have hzb : ((p1 : Int) == (p : Int)) = true := by rw [hz]; simp
              rw [if_pos hz] at r4
              have r4 := Lib.hid r4
              clear r3 hp1' hrd
              go_wp2_with (go_at_call 51; (with_reducible refine (C.out _).mono ?_); rintro e w' ⟨rfl, rfl⟩)
              go_ret2
              exact ⟨by first | rfl | rw [r4.out], hbw⟩
            · have hzb : ((p1 : Int) == (p : Int)) = false := by simp; omega
              rw [if_neg hz] at r4
              have hj2 : j ≠ 1 := fun e => by
                subst e
                exact hz (hp1'.trans r3)
              obtain ⟨j, rfl⟩ : ∃ j', j = j' + 1 := ⟨j - 1, by omega⟩
              have r3' : timesS N l j p1 = p := by
                rw [hp1', ← r3, show j + 1 = 1 + j from by omega, times_add]
                rfl
              have hfin : Hid (1 ≤ j ∧ j ≤ f ∧ timesS N l j p1 = p ∧ runS N l p f (s1, p1) = againS N q h l) := ⟨by omega, by omega, r3', r4⟩
              clear r3 r4 r3' hp1' hrd hz
              go_wp2
              go_roundg f
              case rel => exact ⟨(s1, p1), f, j, rfl, rfl, hs1, hp1, Nat.le_refl _, hfin, rfl⟩
              case measure => omega
end Go.Proofs.Ytfpdnigihjmohaa
