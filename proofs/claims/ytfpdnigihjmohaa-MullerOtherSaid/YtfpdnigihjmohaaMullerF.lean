/- The walk of the law of muller: either by it, or by the other table. No condition. -/
import Derived.Test.YtfpdnigihjmohaaMullerE
namespace Go.Proofs.Ytfpdnigihjmohaa
open Go.RowKit
set_option linter.unusedSimpArgs false
set_option linter.unusedVariables false
set_option maxRecDepth 100000
attribute [local irreducible] wpList

set_option maxHeartbeats 4000000 in
theorem mullerOther_bad (v1 v2 v3 v4 : Value) (k q : Int) (N : List (List Int)) (G h l : List Int) (w : World) (h1 : Rows2 w v1 N) (h2 : Ints w v2 G) (h3 : Ints w v3 h) (h4 : Ints w v4 l) (hq0 : -9223372036854775808 ≤ q) (hq1 : q ≤ 9223372036854775807) (hc : codeS k q N G h l ≠ 0) :
    Calls Try.prog 5 #[.agg #[.int .i64 k, .int .i64 q, v1, v2], .agg #[v3, v4]] w fun e w' => e = .returned (.bool true) ∧ Below w.heap.size w w' := by
  obtain ⟨ao1, n1, cap1, rfl, H1, L1, hc1, hm1⟩ := h1.shape
  obtain ⟨ao2, n2, cap2, rfl, H2, L2, hc2, hm2⟩ := h2.shape
  obtain ⟨ao3, n3, cap3, rfl, H3, L3, hc3, hm3⟩ := h3.shape
  obtain ⟨ao4, n4, cap4, rfl, H4, L4, hc4, hm4⟩ := h4.shape
  have A := Lib.hid (fun W (hW : Below w.heap.size w W) => accepts_bad _ _ _ _ k q N G h l W (h1.up hW) (h2.up hW) (h3.up hW) (h4.up hW) hq0 hq1 hc)
  generalize codeS k q N G h l = c at *
  have hcb : (c != 0) = true := by simpa using hc
  replace hc := Lib.hid hc
  clear h1 h2 h3 h4 H1 H2 H3 H4
  go_enter Try.func5, Try.ntmps5
  go_wp2_with fail
  refine (accepts_sample _ _ (w.heap.size + 2) _ _ ?_ ?_ ?_ ?_).mono ?_
  · go_simp
  · go_simp
  · go_simp
  · go_simp
  rintro e w1 ⟨rfl, hb1⟩
  have hw1 : Below w.heap.size w w1 := Below.trans (by (repeat' (first | exact Below.refl _ _ | assumption | (refine Below.alloc ?_ ?_ _) | (refine Below.drew ?_) | (refine Below.setCell ?_ ?_ _) | (refine Below.trans ?_ (Below.mono (by assumption) ?_)) | omega | (simp; done) | (simp; omega)))) (hb1.mono (by simp; omega))
  have hs1 : w.heap.size + 1 < w1.heap.size := by have := hb1.size; simp at this; omega
  have ht1 : w.heap.size < w1.heap.size := by omega
  obtain ⟨d0, d1⟩ := bcell hb1
  have c0 : w1.cell? ⟨w.heap.size, 0, none⟩ = some (.int .i64 k) := by go_simp
  have c1 : w1.cell? ⟨w.heap.size, 1, none⟩ = some (.int .i64 q) := by go_simp
  have c2 : w1.cell? ⟨w.heap.size, 2, none⟩ = some (.slice ao1 n1 cap1) := by go_simp
  have c3 : w1.cell? ⟨w.heap.size, 3, none⟩ = some (.slice ao2 n2 cap2) := by go_simp
  have c4 : w1.cell? ⟨w.heap.size + 1, 0, none⟩ = some (.slice ao3 n3 cap3) := by go_simp
  have c5 : w1.cell? ⟨w.heap.size + 1, 1, none⟩ = some (.slice ao4 n4 cap4) := by go_simp
  clear d0 d1 hb1
  go_wp2_with fail
  refine (A.out _ hw1).mono ?_
  rintro e w2 ⟨rfl, hb2⟩
  go_wp2
  go_ret
  exact ⟨rfl, hw1.trans (hb2.mono hw1.size)⟩
/-- the complement so far -/
def Ahead (G : List Int) (j : Nat) (s : Int) : Prop := j ≤ G.length ∧ (∀ i, i < j → G.getD i 0 < s) ∧ ∀ i, j ≤ i → i < G.length → s ≤ G.getD i 0
theorem ahead_hit {G : List Int} {j : Nat} {s : Int} (hG : ∀ i, 0 < i → i < G.length → G.getD (i - 1) 0 < G.getD i 0) (h : Ahead G j s) (hj : j < G.length) (e : G.getD j 0 = s) : Ahead G (j + 1) (s + 1) ∧ (G.any fun y => s == y) = true := by
  obtain ⟨h1, h2, h3⟩ := h
  refine ⟨⟨hj, fun i hi => ?_, fun i hi hl => ?_⟩, List.any_eq_true.2 ⟨_, getD_mem (d := 0) hj, by simp [← e]⟩⟩
  · by_cases e2 : i = j
    · subst e2; omega
    · have := h2 i (by omega); omega
  · have := hG i (by omega) hl
    have := h3 (i - 1) (by omega) (by omega)
    by_cases e2 : i = j + 1
    · subst e2
      have e3 : j + 1 - 1 = j := by omega
      rw [e3] at *
      omega
    · have h5 := hG (i - 1) (by omega) (by omega)
      have h6 := h3 (i - 1 - 1) (by omega) (by omega)
      omega
theorem ahead_miss {G : List Int} {j : Nat} {s : Int} (hG : ∀ i, 0 < i → i < G.length → G.getD (i - 1) 0 < G.getD i 0) (h : Ahead G j s) (hn : ∀ hj : j < G.length, G.getD j 0 ≠ s) : Ahead G j (s + 1) ∧ (G.any fun y => s == y) = false := by
  obtain ⟨h1, h2, h3⟩ := h
  have key : ∀ i, j ≤ i → i < G.length → s < G.getD i 0 := by
    intro i
    induction i with
    | zero =>
      intro hi hl
      have e : j = 0 := by omega
      subst e
      have := h3 0 (by omega) hl
      have := hn hl
      omega
    | succ i ih =>
      intro hi hl
      by_cases e : j = i + 1
      · subst e
        have := h3 _ (Nat.le_refl _) hl
        have := hn hl
        omega
      · have := ih (by omega) (by omega)
        have := hG (i + 1) (by omega) hl
        simp only [Nat.add_sub_cancel] at this
        omega
  refine ⟨⟨h1, fun i hi => by have := h2 i hi; omega, fun i hi hl => by have := key i hi hl; omega⟩, ?_⟩
  rw [List.any_eq_false]
  intro y hy
  obtain ⟨i, hi, rfl⟩ := List.mem_iff_getElem.1 hy
  have e : G.getD i 0 = G[i] := by simp [hi]
  rcases Nat.lt_or_ge i j with hij | hij
  · have := h2 i hij
    simp
    omega
  · have := key i hij hi
    simp
    omega
theorem pow2_cast {n : Nat} : ((2 ^ n : Nat) : Int) = (2 : Int) ^ n := Int.natCast_pow 2 n
set_option maxHeartbeats 8000000 in
theorem mullerOther_ok (v1 v2 v3 v4 : Value) (k q : Int) (N : List (List Int)) (G h l : List Int) (w : World) (h1 : Rows2 w v1 N) (h2 : Ints w v2 G) (h3 : Ints w v3 h) (h4 : Ints w v4 l) (hc : codeS k q N G h l = 0) :
    Calls Try.prog 5 #[.agg #[.int .i64 k, .int .i64 q, v1, v2], .agg #[v3, v4]] w fun e w' => e = .returned (.bool true) ∧ Below w.heap.size w w' := by
  obtain ⟨ao1, n1, cap1, rfl, H1, L1, hc1, hm1⟩ := h1.shape
  obtain ⟨ao2, n2, cap2, rfl, H2, L2, hc2, hm2⟩ := h2.shape
  obtain ⟨ao3, n3, cap3, rfl, H3, L3, hc3, hm3⟩ := h3.shape
  obtain ⟨ao4, n4, cap4, rfl, H4, L4, hc4, hm4⟩ := h4.shape
  obtain ⟨e1, e2⟩ := code_ok hc
  obtain ⟨m1, m2, m3, m4, m5, m6⟩ := muller_in e1
  obtain ⟨l1, l2, l3⟩ := lasso_in e2
  have hS := again_in m1 (h := h) (l := l) l1 l2 l3 (q := q.toNat) (by omega)
  have A := Lib.hid (fun W (hW : Below w.heap.size w W) => accepts_good _ _ _ _ k q N G h l W (h1.up hW) (h2.up hW) (h3.up hW) (h4.up hW) hc)
  have B : Hid (∀ W v, Below w.heap.size w W → Ints W v (otherS G (2 ^ n1 - 1)) → Calls Try.prog 20 #[.agg #[.int .i64 k, .int .i64 q, .slice ao1 n1 cap1, v], .agg #[.slice ao3 n3 cap3, .slice ao4 n4 cap4]] W fun e w' => e = .returned (.tuple #[.bool (!(G.any fun y => (againS N q.toNat h l : Int) == y)), .int .i64 0]) ∧ Below W.heap.size W w') := fun W v hW hv => by
    have e3 : mullerS k q N (otherS G (2 ^ n1 - 1)) = 0 := muller_of e1 (fun s hs => by
      have h5 := (other_mem.1 hs).1
      have h6 : 0 < 2 ^ n1 := Nat.pow_pos (by decide)
      have h7 := pow2_cast (n := n1)
      rw [← L1.out]
      omega) (other_rise G _)
    have := accepts_good _ _ _ _ k q N (otherS G (2 ^ n1 - 1)) h l W (h1.up hW) hv (h3.up hW) (h4.up hW) (by unfold codeS; rw [if_neg (by simpa using e3)]; exact e2)
    rwa [other_any G _ _ hS.1 (by rw [L1.out]; omega)] at this
  have hG := Lib.hid m6
  have hGs : Ahead G 0 1 := ⟨Nat.zero_le _, fun i hi => by omega, fun i _ hl => (m5 _ (getD_mem hl)).1⟩
  have hn4 : n1 ≤ 4 := by rw [L1.out]; exact m4
  generalize (G.any fun y => (againS N q.toNat h l : Int) == y) = b at *
  clear hS e1 e2 m1 m2 m3 m4 m5 m6 l1 l2 l3 h1 h3 h4 H3 H4 hc
  obtain ⟨p1, p2⟩ := pow_bound hn4
  have p3 : ((2 ^ n1 : Nat) : Int) = 2 ^ n1 := pow2_cast
  have p4 : 0 < 2 ^ n1 := Nat.pow_pos (by decide)
  have p5 : 2 ^ n1 ≤ 16 := by omega
  obtain ⟨M, hM⟩ : ∃ M, M = 2 ^ n1 := ⟨_, rfl⟩
  rw [← hM] at p4 p5 B p3
  replace hM := Lib.hid hM
  replace p3 := Lib.hid p3
  replace hGs := Lib.hid hGs
  go_enter Try.func5, Try.ntmps5
  go_wp2_with fail
  refine (accepts_sample _ _ (w.heap.size + 2) _ _ ?_ ?_ ?_ ?_).mono ?_
  · go_simp
  · go_simp
  · go_simp
  · go_simp
  rintro e w1 ⟨rfl, hb1⟩
  have hw1 : Below w.heap.size w w1 := Below.trans (by (repeat' (first | exact Below.refl _ _ | assumption | (refine Below.alloc ?_ ?_ _) | (refine Below.drew ?_) | (refine Below.setCell ?_ ?_ _) | (refine Below.trans ?_ (Below.mono (by assumption) ?_)) | omega | (simp; done) | (simp; omega)))) (hb1.mono (by simp; omega))
  have hs1 : w.heap.size + 1 < w1.heap.size := by have := hb1.size; simp at this; omega
  have ht1 : w.heap.size < w1.heap.size := by omega
  obtain ⟨d0, d1⟩ := bcell hb1
  have c0 : w1.cell? ⟨w.heap.size, 0, none⟩ = some (.int .i64 k) := by go_simp
  have c1 : w1.cell? ⟨w.heap.size, 1, none⟩ = some (.int .i64 q) := by go_simp
  have c2 : w1.cell? ⟨w.heap.size, 2, none⟩ = some (.slice ao1 n1 cap1) := by go_simp
  have c3 : w1.cell? ⟨w.heap.size, 3, none⟩ = some (.slice ao2 n2 cap2) := by go_simp
  have c4 : w1.cell? ⟨w.heap.size + 1, 0, none⟩ = some (.slice ao3 n3 cap3) := by go_simp
  have c5 : w1.cell? ⟨w.heap.size + 1, 1, none⟩ = some (.slice ao4 n4 cap4) := by go_simp
  clear d0 d1 hb1
  go_wp2_with fail
  refine (A.out _ hw1).mono ?_
  rintro e w2 ⟨rfl, hb2⟩
  have hw2 := hw1.trans (hb2.mono hw1.size)
  have f0 := cell_up c0 hb2
  have f1 := cell_up c1 hb2
  have f2 := cell_up c2 hb2
  have f3 := cell_up c3 hb2
  have f4 := cell_up c4 hb2
  have f5 := cell_up c5 hb2
  clear c0 c1 c2 c3 c4 c5
  have hs2 : w.heap.size + 1 < w2.heap.size := Nat.lt_of_lt_of_le hs1 hb2.size
  have ht2 : w.heap.size < w2.heap.size := by omega
  clear hs1 ht1 hw1 hb2 A
  go_wp2
  obtain ⟨y0, hy0⟩ : ∃ y0, y0 = w2.alloc (.cells #[.int .i64 k, .int .i64 q, .slice ao1 n1 cap1, .slice none 0 0] 44) := ⟨_, rfl⟩
  rw [← hy0]
  have g0 : y0.cell? ⟨w2.heap.size, 0, none⟩ = some (.int .i64 k) := by rw [hy0]; go_simp
  have g1 : y0.cell? ⟨w2.heap.size, 1, none⟩ = some (.int .i64 q) := by rw [hy0]; go_simp
  have g2 : y0.cell? ⟨w2.heap.size, 2, none⟩ = some (.slice ao1 n1 cap1) := by rw [hy0]; go_simp
  have g3 : y0.cell? ⟨w2.heap.size, 3, none⟩ = some (.slice none 0 0) := by rw [hy0]; go_simp
  have gf : y0.frozen? ⟨w2.heap.size, 3, none⟩ = false := by rw [hy0]; go_simp
  have hyz : w2.heap.size < y0.heap.size := by rw [hy0]; simp
  have hyb : Below w2.heap.size w2 y0 := by rw [hy0]; (repeat' (first | exact Below.refl _ _ | assumption | (refine Below.alloc ?_ ?_ _) | (refine Below.drew ?_) | (refine Below.setCell ?_ ?_ _) | (refine Below.trans ?_ (Below.mono (by assumption) ?_)) | omega | (simp; done) | (simp; omega)))
  clear hy0
  have H2 := H2.up hw2
  go_loopw [10, 11] (fun v10 v11 wr => ∃ (j s : Nat) (v : Value), v10 = .int .i64 j ∧ v11 = .int .i64 s ∧ 1 ≤ s ∧ s ≤ M ∧ Hid (Ahead G j s) ∧ wr.cell? ⟨w2.heap.size, 0, none⟩ = some (.int .i64 k) ∧ wr.cell? ⟨w2.heap.size, 1, none⟩ = some (.int .i64 q) ∧ wr.cell? ⟨w2.heap.size, 2, none⟩ = some (.slice ao1 n1 cap1) ∧
    wr.cell? ⟨w2.heap.size, 3, none⟩ = some v ∧ wr.frozen? ⟨w2.heap.size, 3, none⟩ = false ∧ wr.ownsRow (w2.heap.size + 1) 3 1 v (otherS G (s - 1)).length (ints (otherS G (s - 1))) ∧ w2.heap.size < wr.heap.size ∧ Below w2.heap.size w2 wr) (fun _ v11 _ => M - (intOf v11).toNat)
  case atStart => exact ⟨0, 1, _, rfl, rfl, Nat.le_refl _, p4, hGs.out, g0, g1, g2, g3, gf, World.ownsRow_nil _ _ _ _, hyz, hyb⟩
  case round =>
    clear g0 g1 g2 g3 gf hyz hyb y0
    obtain ⟨j, s, v, rfl, rfl, hs1, hsM, hA, g0, g1, g2, g3, gf, hown, hz, hb⟩ := hrel
    replace hA := Lib.hid hA.out
    replace hown := Lib.hid hown
    have hj := hA.out.1
    have hbw := hw2.trans (hb.mono (by omega))
    have c2 := cell_up f2 hb
    have c3 := cell_up f3 hb
    have c4 := cell_up f4 hb
    have c5 := cell_up f5 hb
    have hr1 : w.heap.size + 1 < wr.heap.size := by omega
    have hr2 : w.heap.size < wr.heap.size := by omega
    have hsuc := Lib.hid (other_succ G (s - 1))
    rw [show ((s - 1 : Nat) : Int) + 1 = (s : Int) from by omega, show s - 1 + 1 = s from by omega] at hsuc
    by_cases hlt : s < M
    · have ht1 : ((s : Int) < 2 ^ n1) := by rw [← p3.out]; exact Int.ofNat_lt.2 hlt
      by_cases hjn : j < n2
      · obtain ⟨b5, o5, rfl, hck, hb5, hw5, hw5'⟩ := (H2.up hb).int hjn
        by_cases hz2 : G.getD j 0 = s
        · obtain ⟨ha1, ha2⟩ := ahead_hit hG.out hA.out (by rw [← L2.out]; exact hjn) hz2
          have hs2 := hsuc.out
          rw [if_pos ha2] at hs2
          rw [hz2] at hck
          go_wp2
          go_roundw
          case rel => exact ⟨j + 1, s + 1, v, by go_num, by go_num, by omega, by omega, by rw [Int.natCast_succ]; exact Lib.hid ha1, g0, g1, g2, g3, gf, by rw [Nat.add_sub_cancel, hs2]; exact hown.out, hz, hb⟩
          case measure => simp [intOf]; omega
        · obtain ⟨ha1, ha2⟩ := ahead_miss hG.out hA.out (fun _ => hz2)
          have hzb : ((G.getD j 0 : Int) == (s : Int)) = false := by simpa using hz2
          generalize G.getD j 0 = z at *
          have hs2 := hsuc.out
          rw [if_neg (by rw [ha2]; simp)] at hs2
          have hol := other_len G (s - 1)
          replace hs2 := Lib.hid hs2
          replace ha1 := Lib.hid ha1
          clear ha2 hsuc
          go_wp2_with (at_builtin; refine wpList_push1 (B := w2.heap.size + 1) (w0 := wr) (n := (otherS G (s - 1)).length) (xs := ints (otherS G (s - 1))) (u := .int .i64 s) rfl (.tmp 65) (.tmp 67) 22 rfl 3 (.int .i64 0) 8 Try.underlying22 infoInt rfl ?c1 rfl rfl ?c2 ?c3 rfl ?c4 ?c5 ?_)
          case c1 => exact ownsRow_up hown.out (by (repeat' (first | exact Below.refl _ _ | assumption | (refine Below.alloc ?_ ?_ _) | (refine Below.drew ?_) | (refine Below.setCell ?_ ?_ _) | (refine Below.trans ?_ (Below.mono (by assumption) ?_)) | omega | (simp; done) | (simp; omega))))
          case c2 => exact (show Below wr.heap.size wr _ by (repeat' (first | exact Below.refl _ _ | assumption | (refine Below.alloc ?_ ?_ _) | (refine Below.drew ?_) | (refine Below.setCell ?_ ?_ _) | (refine Below.trans ?_ (Below.mono (by assumption) ?_)) | omega | (simp; done) | (simp; omega)))).mono (by omega)
          case c3 => go_simp
          case c4 => simp [maxLen]; omega
          case c5 => simp; omega
          intro v' w4 hown4 hb4 _
          obtain ⟨g', cap', rfl, _⟩ := ownsRow_shape hown4 (Nat.succ_pos _)
          have k0 := (hb4.cell (p := ⟨w2.heap.size, 0, none⟩) (by show w2.heap.size < w2.heap.size + 1; omega)).trans g0
          have k1 := (hb4.cell (p := ⟨w2.heap.size, 1, none⟩) (by show w2.heap.size < w2.heap.size + 1; omega)).trans g1
          have k2 := (hb4.cell (p := ⟨w2.heap.size, 2, none⟩) (by show w2.heap.size < w2.heap.size + 1; omega)).trans g2
          have k3 := (hb4.cell (p := ⟨w2.heap.size, 3, none⟩) (by show w2.heap.size < w2.heap.size + 1; omega)).trans g3
          have kf := (hb4.frozen (p := ⟨w2.heap.size, 3, none⟩) (by show w2.heap.size < w2.heap.size + 1; omega)).trans gf
          have kz : w2.heap.size < w4.heap.size := Nat.lt_of_lt_of_le hz hb4.size
          have kb := hb.trans (hb4.mono (Nat.le_succ _))
          clear g0 g1 g2 g3 gf hb c2 c3 c4 c5 hb4
          go_wp2
          go_roundw
          case rel =>
            refine ⟨j, s + 1, .slice (some ⟨g', 0, none⟩) ((otherS G (s - 1)).length + 1) cap', rfl, by go_num, by omega, by omega, by rw [Int.natCast_succ]; exact ha1, ?_, ?_, ?_, ?_, ?_, ?_, by simpa using kz, kb.setCell (Nat.le_refl _) _⟩
            · exact (World.cell?_setCell_other _ _ _ _ (by simp)).trans k0
            · exact (World.cell?_setCell_other _ _ _ _ (by simp)).trans k1
            · exact (World.cell?_setCell_other _ _ _ _ (by simp)).trans k2
            · exact World.cell?_setCell_same _ _ _ k3
            · rw [World.frozen?_setCell]; exact kf
            · rw [Nat.add_sub_cancel, hs2.out, List.length_append, ← ints_snoc]
              exact ownsRow_setCell_below hown4 (by show w2.heap.size < w2.heap.size + 1; omega) _
          case measure => simp [intOf]; omega
      · obtain ⟨ha1, ha2⟩ := ahead_miss hG.out hA.out (fun hj => absurd (by rw [L2.out]; exact hj) hjn)
        have hjb : decide ((j : Int) < (n2 : Int)) = false := by simp; omega
        have hs2 := hsuc.out
        rw [if_neg (by rw [ha2]; simp)] at hs2
        have hol := other_len G (s - 1)
        replace hs2 := Lib.hid hs2
        replace ha1 := Lib.hid ha1
        clear ha2 hsuc
        go_wp2_with (at_builtin; refine wpList_push1 (B := w2.heap.size + 1) (w0 := wr) (n := (otherS G (s - 1)).length) (xs := ints (otherS G (s - 1))) (u := .int .i64 s) rfl (.tmp 65) (.tmp 67) 22 rfl 3 (.int .i64 0) 8 Try.underlying22 infoInt rfl ?c1 rfl rfl ?c2 ?c3 rfl ?c4 ?c5 ?_)
        case c1 => exact ownsRow_up hown.out (by (repeat' (first | exact Below.refl _ _ | assumption | (refine Below.alloc ?_ ?_ _) | (refine Below.drew ?_) | (refine Below.setCell ?_ ?_ _) | (refine Below.trans ?_ (Below.mono (by assumption) ?_)) | omega | (simp; done) | (simp; omega))))
        case c2 => exact (show Below wr.heap.size wr _ by (repeat' (first | exact Below.refl _ _ | assumption | (refine Below.alloc ?_ ?_ _) | (refine Below.drew ?_) | (refine Below.setCell ?_ ?_ _) | (refine Below.trans ?_ (Below.mono (by assumption) ?_)) | omega | (simp; done) | (simp; omega)))).mono (by omega)
        case c3 => go_simp
        case c4 => simp [maxLen]; omega
        case c5 => simp; omega
        intro v' w4 hown4 hb4 _
        obtain ⟨g', cap', rfl, _⟩ := ownsRow_shape hown4 (Nat.succ_pos _)
        have k0 := (hb4.cell (p := ⟨w2.heap.size, 0, none⟩) (by show w2.heap.size < w2.heap.size + 1; omega)).trans g0
        have k1 := (hb4.cell (p := ⟨w2.heap.size, 1, none⟩) (by show w2.heap.size < w2.heap.size + 1; omega)).trans g1
        have k2 := (hb4.cell (p := ⟨w2.heap.size, 2, none⟩) (by show w2.heap.size < w2.heap.size + 1; omega)).trans g2
        have k3 := (hb4.cell (p := ⟨w2.heap.size, 3, none⟩) (by show w2.heap.size < w2.heap.size + 1; omega)).trans g3
        have kf := (hb4.frozen (p := ⟨w2.heap.size, 3, none⟩) (by show w2.heap.size < w2.heap.size + 1; omega)).trans gf
        have kz : w2.heap.size < w4.heap.size := Nat.lt_of_lt_of_le hz hb4.size
        have kb := hb.trans (hb4.mono (Nat.le_succ _))
        clear g0 g1 g2 g3 gf hb c2 c3 c4 c5 hb4
        go_wp2
        go_roundw
        case rel =>
          refine ⟨j, s + 1, .slice (some ⟨g', 0, none⟩) ((otherS G (s - 1)).length + 1) cap', rfl, by go_num, by omega, by omega, by rw [Int.natCast_succ]; exact ha1, ?_, ?_, ?_, ?_, ?_, ?_, by simpa using kz, kb.setCell (Nat.le_refl _) _⟩
          · exact (World.cell?_setCell_other _ _ _ _ (by simp)).trans k0
          · exact (World.cell?_setCell_other _ _ _ _ (by simp)).trans k1
          · exact (World.cell?_setCell_other _ _ _ _ (by simp)).trans k2
          · exact World.cell?_setCell_same _ _ _ k3
          · rw [World.frozen?_setCell]; exact kf
          · rw [Nat.add_sub_cancel, hs2.out, List.length_append, ← ints_snoc]
            exact ownsRow_setCell_below hown4 (by show w2.heap.size < w2.heap.size + 1; omega) _
        case measure => simp [intOf]; omega
    · have e : s = M := by omega
      subst e
      have ht1 : ¬ ((s : Int) < 2 ^ n1) := by rw [← p3.out]; omega
      have hv : Ints wr v (otherS G (s - 1)) := Ints.ofOwn hown.out (fun a ha => by
        have := (other_mem.1 ha).1
        omega)
      obtain ⟨ao, n, cap, rfl, _⟩ := hv.shape
      have C := Lib.hid (B.out wr _ hbw hv)
      clear hv hown hsuc B
      go_wp2_with fail
      refine C.out.mono ?_
      rintro e w4 ⟨rfl, hb4⟩
      have hw4 := hbw.trans (hb4.mono hbw.size)
      cases b with
      | true =>
        go_wp2
        go_ret
        exact ⟨rfl, hw4⟩
      | false =>
        go_wp2
        go_ret
        exact ⟨rfl, hw4⟩
theorem mullerOther_any {v1 v2 v3 v4 : Value} {k q : Int} {N : List (List Int)} {G h l : List Int} {w : World} (h1 : Rows2 w v1 N) (h2 : Ints w v2 G) (h3 : Ints w v3 h) (h4 : Ints w v4 l) (hq0 : -9223372036854775808 ≤ q) (hq1 : q ≤ 9223372036854775807) :
    Calls Try.prog 5 #[.agg #[.int .i64 k, .int .i64 q, v1, v2], .agg #[v3, v4]] w fun e w' => e = .returned (.bool true) ∧ Below w.heap.size w w' := by
  by_cases hc : codeS k q N G h l = 0
  · exact mullerOther_ok v1 v2 v3 v4 k q N G h l w h1 h2 h3 h4 hc
  · exact mullerOther_bad v1 v2 v3 v4 k q N G h l w h1 h2 h3 h4 hq0 hq1 hc
end Go.Proofs.Ytfpdnigihjmohaa
