/- Calls into package slices: Grow of nothing, Concat of two rows, Compare. -/
import Derived.Test.YtfpdnigihjmohaaPush
import Derived.Test.YtfpdnigihjmohaaLyndonQ
import Derived.Test.YtfpdnigihjmohaaEhrenA
import Derived.Lib.AppendZerosOnto
namespace Go.Proofs.Ytfpdnigihjmohaa
open Go.RowKit
set_option linter.unusedSimpArgs false
set_option linter.unusedVariables false
attribute [local irreducible] wpList

def RetEmptyRow (w : World) (e : Ending) (w' : World) : Prop := ∃ v, e = .returned v ∧ w'.ownsRow w.heap.size 3 1 v 0 (ints []) ∧ Below w.heap.size w w'
set_option maxHeartbeats 1000000 in
theorem grow_nil (n : Nat) (w : World) (hn : n ≤ 1000000) : Calls Try.prog 116 #[.slice none 0 0, .int .i64 n] w (RetEmptyRow w) := by
  by_cases h0 : n = 0
  · subst h0
    go_enter Try.func116, Try.ntmps116
    go_wp2
    go_ret
    exact ⟨_, rfl, World.ownsRow_nil _ _ _ _, Below.refl _ _⟩
  · obtain ⟨i0, hi, hz0, hz1, hz2⟩ := info_parts infoInt
    have hbytes : i0.bytes = 8 := by simpa using hz2
    have hsize : i0.size = 1 := by simpa using hz1
    have hrz : ∀ ty, (Builtin.append_ #[22, 3] ty #[.slice none 0 0, .int .i64 n]).run Try.prog w =
      .ok (.slice (some ⟨w.heap.size, 0, none⟩) n (grownCap w n 0 3)) (w.drew.alloc (.cells (([] : List Value).toArray ++ Builtin.zeroCells (Value.int .i64 0).cells n ++ Builtin.zeroCells (Value.int .i64 0).cells (grownCap w n 0 3 - n)) 3)) := fun ty => by
      have h := Lib.run_append_grow_zeros w 22 3 ty 3 i0 (.int .i64 0) .i64 .i64 Try.underlying22 Try.underlying3 hi hz0 none 0 0 [] (by rw [hsize]; exact run_firstCells_none w.drew 1 0 0 0) n (by omega) (by omega) (by omega) (by omega)
        (by rw [hbytes]; omega) (by rw [Nat.zero_add]; exact growslice_fits (by omega) (by rw [hbytes]; omega))
      rw [Nat.zero_add] at h
      exact h
    have hGn : n ≤ grownCap w n 0 3 := grownCap_ge w _ _ _
    have hGm := grownCap_le_maxLen w n 0 3 (by unfold maxLen; omega)
    generalize grownCap w n 0 3 = G at *
    have hG63 : G ≤ 9223372036854775807 := by unfold maxLen at hGm; exact hGm
    have hsz : (([] : List Value).toArray ++ Builtin.zeroCells (Value.int .i64 0).cells n ++ Builtin.zeroCells (Value.int .i64 0).cells (G - n)).size = G * 1 := by simp [Builtin.zeroCells, Value.cells]; omega
    generalize (([] : List Value).toArray ++ Builtin.zeroCells (Value.int .i64 0).cells n ++ Builtin.zeroCells (Value.int .i64 0).cells (G - n)) = C at *
    replace hGm := Lib.hid hGm
    replace hsz := Lib.hid hsz
    clear hi hz0 hz1 hz2 hbytes hsize
    go_enter Try.func116, Try.ntmps116
    go_wp2_with (at_builtin; refine Lib.wpList_append_run _ rfl _ _ _ _ rfl _ _ rfl rfl _ _ (hrz _) ?_)
    all_goals (go_ret; exact ⟨_, rfl, World.ownsRow_made w.drew C G (Nat.le_refl _) hGm.out hsz.out, by (repeat' (first | exact Below.refl _ _ | assumption | (refine Below.alloc ?_ ?_ _) | (refine Below.drew ?_) | (refine Below.setCell ?_ ?_ _) | (refine Below.trans ?_ (Below.mono (by assumption) ?_)) | omega | (simp; done) | (simp; omega)))⟩)

set_option maxHeartbeats 1000000 in
theorem concat_two (b : Nat) (v1 v2 : Value) (l1 l2 : List Int) (w : World) (hb1 : w.cell? ⟨b, 0, none⟩ = some v1) (hb2 : w.cell? ⟨b, 1, none⟩ = some v2) (h1 : Ints w v1 l1) (h2 : Ints w v2 l2) (n1 : l1.length ≤ 1000) (n2 : l2.length ≤ 1000) :
    Calls Try.prog 57 #[.slice (some ⟨b, 0, none⟩) 2 2] w (NewInts w (l1 ++ l2)) := by
  obtain ⟨ao1, m1, cap1, rfl, H1, L1, hc1, hm1⟩ := h1.shape
  obtain ⟨ao2, m2, cap2, rfl, H2, L2, hc2, hm2⟩ := h2.shape
  have hbl := World.block_lt_of_cell? w _ hb1
  simp only at hbl
  have q1 : m1 ≤ 1000 := by rw [L1.out]; exact n1
  have q2 : m2 ≤ 1000 := by rw [L2.out]; exact n2
  have w1 : wrap64 ((m1 : Int)) = m1 := by unfold wrap64; omega
  have w2 : wrap64 ((m1 : Int) + m2) = m1 + m2 := by unfold wrap64; omega
  have G : Hid (∀ W, Calls Try.prog 116 #[.slice none 0 0, .int .i64 ((m1 : Int) + m2)] W (RetEmptyRow W)) := fun W => by
    have := grow_nil (m1 + m2) W (by omega)
    rwa [Int.natCast_add] at this
  clear n1 n2
  go_enter Try.func57, Try.ntmps57
  go_wp2
  refine wp_loop_rounds 3 ?_
  rw [rounds_succ]
  go_wp2
  rw [rounds_succ]
  go_wp2
  rw [rounds_succ]
  go_wp2_with ((go_at_call 116; (with_reducible refine (G.out _).mono ?_); rintro e w1 ⟨v6, rfl, O, b1⟩))
  obtain ⟨d0, _⟩ := bcell b1
  have e1 := (d0 b 0 hbl).trans hb1
  have e2 := (d0 b 1 hbl).trans hb2
  have H1 := H1.up b1
  refine wp_loop_rounds 3 ?_
  rw [rounds_succ]
  go_wp2_with (at_builtin; refine wpList_pushAll (B := w.heap.size) (w0 := w) (n := 0) (L := []) (M := l1) rfl (.tmp 31) (.tmp 32) 22 rfl 3 (.int .i64 0) Try.underlying22 infoInt rfl ?c1 rfl rfl ?c2 ?c3 ?c4 ?c5 ?_)
  case c1 => exact O
  case c2 => exact H1
  case c3 => exact b1
  case c4 => rw [← L1.out]; omega
  case c5 => exact b1.size
  intro v7 w2 O2 b2 g2
  obtain ⟨d1, _⟩ := bcell b2
  have e3 := (d1 b 0 hbl).trans hb1
  have e4 := (d1 b 1 hbl).trans hb2
  have H2 := H2.up b2
  clear e1 e2 d0 d1 hb1 hb2 g2 O b1
  go_wp2
  rw [rounds_succ]
  go_wp2_with (at_builtin; refine wpList_pushAll (B := w.heap.size) (w0 := w) (n := l1.length) (L := l1) (M := l2) rfl (.tmp 31) (.tmp 32) 22 rfl 3 (.int .i64 0) Try.underlying22 infoInt rfl ?c1 rfl rfl ?c2 ?c3 ?c4 ?c5 ?_)
  case c1 => exact O2
  case c2 => exact H2
  case c3 => exact b2
  case c4 => rw [← L1.out, ← L2.out]; omega
  case c5 => exact b2.size
  intro v8 w3 O3 b3 _
  go_wp2
  rw [rounds_succ]
  go_wp2
  go_ret
  exact ⟨v8, rfl, by rw [List.length_append, ints, List.map_append]; exact O3, b3⟩
/-- what Compare answers -/
theorem cmpLS_step {a b : List Int} {k : Nat} (ha : k < a.length) (hb : k < b.length) : cmpLS (a.drop k) (b.drop k) = if cmpS (a.getD k 0) (b.getD k 0) ≠ 0 then cmpS (a.getD k 0) (b.getD k 0) else cmpLS (a.drop (k + 1)) (b.drop (k + 1)) := by
  rw [List.drop_eq_getElem_cons ha, List.drop_eq_getElem_cons hb]
  simp only [cmpLS, List.getD, List.getElem?_eq_getElem ha, List.getElem?_eq_getElem hb, Option.getD_some]
set_option maxHeartbeats 1000000 in
theorem compare_any (v1 v2 : Value) (a b : List Int) (w : World) (h1 : Ints w v1 a) (h2 : Ints w v2 b) (hl : a.length = b.length) :
    Calls Try.prog 56 #[v1, v2] w fun e w' => e = .returned (.int .i64 (cmpLS a b)) ∧ w = w' := by
  obtain ⟨ao1, m1, cap1, rfl, H1, L1, hc1, hm1⟩ := h1.shape
  obtain ⟨ao2, m2, cap2, rfl, H2, L2, hc2, hm2⟩ := h2.shape
  have e : m1 = m2 := by rw [L1.out, L2.out, hl]
  subst e
  generalize hr : cmpLS a b = r
  replace hr := Lib.hid hr
  replace hl := Lib.hid hl
  go_enter Try.func56, Try.ntmps56
  go_wp2
  go_loop [11] (fun i => ∃ k : Nat, k ≤ m1 ∧ i = .int .i64 k ∧ cmpLS (a.drop k) (b.drop k) = r) (fun i => m1 - (intOf i).toNat)
  case atStart => exact ⟨0, Nat.zero_le _, rfl, by simpa using hr.out⟩
  case round =>
    obtain ⟨k, hk, rfl, hg⟩ := hrel
    replace hg := Lib.hid hg
    by_cases hlt : k < m1
    · obtain ⟨b1, o1, rfl, hck1, hb1, hw1, hw1'⟩ := H1.int hlt
      obtain ⟨b2, o2, rfl, hck2, hb2, hw2, hw2'⟩ := H2.int hlt
      have hs := Lib.hid (cmpLS_step (a := a) (b := b) (k := k) (by rw [← L1.out]; exact hlt) (by rw [← L2.out]; exact hlt))
      have C := Lib.hid (fun W => cmp_any (a.getD k 0) (b.getD k 0) W)
      generalize a.getD k 0 = z1 at *
      generalize b.getD k 0 = z2 at *
      generalize cmpS z1 z2 = c at *
      by_cases hc : c = 0
      · subst hc
        have hs2 : Hid (cmpLS (a.drop (k + 1)) (b.drop (k + 1)) = r) := by rw [← hg.out, hs.out]; exact Lib.hid rfl
        go_wp2_with ((go_at_call 115; (with_reducible refine (C.out _).mono ?_); rintro e w' ⟨rfl, rfl⟩))
        go_round
        case rel => exact ⟨k + 1, by omega, by go_num, hs2.out⟩
        case measure => simp [intOf]; omega
      · have hc1 : (c != 0) = true := by simpa using hc
        have hr2 : r = c := by rw [← hg.out, hs.out, if_pos hc]
        subst hr2
        replace hc := Lib.hid hc
        go_wp2_with ((go_at_call 115; (with_reducible refine (C.out _).mono ?_); rintro e w' ⟨rfl, rfl⟩))
        go_ret
        exact ⟨rfl, rfl⟩
    · have h0 : r = 0 := by
        rw [← hg.out, List.drop_eq_nil_of_le (by rw [← L1.out]; omega), List.drop_eq_nil_of_le (by rw [← L2.out]; omega)]
        rfl
      subst h0
      go_wp2
      go_ret
      exact ⟨rfl, rfl⟩
end Go.Proofs.Ytfpdnigihjmohaa
