/- The walks of the play with two words: one more pair of places. -/
import Derived.Test.YtfpdnigihjmohaaSlices
import Derived.Test.YtfpdnigihjmohaaEhrenA
namespace Go.Proofs.Ytfpdnigihjmohaa
open Go.RowKit
set_option linter.unusedSimpArgs false
set_option linter.unusedVariables false
attribute [local irreducible] wpList

/-- a table of four words -/
def RetTable (w : World) (u v a b : List Int) (e : Ending) (w' : World) : Prop := ∃ v1 v2 v3 v4, e = .returned (.agg #[v1, v2, v3, v4]) ∧ Ints w' v1 u ∧ Ints w' v2 v ∧ Ints w' v3 a ∧ Ints w' v4 b ∧ Below w.heap.size w w'

set_option maxHeartbeats 1000000 in
theorem turned_any (v1 v2 v3 v4 : Value) (u v a b : List Int) (w : World) (h1 : Ints w v1 u) (h2 : Ints w v2 v) (h3 : Ints w v3 a) (h4 : Ints w v4 b) :
    Calls Try.prog 113 #[.agg #[v1, v2, v3, v4]] w (RetTable w v u b a) := by
  obtain ⟨ao1, n1, cap1, rfl, H1, L1, hc1, hm1⟩ := h1.shape
  obtain ⟨ao2, n2, cap2, rfl, H2, L2, hc2, hm2⟩ := h2.shape
  obtain ⟨ao3, n3, cap3, rfl, H3, L3, hc3, hm3⟩ := h3.shape
  obtain ⟨ao4, n4, cap4, rfl, H4, L4, hc4, hm4⟩ := h4.shape
  clear h1 h2 h3 h4
  go_enter Try.func113, Try.ntmps113
  go_wp2
  refine bodyPost_ret (v := .agg #[.slice ao2 n2 cap2, .slice ao1 n1 cap1, .slice ao4 n4 cap4, .slice ao3 n3 cap3]) (by simp [results, Try.results113, go_sem]) rfl ?_
  have hb : Below w.heap.size w ((w.alloc (.cells #[.slice ao1 n1 cap1, .slice ao2 n2 cap2, .slice ao3 n3 cap3, .slice ao4 n4 cap4] 134)).alloc (.cells #[.slice ao2 n2 cap2, .slice ao1 n1 cap1, .slice ao4 n4 cap4, .slice ao3 n3 cap3] 134)) := by (repeat' (first | exact Below.refl _ _ | assumption | (refine Below.alloc ?_ ?_ _) | (refine Below.drew ?_) | (refine Below.setCell ?_ ?_ _) | (refine Below.trans ?_ (Below.mono (by assumption) ?_)) | omega | (simp; done) | (simp; omega)))
  exact ⟨_, _, _, _, rfl, H2.up hb, H1.up hb, H4.up hb, H3.up hb, hb⟩


theorem cell_grown {W X : World} {row : Option Nat} {g : Nat} {v : Value} (h : W.cell? ⟨g, 0, none⟩ = some v) (gr : W.grownBy X row) (hn : ∀ k, row = some k → k ≠ g) : X.cell? ⟨g, 0, none⟩ = some v :=
  (World.cell?_of_block (w := W) (gr.block g (World.block_lt_of_cell? W _ h) (fun e => hn g e.symm rfl))).trans h
theorem src_one {W : World} {g : Nat} {z : Int} (h : W.cell? ⟨g, 0, none⟩ = some (.int .i64 z)) : SrcRow W 1 (.slice (some ⟨g, 0, none⟩) 1 1) 1 [.int .i64 z] :=
  ⟨_, _, rfl, (fun h => by cases h), rfl, fun j u hu => by
    cases j with
    | zero => simp at hu; subst hu; exact ⟨g, 0, rfl, h⟩
    | succ j => simp at hu, fun u hu => by simp at hu; subst hu; rfl⟩
theorem own_ints {W : World} {base : Nat} {v : Value} {a : List Int} {p : Int} (h : W.ownsRow base 3 1 v (a.length + 1) (ints a ++ [.int .i64 p])) (ha : I64 a) (hp : -9223372036854775808 ≤ p ∧ p ≤ 9223372036854775807) : IntsFrom base W v (a ++ [p]) :=
  IntsFrom.ofOwn (e := 3) (by simpa using h) (ha.app (I64.one hp.1 hp.2))
/-- what stands in memory behind the last store -/
theorem with_fin {w W : World} {v1 v2 v3 v4 : Value} {u v a b : List Int} {B C : Nat} (hb : Below w.heap.size w W) (h1 : Ints w v1 u) (h2 : Ints w v2 v) (h3 : IntsFrom B W v3 a) (h4 : IntsFrom C W v4 b) (hB : w.heap.size + 2 ≤ B) (hC : w.heap.size + 2 ≤ C) (x1 x2 x3 x4 : Value) :
    RetTable w u v a b (.returned (.agg #[v1, v2, v3, v4])) ((((W.setCell ⟨w.heap.size + 1, 0, none⟩ x1).setCell ⟨w.heap.size + 1, 1, none⟩ x2).setCell ⟨w.heap.size + 1, 2, none⟩ x3).setCell ⟨w.heap.size + 1, 3, none⟩ x4) := by
  have hl : w.heap.size ≤ w.heap.size + 1 := Nat.le_succ _
  have h5 := (((hb.setCell (p := ⟨w.heap.size + 1, 0, none⟩) hl x1).setCell (p := ⟨w.heap.size + 1, 1, none⟩) hl x2).setCell (p := ⟨w.heap.size + 1, 2, none⟩) hl x3).setCell (p := ⟨w.heap.size + 1, 3, none⟩) hl x4
  have b1 : w.heap.size + 1 < B := by omega
  have c1 : w.heap.size + 1 < C := by omega
  exact ⟨_, _, _, _, rfl, h1.up h5, h2.up h5, ((((h3.setBelow (p := ⟨w.heap.size + 1, 0, none⟩) b1 x1).setBelow (p := ⟨w.heap.size + 1, 1, none⟩) b1 x2).setBelow (p := ⟨w.heap.size + 1, 2, none⟩) b1 x3).setBelow (p := ⟨w.heap.size + 1, 3, none⟩) b1 x4).1,
    ((((h4.setBelow (p := ⟨w.heap.size + 1, 0, none⟩) c1 x1).setBelow (p := ⟨w.heap.size + 1, 1, none⟩) c1 x2).setBelow (p := ⟨w.heap.size + 1, 2, none⟩) c1 x3).setBelow (p := ⟨w.heap.size + 1, 3, none⟩) c1 x4).1, h5⟩

set_option maxHeartbeats 4000000 in
theorem with_any (v1 v2 v3 v4 : Value) (u v a b : List Int) (p q : Int) (w : World) (h1 : Ints w v1 u) (h2 : Ints w v2 v) (h3 : Ints w v3 a) (h4 : Ints w v4 b) (ha : a.length ≤ 100) (hb : b.length ≤ 100)
    (hp : -9223372036854775808 ≤ p ∧ p ≤ 9223372036854775807) (hq : -9223372036854775808 ≤ q ∧ q ≤ 9223372036854775807) :
    Calls Try.prog 159 #[.agg #[v1, v2, v3, v4], .int .i64 p, .int .i64 q] w (RetTable w u v (a ++ [p]) (b ++ [q])) := by
  obtain ⟨ao1, n1, cap1, rfl, H1, L1, hc1, hm1⟩ := h1.shape
  obtain ⟨ao2, n2, cap2, rfl, H2, L2, hc2, hm2⟩ := h2.shape
  obtain ⟨ao3, n3, cap3, rfl, H3, L3, hc3, hm3⟩ := h3.shape
  obtain ⟨ao4, n4, cap4, rfl, H4, L4, hc4, hm4⟩ := h4.shape
  have C6 : Hid (∀ W, Below w.heap.size w W → Calls Try.prog 47 #[.slice ao3 n3 cap3] W (NewInts W a)) := fun W hW => clone_any _ _ W (H3.up hW) (by omega)
  have C12 : Hid (∀ W, Below w.heap.size w W → Calls Try.prog 47 #[.slice ao4 n4 cap4] W (NewInts W b)) := fun W hW => clone_any _ _ W (H4.up hW) (by omega)
  clear h1 h2 h3 h4
  go_enter Try.func159, Try.ntmps159
  go_wp2
  refine wp_region_plan (.soft [0, 1, 2, 3, 4, 5, 7, 10, 11, 13] (.alt 6 (.alt 8 (.alt 9 (.alt 12 (.alt 14 (.alt 15 (.alt 16 (.alt 17 .done .stop) .stop) .stop) .stop) (.alt 14 (.alt 12 (.alt 15 (.alt 16 (.alt 17 .done .stop) .stop) .stop) .stop) .stop)) (.alt 14 (.alt 9 (.alt 12 (.alt 15 (.alt 16 (.alt 17 .done .stop) .stop) .stop) .stop) .stop) .stop)) (.alt 14 (.alt 8 (.alt 9 (.alt 12 (.alt 15 (.alt 16 (.alt 17 .done .stop) .stop) .stop) .stop) .stop) .stop) .stop)) (.alt 8 (.alt 6 (.alt 9 (.alt 12 (.alt 14 (.alt 15 (.alt 16 (.alt 17 .done .stop) .stop) .stop) .stop) (.alt 14 (.alt 12 (.alt 15 (.alt 16 (.alt 17 .done .stop) .stop) .stop) .stop) .stop)) (.alt 14 (.alt 9 (.alt 12 (.alt 15 (.alt 16 (.alt 17 .done .stop) .stop) .stop) .stop) .stop) .stop)) (.alt 14 (.alt 6 (.alt 9 (.alt 12 (.alt 15 (.alt 16 (.alt 17 .done .stop) .stop) .stop) .stop) .stop) .stop) .stop)) (.alt 14 (.alt 6 (.alt 8 (.alt 9 (.alt 12 (.alt 15 (.alt 16 (.alt 17 .done .stop) .stop) .stop) .stop) .stop) .stop) (.alt 8 (.alt 6 (.alt 9 (.alt 12 (.alt 15 (.alt 16 (.alt 17 .done .stop) .stop) .stop) .stop) .stop) .stop) .stop)) .stop)))) (w.heap.size + 1) (by kernel_rfl) (by kernel_rfl) (by kernel_rfl) ?_
  (apply wpPlan_soft; (focus (intro K hK; (conv => arg 4; (simp only [pick, List.filterMap_cons, List.filterMap_nil, List.getElem?_toArray, List.getElem?_cons_succ, List.getElem?_cons_zero])); go_wp2; exact only_mk hK)); (focus ((simp only [pick, List.filterMap_cons, List.filterMap_nil, List.getElem?_toArray, List.getElem?_cons_succ, List.getElem?_cons_zero]); (((try simp only [sides, hasSide, side, lowV, intV, slV, ptrV, Act.eval, Region.wanted, yielded_eq]); go_simp) <;> (try omega)))))
  obtain ⟨w0, hw0⟩ : ∃ w0, w0 = ((w.alloc (.cells #[.slice ao1 n1 cap1, .slice ao2 n2 cap2, .slice ao3 n3 cap3, .slice ao4 n4 cap4] 134)).alloc (.cells #[.slice none 0 0, .slice none 0 0, .slice none 0 0, .slice none 0 0] 134)).drew := ⟨_, rfl⟩
  have hbw : Below w.heap.size w w0 := by rw [hw0]; (repeat' (first | exact Below.refl _ _ | assumption | (refine Below.alloc ?_ ?_ _) | (refine Below.drew ?_) | (refine Below.setCell ?_ ?_ _) | (refine Below.trans ?_ (Below.mono (by assumption) ?_)) | omega | (simp; done) | (simp; omega)))
  have hs0 : w.heap.size + 2 ≤ w0.heap.size := by rw [hw0]; simp
  have r0 : w0.cell? ⟨w.heap.size + 1, 0, none⟩ = some (.slice none 0 0) := by rw [hw0]; go_simp
  have r1 : w0.cell? ⟨w.heap.size + 1, 1, none⟩ = some (.slice none 0 0) := by rw [hw0]; go_simp
  have r2 : w0.cell? ⟨w.heap.size + 1, 2, none⟩ = some (.slice none 0 0) := by rw [hw0]; go_simp
  have r3 : w0.cell? ⟨w.heap.size + 1, 3, none⟩ = some (.slice none 0 0) := by rw [hw0]; go_simp
  have rf : ∀ o, w0.frozen? ⟨w.heap.size + 1, o, none⟩ = false := by intro o; rw [hw0]; go_simp
  rw [← hw0]
  clear hw0
  have r0 := Lib.hid r0
  have r1 := Lib.hid r1
  have r2 := Lib.hid r2
  have r3 := Lib.hid r3
  have rf := Lib.hid rf
  have T : Below (w.heap.size + 2) w0 w0 := Below.refl _ _
  have i3 := Lib.hid H3.i64
  have i4 := Lib.hid H4.i64
  refine wpPlan_op (by rfl) (by kernel_rfl) (fun K hK => ?_) ?_
  · go_simp
    refine (C6.out _ (hbw.trans (T.mono (by omega)))).mono ?_
    rintro e x0 ⟨v6, rfl, O6, b⟩
    (try simp only [Act.put, List.getElem_toArray, List.getElem_cons_succ, List.getElem_cons_zero, List.setIfInBounds_toArray, List.set_cons_zero, List.set_cons_succ])
    refine hK _ _ ((T.trans (b.mono (Nat.le_trans hs0 T.size))).mono (by omega)) ?_
    clear hK K
    have B6 : w.heap.size + 2 ≤ w0.heap.size := Nat.le_trans hs0 T.size
    have S6 : w0.heap.size ≤ x0.heap.size := b.size
    replace T := T.trans (b.mono (Nat.le_trans hs0 T.size))
    clear b
    refine wpPlan_op (by rfl) (by kernel_rfl) (fun K hK => ?_) ?_
    · go_simp
      (try simp only [Act.put, List.getElem_toArray, List.getElem_cons_succ, List.getElem_cons_zero, List.setIfInBounds_toArray, List.set_cons_zero, List.set_cons_succ])
      have b : Below x0.heap.size x0 (x0.alloc (.cells #[.int .i64 p] 3)) := (Below.refl _ _).alloc (Nat.le_refl _) _
      refine hK _ _ ((T.trans (b.mono (Nat.le_trans hs0 T.size))).mono (by omega)) ?_
      clear hK K
      have c8 : (x0.alloc (.cells #[.int .i64 p] 3)).cell? ⟨x0.heap.size, 0, none⟩ = some (.int .i64 p) := by go_simp
      have s8 : x0.heap.size < (x0.alloc (.cells #[.int .i64 p] 3)).heap.size := by simp
      generalize x0.alloc (.cells #[.int .i64 p] 3) = x1 at *
      replace O6 := ownsRow_up O6 b
      replace T := T.trans (b.mono (Nat.le_trans hs0 T.size))
      clear b
      refine wpPlan_op (by rfl) (by kernel_rfl) (fun K hK => ?_) ?_
      · refine wp_of_list (ops := #[]) rfl (wpList_append_row rfl (.tmp 13) (.tmp 15) 22 rfl w0.heap.size 3 (.int .i64 0) 1 8 Try.underlying22 infoInt rfl (by decide) v6 a.length (ints a) rfl O6 _ 1 [.int .i64 p] rfl (src_one c8) ?_ ?_ ?_ ?_)
        · simp [maxLen]; omega
        · omega
        · first | omega | exact T.size | (have := T.size; omega)
        intro v9 w9 O9 gr _
        refine wpList_nil (only_mk ?_)
        have lo : ∀ k, v6.ownBlock = some k → w.heap.size + 2 ≤ k := fun k hk => by have := (O6.lt k hk).1; omega
        (try simp only [Act.put, List.getElem_toArray, List.getElem_cons_succ, List.getElem_cons_zero, List.setIfInBounds_toArray, List.set_cons_zero, List.set_cons_succ])
        have T' := T.grown gr (Nat.le_trans hs0 T.size) lo
        refine hK _ _ (T'.mono (by omega)) ?_
        clear hK K
        have T9 : Below w9.heap.size w9 w9 := Below.refl _ _
        obtain ⟨ao9, n9, cap9, rfl, I9, _⟩ := (own_ints O9 i3.out hp).shape
        clear O6 c8 O9
        replace T := T'
        clear T' gr lo
        refine wpPlan_op (by rfl) (by kernel_rfl) (fun K hK => ?_) ?_
        · go_simp
          refine (C12.out _ (hbw.trans (T.mono (by omega)))).mono ?_
          rintro e x3 ⟨v12, rfl, O12, b⟩
          (try simp only [Act.put, List.getElem_toArray, List.getElem_cons_succ, List.getElem_cons_zero, List.setIfInBounds_toArray, List.set_cons_zero, List.set_cons_succ])
          refine hK _ _ ((T.trans (b.mono (Nat.le_trans hs0 T.size))).mono (by omega)) ?_
          clear hK K
          have B12 : w9.heap.size ≤ w9.heap.size := T9.size
          have B12a : w.heap.size + 2 ≤ w9.heap.size := Nat.le_trans hs0 T.size
          have S12 : w9.heap.size ≤ x3.heap.size := b.size
          replace T9 := T9.trans (b.mono T9.size)
          replace T := T.trans (b.mono (Nat.le_trans hs0 T.size))
          clear b
          refine wpPlan_op (by rfl) (by kernel_rfl) (fun K hK => ?_) wpPlan_stop
          go_simp
          (try simp only [Act.put, List.getElem_toArray, List.getElem_cons_succ, List.getElem_cons_zero, List.setIfInBounds_toArray, List.set_cons_zero, List.set_cons_succ])
          have b : Below x3.heap.size x3 (x3.alloc (.cells #[.int .i64 q] 3)) := (Below.refl _ _).alloc (Nat.le_refl _) _
          refine hK _ _ ((T.trans (b.mono (Nat.le_trans hs0 T.size))).mono (by omega)) ?_
          clear hK K
          have c14 : (x3.alloc (.cells #[.int .i64 q] 3)).cell? ⟨x3.heap.size, 0, none⟩ = some (.int .i64 q) := by go_simp
          have s14 : x3.heap.size < (x3.alloc (.cells #[.int .i64 q] 3)).heap.size := by simp
          generalize x3.alloc (.cells #[.int .i64 q] 3) = x4 at *
          replace O12 := ownsRow_up O12 b
          replace T9 := T9.trans (b.mono T9.size)
          replace T := T.trans (b.mono (Nat.le_trans hs0 T.size))
          clear b
          refine wpPlan_op (by rfl) (by kernel_rfl) (fun K hK => ?_) wpPlan_stop
          refine wp_of_list (ops := #[]) rfl (wpList_append_row rfl (.tmp 19) (.tmp 21) 22 rfl w9.heap.size 3 (.int .i64 0) 1 8 Try.underlying22 infoInt rfl (by decide) v12 b.length (ints b) rfl O12 _ 1 [.int .i64 q] rfl (src_one c14) ?_ ?_ ?_ ?_)
          · simp [maxLen]; omega
          · omega
          · first | omega | exact T.size | (have := T.size; omega)
          intro v15 x5 O15 gr _
          refine wpList_nil (only_mk ?_)
          have lo : ∀ k, v12.ownBlock = some k → w.heap.size + 2 ≤ k := fun k hk => by have := (O12.lt k hk).1; omega
          (try simp only [Act.put, List.getElem_toArray, List.getElem_cons_succ, List.getElem_cons_zero, List.setIfInBounds_toArray, List.set_cons_zero, List.set_cons_succ])
          have T' := T.grown gr (Nat.le_trans hs0 T.size) lo
          refine hK _ _ (T'.mono (by omega)) ?_
          clear hK K
          have lo9 : ∀ k, v12.ownBlock = some k → w9.heap.size ≤ k := fun k hk => by have := (O12.lt k hk).1; omega
          replace T9 := T9.grown gr T9.size lo9
          obtain ⟨ao15, n15, cap15, rfl, I15, _⟩ := (own_ints O15 i4.out hq).shape
          clear lo9 O12 c14 O15
          replace T := T'
          clear T' gr lo
          refine wpPlan_op (by rfl) (by kernel_rfl) (fun K hK => ?_) wpPlan_stop
          go_simp
          (try simp only [Act.put, List.getElem_toArray, List.getElem_cons_succ, List.getElem_cons_zero, List.setIfInBounds_toArray, List.set_cons_zero, List.set_cons_succ])
          refine hK _ _ (T.mono (by omega)) ?_
          clear hK K
          refine wpPlan_op (by rfl) (by kernel_rfl) (fun K hK => ?_) wpPlan_stop
          have e0 : x5.cell? ⟨w.heap.size + 1, 0, none⟩ = some (.slice none 0 0) := (T.cell (p := ⟨w.heap.size + 1, 0, none⟩) (by show w.heap.size + 1 < w.heap.size + 2; omega)).trans r0.out
          have e1 : x5.cell? ⟨w.heap.size + 1, 1, none⟩ = some (.slice none 0 0) := (T.cell (p := ⟨w.heap.size + 1, 1, none⟩) (by show w.heap.size + 1 < w.heap.size + 2; omega)).trans r1.out
          have e2 : x5.cell? ⟨w.heap.size + 1, 2, none⟩ = some (.slice none 0 0) := (T.cell (p := ⟨w.heap.size + 1, 2, none⟩) (by show w.heap.size + 1 < w.heap.size + 2; omega)).trans r2.out
          have e3 : x5.cell? ⟨w.heap.size + 1, 3, none⟩ = some (.slice none 0 0) := (T.cell (p := ⟨w.heap.size + 1, 3, none⟩) (by show w.heap.size + 1 < w.heap.size + 2; omega)).trans r3.out
          have ef : ∀ o, x5.frozen? ⟨w.heap.size + 1, o, none⟩ = false := fun o => (T.frozen (p := ⟨w.heap.size + 1, o, none⟩) (by show w.heap.size + 1 < w.heap.size + 2; omega)).trans (rf.out o)
          have T1 : Below (w.heap.size + 1) w0 x5 := T.mono (by omega)
          have hb9 : Below w.heap.size w x5 := hbw.trans (T.mono (by omega))
          go_simp
          (try simp only [Act.put, List.getElem_toArray, List.getElem_cons_succ, List.getElem_cons_zero, List.setIfInBounds_toArray, List.set_cons_zero, List.set_cons_succ])
          refine hK _ _ ?_ ?_
          · (repeat' (first | exact Below.refl _ _ | assumption | (refine Below.alloc ?_ ?_ _) | (refine Below.drew ?_) | (refine Below.setCell ?_ ?_ _) | (refine Below.trans ?_ (Below.mono (by assumption) ?_)) | omega | (simp; done) | (simp; omega)))
          clear hK K
          (refine wpPlan_end ?_)
          go_wp2
          refine bodyPost_ret (v := .agg #[.slice ao1 n1 cap1, .slice ao2 n2 cap2, .slice ao9 n9 cap9, .slice ao15 n15 cap15]) (by simp [results, Try.results159, go_sem, e0, e1, e2, e3, ef]) rfl ?_
          exact with_fin (W := x5) hb9 H1 H2 (I9.up T9) I15 (by omega) (by omega) _ _ _ _
        · refine wpPlan_op (by rfl) (by kernel_rfl) (fun K hK => ?_) wpPlan_stop
          go_simp
          (try simp only [Act.put, List.getElem_toArray, List.getElem_cons_succ, List.getElem_cons_zero, List.setIfInBounds_toArray, List.set_cons_zero, List.set_cons_succ])
          have b : Below w9.heap.size w9 (w9.alloc (.cells #[.int .i64 q] 3)) := (Below.refl _ _).alloc (Nat.le_refl _) _
          refine hK _ _ ((T.trans (b.mono (Nat.le_trans hs0 T.size))).mono (by omega)) ?_
          clear hK K
          have c14 : (w9.alloc (.cells #[.int .i64 q] 3)).cell? ⟨w9.heap.size, 0, none⟩ = some (.int .i64 q) := by go_simp
          have s14 : w9.heap.size < (w9.alloc (.cells #[.int .i64 q] 3)).heap.size := by simp
          generalize w9.alloc (.cells #[.int .i64 q] 3) = x3 at *
          replace T9 := T9.trans (b.mono T9.size)
          replace T := T.trans (b.mono (Nat.le_trans hs0 T.size))
          clear b
          refine wpPlan_op (by rfl) (by kernel_rfl) (fun K hK => ?_) wpPlan_stop
          go_simp
          refine (C12.out _ (hbw.trans (T.mono (by omega)))).mono ?_
          rintro e x4 ⟨v12, rfl, O12, b⟩
          (try simp only [Act.put, List.getElem_toArray, List.getElem_cons_succ, List.getElem_cons_zero, List.setIfInBounds_toArray, List.set_cons_zero, List.set_cons_succ])
          refine hK _ _ ((T.trans (b.mono (Nat.le_trans hs0 T.size))).mono (by omega)) ?_
          clear hK K
          have B12 : w9.heap.size ≤ x3.heap.size := T9.size
          have B12a : w.heap.size + 2 ≤ x3.heap.size := Nat.le_trans hs0 T.size
          have S12 : x3.heap.size ≤ x4.heap.size := b.size
          replace c14 := cell_up c14 b
          replace T9 := T9.trans (b.mono T9.size)
          replace T := T.trans (b.mono (Nat.le_trans hs0 T.size))
          clear b
          refine wpPlan_op (by rfl) (by kernel_rfl) (fun K hK => ?_) wpPlan_stop
          refine wp_of_list (ops := #[]) rfl (wpList_append_row rfl (.tmp 19) (.tmp 21) 22 rfl x3.heap.size 3 (.int .i64 0) 1 8 Try.underlying22 infoInt rfl (by decide) v12 b.length (ints b) rfl O12 _ 1 [.int .i64 q] rfl (src_one c14) ?_ ?_ ?_ ?_)
          · simp [maxLen]; omega
          · omega
          · first | omega | exact T.size | (have := T.size; omega)
          intro v15 x5 O15 gr _
          refine wpList_nil (only_mk ?_)
          have lo : ∀ k, v12.ownBlock = some k → w.heap.size + 2 ≤ k := fun k hk => by have := (O12.lt k hk).1; omega
          (try simp only [Act.put, List.getElem_toArray, List.getElem_cons_succ, List.getElem_cons_zero, List.setIfInBounds_toArray, List.set_cons_zero, List.set_cons_succ])
          have T' := T.grown gr (Nat.le_trans hs0 T.size) lo
          refine hK _ _ (T'.mono (by omega)) ?_
          clear hK K
          have lo9 : ∀ k, v12.ownBlock = some k → w9.heap.size ≤ k := fun k hk => by have := (O12.lt k hk).1; omega
          replace T9 := T9.grown gr T9.size lo9
          obtain ⟨ao15, n15, cap15, rfl, I15, _⟩ := (own_ints O15 i4.out hq).shape
          clear lo9 O12 c14 O15
          replace T := T'
          clear T' gr lo
          refine wpPlan_op (by rfl) (by kernel_rfl) (fun K hK => ?_) wpPlan_stop
          go_simp
          (try simp only [Act.put, List.getElem_toArray, List.getElem_cons_succ, List.getElem_cons_zero, List.setIfInBounds_toArray, List.set_cons_zero, List.set_cons_succ])
          refine hK _ _ (T.mono (by omega)) ?_
          clear hK K
          refine wpPlan_op (by rfl) (by kernel_rfl) (fun K hK => ?_) wpPlan_stop
          have e0 : x5.cell? ⟨w.heap.size + 1, 0, none⟩ = some (.slice none 0 0) := (T.cell (p := ⟨w.heap.size + 1, 0, none⟩) (by show w.heap.size + 1 < w.heap.size + 2; omega)).trans r0.out
          have e1 : x5.cell? ⟨w.heap.size + 1, 1, none⟩ = some (.slice none 0 0) := (T.cell (p := ⟨w.heap.size + 1, 1, none⟩) (by show w.heap.size + 1 < w.heap.size + 2; omega)).trans r1.out
          have e2 : x5.cell? ⟨w.heap.size + 1, 2, none⟩ = some (.slice none 0 0) := (T.cell (p := ⟨w.heap.size + 1, 2, none⟩) (by show w.heap.size + 1 < w.heap.size + 2; omega)).trans r2.out
          have e3 : x5.cell? ⟨w.heap.size + 1, 3, none⟩ = some (.slice none 0 0) := (T.cell (p := ⟨w.heap.size + 1, 3, none⟩) (by show w.heap.size + 1 < w.heap.size + 2; omega)).trans r3.out
          have ef : ∀ o, x5.frozen? ⟨w.heap.size + 1, o, none⟩ = false := fun o => (T.frozen (p := ⟨w.heap.size + 1, o, none⟩) (by show w.heap.size + 1 < w.heap.size + 2; omega)).trans (rf.out o)
          have T1 : Below (w.heap.size + 1) w0 x5 := T.mono (by omega)
          have hb9 : Below w.heap.size w x5 := hbw.trans (T.mono (by omega))
          go_simp
          (try simp only [Act.put, List.getElem_toArray, List.getElem_cons_succ, List.getElem_cons_zero, List.setIfInBounds_toArray, List.set_cons_zero, List.set_cons_succ])
          refine hK _ _ ?_ ?_
          · (repeat' (first | exact Below.refl _ _ | assumption | (refine Below.alloc ?_ ?_ _) | (refine Below.drew ?_) | (refine Below.setCell ?_ ?_ _) | (refine Below.trans ?_ (Below.mono (by assumption) ?_)) | omega | (simp; done) | (simp; omega)))
          clear hK K
          (refine wpPlan_end ?_)
          go_wp2
          refine bodyPost_ret (v := .agg #[.slice ao1 n1 cap1, .slice ao2 n2 cap2, .slice ao9 n9 cap9, .slice ao15 n15 cap15]) (by simp [results, Try.results159, go_sem, e0, e1, e2, e3, ef]) rfl ?_
          exact with_fin (W := x5) hb9 H1 H2 (I9.up T9) I15 (by omega) (by omega) _ _ _ _
      · refine wpPlan_op (by rfl) (by kernel_rfl) (fun K hK => ?_) wpPlan_stop
        go_simp
        (try simp only [Act.put, List.getElem_toArray, List.getElem_cons_succ, List.getElem_cons_zero, List.setIfInBounds_toArray, List.set_cons_zero, List.set_cons_succ])
        have b : Below x1.heap.size x1 (x1.alloc (.cells #[.int .i64 q] 3)) := (Below.refl _ _).alloc (Nat.le_refl _) _
        refine hK _ _ ((T.trans (b.mono (Nat.le_trans hs0 T.size))).mono (by omega)) ?_
        clear hK K
        have c14 : (x1.alloc (.cells #[.int .i64 q] 3)).cell? ⟨x1.heap.size, 0, none⟩ = some (.int .i64 q) := by go_simp
        have s14 : x1.heap.size < (x1.alloc (.cells #[.int .i64 q] 3)).heap.size := by simp
        have n14 : ∀ k, v6.ownBlock = some k → k ≠ x1.heap.size := fun k hk => by have := (O6.lt k hk).2; omega
        generalize x1.alloc (.cells #[.int .i64 q] 3) = x2 at *
        replace O6 := ownsRow_up O6 b
        replace c8 := cell_up c8 b
        replace T := T.trans (b.mono (Nat.le_trans hs0 T.size))
        clear b
        refine wpPlan_op (by rfl) (by kernel_rfl) (fun K hK => ?_) wpPlan_stop
        refine wp_of_list (ops := #[]) rfl (wpList_append_row rfl (.tmp 13) (.tmp 15) 22 rfl w0.heap.size 3 (.int .i64 0) 1 8 Try.underlying22 infoInt rfl (by decide) v6 a.length (ints a) rfl O6 _ 1 [.int .i64 p] rfl (src_one c8) ?_ ?_ ?_ ?_)
        · simp [maxLen]; omega
        · omega
        · first | omega | exact T.size | (have := T.size; omega)
        intro v9 w9 O9 gr _
        refine wpList_nil (only_mk ?_)
        have lo : ∀ k, v6.ownBlock = some k → w.heap.size + 2 ≤ k := fun k hk => by have := (O6.lt k hk).1; omega
        (try simp only [Act.put, List.getElem_toArray, List.getElem_cons_succ, List.getElem_cons_zero, List.setIfInBounds_toArray, List.set_cons_zero, List.set_cons_succ])
        have T' := T.grown gr (Nat.le_trans hs0 T.size) lo
        refine hK _ _ (T'.mono (by omega)) ?_
        clear hK K
        replace c14 := cell_grown c14 gr (fun k hk => n14 k hk)
        clear n14
        have T9 : Below w9.heap.size w9 w9 := Below.refl _ _
        obtain ⟨ao9, n9, cap9, rfl, I9, _⟩ := (own_ints O9 i3.out hp).shape
        clear O6 c8 O9
        replace T := T'
        clear T' gr lo
        refine wpPlan_op (by rfl) (by kernel_rfl) (fun K hK => ?_) wpPlan_stop
        go_simp
        refine (C12.out _ (hbw.trans (T.mono (by omega)))).mono ?_
        rintro e x4 ⟨v12, rfl, O12, b⟩
        (try simp only [Act.put, List.getElem_toArray, List.getElem_cons_succ, List.getElem_cons_zero, List.setIfInBounds_toArray, List.set_cons_zero, List.set_cons_succ])
        refine hK _ _ ((T.trans (b.mono (Nat.le_trans hs0 T.size))).mono (by omega)) ?_
        clear hK K
        have B12 : w9.heap.size ≤ w9.heap.size := T9.size
        have B12a : w.heap.size + 2 ≤ w9.heap.size := Nat.le_trans hs0 T.size
        have S12 : w9.heap.size ≤ x4.heap.size := b.size
        replace c14 := cell_up c14 b
        replace T9 := T9.trans (b.mono T9.size)
        replace T := T.trans (b.mono (Nat.le_trans hs0 T.size))
        clear b
        refine wpPlan_op (by rfl) (by kernel_rfl) (fun K hK => ?_) wpPlan_stop
        refine wp_of_list (ops := #[]) rfl (wpList_append_row rfl (.tmp 19) (.tmp 21) 22 rfl w9.heap.size 3 (.int .i64 0) 1 8 Try.underlying22 infoInt rfl (by decide) v12 b.length (ints b) rfl O12 _ 1 [.int .i64 q] rfl (src_one c14) ?_ ?_ ?_ ?_)
        · simp [maxLen]; omega
        · omega
        · first | omega | exact T.size | (have := T.size; omega)
        intro v15 x5 O15 gr _
        refine wpList_nil (only_mk ?_)
        have lo : ∀ k, v12.ownBlock = some k → w.heap.size + 2 ≤ k := fun k hk => by have := (O12.lt k hk).1; omega
        (try simp only [Act.put, List.getElem_toArray, List.getElem_cons_succ, List.getElem_cons_zero, List.setIfInBounds_toArray, List.set_cons_zero, List.set_cons_succ])
        have T' := T.grown gr (Nat.le_trans hs0 T.size) lo
        refine hK _ _ (T'.mono (by omega)) ?_
        clear hK K
        have lo9 : ∀ k, v12.ownBlock = some k → w9.heap.size ≤ k := fun k hk => by have := (O12.lt k hk).1; omega
        replace T9 := T9.grown gr T9.size lo9
        obtain ⟨ao15, n15, cap15, rfl, I15, _⟩ := (own_ints O15 i4.out hq).shape
        clear lo9 O12 c14 O15
        replace T := T'
        clear T' gr lo
        refine wpPlan_op (by rfl) (by kernel_rfl) (fun K hK => ?_) wpPlan_stop
        go_simp
        (try simp only [Act.put, List.getElem_toArray, List.getElem_cons_succ, List.getElem_cons_zero, List.setIfInBounds_toArray, List.set_cons_zero, List.set_cons_succ])
        refine hK _ _ (T.mono (by omega)) ?_
        clear hK K
        refine wpPlan_op (by rfl) (by kernel_rfl) (fun K hK => ?_) wpPlan_stop
        have e0 : x5.cell? ⟨w.heap.size + 1, 0, none⟩ = some (.slice none 0 0) := (T.cell (p := ⟨w.heap.size + 1, 0, none⟩) (by show w.heap.size + 1 < w.heap.size + 2; omega)).trans r0.out
        have e1 : x5.cell? ⟨w.heap.size + 1, 1, none⟩ = some (.slice none 0 0) := (T.cell (p := ⟨w.heap.size + 1, 1, none⟩) (by show w.heap.size + 1 < w.heap.size + 2; omega)).trans r1.out
        have e2 : x5.cell? ⟨w.heap.size + 1, 2, none⟩ = some (.slice none 0 0) := (T.cell (p := ⟨w.heap.size + 1, 2, none⟩) (by show w.heap.size + 1 < w.heap.size + 2; omega)).trans r2.out
        have e3 : x5.cell? ⟨w.heap.size + 1, 3, none⟩ = some (.slice none 0 0) := (T.cell (p := ⟨w.heap.size + 1, 3, none⟩) (by show w.heap.size + 1 < w.heap.size + 2; omega)).trans r3.out
        have ef : ∀ o, x5.frozen? ⟨w.heap.size + 1, o, none⟩ = false := fun o => (T.frozen (p := ⟨w.heap.size + 1, o, none⟩) (by show w.heap.size + 1 < w.heap.size + 2; omega)).trans (rf.out o)
        have T1 : Below (w.heap.size + 1) w0 x5 := T.mono (by omega)
        have hb9 : Below w.heap.size w x5 := hbw.trans (T.mono (by omega))
        go_simp
        (try simp only [Act.put, List.getElem_toArray, List.getElem_cons_succ, List.getElem_cons_zero, List.setIfInBounds_toArray, List.set_cons_zero, List.set_cons_succ])
        refine hK _ _ ?_ ?_
        · (repeat' (first | exact Below.refl _ _ | assumption | (refine Below.alloc ?_ ?_ _) | (refine Below.drew ?_) | (refine Below.setCell ?_ ?_ _) | (refine Below.trans ?_ (Below.mono (by assumption) ?_)) | omega | (simp; done) | (simp; omega)))
        clear hK K
        (refine wpPlan_end ?_)
        go_wp2
        refine bodyPost_ret (v := .agg #[.slice ao1 n1 cap1, .slice ao2 n2 cap2, .slice ao9 n9 cap9, .slice ao15 n15 cap15]) (by simp [results, Try.results159, go_sem, e0, e1, e2, e3, ef]) rfl ?_
        exact with_fin (W := x5) hb9 H1 H2 (I9.up T9) I15 (by omega) (by omega) _ _ _ _
    · refine wpPlan_op (by rfl) (by kernel_rfl) (fun K hK => ?_) wpPlan_stop
      go_simp
      (try simp only [Act.put, List.getElem_toArray, List.getElem_cons_succ, List.getElem_cons_zero, List.setIfInBounds_toArray, List.set_cons_zero, List.set_cons_succ])
      have b : Below x0.heap.size x0 (x0.alloc (.cells #[.int .i64 q] 3)) := (Below.refl _ _).alloc (Nat.le_refl _) _
      refine hK _ _ ((T.trans (b.mono (Nat.le_trans hs0 T.size))).mono (by omega)) ?_
      clear hK K
      have c14 : (x0.alloc (.cells #[.int .i64 q] 3)).cell? ⟨x0.heap.size, 0, none⟩ = some (.int .i64 q) := by go_simp
      have s14 : x0.heap.size < (x0.alloc (.cells #[.int .i64 q] 3)).heap.size := by simp
      have n14 : ∀ k, v6.ownBlock = some k → k ≠ x0.heap.size := fun k hk => by have := (O6.lt k hk).2; omega
      generalize x0.alloc (.cells #[.int .i64 q] 3) = x1 at *
      replace O6 := ownsRow_up O6 b
      replace T := T.trans (b.mono (Nat.le_trans hs0 T.size))
      clear b
      refine wpPlan_op (by rfl) (by kernel_rfl) (fun K hK => ?_) wpPlan_stop
      go_simp
      (try simp only [Act.put, List.getElem_toArray, List.getElem_cons_succ, List.getElem_cons_zero, List.setIfInBounds_toArray, List.set_cons_zero, List.set_cons_succ])
      have b : Below x1.heap.size x1 (x1.alloc (.cells #[.int .i64 p] 3)) := (Below.refl _ _).alloc (Nat.le_refl _) _
      refine hK _ _ ((T.trans (b.mono (Nat.le_trans hs0 T.size))).mono (by omega)) ?_
      clear hK K
      have c8 : (x1.alloc (.cells #[.int .i64 p] 3)).cell? ⟨x1.heap.size, 0, none⟩ = some (.int .i64 p) := by go_simp
      have s8 : x1.heap.size < (x1.alloc (.cells #[.int .i64 p] 3)).heap.size := by simp
      generalize x1.alloc (.cells #[.int .i64 p] 3) = x2 at *
      replace O6 := ownsRow_up O6 b
      replace c14 := cell_up c14 b
      replace T := T.trans (b.mono (Nat.le_trans hs0 T.size))
      clear b
      refine wpPlan_op (by rfl) (by kernel_rfl) (fun K hK => ?_) wpPlan_stop
      refine wp_of_list (ops := #[]) rfl (wpList_append_row rfl (.tmp 13) (.tmp 15) 22 rfl w0.heap.size 3 (.int .i64 0) 1 8 Try.underlying22 infoInt rfl (by decide) v6 a.length (ints a) rfl O6 _ 1 [.int .i64 p] rfl (src_one c8) ?_ ?_ ?_ ?_)
      · simp [maxLen]; omega
      · omega
      · first | omega | exact T.size | (have := T.size; omega)
      intro v9 w9 O9 gr _
      refine wpList_nil (only_mk ?_)
      have lo : ∀ k, v6.ownBlock = some k → w.heap.size + 2 ≤ k := fun k hk => by have := (O6.lt k hk).1; omega
      (try simp only [Act.put, List.getElem_toArray, List.getElem_cons_succ, List.getElem_cons_zero, List.setIfInBounds_toArray, List.set_cons_zero, List.set_cons_succ])
      have T' := T.grown gr (Nat.le_trans hs0 T.size) lo
      refine hK _ _ (T'.mono (by omega)) ?_
      clear hK K
      replace c14 := cell_grown c14 gr (fun k hk => n14 k hk)
      clear n14
      have T9 : Below w9.heap.size w9 w9 := Below.refl _ _
      obtain ⟨ao9, n9, cap9, rfl, I9, _⟩ := (own_ints O9 i3.out hp).shape
      clear O6 c8 O9
      replace T := T'
      clear T' gr lo
      refine wpPlan_op (by rfl) (by kernel_rfl) (fun K hK => ?_) wpPlan_stop
      go_simp
      refine (C12.out _ (hbw.trans (T.mono (by omega)))).mono ?_
      rintro e x4 ⟨v12, rfl, O12, b⟩
      (try simp only [Act.put, List.getElem_toArray, List.getElem_cons_succ, List.getElem_cons_zero, List.setIfInBounds_toArray, List.set_cons_zero, List.set_cons_succ])
      refine hK _ _ ((T.trans (b.mono (Nat.le_trans hs0 T.size))).mono (by omega)) ?_
      clear hK K
      have B12 : w9.heap.size ≤ w9.heap.size := T9.size
      have B12a : w.heap.size + 2 ≤ w9.heap.size := Nat.le_trans hs0 T.size
      have S12 : w9.heap.size ≤ x4.heap.size := b.size
      replace c14 := cell_up c14 b
      replace T9 := T9.trans (b.mono T9.size)
      replace T := T.trans (b.mono (Nat.le_trans hs0 T.size))
      clear b
      refine wpPlan_op (by rfl) (by kernel_rfl) (fun K hK => ?_) wpPlan_stop
      refine wp_of_list (ops := #[]) rfl (wpList_append_row rfl (.tmp 19) (.tmp 21) 22 rfl w9.heap.size 3 (.int .i64 0) 1 8 Try.underlying22 infoInt rfl (by decide) v12 b.length (ints b) rfl O12 _ 1 [.int .i64 q] rfl (src_one c14) ?_ ?_ ?_ ?_)
      · simp [maxLen]; omega
      · omega
      · first | omega | exact T.size | (have := T.size; omega)
      intro v15 x5 O15 gr _
      refine wpList_nil (only_mk ?_)
      have lo : ∀ k, v12.ownBlock = some k → w.heap.size + 2 ≤ k := fun k hk => by have := (O12.lt k hk).1; omega
      (try simp only [Act.put, List.getElem_toArray, List.getElem_cons_succ, List.getElem_cons_zero, List.setIfInBounds_toArray, List.set_cons_zero, List.set_cons_succ])
      have T' := T.grown gr (Nat.le_trans hs0 T.size) lo
      refine hK _ _ (T'.mono (by omega)) ?_
      clear hK K
      have lo9 : ∀ k, v12.ownBlock = some k → w9.heap.size ≤ k := fun k hk => by have := (O12.lt k hk).1; omega
      replace T9 := T9.grown gr T9.size lo9
      obtain ⟨ao15, n15, cap15, rfl, I15, _⟩ := (own_ints O15 i4.out hq).shape
      clear lo9 O12 c14 O15
      replace T := T'
      clear T' gr lo
      refine wpPlan_op (by rfl) (by kernel_rfl) (fun K hK => ?_) wpPlan_stop
      go_simp
      (try simp only [Act.put, List.getElem_toArray, List.getElem_cons_succ, List.getElem_cons_zero, List.setIfInBounds_toArray, List.set_cons_zero, List.set_cons_succ])
      refine hK _ _ (T.mono (by omega)) ?_
      clear hK K
      refine wpPlan_op (by rfl) (by kernel_rfl) (fun K hK => ?_) wpPlan_stop
      have e0 : x5.cell? ⟨w.heap.size + 1, 0, none⟩ = some (.slice none 0 0) := (T.cell (p := ⟨w.heap.size + 1, 0, none⟩) (by show w.heap.size + 1 < w.heap.size + 2; omega)).trans r0.out
      have e1 : x5.cell? ⟨w.heap.size + 1, 1, none⟩ = some (.slice none 0 0) := (T.cell (p := ⟨w.heap.size + 1, 1, none⟩) (by show w.heap.size + 1 < w.heap.size + 2; omega)).trans r1.out
      have e2 : x5.cell? ⟨w.heap.size + 1, 2, none⟩ = some (.slice none 0 0) := (T.cell (p := ⟨w.heap.size + 1, 2, none⟩) (by show w.heap.size + 1 < w.heap.size + 2; omega)).trans r2.out
      have e3 : x5.cell? ⟨w.heap.size + 1, 3, none⟩ = some (.slice none 0 0) := (T.cell (p := ⟨w.heap.size + 1, 3, none⟩) (by show w.heap.size + 1 < w.heap.size + 2; omega)).trans r3.out
      have ef : ∀ o, x5.frozen? ⟨w.heap.size + 1, o, none⟩ = false := fun o => (T.frozen (p := ⟨w.heap.size + 1, o, none⟩) (by show w.heap.size + 1 < w.heap.size + 2; omega)).trans (rf.out o)
      have T1 : Below (w.heap.size + 1) w0 x5 := T.mono (by omega)
      have hb9 : Below w.heap.size w x5 := hbw.trans (T.mono (by omega))
      go_simp
      (try simp only [Act.put, List.getElem_toArray, List.getElem_cons_succ, List.getElem_cons_zero, List.setIfInBounds_toArray, List.set_cons_zero, List.set_cons_succ])
      refine hK _ _ ?_ ?_
      · (repeat' (first | exact Below.refl _ _ | assumption | (refine Below.alloc ?_ ?_ _) | (refine Below.drew ?_) | (refine Below.setCell ?_ ?_ _) | (refine Below.trans ?_ (Below.mono (by assumption) ?_)) | omega | (simp; done) | (simp; omega)))
      clear hK K
      (refine wpPlan_end ?_)
      go_wp2
      refine bodyPost_ret (v := .agg #[.slice ao1 n1 cap1, .slice ao2 n2 cap2, .slice ao9 n9 cap9, .slice ao15 n15 cap15]) (by simp [results, Try.results159, go_sem, e0, e1, e2, e3, ef]) rfl ?_
      exact with_fin (W := x5) hb9 H1 H2 (I9.up T9) I15 (by omega) (by omega) _ _ _ _
  · refine wpPlan_op (by rfl) (by kernel_rfl) (fun K hK => ?_) ?_
    · go_simp
      (try simp only [Act.put, List.getElem_toArray, List.getElem_cons_succ, List.getElem_cons_zero, List.setIfInBounds_toArray, List.set_cons_zero, List.set_cons_succ])
      have b : Below w0.heap.size w0 (w0.alloc (.cells #[.int .i64 p] 3)) := (Below.refl _ _).alloc (Nat.le_refl _) _
      refine hK _ _ ((T.trans (b.mono (Nat.le_trans hs0 T.size))).mono (by omega)) ?_
      clear hK K
      have c8 : (w0.alloc (.cells #[.int .i64 p] 3)).cell? ⟨w0.heap.size, 0, none⟩ = some (.int .i64 p) := by go_simp
      have s8 : w0.heap.size < (w0.alloc (.cells #[.int .i64 p] 3)).heap.size := by simp
      generalize w0.alloc (.cells #[.int .i64 p] 3) = x0 at *
      replace T := T.trans (b.mono (Nat.le_trans hs0 T.size))
      clear b
      refine wpPlan_op (by rfl) (by kernel_rfl) (fun K hK => ?_) ?_
      · go_simp
        refine (C6.out _ (hbw.trans (T.mono (by omega)))).mono ?_
        rintro e x1 ⟨v6, rfl, O6, b⟩
        (try simp only [Act.put, List.getElem_toArray, List.getElem_cons_succ, List.getElem_cons_zero, List.setIfInBounds_toArray, List.set_cons_zero, List.set_cons_succ])
        refine hK _ _ ((T.trans (b.mono (Nat.le_trans hs0 T.size))).mono (by omega)) ?_
        clear hK K
        have B6 : w.heap.size + 2 ≤ x0.heap.size := Nat.le_trans hs0 T.size
        have S6 : x0.heap.size ≤ x1.heap.size := b.size
        replace c8 := cell_up c8 b
        replace T := T.trans (b.mono (Nat.le_trans hs0 T.size))
        clear b
        refine wpPlan_op (by rfl) (by kernel_rfl) (fun K hK => ?_) ?_
        · refine wp_of_list (ops := #[]) rfl (wpList_append_row rfl (.tmp 13) (.tmp 15) 22 rfl x0.heap.size 3 (.int .i64 0) 1 8 Try.underlying22 infoInt rfl (by decide) v6 a.length (ints a) rfl O6 _ 1 [.int .i64 p] rfl (src_one c8) ?_ ?_ ?_ ?_)
          · simp [maxLen]; omega
          · omega
          · first | omega | exact T.size | (have := T.size; omega)
          intro v9 w9 O9 gr _
          refine wpList_nil (only_mk ?_)
          have lo : ∀ k, v6.ownBlock = some k → w.heap.size + 2 ≤ k := fun k hk => by have := (O6.lt k hk).1; omega
          (try simp only [Act.put, List.getElem_toArray, List.getElem_cons_succ, List.getElem_cons_zero, List.setIfInBounds_toArray, List.set_cons_zero, List.set_cons_succ])
          have T' := T.grown gr (Nat.le_trans hs0 T.size) lo
          refine hK _ _ (T'.mono (by omega)) ?_
          clear hK K
          have T9 : Below w9.heap.size w9 w9 := Below.refl _ _
          obtain ⟨ao9, n9, cap9, rfl, I9, _⟩ := (own_ints O9 i3.out hp).shape
          clear O6 c8 O9
          replace T := T'
          clear T' gr lo
          refine wpPlan_op (by rfl) (by kernel_rfl) (fun K hK => ?_) ?_
          · go_simp
            refine (C12.out _ (hbw.trans (T.mono (by omega)))).mono ?_
            rintro e x3 ⟨v12, rfl, O12, b⟩
            (try simp only [Act.put, List.getElem_toArray, List.getElem_cons_succ, List.getElem_cons_zero, List.setIfInBounds_toArray, List.set_cons_zero, List.set_cons_succ])
            refine hK _ _ ((T.trans (b.mono (Nat.le_trans hs0 T.size))).mono (by omega)) ?_
            clear hK K
            have B12 : w9.heap.size ≤ w9.heap.size := T9.size
            have B12a : w.heap.size + 2 ≤ w9.heap.size := Nat.le_trans hs0 T.size
            have S12 : w9.heap.size ≤ x3.heap.size := b.size
            replace T9 := T9.trans (b.mono T9.size)
            replace T := T.trans (b.mono (Nat.le_trans hs0 T.size))
            clear b
            refine wpPlan_op (by rfl) (by kernel_rfl) (fun K hK => ?_) wpPlan_stop
            go_simp
            (try simp only [Act.put, List.getElem_toArray, List.getElem_cons_succ, List.getElem_cons_zero, List.setIfInBounds_toArray, List.set_cons_zero, List.set_cons_succ])
            have b : Below x3.heap.size x3 (x3.alloc (.cells #[.int .i64 q] 3)) := (Below.refl _ _).alloc (Nat.le_refl _) _
            refine hK _ _ ((T.trans (b.mono (Nat.le_trans hs0 T.size))).mono (by omega)) ?_
            clear hK K
            have c14 : (x3.alloc (.cells #[.int .i64 q] 3)).cell? ⟨x3.heap.size, 0, none⟩ = some (.int .i64 q) := by go_simp
            have s14 : x3.heap.size < (x3.alloc (.cells #[.int .i64 q] 3)).heap.size := by simp
            generalize x3.alloc (.cells #[.int .i64 q] 3) = x4 at *
            replace O12 := ownsRow_up O12 b
            replace T9 := T9.trans (b.mono T9.size)
            replace T := T.trans (b.mono (Nat.le_trans hs0 T.size))
            clear b
            refine wpPlan_op (by rfl) (by kernel_rfl) (fun K hK => ?_) wpPlan_stop
            refine wp_of_list (ops := #[]) rfl (wpList_append_row rfl (.tmp 19) (.tmp 21) 22 rfl w9.heap.size 3 (.int .i64 0) 1 8 Try.underlying22 infoInt rfl (by decide) v12 b.length (ints b) rfl O12 _ 1 [.int .i64 q] rfl (src_one c14) ?_ ?_ ?_ ?_)
            · simp [maxLen]; omega
            · omega
            · first | omega | exact T.size | (have := T.size; omega)
            intro v15 x5 O15 gr _
            refine wpList_nil (only_mk ?_)
            have lo : ∀ k, v12.ownBlock = some k → w.heap.size + 2 ≤ k := fun k hk => by have := (O12.lt k hk).1; omega
            (try simp only [Act.put, List.getElem_toArray, List.getElem_cons_succ, List.getElem_cons_zero, List.setIfInBounds_toArray, List.set_cons_zero, List.set_cons_succ])
            have T' := T.grown gr (Nat.le_trans hs0 T.size) lo
            refine hK _ _ (T'.mono (by omega)) ?_
            clear hK K
            have lo9 : ∀ k, v12.ownBlock = some k → w9.heap.size ≤ k := fun k hk => by have := (O12.lt k hk).1; omega
            replace T9 := T9.grown gr T9.size lo9
            obtain ⟨ao15, n15, cap15, rfl, I15, _⟩ := (own_ints O15 i4.out hq).shape
            clear lo9 O12 c14 O15
            replace T := T'
            clear T' gr lo
            refine wpPlan_op (by rfl) (by kernel_rfl) (fun K hK => ?_) wpPlan_stop
            go_simp
            (try simp only [Act.put, List.getElem_toArray, List.getElem_cons_succ, List.getElem_cons_zero, List.setIfInBounds_toArray, List.set_cons_zero, List.set_cons_succ])
            refine hK _ _ (T.mono (by omega)) ?_
            clear hK K
            refine wpPlan_op (by rfl) (by kernel_rfl) (fun K hK => ?_) wpPlan_stop
            have e0 : x5.cell? ⟨w.heap.size + 1, 0, none⟩ = some (.slice none 0 0) := (T.cell (p := ⟨w.heap.size + 1, 0, none⟩) (by show w.heap.size + 1 < w.heap.size + 2; omega)).trans r0.out
            have e1 : x5.cell? ⟨w.heap.size + 1, 1, none⟩ = some (.slice none 0 0) := (T.cell (p := ⟨w.heap.size + 1, 1, none⟩) (by show w.heap.size + 1 < w.heap.size + 2; omega)).trans r1.out
            have e2 : x5.cell? ⟨w.heap.size + 1, 2, none⟩ = some (.slice none 0 0) := (T.cell (p := ⟨w.heap.size + 1, 2, none⟩) (by show w.heap.size + 1 < w.heap.size + 2; omega)).trans r2.out
            have e3 : x5.cell? ⟨w.heap.size + 1, 3, none⟩ = some (.slice none 0 0) := (T.cell (p := ⟨w.heap.size + 1, 3, none⟩) (by show w.heap.size + 1 < w.heap.size + 2; omega)).trans r3.out
            have ef : ∀ o, x5.frozen? ⟨w.heap.size + 1, o, none⟩ = false := fun o => (T.frozen (p := ⟨w.heap.size + 1, o, none⟩) (by show w.heap.size + 1 < w.heap.size + 2; omega)).trans (rf.out o)
            have T1 : Below (w.heap.size + 1) w0 x5 := T.mono (by omega)
            have hb9 : Below w.heap.size w x5 := hbw.trans (T.mono (by omega))
            go_simp
            (try simp only [Act.put, List.getElem_toArray, List.getElem_cons_succ, List.getElem_cons_zero, List.setIfInBounds_toArray, List.set_cons_zero, List.set_cons_succ])
            refine hK _ _ ?_ ?_
            · (repeat' (first | exact Below.refl _ _ | assumption | (refine Below.alloc ?_ ?_ _) | (refine Below.drew ?_) | (refine Below.setCell ?_ ?_ _) | (refine Below.trans ?_ (Below.mono (by assumption) ?_)) | omega | (simp; done) | (simp; omega)))
            clear hK K
            (refine wpPlan_end ?_)
            go_wp2
            refine bodyPost_ret (v := .agg #[.slice ao1 n1 cap1, .slice ao2 n2 cap2, .slice ao9 n9 cap9, .slice ao15 n15 cap15]) (by simp [results, Try.results159, go_sem, e0, e1, e2, e3, ef]) rfl ?_
            exact with_fin (W := x5) hb9 H1 H2 (I9.up T9) I15 (by omega) (by omega) _ _ _ _
          · refine wpPlan_op (by rfl) (by kernel_rfl) (fun K hK => ?_) wpPlan_stop
            go_simp
            (try simp only [Act.put, List.getElem_toArray, List.getElem_cons_succ, List.getElem_cons_zero, List.setIfInBounds_toArray, List.set_cons_zero, List.set_cons_succ])
            have b : Below w9.heap.size w9 (w9.alloc (.cells #[.int .i64 q] 3)) := (Below.refl _ _).alloc (Nat.le_refl _) _
            refine hK _ _ ((T.trans (b.mono (Nat.le_trans hs0 T.size))).mono (by omega)) ?_
            clear hK K
            have c14 : (w9.alloc (.cells #[.int .i64 q] 3)).cell? ⟨w9.heap.size, 0, none⟩ = some (.int .i64 q) := by go_simp
            have s14 : w9.heap.size < (w9.alloc (.cells #[.int .i64 q] 3)).heap.size := by simp
            generalize w9.alloc (.cells #[.int .i64 q] 3) = x3 at *
            replace T9 := T9.trans (b.mono T9.size)
            replace T := T.trans (b.mono (Nat.le_trans hs0 T.size))
            clear b
            refine wpPlan_op (by rfl) (by kernel_rfl) (fun K hK => ?_) wpPlan_stop
            go_simp
            refine (C12.out _ (hbw.trans (T.mono (by omega)))).mono ?_
            rintro e x4 ⟨v12, rfl, O12, b⟩
            (try simp only [Act.put, List.getElem_toArray, List.getElem_cons_succ, List.getElem_cons_zero, List.setIfInBounds_toArray, List.set_cons_zero, List.set_cons_succ])
            refine hK _ _ ((T.trans (b.mono (Nat.le_trans hs0 T.size))).mono (by omega)) ?_
            clear hK K
            have B12 : w9.heap.size ≤ x3.heap.size := T9.size
            have B12a : w.heap.size + 2 ≤ x3.heap.size := Nat.le_trans hs0 T.size
            have S12 : x3.heap.size ≤ x4.heap.size := b.size
            replace c14 := cell_up c14 b
            replace T9 := T9.trans (b.mono T9.size)
            replace T := T.trans (b.mono (Nat.le_trans hs0 T.size))
            clear b
            refine wpPlan_op (by rfl) (by kernel_rfl) (fun K hK => ?_) wpPlan_stop
            refine wp_of_list (ops := #[]) rfl (wpList_append_row rfl (.tmp 19) (.tmp 21) 22 rfl x3.heap.size 3 (.int .i64 0) 1 8 Try.underlying22 infoInt rfl (by decide) v12 b.length (ints b) rfl O12 _ 1 [.int .i64 q] rfl (src_one c14) ?_ ?_ ?_ ?_)
            · simp [maxLen]; omega
            · omega
            · first | omega | exact T.size | (have := T.size; omega)
            intro v15 x5 O15 gr _
            refine wpList_nil (only_mk ?_)
            have lo : ∀ k, v12.ownBlock = some k → w.heap.size + 2 ≤ k := fun k hk => by have := (O12.lt k hk).1; omega
            (try simp only [Act.put, List.getElem_toArray, List.getElem_cons_succ, List.getElem_cons_zero, List.setIfInBounds_toArray, List.set_cons_zero, List.set_cons_succ])
            have T' := T.grown gr (Nat.le_trans hs0 T.size) lo
            refine hK _ _ (T'.mono (by omega)) ?_
            clear hK K
            have lo9 : ∀ k, v12.ownBlock = some k → w9.heap.size ≤ k := fun k hk => by have := (O12.lt k hk).1; omega
            replace T9 := T9.grown gr T9.size lo9
            obtain ⟨ao15, n15, cap15, rfl, I15, _⟩ := (own_ints O15 i4.out hq).shape
            clear lo9 O12 c14 O15
            replace T := T'
            clear T' gr lo
            refine wpPlan_op (by rfl) (by kernel_rfl) (fun K hK => ?_) wpPlan_stop
            go_simp
            (try simp only [Act.put, List.getElem_toArray, List.getElem_cons_succ, List.getElem_cons_zero, List.setIfInBounds_toArray, List.set_cons_zero, List.set_cons_succ])
            refine hK _ _ (T.mono (by omega)) ?_
            clear hK K
            refine wpPlan_op (by rfl) (by kernel_rfl) (fun K hK => ?_) wpPlan_stop
            have e0 : x5.cell? ⟨w.heap.size + 1, 0, none⟩ = some (.slice none 0 0) := (T.cell (p := ⟨w.heap.size + 1, 0, none⟩) (by show w.heap.size + 1 < w.heap.size + 2; omega)).trans r0.out
            have e1 : x5.cell? ⟨w.heap.size + 1, 1, none⟩ = some (.slice none 0 0) := (T.cell (p := ⟨w.heap.size + 1, 1, none⟩) (by show w.heap.size + 1 < w.heap.size + 2; omega)).trans r1.out
            have e2 : x5.cell? ⟨w.heap.size + 1, 2, none⟩ = some (.slice none 0 0) := (T.cell (p := ⟨w.heap.size + 1, 2, none⟩) (by show w.heap.size + 1 < w.heap.size + 2; omega)).trans r2.out
            have e3 : x5.cell? ⟨w.heap.size + 1, 3, none⟩ = some (.slice none 0 0) := (T.cell (p := ⟨w.heap.size + 1, 3, none⟩) (by show w.heap.size + 1 < w.heap.size + 2; omega)).trans r3.out
            have ef : ∀ o, x5.frozen? ⟨w.heap.size + 1, o, none⟩ = false := fun o => (T.frozen (p := ⟨w.heap.size + 1, o, none⟩) (by show w.heap.size + 1 < w.heap.size + 2; omega)).trans (rf.out o)
            have T1 : Below (w.heap.size + 1) w0 x5 := T.mono (by omega)
            have hb9 : Below w.heap.size w x5 := hbw.trans (T.mono (by omega))
            go_simp
            (try simp only [Act.put, List.getElem_toArray, List.getElem_cons_succ, List.getElem_cons_zero, List.setIfInBounds_toArray, List.set_cons_zero, List.set_cons_succ])
            refine hK _ _ ?_ ?_
            · (repeat' (first | exact Below.refl _ _ | assumption | (refine Below.alloc ?_ ?_ _) | (refine Below.drew ?_) | (refine Below.setCell ?_ ?_ _) | (refine Below.trans ?_ (Below.mono (by assumption) ?_)) | omega | (simp; done) | (simp; omega)))
            clear hK K
            (refine wpPlan_end ?_)
            go_wp2
            refine bodyPost_ret (v := .agg #[.slice ao1 n1 cap1, .slice ao2 n2 cap2, .slice ao9 n9 cap9, .slice ao15 n15 cap15]) (by simp [results, Try.results159, go_sem, e0, e1, e2, e3, ef]) rfl ?_
            exact with_fin (W := x5) hb9 H1 H2 (I9.up T9) I15 (by omega) (by omega) _ _ _ _
        · refine wpPlan_op (by rfl) (by kernel_rfl) (fun K hK => ?_) wpPlan_stop
          go_simp
          (try simp only [Act.put, List.getElem_toArray, List.getElem_cons_succ, List.getElem_cons_zero, List.setIfInBounds_toArray, List.set_cons_zero, List.set_cons_succ])
          have b : Below x1.heap.size x1 (x1.alloc (.cells #[.int .i64 q] 3)) := (Below.refl _ _).alloc (Nat.le_refl _) _
          refine hK _ _ ((T.trans (b.mono (Nat.le_trans hs0 T.size))).mono (by omega)) ?_
          clear hK K
          have c14 : (x1.alloc (.cells #[.int .i64 q] 3)).cell? ⟨x1.heap.size, 0, none⟩ = some (.int .i64 q) := by go_simp
          have s14 : x1.heap.size < (x1.alloc (.cells #[.int .i64 q] 3)).heap.size := by simp
          have n14 : ∀ k, v6.ownBlock = some k → k ≠ x1.heap.size := fun k hk => by have := (O6.lt k hk).2; omega
          generalize x1.alloc (.cells #[.int .i64 q] 3) = x2 at *
          replace O6 := ownsRow_up O6 b
          replace c8 := cell_up c8 b
          replace T := T.trans (b.mono (Nat.le_trans hs0 T.size))
          clear b
          refine wpPlan_op (by rfl) (by kernel_rfl) (fun K hK => ?_) wpPlan_stop
          refine wp_of_list (ops := #[]) rfl (wpList_append_row rfl (.tmp 13) (.tmp 15) 22 rfl x0.heap.size 3 (.int .i64 0) 1 8 Try.underlying22 infoInt rfl (by decide) v6 a.length (ints a) rfl O6 _ 1 [.int .i64 p] rfl (src_one c8) ?_ ?_ ?_ ?_)
          · simp [maxLen]; omega
          · omega
          · first | omega | exact T.size | (have := T.size; omega)
          intro v9 w9 O9 gr _
          refine wpList_nil (only_mk ?_)
          have lo : ∀ k, v6.ownBlock = some k → w.heap.size + 2 ≤ k := fun k hk => by have := (O6.lt k hk).1; omega
          (try simp only [Act.put, List.getElem_toArray, List.getElem_cons_succ, List.getElem_cons_zero, List.setIfInBounds_toArray, List.set_cons_zero, List.set_cons_succ])
          have T' := T.grown gr (Nat.le_trans hs0 T.size) lo
          refine hK _ _ (T'.mono (by omega)) ?_
          clear hK K
          replace c14 := cell_grown c14 gr (fun k hk => n14 k hk)
          clear n14
          have T9 : Below w9.heap.size w9 w9 := Below.refl _ _
          obtain ⟨ao9, n9, cap9, rfl, I9, _⟩ := (own_ints O9 i3.out hp).shape
          clear O6 c8 O9
          replace T := T'
          clear T' gr lo
          refine wpPlan_op (by rfl) (by kernel_rfl) (fun K hK => ?_) wpPlan_stop
          go_simp
          refine (C12.out _ (hbw.trans (T.mono (by omega)))).mono ?_
          rintro e x4 ⟨v12, rfl, O12, b⟩
          (try simp only [Act.put, List.getElem_toArray, List.getElem_cons_succ, List.getElem_cons_zero, List.setIfInBounds_toArray, List.set_cons_zero, List.set_cons_succ])
          refine hK _ _ ((T.trans (b.mono (Nat.le_trans hs0 T.size))).mono (by omega)) ?_
          clear hK K
          have B12 : w9.heap.size ≤ w9.heap.size := T9.size
          have B12a : w.heap.size + 2 ≤ w9.heap.size := Nat.le_trans hs0 T.size
          have S12 : w9.heap.size ≤ x4.heap.size := b.size
          replace c14 := cell_up c14 b
          replace T9 := T9.trans (b.mono T9.size)
          replace T := T.trans (b.mono (Nat.le_trans hs0 T.size))
          clear b
          refine wpPlan_op (by rfl) (by kernel_rfl) (fun K hK => ?_) wpPlan_stop
          refine wp_of_list (ops := #[]) rfl (wpList_append_row rfl (.tmp 19) (.tmp 21) 22 rfl w9.heap.size 3 (.int .i64 0) 1 8 Try.underlying22 infoInt rfl (by decide) v12 b.length (ints b) rfl O12 _ 1 [.int .i64 q] rfl (src_one c14) ?_ ?_ ?_ ?_)
          · simp [maxLen]; omega
          · omega
          · first | omega | exact T.size | (have := T.size; omega)
          intro v15 x5 O15 gr _
          refine wpList_nil (only_mk ?_)
          have lo : ∀ k, v12.ownBlock = some k → w.heap.size + 2 ≤ k := fun k hk => by have := (O12.lt k hk).1; omega
          (try simp only [Act.put, List.getElem_toArray, List.getElem_cons_succ, List.getElem_cons_zero, List.setIfInBounds_toArray, List.set_cons_zero, List.set_cons_succ])
          have T' := T.grown gr (Nat.le_trans hs0 T.size) lo
          refine hK _ _ (T'.mono (by omega)) ?_
          clear hK K
          have lo9 : ∀ k, v12.ownBlock = some k → w9.heap.size ≤ k := fun k hk => by have := (O12.lt k hk).1; omega
          replace T9 := T9.grown gr T9.size lo9
          obtain ⟨ao15, n15, cap15, rfl, I15, _⟩ := (own_ints O15 i4.out hq).shape
          clear lo9 O12 c14 O15
          replace T := T'
          clear T' gr lo
          refine wpPlan_op (by rfl) (by kernel_rfl) (fun K hK => ?_) wpPlan_stop
          go_simp
          (try simp only [Act.put, List.getElem_toArray, List.getElem_cons_succ, List.getElem_cons_zero, List.setIfInBounds_toArray, List.set_cons_zero, List.set_cons_succ])
          refine hK _ _ (T.mono (by omega)) ?_
          clear hK K
          refine wpPlan_op (by rfl) (by kernel_rfl) (fun K hK => ?_) wpPlan_stop
          have e0 : x5.cell? ⟨w.heap.size + 1, 0, none⟩ = some (.slice none 0 0) := (T.cell (p := ⟨w.heap.size + 1, 0, none⟩) (by show w.heap.size + 1 < w.heap.size + 2; omega)).trans r0.out
          have e1 : x5.cell? ⟨w.heap.size + 1, 1, none⟩ = some (.slice none 0 0) := (T.cell (p := ⟨w.heap.size + 1, 1, none⟩) (by show w.heap.size + 1 < w.heap.size + 2; omega)).trans r1.out
          have e2 : x5.cell? ⟨w.heap.size + 1, 2, none⟩ = some (.slice none 0 0) := (T.cell (p := ⟨w.heap.size + 1, 2, none⟩) (by show w.heap.size + 1 < w.heap.size + 2; omega)).trans r2.out
          have e3 : x5.cell? ⟨w.heap.size + 1, 3, none⟩ = some (.slice none 0 0) := (T.cell (p := ⟨w.heap.size + 1, 3, none⟩) (by show w.heap.size + 1 < w.heap.size + 2; omega)).trans r3.out
          have ef : ∀ o, x5.frozen? ⟨w.heap.size + 1, o, none⟩ = false := fun o => (T.frozen (p := ⟨w.heap.size + 1, o, none⟩) (by show w.heap.size + 1 < w.heap.size + 2; omega)).trans (rf.out o)
          have T1 : Below (w.heap.size + 1) w0 x5 := T.mono (by omega)
          have hb9 : Below w.heap.size w x5 := hbw.trans (T.mono (by omega))
          go_simp
          (try simp only [Act.put, List.getElem_toArray, List.getElem_cons_succ, List.getElem_cons_zero, List.setIfInBounds_toArray, List.set_cons_zero, List.set_cons_succ])
          refine hK _ _ ?_ ?_
          · (repeat' (first | exact Below.refl _ _ | assumption | (refine Below.alloc ?_ ?_ _) | (refine Below.drew ?_) | (refine Below.setCell ?_ ?_ _) | (refine Below.trans ?_ (Below.mono (by assumption) ?_)) | omega | (simp; done) | (simp; omega)))
          clear hK K
          (refine wpPlan_end ?_)
          go_wp2
          refine bodyPost_ret (v := .agg #[.slice ao1 n1 cap1, .slice ao2 n2 cap2, .slice ao9 n9 cap9, .slice ao15 n15 cap15]) (by simp [results, Try.results159, go_sem, e0, e1, e2, e3, ef]) rfl ?_
          exact with_fin (W := x5) hb9 H1 H2 (I9.up T9) I15 (by omega) (by omega) _ _ _ _
      · refine wpPlan_op (by rfl) (by kernel_rfl) (fun K hK => ?_) wpPlan_stop
        go_simp
        (try simp only [Act.put, List.getElem_toArray, List.getElem_cons_succ, List.getElem_cons_zero, List.setIfInBounds_toArray, List.set_cons_zero, List.set_cons_succ])
        have b : Below x0.heap.size x0 (x0.alloc (.cells #[.int .i64 q] 3)) := (Below.refl _ _).alloc (Nat.le_refl _) _
        refine hK _ _ ((T.trans (b.mono (Nat.le_trans hs0 T.size))).mono (by omega)) ?_
        clear hK K
        have c14 : (x0.alloc (.cells #[.int .i64 q] 3)).cell? ⟨x0.heap.size, 0, none⟩ = some (.int .i64 q) := by go_simp
        have s14 : x0.heap.size < (x0.alloc (.cells #[.int .i64 q] 3)).heap.size := by simp
        generalize x0.alloc (.cells #[.int .i64 q] 3) = x1 at *
        replace c8 := cell_up c8 b
        replace T := T.trans (b.mono (Nat.le_trans hs0 T.size))
        clear b
        refine wpPlan_op (by rfl) (by kernel_rfl) (fun K hK => ?_) wpPlan_stop
        go_simp
        refine (C6.out _ (hbw.trans (T.mono (by omega)))).mono ?_
        rintro e x2 ⟨v6, rfl, O6, b⟩
        (try simp only [Act.put, List.getElem_toArray, List.getElem_cons_succ, List.getElem_cons_zero, List.setIfInBounds_toArray, List.set_cons_zero, List.set_cons_succ])
        refine hK _ _ ((T.trans (b.mono (Nat.le_trans hs0 T.size))).mono (by omega)) ?_
        clear hK K
        have B6 : w.heap.size + 2 ≤ x1.heap.size := Nat.le_trans hs0 T.size
        have n14 : ∀ k, v6.ownBlock = some k → k ≠ x0.heap.size := fun k hk => by have := (O6.lt k hk).1; omega
        have S6 : x1.heap.size ≤ x2.heap.size := b.size
        replace c8 := cell_up c8 b
        replace c14 := cell_up c14 b
        replace T := T.trans (b.mono (Nat.le_trans hs0 T.size))
        clear b
        refine wpPlan_op (by rfl) (by kernel_rfl) (fun K hK => ?_) wpPlan_stop
        refine wp_of_list (ops := #[]) rfl (wpList_append_row rfl (.tmp 13) (.tmp 15) 22 rfl x1.heap.size 3 (.int .i64 0) 1 8 Try.underlying22 infoInt rfl (by decide) v6 a.length (ints a) rfl O6 _ 1 [.int .i64 p] rfl (src_one c8) ?_ ?_ ?_ ?_)
        · simp [maxLen]; omega
        · omega
        · first | omega | exact T.size | (have := T.size; omega)
        intro v9 w9 O9 gr _
        refine wpList_nil (only_mk ?_)
        have lo : ∀ k, v6.ownBlock = some k → w.heap.size + 2 ≤ k := fun k hk => by have := (O6.lt k hk).1; omega
        (try simp only [Act.put, List.getElem_toArray, List.getElem_cons_succ, List.getElem_cons_zero, List.setIfInBounds_toArray, List.set_cons_zero, List.set_cons_succ])
        have T' := T.grown gr (Nat.le_trans hs0 T.size) lo
        refine hK _ _ (T'.mono (by omega)) ?_
        clear hK K
        replace c14 := cell_grown c14 gr (fun k hk => n14 k hk)
        clear n14
        have T9 : Below w9.heap.size w9 w9 := Below.refl _ _
        obtain ⟨ao9, n9, cap9, rfl, I9, _⟩ := (own_ints O9 i3.out hp).shape
        clear O6 c8 O9
        replace T := T'
        clear T' gr lo
        refine wpPlan_op (by rfl) (by kernel_rfl) (fun K hK => ?_) wpPlan_stop
        go_simp
        refine (C12.out _ (hbw.trans (T.mono (by omega)))).mono ?_
        rintro e x4 ⟨v12, rfl, O12, b⟩
        (try simp only [Act.put, List.getElem_toArray, List.getElem_cons_succ, List.getElem_cons_zero, List.setIfInBounds_toArray, List.set_cons_zero, List.set_cons_succ])
        refine hK _ _ ((T.trans (b.mono (Nat.le_trans hs0 T.size))).mono (by omega)) ?_
        clear hK K
        have B12 : w9.heap.size ≤ w9.heap.size := T9.size
        have B12a : w.heap.size + 2 ≤ w9.heap.size := Nat.le_trans hs0 T.size
        have S12 : w9.heap.size ≤ x4.heap.size := b.size
        replace c14 := cell_up c14 b
        replace T9 := T9.trans (b.mono T9.size)
        replace T := T.trans (b.mono (Nat.le_trans hs0 T.size))
        clear b
        refine wpPlan_op (by rfl) (by kernel_rfl) (fun K hK => ?_) wpPlan_stop
        refine wp_of_list (ops := #[]) rfl (wpList_append_row rfl (.tmp 19) (.tmp 21) 22 rfl w9.heap.size 3 (.int .i64 0) 1 8 Try.underlying22 infoInt rfl (by decide) v12 b.length (ints b) rfl O12 _ 1 [.int .i64 q] rfl (src_one c14) ?_ ?_ ?_ ?_)
        · simp [maxLen]; omega
        · omega
        · first | omega | exact T.size | (have := T.size; omega)
        intro v15 x5 O15 gr _
        refine wpList_nil (only_mk ?_)
        have lo : ∀ k, v12.ownBlock = some k → w.heap.size + 2 ≤ k := fun k hk => by have := (O12.lt k hk).1; omega
        (try simp only [Act.put, List.getElem_toArray, List.getElem_cons_succ, List.getElem_cons_zero, List.setIfInBounds_toArray, List.set_cons_zero, List.set_cons_succ])
        have T' := T.grown gr (Nat.le_trans hs0 T.size) lo
        refine hK _ _ (T'.mono (by omega)) ?_
        clear hK K
        have lo9 : ∀ k, v12.ownBlock = some k → w9.heap.size ≤ k := fun k hk => by have := (O12.lt k hk).1; omega
        replace T9 := T9.grown gr T9.size lo9
        obtain ⟨ao15, n15, cap15, rfl, I15, _⟩ := (own_ints O15 i4.out hq).shape
        clear lo9 O12 c14 O15
        replace T := T'
        clear T' gr lo
        refine wpPlan_op (by rfl) (by kernel_rfl) (fun K hK => ?_) wpPlan_stop
        go_simp
        (try simp only [Act.put, List.getElem_toArray, List.getElem_cons_succ, List.getElem_cons_zero, List.setIfInBounds_toArray, List.set_cons_zero, List.set_cons_succ])
        refine hK _ _ (T.mono (by omega)) ?_
        clear hK K
        refine wpPlan_op (by rfl) (by kernel_rfl) (fun K hK => ?_) wpPlan_stop
        have e0 : x5.cell? ⟨w.heap.size + 1, 0, none⟩ = some (.slice none 0 0) := (T.cell (p := ⟨w.heap.size + 1, 0, none⟩) (by show w.heap.size + 1 < w.heap.size + 2; omega)).trans r0.out
        have e1 : x5.cell? ⟨w.heap.size + 1, 1, none⟩ = some (.slice none 0 0) := (T.cell (p := ⟨w.heap.size + 1, 1, none⟩) (by show w.heap.size + 1 < w.heap.size + 2; omega)).trans r1.out
        have e2 : x5.cell? ⟨w.heap.size + 1, 2, none⟩ = some (.slice none 0 0) := (T.cell (p := ⟨w.heap.size + 1, 2, none⟩) (by show w.heap.size + 1 < w.heap.size + 2; omega)).trans r2.out
        have e3 : x5.cell? ⟨w.heap.size + 1, 3, none⟩ = some (.slice none 0 0) := (T.cell (p := ⟨w.heap.size + 1, 3, none⟩) (by show w.heap.size + 1 < w.heap.size + 2; omega)).trans r3.out
        have ef : ∀ o, x5.frozen? ⟨w.heap.size + 1, o, none⟩ = false := fun o => (T.frozen (p := ⟨w.heap.size + 1, o, none⟩) (by show w.heap.size + 1 < w.heap.size + 2; omega)).trans (rf.out o)
        have T1 : Below (w.heap.size + 1) w0 x5 := T.mono (by omega)
        have hb9 : Below w.heap.size w x5 := hbw.trans (T.mono (by omega))
        go_simp
        (try simp only [Act.put, List.getElem_toArray, List.getElem_cons_succ, List.getElem_cons_zero, List.setIfInBounds_toArray, List.set_cons_zero, List.set_cons_succ])
        refine hK _ _ ?_ ?_
        · (repeat' (first | exact Below.refl _ _ | assumption | (refine Below.alloc ?_ ?_ _) | (refine Below.drew ?_) | (refine Below.setCell ?_ ?_ _) | (refine Below.trans ?_ (Below.mono (by assumption) ?_)) | omega | (simp; done) | (simp; omega)))
        clear hK K
        (refine wpPlan_end ?_)
        go_wp2
        refine bodyPost_ret (v := .agg #[.slice ao1 n1 cap1, .slice ao2 n2 cap2, .slice ao9 n9 cap9, .slice ao15 n15 cap15]) (by simp [results, Try.results159, go_sem, e0, e1, e2, e3, ef]) rfl ?_
        exact with_fin (W := x5) hb9 H1 H2 (I9.up T9) I15 (by omega) (by omega) _ _ _ _
    · refine wpPlan_op (by rfl) (by kernel_rfl) (fun K hK => ?_) wpPlan_stop
      go_simp
      (try simp only [Act.put, List.getElem_toArray, List.getElem_cons_succ, List.getElem_cons_zero, List.setIfInBounds_toArray, List.set_cons_zero, List.set_cons_succ])
      have b : Below w0.heap.size w0 (w0.alloc (.cells #[.int .i64 q] 3)) := (Below.refl _ _).alloc (Nat.le_refl _) _
      refine hK _ _ ((T.trans (b.mono (Nat.le_trans hs0 T.size))).mono (by omega)) ?_
      clear hK K
      have c14 : (w0.alloc (.cells #[.int .i64 q] 3)).cell? ⟨w0.heap.size, 0, none⟩ = some (.int .i64 q) := by go_simp
      have s14 : w0.heap.size < (w0.alloc (.cells #[.int .i64 q] 3)).heap.size := by simp
      generalize w0.alloc (.cells #[.int .i64 q] 3) = x0 at *
      replace T := T.trans (b.mono (Nat.le_trans hs0 T.size))
      clear b
      refine wpPlan_op (by rfl) (by kernel_rfl) (fun K hK => ?_) ?_
      · go_simp
        refine (C6.out _ (hbw.trans (T.mono (by omega)))).mono ?_
        rintro e x1 ⟨v6, rfl, O6, b⟩
        (try simp only [Act.put, List.getElem_toArray, List.getElem_cons_succ, List.getElem_cons_zero, List.setIfInBounds_toArray, List.set_cons_zero, List.set_cons_succ])
        refine hK _ _ ((T.trans (b.mono (Nat.le_trans hs0 T.size))).mono (by omega)) ?_
        clear hK K
        have B6 : w.heap.size + 2 ≤ x0.heap.size := Nat.le_trans hs0 T.size
        have n14 : ∀ k, v6.ownBlock = some k → k ≠ w0.heap.size := fun k hk => by have := (O6.lt k hk).1; omega
        have S6 : x0.heap.size ≤ x1.heap.size := b.size
        replace c14 := cell_up c14 b
        replace T := T.trans (b.mono (Nat.le_trans hs0 T.size))
        clear b
        refine wpPlan_op (by rfl) (by kernel_rfl) (fun K hK => ?_) wpPlan_stop
        go_simp
        (try simp only [Act.put, List.getElem_toArray, List.getElem_cons_succ, List.getElem_cons_zero, List.setIfInBounds_toArray, List.set_cons_zero, List.set_cons_succ])
        have b : Below x1.heap.size x1 (x1.alloc (.cells #[.int .i64 p] 3)) := (Below.refl _ _).alloc (Nat.le_refl _) _
        refine hK _ _ ((T.trans (b.mono (Nat.le_trans hs0 T.size))).mono (by omega)) ?_
        clear hK K
        have c8 : (x1.alloc (.cells #[.int .i64 p] 3)).cell? ⟨x1.heap.size, 0, none⟩ = some (.int .i64 p) := by go_simp
        have s8 : x1.heap.size < (x1.alloc (.cells #[.int .i64 p] 3)).heap.size := by simp
        generalize x1.alloc (.cells #[.int .i64 p] 3) = x2 at *
        replace O6 := ownsRow_up O6 b
        replace c14 := cell_up c14 b
        replace T := T.trans (b.mono (Nat.le_trans hs0 T.size))
        clear b
        refine wpPlan_op (by rfl) (by kernel_rfl) (fun K hK => ?_) wpPlan_stop
        refine wp_of_list (ops := #[]) rfl (wpList_append_row rfl (.tmp 13) (.tmp 15) 22 rfl x0.heap.size 3 (.int .i64 0) 1 8 Try.underlying22 infoInt rfl (by decide) v6 a.length (ints a) rfl O6 _ 1 [.int .i64 p] rfl (src_one c8) ?_ ?_ ?_ ?_)
        · simp [maxLen]; omega
        · omega
        · first | omega | exact T.size | (have := T.size; omega)
        intro v9 w9 O9 gr _
        refine wpList_nil (only_mk ?_)
        have lo : ∀ k, v6.ownBlock = some k → w.heap.size + 2 ≤ k := fun k hk => by have := (O6.lt k hk).1; omega
        (try simp only [Act.put, List.getElem_toArray, List.getElem_cons_succ, List.getElem_cons_zero, List.setIfInBounds_toArray, List.set_cons_zero, List.set_cons_succ])
        have T' := T.grown gr (Nat.le_trans hs0 T.size) lo
        refine hK _ _ (T'.mono (by omega)) ?_
        clear hK K
        replace c14 := cell_grown c14 gr (fun k hk => n14 k hk)
        clear n14
        have T9 : Below w9.heap.size w9 w9 := Below.refl _ _
        obtain ⟨ao9, n9, cap9, rfl, I9, _⟩ := (own_ints O9 i3.out hp).shape
        clear O6 c8 O9
        replace T := T'
        clear T' gr lo
        refine wpPlan_op (by rfl) (by kernel_rfl) (fun K hK => ?_) wpPlan_stop
        go_simp
        refine (C12.out _ (hbw.trans (T.mono (by omega)))).mono ?_
        rintro e x4 ⟨v12, rfl, O12, b⟩
        (try simp only [Act.put, List.getElem_toArray, List.getElem_cons_succ, List.getElem_cons_zero, List.setIfInBounds_toArray, List.set_cons_zero, List.set_cons_succ])
        refine hK _ _ ((T.trans (b.mono (Nat.le_trans hs0 T.size))).mono (by omega)) ?_
        clear hK K
        have B12 : w9.heap.size ≤ w9.heap.size := T9.size
        have B12a : w.heap.size + 2 ≤ w9.heap.size := Nat.le_trans hs0 T.size
        have S12 : w9.heap.size ≤ x4.heap.size := b.size
        replace c14 := cell_up c14 b
        replace T9 := T9.trans (b.mono T9.size)
        replace T := T.trans (b.mono (Nat.le_trans hs0 T.size))
        clear b
        refine wpPlan_op (by rfl) (by kernel_rfl) (fun K hK => ?_) wpPlan_stop
        refine wp_of_list (ops := #[]) rfl (wpList_append_row rfl (.tmp 19) (.tmp 21) 22 rfl w9.heap.size 3 (.int .i64 0) 1 8 Try.underlying22 infoInt rfl (by decide) v12 b.length (ints b) rfl O12 _ 1 [.int .i64 q] rfl (src_one c14) ?_ ?_ ?_ ?_)
        · simp [maxLen]; omega
        · omega
        · first | omega | exact T.size | (have := T.size; omega)
        intro v15 x5 O15 gr _
        refine wpList_nil (only_mk ?_)
        have lo : ∀ k, v12.ownBlock = some k → w.heap.size + 2 ≤ k := fun k hk => by have := (O12.lt k hk).1; omega
        (try simp only [Act.put, List.getElem_toArray, List.getElem_cons_succ, List.getElem_cons_zero, List.setIfInBounds_toArray, List.set_cons_zero, List.set_cons_succ])
        have T' := T.grown gr (Nat.le_trans hs0 T.size) lo
        refine hK _ _ (T'.mono (by omega)) ?_
        clear hK K
        have lo9 : ∀ k, v12.ownBlock = some k → w9.heap.size ≤ k := fun k hk => by have := (O12.lt k hk).1; omega
        replace T9 := T9.grown gr T9.size lo9
        obtain ⟨ao15, n15, cap15, rfl, I15, _⟩ := (own_ints O15 i4.out hq).shape
        clear lo9 O12 c14 O15
        replace T := T'
        clear T' gr lo
        refine wpPlan_op (by rfl) (by kernel_rfl) (fun K hK => ?_) wpPlan_stop
        go_simp
        (try simp only [Act.put, List.getElem_toArray, List.getElem_cons_succ, List.getElem_cons_zero, List.setIfInBounds_toArray, List.set_cons_zero, List.set_cons_succ])
        refine hK _ _ (T.mono (by omega)) ?_
        clear hK K
        refine wpPlan_op (by rfl) (by kernel_rfl) (fun K hK => ?_) wpPlan_stop
        have e0 : x5.cell? ⟨w.heap.size + 1, 0, none⟩ = some (.slice none 0 0) := (T.cell (p := ⟨w.heap.size + 1, 0, none⟩) (by show w.heap.size + 1 < w.heap.size + 2; omega)).trans r0.out
        have e1 : x5.cell? ⟨w.heap.size + 1, 1, none⟩ = some (.slice none 0 0) := (T.cell (p := ⟨w.heap.size + 1, 1, none⟩) (by show w.heap.size + 1 < w.heap.size + 2; omega)).trans r1.out
        have e2 : x5.cell? ⟨w.heap.size + 1, 2, none⟩ = some (.slice none 0 0) := (T.cell (p := ⟨w.heap.size + 1, 2, none⟩) (by show w.heap.size + 1 < w.heap.size + 2; omega)).trans r2.out
        have e3 : x5.cell? ⟨w.heap.size + 1, 3, none⟩ = some (.slice none 0 0) := (T.cell (p := ⟨w.heap.size + 1, 3, none⟩) (by show w.heap.size + 1 < w.heap.size + 2; omega)).trans r3.out
        have ef : ∀ o, x5.frozen? ⟨w.heap.size + 1, o, none⟩ = false := fun o => (T.frozen (p := ⟨w.heap.size + 1, o, none⟩) (by show w.heap.size + 1 < w.heap.size + 2; omega)).trans (rf.out o)
        have T1 : Below (w.heap.size + 1) w0 x5 := T.mono (by omega)
        have hb9 : Below w.heap.size w x5 := hbw.trans (T.mono (by omega))
        go_simp
        (try simp only [Act.put, List.getElem_toArray, List.getElem_cons_succ, List.getElem_cons_zero, List.setIfInBounds_toArray, List.set_cons_zero, List.set_cons_succ])
        refine hK _ _ ?_ ?_
        · (repeat' (first | exact Below.refl _ _ | assumption | (refine Below.alloc ?_ ?_ _) | (refine Below.drew ?_) | (refine Below.setCell ?_ ?_ _) | (refine Below.trans ?_ (Below.mono (by assumption) ?_)) | omega | (simp; done) | (simp; omega)))
        clear hK K
        (refine wpPlan_end ?_)
        go_wp2
        refine bodyPost_ret (v := .agg #[.slice ao1 n1 cap1, .slice ao2 n2 cap2, .slice ao9 n9 cap9, .slice ao15 n15 cap15]) (by simp [results, Try.results159, go_sem, e0, e1, e2, e3, ef]) rfl ?_
        exact with_fin (W := x5) hb9 H1 H2 (I9.up T9) I15 (by omega) (by omega) _ _ _ _
      · refine wpPlan_op (by rfl) (by kernel_rfl) (fun K hK => ?_) wpPlan_stop
        go_simp
        (try simp only [Act.put, List.getElem_toArray, List.getElem_cons_succ, List.getElem_cons_zero, List.setIfInBounds_toArray, List.set_cons_zero, List.set_cons_succ])
        have b : Below x0.heap.size x0 (x0.alloc (.cells #[.int .i64 p] 3)) := (Below.refl _ _).alloc (Nat.le_refl _) _
        refine hK _ _ ((T.trans (b.mono (Nat.le_trans hs0 T.size))).mono (by omega)) ?_
        clear hK K
        have c8 : (x0.alloc (.cells #[.int .i64 p] 3)).cell? ⟨x0.heap.size, 0, none⟩ = some (.int .i64 p) := by go_simp
        have s8 : x0.heap.size < (x0.alloc (.cells #[.int .i64 p] 3)).heap.size := by simp
        generalize x0.alloc (.cells #[.int .i64 p] 3) = x1 at *
        replace c14 := cell_up c14 b
        replace T := T.trans (b.mono (Nat.le_trans hs0 T.size))
        clear b
        refine wpPlan_op (by rfl) (by kernel_rfl) (fun K hK => ?_) wpPlan_stop
        go_simp
        refine (C6.out _ (hbw.trans (T.mono (by omega)))).mono ?_
        rintro e x2 ⟨v6, rfl, O6, b⟩
        (try simp only [Act.put, List.getElem_toArray, List.getElem_cons_succ, List.getElem_cons_zero, List.setIfInBounds_toArray, List.set_cons_zero, List.set_cons_succ])
        refine hK _ _ ((T.trans (b.mono (Nat.le_trans hs0 T.size))).mono (by omega)) ?_
        clear hK K
        have B6 : w.heap.size + 2 ≤ x1.heap.size := Nat.le_trans hs0 T.size
        have n14 : ∀ k, v6.ownBlock = some k → k ≠ w0.heap.size := fun k hk => by have := (O6.lt k hk).1; omega
        have S6 : x1.heap.size ≤ x2.heap.size := b.size
        replace c8 := cell_up c8 b
        replace c14 := cell_up c14 b
        replace T := T.trans (b.mono (Nat.le_trans hs0 T.size))
        clear b
        refine wpPlan_op (by rfl) (by kernel_rfl) (fun K hK => ?_) wpPlan_stop
        refine wp_of_list (ops := #[]) rfl (wpList_append_row rfl (.tmp 13) (.tmp 15) 22 rfl x1.heap.size 3 (.int .i64 0) 1 8 Try.underlying22 infoInt rfl (by decide) v6 a.length (ints a) rfl O6 _ 1 [.int .i64 p] rfl (src_one c8) ?_ ?_ ?_ ?_)
        · simp [maxLen]; omega
        · omega
        · first | omega | exact T.size | (have := T.size; omega)
        intro v9 w9 O9 gr _
        refine wpList_nil (only_mk ?_)
        have lo : ∀ k, v6.ownBlock = some k → w.heap.size + 2 ≤ k := fun k hk => by have := (O6.lt k hk).1; omega
        (try simp only [Act.put, List.getElem_toArray, List.getElem_cons_succ, List.getElem_cons_zero, List.setIfInBounds_toArray, List.set_cons_zero, List.set_cons_succ])
        have T' := T.grown gr (Nat.le_trans hs0 T.size) lo
        refine hK _ _ (T'.mono (by omega)) ?_
        clear hK K
        replace c14 := cell_grown c14 gr (fun k hk => n14 k hk)
        clear n14
        have T9 : Below w9.heap.size w9 w9 := Below.refl _ _
        obtain ⟨ao9, n9, cap9, rfl, I9, _⟩ := (own_ints O9 i3.out hp).shape
        clear O6 c8 O9
        replace T := T'
        clear T' gr lo
        refine wpPlan_op (by rfl) (by kernel_rfl) (fun K hK => ?_) wpPlan_stop
        go_simp
        refine (C12.out _ (hbw.trans (T.mono (by omega)))).mono ?_
        rintro e x4 ⟨v12, rfl, O12, b⟩
        (try simp only [Act.put, List.getElem_toArray, List.getElem_cons_succ, List.getElem_cons_zero, List.setIfInBounds_toArray, List.set_cons_zero, List.set_cons_succ])
        refine hK _ _ ((T.trans (b.mono (Nat.le_trans hs0 T.size))).mono (by omega)) ?_
        clear hK K
        have B12 : w9.heap.size ≤ w9.heap.size := T9.size
        have B12a : w.heap.size + 2 ≤ w9.heap.size := Nat.le_trans hs0 T.size
        have S12 : w9.heap.size ≤ x4.heap.size := b.size
        replace c14 := cell_up c14 b
        replace T9 := T9.trans (b.mono T9.size)
        replace T := T.trans (b.mono (Nat.le_trans hs0 T.size))
        clear b
        refine wpPlan_op (by rfl) (by kernel_rfl) (fun K hK => ?_) wpPlan_stop
        refine wp_of_list (ops := #[]) rfl (wpList_append_row rfl (.tmp 19) (.tmp 21) 22 rfl w9.heap.size 3 (.int .i64 0) 1 8 Try.underlying22 infoInt rfl (by decide) v12 b.length (ints b) rfl O12 _ 1 [.int .i64 q] rfl (src_one c14) ?_ ?_ ?_ ?_)
        · simp [maxLen]; omega
        · omega
        · first | omega | exact T.size | (have := T.size; omega)
        intro v15 x5 O15 gr _
        refine wpList_nil (only_mk ?_)
        have lo : ∀ k, v12.ownBlock = some k → w.heap.size + 2 ≤ k := fun k hk => by have := (O12.lt k hk).1; omega
        (try simp only [Act.put, List.getElem_toArray, List.getElem_cons_succ, List.getElem_cons_zero, List.setIfInBounds_toArray, List.set_cons_zero, List.set_cons_succ])
        have T' := T.grown gr (Nat.le_trans hs0 T.size) lo
        refine hK _ _ (T'.mono (by omega)) ?_
        clear hK K
        have lo9 : ∀ k, v12.ownBlock = some k → w9.heap.size ≤ k := fun k hk => by have := (O12.lt k hk).1; omega
        replace T9 := T9.grown gr T9.size lo9
        obtain ⟨ao15, n15, cap15, rfl, I15, _⟩ := (own_ints O15 i4.out hq).shape
        clear lo9 O12 c14 O15
        replace T := T'
        clear T' gr lo
        refine wpPlan_op (by rfl) (by kernel_rfl) (fun K hK => ?_) wpPlan_stop
        go_simp
        (try simp only [Act.put, List.getElem_toArray, List.getElem_cons_succ, List.getElem_cons_zero, List.setIfInBounds_toArray, List.set_cons_zero, List.set_cons_succ])
        refine hK _ _ (T.mono (by omega)) ?_
        clear hK K
        refine wpPlan_op (by rfl) (by kernel_rfl) (fun K hK => ?_) wpPlan_stop
        have e0 : x5.cell? ⟨w.heap.size + 1, 0, none⟩ = some (.slice none 0 0) := (T.cell (p := ⟨w.heap.size + 1, 0, none⟩) (by show w.heap.size + 1 < w.heap.size + 2; omega)).trans r0.out
        have e1 : x5.cell? ⟨w.heap.size + 1, 1, none⟩ = some (.slice none 0 0) := (T.cell (p := ⟨w.heap.size + 1, 1, none⟩) (by show w.heap.size + 1 < w.heap.size + 2; omega)).trans r1.out
        have e2 : x5.cell? ⟨w.heap.size + 1, 2, none⟩ = some (.slice none 0 0) := (T.cell (p := ⟨w.heap.size + 1, 2, none⟩) (by show w.heap.size + 1 < w.heap.size + 2; omega)).trans r2.out
        have e3 : x5.cell? ⟨w.heap.size + 1, 3, none⟩ = some (.slice none 0 0) := (T.cell (p := ⟨w.heap.size + 1, 3, none⟩) (by show w.heap.size + 1 < w.heap.size + 2; omega)).trans r3.out
        have ef : ∀ o, x5.frozen? ⟨w.heap.size + 1, o, none⟩ = false := fun o => (T.frozen (p := ⟨w.heap.size + 1, o, none⟩) (by show w.heap.size + 1 < w.heap.size + 2; omega)).trans (rf.out o)
        have T1 : Below (w.heap.size + 1) w0 x5 := T.mono (by omega)
        have hb9 : Below w.heap.size w x5 := hbw.trans (T.mono (by omega))
        go_simp
        (try simp only [Act.put, List.getElem_toArray, List.getElem_cons_succ, List.getElem_cons_zero, List.setIfInBounds_toArray, List.set_cons_zero, List.set_cons_succ])
        refine hK _ _ ?_ ?_
        · (repeat' (first | exact Below.refl _ _ | assumption | (refine Below.alloc ?_ ?_ _) | (refine Below.drew ?_) | (refine Below.setCell ?_ ?_ _) | (refine Below.trans ?_ (Below.mono (by assumption) ?_)) | omega | (simp; done) | (simp; omega)))
        clear hK K
        (refine wpPlan_end ?_)
        go_wp2
        refine bodyPost_ret (v := .agg #[.slice ao1 n1 cap1, .slice ao2 n2 cap2, .slice ao9 n9 cap9, .slice ao15 n15 cap15]) (by simp [results, Try.results159, go_sem, e0, e1, e2, e3, ef]) rfl ?_
        exact with_fin (W := x5) hb9 H1 H2 (I9.up T9) I15 (by omega) (by omega) _ _ _ _
end Go.Proofs.Ytfpdnigihjmohaa
