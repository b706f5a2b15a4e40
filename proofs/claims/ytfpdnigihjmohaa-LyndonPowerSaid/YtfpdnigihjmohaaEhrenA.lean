/- The walks of the play with two words: what is asked of the words, and whether two places may be pointed to. -/
import Derived.Test.YtfpdnigihjmohaaWordA
import Derived.Test.YtfpdnigihjmohaaEhrenP
namespace Go.Proofs.Ytfpdnigihjmohaa
open Go.RowKit
set_option linter.unusedSimpArgs false
set_option linter.unusedVariables false
attribute [local irreducible] wpList

theorem cmp_any (x y : Int) (w : World) : Calls Try.prog 115 #[.int .i64 x, .int .i64 y] w fun e w' => e = .returned (.int .i64 (cmpS x y)) ∧ w = w' := by
  by_cases h1 : x < y
  · have e : cmpS x y = -1 := by unfold cmpS; rw [if_pos h1]
    rw [e]
    clear e
    go_enter Try.func115, Try.ntmps115
    go_wp2
    go_ret
    exact ⟨rfl, rfl⟩
  by_cases h2 : y < x
  · have e : cmpS x y = 1 := by unfold cmpS; rw [if_neg h1, if_pos h2]
    rw [e]
    clear e
    go_enter Try.func115, Try.ntmps115
    go_wp2
    go_ret
    exact ⟨rfl, rfl⟩
  · have e : cmpS x y = 0 := by unfold cmpS; rw [if_neg h1, if_neg h2]
    rw [e]
    clear e
    go_enter Try.func115, Try.ntmps115
    go_wp2
    go_ret
    exact ⟨rfl, rfl⟩

theorem fits_no {u v a b : List Int} {p q : Nat} (h : u.getD p 0 ≠ v.getD q 0) : fitsS u v a b p q = false := by
  rw [Bool.eq_false_iff]
  intro e
  exact h (fits_iff.1 e).1
theorem fits_at {u v a b : List Int} {p q i : Nat} (hi : i < a.length) (h : cmpS (a.getD i 0) p ≠ cmpS (b.getD i 0) q) : fitsS u v a b p q = false := by
  rw [Bool.eq_false_iff]
  intro e
  exact h ((fits_iff.1 e).2 i hi)

set_option maxHeartbeats 1000000 in
theorem fits_any (v1 v2 v3 v4 : Value) (u v a b : List Int) (p q : Nat) (w : World) (h1 : Ints w v1 u) (h2 : Ints w v2 v) (h3 : Ints w v3 a) (h4 : Ints w v4 b) (hp : p < u.length) (hq : q < v.length) (hab : a.length = b.length) :
    Calls Try.prog 158 #[.agg #[v1, v2, v3, v4], .int .i64 p, .int .i64 q] w fun e w' => e = .returned (.bool (fitsS u v a b p q)) ∧ Below w.heap.size w w' := by
  obtain ⟨ao1, n1, cap1, rfl, H1, L1, hc1, hm1⟩ := h1.shape
  obtain ⟨ao2, n2, cap2, rfl, H2, L2, hc2, hm2⟩ := h2.shape
  obtain ⟨ao3, n3, cap3, rfl, H3, L3, hc3, hm3⟩ := h3.shape
  obtain ⟨ao4, n4, cap4, rfl, H4, L4, hc4, hm4⟩ := h4.shape
  clear h1 h2 h3 h4
  rw [← L1.out] at hp
  rw [← L2.out] at hq
  have h34 : n3 = n4 := by rw [L3.out, L4.out, hab]
  subst h34
  obtain ⟨b1, o1, rfl, hck1, hb1, hw1, hw1'⟩ := H1.int hp
  obtain ⟨b2, o2, rfl, hck2, hb2, hw2, hw2'⟩ := H2.int hq
  generalize hz1 : u.getD p 0 = z1 at *
  generalize hz2 : v.getD q 0 = z2 at *
  have Hz1 := Lib.hid hz1
  have Hz2 := Lib.hid hz2
  clear hz1 hz2
  by_cases hz : z1 = z2
  · have hz' : (z1 != z2) = false := by simpa using hz
    replace hz := Lib.hid hz
    go_enter Try.func158, Try.ntmps158
    go_wp2
    (apply wp_region_soft; (focus kernel_rfl); (focus kernel_rfl); (focus (intro K hK; go_wp2; exact only_mk hK)); (focus ((((try simp only [sides, hasSide, side, lowV, intV, slV, ptrV, Act.eval, Region.wanted, yielded_eq]); go_simp) <;> (try omega)))))
    go_wp2
    go_loopw [22] (fun i wr => ∃ k : Nat, k ≤ n3 ∧ i = .int .i64 k ∧ (∀ j, j < k → cmpS (a.getD j 0) p = cmpS (b.getD j 0) q) ∧ Below (w.heap.size + 1) (w.alloc (.cells #[.slice (some ⟨b1, o1, none⟩) n1 cap1, .slice (some ⟨b2, o2, none⟩) n2 cap2, .slice ao3 n3 cap3, .slice ao4 n3 cap4] 134)) wr) (fun i _ => n3 - (intOf i).toNat)
    case atStart => exact ⟨0, Nat.zero_le _, rfl, fun j hj => by omega, by simpa using (Below.refl _ _).drew⟩
    case round =>
      obtain ⟨k, hk, rfl, hg, hb⟩ := hrel
      have hg := Lib.hid hg
      obtain ⟨d0, d1⟩ := bcell hb
      have hs := hb.size
      simp at hs
      have hbw : Below w.heap.size w wr := ((Below.refl w.heap.size w).alloc (Nat.le_refl _) _).trans (hb.mono (Nat.le_succ _))
      by_cases hlt : k < n3
      · obtain ⟨b3, o3, rfl, hck3, hb3, hw3, hw3'⟩ := (H3.up hbw).int hlt
        obtain ⟨b4, o4, rfl, hck4, hb4, hw4, hw4'⟩ := (H4.up hbw).int hlt
        have hcm : Hid (cmpS (a.getD k 0) p = cmpS (b.getD k 0) q ∨ cmpS (a.getD k 0) p ≠ cmpS (b.getD k 0) q) := Lib.hid (Decidable.em _)
        have hcn : Hid (cmpS (a.getD k 0) p ≠ cmpS (b.getD k 0) q → fitsS u v a b p q = false) := Lib.hid (fun h => fits_at (i := k) (by rw [← L3.out]; exact hlt) h)
        have e3 := Lib.hid (cmp_any (a.getD k 0) p)
        have e4 := Lib.hid (cmp_any (b.getD k 0) q)
        have hgk : Hid (∀ c3 c4 : Int, c3 = c4 → cmpS (a.getD k 0) p = c3 → cmpS (b.getD k 0) q = c4 → ∀ j, j < k + 1 → cmpS (a.getD j 0) p = cmpS (b.getD j 0) q) := Lib.hid (fun c3 c4 h1 h2 h3 j hj => by
          by_cases e : j = k
          · rw [e, h2, h3, h1]
          · exact hg.out j (by omega))
        generalize h3 : cmpS (a.getD k 0) p = x3 at *
        generalize h4 : cmpS (b.getD k 0) q = x4 at *
        generalize a.getD k 0 = z3 at *
        generalize b.getD k 0 = z4 at *
        rcases hcm.out with hc | hc
        · have hc' : (x3 != x4) = false := by simpa using hc
          replace hc := Lib.hid hc
          replace h3 := Lib.hid h3
          replace h4 := Lib.hid h4
          go_wp2
          refine wp_region_plan (.soft [0, 1, 2, 3, 4, 5, 7, 8, 9, 10, 11, 12] (.alt 6 (.alt 13 (.soft [14] .done) .stop) .stop)) wr.heap.size (by kernel_rfl) (by kernel_rfl) (by kernel_rfl) ?_; (apply wpPlan_soft; (focus (intro K hK; (conv => arg 4; (simp only [pick, List.filterMap_cons, List.filterMap_nil, List.getElem?_toArray, List.getElem?_cons_succ, List.getElem?_cons_zero])); go_wp2; exact only_mk hK)); (focus ((simp only [pick, List.filterMap_cons, List.filterMap_nil, List.getElem?_toArray, List.getElem?_cons_succ, List.getElem?_cons_zero]); (((try simp only [sides, hasSide, side, lowV, intV, slV, ptrV, Act.eval, Region.wanted, yielded_eq]); go_simp) <;> (try omega))))); (refine wpPlan_op (by rfl) (by kernel_rfl) (fun K hK => ?_) wpPlan_stop; go_simp); refine (e3.out _).mono ?_; rintro e w1 ⟨rfl, rfl⟩; ((try simp only [Act.put, List.getElem_toArray, List.getElem_cons_succ, List.getElem_cons_zero, List.setIfInBounds_toArray, List.set_cons_zero, List.set_cons_succ]); refine hK _ _ ?_ ?_; (focus ((repeat' (first | exact Below.refl _ _ | assumption | (refine Below.alloc ?_ ?_ _) | (refine Below.drew ?_) | (refine Below.setCell ?_ ?_ _) | (refine Below.trans ?_ (Below.mono (by assumption) ?_)) | omega | (simp; done) | (simp; omega))))); clear hK K); (refine wpPlan_op (by rfl) (by kernel_rfl) (fun K hK => ?_) wpPlan_stop; go_simp); refine (e4.out _).mono ?_; rintro e w1 ⟨rfl, rfl⟩; ((try simp only [Act.put, List.getElem_toArray, List.getElem_cons_succ, List.getElem_cons_zero, List.setIfInBounds_toArray, List.set_cons_zero, List.set_cons_succ]); refine hK _ _ ?_ ?_; (focus ((repeat' (first | exact Below.refl _ _ | assumption | (refine Below.alloc ?_ ?_ _) | (refine Below.drew ?_) | (refine Below.setCell ?_ ?_ _) | (refine Below.trans ?_ (Below.mono (by assumption) ?_)) | omega | (simp; done) | (simp; omega))))); clear hK K); (apply wpPlan_soft; (focus (intro K hK; (conv => arg 4; (simp only [pick, List.filterMap_cons, List.filterMap_nil, List.getElem?_toArray, List.getElem?_cons_succ, List.getElem?_cons_zero])); go_wp2; exact only_mk hK)); (focus ((simp only [pick, List.filterMap_cons, List.filterMap_nil, List.getElem?_toArray, List.getElem?_cons_succ, List.getElem?_cons_zero]); (((try simp only [sides, hasSide, side, lowV, intV, slV, ptrV, Act.eval, Region.wanted, yielded_eq]); go_simp) <;> (try omega))))); (refine wpPlan_end ?_)
          go_wp2
          go_roundw
          case rel => exact ⟨k + 1, by omega, by go_num, hgk.out _ _ hc.out rfl rfl, hb.drew⟩
          case measure => simp [intOf]; omega
        · have hc' : (x3 != x4) = true := by simpa using hc
          replace hc := Lib.hid hc
          replace h3 := Lib.hid h3
          replace h4 := Lib.hid h4
          go_wp2
          refine wp_region_plan (.soft [0, 1, 2, 3, 4, 5, 7, 8, 9, 10, 11, 12] (.alt 6 (.alt 13 (.soft [14] .done) .stop) .stop)) wr.heap.size (by kernel_rfl) (by kernel_rfl) (by kernel_rfl) ?_; (apply wpPlan_soft; (focus (intro K hK; (conv => arg 4; (simp only [pick, List.filterMap_cons, List.filterMap_nil, List.getElem?_toArray, List.getElem?_cons_succ, List.getElem?_cons_zero])); go_wp2; exact only_mk hK)); (focus ((simp only [pick, List.filterMap_cons, List.filterMap_nil, List.getElem?_toArray, List.getElem?_cons_succ, List.getElem?_cons_zero]); (((try simp only [sides, hasSide, side, lowV, intV, slV, ptrV, Act.eval, Region.wanted, yielded_eq]); go_simp) <;> (try omega))))); (refine wpPlan_op (by rfl) (by kernel_rfl) (fun K hK => ?_) wpPlan_stop; go_simp); refine (e3.out _).mono ?_; rintro e w1 ⟨rfl, rfl⟩; ((try simp only [Act.put, List.getElem_toArray, List.getElem_cons_succ, List.getElem_cons_zero, List.setIfInBounds_toArray, List.set_cons_zero, List.set_cons_succ]); refine hK _ _ ?_ ?_; (focus ((repeat' (first | exact Below.refl _ _ | assumption | (refine Below.alloc ?_ ?_ _) | (refine Below.drew ?_) | (refine Below.setCell ?_ ?_ _) | (refine Below.trans ?_ (Below.mono (by assumption) ?_)) | omega | (simp; done) | (simp; omega))))); clear hK K); (refine wpPlan_op (by rfl) (by kernel_rfl) (fun K hK => ?_) wpPlan_stop; go_simp); refine (e4.out _).mono ?_; rintro e w1 ⟨rfl, rfl⟩; ((try simp only [Act.put, List.getElem_toArray, List.getElem_cons_succ, List.getElem_cons_zero, List.setIfInBounds_toArray, List.set_cons_zero, List.set_cons_succ]); refine hK _ _ ?_ ?_; (focus ((repeat' (first | exact Below.refl _ _ | assumption | (refine Below.alloc ?_ ?_ _) | (refine Below.drew ?_) | (refine Below.setCell ?_ ?_ _) | (refine Below.trans ?_ (Below.mono (by assumption) ?_)) | omega | (simp; done) | (simp; omega))))); clear hK K); (apply wpPlan_soft; (focus (intro K hK; (conv => arg 4; (simp only [pick, List.filterMap_cons, List.filterMap_nil, List.getElem?_toArray, List.getElem?_cons_succ, List.getElem?_cons_zero])); go_wp2; exact only_mk hK)); (focus ((simp only [pick, List.filterMap_cons, List.filterMap_nil, List.getElem?_toArray, List.getElem?_cons_succ, List.getElem?_cons_zero]); (((try simp only [sides, hasSide, side, lowV, intV, slV, ptrV, Act.eval, Region.wanted, yielded_eq]); go_simp) <;> (try omega))))); (refine wpPlan_end ?_)
          go_wp2
          go_ret
          exact ⟨by rw [hcn.out hc.out] <;> rfl, hbw.drew⟩
      · go_wp2
        go_ret
        exact ⟨by rw [fits_iff.2 ⟨by rw [Hz1.out, Hz2.out]; exact hz.out, fun i hi => hg.out i (by rw [← L3.out] at hi; omega)⟩] <;> rfl, hbw⟩
  · have hz' : (z1 != z2) = true := by simpa using hz
    replace hz := Lib.hid hz
    go_enter Try.func158, Try.ntmps158
    go_wp2
    (apply wp_region_soft; (focus kernel_rfl); (focus kernel_rfl); (focus (intro K hK; go_wp2; exact only_mk hK)); (focus ((((try simp only [sides, hasSide, side, lowV, intV, slV, ptrV, Act.eval, Region.wanted, yielded_eq]); go_simp) <;> (try omega)))))
    go_wp2
    go_ret
    exact ⟨by rw [fits_no (by rw [Hz1.out, Hz2.out]; exact hz.out)] <;> rfl, by (repeat' (first | exact Below.refl _ _ | assumption | (refine Below.alloc ?_ ?_ _) | (refine Below.drew ?_) | (refine Below.setCell ?_ ?_ _) | (refine Below.trans ?_ (Below.mono (by assumption) ?_)) | omega | (simp; done) | (simp; omega)))⟩
end Go.Proofs.Ytfpdnigihjmohaa
