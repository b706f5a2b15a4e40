/- The walk of the play with two words: who wins. -/
import Derived.Test.YtfpdnigihjmohaaEhrenC
namespace Go.Proofs.Ytfpdnigihjmohaa
open Go.RowKit
set_option linter.unusedSimpArgs false
set_option linter.unusedVariables false
attribute [local irreducible] wpList

theorem wins_eq (k : Nat) (u v a b : List Int) : winsS (k + 1) u v a b = (((List.range u.length).all fun p => hasReply k u v a b p) && ((List.range v.length).all fun p => hasReply k v u b a p)) := rfl
theorem all_range_false {n p : Nat} {f : Nat → Bool} (hp : p < n) (h : f p = false) : (List.range n).all f = false := by
  rw [List.all_eq_false]
  exact ⟨p, List.mem_range.2 hp, by simp [h]⟩
theorem all_range_true {n : Nat} {f : Nat → Bool} (h : ∀ p, p < n → f p = true) : (List.range n).all f = true := by
  rw [List.all_eq_true]
  exact fun p hp => h p (List.mem_range.1 hp)
theorem wins_zero : WinsP 0 := by
  intro v1 v2 v3 v4 u v a b w h1 h2 h3 h4 _ _ _ _
  obtain ⟨ao1, n1, cap1, rfl, H1, L1, hc1, hm1⟩ := h1.shape
  obtain ⟨ao2, n2, cap2, rfl, H2, L2, hc2, hm2⟩ := h2.shape
  obtain ⟨ao3, n3, cap3, rfl, H3, L3, hc3, hm3⟩ := h3.shape
  obtain ⟨ao4, n4, cap4, rfl, H4, L4, hc4, hm4⟩ := h4.shape
  clear h1 h2 h3 h4
  go_enter Try.func53, Try.ntmps53
  go_wp2
  go_ret
  exact ⟨rfl, by (repeat' (first | exact Below.refl _ _ | assumption | (refine Below.alloc ?_ ?_ _) | (refine Below.drew ?_) | (refine Below.setCell ?_ ?_ _) | (refine Below.trans ?_ (Below.mono (by assumption) ?_)) | omega | (simp; done) | (simp; omega)))⟩

set_option maxHeartbeats 4000000 in
theorem wins_step (k : Nat) (hk : WinsP k) : WinsP (k + 1) := by
  intro v1 v2 v3 v4 u v a b w h1 h2 h3 h4 hu hv hab hak
  obtain ⟨ao1, n1, cap1, rfl, H1, L1, hc1, hm1⟩ := h1.shape
  obtain ⟨ao2, n2, cap2, rfl, H2, L2, hc2, hm2⟩ := h2.shape
  obtain ⟨ao3, n3, cap3, rfl, H3, L3, hc3, hm3⟩ := h3.shape
  obtain ⟨ao4, n4, cap4, rfl, H4, L4, hc4, hm4⟩ := h4.shape
  have hn1 : n1 ≤ 8 := by rw [L1.out]; exact hu
  have hn2 : n2 ≤ 8 := by rw [L2.out]; exact hv
  have hS : Hid (winsS (k + 1) u v a b = (((List.range n1).all fun p => hasReply k u v a b p) && ((List.range n2).all fun p => hasReply k v u b a p))) := by rw [wins_eq, L1.out, L2.out]; exact rfl
  obtain ⟨r, hr⟩ : ∃ r, winsS (k + 1) u v a b = r := ⟨_, rfl⟩
  rw [hr]
  rw [hr] at hS
  clear hr
  obtain ⟨K, hK0, hK⟩ : ∃ K : Int, ((k + 1 : Nat) : Int) = K ∧ K - 1 = k := ⟨_, rfl, by omega⟩
  have hK1 : 0 < K := by omega
  have hK2 : K ≤ 3 := by omega
  rw [hK0]
  clear hK0
  have R1 : Hid (∀ p, p < n1 → ∀ W, Below w.heap.size w W → Calls Try.prog 114 #[.agg #[.slice ao1 n1 cap1, .slice ao2 n2 cap2, .slice ao3 n3 cap3, .slice ao4 n4 cap4], .int .i64 p, .int .i64 (K - 1)] W (RetReply W (hasReply k u v a b p))) := fun p hp W hW => by
    rw [hK]
    exact reply_any k hk _ _ _ _ u v a b p W (H1.up hW) (H2.up hW) (H3.up hW) (H4.up hW) hu hv hab (by omega) (by rw [← L1.out]; exact hp)
  have R2 : Hid (∀ p, p < n2 → ∀ W x1 x2 x3 x4, Ints W x1 v → Ints W x2 u → Ints W x3 b → Ints W x4 a → Calls Try.prog 114 #[.agg #[x1, x2, x3, x4], .int .i64 p, .int .i64 (K - 1)] W (RetReply W (hasReply k v u b a p))) := fun p hp W x1 x2 x3 x4 e1 e2 e3 e4 => by
    rw [hK]
    exact reply_any k hk x1 x2 x3 x4 v u b a p W e1 e2 e3 e4 hv hu hab.symm (by omega) (by rw [← L2.out]; exact hp)
  have TT : Hid (∀ W, Below w.heap.size w W → Calls Try.prog 113 #[.agg #[.slice ao1 n1 cap1, .slice ao2 n2 cap2, .slice ao3 n3 cap3, .slice ao4 n4 cap4]] W (RetTable W v u b a)) := fun W hW => turned_any _ _ _ _ u v a b W (H1.up hW) (H2.up hW) (H3.up hW) (H4.up hW)
  clear h1 h2 h3 h4 hk hK
  go_enter Try.func53, Try.ntmps53
  go_wp2
  refine wp_region_plan (.soft [0, 1, 5] (.alt 2 (.alt 3 (.soft [4] .done) .stop) .stop)) (w.heap.size + 1) (by kernel_rfl) (by kernel_rfl) (by kernel_rfl) ?_
  (apply wpPlan_soft; (focus (intro K hK; (conv => arg 4; (simp only [pick, List.filterMap_cons, List.filterMap_nil, List.getElem?_toArray, List.getElem?_cons_succ, List.getElem?_cons_zero])); go_wp2; exact only_mk hK)); (focus ((simp only [pick, List.filterMap_cons, List.filterMap_nil, List.getElem?_toArray, List.getElem?_cons_succ, List.getElem?_cons_zero]); (((try simp only [sides, hasSide, side, lowV, intV, slV, ptrV, Act.eval, Region.wanted, yielded_eq]); go_simp) <;> (try omega)))))
  (refine wpPlan_op (by rfl) (by kernel_rfl) (fun K hK => ?_) wpPlan_stop; go_simp)
  refine (TT.out _ ?_).mono ?_
  · (repeat' (first | exact Below.refl _ _ | assumption | (refine Below.alloc ?_ ?_ _) | (refine Below.drew ?_) | (refine Below.setCell ?_ ?_ _) | (refine Below.trans ?_ (Below.mono (by assumption) ?_)) | omega | (simp; done) | (simp; omega)))
  rintro e w1 ⟨x1, x2, x3, x4, rfl, i1, i2, i3, i4, hb1⟩
  obtain ⟨bo1, m1, dap1, rfl, i1, q1, _, _⟩ := i1.shape
  obtain ⟨bo2, m2, dap2, rfl, i2, q2, _, _⟩ := i2.shape
  obtain ⟨bo3, m3, dap3, rfl, i3, _⟩ := i3.shape
  obtain ⟨bo4, m4, dap4, rfl, i4, _⟩ := i4.shape
  have hm1 : m1 = n2 := by rw [q1.out, L2.out]
  subst hm1
  have hs1 : w.heap.size + 1 ≤ w1.heap.size := by simpa using hb1.size
  ((try simp only [Act.put, List.getElem_toArray, List.getElem_cons_succ, List.getElem_cons_zero, List.setIfInBounds_toArray, List.set_cons_zero, List.set_cons_succ]); refine hK _ _ ?_ ?_; (focus ((repeat' (first | exact Below.refl _ _ | assumption | (refine Below.alloc ?_ ?_ _) | (refine Below.drew ?_) | (refine Below.setCell ?_ ?_ _) | (refine Below.trans ?_ (Below.mono (by assumption) ?_)) | omega | (simp; done) | (simp; omega))))); clear hK K)
  have hbw1 : Below w.heap.size w w1 := by (repeat' (first | exact Below.refl _ _ | assumption | (refine Below.alloc ?_ ?_ _) | (refine Below.drew ?_) | (refine Below.setCell ?_ ?_ _) | (refine Below.trans ?_ (Below.mono (by assumption) ?_)) | omega | (simp; done) | (simp; omega)))
  have hT : Below (w.heap.size + 1) (w.alloc (.cells #[.slice ao1 n1 cap1, .slice ao2 m1 cap2, .slice ao3 n3 cap3, .slice ao4 n4 cap4] 134)).drew w1 := hb1.mono (by simp)
  clear hb1
  ((refine wpPlan_op (by rfl) (by kernel_rfl) (fun K hK => ?_) wpPlan_stop; go_simp); ((try simp only [Act.put, List.getElem_toArray, List.getElem_cons_succ, List.getElem_cons_zero, List.setIfInBounds_toArray, List.set_cons_zero, List.set_cons_succ]); refine hK _ _ ?_ ?_; (focus ((repeat' (first | exact Below.refl _ _ | assumption | (refine Below.alloc ?_ ?_ _) | (refine Below.drew ?_) | (refine Below.setCell ?_ ?_ _) | (refine Below.trans ?_ (Below.mono (by assumption) ?_)) | omega | (simp; done) | (simp; omega))))); clear hK K))
  clear hT
  (apply wpPlan_soft; (focus (intro K hK; (conv => arg 4; (simp only [pick, List.filterMap_cons, List.filterMap_nil, List.getElem?_toArray, List.getElem?_cons_succ, List.getElem?_cons_zero])); go_wp2; exact only_mk hK)); (focus ((simp only [pick, List.filterMap_cons, List.filterMap_nil, List.getElem?_toArray, List.getElem?_cons_succ, List.getElem?_cons_zero]); (((try simp only [sides, hasSide, side, lowV, intV, slV, ptrV, Act.eval, Region.wanted, yielded_eq]); go_simp) <;> (try omega)))))
  (refine wpPlan_end ?_)
  obtain ⟨y0, hy0⟩ : ∃ y0, y0 = w1.alloc (.cells #[.slice ao1 n1 cap1, .slice ao2 m1 cap2, .slice ao3 n3 cap3, .slice ao4 n4 cap4, .slice bo1 m1 dap1, .slice bo2 m2 dap2, .slice bo3 m3 dap3, .slice bo4 m4 dap4] 134) := ⟨_, rfl⟩
  rw [← hy0]
  have c0 : y0.cell? ⟨w1.heap.size, 0, none⟩ = some (.slice ao1 n1 cap1) := by rw [hy0]; go_simp
  have c1 : y0.cell? ⟨w1.heap.size, 1, none⟩ = some (.slice ao2 m1 cap2) := by rw [hy0]; go_simp
  have c2 : y0.cell? ⟨w1.heap.size, 2, none⟩ = some (.slice ao3 n3 cap3) := by rw [hy0]; go_simp
  have c3 : y0.cell? ⟨w1.heap.size, 3, none⟩ = some (.slice ao4 n4 cap4) := by rw [hy0]; go_simp
  have c4 : y0.cell? ⟨w1.heap.size, 4, none⟩ = some (.slice bo1 m1 dap1) := by rw [hy0]; go_simp
  have c5 : y0.cell? ⟨w1.heap.size, 5, none⟩ = some (.slice bo2 m2 dap2) := by rw [hy0]; go_simp
  have c6 : y0.cell? ⟨w1.heap.size, 6, none⟩ = some (.slice bo3 m3 dap3) := by rw [hy0]; go_simp
  have c7 : y0.cell? ⟨w1.heap.size, 7, none⟩ = some (.slice bo4 m4 dap4) := by rw [hy0]; go_simp
  have hg0 : w1.heap.size < y0.heap.size := by rw [hy0]; simp
  have hb0 : Below w.heap.size w y0 := by rw [hy0]; exact hbw1.alloc (by omega) _
  have hbi : Below w1.heap.size w1 y0 := by rw [hy0]; exact (Below.refl _ _).alloc (Nat.le_refl _) _
  replace i1 := SliceOf.up i1 hbi
  replace i2 := SliceOf.up i2 hbi
  replace i3 := SliceOf.up i3 hbi
  replace i4 := SliceOf.up i4 hbi
  clear hy0 hbw1 hbi
  go_wp2
  refine wp_loop_rounds 3 ?_
  rw [rounds_succ]
  go_wp2
  have Q1 : Hid (∀ p, p < n1 → ∀ W, Below y0.heap.size y0 W → Calls Try.prog 114 #[.agg #[.slice ao1 n1 cap1, .slice ao2 m1 cap2, .slice ao3 n3 cap3, .slice ao4 n4 cap4], .int .i64 p, .int .i64 (K - 1)] W (RetReply W (hasReply k u v a b p))) := fun p hp W hW => R1.out p hp W (hb0.trans (hW.mono hb0.size))
  clear R1 TT
  have Q1 := Q1
  go_loopw [24] (fun i wr => ∃ p : Nat, p ≤ n1 ∧ i = .int .i64 p ∧ (∀ j, j < p → hasReply k u v a b j = true) ∧ Below (y0.heap.size + 1) (y0.alloc (.cells #[.slice ao1 n1 cap1, .slice ao2 m1 cap2, .slice ao3 n3 cap3, .slice ao4 n4 cap4] 134)) wr) (fun i _ => n1 - (intOf i).toNat)
  case atStart => exact ⟨0, Nat.zero_le _, rfl, fun j hj => by omega, by simpa using Below.refl _ _⟩
  case round =>
    obtain ⟨p, hp, rfl, hg, hb⟩ := hrel
    have hg := Lib.hid hg
    obtain ⟨d0, d1⟩ := bcell hb
    have hs : y0.heap.size + 1 ≤ wr.heap.size := by simpa using hb.size
    have hby : Below y0.heap.size y0 wr := ((Below.refl y0.heap.size y0).alloc (Nat.le_refl _) _).trans (hb.mono (Nat.le_succ _))
    have hbw : Below w.heap.size w wr := hb0.trans (hby.mono hb0.size)
    by_cases hlt : p < n1
    · have F := Lib.hid (Q1.out p hlt)
      have hgp : Hid (∀ r : Bool, hasReply k u v a b p = r → r = true → ∀ j, j < p + 1 → hasReply k u v a b j = true) := Lib.hid (fun r h1 h2 j hj => by
        by_cases e : j = p
        · rw [e, h1, h2]
        · exact hg.out j (by omega))
      have hno : Hid (hasReply k u v a b p = false → r = false) := Lib.hid (fun h => by rw [hS.out, all_range_false hlt h, Bool.false_and])
      generalize hf : hasReply k u v a b p = fp at *
      clear hf
      cases fp with
      | false =>
        have hno := hno.out rfl
        subst hno
        go_wp2_with ((go_at_call 114; (with_reducible refine (F.out _ ?_).mono ?_); (focus (first | exact hby | (repeat' (first | exact Below.refl _ _ | assumption | (refine Below.alloc ?_ ?_ _) | (refine Below.drew ?_) | (refine Below.setCell ?_ ?_ _) | (refine Below.trans ?_ (Below.mono (by assumption) ?_)) | omega | (simp; done) | (simp; omega))))); rintro e w5 ⟨z, rfl, hb5⟩))
        go_ret
        exact ⟨rfl, hbw.trans (hb5.mono hbw.size)⟩
      | true =>
        go_wp2_with ((go_at_call 114; (with_reducible refine (F.out _ ?_).mono ?_); (focus (first | exact hby | (repeat' (first | exact Below.refl _ _ | assumption | (refine Below.alloc ?_ ?_ _) | (refine Below.drew ?_) | (refine Below.setCell ?_ ?_ _) | (refine Below.trans ?_ (Below.mono (by assumption) ?_)) | omega | (simp; done) | (simp; omega))))); rintro e w5 ⟨z, rfl, hb5⟩))
        go_roundw
        case rel => exact ⟨p + 1, by omega, by go_num, hgp.out _ rfl rfl, hb.trans (hb5.mono hs)⟩
        case measure => simp [intOf]; omega
    · have hall : Hid ((List.range n1).all (fun p => hasReply k u v a b p) = true) := Lib.hid (all_range_true fun j hj => hg.out j (by omega))
      have k4 : wr.cell? ⟨w1.heap.size, 4, none⟩ = some (.slice bo1 m1 dap1) := (hby.cell (p := ⟨w1.heap.size, 4, none⟩) hg0).trans c4
      have k5 : wr.cell? ⟨w1.heap.size, 5, none⟩ = some (.slice bo2 m2 dap2) := (hby.cell (p := ⟨w1.heap.size, 5, none⟩) hg0).trans c5
      have k6 : wr.cell? ⟨w1.heap.size, 6, none⟩ = some (.slice bo3 m3 dap3) := (hby.cell (p := ⟨w1.heap.size, 6, none⟩) hg0).trans c6
      have k7 : wr.cell? ⟨w1.heap.size, 7, none⟩ = some (.slice bo4 m4 dap4) := (hby.cell (p := ⟨w1.heap.size, 7, none⟩) hg0).trans c7
      replace i1 := SliceOf.up i1 hby
      replace i2 := SliceOf.up i2 hby
      replace i3 := SliceOf.up i3 hby
      replace i4 := SliceOf.up i4 hby
      have hg1 : w1.heap.size < wr.heap.size := by omega
      clear d0 d1 hb hg hs hby Q1 c0 c1 c2 c3 c4 c5 c6 c7 hg0 hb0
      obtain ⟨y1, rfl⟩ : ∃ y1, y1 = wr := ⟨wr, rfl⟩
      have hb1 : Below w.heap.size w y1 := hbw
      clear hbw
      have Q2 : Hid (∀ p, p < m1 → ∀ W, Below y1.heap.size y1 W → Calls Try.prog 114 #[.agg #[.slice bo1 m1 dap1, .slice bo2 m2 dap2, .slice bo3 m3 dap3, .slice bo4 m4 dap4], .int .i64 p, .int .i64 (K - 1)] W (RetReply W (hasReply k v u b a p))) := fun p hp W hW => R2.out p hp W _ _ _ _ (SliceOf.up i1 hW) (SliceOf.up i2 hW) (SliceOf.up i3 hW) (SliceOf.up i4 hW)
      clear R2 i1 i2 i3 i4
      go_wp2
      rw [rounds_succ]
      go_wp2
      have Q2 := Q2
      go_loopw [24] (fun i wr => ∃ p : Nat, p ≤ m1 ∧ i = .int .i64 p ∧ (∀ j, j < p → hasReply k v u b a j = true) ∧ Below (y1.heap.size + 1) (y1.alloc (.cells #[.slice bo1 m1 dap1, .slice bo2 m2 dap2, .slice bo3 m3 dap3, .slice bo4 m4 dap4] 134)) wr) (fun i _ => m1 - (intOf i).toNat)
      case atStart => exact ⟨0, Nat.zero_le _, rfl, fun j hj => by omega, by simpa using Below.refl _ _⟩
      case round =>
        obtain ⟨p, hp, rfl, hg, hb⟩ := hrel
        have hg := Lib.hid hg
        obtain ⟨d0, d1⟩ := bcell hb
        have hs : y1.heap.size + 1 ≤ wr.heap.size := by simpa using hb.size
        have hby : Below y1.heap.size y1 wr := ((Below.refl y1.heap.size y1).alloc (Nat.le_refl _) _).trans (hb.mono (Nat.le_succ _))
        have hbw : Below w.heap.size w wr := hb1.trans (hby.mono hb1.size)
        by_cases hlt : p < m1
        · have F := Lib.hid (Q2.out p hlt)
          have hgp : Hid (∀ r : Bool, hasReply k v u b a p = r → r = true → ∀ j, j < p + 1 → hasReply k v u b a j = true) := Lib.hid (fun r h1 h2 j hj => by
            by_cases e : j = p
            · rw [e, h1, h2]
            · exact hg.out j (by omega))
          have hno : Hid (hasReply k v u b a p = false → r = false) := Lib.hid (fun h => by rw [hS.out, all_range_false hlt h, Bool.and_false])
          generalize hf : hasReply k v u b a p = fp at *
          clear hf
          cases fp with
          | false =>
            have hno := hno.out rfl
            subst hno
            go_wp2_with ((go_at_call 114; (with_reducible refine (F.out _ ?_).mono ?_); (focus (first | exact hby | (repeat' (first | exact Below.refl _ _ | assumption | (refine Below.alloc ?_ ?_ _) | (refine Below.drew ?_) | (refine Below.setCell ?_ ?_ _) | (refine Below.trans ?_ (Below.mono (by assumption) ?_)) | omega | (simp; done) | (simp; omega))))); rintro e w5 ⟨z, rfl, hb5⟩))
            go_ret
            exact ⟨rfl, hbw.trans (hb5.mono hbw.size)⟩
          | true =>
            go_wp2_with ((go_at_call 114; (with_reducible refine (F.out _ ?_).mono ?_); (focus (first | exact hby | (repeat' (first | exact Below.refl _ _ | assumption | (refine Below.alloc ?_ ?_ _) | (refine Below.drew ?_) | (refine Below.setCell ?_ ?_ _) | (refine Below.trans ?_ (Below.mono (by assumption) ?_)) | omega | (simp; done) | (simp; omega))))); rintro e w5 ⟨z, rfl, hb5⟩))
            go_roundw
            case rel => exact ⟨p + 1, by omega, by go_num, hgp.out _ rfl rfl, hb.trans (hb5.mono hs)⟩
            case measure => simp [intOf]; omega
        · have hall : Hid ((List.range m1).all (fun p => hasReply k v u b a p) = true) := Lib.hid (all_range_true fun j hj => hg.out j (by omega))
          have hyes : r = true := by rw [hS.out, hall.out, ‹Hid (List.all (List.range n1) _ = true)›.out]; rfl
          subst hyes
          go_wp2
          rw [rounds_succ]
          go_wp2
          go_ret
          exact ⟨rfl, hbw⟩
end Go.Proofs.Ytfpdnigihjmohaa
