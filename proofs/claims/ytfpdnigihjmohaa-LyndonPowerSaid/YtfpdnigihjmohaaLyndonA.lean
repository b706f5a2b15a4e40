/- The walks of package lyndon: what is asked of a word, and the borders. -/
import Derived.Test.YtfpdnigihjmohaaWordG
import Derived.Test.YtfpdnigihjmohaaLyndonQ
import Derived.Test.YtfpdnigihjmohaaEhrenA
import Derived.Test.YtfpdnigihjmohaaPush
namespace Go.Proofs.Ytfpdnigihjmohaa
open Go.RowKit
set_option linter.unusedSimpArgs false
set_option linter.unusedVariables false
attribute [local irreducible] wpList

/-- one word is asked -/
theorem may_one (b : Nat) (v : Value) (l : List Int) (w : World) (hb : w.cell? ⟨b, 0, none⟩ = some v) (h : Ints w v l) :
    Calls Try.prog 54 #[.slice (some ⟨b, 0, none⟩) 1 1] w fun e w' => e = .returned (.int .i64 (mayOf 4 l)) ∧ w = w' := by
  obtain ⟨ao, n, cap, rfl, H, L, hc, hm⟩ := h.shape
  have C := Lib.hid (fun W (hW : Below w.heap.size w W) => may_any 4 _ l W (h.up hW))
  generalize mayOf 4 l = r at *
  clear h H L
  by_cases hr : r = 0
  · subst hr
    go_enter Try.func54, Try.ntmps54
    go_wp2
    refine wp_loop_rounds 2 ?_
    rw [rounds_succ]
    go_wp2_with ((go_at_call 106; (with_reducible refine (C.out _ ?_).mono ?_); (focus ((repeat' (first | exact Below.refl _ _ | assumption | (refine Below.alloc ?_ ?_ _) | (refine Below.drew ?_) | (refine Below.setCell ?_ ?_ _) | (refine Below.trans ?_ (Below.mono (by assumption) ?_)) | omega | (simp; done) | (simp; omega))))); rintro e w' ⟨rfl, rfl⟩))
    rw [rounds_succ]
    go_wp2
    go_ret
    exact ⟨rfl, rfl⟩
  · have hr1 : (r != 0) = true := by simpa using hr
    replace hr := Lib.hid hr
    go_enter Try.func54, Try.ntmps54
    go_wp2
    refine wp_loop_rounds 2 ?_
    rw [rounds_succ]
    go_wp2_with ((go_at_call 106; (with_reducible refine (C.out _ ?_).mono ?_); (focus ((repeat' (first | exact Below.refl _ _ | assumption | (refine Below.alloc ?_ ?_ _) | (refine Below.drew ?_) | (refine Below.setCell ?_ ?_ _) | (refine Below.trans ?_ (Below.mono (by assumption) ?_)) | omega | (simp; done) | (simp; omega))))); rintro e w' ⟨rfl, rfl⟩))
    go_ret
    exact ⟨rfl, rfl⟩

/-- the borders of the first i beginnings, and the last one -/
def BInv (l : List Int) (i k : Nat) (L : List Int) : Prop := L.length = i ∧ (∀ j, j < i → ∃ b : Nat, L.getD j 0 = b ∧ LBdr l (j + 1) b) ∧ (i = 0 → k = 0) ∧ (0 < i → LBdr l i k)
theorem BInv.start (l : List Int) : BInv l 0 0 [] := ⟨rfl, fun j h => by omega, fun _ => rfl, fun h => by omega⟩
theorem BInv.step {l : List Int} {i k k' : Nat} {L : List Int} (h : BInv l i k L) (hk : LBdr l (i + 1) k') : BInv l (i + 1) k' (L ++ [(k' : Int)]) := by
  obtain ⟨h1, h2, h3, h4⟩ := h
  refine ⟨by simp [h1], fun j hj => ?_, fun h => by omega, fun _ => hk⟩
  rw [getD_app]
  split
  · exact h2 j (by omega)
  · have : j = i := by omega
    subst this
    exact ⟨k', by simp [h1], hk⟩
theorem BInv.i64 {l : List Int} {i k : Nat} {L : List Int} (h : BInv l i k L) (hi : i ≤ 60 := by omega) : I64 L := fun a ha => by
  obtain ⟨j, hj⟩ := List.mem_iff_getElem?.1 ha
  obtain ⟨hj1, hj2⟩ := List.getElem?_eq_some_iff.1 hj
  obtain ⟨b, hb, hl⟩ := h.2.1 j (by rw [← h.1]; exact hj1)
  have := hl.1.1
  have h1 := h.1
  rw [show L.getD j 0 = a from by simp [hj]] at hb
  omega
theorem BInv.bound {l : List Int} {i k : Nat} {L : List Int} (h : BInv l i k L) : k ≤ i := by
  rcases Nat.eq_zero_or_pos i with e | e
  · have := h.2.2.1 e; omega
  · have := (h.2.2.2 e).1.1; omega
def RetBorders (w : World) (l : List Int) (e : Ending) (w' : World) : Prop := ∃ v L, e = .returned v ∧ Ints w' v L ∧ (∃ k, BInv l l.length k L) ∧ Below w.heap.size w w'

set_option maxHeartbeats 2000000 in
theorem borders_any (v : Value) (l : List Int) (w : World) (h : Ints w v l) (hlen : l.length ≤ 60) :
    Calls Try.prog 55 #[v] w (RetBorders w l) := by
  obtain ⟨ao, n, cap, rfl, H, Ln, hc, hm⟩ := h.shape
  have hn : n ≤ 60 := by rw [Ln.out]; exact hlen
  clear h hlen
  go_enter Try.func55, Try.ntmps55
  go_wp2
  go_loopw [3, 4, 8] (fun v3 v4 v8 wr => ∃ (i k : Nat) (L : List Int), i ≤ n ∧ v8 = .int .i64 i ∧ v4 = .int .i64 k ∧ BInv l i k L ∧ wr.ownsRow w.heap.size 3 1 v3 i (ints L) ∧ Below w.heap.size w wr) (fun _ _ v8 _ => n - (intOf v8).toNat)
  case atStart => exact ⟨0, 0, [], Nat.zero_le _, rfl, rfl, BInv.start l, World.ownsRow_nil _ _ _ _, Below.refl _ _⟩
  case round =>
    obtain ⟨i, k, L, hi, rfl, rfl, hI, hown, hb⟩ := hrel
    have hI := Lib.hid hI
    have hsz := hb.size
    by_cases hlt : i < n
    · obtain ⟨bi, oi, rfl, hci, hbi, hw1, hw1'⟩ := (H.up hb).int hlt
      have hbnd := hI.out.bound
      rcases Nat.eq_zero_or_pos i with rfl | hi0
      · obtain rfl : k = 0 := hI.out.2.2.1 rfl
        obtain rfl : L = [] := List.eq_nil_of_length_eq_zero hI.out.1
        have k' : Hid (LBdr l 1 0) := Lib.hid lb_one
        go_wp2
        refine wp_loop_rounds 1 ?_
        rw [rounds_succ]
        go_wp2
        refine wp_region_plan (.soft [0, 1, 2] (.soft [3, 4] (.soft [5, 6] (.soft [7, 8, 9, 10, 11, 12, 13, 14, 15] (.soft [16] .done))))) wr.heap.size (by kernel_rfl) (by kernel_rfl) (by kernel_rfl) ?_
        (apply wpPlan_soft; (focus (intro K hK; (conv => arg 4; (simp only [pick, List.filterMap_cons, List.filterMap_nil, List.getElem?_toArray, List.getElem?_cons_succ, List.getElem?_cons_zero])); go_wp2; exact only_mk hK)); (focus ((simp only [pick, List.filterMap_cons, List.filterMap_nil, List.getElem?_toArray, List.getElem?_cons_succ, List.getElem?_cons_zero]); (((try simp only [sides, hasSide, side, lowV, intV, slV, ptrV, Act.eval, Region.wanted, yielded_eq]); go_simp) <;> (try omega)))))
        (apply wpPlan_soft; (focus (intro K hK; (conv => arg 4; (simp only [pick, List.filterMap_cons, List.filterMap_nil, List.getElem?_toArray, List.getElem?_cons_succ, List.getElem?_cons_zero])); (repeat (refine wpList_skip ?_ ?_; (focus kernel_rfl); simp only [Act.put, List.setIfInBounds_toArray, List.set_cons_zero, List.set_cons_succ])); refine wpList_nil ?_; exact only_mk hK)); (focus ((simp only [pick, List.filterMap_cons, List.filterMap_nil, List.getElem?_toArray, List.getElem?_cons_succ, List.getElem?_cons_zero]); (((try simp only [sides, hasSide, side, lowV, intV, slV, ptrV, Act.eval, Region.wanted, yielded_eq]); go_simp) <;> (try omega)))))
        (apply wpPlan_soft; (focus (intro K hK; (conv => arg 4; (simp only [pick, List.filterMap_cons, List.filterMap_nil, List.getElem?_toArray, List.getElem?_cons_succ, List.getElem?_cons_zero])); go_wp2; exact only_mk hK)); (focus ((simp only [pick, List.filterMap_cons, List.filterMap_nil, List.getElem?_toArray, List.getElem?_cons_succ, List.getElem?_cons_zero]); (((try simp only [sides, hasSide, side, lowV, intV, slV, ptrV, Act.eval, Region.wanted, yielded_eq]); go_simp) <;> (try omega)))))
        (apply wpPlan_soft; (focus (intro K hK; (conv => arg 4; (simp only [pick, List.filterMap_cons, List.filterMap_nil, List.getElem?_toArray, List.getElem?_cons_succ, List.getElem?_cons_zero])); (repeat (refine wpList_skip ?_ ?_; (focus kernel_rfl); simp only [Act.put, List.setIfInBounds_toArray, List.set_cons_zero, List.set_cons_succ])); refine wpList_nil ?_; exact only_mk hK)); (focus ((simp only [pick, List.filterMap_cons, List.filterMap_nil, List.getElem?_toArray, List.getElem?_cons_succ, List.getElem?_cons_zero]); (((try simp only [sides, hasSide, side, lowV, intV, slV, ptrV, Act.eval, Region.wanted, yielded_eq]); go_simp) <;> (try omega)))))
        (apply wpPlan_soft; (focus (intro K hK; (conv => arg 4; (simp only [pick, List.filterMap_cons, List.filterMap_nil, List.getElem?_toArray, List.getElem?_cons_succ, List.getElem?_cons_zero])); go_wp2; exact only_mk hK)); (focus ((simp only [pick, List.filterMap_cons, List.filterMap_nil, List.getElem?_toArray, List.getElem?_cons_succ, List.getElem?_cons_zero]); (((try simp only [sides, hasSide, side, lowV, intV, slV, ptrV, Act.eval, Region.wanted, yielded_eq]); go_simp) <;> (try omega)))))
        (refine wpPlan_end ?_)
        go_wp2
        refine wp_region_plan (.soft [0, 1, 2] (.soft [3, 4, 5, 6, 7, 8, 9, 10, 11] (.soft [12] .done))) wr.heap.size (by kernel_rfl) (by kernel_rfl) (by kernel_rfl) ?_
        (apply wpPlan_soft; (focus (intro K hK; (conv => arg 4; (simp only [pick, List.filterMap_cons, List.filterMap_nil, List.getElem?_toArray, List.getElem?_cons_succ, List.getElem?_cons_zero])); go_wp2; exact only_mk hK)); (focus ((simp only [pick, List.filterMap_cons, List.filterMap_nil, List.getElem?_toArray, List.getElem?_cons_succ, List.getElem?_cons_zero]); (((try simp only [sides, hasSide, side, lowV, intV, slV, ptrV, Act.eval, Region.wanted, yielded_eq]); go_simp) <;> (try omega)))))
        (apply wpPlan_soft; (focus (intro K hK; (conv => arg 4; (simp only [pick, List.filterMap_cons, List.filterMap_nil, List.getElem?_toArray, List.getElem?_cons_succ, List.getElem?_cons_zero])); (repeat (refine wpList_skip ?_ ?_; (focus kernel_rfl); simp only [Act.put, List.setIfInBounds_toArray, List.set_cons_zero, List.set_cons_succ])); refine wpList_nil ?_; exact only_mk hK)); (focus ((simp only [pick, List.filterMap_cons, List.filterMap_nil, List.getElem?_toArray, List.getElem?_cons_succ, List.getElem?_cons_zero]); (((try simp only [sides, hasSide, side, lowV, intV, slV, ptrV, Act.eval, Region.wanted, yielded_eq]); go_simp) <;> (try omega)))))
        (apply wpPlan_soft; (focus (intro K hK; (conv => arg 4; (simp only [pick, List.filterMap_cons, List.filterMap_nil, List.getElem?_toArray, List.getElem?_cons_succ, List.getElem?_cons_zero])); go_wp2; exact only_mk hK)); (focus ((simp only [pick, List.filterMap_cons, List.filterMap_nil, List.getElem?_toArray, List.getElem?_cons_succ, List.getElem?_cons_zero]); (((try simp only [sides, hasSide, side, lowV, intV, slV, ptrV, Act.eval, Region.wanted, yielded_eq]); go_simp) <;> (try omega)))))
        (refine wpPlan_end ?_)
        go_wp2_with (at_builtin; refine wpList_push1 (B := w.heap.size) (w0 := w) (n := 0) (xs := ints []) (u := .int .i64 0) rfl (.tmp 48) (.tmp 50) 22 rfl 3 (.int .i64 0) 8 Try.underlying22 infoInt rfl ?c1 rfl rfl ?c2 ?c3 rfl ?c4 ?c5 ?_)
        case c1 => exact ownsRow_up hown (by (repeat' (first | exact Below.refl _ _ | assumption | (refine Below.alloc ?_ ?_ _) | (refine Below.drew ?_) | (refine Below.setCell ?_ ?_ _) | (refine Below.trans ?_ (Below.mono (by assumption) ?_)) | omega | (simp; done) | (simp; omega))))
        case c2 => (repeat' (first | exact Below.refl _ _ | assumption | (refine Below.alloc ?_ ?_ _) | (refine Below.drew ?_) | (refine Below.setCell ?_ ?_ _) | (refine Below.trans ?_ (Below.mono (by assumption) ?_)) | omega | (simp; done) | (simp; omega)))
        case c3 => go_simp
        case c4 => simp [maxLen]
        case c5 => simp; omega
        intro v' w1 hown1 hb1 _
        go_wp2
        go_roundw
        case rel => exact ⟨1, 0, [0], by omega, by go_num, rfl, hI.out.step k'.out, hown1, hb1⟩
        case measure => simp [intOf]; omega
      · have k0 := (hI.out.2.2.2 hi0)
        obtain ⟨wo, rfl⟩ : ∃ wo : World, wo = wr := ⟨_, rfl⟩
        obtain ⟨g, cap3, rfl, hg1, hg2, hgc, hgm⟩ := ownsRow_shape hown hi0
        have hown := Lib.hid hown
        replace k0 := Lib.hid k0
        go_wp2
        go_loopw [4] (fun v4 wr => ∃ k : Nat, v4 = .int .i64 k ∧ Cand l i k ∧ Below wo.heap.size wo wr) (fun v4 _ => (intOf v4).toNat)
        case atStart => exact ⟨k, rfl, cand_start k0.out, Below.refl _ _⟩
        case round =>
          obtain ⟨q, rfl, hC, hbo⟩ := hrel
          have hqi : q < i := hC.1.1
          have hown2 := ownsRow_up hown.out hbo
          replace hC := Lib.hid hC
          obtain ⟨d0, _⟩ := bcell hbo
          have hsz2 := hbo.size
          have hci2 := (d0 bi (oi + i) (by omega)).trans hci
          obtain ⟨bq, oq, e, hcq, hbq, hq1, hq1'⟩ := (H.up (hb.trans (hbo.mono (by omega)))).int (show q < n by omega)
          cases e
          clear d0
          have hne := Lib.hid (show l.getD i 0 = l.getD q 0 ∨ l.getD i 0 ≠ l.getD q 0 from Decidable.em _)
          have hyes := Lib.hid (fun e => cand_yes hC.out e)
          generalize hz1 : l.getD i 0 = z1 at *
          generalize hz2 : l.getD q 0 = z2 at *
          replace hz1 := Lib.hid hz1
          replace hz2 := Lib.hid hz2
          by_cases hz : z1 = z2
          · have hzb : (z1 != z2) = false := by simpa using hz
            have hzc : (z1 == z2) = true := by simpa using hz
            replace hz := Lib.hid hz
            replace hyes := Lib.hid (hyes.out hz.out)
            rcases Nat.eq_zero_or_pos q with rfl | hq0
            · rw [Nat.add_zero] at hcq
              go_wp2
              refine wp_region_plan (.soft [0, 1, 2] (.soft [3, 4] (.soft [5, 6] (.soft [7, 8, 9, 10, 11, 12, 13, 14, 15] (.soft [16] .done))))) wr.heap.size (by kernel_rfl) (by kernel_rfl) (by kernel_rfl) ?_
              (apply wpPlan_soft; (focus (intro K hK; (conv => arg 4; (simp only [pick, List.filterMap_cons, List.filterMap_nil, List.getElem?_toArray, List.getElem?_cons_succ, List.getElem?_cons_zero])); go_wp2; exact only_mk hK)); (focus ((simp only [pick, List.filterMap_cons, List.filterMap_nil, List.getElem?_toArray, List.getElem?_cons_succ, List.getElem?_cons_zero]); (((try simp only [sides, hasSide, side, lowV, intV, slV, ptrV, Act.eval, Region.wanted, yielded_eq]); go_simp) <;> (try omega)))))
              (apply wpPlan_soft; (focus (intro K hK; (conv => arg 4; (simp only [pick, List.filterMap_cons, List.filterMap_nil, List.getElem?_toArray, List.getElem?_cons_succ, List.getElem?_cons_zero])); go_wp2; exact only_mk hK)); (focus ((simp only [pick, List.filterMap_cons, List.filterMap_nil, List.getElem?_toArray, List.getElem?_cons_succ, List.getElem?_cons_zero]); (((try simp only [sides, hasSide, side, lowV, intV, slV, ptrV, Act.eval, Region.wanted, yielded_eq]); go_simp) <;> (try omega)))))
              (apply wpPlan_soft; (focus (intro K hK; (conv => arg 4; (simp only [pick, List.filterMap_cons, List.filterMap_nil, List.getElem?_toArray, List.getElem?_cons_succ, List.getElem?_cons_zero])); go_wp2; exact only_mk hK)); (focus ((simp only [pick, List.filterMap_cons, List.filterMap_nil, List.getElem?_toArray, List.getElem?_cons_succ, List.getElem?_cons_zero]); (((try simp only [sides, hasSide, side, lowV, intV, slV, ptrV, Act.eval, Region.wanted, yielded_eq]); go_simp) <;> (try omega)))))
              (apply wpPlan_soft; (focus (intro K hK; (conv => arg 4; (simp only [pick, List.filterMap_cons, List.filterMap_nil, List.getElem?_toArray, List.getElem?_cons_succ, List.getElem?_cons_zero])); (repeat (refine wpList_skip ?_ ?_; (focus kernel_rfl); simp only [Act.put, List.setIfInBounds_toArray, List.set_cons_zero, List.set_cons_succ])); refine wpList_nil ?_; exact only_mk hK)); (focus ((simp only [pick, List.filterMap_cons, List.filterMap_nil, List.getElem?_toArray, List.getElem?_cons_succ, List.getElem?_cons_zero]); (((try simp only [sides, hasSide, side, lowV, intV, slV, ptrV, Act.eval, Region.wanted, yielded_eq]); go_simp) <;> (try omega)))))
              (apply wpPlan_soft; (focus (intro K hK; (conv => arg 4; (simp only [pick, List.filterMap_cons, List.filterMap_nil, List.getElem?_toArray, List.getElem?_cons_succ, List.getElem?_cons_zero])); go_wp2; exact only_mk hK)); (focus ((simp only [pick, List.filterMap_cons, List.filterMap_nil, List.getElem?_toArray, List.getElem?_cons_succ, List.getElem?_cons_zero]); (((try simp only [sides, hasSide, side, lowV, intV, slV, ptrV, Act.eval, Region.wanted, yielded_eq]); go_simp) <;> (try omega)))))
              (refine wpPlan_end ?_)
              go_wp2
              refine wp_region_plan (.soft [0, 1, 2] (.soft [3, 4, 5, 6, 7, 8, 9, 10, 11] (.soft [12] .done))) wr.heap.size (by kernel_rfl) (by kernel_rfl) (by kernel_rfl) ?_
              (apply wpPlan_soft; (focus (intro K hK; (conv => arg 4; (simp only [pick, List.filterMap_cons, List.filterMap_nil, List.getElem?_toArray, List.getElem?_cons_succ, List.getElem?_cons_zero])); go_wp2; exact only_mk hK)); (focus ((simp only [pick, List.filterMap_cons, List.filterMap_nil, List.getElem?_toArray, List.getElem?_cons_succ, List.getElem?_cons_zero]); (((try simp only [sides, hasSide, side, lowV, intV, slV, ptrV, Act.eval, Region.wanted, yielded_eq]); go_simp) <;> (try omega)))))
              (apply wpPlan_soft; (focus (intro K hK; (conv => arg 4; (simp only [pick, List.filterMap_cons, List.filterMap_nil, List.getElem?_toArray, List.getElem?_cons_succ, List.getElem?_cons_zero])); go_wp2; exact only_mk hK)); (focus ((simp only [pick, List.filterMap_cons, List.filterMap_nil, List.getElem?_toArray, List.getElem?_cons_succ, List.getElem?_cons_zero]); (((try simp only [sides, hasSide, side, lowV, intV, slV, ptrV, Act.eval, Region.wanted, yielded_eq]); go_simp) <;> (try omega)))))
              (apply wpPlan_soft; (focus (intro K hK; (conv => arg 4; (simp only [pick, List.filterMap_cons, List.filterMap_nil, List.getElem?_toArray, List.getElem?_cons_succ, List.getElem?_cons_zero])); go_wp2; exact only_mk hK)); (focus ((simp only [pick, List.filterMap_cons, List.filterMap_nil, List.getElem?_toArray, List.getElem?_cons_succ, List.getElem?_cons_zero]); (((try simp only [sides, hasSide, side, lowV, intV, slV, ptrV, Act.eval, Region.wanted, yielded_eq]); go_simp) <;> (try omega)))))
              (refine wpPlan_end ?_)
              go_wp2_with (at_builtin; refine wpList_push1 (B := w.heap.size) (w0 := w) (n := i) (xs := ints L) (u := .int .i64 (0 + 1)) rfl (.tmp 48) (.tmp 50) 22 rfl 3 (.int .i64 0) 8 Try.underlying22 infoInt rfl ?c1 rfl rfl ?c2 ?c3 rfl ?c4 ?c5 ?_)
              case c1 => exact ownsRow_up hown.out (by (repeat' (first | exact Below.refl _ _ | assumption | (refine Below.alloc ?_ ?_ _) | (refine Below.drew ?_) | (refine Below.setCell ?_ ?_ _) | (refine Below.trans ?_ (Below.mono (by assumption) ?_)) | omega | (simp; done) | (simp; omega))))
              case c2 => exact hb.trans ((show Below wo.heap.size wo _ by (repeat' (first | exact Below.refl _ _ | assumption | (refine Below.alloc ?_ ?_ _) | (refine Below.drew ?_) | (refine Below.setCell ?_ ?_ _) | (refine Below.trans ?_ (Below.mono (by assumption) ?_)) | omega | (simp; done) | (simp; omega)))).mono (by omega))
              case c3 => go_simp
              case c4 => simp [maxLen]; omega
              case c5 => simp; omega
              intro v' w1 hown1 hb1 _
              go_wp2
              go_roundw
              case rel => exact ⟨i + 1, 0 + 1, L ++ [((0 + 1 : Nat) : Int)], by omega, by go_num, by go_num, hI.out.step hyes.out, by rw [← ints_snoc]; exact hown1, hb1⟩
              case measure => simp [intOf]; omega
            · go_wp2
              refine wp_region_plan (.soft [0, 1, 2] (.soft [3, 4] (.soft [5, 6] (.soft [7, 8, 9, 10, 11, 12, 13, 14, 15] (.soft [16] .done))))) wr.heap.size (by kernel_rfl) (by kernel_rfl) (by kernel_rfl) ?_
              (apply wpPlan_soft; (focus (intro K hK; (conv => arg 4; (simp only [pick, List.filterMap_cons, List.filterMap_nil, List.getElem?_toArray, List.getElem?_cons_succ, List.getElem?_cons_zero])); go_wp2; exact only_mk hK)); (focus ((simp only [pick, List.filterMap_cons, List.filterMap_nil, List.getElem?_toArray, List.getElem?_cons_succ, List.getElem?_cons_zero]); (((try simp only [sides, hasSide, side, lowV, intV, slV, ptrV, Act.eval, Region.wanted, yielded_eq]); go_simp) <;> (try omega)))))
              (apply wpPlan_soft; (focus (intro K hK; (conv => arg 4; (simp only [pick, List.filterMap_cons, List.filterMap_nil, List.getElem?_toArray, List.getElem?_cons_succ, List.getElem?_cons_zero])); go_wp2; exact only_mk hK)); (focus ((simp only [pick, List.filterMap_cons, List.filterMap_nil, List.getElem?_toArray, List.getElem?_cons_succ, List.getElem?_cons_zero]); (((try simp only [sides, hasSide, side, lowV, intV, slV, ptrV, Act.eval, Region.wanted, yielded_eq]); go_simp) <;> (try omega)))))
              (apply wpPlan_soft; (focus (intro K hK; (conv => arg 4; (simp only [pick, List.filterMap_cons, List.filterMap_nil, List.getElem?_toArray, List.getElem?_cons_succ, List.getElem?_cons_zero])); go_wp2; exact only_mk hK)); (focus ((simp only [pick, List.filterMap_cons, List.filterMap_nil, List.getElem?_toArray, List.getElem?_cons_succ, List.getElem?_cons_zero]); (((try simp only [sides, hasSide, side, lowV, intV, slV, ptrV, Act.eval, Region.wanted, yielded_eq]); go_simp) <;> (try omega)))))
              (apply wpPlan_soft; (focus (intro K hK; (conv => arg 4; (simp only [pick, List.filterMap_cons, List.filterMap_nil, List.getElem?_toArray, List.getElem?_cons_succ, List.getElem?_cons_zero])); go_wp2; exact only_mk hK)); (focus ((simp only [pick, List.filterMap_cons, List.filterMap_nil, List.getElem?_toArray, List.getElem?_cons_succ, List.getElem?_cons_zero]); (((try simp only [sides, hasSide, side, lowV, intV, slV, ptrV, Act.eval, Region.wanted, yielded_eq]); go_simp) <;> (try omega)))))
              (apply wpPlan_soft; (focus (intro K hK; (conv => arg 4; (simp only [pick, List.filterMap_cons, List.filterMap_nil, List.getElem?_toArray, List.getElem?_cons_succ, List.getElem?_cons_zero])); go_wp2; exact only_mk hK)); (focus ((simp only [pick, List.filterMap_cons, List.filterMap_nil, List.getElem?_toArray, List.getElem?_cons_succ, List.getElem?_cons_zero]); (((try simp only [sides, hasSide, side, lowV, intV, slV, ptrV, Act.eval, Region.wanted, yielded_eq]); go_simp) <;> (try omega)))))
              (refine wpPlan_end ?_)
              go_wp2
              refine wp_region_plan (.soft [0, 1, 2] (.soft [3, 4, 5, 6, 7, 8, 9, 10, 11] (.soft [12] .done))) wr.heap.size (by kernel_rfl) (by kernel_rfl) (by kernel_rfl) ?_
              (apply wpPlan_soft; (focus (intro K hK; (conv => arg 4; (simp only [pick, List.filterMap_cons, List.filterMap_nil, List.getElem?_toArray, List.getElem?_cons_succ, List.getElem?_cons_zero])); go_wp2; exact only_mk hK)); (focus ((simp only [pick, List.filterMap_cons, List.filterMap_nil, List.getElem?_toArray, List.getElem?_cons_succ, List.getElem?_cons_zero]); (((try simp only [sides, hasSide, side, lowV, intV, slV, ptrV, Act.eval, Region.wanted, yielded_eq]); go_simp) <;> (try omega)))))
              (apply wpPlan_soft; (focus (intro K hK; (conv => arg 4; (simp only [pick, List.filterMap_cons, List.filterMap_nil, List.getElem?_toArray, List.getElem?_cons_succ, List.getElem?_cons_zero])); go_wp2; exact only_mk hK)); (focus ((simp only [pick, List.filterMap_cons, List.filterMap_nil, List.getElem?_toArray, List.getElem?_cons_succ, List.getElem?_cons_zero]); (((try simp only [sides, hasSide, side, lowV, intV, slV, ptrV, Act.eval, Region.wanted, yielded_eq]); go_simp) <;> (try omega)))))
              (apply wpPlan_soft; (focus (intro K hK; (conv => arg 4; (simp only [pick, List.filterMap_cons, List.filterMap_nil, List.getElem?_toArray, List.getElem?_cons_succ, List.getElem?_cons_zero])); go_wp2; exact only_mk hK)); (focus ((simp only [pick, List.filterMap_cons, List.filterMap_nil, List.getElem?_toArray, List.getElem?_cons_succ, List.getElem?_cons_zero]); (((try simp only [sides, hasSide, side, lowV, intV, slV, ptrV, Act.eval, Region.wanted, yielded_eq]); go_simp) <;> (try omega)))))
              (refine wpPlan_end ?_)
              go_wp2_with (at_builtin; refine wpList_push1 (B := w.heap.size) (w0 := w) (n := i) (xs := ints L) (u := .int .i64 (q + 1)) rfl (.tmp 48) (.tmp 50) 22 rfl 3 (.int .i64 0) 8 Try.underlying22 infoInt rfl ?c1 rfl rfl ?c2 ?c3 rfl ?c4 ?c5 ?_)
              case c1 => exact ownsRow_up hown.out (by (repeat' (first | exact Below.refl _ _ | assumption | (refine Below.alloc ?_ ?_ _) | (refine Below.drew ?_) | (refine Below.setCell ?_ ?_ _) | (refine Below.trans ?_ (Below.mono (by assumption) ?_)) | omega | (simp; done) | (simp; omega))))
              case c2 => exact hb.trans ((show Below wo.heap.size wo _ by (repeat' (first | exact Below.refl _ _ | assumption | (refine Below.alloc ?_ ?_ _) | (refine Below.drew ?_) | (refine Below.setCell ?_ ?_ _) | (refine Below.trans ?_ (Below.mono (by assumption) ?_)) | omega | (simp; done) | (simp; omega)))).mono (by omega))
              case c3 => go_simp
              case c4 => simp [maxLen]; omega
              case c5 => simp; omega
              intro v' w1 hown1 hb1 _
              go_wp2
              go_roundw
              case rel => exact ⟨i + 1, q + 1, L ++ [((q + 1 : Nat) : Int)], by omega, by go_num, by go_num, hI.out.step hyes.out, by rw [← ints_snoc]; exact hown1, hb1⟩
              case measure => simp [intOf]; omega
          · have hzb : (z1 != z2) = true := by simpa using hz
            have hzc : (z1 == z2) = false := by simpa using hz
            replace hz := Lib.hid hz
            rcases Nat.eq_zero_or_pos q with rfl | hq0
            · rw [Nat.add_zero] at hcq
              have hno := Lib.hid (cand_no hC.out (by rw [hz1.out, hz2.out]; exact hz.out))
              go_wp2
              refine wp_region_plan (.soft [0, 1, 2] (.soft [3, 4] (.soft [5, 6] (.soft [7, 8, 9, 10, 11, 12, 13, 14, 15] (.soft [16] .done))))) wr.heap.size (by kernel_rfl) (by kernel_rfl) (by kernel_rfl) ?_
              (apply wpPlan_soft; (focus (intro K hK; (conv => arg 4; (simp only [pick, List.filterMap_cons, List.filterMap_nil, List.getElem?_toArray, List.getElem?_cons_succ, List.getElem?_cons_zero])); go_wp2; exact only_mk hK)); (focus ((simp only [pick, List.filterMap_cons, List.filterMap_nil, List.getElem?_toArray, List.getElem?_cons_succ, List.getElem?_cons_zero]); (((try simp only [sides, hasSide, side, lowV, intV, slV, ptrV, Act.eval, Region.wanted, yielded_eq]); go_simp) <;> (try omega)))))
              (apply wpPlan_soft; (focus (intro K hK; (conv => arg 4; (simp only [pick, List.filterMap_cons, List.filterMap_nil, List.getElem?_toArray, List.getElem?_cons_succ, List.getElem?_cons_zero])); go_wp2; exact only_mk hK)); (focus ((simp only [pick, List.filterMap_cons, List.filterMap_nil, List.getElem?_toArray, List.getElem?_cons_succ, List.getElem?_cons_zero]); (((try simp only [sides, hasSide, side, lowV, intV, slV, ptrV, Act.eval, Region.wanted, yielded_eq]); go_simp) <;> (try omega)))))
              (apply wpPlan_soft; (focus (intro K hK; (conv => arg 4; (simp only [pick, List.filterMap_cons, List.filterMap_nil, List.getElem?_toArray, List.getElem?_cons_succ, List.getElem?_cons_zero])); go_wp2; exact only_mk hK)); (focus ((simp only [pick, List.filterMap_cons, List.filterMap_nil, List.getElem?_toArray, List.getElem?_cons_succ, List.getElem?_cons_zero]); (((try simp only [sides, hasSide, side, lowV, intV, slV, ptrV, Act.eval, Region.wanted, yielded_eq]); go_simp) <;> (try omega)))))
              (apply wpPlan_soft; (focus (intro K hK; (conv => arg 4; (simp only [pick, List.filterMap_cons, List.filterMap_nil, List.getElem?_toArray, List.getElem?_cons_succ, List.getElem?_cons_zero])); (repeat (refine wpList_skip ?_ ?_; (focus kernel_rfl); simp only [Act.put, List.setIfInBounds_toArray, List.set_cons_zero, List.set_cons_succ])); refine wpList_nil ?_; exact only_mk hK)); (focus ((simp only [pick, List.filterMap_cons, List.filterMap_nil, List.getElem?_toArray, List.getElem?_cons_succ, List.getElem?_cons_zero]); (((try simp only [sides, hasSide, side, lowV, intV, slV, ptrV, Act.eval, Region.wanted, yielded_eq]); go_simp) <;> (try omega)))))
              (apply wpPlan_soft; (focus (intro K hK; (conv => arg 4; (simp only [pick, List.filterMap_cons, List.filterMap_nil, List.getElem?_toArray, List.getElem?_cons_succ, List.getElem?_cons_zero])); go_wp2; exact only_mk hK)); (focus ((simp only [pick, List.filterMap_cons, List.filterMap_nil, List.getElem?_toArray, List.getElem?_cons_succ, List.getElem?_cons_zero]); (((try simp only [sides, hasSide, side, lowV, intV, slV, ptrV, Act.eval, Region.wanted, yielded_eq]); go_simp) <;> (try omega)))))
              (refine wpPlan_end ?_)
              go_wp2
              refine wp_region_plan (.soft [0, 1, 2] (.soft [3, 4, 5, 6, 7, 8, 9, 10, 11] (.soft [12] .done))) wr.heap.size (by kernel_rfl) (by kernel_rfl) (by kernel_rfl) ?_
              (apply wpPlan_soft; (focus (intro K hK; (conv => arg 4; (simp only [pick, List.filterMap_cons, List.filterMap_nil, List.getElem?_toArray, List.getElem?_cons_succ, List.getElem?_cons_zero])); go_wp2; exact only_mk hK)); (focus ((simp only [pick, List.filterMap_cons, List.filterMap_nil, List.getElem?_toArray, List.getElem?_cons_succ, List.getElem?_cons_zero]); (((try simp only [sides, hasSide, side, lowV, intV, slV, ptrV, Act.eval, Region.wanted, yielded_eq]); go_simp) <;> (try omega)))))
              (apply wpPlan_soft; (focus (intro K hK; (conv => arg 4; (simp only [pick, List.filterMap_cons, List.filterMap_nil, List.getElem?_toArray, List.getElem?_cons_succ, List.getElem?_cons_zero])); go_wp2; exact only_mk hK)); (focus ((simp only [pick, List.filterMap_cons, List.filterMap_nil, List.getElem?_toArray, List.getElem?_cons_succ, List.getElem?_cons_zero]); (((try simp only [sides, hasSide, side, lowV, intV, slV, ptrV, Act.eval, Region.wanted, yielded_eq]); go_simp) <;> (try omega)))))
              (apply wpPlan_soft; (focus (intro K hK; (conv => arg 4; (simp only [pick, List.filterMap_cons, List.filterMap_nil, List.getElem?_toArray, List.getElem?_cons_succ, List.getElem?_cons_zero])); go_wp2; exact only_mk hK)); (focus ((simp only [pick, List.filterMap_cons, List.filterMap_nil, List.getElem?_toArray, List.getElem?_cons_succ, List.getElem?_cons_zero]); (((try simp only [sides, hasSide, side, lowV, intV, slV, ptrV, Act.eval, Region.wanted, yielded_eq]); go_simp) <;> (try omega)))))
              (refine wpPlan_end ?_)
              go_wp2_with (at_builtin; refine wpList_push1 (B := w.heap.size) (w0 := w) (n := i) (xs := ints L) (u := .int .i64 0) rfl (.tmp 48) (.tmp 50) 22 rfl 3 (.int .i64 0) 8 Try.underlying22 infoInt rfl ?c1 rfl rfl ?c2 ?c3 rfl ?c4 ?c5 ?_)
              case c1 => exact ownsRow_up hown.out (by (repeat' (first | exact Below.refl _ _ | assumption | (refine Below.alloc ?_ ?_ _) | (refine Below.drew ?_) | (refine Below.setCell ?_ ?_ _) | (refine Below.trans ?_ (Below.mono (by assumption) ?_)) | omega | (simp; done) | (simp; omega))))
              case c2 => exact hb.trans ((show Below wo.heap.size wo _ by (repeat' (first | exact Below.refl _ _ | assumption | (refine Below.alloc ?_ ?_ _) | (refine Below.drew ?_) | (refine Below.setCell ?_ ?_ _) | (refine Below.trans ?_ (Below.mono (by assumption) ?_)) | omega | (simp; done) | (simp; omega)))).mono (by omega))
              case c3 => go_simp
              case c4 => simp [maxLen]; omega
              case c5 => simp; omega
              intro v' w1 hown1 hb1 _
              go_wp2
              go_roundw
              case rel => exact ⟨i + 1, 0, L ++ [((0 : Nat) : Int)], by omega, by go_num, by go_num, hI.out.step hno.out, by rw [← ints_snoc]; exact hown1, hb1⟩
              case measure => simp [intOf]; omega
            · obtain ⟨k2, hk2, hl2⟩ := hI.out.2.1 (q - 1) (by omega)
              rw [show q - 1 + 1 = q from by omega] at hl2
              have hcg := hown2.cellAt (q - 1) (by omega)
              rw [ints_at (by rw [hI.out.1]; omega), hk2] at hcg
              replace hk2 := Lib.hid hk2
              have hst := Lib.hid (cand_step hC.out hq0 (by rw [hz1.out, hz2.out]; exact hz.out) hl2)
              have hlt2 := hl2.1.1
              clear hl2
              replace hown2 := Lib.hid hown2
              go_wp2
              refine wp_region_plan (.soft [0, 1, 2] (.soft [3, 4] (.soft [5, 6] (.soft [7, 8, 9, 10, 11, 12, 13, 14, 15] (.soft [16] .done))))) wr.heap.size (by kernel_rfl) (by kernel_rfl) (by kernel_rfl) ?_
              (apply wpPlan_soft; (focus (intro K hK; (conv => arg 4; (simp only [pick, List.filterMap_cons, List.filterMap_nil, List.getElem?_toArray, List.getElem?_cons_succ, List.getElem?_cons_zero])); go_wp2; exact only_mk hK)); (focus ((simp only [pick, List.filterMap_cons, List.filterMap_nil, List.getElem?_toArray, List.getElem?_cons_succ, List.getElem?_cons_zero]); (((try simp only [sides, hasSide, side, lowV, intV, slV, ptrV, Act.eval, Region.wanted, yielded_eq]); go_simp) <;> (try omega)))))
              (apply wpPlan_soft; (focus (intro K hK; (conv => arg 4; (simp only [pick, List.filterMap_cons, List.filterMap_nil, List.getElem?_toArray, List.getElem?_cons_succ, List.getElem?_cons_zero])); go_wp2; exact only_mk hK)); (focus ((simp only [pick, List.filterMap_cons, List.filterMap_nil, List.getElem?_toArray, List.getElem?_cons_succ, List.getElem?_cons_zero]); (((try simp only [sides, hasSide, side, lowV, intV, slV, ptrV, Act.eval, Region.wanted, yielded_eq]); go_simp) <;> (try omega)))))
              (apply wpPlan_soft; (focus (intro K hK; (conv => arg 4; (simp only [pick, List.filterMap_cons, List.filterMap_nil, List.getElem?_toArray, List.getElem?_cons_succ, List.getElem?_cons_zero])); go_wp2; exact only_mk hK)); (focus ((simp only [pick, List.filterMap_cons, List.filterMap_nil, List.getElem?_toArray, List.getElem?_cons_succ, List.getElem?_cons_zero]); (((try simp only [sides, hasSide, side, lowV, intV, slV, ptrV, Act.eval, Region.wanted, yielded_eq]); go_simp) <;> (try omega)))))
              (apply wpPlan_soft; (focus (intro K hK; (conv => arg 4; (simp only [pick, List.filterMap_cons, List.filterMap_nil, List.getElem?_toArray, List.getElem?_cons_succ, List.getElem?_cons_zero])); go_wp2; exact only_mk hK)); (focus ((simp only [pick, List.filterMap_cons, List.filterMap_nil, List.getElem?_toArray, List.getElem?_cons_succ, List.getElem?_cons_zero]); (((try simp only [sides, hasSide, side, lowV, intV, slV, ptrV, Act.eval, Region.wanted, yielded_eq]); go_simp) <;> (try omega)))))
              (apply wpPlan_soft; (focus (intro K hK; (conv => arg 4; (simp only [pick, List.filterMap_cons, List.filterMap_nil, List.getElem?_toArray, List.getElem?_cons_succ, List.getElem?_cons_zero])); go_wp2; exact only_mk hK)); (focus ((simp only [pick, List.filterMap_cons, List.filterMap_nil, List.getElem?_toArray, List.getElem?_cons_succ, List.getElem?_cons_zero]); (((try simp only [sides, hasSide, side, lowV, intV, slV, ptrV, Act.eval, Region.wanted, yielded_eq]); go_simp) <;> (try omega)))))
              (refine wpPlan_end ?_)
              go_wp2
              go_roundw
              case rel => exact ⟨k2, rfl, hst.out, by (repeat' (first | exact Below.refl _ _ | assumption | (refine Below.alloc ?_ ?_ _) | (refine Below.drew ?_) | (refine Below.setCell ?_ ?_ _) | (refine Below.trans ?_ (Below.mono (by assumption) ?_)) | omega | (simp; done) | (simp; omega)))⟩
              case measure => simp [intOf]; omega
    · have e : i = n := by omega
      subst e
      have hq := Lib.hid (Ints.ofOwn (by rw [hI.out.1]; exact hown) (l := L) (w := wr) hI.out.i64)
      clear hown
      go_wp2
      go_ret
      exact ⟨_, L, rfl, hq.out, ⟨k, by rw [← Ln.out]; exact hI.out⟩, hb⟩
end Go.Proofs.Ytfpdnigihjmohaa
