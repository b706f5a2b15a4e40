/- The walks of package word: the shortest loop. -/
import Derived.Test.YtfpdnigihjmohaaWordB
import Derived.Test.YtfpdnigihjmohaaSlices
namespace Go.Proofs.Ytfpdnigihjmohaa
open Go.RowKit
set_option linter.unusedSimpArgs false
set_option linter.unusedVariables false
attribute [local irreducible] wpList

/-- may n be the size of a shorter loop? -/
def perOk (l : List Int) (n : Nat) : Bool := decide (0 < n) && decide (l.length % n = 0) && eqS (l.drop n) (l.take (l.length - n))
/-- the size of the shortest loop, looked for from k on -/
def perFrom (l : List Int) (k : Nat) : Nat → Nat
  | 0 => l.length
  | f + 1 => if perOk l k then k else perFrom l (k + 1) f
def per (l : List Int) : Nat := perFrom l 0 l.length

def RetTake (w : World) (l : List Int) (n : Nat) (e : Ending) (w' : World) : Prop := ∃ v, e = .returned v ∧ Ints w' v (l.take n) ∧ Below w.heap.size w w'
set_option maxHeartbeats 400000 in
theorem period_any (v : Value) (l : List Int) (w : World) (h : Ints w v l) (hlen : l.length ≤ 60) :
    Calls Try.prog 107 #[v] w (RetTake w l (per l)) := by
  obtain ⟨ao, n, cap, rfl, H, L, hc, hm⟩ := h.shape
  have hn : n ≤ 60 := by rw [L.out]; exact hlen
  clear h hlen
  go_enter Try.func107, Try.ntmps107
  go_wp2
  go_loopw [6] (fun i wr => ∃ k : Nat, k ≤ n ∧ i = .int .i64 k ∧ perFrom l k (n - k) = per l ∧ Below w.heap.size w wr) (fun i _ => n - (intOf i).toNat)
  case atStart => exact ⟨0, Nat.zero_le _, rfl, by rw [Nat.sub_zero, L.out]; rfl, Below.refl _ _⟩
  case round =>
    obtain ⟨k, hk, rfl, hg, hb⟩ := hrel
    have Hg := Lib.hid hg
    clear hg
    have hg := Hg
    clear Hg
    have hsz := hb.size
    by_cases hlt : k < n
    · have hS : Hid (per l = if perOk l k then k else perFrom l (k + 1) (n - (k + 1))) := by
        rw [← hg.out, show n - k = (n - (k + 1)) + 1 from by omega]
        exact rfl
      by_cases hk0 : 0 < k
      · by_cases hmod : n % k = 0
        · have hmi : ((n : Int) % k) = 0 := by rw [← Int.natCast_emod, hmod]; rfl
          have hmb : (((n : Int) % k) == 0) = true := by rw [hmi]; rfl
          clear hmi
          have hPer : perOk l k = eqS (l.drop k) (l.take (n - k)) := by
            unfold perOk
            rw [← L.out, hmod]
            simp [hk0]
          have hPer := Lib.hid hPer
          have hmod := Lib.hid hmod
          have hT : Hid (Ints w (.slice ao k cap) (l.take k)) := H.takeV (by omega)
          have hE : Hid (∀ W, Below w.heap.size w W → Calls Try.prog 92 #[.slice (Option.map (fun x => x.add k) ao) (n - k) (cap - k), .slice ao (n - k) cap] W fun e w' => e = .returned (.bool (perOk l k)) ∧ Below W.heap.size W w') := fun W hW => by
            rw [hPer.out]
            exact equal_any _ _ _ _ W ((H.up hW).dropV (k := k) (by omega) (by omega)) ((H.up hW).takeV (k := n - k) (by omega))
          clear H
          by_cases hb1 : perOk l k = true
          · rw [hb1] at hE
            have hb1 := Lib.hid hb1
            go_wp2
            refine wp_region_plan (.soft [0, 1, 2] (.soft [3, 4, 5, 6, 7] (.soft [8, 9] (.soft [10, 11, 12, 13, 14, 15, 16, 17, 18] (.alt 19 (.soft [20] .done) .stop))))) wr.heap.size (by kernel_rfl) (by kernel_rfl) (by kernel_rfl) ?_
            (apply wpPlan_soft; (focus (intro K hK; (conv => arg 4; (simp only [pick, List.filterMap_cons, List.filterMap_nil, List.getElem?_toArray, List.getElem?_cons_succ, List.getElem?_cons_zero])); go_wp2; exact only_mk hK)); (focus ((simp only [pick, List.filterMap_cons, List.filterMap_nil, List.getElem?_toArray, List.getElem?_cons_succ, List.getElem?_cons_zero]); (((try simp only [sides, hasSide, side, lowV, intV, slV, ptrV, Act.eval, Region.wanted, yielded_eq]); go_simp) <;> (try omega)))))
            (apply wpPlan_soft; (focus (intro K hK; (conv => arg 4; (simp only [pick, List.filterMap_cons, List.filterMap_nil, List.getElem?_toArray, List.getElem?_cons_succ, List.getElem?_cons_zero])); go_wp2; exact only_mk hK)); (focus ((simp only [pick, List.filterMap_cons, List.filterMap_nil, List.getElem?_toArray, List.getElem?_cons_succ, List.getElem?_cons_zero]); (((try simp only [sides, hasSide, side, lowV, intV, slV, ptrV, Act.eval, Region.wanted, yielded_eq]); go_simp) <;> (try omega)))))
            (apply wpPlan_soft; (focus (intro K hK; (conv => arg 4; (simp only [pick, List.filterMap_cons, List.filterMap_nil, List.getElem?_toArray, List.getElem?_cons_succ, List.getElem?_cons_zero])); go_wp2; exact only_mk hK)); (focus ((simp only [pick, List.filterMap_cons, List.filterMap_nil, List.getElem?_toArray, List.getElem?_cons_succ, List.getElem?_cons_zero]); (((try simp only [sides, hasSide, side, lowV, intV, slV, ptrV, Act.eval, Region.wanted, yielded_eq]); go_simp) <;> (try omega)))))
            (apply wpPlan_soft; (focus (intro K hK; (conv => arg 4; (simp only [pick, List.filterMap_cons, List.filterMap_nil, List.getElem?_toArray, List.getElem?_cons_succ, List.getElem?_cons_zero])); go_wp2; exact only_mk hK)); (focus ((simp only [pick, List.filterMap_cons, List.filterMap_nil, List.getElem?_toArray, List.getElem?_cons_succ, List.getElem?_cons_zero]); (((try simp only [sides, hasSide, side, lowV, intV, slV, ptrV, Act.eval, Region.wanted, yielded_eq]); go_simp) <;> (try omega)))))
            (refine wpPlan_op (by rfl) (by kernel_rfl) (fun K hK => ?_) wpPlan_stop; go_simp)
            refine (hE.out _ ?_).mono ?_
            · (repeat' (first | exact Below.refl _ _ | assumption | (refine Below.alloc ?_ ?_ _) | (refine Below.drew ?_) | (refine Below.setCell ?_ ?_ _) | (refine Below.trans ?_ (Below.mono (by assumption) ?_)) | omega | (simp; done) | (simp; omega)))
            rintro e w1 ⟨rfl, hb2⟩
            ((try simp only [Act.put, List.getElem_toArray, List.getElem_cons_succ, List.getElem_cons_zero, List.setIfInBounds_toArray, List.set_cons_zero, List.set_cons_succ]); refine hK _ _ ?_ ?_; (focus ((repeat' (first | exact Below.refl _ _ | assumption | (refine Below.alloc ?_ ?_ _) | (refine Below.drew ?_) | (refine Below.setCell ?_ ?_ _) | (refine Below.trans ?_ (Below.mono (by assumption) ?_)) | omega | (simp; done) | (simp; omega))))); clear hK K)
            (apply wpPlan_soft; (focus (intro K hK; (conv => arg 4; (simp only [pick, List.filterMap_cons, List.filterMap_nil, List.getElem?_toArray, List.getElem?_cons_succ, List.getElem?_cons_zero])); go_wp2; exact only_mk hK)); (focus ((simp only [pick, List.filterMap_cons, List.filterMap_nil, List.getElem?_toArray, List.getElem?_cons_succ, List.getElem?_cons_zero]); (((try simp only [sides, hasSide, side, lowV, intV, slV, ptrV, Act.eval, Region.wanted, yielded_eq]); go_simp) <;> (try omega)))))
            (refine wpPlan_end ?_)
            go_wp2
            go_ret
            have hb3 : Below w.heap.size w w1 := by (repeat' (first | exact Below.refl _ _ | assumption | (refine Below.alloc ?_ ?_ _) | (refine Below.drew ?_) | (refine Below.setCell ?_ ?_ _) | (refine Below.trans ?_ (Below.mono (by assumption) ?_)) | omega | (simp; done) | (simp; omega)))
            refine ⟨_, rfl, ?_, hb3⟩
            rw [hS.out, if_pos hb1.out]
            exact hT.out.up hb3
          · rw [Bool.not_eq_true] at hb1
            rw [hb1] at hE
            have hb1 := Lib.hid hb1
            go_wp2
            refine wp_region_plan (.soft [0, 1, 2] (.soft [3, 4, 5, 6, 7] (.soft [8, 9] (.soft [10, 11, 12, 13, 14, 15, 16, 17, 18] (.alt 19 (.soft [20] .done) .stop))))) wr.heap.size (by kernel_rfl) (by kernel_rfl) (by kernel_rfl) ?_
            (apply wpPlan_soft; (focus (intro K hK; (conv => arg 4; (simp only [pick, List.filterMap_cons, List.filterMap_nil, List.getElem?_toArray, List.getElem?_cons_succ, List.getElem?_cons_zero])); go_wp2; exact only_mk hK)); (focus ((simp only [pick, List.filterMap_cons, List.filterMap_nil, List.getElem?_toArray, List.getElem?_cons_succ, List.getElem?_cons_zero]); (((try simp only [sides, hasSide, side, lowV, intV, slV, ptrV, Act.eval, Region.wanted, yielded_eq]); go_simp) <;> (try omega)))))
            (apply wpPlan_soft; (focus (intro K hK; (conv => arg 4; (simp only [pick, List.filterMap_cons, List.filterMap_nil, List.getElem?_toArray, List.getElem?_cons_succ, List.getElem?_cons_zero])); go_wp2; exact only_mk hK)); (focus ((simp only [pick, List.filterMap_cons, List.filterMap_nil, List.getElem?_toArray, List.getElem?_cons_succ, List.getElem?_cons_zero]); (((try simp only [sides, hasSide, side, lowV, intV, slV, ptrV, Act.eval, Region.wanted, yielded_eq]); go_simp) <;> (try omega)))))
            (apply wpPlan_soft; (focus (intro K hK; (conv => arg 4; (simp only [pick, List.filterMap_cons, List.filterMap_nil, List.getElem?_toArray, List.getElem?_cons_succ, List.getElem?_cons_zero])); go_wp2; exact only_mk hK)); (focus ((simp only [pick, List.filterMap_cons, List.filterMap_nil, List.getElem?_toArray, List.getElem?_cons_succ, List.getElem?_cons_zero]); (((try simp only [sides, hasSide, side, lowV, intV, slV, ptrV, Act.eval, Region.wanted, yielded_eq]); go_simp) <;> (try omega)))))
            (apply wpPlan_soft; (focus (intro K hK; (conv => arg 4; (simp only [pick, List.filterMap_cons, List.filterMap_nil, List.getElem?_toArray, List.getElem?_cons_succ, List.getElem?_cons_zero])); go_wp2; exact only_mk hK)); (focus ((simp only [pick, List.filterMap_cons, List.filterMap_nil, List.getElem?_toArray, List.getElem?_cons_succ, List.getElem?_cons_zero]); (((try simp only [sides, hasSide, side, lowV, intV, slV, ptrV, Act.eval, Region.wanted, yielded_eq]); go_simp) <;> (try omega)))))
            (refine wpPlan_op (by rfl) (by kernel_rfl) (fun K hK => ?_) wpPlan_stop; go_simp)
            refine (hE.out _ ?_).mono ?_
            · (repeat' (first | exact Below.refl _ _ | assumption | (refine Below.alloc ?_ ?_ _) | (refine Below.drew ?_) | (refine Below.setCell ?_ ?_ _) | (refine Below.trans ?_ (Below.mono (by assumption) ?_)) | omega | (simp; done) | (simp; omega)))
            rintro e w1 ⟨rfl, hb2⟩
            ((try simp only [Act.put, List.getElem_toArray, List.getElem_cons_succ, List.getElem_cons_zero, List.setIfInBounds_toArray, List.set_cons_zero, List.set_cons_succ]); refine hK _ _ ?_ ?_; (focus ((repeat' (first | exact Below.refl _ _ | assumption | (refine Below.alloc ?_ ?_ _) | (refine Below.drew ?_) | (refine Below.setCell ?_ ?_ _) | (refine Below.trans ?_ (Below.mono (by assumption) ?_)) | omega | (simp; done) | (simp; omega))))); clear hK K)
            (apply wpPlan_soft; (focus (intro K hK; (conv => arg 4; (simp only [pick, List.filterMap_cons, List.filterMap_nil, List.getElem?_toArray, List.getElem?_cons_succ, List.getElem?_cons_zero])); go_wp2; exact only_mk hK)); (focus ((simp only [pick, List.filterMap_cons, List.filterMap_nil, List.getElem?_toArray, List.getElem?_cons_succ, List.getElem?_cons_zero]); (((try simp only [sides, hasSide, side, lowV, intV, slV, ptrV, Act.eval, Region.wanted, yielded_eq]); go_simp) <;> (try omega)))))
            (refine wpPlan_end ?_)
            go_wp2
            go_roundw
            case rel =>
              refine ⟨k + 1, by omega, by go_num, ?_, by (repeat' (first | exact Below.refl _ _ | assumption | (refine Below.alloc ?_ ?_ _) | (refine Below.drew ?_) | (refine Below.setCell ?_ ?_ _) | (refine Below.trans ?_ (Below.mono (by assumption) ?_)) | omega | (simp; done) | (simp; omega)))⟩
              rw [hS.out, if_neg (by rw [hb1.out]; simp)]
            case measure => simp [intOf]; omega
        · have hmb : (((n : Int) % k) == 0) = false := by
            rw [beq_eq_false_iff_ne]
            intro e
            rw [← Int.natCast_emod] at e
            omega
          have hb1 : perOk l k = false := by unfold perOk; rw [← L.out]; simp [hmod]
          have hb1 := Lib.hid hb1
          clear hmod
          go_wp2
          refine wp_region_plan (.soft [0, 1, 2] (.soft [3, 4, 5, 6, 7] (.soft [8, 9] (.soft [10, 11, 12, 13, 14, 15, 16, 17, 18] (.alt 19 (.soft [20] .done) .stop))))) wr.heap.size (by kernel_rfl) (by kernel_rfl) (by kernel_rfl) ?_
          (apply wpPlan_soft; (focus (intro K hK; (conv => arg 4; (simp only [pick, List.filterMap_cons, List.filterMap_nil, List.getElem?_toArray, List.getElem?_cons_succ, List.getElem?_cons_zero])); go_wp2; exact only_mk hK)); (focus ((simp only [pick, List.filterMap_cons, List.filterMap_nil, List.getElem?_toArray, List.getElem?_cons_succ, List.getElem?_cons_zero]); (((try simp only [sides, hasSide, side, lowV, intV, slV, ptrV, Act.eval, Region.wanted, yielded_eq]); go_simp) <;> (try omega)))))
          (apply wpPlan_soft; (focus (intro K hK; (conv => arg 4; (simp only [pick, List.filterMap_cons, List.filterMap_nil, List.getElem?_toArray, List.getElem?_cons_succ, List.getElem?_cons_zero])); go_wp2; exact only_mk hK)); (focus ((simp only [pick, List.filterMap_cons, List.filterMap_nil, List.getElem?_toArray, List.getElem?_cons_succ, List.getElem?_cons_zero]); (((try simp only [sides, hasSide, side, lowV, intV, slV, ptrV, Act.eval, Region.wanted, yielded_eq]); go_simp) <;> (try omega)))))
          (apply wpPlan_soft; (focus (intro K hK; (conv => arg 4; (simp only [pick, List.filterMap_cons, List.filterMap_nil, List.getElem?_toArray, List.getElem?_cons_succ, List.getElem?_cons_zero])); go_wp2; exact only_mk hK)); (focus ((simp only [pick, List.filterMap_cons, List.filterMap_nil, List.getElem?_toArray, List.getElem?_cons_succ, List.getElem?_cons_zero]); (((try simp only [sides, hasSide, side, lowV, intV, slV, ptrV, Act.eval, Region.wanted, yielded_eq]); go_simp) <;> (try omega)))))
          (apply wpPlan_soft; (focus (intro K hK; (conv => arg 4; (simp only [pick, List.filterMap_cons, List.filterMap_nil, List.getElem?_toArray, List.getElem?_cons_succ, List.getElem?_cons_zero])); (repeat (refine wpList_skip ?_ ?_; (focus kernel_rfl); simp only [Act.put, List.setIfInBounds_toArray, List.set_cons_zero, List.set_cons_succ])); refine wpList_nil ?_; exact only_mk hK)); (focus ((simp only [pick, List.filterMap_cons, List.filterMap_nil, List.getElem?_toArray, List.getElem?_cons_succ, List.getElem?_cons_zero]); (((try simp only [sides, hasSide, side, lowV, intV, slV, ptrV, Act.eval, Region.wanted, yielded_eq]); go_simp) <;> (try omega)))))
          (refine wpPlan_skip (by rfl) (by kernel_rfl) ?_ ?_; (focus ((repeat' (first | exact Below.refl _ _ | assumption | (refine Below.alloc ?_ ?_ _) | (refine Below.drew ?_) | (refine Below.setCell ?_ ?_ _) | (refine Below.trans ?_ (Below.mono (by assumption) ?_)) | omega | (simp; done) | (simp; omega))))); simp only [Act.put, List.setIfInBounds_toArray, List.set_cons_zero, List.set_cons_succ])
          (apply wpPlan_soft; (focus (intro K hK; (conv => arg 4; (simp only [pick, List.filterMap_cons, List.filterMap_nil, List.getElem?_toArray, List.getElem?_cons_succ, List.getElem?_cons_zero])); go_wp2; exact only_mk hK)); (focus ((simp only [pick, List.filterMap_cons, List.filterMap_nil, List.getElem?_toArray, List.getElem?_cons_succ, List.getElem?_cons_zero]); (((try simp only [sides, hasSide, side, lowV, intV, slV, ptrV, Act.eval, Region.wanted, yielded_eq]); go_simp) <;> (try omega)))))
          (refine wpPlan_end ?_)
          go_wp2
          go_roundw
          case rel =>
            refine ⟨k + 1, by omega, by go_num, ?_, by (repeat' (first | exact Below.refl _ _ | assumption | (refine Below.alloc ?_ ?_ _) | (refine Below.drew ?_) | (refine Below.setCell ?_ ?_ _) | (refine Below.trans ?_ (Below.mono (by assumption) ?_)) | omega | (simp; done) | (simp; omega)))⟩
            rw [hS.out, if_neg (by rw [hb1.out]; simp)]
          case measure => simp [intOf]; omega
      · have hd0 : decide ((0 : Int) < k) = false := by simp; omega
        go_wp2
        refine wp_region_plan (.soft [0, 1, 2] (.soft [3, 4, 5, 6, 7] (.soft [8, 9] (.soft [10, 11, 12, 13, 14, 15, 16, 17, 18] (.alt 19 (.soft [20] .done) .stop))))) wr.heap.size (by kernel_rfl) (by kernel_rfl) (by kernel_rfl) ?_
        (apply wpPlan_soft; (focus (intro K hK; (conv => arg 4; (simp only [pick, List.filterMap_cons, List.filterMap_nil, List.getElem?_toArray, List.getElem?_cons_succ, List.getElem?_cons_zero])); go_wp2; exact only_mk hK)); (focus ((simp only [pick, List.filterMap_cons, List.filterMap_nil, List.getElem?_toArray, List.getElem?_cons_succ, List.getElem?_cons_zero]); (((try simp only [sides, hasSide, side, lowV, intV, slV, ptrV, Act.eval, Region.wanted, yielded_eq]); go_simp) <;> (try omega)))))
        (apply wpPlan_soft; (focus (intro K hK; (conv => arg 4; (simp only [pick, List.filterMap_cons, List.filterMap_nil, List.getElem?_toArray, List.getElem?_cons_succ, List.getElem?_cons_zero])); (repeat (refine wpList_skip ?_ ?_; (focus kernel_rfl); simp only [Act.put, List.setIfInBounds_toArray, List.set_cons_zero, List.set_cons_succ])); refine wpList_nil ?_; exact only_mk hK)); (focus ((simp only [pick, List.filterMap_cons, List.filterMap_nil, List.getElem?_toArray, List.getElem?_cons_succ, List.getElem?_cons_zero]); (((try simp only [sides, hasSide, side, lowV, intV, slV, ptrV, Act.eval, Region.wanted, yielded_eq]); go_simp) <;> (try omega)))))
        (apply wpPlan_soft; (focus (intro K hK; (conv => arg 4; (simp only [pick, List.filterMap_cons, List.filterMap_nil, List.getElem?_toArray, List.getElem?_cons_succ, List.getElem?_cons_zero])); go_wp2; exact only_mk hK)); (focus ((simp only [pick, List.filterMap_cons, List.filterMap_nil, List.getElem?_toArray, List.getElem?_cons_succ, List.getElem?_cons_zero]); (((try simp only [sides, hasSide, side, lowV, intV, slV, ptrV, Act.eval, Region.wanted, yielded_eq]); go_simp) <;> (try omega)))))
        (apply wpPlan_soft; (focus (intro K hK; (conv => arg 4; (simp only [pick, List.filterMap_cons, List.filterMap_nil, List.getElem?_toArray, List.getElem?_cons_succ, List.getElem?_cons_zero])); (repeat (refine wpList_skip ?_ ?_; (focus kernel_rfl); simp only [Act.put, List.setIfInBounds_toArray, List.set_cons_zero, List.set_cons_succ])); refine wpList_nil ?_; exact only_mk hK)); (focus ((simp only [pick, List.filterMap_cons, List.filterMap_nil, List.getElem?_toArray, List.getElem?_cons_succ, List.getElem?_cons_zero]); (((try simp only [sides, hasSide, side, lowV, intV, slV, ptrV, Act.eval, Region.wanted, yielded_eq]); go_simp) <;> (try omega)))))
        (refine wpPlan_skip (by rfl) (by kernel_rfl) ?_ ?_; (focus ((repeat' (first | exact Below.refl _ _ | assumption | (refine Below.alloc ?_ ?_ _) | (refine Below.drew ?_) | (refine Below.setCell ?_ ?_ _) | (refine Below.trans ?_ (Below.mono (by assumption) ?_)) | omega | (simp; done) | (simp; omega))))); simp only [Act.put, List.setIfInBounds_toArray, List.set_cons_zero, List.set_cons_succ])
        (apply wpPlan_soft; (focus (intro K hK; (conv => arg 4; (simp only [pick, List.filterMap_cons, List.filterMap_nil, List.getElem?_toArray, List.getElem?_cons_succ, List.getElem?_cons_zero])); go_wp2; exact only_mk hK)); (focus ((simp only [pick, List.filterMap_cons, List.filterMap_nil, List.getElem?_toArray, List.getElem?_cons_succ, List.getElem?_cons_zero]); (((try simp only [sides, hasSide, side, lowV, intV, slV, ptrV, Act.eval, Region.wanted, yielded_eq]); go_simp) <;> (try omega)))))
        (refine wpPlan_end ?_)
        go_wp2
        go_roundw
        case rel =>
          refine ⟨k + 1, by omega, by go_num, ?_, by (repeat' (first | exact Below.refl _ _ | assumption | (refine Below.alloc ?_ ?_ _) | (refine Below.drew ?_) | (refine Below.setCell ?_ ?_ _) | (refine Below.trans ?_ (Below.mono (by assumption) ?_)) | omega | (simp; done) | (simp; omega)))⟩
          rw [hS.out, if_neg (by unfold perOk; simp [hk0])]
        case measure => simp [intOf]; omega
    · go_wp2
      go_ret
      refine ⟨_, rfl, ?_, hb⟩
      have : k = n := by omega
      have hp := hg.out
      rw [this, Nat.sub_self] at hp
      rw [← hp]
      show Ints wr _ (l.take l.length)
      rw [List.take_length]
      exact H.up hb
end Go.Proofs.Ytfpdnigihjmohaa
