/- The walks of package word: the shortest lasso. -/
import Derived.Test.YtfpdnigihjmohaaWordC
namespace Go.Proofs.Ytfpdnigihjmohaa
open Go.RowKit
set_option linter.unusedSimpArgs false
set_option linter.unusedVariables false
attribute [local irreducible] wpList

def normFrom (h : List Int) : Nat → List Int → List Int × List Int
  | 0, L => ([], L)
  | k + 1, L => if h.getD k 0 = L.getD (L.length - 1) 0 then normFrom h k (h.getD k 0 :: L.take (L.length - 1)) else (h.take (k + 1), L)
def normS (h l : List Int) : List Int × List Int := normFrom h h.length (l.take (per l))

theorem info1 : (Try.prog.info? 3).map (·.size) = some 1 := by kernel_rfl
theorem cellsLasso : Try.prog.cellsOf 34 = 2 := by kernel_rfl

/-- it hands back a lasso that reads as (h, l) -/
def RetLasso (w : World) (x : List Int × List Int) (e : Ending) (w' : World) : Prop := ∃ v1 v2, e = .returned (.agg #[v1, v2]) ∧ IntsFrom w.heap.size w' v1 x.1 ∧ IntsFrom w.heap.size w' v2 x.2 ∧ Below w.heap.size w w'

theorem perFrom_le (l : List Int) : ∀ f k, k + f = l.length → perFrom l k f ≤ l.length ∧ (0 < l.length → 0 < perFrom l k f)
  | 0, k, h => ⟨Nat.le_refl _, fun h => h⟩
  | f + 1, k, h => by
    unfold perFrom
    split
    · rename_i hp
      unfold perOk at hp
      simp at hp
      exact ⟨by omega, fun _ => hp.1.1⟩
    · exact perFrom_le l f (k + 1) (by omega)
theorem per_le (l : List Int) : per l ≤ l.length := (perFrom_le l l.length 0 (by omega)).1
theorem per_pos (l : List Int) (h : 0 < l.length) : 0 < per l := (perFrom_le l l.length 0 (by omega)).2 h

def slLen : Value → Nat | .slice _ n _ => n | _ => 0
theorem ownsRow_shape {w : World} {base : Nat} {e : TypeId} {s : Nat} {v : Value} {n : Nat} {xs : List Value} (h : w.ownsRow base e s v n xs) (hn : 0 < n) :
    ∃ g cap, v = .slice (some ⟨g, 0, none⟩) n cap ∧ base ≤ g ∧ g < w.heap.size ∧ n ≤ cap ∧ cap ≤ 9223372036854775807 := by
  rcases h.2 with ⟨_, h0⟩ | ⟨g, cap, cur, hv, hb, hg, h1, h2, _⟩
  · omega
  · exact ⟨g, cap, hv, hb, (Array.getElem?_eq_some_iff.1 hg).1, h1, by simpa [maxLen] using h2⟩
theorem ints_at {L : List Int} {k : Nat} (hk : k < L.length) : (ints L)[k]? = some (.int .i64 (L.getD k 0)) := by simp [hk]
theorem I64.getD {L : List Int} (h : I64 L) {k : Nat} (hk : k < L.length) : -9223372036854775808 ≤ L.getD k 0 ∧ L.getD k 0 ≤ 9223372036854775807 := by
  have e : L.getD k 0 = L[k] := by simp [hk]
  rw [e]
  exact h _ (List.getElem_mem hk)

theorem lasso_end {w wr : World} {h L : List Int} {ao : Option Addr} {n k cap g p cap5 : Nat} {u u' : Value} {base : Nat} (H : Ints wr (.slice ao n cap) h) (hk : k ≤ n) (hao : ∀ b o sp, ao = some ⟨b, o, sp⟩ → w.heap.size + 2 ≤ b)
    (hown : wr.ownsRow base 3 1 (.slice (some ⟨g, 0, none⟩) p cap5) p (ints L)) (hL : L.length = p) (hLi : I64 L) (hg : w.heap.size + 2 ≤ g) (hb : Below w.heap.size w wr) :
    RetLasso w (h.take k, L) (.returned (.agg #[.slice ao k cap, .slice (some ⟨g, 0, none⟩) p cap5])) ((wr.setCell ⟨w.heap.size + 1, 0, none⟩ u).setCell ⟨w.heap.size + 1, 1, none⟩ u').drew := by
  refine ⟨_, _, rfl, ?_, ?_, ?_⟩
  · refine IntsFrom.mono (B := w.heap.size + 2) (IntsFrom.drew (IntsFrom.setBelow (IntsFrom.setBelow (IntsFrom.takeV (n := n) ⟨H, fun ao' n' cap' b o sp hv e => ?_⟩ hk) ?_ u) ?_ u')) (by omega)
    · cases hv; exact hao b o sp e
    · show w.heap.size + 1 < w.heap.size + 2; omega
    · show w.heap.size + 1 < w.heap.size + 2; omega
  · subst hL
    refine IntsFrom.mono (B := w.heap.size + 2) (IntsFrom.drew (IntsFrom.setBelow (IntsFrom.setBelow ⟨Ints.ofOwn hown hLi, fun ao' n' cap' b o sp hv e => ?_⟩ ?_ u) ?_ u')) (by omega)
    · cases hv; cases e; exact hg
    · show w.heap.size + 1 < w.heap.size + 2; omega
    · show w.heap.size + 1 < w.heap.size + 2; omega
  · exact ((hb.setCell (by show _ ≤ w.heap.size + 1; omega) u).setCell (by show _ ≤ w.heap.size + 1; omega) u').drew

set_option maxHeartbeats 2000000 in
theorem normal_any (v1 v2 : Value) (h l : List Int) (w : World) (h1 : Ints w v1 h) (h2 : Ints w v2 l) (hh : h.length ≤ 60) (hl : l.length ≤ 60) (hpos : 0 < l.length) :
    Calls Try.prog 46 #[.agg #[v1, v2]] w (RetLasso w (normS h l)) := by
  obtain ⟨ao1, n1, cap1, rfl, H1, L1, hc1, hm1⟩ := h1.shape
  obtain ⟨ao2, n2, cap2, rfl, H2, L2, hc2, hm2⟩ := h2.shape
  clear h1 h2
  have hn1 : n1 ≤ 60 := by rw [L1.out]; exact hh
  have hpp := per_pos l hpos
  have hpl := per_le l
  go_enter Try.func46, Try.ntmps46
  go_wp2
  have hb0 : Below w.heap.size w ((w.alloc (.cells #[.slice ao1 n1 cap1, .slice ao2 n2 cap2] 34)).alloc (.cells #[.slice none 0 0, .slice none 0 0] 34)) := by (repeat' (first | exact Below.refl _ _ | assumption | (refine Below.alloc ?_ ?_ _) | (refine Below.drew ?_) | (refine Below.setCell ?_ ?_ _) | (refine Below.trans ?_ (Below.mono (by assumption) ?_)) | omega | (simp; done) | (simp; omega)))
  have hs0 : ((w.alloc (.cells #[.slice ao1 n1 cap1, .slice ao2 n2 cap2] 34)).alloc (.cells #[.slice none 0 0, .slice none 0 0] 34)).heap.size = w.heap.size + 2 := by simp
  have c0 : ((w.alloc (.cells #[.slice ao1 n1 cap1, .slice ao2 n2 cap2] 34)).alloc (.cells #[.slice none 0 0, .slice none 0 0] 34)).cell? ⟨w.heap.size, 0, none⟩ = some (.slice ao1 n1 cap1) := by go_simp
  have c1 : ((w.alloc (.cells #[.slice ao1 n1 cap1, .slice ao2 n2 cap2] 34)).alloc (.cells #[.slice none 0 0, .slice none 0 0] 34)).cell? ⟨w.heap.size, 1, none⟩ = some (.slice ao2 n2 cap2) := by go_simp
  have c2 : ((w.alloc (.cells #[.slice ao1 n1 cap1, .slice ao2 n2 cap2] 34)).alloc (.cells #[.slice none 0 0, .slice none 0 0] 34)).cell? ⟨w.heap.size + 1, 0, none⟩ = some (.slice none 0 0) := by go_simp
  have c3 : ((w.alloc (.cells #[.slice ao1 n1 cap1, .slice ao2 n2 cap2] 34)).alloc (.cells #[.slice none 0 0, .slice none 0 0] 34)).cell? ⟨w.heap.size + 1, 1, none⟩ = some (.slice none 0 0) := by go_simp
  have f2 : ∀ o, ((w.alloc (.cells #[.slice ao1 n1 cap1, .slice ao2 n2 cap2] 34)).alloc (.cells #[.slice none 0 0, .slice none 0 0] 34)).frozen? ⟨w.heap.size + 1, o, none⟩ = false := by intro o; go_simp
  generalize ((w.alloc (.cells #[.slice ao1 n1 cap1, .slice ao2 n2 cap2] 34)).alloc (.cells #[.slice none 0 0, .slice none 0 0] 34)) = W0 at *
  have H1 := H1.up hb0
  have H2 := H2.up hb0
  refine wp_region_plan (.soft [0, 1, 3, 4] (.alt 2 (.alt 5 (.alt 6 (.soft [7, 8] .done) .stop) .stop) .stop)) (w.heap.size + 2) (by kernel_rfl) (by kernel_rfl) (by kernel_rfl) ?_
  (apply wpPlan_soft; (focus (intro K hK; (conv => arg 4; (simp only [pick, List.filterMap_cons, List.filterMap_nil, List.getElem?_toArray, List.getElem?_cons_succ, List.getElem?_cons_zero])); go_wp2; exact only_mk hK)); (focus ((simp only [pick, List.filterMap_cons, List.filterMap_nil, List.getElem?_toArray, List.getElem?_cons_succ, List.getElem?_cons_zero]); (((try simp only [sides, hasSide, side, lowV, intV, slV, ptrV, Act.eval, Region.wanted, yielded_eq]); go_simp) <;> (try omega)))))
  (refine wpPlan_op (by rfl) (by kernel_rfl) (fun K hK => ?_) wpPlan_stop; go_simp)
  refine (clone_any _ h _ (H1.up (by (repeat' (first | exact Below.refl _ _ | assumption | (refine Below.alloc ?_ ?_ _) | (refine Below.drew ?_) | (refine Below.setCell ?_ ?_ _) | (refine Below.trans ?_ (Below.mono (by assumption) ?_)) | omega | (simp; done) | (simp; omega))))) (by omega)).mono ?_
  rintro e w1 ⟨v3, rfl, hown3, hb1⟩
  rw [show W0.drew.heap.size = w.heap.size + 2 from hs0] at hb1 hown3
  have hs1 := hb1.size
  rw [show W0.drew.heap.size = w.heap.size + 2 from hs0] at hs1
  ((try simp only [Act.put, List.getElem_toArray, List.getElem_cons_succ, List.getElem_cons_zero, List.setIfInBounds_toArray, List.set_cons_zero, List.set_cons_succ]); refine hK _ _ ?_ ?_; (focus ((repeat' (first | exact Below.refl _ _ | assumption | (refine Below.alloc ?_ ?_ _) | (refine Below.drew ?_) | (refine Below.setCell ?_ ?_ _) | (refine Below.trans ?_ (Below.mono (by assumption) ?_)) | omega | (simp; done) | (simp; omega))))); clear hK K)
  (refine wpPlan_op (by rfl) (by kernel_rfl) (fun K hK => ?_) wpPlan_stop; go_simp)
  refine (period_any _ l _ (H2.up (by (repeat' (first | exact Below.refl _ _ | assumption | (refine Below.alloc ?_ ?_ _) | (refine Below.drew ?_) | (refine Below.setCell ?_ ?_ _) | (refine Below.trans ?_ (Below.mono (by assumption) ?_)) | omega | (simp; done) | (simp; omega))))) hl).mono ?_
  rintro e w2 ⟨v4, rfl, H4, hb2⟩
  have hs2 := hb2.size
  ((try simp only [Act.put, List.getElem_toArray, List.getElem_cons_succ, List.getElem_cons_zero, List.setIfInBounds_toArray, List.set_cons_zero, List.set_cons_succ]); refine hK _ _ ?_ ?_; (focus ((repeat' (first | exact Below.refl _ _ | assumption | (refine Below.alloc ?_ ?_ _) | (refine Below.drew ?_) | (refine Below.setCell ?_ ?_ _) | (refine Below.trans ?_ (Below.mono (by assumption) ?_)) | omega | (simp; done) | (simp; omega))))); clear hK K)
  (refine wpPlan_op (by rfl) (by kernel_rfl) (fun K hK => ?_) wpPlan_stop; go_simp)
  refine (clone_any _ (l.take (per l)) _ H4 (by simp; omega)).mono ?_
  rintro e w3 ⟨v5, rfl, hown5, hb3⟩
  have hs3 := hb3.size
  ((try simp only [Act.put, List.getElem_toArray, List.getElem_cons_succ, List.getElem_cons_zero, List.setIfInBounds_toArray, List.set_cons_zero, List.set_cons_succ]); refine hK _ _ ?_ ?_; (focus ((repeat' (first | exact Below.refl _ _ | assumption | (refine Below.alloc ?_ ?_ _) | (refine Below.drew ?_) | (refine Below.setCell ?_ ?_ _) | (refine Below.trans ?_ (Below.mono (by assumption) ?_)) | omega | (simp; done) | (simp; omega))))); clear hK K)
  (apply wpPlan_soft; (focus (intro K hK; (conv => arg 4; (simp only [pick, List.filterMap_cons, List.filterMap_nil, List.getElem?_toArray, List.getElem?_cons_succ, List.getElem?_cons_zero])); go_wp2; exact only_mk hK)); (focus ((simp only [pick, List.filterMap_cons, List.filterMap_nil, List.getElem?_toArray, List.getElem?_cons_succ, List.getElem?_cons_zero]); (((try simp only [sides, hasSide, side, lowV, intV, slV, ptrV, Act.eval, Region.wanted, yielded_eq]); go_simp) <;> (try omega)))))
  (refine wpPlan_end ?_)
  have hB : Below (w.heap.size + 2) W0 w2 := by (repeat' (first | exact Below.refl _ _ | assumption | (refine Below.alloc ?_ ?_ _) | (refine Below.drew ?_) | (refine Below.setCell ?_ ?_ _) | (refine Below.trans ?_ (Below.mono (by assumption) ?_)) | omega | (simp; done) | (simp; omega)))
  have H3 : Ints w2 v3 h := (Ints.ofOwn hown3 H1.i64).up hb2
  have hlt : (l.take (per l)).length = per l := by simp; omega
  have hi4 : I64 (l.take (per l)) := H4.i64
  obtain ⟨g, cap5, rfl, hg1, hg2, hpc, hcm⟩ := ownsRow_shape hown5 (by omega)
  obtain ⟨ao3, n3, cap3, rfl, H3, L3, hc3, hm3⟩ := H3.shape
  have hao := Lib.hid (ownsRow_block hown3)
  obtain ⟨d0, _⟩ := bcell hB
  have e0 : w2.cell? ⟨w.heap.size, 0, none⟩ = some (.slice ao1 n1 cap1) := (d0 _ _ (by omega)).trans c0
  have e1 : w2.cell? ⟨w.heap.size, 1, none⟩ = some (.slice ao2 n2 cap2) := (d0 _ _ (by omega)).trans c1
  have e2 : w2.cell? ⟨w.heap.size + 1, 0, none⟩ = some (.slice none 0 0) := (d0 _ _ (by omega)).trans c2
  have e3 : w2.cell? ⟨w.heap.size + 1, 1, none⟩ = some (.slice none 0 0) := (d0 _ _ (by omega)).trans c3
  have ef : ∀ o, w2.frozen? ⟨w.heap.size + 1, o, none⟩ = false := fun o => (hB.frozen (p := ⟨w.heap.size + 1, o, none⟩) (by simp)).trans (f2 o)
  have H1 : Ints w2 (.slice ao1 n1 cap1) h := H1.up (hB.mono (by omega))
  have H2 : Ints w2 (.slice ao2 n2 cap2) l := H2.up (hB.mono (by omega))
  have hB0 : Below w.heap.size w w2 := by (repeat' (first | exact Below.refl _ _ | assumption | (refine Below.alloc ?_ ?_ _) | (refine Below.drew ?_) | (refine Below.setCell ?_ ?_ _) | (refine Below.trans ?_ (Below.mono (by assumption) ?_)) | omega | (simp; done) | (simp; omega)))
  rw [hlt] at hown5 hpc
  have hNS : Hid (normFrom h n3 (l.take (per l)) = normS h l) := by rw [L3.out]; exact rfl
  replace hlt := Lib.hid hlt
  generalize per l = p at *
  generalize normS h l = res at *
  generalize l.take p = L0 at *
  replace e0 := Lib.hid e0
  replace e1 := Lib.hid e1
  replace e2 := Lib.hid e2
  replace e3 := Lib.hid e3
  replace ef := Lib.hid ef
  rw [hlt.out]
  clear hb0 hb1 hb2 hB c0 c1 c2 c3 f2 d0 hown3 H4 hs0
  go_wp2
  go_loopw [3] (fun v wr => ∃ k L, k ≤ n3 ∧ v = .slice ao3 k cap3 ∧ L.length = p ∧ I64 L ∧ wr.ownsRow w2.heap.size 3 1 (.slice (some ⟨g, 0, none⟩) p cap5) p (ints L) ∧ normFrom h k L = res ∧ Below w2.heap.size w2 wr) (fun v _ => slLen v)
  case atStart => exact ⟨n3, L0, Nat.le_refl _, rfl, hlt.out, hi4, hown5, hNS.out, hb3⟩
  case round =>
    obtain ⟨k, L, hk, rfl, hLl, hLi, hown, hg0, hb⟩ := hrel
    have hsz := hb.size
    replace hg0 := Lib.hid hg0
    replace hLl := Lib.hid hLl
    by_cases hk0 : 0 < k
    · obtain ⟨bh, oh, rfl, hch, hbh, hw1, hw1'⟩ := (H3.up hb).int (k := k - 1) (by omega)
      have hcl : wr.cell? ⟨g, p - 1, none⟩ = some (.int .i64 (L.getD (p - 1) 0)) := by rw [hown.cellAt (p - 1) (by omega), ints_at (by rw [hLl.out]; omega)]
      have hbd := hLi.getD (k := p - 1) (by rw [hLl.out]; omega)
      have hgw : g < wr.heap.size := World.block_lt_of_cell? wr _ hcl
      obtain ⟨hw2, hw2'⟩ := hbd
      have hstep : Hid (normFrom h k L = if h.getD (k - 1) 0 = L.getD (p - 1) 0 then normFrom h (k - 1) (h.getD (k - 1) 0 :: L.take (p - 1)) else (h.take k, L)) := by
        obtain ⟨k', rfl⟩ : ∃ k', k = k' + 1 := ⟨k - 1, by omega⟩
        rw [← hLl.out]
        exact rfl
      generalize hz1 : h.getD (k - 1) 0 = z1 at *
      generalize hz2 : L.getD (p - 1) 0 = z2 at *
      replace hz1 := Lib.hid hz1
      replace hz2 := Lib.hid hz2
      by_cases hz : z1 = z2
      · have hzb : (z1 == z2) = true := by rw [hz]; simp
        replace hz := Lib.hid hz
        go_wp2
        refine wp_region_plan (.soft [0, 1, 2, 3] (.soft [4, 5, 6, 7, 8, 9, 10, 11, 12, 13, 14, 15, 16] (.soft [17] .done))) wr.heap.size (by kernel_rfl) (by kernel_rfl) (by kernel_rfl) ?_
        (apply wpPlan_soft; (focus (intro K hK; (conv => arg 4; (simp only [pick, List.filterMap_cons, List.filterMap_nil, List.getElem?_toArray, List.getElem?_cons_succ, List.getElem?_cons_zero])); go_wp2; exact only_mk hK)); (focus ((simp only [pick, List.filterMap_cons, List.filterMap_nil, List.getElem?_toArray, List.getElem?_cons_succ, List.getElem?_cons_zero]); (((try simp only [sides, hasSide, side, lowV, intV, slV, ptrV, Act.eval, Region.wanted, yielded_eq]); go_simp) <;> (try omega)))))
        (apply wpPlan_soft; (focus (intro K hK; (conv => arg 4; (simp only [pick, List.filterMap_cons, List.filterMap_nil, List.getElem?_toArray, List.getElem?_cons_succ, List.getElem?_cons_zero])); go_wp2; exact only_mk hK)); (focus ((simp only [pick, List.filterMap_cons, List.filterMap_nil, List.getElem?_toArray, List.getElem?_cons_succ, List.getElem?_cons_zero]); (((try simp only [sides, hasSide, side, lowV, intV, slV, ptrV, Act.eval, Region.wanted, yielded_eq]); go_simp) <;> (try omega)))))
        (apply wpPlan_soft; (focus (intro K hK; (conv => arg 4; (simp only [pick, List.filterMap_cons, List.filterMap_nil, List.getElem?_toArray, List.getElem?_cons_succ, List.getElem?_cons_zero])); go_wp2; exact only_mk hK)); (focus ((simp only [pick, List.filterMap_cons, List.filterMap_nil, List.getElem?_toArray, List.getElem?_cons_succ, List.getElem?_cons_zero]); (((try simp only [sides, hasSide, side, lowV, intV, slV, ptrV, Act.eval, Region.wanted, yielded_eq]); go_simp) <;> (try omega)))))
        (refine wpPlan_end ?_)
        go_wp2
        have hcc : cap5 = 1 ∨ 1 < cap5 := by omega
        obtain ⟨cur, hcur, hcurl, hgb, hspl⟩ := ownsRow_splice hown
        replace hcur := Lib.hid hcur
        rcases hcc with rfl | hcc
        all_goals
          refine wp_region_plan (.soft [0, 1, 2] (.alt 3 (.alt 4 .done .stop) .stop)) w2.heap.size (by kernel_rfl) (by kernel_rfl) (by kernel_rfl) ?_
          (apply wpPlan_soft; (focus (intro K hK; (conv => arg 4; (simp only [pick, List.filterMap_cons, List.filterMap_nil, List.getElem?_toArray, List.getElem?_cons_succ, List.getElem?_cons_zero])); go_wp2; exact only_mk hK)); (focus ((simp only [pick, List.filterMap_cons, List.filterMap_nil, List.getElem?_toArray, List.getElem?_cons_succ, List.getElem?_cons_zero]); (((try simp only [sides, hasSide, side, lowV, intV, slV, ptrV, Act.eval, Region.wanted, yielded_eq]); go_simp) <;> (try omega)))))
          (refine wpPlan_op (by rfl) (by kernel_rfl) (fun K hK => ?_) wpPlan_stop; go_simp)
          refine (clone_any _ L _ (by exact (Ints.ofOwn (by rw [hLl.out]; exact hown) hLi : Ints wr _ L)) (by rw [hLl.out]; omega)).mono ?_
          rintro e w4 ⟨vC, rfl, hownC, hb4⟩
          have hs4 := hb4.size
          rw [hLl.out] at hownC
          obtain ⟨gC, capC, rfl, hgC1, hgC2, hpC, hmC⟩ := ownsRow_shape hownC (by omega)
          ((try simp only [Act.put, List.getElem_toArray, List.getElem_cons_succ, List.getElem_cons_zero, List.setIfInBounds_toArray, List.set_cons_zero, List.set_cons_succ]); refine hK _ _ ?_ ?_; (focus ((repeat' (first | exact Below.refl _ _ | assumption | (refine Below.alloc ?_ ?_ _) | (refine Below.drew ?_) | (refine Below.setCell ?_ ?_ _) | (refine Below.trans ?_ (Below.mono (by assumption) ?_)) | omega | (simp; done) | (simp; omega))))); clear hK K)
          have hcur4 : w4.heap[g]? = some (.cells cur.toArray 3 (0, 0)) := (hb4.block g hgw).trans hcur.out
          refine wpPlan_op (by rfl) (by kernel_rfl) (fun K hK => ?_) wpPlan_stop
          refine wp_copy rfl (.tmp 36) (.tmp 38) 22 22 rfl 3 Try.underlying22 info1 _ _ _ _ _ _ rfl rfl g 1 cur 3 hcur4 (ints (L.take (p - 1))) ?_ ?_ ?_ ?_ w2.heap.size wr.drew.drew (hb4.mono (by show w2.heap.size ≤ wr.heap.size; omega)) hgb ?_
          · simp [hLl.out] <;> omega
          · intro hp1
            have hp2 : 1 < p := by
              simp [hLl.out] at hp1
              omega
            first
              | omega
              | (refine ⟨rfl, _, rfl, fun j v hj => ?_⟩
                 rw [Addr.add_lit, Nat.zero_add, hownC.cellAt j (by have := (List.getElem?_eq_some_iff.1 hj).1; simp [hLl.out] at this; omega)]
                 rw [List.getElem?_map, List.getElem?_take] at hj
                 split at hj
                 · rw [List.getElem?_map]; exact hj
                 · simp at hj)
          · simp [hLl.out] <;> omega
          · intro v hv
            obtain ⟨x, _, rfl⟩ := List.mem_map.1 hv
            rfl
          intro w5 hc5 hb5
          ((try simp only [Act.put, List.getElem_toArray, List.getElem_cons_succ, List.getElem_cons_zero, List.setIfInBounds_toArray, List.set_cons_zero, List.set_cons_succ]); refine hK _ _ ?_ ?_; (focus ((repeat' (first | exact Below.refl _ _ | assumption | (refine Below.alloc ?_ ?_ _) | (refine Below.drew ?_) | (refine Below.setCell ?_ ?_ _) | (refine Below.trans ?_ (Below.mono (by assumption) ?_)) | omega | (simp; done) | (simp; omega))))); clear hK K)
          (refine wpPlan_end ?_)
          have hown5' := hspl w5 (ints (L.take (p - 1))) 1 (by simp [hLl.out]; omega) hc5.out
          have hb6 : Below w2.heap.size w2 w5 := hb.trans ⟨hb5.os, hb5.tape, hb5.output, hb5.size, hb5.block⟩
          have hg5 : g < w5.heap.size := Nat.lt_of_lt_of_le hgw hb5.size
          have hs6 := hb6.size
          have q0 : w5.cell? ⟨w.heap.size, 0, none⟩ = some (.slice ao1 n1 cap1) := (hb6.cell (p := ⟨w.heap.size, 0, none⟩) (by show w.heap.size < w2.heap.size; omega)).trans e0.out
          have q1 : w5.cell? ⟨w.heap.size, 1, none⟩ = some (.slice ao2 n2 cap2) := (hb6.cell (p := ⟨w.heap.size, 1, none⟩) (by show w.heap.size < w2.heap.size; omega)).trans e1.out
          have q2 : w5.cell? ⟨g, 0, none⟩ = some (.int .i64 (L.getD 0 0)) := by
            rw [hown5'.cellAt 0 (by omega), splice, List.getElem?_append_left (by simp [hLl.out]; omega), List.getElem?_take, if_pos (by omega), ints_at (by rw [hLl.out]; omega)]
          have q3 : w5.frozen? ⟨g, 0, none⟩ = false := hown5'.frozenAt 0
          have hAt : Hid (∀ W, Below w2.heap.size w2 W → Calls Try.prog 48 #[.agg #[.slice ao1 n1 cap1, .slice ao2 n2 cap2], .int .i64 (k - 1 : Nat)] W fun e w' => e = .returned (.int .i64 z1) ∧ Below W.heap.size W w') := fun W hW => by
            rw [← hz1.out]
            have := at_any _ _ h l (k - 1) W (H1.up hW) (H2.up hW) (by omega) hpos
            unfold atS at this
            rw [if_pos (by rw [← L3.out]; omega)] at this
            exact this
          replace q2 := Lib.hid q2
          replace hown5' := Lib.hid hown5'
          clear hb hb3 hown hcur4 hcl hch hc5
          go_wp2_with (go_at_call 48; refine (hAt.out _ ?_).mono ?_; (focus ((repeat' (first | exact Below.refl _ _ | assumption | (refine Below.alloc ?_ ?_ _) | (refine Below.drew ?_) | (refine Below.setCell ?_ ?_ _) | (refine Below.trans ?_ (Below.mono (by assumption) ?_)) | omega | (simp; done) | (simp; omega))))); rintro e w6 ⟨rfl, hb7⟩; have q4 : w6.cell? ⟨g, 0, none⟩ = some (.int .i64 (L.getD 0 0)) := (hb7.cell (p := ⟨g, 0, none⟩) hg5).trans q2.out; have q5 : w6.frozen? ⟨g, 0, none⟩ = false := (hb7.frozen (p := ⟨g, 0, none⟩) hg5).trans q3; clear q0 q1 q3)
          go_roundw
          case rel =>
            refine ⟨k - 1, z1 :: L.take (p - 1), by omega, rfl, by simp [hLl.out]; omega, ?_, ?_, ?_, ?_⟩
            · intro x hx
              rcases List.mem_cons.1 hx with rfl | hx
              · exact ⟨hw1, hw1'⟩
              · exact hLi x (List.mem_of_mem_take hx)
            · have hst := (ownsRow_up hown5'.out hb7).stored 0 (.int .i64 z1)
              rw [← hLl.out] at hst
              rw [splice_set L z1 (by rw [hLl.out]; exact hpp), hLl.out] at hst
              exact hst.1
            · have hg0 := hg0.out
              rw [hstep.out, if_pos hz.out] at hg0
              exact hg0
            · exact (hb6.trans (hb7.mono (by omega))).setCell hgb _
          case measure => simp [slLen]; omega
      · have hzb : (z1 == z2) = false := by simpa using hz
        replace hz := Lib.hid hz
        have r2 : wr.cell? ⟨w.heap.size + 1, 0, none⟩ = some (.slice none 0 0) := (hb.cell (p := ⟨w.heap.size + 1, 0, none⟩) (by show w.heap.size + 1 < w2.heap.size; omega)).trans e2.out; have r3 : wr.cell? ⟨w.heap.size + 1, 1, none⟩ = some (.slice none 0 0) := (hb.cell (p := ⟨w.heap.size + 1, 1, none⟩) (by show w.heap.size + 1 < w2.heap.size; omega)).trans e3.out; have rf : ∀ o, wr.frozen? ⟨w.heap.size + 1, o, none⟩ = false := fun o => (hb.frozen (p := ⟨w.heap.size + 1, o, none⟩) (by show w.heap.size + 1 < w2.heap.size; omega)).trans (ef.out o)
        go_wp2
        refine wp_region_plan (.soft [0, 1, 2, 3] (.soft [4, 5, 6, 7, 8, 9, 10, 11, 12, 13, 14, 15, 16] (.soft [17] .done))) wr.heap.size (by kernel_rfl) (by kernel_rfl) (by kernel_rfl) ?_
        (apply wpPlan_soft; (focus (intro K hK; (conv => arg 4; (simp only [pick, List.filterMap_cons, List.filterMap_nil, List.getElem?_toArray, List.getElem?_cons_succ, List.getElem?_cons_zero])); go_wp2; exact only_mk hK)); (focus ((simp only [pick, List.filterMap_cons, List.filterMap_nil, List.getElem?_toArray, List.getElem?_cons_succ, List.getElem?_cons_zero]); (((try simp only [sides, hasSide, side, lowV, intV, slV, ptrV, Act.eval, Region.wanted, yielded_eq]); go_simp) <;> (try omega)))))
        (apply wpPlan_soft; (focus (intro K hK; (conv => arg 4; (simp only [pick, List.filterMap_cons, List.filterMap_nil, List.getElem?_toArray, List.getElem?_cons_succ, List.getElem?_cons_zero])); go_wp2; exact only_mk hK)); (focus ((simp only [pick, List.filterMap_cons, List.filterMap_nil, List.getElem?_toArray, List.getElem?_cons_succ, List.getElem?_cons_zero]); (((try simp only [sides, hasSide, side, lowV, intV, slV, ptrV, Act.eval, Region.wanted, yielded_eq]); go_simp) <;> (try omega)))))
        (apply wpPlan_soft; (focus (intro K hK; (conv => arg 4; (simp only [pick, List.filterMap_cons, List.filterMap_nil, List.getElem?_toArray, List.getElem?_cons_succ, List.getElem?_cons_zero])); go_wp2; exact only_mk hK)); (focus ((simp only [pick, List.filterMap_cons, List.filterMap_nil, List.getElem?_toArray, List.getElem?_cons_succ, List.getElem?_cons_zero]); (((try simp only [sides, hasSide, side, lowV, intV, slV, ptrV, Act.eval, Region.wanted, yielded_eq]); go_simp) <;> (try omega)))))
        (refine wpPlan_end ?_)
        go_wp2
        refine bodyPost_ret (v := .agg #[.slice (some ⟨bh, oh, none⟩) k cap3, .slice (some ⟨g, 0, none⟩) p cap5]) (by simp [results, Try.results46, go_sem, r2, r3, rf]) rfl ?_
        have hg0 := hg0.out
        rw [hstep.out, if_neg hz.out] at hg0
        rw [← hg0]
        exact lasso_end (H3.up hb) hk hao.out hown hLl.out hLi (by omega) (hB0.trans (hb.mono (by omega)))
    · have hd0 : decide ((0 : Int) < k) = false := by simp; omega
      have r2 : wr.cell? ⟨w.heap.size + 1, 0, none⟩ = some (.slice none 0 0) := (hb.cell (p := ⟨w.heap.size + 1, 0, none⟩) (by show w.heap.size + 1 < w2.heap.size; omega)).trans e2.out; have r3 : wr.cell? ⟨w.heap.size + 1, 1, none⟩ = some (.slice none 0 0) := (hb.cell (p := ⟨w.heap.size + 1, 1, none⟩) (by show w.heap.size + 1 < w2.heap.size; omega)).trans e3.out; have rf : ∀ o, wr.frozen? ⟨w.heap.size + 1, o, none⟩ = false := fun o => (hb.frozen (p := ⟨w.heap.size + 1, o, none⟩) (by show w.heap.size + 1 < w2.heap.size; omega)).trans (ef.out o)
      go_wp2
      refine wp_region_plan (.soft [0, 1, 2, 3] (.soft [4, 5, 6, 7, 8, 9, 10, 11, 12, 13, 14, 15, 16] (.soft [17] .done))) wr.heap.size (by kernel_rfl) (by kernel_rfl) (by kernel_rfl) ?_
      (apply wpPlan_soft; (focus (intro K hK; (conv => arg 4; (simp only [pick, List.filterMap_cons, List.filterMap_nil, List.getElem?_toArray, List.getElem?_cons_succ, List.getElem?_cons_zero])); go_wp2; exact only_mk hK)); (focus ((simp only [pick, List.filterMap_cons, List.filterMap_nil, List.getElem?_toArray, List.getElem?_cons_succ, List.getElem?_cons_zero]); (((try simp only [sides, hasSide, side, lowV, intV, slV, ptrV, Act.eval, Region.wanted, yielded_eq]); go_simp) <;> (try omega)))))
      (apply wpPlan_soft; (focus (intro K hK; (conv => arg 4; (simp only [pick, List.filterMap_cons, List.filterMap_nil, List.getElem?_toArray, List.getElem?_cons_succ, List.getElem?_cons_zero])); (repeat (refine wpList_skip ?_ ?_; (focus kernel_rfl); simp only [Act.put, List.setIfInBounds_toArray, List.set_cons_zero, List.set_cons_succ])); refine wpList_nil ?_; exact only_mk hK)); (focus ((simp only [pick, List.filterMap_cons, List.filterMap_nil, List.getElem?_toArray, List.getElem?_cons_succ, List.getElem?_cons_zero]); (((try simp only [sides, hasSide, side, lowV, intV, slV, ptrV, Act.eval, Region.wanted, yielded_eq]); go_simp) <;> (try omega)))))
      (apply wpPlan_soft; (focus (intro K hK; (conv => arg 4; (simp only [pick, List.filterMap_cons, List.filterMap_nil, List.getElem?_toArray, List.getElem?_cons_succ, List.getElem?_cons_zero])); go_wp2; exact only_mk hK)); (focus ((simp only [pick, List.filterMap_cons, List.filterMap_nil, List.getElem?_toArray, List.getElem?_cons_succ, List.getElem?_cons_zero]); (((try simp only [sides, hasSide, side, lowV, intV, slV, ptrV, Act.eval, Region.wanted, yielded_eq]); go_simp) <;> (try omega)))))
      (refine wpPlan_end ?_)
      go_wp2
      refine bodyPost_ret (v := .agg #[.slice ao3 k cap3, .slice (some ⟨g, 0, none⟩) p cap5]) (by simp [results, Try.results46, go_sem, r2, r3, rf]) rfl ?_
      have hg0 := hg0.out
      have e : k = 0 := by omega
      subst e
      rw [← hg0]
      exact lasso_end (k := 0) (H3.up hb) (Nat.zero_le _) hao.out hown hLl.out hLi (by omega) (hB0.trans (hb.mono (by omega)))
end Go.Proofs.Ytfpdnigihjmohaa
