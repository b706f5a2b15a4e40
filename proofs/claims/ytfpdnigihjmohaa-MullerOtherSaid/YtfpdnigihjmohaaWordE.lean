/- The walks of package word: what is left behind some letters. -/
import Derived.Test.YtfpdnigihjmohaaWordD
namespace Go.Proofs.Ytfpdnigihjmohaa
open Go.RowKit
set_option linter.unusedSimpArgs false
set_option linter.unusedVariables false
attribute [local irreducible] wpList

/-- it hands back a lasso that reads as x, and a code -/
def RetLassoE (w : World) (x : List Int × List Int) (c : Int) (e : Ending) (w' : World) : Prop := ∃ v1 v2, e = .returned (.tuple #[.agg #[v1, v2], .int .i64 c]) ∧ IntsFrom w.heap.size w' v1 x.1 ∧ IntsFrom w.heap.size w' v2 x.2 ∧ Below w.heap.size w w'

theorem RetLassoE.nil {w w' : World} {c : Int} (h : Below w.heap.size w w') : RetLassoE w ([], []) c (.returned (.tuple #[.agg #[.slice none 0 0, .slice none 0 0], .int .i64 c])) w' :=
  ⟨_, _, rfl, IntsFrom.nil _ _, IntsFrom.nil _ _, h⟩

theorem lasso_call {w : World} {letters : Int} {v1 v2 : Value} {h l : List Int} (h1 : Ints w v1 h) (h2 : Ints w v2 l) : ∀ W, Below w.heap.size w W →
    Calls Try.prog 45 #[.int .i64 letters, .agg #[v1, v2]] W fun e w' => e = .returned (.int .i64 (lassoOf letters h l)) ∧ Below W.heap.size W w' :=
  fun W hW => lasso_any _ _ _ _ _ W (h1.up hW) (h2.up hW)

set_option maxHeartbeats 1000000 in
theorem rest_any (v1 v2 : Value) (h l : List Int) (n : Int) (w : World) (h1 : Ints w v1 h) (h2 : Ints w v2 l) (hn0 : -9223372036854775808 ≤ n) (hn1 : n ≤ 9223372036854775807) (hc : lassoOf 4 h l ≠ 0) :
    Calls Try.prog 16 #[.agg #[v1, v2], .int .i64 n] w (RetLassoE w ([], []) (lassoOf 4 h l)) := by
  obtain ⟨ao1, n1, cap1, rfl, H1, L1, hc1, hm1⟩ := h1.shape
  obtain ⟨ao2, n2, cap2, rfl, H2, L2, hc2, hm2⟩ := h2.shape
  have hL := Lib.hid (lasso_call (letters := 4) H1 H2)
  generalize lassoOf 4 h l = c at *
  have hcb : (c != 0) = true := by simpa using hc
  clear h1 h2
  go_enter Try.func16, Try.ntmps16
  go_wp2_with (go_at_call 45; refine (hL.out _ ?_).mono ?_; (focus ((repeat' (first | exact Below.refl _ _ | assumption | (refine Below.alloc ?_ ?_ _) | (refine Below.drew ?_) | (refine Below.setCell ?_ ?_ _) | (refine Below.trans ?_ (Below.mono (by assumption) ?_)) | omega | (simp; done) | (simp; omega))))); rintro e w1 ⟨rfl, hb1⟩; obtain ⟨d0, d1⟩ := bcell hb1; have hs1 := hb1.size; simp at hs1)
  refine bodyPost_ret (v := .tuple #[.agg #[.slice none 0 0, .slice none 0 0], .int .i64 c]) (by simp [results, Try.results16, go_sem, d0, d1, hs1]) rfl (RetLassoE.nil (by (repeat' (first | exact Below.refl _ _ | assumption | (refine Below.alloc ?_ ?_ _) | (refine Below.drew ?_) | (refine Below.setCell ?_ ?_ _) | (refine Below.trans ?_ (Below.mono (by assumption) ?_)) | omega | (simp; done) | (simp; omega)))))

set_option maxHeartbeats 1000000 in
theorem rest_neg (v1 v2 : Value) (h l : List Int) (n : Int) (w : World) (h1 : Ints w v1 h) (h2 : Ints w v2 l) (hn1 : n < 0) (hc : lassoOf 4 h l = 0) :
    Calls Try.prog 16 #[.agg #[v1, v2], .int .i64 n] w (RetLassoE w ([], []) 2) := by
  obtain ⟨ao1, n1, cap1, rfl, H1, L1, hc1, hm1⟩ := h1.shape
  obtain ⟨ao2, n2, cap2, rfl, H2, L2, hc2, hm2⟩ := h2.shape
  have hL := Lib.hid (hc ▸ lasso_call (letters := 4) H1 H2)
  clear h1 h2 hc
  go_enter Try.func16, Try.ntmps16
  go_wp2_with ((go_at_call 45; refine (hL.out _ ?_).mono ?_; (focus ((repeat' (first | exact Below.refl _ _ | assumption | (refine Below.alloc ?_ ?_ _) | (refine Below.drew ?_) | (refine Below.setCell ?_ ?_ _) | (refine Below.trans ?_ (Below.mono (by assumption) ?_)) | omega | (simp; done) | (simp; omega))))); rintro e w1 ⟨rfl, hb1⟩; obtain ⟨d0, d1⟩ := bcell hb1; have hs1 := hb1.size; simp at hs1))
  refine bodyPost_ret (v := .tuple #[.agg #[.slice none 0 0, .slice none 0 0], .int .i64 2]) (by simp [results, Try.results16, go_sem, d0, d1, hs1]) rfl (RetLassoE.nil (by (repeat' (first | exact Below.refl _ _ | assumption | (refine Below.alloc ?_ ?_ _) | (refine Below.drew ?_) | (refine Below.setCell ?_ ?_ _) | (refine Below.trans ?_ (Below.mono (by assumption) ?_)) | omega | (simp; done) | (simp; omega)))))

theorem lasso_ok {h l : List Int} (h0 : lassoOf 4 h l = 0) : h.length ≤ 60 ∧ l.length ≤ 60 ∧ 0 < l.length ∧ (∀ a ∈ h, 0 ≤ a ∧ a < 4) ∧ ∀ a ∈ l, 0 ≤ a ∧ a < 4 := by
  unfold lassoOf at h0
  split at h0
  · contradiction
  rename_i h1
  split at h0
  · contradiction
  rename_i h2
  split at h0
  · contradiction
  rename_i h3
  have : ∀ x : List Int, ¬ mayOf 4 x ≠ 0 → x.length ≤ 60 ∧ ∀ a ∈ x, 0 ≤ a ∧ a < 4 := by
    intro x hx
    simp only [ne_eq, Decidable.not_not] at hx
    unfold mayOf at hx
    rw [if_neg (by omega)] at hx
    split at hx
    · contradiction
    split at hx
    · rename_i hl ha
      simp at ha
      exact ⟨by omega, ha⟩
    · contradiction
  obtain ⟨a1, a2⟩ := this h h1
  obtain ⟨b1, b2⟩ := this l h2
  exact ⟨a1, b1, by omega, a2, b2⟩

set_option maxHeartbeats 1000000 in
theorem rest_head (v1 v2 : Value) (h l : List Int) (n : Nat) (w : World) (h1 : Ints w v1 h) (h2 : Ints w v2 l) (hn : n < h.length) (hc : lassoOf 4 h l = 0) :
    Calls Try.prog 16 #[.agg #[v1, v2], .int .i64 n] w (RetLassoE w (normS (h.drop n) l) 0) := by
  obtain ⟨hh, hl, hp, _, _⟩ := lasso_ok hc
  obtain ⟨ao1, n1, cap1, rfl, H1, L1, hc1, hm1⟩ := h1.shape
  obtain ⟨ao2, n2, cap2, rfl, H2, L2, hc2, hm2⟩ := h2.shape
  have hL := Lib.hid (hc ▸ lasso_call (letters := 4) H1 H2)
  rw [← L1.out] at hn
  have hN : Hid (∀ W, Below w.heap.size w W → Calls Try.prog 46 #[.agg #[.slice (Option.map (fun x => x.add n) ao1) (n1 - n) (cap1 - n), .slice ao2 n2 cap2]] W (RetLasso W (normS (h.drop n) l))) := fun W hW =>
    normal_any _ _ _ _ W ((H1.up hW).dropV (by omega) (by omega)) (H2.up hW) (by simp; omega) hl hp
  clear h1 h2 hc
  go_enter Try.func16, Try.ntmps16
  go_wp2_with ((go_at_call 45; refine (hL.out _ ?_).mono ?_; (focus ((repeat' (first | exact Below.refl _ _ | assumption | (refine Below.alloc ?_ ?_ _) | (refine Below.drew ?_) | (refine Below.setCell ?_ ?_ _) | (refine Below.trans ?_ (Below.mono (by assumption) ?_)) | omega | (simp; done) | (simp; omega))))); rintro e w1 ⟨rfl, hb1⟩; obtain ⟨d0, d1⟩ := bcell hb1; have hs1 := hb1.size; simp at hs1))
  refine wp_region_plan (.soft [0, 1, 2, 3, 4, 5] (.alt 6 (.alt 7 (.alt 8 (.soft [9] .done) .stop) .stop) .stop)) (w.heap.size + 1) (by kernel_rfl) (by kernel_rfl) (by kernel_rfl) ?_
  (apply wpPlan_soft; (focus (intro K hK; (conv => arg 4; (simp only [pick, List.filterMap_cons, List.filterMap_nil, List.getElem?_toArray, List.getElem?_cons_succ, List.getElem?_cons_zero])); go_wp2; exact only_mk hK)); (focus ((simp only [pick, List.filterMap_cons, List.filterMap_nil, List.getElem?_toArray, List.getElem?_cons_succ, List.getElem?_cons_zero]); (((try simp only [sides, hasSide, side, lowV, intV, slV, ptrV, Act.eval, Region.wanted, yielded_eq]); go_simp) <;> (try omega)))))
  ((refine wpPlan_op (by rfl) (by kernel_rfl) (fun K hK => ?_) wpPlan_stop; go_simp); ((try simp only [Act.put, List.getElem_toArray, List.getElem_cons_succ, List.getElem_cons_zero, List.setIfInBounds_toArray, List.set_cons_zero, List.set_cons_succ]); refine hK _ _ ?_ ?_; (focus ((repeat' (first | exact Below.refl _ _ | assumption | (refine Below.alloc ?_ ?_ _) | (refine Below.drew ?_) | (refine Below.setCell ?_ ?_ _) | (refine Below.trans ?_ (Below.mono (by assumption) ?_)) | omega | (simp; done) | (simp; omega))))); clear hK K))
  (refine wpPlan_op (by rfl) (by kernel_rfl) (fun K hK => ?_) wpPlan_stop; go_simp)
  refine (hN.out _ ?_).mono ?_
  · (repeat' (first | exact Below.refl _ _ | assumption | (refine Below.alloc ?_ ?_ _) | (refine Below.drew ?_) | (refine Below.setCell ?_ ?_ _) | (refine Below.trans ?_ (Below.mono (by assumption) ?_)) | omega | (simp; done) | (simp; omega)))
  rintro e w2 ⟨v3, v4, rfl, hA, hB, hb2⟩
  obtain ⟨ao3, n3, cap3, rfl, HA, L3, _, _⟩ := hA.shape
  obtain ⟨ao4, n4, cap4, rfl, HB, L4, _, _⟩ := hB.shape
  clear hA hB
  have hs2 := hb2.size
  have e0 : w2.cell? ⟨w.heap.size + 1, 0, none⟩ = some (.slice none 0 0) := by
    refine (hb2.cell (p := ⟨w.heap.size + 1, 0, none⟩) ?_).trans ?_
    · show w.heap.size + 1 < w1.heap.size; omega
    · go_simp
  have e1 : w2.cell? ⟨w.heap.size + 1, 1, none⟩ = some (.slice none 0 0) := by
    refine (hb2.cell (p := ⟨w.heap.size + 1, 1, none⟩) ?_).trans ?_
    · show w.heap.size + 1 < w1.heap.size; omega
    · go_simp
  have ef : ∀ o, w2.frozen? ⟨w.heap.size + 1, o, none⟩ = false := by
    intro o
    refine (hb2.frozen (p := ⟨w.heap.size + 1, o, none⟩) ?_).trans ?_
    · show w.heap.size + 1 < w1.heap.size; omega
    · go_simp
  ((try simp only [Act.put, List.getElem_toArray, List.getElem_cons_succ, List.getElem_cons_zero, List.setIfInBounds_toArray, List.set_cons_zero, List.set_cons_succ]); refine hK _ _ ?_ ?_; (focus ((repeat' (first | exact Below.refl _ _ | assumption | (refine Below.alloc ?_ ?_ _) | (refine Below.drew ?_) | (refine Below.setCell ?_ ?_ _) | (refine Below.trans ?_ (Below.mono (by assumption) ?_)) | omega | (simp; done) | (simp; omega))))); clear hK K)
  have hb3 : Below w.heap.size w w2 := by (repeat' (first | exact Below.refl _ _ | assumption | (refine Below.alloc ?_ ?_ _) | (refine Below.drew ?_) | (refine Below.setCell ?_ ?_ _) | (refine Below.trans ?_ (Below.mono (by assumption) ?_)) | omega | (simp; done) | (simp; omega)))
  have hb4 : Below (w.heap.size + 1) w1.drew w2 := hb2.mono (by show w.heap.size + 1 ≤ w1.heap.size; omega)
  clear hb1 hb2 d0 d1
  (refine wpPlan_op (by rfl) (by kernel_rfl) (fun K hK => ?_) wpPlan_stop; go_simp)
  ((try simp only [Act.put, List.getElem_toArray, List.getElem_cons_succ, List.getElem_cons_zero, List.setIfInBounds_toArray, List.set_cons_zero, List.set_cons_succ]); refine hK _ _ ?_ ?_; (focus ((repeat' (first | exact Below.refl _ _ | assumption | (refine Below.alloc ?_ ?_ _) | (refine Below.drew ?_) | (refine Below.setCell ?_ ?_ _) | (refine Below.trans ?_ (Below.mono (by assumption) ?_)) | omega | (simp; done) | (simp; omega))))); clear hK K)
  (apply wpPlan_soft; (focus (intro K hK; (conv => arg 4; (simp only [pick, List.filterMap_cons, List.filterMap_nil, List.getElem?_toArray, List.getElem?_cons_succ, List.getElem?_cons_zero])); go_wp2; exact only_mk hK)); (focus ((simp only [pick, List.filterMap_cons, List.filterMap_nil, List.getElem?_toArray, List.getElem?_cons_succ, List.getElem?_cons_zero]); (((try simp only [sides, hasSide, side, lowV, intV, slV, ptrV, Act.eval, Region.wanted, yielded_eq]); go_simp) <;> (try omega)))))
  (refine wpPlan_end ?_)
  go_wp2
  refine bodyPost_ret (v := .tuple #[.agg #[.slice ao3 n3 cap3, .slice ao4 n4 cap4], .int .i64 0]) (by simp [results, Try.results16, go_sem, e0, e1, ef]) rfl ⟨_, _, rfl, ?_, ?_, ?_⟩
  · exact ((HA.setBelow (by show w.heap.size + 1 < w1.heap.size; omega) _).setBelow (by show w.heap.size + 1 < w1.heap.size; omega) _).mono (by show w.heap.size ≤ w1.heap.size; omega)
  · exact ((HB.setBelow (by show w.heap.size + 1 < w1.heap.size; omega) _).setBelow (by show w.heap.size + 1 < w1.heap.size; omega) _).mono (by show w.heap.size ≤ w1.heap.size; omega)
  · exact (hb3.setCell (by show w.heap.size ≤ w.heap.size + 1; omega) _).setCell (by show w.heap.size ≤ w.heap.size + 1; omega) _

set_option maxHeartbeats 1000000 in
theorem rest_loop (v1 v2 : Value) (h l : List Int) (n : Nat) (w : World) (h1 : Ints w v1 h) (h2 : Ints w v2 l) (hn : h.length ≤ n) (hn2 : n ≤ 9223372036854775807) (hc : lassoOf 4 h l = 0) :
    Calls Try.prog 16 #[.agg #[v1, v2], .int .i64 n] w (RetLassoE w (normS [] (l.drop ((n - h.length) % l.length) ++ l.take ((n - h.length) % l.length))) 0) := by
  obtain ⟨hh, hl, hp, _, _⟩ := lasso_ok hc
  obtain ⟨ao1, n1, cap1, rfl, H1, L1, hc1, hm1⟩ := h1.shape
  obtain ⟨ao2, n2, cap2, rfl, H2, L2, hc2, hm2⟩ := h2.shape
  have hL := Lib.hid (hc ▸ lasso_call (letters := 4) H1 H2)
  rw [← L1.out] at hn
  rw [← L1.out, ← L2.out]
  have hp2 : 0 < n2 := by rw [L2.out]; exact hp
  have hl2 : n2 ≤ 60 := by rw [L2.out]; exact hl
  have hmod : ((n : Int) - n1) % n2 = ((n - n1) % n2 : Nat) := by rw [Int.natCast_emod, Int.ofNat_sub (by omega)]
  have ht : (n - n1) % n2 < n2 := Nat.mod_lt _ hp2
  generalize (n - n1) % n2 = t at *
  have hi64 := Lib.hid H2.i64
  have hC : Hid (∀ W, Below w.heap.size w W → Calls Try.prog 47 #[.slice (Option.map (fun x => x.add t) ao2) (n2 - t) (cap2 - t)] W (NewInts W (l.drop t))) := fun W hW =>
    clone_any _ _ W ((H2.up hW).dropV (by omega) (by omega)) (by simp; omega)
  clear h1 h2 hc
  go_enter Try.func16, Try.ntmps16
  go_wp2_with ((go_at_call 45; refine (hL.out _ ?_).mono ?_; (focus ((repeat' (first | exact Below.refl _ _ | assumption | (refine Below.alloc ?_ ?_ _) | (refine Below.drew ?_) | (refine Below.setCell ?_ ?_ _) | (refine Below.trans ?_ (Below.mono (by assumption) ?_)) | omega | (simp; done) | (simp; omega))))); rintro e w1 ⟨rfl, hb1⟩; obtain ⟨d0, d1⟩ := bcell hb1; have hs1 := hb1.size; simp at hs1))
  refine wp_region_plan (.soft [0, 1, 2, 3, 5, 6, 7, 8] (.alt 4 (.alt 9 (.alt 10 (.alt 11 (.alt 12 (.soft [13] .done) .stop) .stop) .stop) .stop) .stop)) (w.heap.size + 1) (by kernel_rfl) (by kernel_rfl) (by kernel_rfl) ?_
  (apply wpPlan_soft; (focus (intro K hK; (conv => arg 4; (simp only [pick, List.filterMap_cons, List.filterMap_nil, List.getElem?_toArray, List.getElem?_cons_succ, List.getElem?_cons_zero])); go_wp2; exact only_mk hK)); (focus ((simp only [pick, List.filterMap_cons, List.filterMap_nil, List.getElem?_toArray, List.getElem?_cons_succ, List.getElem?_cons_zero]); (((try simp only [sides, hasSide, side, lowV, intV, slV, ptrV, Act.eval, Region.wanted, yielded_eq]); go_simp) <;> (try omega)))))
  (refine wpPlan_op (by rfl) (by kernel_rfl) (fun K hK => ?_) wpPlan_stop; go_simp)
  refine (hC.out _ ?_).mono ?_
  · (repeat' (first | exact Below.refl _ _ | assumption | (refine Below.alloc ?_ ?_ _) | (refine Below.drew ?_) | (refine Below.setCell ?_ ?_ _) | (refine Below.trans ?_ (Below.mono (by assumption) ?_)) | omega | (simp; done) | (simp; omega)))
  rintro e w2 ⟨v3, rfl, hown, hb2⟩
  have hs2 : w1.heap.size ≤ w2.heap.size := hb2.size
  have e0 : w2.cell? ⟨w.heap.size + 1, 0, none⟩ = some (.slice none 0 0) := by
    refine (hb2.cell (p := ⟨w.heap.size + 1, 0, none⟩) ?_).trans ?_
    · show w.heap.size + 1 < w1.heap.size; omega
    · go_simp
  have e1 : w2.cell? ⟨w.heap.size + 1, 1, none⟩ = some (.slice none 0 0) := by
    refine (hb2.cell (p := ⟨w.heap.size + 1, 1, none⟩) ?_).trans ?_
    · show w.heap.size + 1 < w1.heap.size; omega
    · go_simp
  have ef : ∀ o, w2.frozen? ⟨w.heap.size + 1, o, none⟩ = false := by
    intro o
    refine (hb2.frozen (p := ⟨w.heap.size + 1, o, none⟩) ?_).trans ?_
    · show w.heap.size + 1 < w1.heap.size; omega
    · go_simp
  have e0 := Lib.hid e0
  have e1 := Lib.hid e1
  have ef := Lib.hid ef
  ((try simp only [Act.put, List.getElem_toArray, List.getElem_cons_succ, List.getElem_cons_zero, List.setIfInBounds_toArray, List.set_cons_zero, List.set_cons_succ]); refine hK _ _ ?_ ?_; (focus ((repeat' (first | exact Below.refl _ _ | assumption | (refine Below.alloc ?_ ?_ _) | (refine Below.drew ?_) | (refine Below.setCell ?_ ?_ _) | (refine Below.trans ?_ (Below.mono (by assumption) ?_)) | omega | (simp; done) | (simp; omega))))); clear hK K)
  (refine wpPlan_op (by rfl) (by kernel_rfl) (fun K hK => ?_) wpPlan_stop)
  have hbw1 : Below w.heap.size w w1.drew := by (repeat' (first | exact Below.refl _ _ | assumption | (refine Below.alloc ?_ ?_ _) | (refine Below.drew ?_) | (refine Below.setCell ?_ ?_ _) | (refine Below.trans ?_ (Below.mono (by assumption) ?_)) | omega | (simp; done) | (simp; omega)))
  have hb3 : Below w.heap.size w w2 := hbw1.trans (hb2.mono (by show w.heap.size ≤ w1.heap.size; omega))
  have hb4 : Below (w.heap.size + 1) w1.drew w2 := hb2.mono (by show w.heap.size + 1 ≤ w1.heap.size; omega)
  refine wp_of_list (ops := #[]) rfl (wpList_append_row rfl (.tmp 45) (.tmp 49) 22 rfl w1.heap.size 3 (.int .i64 0) 1 8 Try.underlying22 infoInt rfl (by decide) v3 (l.drop t).length (ints (l.drop t)) rfl hown _ t (ints (l.take t)) rfl ?_ ?_ ?_ ?_ ?_)
  · have := ((H2.up hb3).takeV (k := t) (by omega)).src
    rw [show (l.take t).length = t from by simp; rw [← L2.out]; omega] at this
    exact this
  · simp [maxLen]; omega
  · simp; omega
  · show w1.heap.size ≤ w2.heap.size; omega
  intro v' w3 hown' hgrow _
  refine wpList_nil (only_mk ?_)
  have hlen : (l.drop t).length + t = n2 := by simp; rw [← L2.out]; omega
  rw [hlen] at hown'
  have hb5 : Below (w.heap.size + 1) w1.drew w3 := Below.grown hb4 hgrow (by omega) (by
    intro k hk
    have := (hown.lt k hk).1
    have h3 : w1.heap.size ≤ k := this
    omega)
  have hs3 := hgrow.size
  have hb6 : Below (w.heap.size + 2) w2 w3 := Below.grown (Below.refl _ _) hgrow (by omega) (by
    intro k hk
    have := (hown.lt k hk).1
    have h3 : w1.heap.size ≤ k := this
    omega)
  obtain ⟨g, capN, rfl, hg1, hg2, hcN, hmN⟩ := ownsRow_shape hown' hp2
  have hI : Ints w3 (.slice (some ⟨g, 0, none⟩) n2 capN) (l.drop t ++ l.take t) := by
    refine Ints.ofOwn (base := w1.heap.size) (e := 3) ?_ ?_
    · rw [show (l.drop t ++ l.take t).length = n2 from by simp; rw [← L2.out]; omega, show ints (l.drop t ++ l.take t) = ints (l.drop t) ++ ints (l.take t) from by simp]
      exact hown'
    · intro a ha
      rcases List.mem_append.1 ha with ha | ha
      · exact hi64.out a (List.mem_of_mem_drop ha)
      · exact hi64.out a (List.mem_of_mem_take ha)
  have e0 : w3.cell? ⟨w.heap.size + 1, 0, none⟩ = some (.slice none 0 0) := (hb6.cell (p := ⟨w.heap.size + 1, 0, none⟩) (by show w.heap.size + 1 < w.heap.size + 2; omega)).trans e0.out
  have e1 : w3.cell? ⟨w.heap.size + 1, 1, none⟩ = some (.slice none 0 0) := (hb6.cell (p := ⟨w.heap.size + 1, 1, none⟩) (by show w.heap.size + 1 < w.heap.size + 2; omega)).trans e1.out
  have ef : ∀ o, w3.frozen? ⟨w.heap.size + 1, o, none⟩ = false := fun o => (hb6.frozen (p := ⟨w.heap.size + 1, o, none⟩) (by show w.heap.size + 1 < w.heap.size + 2; omega)).trans (ef.out o)
  have e0 := Lib.hid e0
  have e1 := Lib.hid e1
  have ef := Lib.hid ef
  clear hb1 hb2 hb3 hb4 d0 d1 hgrow
  ((try simp only [Act.put, List.getElem_toArray, List.getElem_cons_succ, List.getElem_cons_zero, List.setIfInBounds_toArray, List.set_cons_zero, List.set_cons_succ]); refine hK _ _ ?_ ?_; (focus ((repeat' (first | exact Below.refl _ _ | assumption | (refine Below.alloc ?_ ?_ _) | (refine Below.drew ?_) | (refine Below.setCell ?_ ?_ _) | (refine Below.trans ?_ (Below.mono (by assumption) ?_)) | omega | (simp; done) | (simp; omega))))); clear hK K)
  ((refine wpPlan_op (by rfl) (by kernel_rfl) (fun K hK => ?_) wpPlan_stop; go_simp); ((try simp only [Act.put, List.getElem_toArray, List.getElem_cons_succ, List.getElem_cons_zero, List.setIfInBounds_toArray, List.set_cons_zero, List.set_cons_succ]); refine hK _ _ ?_ ?_; (focus ((repeat' (first | exact Below.refl _ _ | assumption | (refine Below.alloc ?_ ?_ _) | (refine Below.drew ?_) | (refine Below.setCell ?_ ?_ _) | (refine Below.trans ?_ (Below.mono (by assumption) ?_)) | omega | (simp; done) | (simp; omega))))); clear hK K))
  (refine wpPlan_op (by rfl) (by kernel_rfl) (fun K hK => ?_) wpPlan_stop; go_simp)
  refine (normal_any _ _ [] (l.drop t ++ l.take t) _ (IntsFrom.nil 0 _).1 hI (by simp) (by simp; rw [← L2.out]; omega) (by simp; rw [← L2.out]; omega)).mono ?_
  rintro e w4 ⟨v4, v5, rfl, hA, hB, hb7⟩
  obtain ⟨ao3, n3, cap3, rfl, HA, L3, _, _⟩ := hA.shape
  obtain ⟨ao4, n4, cap4, rfl, HB, L4, _, _⟩ := hB.shape
  clear hA hB
  have hs4 := hb7.size
  have e0 : w4.cell? ⟨w.heap.size + 1, 0, none⟩ = some (.slice none 0 0) := (hb7.cell (p := ⟨w.heap.size + 1, 0, none⟩) (by show w.heap.size + 1 < w3.heap.size; omega)).trans e0.out
  have e1 : w4.cell? ⟨w.heap.size + 1, 1, none⟩ = some (.slice none 0 0) := (hb7.cell (p := ⟨w.heap.size + 1, 1, none⟩) (by show w.heap.size + 1 < w3.heap.size; omega)).trans e1.out
  have ef : ∀ o, w4.frozen? ⟨w.heap.size + 1, o, none⟩ = false := fun o => (hb7.frozen (p := ⟨w.heap.size + 1, o, none⟩) (by show w.heap.size + 1 < w3.heap.size; omega)).trans (ef.out o)
  ((try simp only [Act.put, List.getElem_toArray, List.getElem_cons_succ, List.getElem_cons_zero, List.setIfInBounds_toArray, List.set_cons_zero, List.set_cons_succ]); refine hK _ _ ?_ ?_; (focus ((repeat' (first | exact Below.refl _ _ | assumption | (refine Below.alloc ?_ ?_ _) | (refine Below.drew ?_) | (refine Below.setCell ?_ ?_ _) | (refine Below.trans ?_ (Below.mono (by assumption) ?_)) | omega | (simp; done) | (simp; omega))))); clear hK K)
  have hb8 : Below w.heap.size w w4 := hbw1.trans ((hb5.trans (hb7.mono (by omega))).mono (by omega))
  have hb9 : Below (w.heap.size + 1) w1.drew w4 := hb5.trans (hb7.mono (by omega))
  clear hb5 hb7 hb6
  (refine wpPlan_op (by rfl) (by kernel_rfl) (fun K hK => ?_) wpPlan_stop; go_simp)
  ((try simp only [Act.put, List.getElem_toArray, List.getElem_cons_succ, List.getElem_cons_zero, List.setIfInBounds_toArray, List.set_cons_zero, List.set_cons_succ]); refine hK _ _ ?_ ?_; (focus ((repeat' (first | exact Below.refl _ _ | assumption | (refine Below.alloc ?_ ?_ _) | (refine Below.drew ?_) | (refine Below.setCell ?_ ?_ _) | (refine Below.trans ?_ (Below.mono (by assumption) ?_)) | omega | (simp; done) | (simp; omega))))); clear hK K)
  (apply wpPlan_soft; (focus (intro K hK; (conv => arg 4; (simp only [pick, List.filterMap_cons, List.filterMap_nil, List.getElem?_toArray, List.getElem?_cons_succ, List.getElem?_cons_zero])); go_wp2; exact only_mk hK)); (focus ((simp only [pick, List.filterMap_cons, List.filterMap_nil, List.getElem?_toArray, List.getElem?_cons_succ, List.getElem?_cons_zero]); (((try simp only [sides, hasSide, side, lowV, intV, slV, ptrV, Act.eval, Region.wanted, yielded_eq]); go_simp) <;> (try omega)))))
  (refine wpPlan_end ?_)
  go_wp2
  refine bodyPost_ret (v := .tuple #[.agg #[.slice ao3 n3 cap3, .slice ao4 n4 cap4], .int .i64 0]) (by simp [results, Try.results16, go_sem, e0, e1, ef]) rfl ⟨_, _, rfl, ?_, ?_, ?_⟩
  · exact ((HA.setBelow (by show w.heap.size + 1 < w3.heap.size; omega) _).setBelow (by show w.heap.size + 1 < w3.heap.size; omega) _).mono (by show w.heap.size ≤ w3.heap.size; omega)
  · exact ((HB.setBelow (by show w.heap.size + 1 < w3.heap.size; omega) _).setBelow (by show w.heap.size + 1 < w3.heap.size; omega) _).mono (by show w.heap.size ≤ w3.heap.size; omega)
  · exact (hb8.setCell (by show w.heap.size ≤ w.heap.size + 1; omega) _).setCell (by show w.heap.size ≤ w.heap.size + 1; omega) _
end Go.Proofs.Ytfpdnigihjmohaa
