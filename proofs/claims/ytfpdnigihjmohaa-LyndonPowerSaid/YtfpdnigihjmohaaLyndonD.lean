/- The walk of the law of powers: the sample of Factors, and the law. -/
import Derived.Test.YtfpdnigihjmohaaLyndonC
namespace Go.Proofs.Ytfpdnigihjmohaa
open Go.RowKit
set_option linter.unusedSimpArgs false
set_option linter.unusedVariables false
set_option maxRecDepth 100000
attribute [local irreducible] wpList

def RetOneRow (w : World) (e : Ending) (w' : World) : Prop := ∃ ao c, e = .returned (.tuple #[.slice ao 1 c, .int .i64 0]) ∧ Below w.heap.size w w'
theorem infoInts : (Try.prog.info? 22).map (fun i => (i.zero, i.size, i.bytes)) = some (some (.slice none 0 0), 1, 24) := by kernel_rfl
set_option maxHeartbeats 2000000 in
theorem factors_sample (b : Nat) (w : World) (h0 : w.cell? ⟨b, 0, none⟩ = some (.int .i64 0)) (h1 : w.cell? ⟨b, 1, none⟩ = some (.int .i64 1)) : Calls Try.prog 22 #[.slice (some ⟨b, 0, none⟩) 2 2] w (RetOneRow w) := by
  have hI : Ints w (.slice (some ⟨b, 0, none⟩) 2 2) [0, 1] := ints_lit (n := 2) rfl (fun q hq => by
    match q, hq with
    | 0, _ => exact h0
    | 1, _ => exact h1) (by unfold I64; decide) (by decide)
  have M := Lib.hid (fun g W (hb : W.cell? ⟨g, 0, none⟩ = some (.slice (some ⟨b, 0, none⟩) 2 2)) (hW : Below w.heap.size w W) => may_one g _ [0, 1] W hb (hI.up hW))
  rw [show mayOf 4 [0, 1] = 0 from by decide] at M
  have C := Lib.hid (fun W (hW : Below w.heap.size w W) => clone_any _ [0, 1] W (hI.up hW) (by decide))
  have hbl := World.block_lt_of_cell? w _ h0
  simp only at hbl
  clear hI
  go_enter Try.func22, Try.ntmps22
  go_wp2_with (go_at_call 54; (with_reducible refine (M.out _ _ ?_ ?_).mono ?_); (focus (go_simp)); (focus ((repeat' (first | exact Below.refl _ _ | assumption | (refine Below.alloc ?_ ?_ _) | (refine Below.drew ?_) | (refine Below.setCell ?_ ?_ _) | (refine Below.trans ?_ (Below.mono (by assumption) ?_)) | omega | (simp; done) | (simp; omega))))); rintro e w' ⟨rfl, rfl⟩)
  refine wp_loop_rounds 2 ?_
  rw [rounds_succ]
  go_wp2
  refine wp_loop_rounds 2 ?_
  rw [rounds_succ]
  go_wp2
  refine wp_region_plan (.soft [0, 1, 2, 3, 4] (.soft [5, 6, 7, 8, 9, 10, 11, 12, 13] (.soft [14] .done))) w.heap.size (by kernel_rfl) (by kernel_rfl) (by kernel_rfl) ?_
  (apply wpPlan_soft; (focus (intro K hK; (conv => arg 4; (simp only [pick, List.filterMap_cons, List.filterMap_nil, List.getElem?_toArray, List.getElem?_cons_succ, List.getElem?_cons_zero])); go_wp2; exact only_mk hK)); (focus ((simp only [pick, List.filterMap_cons, List.filterMap_nil, List.getElem?_toArray, List.getElem?_cons_succ, List.getElem?_cons_zero]); (((try simp only [sides, hasSide, side, lowV, intV, slV, ptrV, Act.eval, Region.wanted, yielded_eq]); go_simp) <;> (try omega)))))
  (apply wpPlan_soft; (focus (intro K hK; (conv => arg 4; (simp only [pick, List.filterMap_cons, List.filterMap_nil, List.getElem?_toArray, List.getElem?_cons_succ, List.getElem?_cons_zero])); go_wp2; exact only_mk hK)); (focus ((simp only [pick, List.filterMap_cons, List.filterMap_nil, List.getElem?_toArray, List.getElem?_cons_succ, List.getElem?_cons_zero]); (((try simp only [sides, hasSide, side, lowV, intV, slV, ptrV, Act.eval, Region.wanted, yielded_eq]); go_simp) <;> (try omega)))))
  (apply wpPlan_soft; (focus (intro K hK; (conv => arg 4; (simp only [pick, List.filterMap_cons, List.filterMap_nil, List.getElem?_toArray, List.getElem?_cons_succ, List.getElem?_cons_zero])); go_wp2; exact only_mk hK)); (focus ((simp only [pick, List.filterMap_cons, List.filterMap_nil, List.getElem?_toArray, List.getElem?_cons_succ, List.getElem?_cons_zero]); (((try simp only [sides, hasSide, side, lowV, intV, slV, ptrV, Act.eval, Region.wanted, yielded_eq]); go_simp) <;> (try omega)))))
  (refine wpPlan_end ?_)
  go_wp2
  refine wp_region_plan (.soft [0, 1, 2, 3, 4, 5, 6, 7, 8] .done) w.heap.size (by kernel_rfl) (by kernel_rfl) (by kernel_rfl) ?_
  (apply wpPlan_soft; (focus (intro K hK; (conv => arg 4; (simp only [pick, List.filterMap_cons, List.filterMap_nil, List.getElem?_toArray, List.getElem?_cons_succ, List.getElem?_cons_zero])); go_wp2; exact only_mk hK)); (focus ((simp only [pick, List.filterMap_cons, List.filterMap_nil, List.getElem?_toArray, List.getElem?_cons_succ, List.getElem?_cons_zero]); (((try simp only [sides, hasSide, side, lowV, intV, slV, ptrV, Act.eval, Region.wanted, yielded_eq]); go_simp) <;> (try omega)))))
  (refine wpPlan_end ?_)
  go_wp2
  rw [rounds_succ]
  go_wp2
  refine wp_region_plan (.soft [0, 1, 2, 3, 4] (.soft [5, 6, 7, 8, 9, 10, 11, 12, 13] (.soft [14] .done))) w.heap.size (by kernel_rfl) (by kernel_rfl) (by kernel_rfl) ?_
  (apply wpPlan_soft; (focus (intro K hK; (conv => arg 4; (simp only [pick, List.filterMap_cons, List.filterMap_nil, List.getElem?_toArray, List.getElem?_cons_succ, List.getElem?_cons_zero])); go_wp2; exact only_mk hK)); (focus ((simp only [pick, List.filterMap_cons, List.filterMap_nil, List.getElem?_toArray, List.getElem?_cons_succ, List.getElem?_cons_zero]); (((try simp only [sides, hasSide, side, lowV, intV, slV, ptrV, Act.eval, Region.wanted, yielded_eq]); go_simp) <;> (try omega)))))
  (apply wpPlan_soft; (focus (intro K hK; (conv => arg 4; (simp only [pick, List.filterMap_cons, List.filterMap_nil, List.getElem?_toArray, List.getElem?_cons_succ, List.getElem?_cons_zero])); (repeat (refine wpList_skip ?_ ?_; (focus kernel_rfl); simp only [Act.put, List.setIfInBounds_toArray, List.set_cons_zero, List.set_cons_succ])); refine wpList_nil ?_; exact only_mk hK)); (focus ((simp only [pick, List.filterMap_cons, List.filterMap_nil, List.getElem?_toArray, List.getElem?_cons_succ, List.getElem?_cons_zero]); (((try simp only [sides, hasSide, side, lowV, intV, slV, ptrV, Act.eval, Region.wanted, yielded_eq]); go_simp) <;> (try omega)))))
  (apply wpPlan_soft; (focus (intro K hK; (conv => arg 4; (simp only [pick, List.filterMap_cons, List.filterMap_nil, List.getElem?_toArray, List.getElem?_cons_succ, List.getElem?_cons_zero])); go_wp2; exact only_mk hK)); (focus ((simp only [pick, List.filterMap_cons, List.filterMap_nil, List.getElem?_toArray, List.getElem?_cons_succ, List.getElem?_cons_zero]); (((try simp only [sides, hasSide, side, lowV, intV, slV, ptrV, Act.eval, Region.wanted, yielded_eq]); go_simp) <;> (try omega)))))
  (refine wpPlan_end ?_)
  go_wp2
  refine wp_loop_rounds 2 ?_
  rw [rounds_succ]
  go_wp2_with fail
  refine (C.out _ (by (repeat' (first | exact Below.refl _ _ | assumption | (refine Below.alloc ?_ ?_ _) | (refine Below.drew ?_) | (refine Below.setCell ?_ ?_ _) | (refine Below.trans ?_ (Below.mono (by assumption) ?_)) | omega | (simp; done) | (simp; omega))))).mono ?_
  rintro e w1 ⟨v68, rfl, O1, b1⟩
  have hb1 : Below w.heap.size w w1 := Below.trans (by (repeat' (first | exact Below.refl _ _ | assumption | (refine Below.alloc ?_ ?_ _) | (refine Below.drew ?_) | (refine Below.setCell ?_ ?_ _) | (refine Below.trans ?_ (Below.mono (by assumption) ?_)) | omega | (simp; done) | (simp; omega)))) (b1.mono (by simp))
  have hs1 := hb1.size
  obtain ⟨g, c68, rfl, _⟩ := ownsRow_shape O1 (by decide)
  clear O1 b1 C M
  go_wp2_with (at_builtin; refine wpList_push1 (B := w.heap.size) (w0 := w) (n := 0) (xs := []) (u := .slice (some ⟨g, 0, none⟩) 2 c68) rfl (.tmp 59) (.tmp 69) 42 rfl 22 (.slice none 0 0) 24 Try.underlying42 infoInts rfl ?c1 rfl rfl ?c2 ?c3 rfl ?c4 ?c5 ?_)
  case c1 => exact World.ownsRow_nil _ _ _ _
  case c2 => (repeat' (first | exact Below.refl _ _ | assumption | (refine Below.alloc ?_ ?_ _) | (refine Below.drew ?_) | (refine Below.setCell ?_ ?_ _) | (refine Below.trans ?_ (Below.mono (by assumption) ?_)) | omega | (simp; done) | (simp; omega)))
  case c3 => go_simp
  case c4 => simp [maxLen]
  case c5 => simp; omega
  intro v' w2 O2 b2 _
  obtain ⟨g2, c2, rfl, _⟩ := ownsRow_shape O2 (by decide)
  clear O2
  go_wp2
  rw [rounds_succ]
  go_wp2
  rw [rounds_succ]
  go_wp2
  go_ret2
  exact ⟨_, _, rfl, b2⟩
theorem mem_pow {l : List Int} {t : Nat} {a : Int} (h : a ∈ pow l t) : a ∈ l := by
  induction t with
  | zero => simp [pow] at h
  | succ t ih =>
    rw [pow, List.mem_append] at h
    rcases h with h | h
    · exact ih h
    · exact h
theorem may_mem {l : List Int} (h : mayOf 4 l = 0) : ∀ a ∈ l, 0 ≤ a ∧ a < 4 := by
  unfold mayOf at h
  split at h
  · cases h
  split at h
  · cases h
  split at h
  · rename_i h1
    intro a ha
    rw [List.all_eq_true] at h1
    simpa using h1 a ha
  · cases h
theorem pow_i64 {l : List Int} (h : I64 l) (t : Nat) : I64 (pow l t) := fun a ha => h a (mem_pow ha)
theorem take_pow {l : List Int} {r t : Nat} (hr : r ≤ l.length) (ht : 0 < t) : (pow l t).take r = l.take r := by
  cases t with
  | zero => omega
  | succ t =>
    induction t with
    | zero => simp [pow]
    | succ t ih =>
      have h1 : r ≤ (pow l (t + 1)).length := by
        rw [pow_len, Nat.succ_mul]
        omega
      rw [pow, List.take_append_of_le_length h1]
      exact ih (by omega)

set_option maxHeartbeats 4000000 in
theorem lyndonPower_early (v : Value) (l : List Int) (t : Int) (w : World) (h : Ints w v l) (ho : mayOf 4 l ≠ 0 ∨ l = []) :
    Calls Try.prog 7 #[v, .int .i64 t] w fun e w' => e = .returned (.bool true) ∧ Below w.heap.size w w' := by
  obtain ⟨ao, n, cap, rfl, H, L, hc, hm1⟩ := h.shape
  by_cases hm : mayOf 4 l = 0
  · have hl : l = [] := by
      rcases ho with ho | ho
      · exact absurd hm ho
      · exact ho
    have R := Lib.hid (fun W (hW : Below w.heap.size w W) => root_empty (.slice ao n cap) W (by have := h.up hW; rwa [hl] at this))
    obtain rfl : n = 0 := by rw [L.out, hl]; rfl
    clear h H hm ho hl
    go_enter Try.func7, Try.ntmps7
    go_wp2_with (first | ((go_at_call 22; (with_reducible refine (factors_sample _ _ ?_ ?_).mono ?_); (focus (go_simp)); (focus (go_simp)); rintro e w' ⟨a5, c5, rfl, hb⟩; (have hs' := hb.size); (simp at hs'); (have hbw : Below w.heap.size w w' := by (repeat' (first | exact Below.refl _ _ | assumption | (refine Below.alloc ?_ ?_ _) | (refine Below.drew ?_) | (refine Below.setCell ?_ ?_ _) | (refine Below.trans ?_ (Below.mono (by assumption) ?_)) | omega | (simp; done) | (simp; omega)))); clear hb hs')) | ((go_at_call 23; (with_reducible refine (R.out _ ?_).mono ?_); (focus (exact hbw)); rintro e w2 ⟨rfl, hb⟩; (replace hbw := hbw.trans (hb.mono hbw.size)); clear hb)))
    go_ret
    exact ⟨rfl, hbw⟩
  · have R := Lib.hid (fun W (hW : Below w.heap.size w W) => root_no (.slice ao n cap) l W (h.up hW) hm)
    generalize mayOf 4 l = r at *
    have hr : (r != 0) = true := by simpa using hm
    replace hm := Lib.hid hm
    clear h H ho
    go_enter Try.func7, Try.ntmps7
    go_wp2_with (first | ((go_at_call 22; (with_reducible refine (factors_sample _ _ ?_ ?_).mono ?_); (focus (go_simp)); (focus (go_simp)); rintro e w' ⟨a5, c5, rfl, hb⟩; (have hs' := hb.size); (simp at hs'); (have hbw : Below w.heap.size w w' := by (repeat' (first | exact Below.refl _ _ | assumption | (refine Below.alloc ?_ ?_ _) | (refine Below.drew ?_) | (refine Below.setCell ?_ ?_ _) | (refine Below.trans ?_ (Below.mono (by assumption) ?_)) | omega | (simp; done) | (simp; omega)))); clear hb hs')) | ((go_at_call 23; (with_reducible refine (R.out _ ?_).mono ?_); (focus (exact hbw)); rintro e w2 ⟨rfl, hb⟩; (replace hbw := hbw.trans (hb.mono hbw.size)); clear hb)))
    go_ret
    exact ⟨rfl, hbw⟩
set_option maxHeartbeats 4000000 in
theorem lyndonPower_out (v : Value) (l : List Int) (t : Int) (w : World) (h : Ints w v l) (hm : mayOf 4 l = 0) (hl : 0 < l.length) (ht : t < 1 ∨ 60 < t ∨ 60 < t * (l.length : Int)) :
    Calls Try.prog 7 #[v, .int .i64 t] w fun e w' => e = .returned (.bool true) ∧ Below w.heap.size w w' := by
  obtain ⟨ao, n, cap, rfl, H, L, hc, hm1⟩ := h.shape
  have R := Lib.hid (fun W (hW : Below w.heap.size w W) => root_ok (.slice ao n cap) l W (h.up hW) hm hl)
  have hn60 : n ≤ 60 := by rw [L.out]; exact may_len hm
  rw [← L.out] at ht hl
  clear h H hm
  by_cases h1 : t < 1
  · clear ht
    go_enter Try.func7, Try.ntmps7
    go_wp2_with (first | ((go_at_call 22; (with_reducible refine (factors_sample _ _ ?_ ?_).mono ?_); (focus (go_simp)); (focus (go_simp)); rintro e w' ⟨a5, c5, rfl, hb⟩; (have hs' := hb.size); (simp at hs'); (have hbw : Below w.heap.size w w' := by (repeat' (first | exact Below.refl _ _ | assumption | (refine Below.alloc ?_ ?_ _) | (refine Below.drew ?_) | (refine Below.setCell ?_ ?_ _) | (refine Below.trans ?_ (Below.mono (by assumption) ?_)) | omega | (simp; done) | (simp; omega)))); clear hb hs')) | ((go_at_call 23; (with_reducible refine (R.out _ ?_).mono ?_); (focus (exact hbw)); rintro e w2 ⟨v7, r, rfl, hr, O7, hb⟩; (replace hbw := hbw.trans (hb.mono hbw.size)); clear hb; replace hr := Lib.hid hr; replace O7 := Lib.hid O7)))
    go_ret
    exact ⟨rfl, hbw⟩
  by_cases h2 : 60 < t
  · clear ht
    go_enter Try.func7, Try.ntmps7
    go_wp2_with (first | ((go_at_call 22; (with_reducible refine (factors_sample _ _ ?_ ?_).mono ?_); (focus (go_simp)); (focus (go_simp)); rintro e w' ⟨a5, c5, rfl, hb⟩; (have hs' := hb.size); (simp at hs'); (have hbw : Below w.heap.size w w' := by (repeat' (first | exact Below.refl _ _ | assumption | (refine Below.alloc ?_ ?_ _) | (refine Below.drew ?_) | (refine Below.setCell ?_ ?_ _) | (refine Below.trans ?_ (Below.mono (by assumption) ?_)) | omega | (simp; done) | (simp; omega)))); clear hb hs')) | ((go_at_call 23; (with_reducible refine (R.out _ ?_).mono ?_); (focus (exact hbw)); rintro e w2 ⟨v7, r, rfl, hr, O7, hb⟩; (replace hbw := hbw.trans (hb.mono hbw.size)); clear hb; replace hr := Lib.hid hr; replace O7 := Lib.hid O7)))
    go_ret
    exact ⟨rfl, hbw⟩
  have h3 : 60 < t * (n : Int) := by omega
  have h4 : 0 ≤ t * (n : Int) := by omega
  have h5 : t * (n : Int) ≤ 3600 := by
    have : t * (n : Int) ≤ 60 * 60 := Int.mul_le_mul (by omega) (by omega) (by omega) (by omega)
    omega
  clear ht
  go_enter Try.func7, Try.ntmps7
  go_wp2_with (first | ((go_at_call 22; (with_reducible refine (factors_sample _ _ ?_ ?_).mono ?_); (focus (go_simp)); (focus (go_simp)); rintro e w' ⟨a5, c5, rfl, hb⟩; (have hs' := hb.size); (simp at hs'); (have hbw : Below w.heap.size w w' := by (repeat' (first | exact Below.refl _ _ | assumption | (refine Below.alloc ?_ ?_ _) | (refine Below.drew ?_) | (refine Below.setCell ?_ ?_ _) | (refine Below.trans ?_ (Below.mono (by assumption) ?_)) | omega | (simp; done) | (simp; omega)))); clear hb hs')) | ((go_at_call 23; (with_reducible refine (R.out _ ?_).mono ?_); (focus (exact hbw)); rintro e w2 ⟨v7, r, rfl, hr, O7, hb⟩; (replace hbw := hbw.trans (hb.mono hbw.size)); clear hb; replace hr := Lib.hid hr; replace O7 := Lib.hid O7)))
  go_ret
  exact ⟨rfl, hbw⟩
end Go.Proofs.Ytfpdnigihjmohaa
