/- The walks of package lyndon: the root of a word, and its first turn. -/
import Derived.Test.YtfpdnigihjmohaaLyndonA
import Derived.Test.YtfpdnigihjmohaaLyndonB
namespace Go.Proofs.Ytfpdnigihjmohaa
open Go.RowKit
set_option linter.unusedSimpArgs false
set_option linter.unusedVariables false
set_option maxRecDepth 100000
attribute [local irreducible] wpList

/-- two rows are laid side by side -/
theorem wp_rows2 {o : Oper} {a : Act} {w : World} {K : Act → World → Prop} {Q : Exit → Act → World → Prop} (x y : Operand) (ho : o.op = .buildSlice 42 2 #[(0, x), (1, y)]) {a1 a2 : Option Addr} {n1 c1 n2 c2 : Nat}
    (hx : a.eval x = .slice a1 n1 c1) (hy : a.eval y = .slice a2 n2 c2)
    (h : ∀ (g : Nat) (w' : World), Below w.heap.size w w' → w'.cell? ⟨g, 0, none⟩ = some (.slice a1 n1 c1) → w'.cell? ⟨g, 1, none⟩ = some (.slice a2 n2 c2) → K (a.put o.dst (.slice (some ⟨g, 0, none⟩) 2 2)) w') : o.wp Try.prog a w K Q := by
  have hh := h w.heap.size (w.alloc (.cells #[.slice a1 n1 c1, .slice a2 n2 c2] 22)) ((Below.refl _ _).alloc (Nat.le_refl _) _) (by go_simp) (by go_simp)
  obtain ⟨dst, op, type, pos, after, guard⟩ := o
  simp only at ho
  subst ho
  clear h
  unfold Oper.wp
  generalize a.eval = ρ at hx hy ⊢
  go_simp
  exact hh

def RetRoot (w : World) (l : List Int) (e : Ending) (w' : World) : Prop :=
  ∃ v r, e = .returned (.tuple #[v, .int .i64 ((l.length / r : Nat) : Int), .int .i64 0]) ∧ IsRoot l r ∧ w'.ownsRow w.heap.size 3 1 v r (ints (l.take r)) ∧ Below w.heap.size w w'
set_option maxHeartbeats 1000000 in
/-- where a word may not be -/
theorem root_no (v : Value) (l : List Int) (w : World) (h : Ints w v l) (hm : mayOf 4 l ≠ 0) : Calls Try.prog 23 #[v] w fun e w' => e = .returned (.tuple #[.slice none 0 0, .int .i64 0, .int .i64 (mayOf 4 l)]) ∧ Below w.heap.size w w' := by
  obtain ⟨ao, n, cap, rfl, H, L, hc, hm1⟩ := h.shape
  have M := Lib.hid (fun b W (hb : W.cell? ⟨b, 0, none⟩ = some (.slice ao n cap)) (hW : Below w.heap.size w W) => may_one b _ l W hb (h.up hW))
  generalize mayOf 4 l = r at *
  have hr1 : (r != 0) = true := by simpa using hm
  replace hm := Lib.hid hm
  clear h H
  go_enter Try.func23, Try.ntmps23
  go_wp2_with (go_at_call 54; (with_reducible refine (M.out _ _ ?_ ?_).mono ?_); (focus (go_simp)); (focus ((repeat' (first | exact Below.refl _ _ | assumption | (refine Below.alloc ?_ ?_ _) | (refine Below.drew ?_) | (refine Below.setCell ?_ ?_ _) | (refine Below.trans ?_ (Below.mono (by assumption) ?_)) | omega | (simp; done) | (simp; omega))))); rintro e w' ⟨rfl, rfl⟩)
  go_ret3
  exact ⟨rfl, by (repeat' (first | exact Below.refl _ _ | assumption | (refine Below.alloc ?_ ?_ _) | (refine Below.drew ?_) | (refine Below.setCell ?_ ?_ _) | (refine Below.trans ?_ (Below.mono (by assumption) ?_)) | omega | (simp; done) | (simp; omega)))⟩
theorem root_empty (v : Value) (w : World) (h : Ints w v []) : Calls Try.prog 23 #[v] w fun e w' => e = .returned (.tuple #[.slice none 0 0, .int .i64 0, .int .i64 0]) ∧ Below w.heap.size w w' := by
  obtain ⟨ao, n, cap, rfl, H, L, hc, hm1⟩ := h.shape
  obtain rfl : n = 0 := L.out
  have M := Lib.hid (fun b W (hb : W.cell? ⟨b, 0, none⟩ = some (.slice ao 0 cap)) (hW : Below w.heap.size w W) => may_one b _ [] W hb (h.up hW))
  rw [show mayOf 4 [] = 0 from by decide] at M
  clear h H
  go_enter Try.func23, Try.ntmps23
  go_wp2_with (go_at_call 54; (with_reducible refine (M.out _ _ ?_ ?_).mono ?_); (focus (go_simp)); (focus ((repeat' (first | exact Below.refl _ _ | assumption | (refine Below.alloc ?_ ?_ _) | (refine Below.drew ?_) | (refine Below.setCell ?_ ?_ _) | (refine Below.trans ?_ (Below.mono (by assumption) ?_)) | omega | (simp; done) | (simp; omega))))); rintro e w' ⟨rfl, rfl⟩)
  go_ret3
  exact ⟨rfl, by (repeat' (first | exact Below.refl _ _ | assumption | (refine Below.alloc ?_ ?_ _) | (refine Below.drew ?_) | (refine Below.setCell ?_ ?_ _) | (refine Below.trans ?_ (Below.mono (by assumption) ?_)) | omega | (simp; done) | (simp; omega)))⟩
theorem may_len {k : Int} {l : List Int} (h : mayOf k l = 0) : l.length ≤ 60 := by
  unfold mayOf at h
  split at h
  · cases h
  split at h
  · cases h
  · omega
theorem root_cast {n s : Nat} (h : s ≤ n) : ((n : Int) - ((n - s : Nat) : Int)) = s := by omega
theorem div_bound {n s : Nat} (h : n ≤ 60) : 0 ≤ (n : Int) / (s : Int) ∧ (n : Int) / (s : Int) ≤ 60 := by
  rw [← Int.natCast_ediv]
  have := Nat.div_le_self n s
  generalize n / s = d at *
  omega
theorem root_fin {w w1 w2 w3 : World} {l : List Int} {n r : Nat} {v : Value} (hr : IsRoot l r) (hn : n = l.length) (hl : 0 < n) (O : w3.ownsRow w2.heap.size 3 1 v (l.take r).length (ints (l.take r))) (b : Below w2.heap.size w2 w3) (hbw : Below w.heap.size w w1) {u : Value} (hu : u = .int .i64 ((n : Int) / (r : Int)))
    (h12 : Below w1.heap.size w1 w2 := by (focus ((repeat' (first | exact Below.refl _ _ | assumption | (refine Below.alloc ?_ ?_ _) | (refine Below.drew ?_) | (refine Below.setCell ?_ ?_ _) | (refine Below.trans ?_ (Below.mono (by assumption) ?_)) | omega | (simp; done) | (simp; omega)))))) : RetRoot w l (.returned (.tuple #[v, u, .int .i64 0])) w3 := by
  subst hn
  have hle : r ≤ l.length := Nat.le_of_dvd hl (Nat.dvd_of_mod_eq_zero hr.2.1)
  refine ⟨v, r, ?_, hr, ?_, hbw.trans ((h12.mono hbw.size).trans (b.mono (Nat.le_trans hbw.size h12.size)))⟩
  · rw [hu, Int.natCast_ediv]
  · rw [List.length_take, Nat.min_eq_left hle] at O
    exact ownsRow_mono O (Nat.le_trans hbw.size h12.size)
set_option maxRecDepth 100000 in
set_option maxHeartbeats 2000000 in
theorem root_ok (v : Value) (l : List Int) (w : World) (h : Ints w v l) (hm : mayOf 4 l = 0) (hl : 0 < l.length) : Calls Try.prog 23 #[v] w (RetRoot w l) := by
  obtain ⟨ao, n, cap, rfl, H, L, hc, hm1⟩ := h.shape
  have M := Lib.hid (fun b W (hb : W.cell? ⟨b, 0, none⟩ = some (.slice ao n cap)) (hW : Below w.heap.size w W) => may_one b _ l W hb (h.up hW))
  rw [hm] at M
  have hlen := may_len hm
  have B := Lib.hid (fun W (hW : Below w.heap.size w W) => borders_any (.slice ao n cap) l W (h.up hW) hlen)
  have hn0 : 0 < n := by rw [L.out]; exact hl
  have hn60 : n ≤ 60 := by rw [L.out]; exact hlen
  clear h hm hl hlen
  go_enter Try.func23, Try.ntmps23
  go_wp2_with (go_at_call 54; (with_reducible refine (M.out _ _ ?_ ?_).mono ?_); (focus (go_simp)); (focus ((repeat' (first | exact Below.refl _ _ | assumption | (refine Below.alloc ?_ ?_ _) | (refine Below.drew ?_) | (refine Below.setCell ?_ ?_ _) | (refine Below.trans ?_ (Below.mono (by assumption) ?_)) | omega | (simp; done) | (simp; omega))))); rintro e w' ⟨rfl, rfl⟩)
  refine (B.out _ (by (repeat' (first | exact Below.refl _ _ | assumption | (refine Below.alloc ?_ ?_ _) | (refine Below.drew ?_) | (refine Below.setCell ?_ ?_ _) | (refine Below.trans ?_ (Below.mono (by assumption) ?_)) | omega | (simp; done) | (simp; omega))))).mono ?_
  rintro e w1 ⟨v7, L7, rfl, I7, ⟨k, hB⟩, hb1⟩
  rw [← L.out] at hB
  have hL7 := hB.1
  obtain ⟨k2, hk2, hl2⟩ := hB.2.1 (n - 1) (by omega)
  rw [show n - 1 + 1 = n from by omega] at hl2
  have hkn := hl2.1.1
  have hroot := root_of (w := l) (k := k2) (by rw [← L.out]; exact hl2)
  rw [← L.out] at hroot
  obtain ⟨s, hs⟩ : ∃ s, s = n - k2 := ⟨_, rfl⟩
  rw [← hs] at hroot
  have hks : (k2 : Int) = n - s := by omega
  rw [hks] at hk2
  obtain ⟨ao7, n7, cap7, rfl, I7', Ln7, hc7, hm7⟩ := I7.shape
  obtain rfl : n7 = n := by rw [Ln7.out, hL7]
  obtain ⟨g, o, rfl, hc, hg, hx, hx'⟩ := I7'.int (k := n7 - 1) (by omega)
  rw [hk2] at hc
  have hs0 : 0 < s := by omega
  have hsn : s ≤ n7 := by omega
  clear hB hk2 hl2 hkn hs hks I7 I7' Ln7 hL7 hx hx' k2 k
  have hbw : Below w.heap.size w w1 := by (repeat' (first | exact Below.refl _ _ | assumption | (refine Below.alloc ?_ ?_ _) | (refine Below.drew ?_) | (refine Below.setCell ?_ ?_ _) | (refine Below.trans ?_ (Below.mono (by assumption) ?_)) | omega | (simp; done) | (simp; omega)))
  have H1 := H.up hbw
  replace hroot := Lib.hid hroot
  clear H hb1
  have hss : ((n7 : Int) - ((n7 : Int) - (s : Int))) = (s : Int) := by omega
  by_cases hmod : n7 % s = 0
  · have hmb : (((n7 : Int) % s) != 0) = false := by
      rw [← Int.natCast_emod, hmod]
      rfl
    have hr : IsRoot l s := by
      have := hroot.out
      rwa [if_neg (by simpa using hmod)] at this
    have C := Lib.hid (fun W (hW : Below w1.heap.size w1 W) => clone_any (.slice ao s cap) (l.take s) W ((H1.takeV hsn).up hW) (by simp; omega))
    clear hmod hroot
    replace hr := Lib.hid hr
    go_wp2
    clear hss hmb
    obtain ⟨hd1, hd2⟩ := div_bound (s := s) hn60
    refine wp_region_plan (.soft [0, 1, 2, 4, 5, 6] (.alt 3 (.soft [7, 8, 9] .done) .stop)) w1.heap.size (by kernel_rfl) (by kernel_rfl) (by kernel_rfl) ?_
    (apply wpPlan_soft; (focus (intro K hK; (conv => arg 4; (simp only [pick, List.filterMap_cons, List.filterMap_nil, List.getElem?_toArray, List.getElem?_cons_succ, List.getElem?_cons_zero])); go_wp2; exact only_mk hK)); (focus ((simp only [pick, List.filterMap_cons, List.filterMap_nil, List.getElem?_toArray, List.getElem?_cons_succ, List.getElem?_cons_zero]); (((try simp only [sides, hasSide, side, lowV, intV, slV, ptrV, Act.eval, Region.wanted, yielded_eq]); go_simp) <;> (try omega)))))
    (refine wpPlan_op (by rfl) (by kernel_rfl) (fun K hK => ?_) wpPlan_stop; go_simp)
    refine (C.out _ (by (repeat' (first | exact Below.refl _ _ | assumption | (refine Below.alloc ?_ ?_ _) | (refine Below.drew ?_) | (refine Below.setCell ?_ ?_ _) | (refine Below.trans ?_ (Below.mono (by assumption) ?_)) | omega | (simp; done) | (simp; omega))))).mono ?_
    rintro e w2 ⟨v2, rfl, O2, b2⟩
    ((try simp only [Act.put, List.getElem_toArray, List.getElem_cons_succ, List.getElem_cons_zero, List.setIfInBounds_toArray, List.set_cons_zero, List.set_cons_succ]); refine hK _ _ ?_ ?_; (focus ((repeat' (first | exact Below.refl _ _ | assumption | (refine Below.alloc ?_ ?_ _) | (refine Below.drew ?_) | (refine Below.setCell ?_ ?_ _) | (refine Below.trans ?_ (Below.mono (by assumption) ?_)) | omega | (simp; done) | (simp; omega))))); clear hK K)
    (apply wpPlan_soft; (focus (intro K hK; (conv => arg 4; (simp only [pick, List.filterMap_cons, List.filterMap_nil, List.getElem?_toArray, List.getElem?_cons_succ, List.getElem?_cons_zero])); go_wp2; exact only_mk hK)); (focus ((simp only [pick, List.filterMap_cons, List.filterMap_nil, List.getElem?_toArray, List.getElem?_cons_succ, List.getElem?_cons_zero]); (((try simp only [sides, hasSide, side, lowV, intV, slV, ptrV, Act.eval, Region.wanted, yielded_eq]); go_simp) <;> (try omega)))))
    (refine wpPlan_end ?_)
    go_wp2
    go_ret3
    exact root_fin hr.out L.out hn0 O2 b2 hbw (by rfl)
  · have hmb : (((n7 : Int) % s) != 0) = true := by
      rw [← Int.natCast_emod]
      simp
      omega
    have hr : IsRoot l n7 := by
      have := hroot.out
      rwa [if_pos (by simpa using hmod)] at this
    have C := Lib.hid (fun W (hW : Below w1.heap.size w1 W) => clone_any (.slice ao n7 cap) (l.take n7) W ((H1.takeV (Nat.le_refl _)).up hW) (by simp; omega))
    clear hmod hroot
    replace hr := Lib.hid hr
    go_wp2
    clear hss hmb
    obtain ⟨hd1, hd2⟩ := div_bound (s := n7) hn60
    refine wp_region_plan (.soft [0, 1, 2, 4, 5, 6] (.alt 3 (.soft [7, 8, 9] .done) .stop)) w1.heap.size (by kernel_rfl) (by kernel_rfl) (by kernel_rfl) ?_
    (apply wpPlan_soft; (focus (intro K hK; (conv => arg 4; (simp only [pick, List.filterMap_cons, List.filterMap_nil, List.getElem?_toArray, List.getElem?_cons_succ, List.getElem?_cons_zero])); go_wp2; exact only_mk hK)); (focus ((simp only [pick, List.filterMap_cons, List.filterMap_nil, List.getElem?_toArray, List.getElem?_cons_succ, List.getElem?_cons_zero]); (((try simp only [sides, hasSide, side, lowV, intV, slV, ptrV, Act.eval, Region.wanted, yielded_eq]); go_simp) <;> (try omega)))))
    (refine wpPlan_op (by rfl) (by kernel_rfl) (fun K hK => ?_) wpPlan_stop; go_simp)
    refine (C.out _ (by (repeat' (first | exact Below.refl _ _ | assumption | (refine Below.alloc ?_ ?_ _) | (refine Below.drew ?_) | (refine Below.setCell ?_ ?_ _) | (refine Below.trans ?_ (Below.mono (by assumption) ?_)) | omega | (simp; done) | (simp; omega))))).mono ?_
    rintro e w2 ⟨v2, rfl, O2, b2⟩
    ((try simp only [Act.put, List.getElem_toArray, List.getElem_cons_succ, List.getElem_cons_zero, List.setIfInBounds_toArray, List.set_cons_zero, List.set_cons_succ]); refine hK _ _ ?_ ?_; (focus ((repeat' (first | exact Below.refl _ _ | assumption | (refine Below.alloc ?_ ?_ _) | (refine Below.drew ?_) | (refine Below.setCell ?_ ?_ _) | (refine Below.trans ?_ (Below.mono (by assumption) ?_)) | omega | (simp; done) | (simp; omega))))); clear hK K)
    (apply wpPlan_soft; (focus (intro K hK; (conv => arg 4; (simp only [pick, List.filterMap_cons, List.filterMap_nil, List.getElem?_toArray, List.getElem?_cons_succ, List.getElem?_cons_zero])); go_wp2; exact only_mk hK)); (focus ((simp only [pick, List.filterMap_cons, List.filterMap_nil, List.getElem?_toArray, List.getElem?_cons_succ, List.getElem?_cons_zero]); (((try simp only [sides, hasSide, side, lowV, intV, slV, ptrV, Act.eval, Region.wanted, yielded_eq]); go_simp) <;> (try omega)))))
    (refine wpPlan_end ?_)
    go_wp2
    go_ret3
    exact root_fin hr.out L.out hn0 O2 b2 hbw (by rw [Int.ediv_self (by omega)]; rfl)
theorem turnTo_le (lt : Nat → Nat → Bool) (k : Nat) : turnTo lt k ≤ k := by
  rcases Nat.eq_zero_or_pos k with rfl | h
  · exact Nat.le_refl _
  · exact Nat.le_of_lt (turnTo_lt lt k h)
theorem turnTo_succ {lt : Nat → Nat → Bool} {k b : Nat} (h : turnTo lt k = b) : turnTo lt (k + 1) = if lt k b then k else b := by
  rw [← h]
  rfl
theorem turn_no (v : Value) (l : List Int) (w : World) (h : Ints w v l) (hm : mayOf 4 l ≠ 0) : Calls Try.prog 25 #[v] w fun e w' => e = .returned (.tuple #[.int .i64 0, .int .i64 (mayOf 4 l)]) ∧ Below w.heap.size w w' := by
  obtain ⟨ao, n, cap, rfl, H, L, hc, hm1⟩ := h.shape
  have M := Lib.hid (fun b W (hb : W.cell? ⟨b, 0, none⟩ = some (.slice ao n cap)) (hW : Below w.heap.size w W) => may_one b _ l W hb (h.up hW))
  generalize mayOf 4 l = r at *
  have hr1 : (r != 0) = true := by simpa using hm
  replace hm := Lib.hid hm
  clear h H
  go_enter Try.func25, Try.ntmps25
  go_wp2_with (go_at_call 54; (with_reducible refine (M.out _ _ ?_ ?_).mono ?_); (focus (go_simp)); (focus ((repeat' (first | exact Below.refl _ _ | assumption | (refine Below.alloc ?_ ?_ _) | (refine Below.drew ?_) | (refine Below.setCell ?_ ?_ _) | (refine Below.trans ?_ (Below.mono (by assumption) ?_)) | omega | (simp; done) | (simp; omega))))); rintro e w' ⟨rfl, rfl⟩)
  go_ret2
  exact ⟨rfl, by (repeat' (first | exact Below.refl _ _ | assumption | (refine Below.alloc ?_ ?_ _) | (refine Below.drew ?_) | (refine Below.setCell ?_ ?_ _) | (refine Below.trans ?_ (Below.mono (by assumption) ?_)) | omega | (simp; done) | (simp; omega)))⟩

theorem rot_i64 {l : List Int} (h : I64 l) (k : Nat) : I64 (rot l k) := I64.app (a := l.drop k) (b := l.take k) (fun a ha => h a (List.mem_of_mem_drop ha)) (fun a ha => h a (List.mem_of_mem_take ha))
set_option maxHeartbeats 4000000 in
theorem turn_ok (v : Value) (l : List Int) (w : World) (h : Ints w v l) (hm : mayOf 4 l = 0) : Calls Try.prog 25 #[v] w fun e w' => e = .returned (.tuple #[.int .i64 (turnS l), .int .i64 0]) ∧ Below w.heap.size w w' := by
  obtain ⟨ao, n, cap, rfl, H, L, hc, hm1⟩ := h.shape
  have M := Lib.hid (fun b W (hb : W.cell? ⟨b, 0, none⟩ = some (.slice ao n cap)) (hW : Below w.heap.size w W) => may_one b _ l W hb (h.up hW))
  rw [hm] at M
  have hn60 : n ≤ 60 := by rw [L.out]; exact may_len hm
  have C0 : Hid (∀ (k : Nat), k < n → ∀ g W, Below w.heap.size w W → W.cell? ⟨g, 0, none⟩ = some (.slice (Option.map (fun x => x.add k) ao) (n - k) (cap - k)) → W.cell? ⟨g, 1, none⟩ = some (.slice ao k cap) →
      Calls Try.prog 57 #[.slice (some ⟨g, 0, none⟩) 2 2] W (NewInts W (rot l k))) := fun k hk g W hW e0 e1 =>
    concat_two g _ _ (l.drop k) (l.take k) W e0 e1 ((h.up hW).dropV (k := k) (by omega) (by omega)) ((h.up hW).takeV (k := k) (by omega)) (by simp; rw [← L.out]; omega) (by simp; omega)
  have hT : Hid (turnS l = turnTo (rotLt l) n) := by rw [L.out]; exact Lib.hid rfl
  clear h hm
  go_enter Try.func25, Try.ntmps25
  go_wp2_with (go_at_call 54; (with_reducible refine (M.out _ _ ?_ ?_).mono ?_); (focus (go_simp)); (focus ((repeat' (first | exact Below.refl _ _ | assumption | (refine Below.alloc ?_ ?_ _) | (refine Below.drew ?_) | (refine Below.setCell ?_ ?_ _) | (refine Below.trans ?_ (Below.mono (by assumption) ?_)) | omega | (simp; done) | (simp; omega))))); rintro e w' ⟨rfl, rfl⟩)
  go_loopw [5, 15] (fun v5 v15 wr => ∃ b k : Nat, k ≤ n ∧ v15 = .int .i64 k ∧ v5 = .int .i64 b ∧ turnTo (rotLt l) k = b ∧ Below w.heap.size w wr) (fun _ v15 _ => n - (intOf v15).toNat)
  case atStart => exact ⟨0, 0, Nat.zero_le _, rfl, rfl, rfl, by (repeat' (first | exact Below.refl _ _ | assumption | (refine Below.alloc ?_ ?_ _) | (refine Below.drew ?_) | (refine Below.setCell ?_ ?_ _) | (refine Below.trans ?_ (Below.mono (by assumption) ?_)) | omega | (simp; done) | (simp; omega)))⟩
  case round =>
    obtain ⟨q, k, hk, rfl, rfl, hq, hb⟩ := hrel
    by_cases hlt : k < n
    · have hbn : q < n := by have := turnTo_le (rotLt l) k; omega
      have hst := turnTo_succ hq
      have hrl : rotLt l k q = decide (cmpLS (rot l k) (rot l q) < 0) := rfl
      have C : Hid (∀ (k : Nat), k < n → ∀ g W, Below wr.heap.size wr.drew W → W.cell? ⟨g, 0, none⟩ = some (.slice (Option.map (fun x => x.add k) ao) (n - k) (cap - k)) → W.cell? ⟨g, 1, none⟩ = some (.slice ao k cap) →
          Calls Try.prog 57 #[.slice (some ⟨g, 0, none⟩) 2 2] W (NewInts W (rot l k))) := fun k hk g W hW e0 e1 => C0.out k hk g W (hb.trans (((Below.refl wr.heap.size wr).drew.trans hW).mono hb.size)) e0 e1
      have D : Hid (∀ W v1 v2, Ints W v1 (rot l k) → Ints W v2 (rot l q) → Calls Try.prog 56 #[v1, v2] W fun e w' => e = .returned (.int .i64 (cmpLS (rot l k) (rot l q))) ∧ W = w') :=
        fun W v1 v2 e1 e2 => compare_any _ _ _ _ _ e1 e2 (by rw [rot_len, rot_len])
      rw [hrl] at hst
      generalize cmpLS (rot l k) (rot l q) = c at *
      replace hb := Lib.hid hb
      clear hrl hq M C0
      by_cases hc : c < 0
      · replace hst : Hid (turnTo (rotLt l) (k + 1) = k) := by rw [if_pos (by simpa using hc)] at hst; exact Lib.hid hst
        go_wp2
        refine wp_region_plan (.soft [0, 1, 2, 3, 4, 5, 8, 9, 10, 11, 12, 13] (.alt 6 (.alt 7 (.alt 14 (.alt 15 (.alt 16 (.soft [17] .done) .stop) .stop) .stop) (.alt 14 (.alt 7 (.alt 15 (.alt 16 (.soft [17] .done) .stop) .stop) .stop) .stop)) (.alt 14 (.alt 6 (.alt 7 (.alt 15 (.alt 16 (.soft [17] .done) .stop) .stop) .stop) .stop) .stop))) wr.heap.size (by kernel_rfl) (by kernel_rfl) (by kernel_rfl) ?_
        have T : Below wr.heap.size wr.drew wr.drew := Below.refl _ _
        (apply wpPlan_soft; (focus (intro K hK; (conv => arg 4; (simp only [pick, List.filterMap_cons, List.filterMap_nil, List.getElem?_toArray, List.getElem?_cons_succ, List.getElem?_cons_zero])); go_wp2; exact only_mk hK)); (focus ((simp only [pick, List.filterMap_cons, List.filterMap_nil, List.getElem?_toArray, List.getElem?_cons_succ, List.getElem?_cons_zero]); (((try simp only [sides, hasSide, side, lowV, intV, slV, ptrV, Act.eval, Region.wanted, yielded_eq]); go_simp) <;> (try omega)))))
        refine wpPlan_op (by rfl) (by kernel_rfl) (fun K hK => ?_) ?_
        · (apply wp_rows2 (.tmp 20) (.tmp 23); (focus rfl); (focus rfl); (focus rfl); intro g6 X b c60 c61; (have S := b.size); (try replace c60 := cell_up c60 b); (try replace c61 := cell_up c61 b); (try replace c140 := cell_up c140 b); (try replace c141 := cell_up c141 b); (try replace F7 := SliceOf.up F7 b); (try replace F15 := SliceOf.up F15 b); (have TT := T.trans (b.mono T.size)); clear T; (have T := TT); clear TT b; (try simp only [Act.put, List.getElem_toArray, List.getElem_cons_succ, List.getElem_cons_zero, List.setIfInBounds_toArray, List.set_cons_zero, List.set_cons_succ]); refine hK _ _ T ?_; clear hK K)
          refine wpPlan_op (by rfl) (by kernel_rfl) (fun K hK => ?_) ?_
          · (go_simp; refine (C.out k hlt g6 _ T c60 c61).mono ?_; rintro e X ⟨v7, rfl, O7, b⟩; (try replace c60 := cell_up c60 b); (try replace c61 := cell_up c61 b); (try replace c140 := cell_up c140 b); (try replace c141 := cell_up c141 b); (try replace F7 := SliceOf.up F7 b); (try replace F15 := SliceOf.up F15 b); (have TT := T.trans (b.mono T.size)); clear T; (have T := TT); clear TT b; (have F7 := Ints.ofOwn O7 (rot_i64 H.i64 k)); clear O7; (try simp only [Act.put, List.getElem_toArray, List.getElem_cons_succ, List.getElem_cons_zero, List.setIfInBounds_toArray, List.set_cons_zero, List.set_cons_succ]); refine hK _ _ T ?_; clear hK K)
            refine wpPlan_op (by rfl) (by kernel_rfl) (fun K hK => ?_) wpPlan_stop
            (apply wp_rows2 (.tmp 28) (.tmp 31); (focus rfl); (focus rfl); (focus rfl); intro g14 X b c140 c141; (have S := b.size); (try replace c60 := cell_up c60 b); (try replace c61 := cell_up c61 b); (try replace c140 := cell_up c140 b); (try replace c141 := cell_up c141 b); (try replace F7 := SliceOf.up F7 b); (try replace F15 := SliceOf.up F15 b); (have TT := T.trans (b.mono T.size)); clear T; (have T := TT); clear TT b; (try simp only [Act.put, List.getElem_toArray, List.getElem_cons_succ, List.getElem_cons_zero, List.setIfInBounds_toArray, List.set_cons_zero, List.set_cons_succ]); refine hK _ _ T ?_; clear hK K)
            refine wpPlan_op (by rfl) (by kernel_rfl) (fun K hK => ?_) wpPlan_stop
            (go_simp; refine (C.out _ hbn g14 _ T c140 c141).mono ?_; rintro e X ⟨v15, rfl, O15, b⟩; (try replace c60 := cell_up c60 b); (try replace c61 := cell_up c61 b); (try replace c140 := cell_up c140 b); (try replace c141 := cell_up c141 b); (try replace F7 := SliceOf.up F7 b); (try replace F15 := SliceOf.up F15 b); (have TT := T.trans (b.mono T.size)); clear T; (have T := TT); clear TT b; (have F15 := Ints.ofOwn O15 (rot_i64 H.i64 _)); clear O15; (try simp only [Act.put, List.getElem_toArray, List.getElem_cons_succ, List.getElem_cons_zero, List.setIfInBounds_toArray, List.set_cons_zero, List.set_cons_succ]); refine hK _ _ T ?_; clear hK K)
            refine wpPlan_op (by rfl) (by kernel_rfl) (fun K hK => ?_) wpPlan_stop
            (go_simp; refine (D.out _ _ _ F7 F15).mono ?_; rintro e w' ⟨rfl, rfl⟩; (try simp only [Act.put, List.getElem_toArray, List.getElem_cons_succ, List.getElem_cons_zero, List.setIfInBounds_toArray, List.set_cons_zero, List.set_cons_succ]); refine hK _ _ T ?_; clear hK K)
            (apply wpPlan_soft; (focus (intro K hK; (conv => arg 4; (simp only [pick, List.filterMap_cons, List.filterMap_nil, List.getElem?_toArray, List.getElem?_cons_succ, List.getElem?_cons_zero])); go_wp2; exact only_mk hK)); (focus ((simp only [pick, List.filterMap_cons, List.filterMap_nil, List.getElem?_toArray, List.getElem?_cons_succ, List.getElem?_cons_zero]); (((try simp only [sides, hasSide, side, lowV, intV, slV, ptrV, Act.eval, Region.wanted, yielded_eq]); go_simp) <;> (try omega)))))
            (refine wpPlan_end ?_)
            go_wp2
            go_roundw
            case rel => exact ⟨_, k + 1, by omega, by go_num, rfl, hst.out, hb.out.trans (((Below.refl wr.heap.size wr).drew.trans T).mono hb.out.size)⟩
            case measure => simp [intOf]; omega
          · refine wpPlan_op (by rfl) (by kernel_rfl) (fun K hK => ?_) wpPlan_stop
            (apply wp_rows2 (.tmp 28) (.tmp 31); (focus rfl); (focus rfl); (focus rfl); intro g14 X b c140 c141; (have S := b.size); (try replace c60 := cell_up c60 b); (try replace c61 := cell_up c61 b); (try replace c140 := cell_up c140 b); (try replace c141 := cell_up c141 b); (try replace F7 := SliceOf.up F7 b); (try replace F15 := SliceOf.up F15 b); (have TT := T.trans (b.mono T.size)); clear T; (have T := TT); clear TT b; (try simp only [Act.put, List.getElem_toArray, List.getElem_cons_succ, List.getElem_cons_zero, List.setIfInBounds_toArray, List.set_cons_zero, List.set_cons_succ]); refine hK _ _ T ?_; clear hK K)
            refine wpPlan_op (by rfl) (by kernel_rfl) (fun K hK => ?_) wpPlan_stop
            (go_simp; refine (C.out k hlt g6 _ T c60 c61).mono ?_; rintro e X ⟨v7, rfl, O7, b⟩; (try replace c60 := cell_up c60 b); (try replace c61 := cell_up c61 b); (try replace c140 := cell_up c140 b); (try replace c141 := cell_up c141 b); (try replace F7 := SliceOf.up F7 b); (try replace F15 := SliceOf.up F15 b); (have TT := T.trans (b.mono T.size)); clear T; (have T := TT); clear TT b; (have F7 := Ints.ofOwn O7 (rot_i64 H.i64 k)); clear O7; (try simp only [Act.put, List.getElem_toArray, List.getElem_cons_succ, List.getElem_cons_zero, List.setIfInBounds_toArray, List.set_cons_zero, List.set_cons_succ]); refine hK _ _ T ?_; clear hK K)
            refine wpPlan_op (by rfl) (by kernel_rfl) (fun K hK => ?_) wpPlan_stop
            (go_simp; refine (C.out _ hbn g14 _ T c140 c141).mono ?_; rintro e X ⟨v15, rfl, O15, b⟩; (try replace c60 := cell_up c60 b); (try replace c61 := cell_up c61 b); (try replace c140 := cell_up c140 b); (try replace c141 := cell_up c141 b); (try replace F7 := SliceOf.up F7 b); (try replace F15 := SliceOf.up F15 b); (have TT := T.trans (b.mono T.size)); clear T; (have T := TT); clear TT b; (have F15 := Ints.ofOwn O15 (rot_i64 H.i64 _)); clear O15; (try simp only [Act.put, List.getElem_toArray, List.getElem_cons_succ, List.getElem_cons_zero, List.setIfInBounds_toArray, List.set_cons_zero, List.set_cons_succ]); refine hK _ _ T ?_; clear hK K)
            refine wpPlan_op (by rfl) (by kernel_rfl) (fun K hK => ?_) wpPlan_stop
            (go_simp; refine (D.out _ _ _ F7 F15).mono ?_; rintro e w' ⟨rfl, rfl⟩; (try simp only [Act.put, List.getElem_toArray, List.getElem_cons_succ, List.getElem_cons_zero, List.setIfInBounds_toArray, List.set_cons_zero, List.set_cons_succ]); refine hK _ _ T ?_; clear hK K)
            (apply wpPlan_soft; (focus (intro K hK; (conv => arg 4; (simp only [pick, List.filterMap_cons, List.filterMap_nil, List.getElem?_toArray, List.getElem?_cons_succ, List.getElem?_cons_zero])); go_wp2; exact only_mk hK)); (focus ((simp only [pick, List.filterMap_cons, List.filterMap_nil, List.getElem?_toArray, List.getElem?_cons_succ, List.getElem?_cons_zero]); (((try simp only [sides, hasSide, side, lowV, intV, slV, ptrV, Act.eval, Region.wanted, yielded_eq]); go_simp) <;> (try omega)))))
            (refine wpPlan_end ?_)
            go_wp2
            go_roundw
            case rel => exact ⟨_, k + 1, by omega, by go_num, rfl, hst.out, hb.out.trans (((Below.refl wr.heap.size wr).drew.trans T).mono hb.out.size)⟩
            case measure => simp [intOf]; omega
        · refine wpPlan_op (by rfl) (by kernel_rfl) (fun K hK => ?_) wpPlan_stop
          (apply wp_rows2 (.tmp 28) (.tmp 31); (focus rfl); (focus rfl); (focus rfl); intro g14 X b c140 c141; (have S := b.size); (try replace c60 := cell_up c60 b); (try replace c61 := cell_up c61 b); (try replace c140 := cell_up c140 b); (try replace c141 := cell_up c141 b); (try replace F7 := SliceOf.up F7 b); (try replace F15 := SliceOf.up F15 b); (have TT := T.trans (b.mono T.size)); clear T; (have T := TT); clear TT b; (try simp only [Act.put, List.getElem_toArray, List.getElem_cons_succ, List.getElem_cons_zero, List.setIfInBounds_toArray, List.set_cons_zero, List.set_cons_succ]); refine hK _ _ T ?_; clear hK K)
          refine wpPlan_op (by rfl) (by kernel_rfl) (fun K hK => ?_) wpPlan_stop
          (apply wp_rows2 (.tmp 20) (.tmp 23); (focus rfl); (focus rfl); (focus rfl); intro g6 X b c60 c61; (have S := b.size); (try replace c60 := cell_up c60 b); (try replace c61 := cell_up c61 b); (try replace c140 := cell_up c140 b); (try replace c141 := cell_up c141 b); (try replace F7 := SliceOf.up F7 b); (try replace F15 := SliceOf.up F15 b); (have TT := T.trans (b.mono T.size)); clear T; (have T := TT); clear TT b; (try simp only [Act.put, List.getElem_toArray, List.getElem_cons_succ, List.getElem_cons_zero, List.setIfInBounds_toArray, List.set_cons_zero, List.set_cons_succ]); refine hK _ _ T ?_; clear hK K)
          refine wpPlan_op (by rfl) (by kernel_rfl) (fun K hK => ?_) wpPlan_stop
          (go_simp; refine (C.out k hlt g6 _ T c60 c61).mono ?_; rintro e X ⟨v7, rfl, O7, b⟩; (try replace c60 := cell_up c60 b); (try replace c61 := cell_up c61 b); (try replace c140 := cell_up c140 b); (try replace c141 := cell_up c141 b); (try replace F7 := SliceOf.up F7 b); (try replace F15 := SliceOf.up F15 b); (have TT := T.trans (b.mono T.size)); clear T; (have T := TT); clear TT b; (have F7 := Ints.ofOwn O7 (rot_i64 H.i64 k)); clear O7; (try simp only [Act.put, List.getElem_toArray, List.getElem_cons_succ, List.getElem_cons_zero, List.setIfInBounds_toArray, List.set_cons_zero, List.set_cons_succ]); refine hK _ _ T ?_; clear hK K)
          refine wpPlan_op (by rfl) (by kernel_rfl) (fun K hK => ?_) wpPlan_stop
          (go_simp; refine (C.out _ hbn g14 _ T c140 c141).mono ?_; rintro e X ⟨v15, rfl, O15, b⟩; (try replace c60 := cell_up c60 b); (try replace c61 := cell_up c61 b); (try replace c140 := cell_up c140 b); (try replace c141 := cell_up c141 b); (try replace F7 := SliceOf.up F7 b); (try replace F15 := SliceOf.up F15 b); (have TT := T.trans (b.mono T.size)); clear T; (have T := TT); clear TT b; (have F15 := Ints.ofOwn O15 (rot_i64 H.i64 _)); clear O15; (try simp only [Act.put, List.getElem_toArray, List.getElem_cons_succ, List.getElem_cons_zero, List.setIfInBounds_toArray, List.set_cons_zero, List.set_cons_succ]); refine hK _ _ T ?_; clear hK K)
          refine wpPlan_op (by rfl) (by kernel_rfl) (fun K hK => ?_) wpPlan_stop
          (go_simp; refine (D.out _ _ _ F7 F15).mono ?_; rintro e w' ⟨rfl, rfl⟩; (try simp only [Act.put, List.getElem_toArray, List.getElem_cons_succ, List.getElem_cons_zero, List.setIfInBounds_toArray, List.set_cons_zero, List.set_cons_succ]); refine hK _ _ T ?_; clear hK K)
          (apply wpPlan_soft; (focus (intro K hK; (conv => arg 4; (simp only [pick, List.filterMap_cons, List.filterMap_nil, List.getElem?_toArray, List.getElem?_cons_succ, List.getElem?_cons_zero])); go_wp2; exact only_mk hK)); (focus ((simp only [pick, List.filterMap_cons, List.filterMap_nil, List.getElem?_toArray, List.getElem?_cons_succ, List.getElem?_cons_zero]); (((try simp only [sides, hasSide, side, lowV, intV, slV, ptrV, Act.eval, Region.wanted, yielded_eq]); go_simp) <;> (try omega)))))
          (refine wpPlan_end ?_)
          go_wp2
          go_roundw
          case rel => exact ⟨_, k + 1, by omega, by go_num, rfl, hst.out, hb.out.trans (((Below.refl wr.heap.size wr).drew.trans T).mono hb.out.size)⟩
          case measure => simp [intOf]; omega
      · replace hst : Hid (turnTo (rotLt l) (k + 1) = q) := by rw [if_neg (by simpa using hc)] at hst; exact Lib.hid hst
        go_wp2
        refine wp_region_plan (.soft [0, 1, 2, 3, 4, 5, 8, 9, 10, 11, 12, 13] (.alt 6 (.alt 7 (.alt 14 (.alt 15 (.alt 16 (.soft [17] .done) .stop) .stop) .stop) (.alt 14 (.alt 7 (.alt 15 (.alt 16 (.soft [17] .done) .stop) .stop) .stop) .stop)) (.alt 14 (.alt 6 (.alt 7 (.alt 15 (.alt 16 (.soft [17] .done) .stop) .stop) .stop) .stop) .stop))) wr.heap.size (by kernel_rfl) (by kernel_rfl) (by kernel_rfl) ?_
        have T : Below wr.heap.size wr.drew wr.drew := Below.refl _ _
        (apply wpPlan_soft; (focus (intro K hK; (conv => arg 4; (simp only [pick, List.filterMap_cons, List.filterMap_nil, List.getElem?_toArray, List.getElem?_cons_succ, List.getElem?_cons_zero])); go_wp2; exact only_mk hK)); (focus ((simp only [pick, List.filterMap_cons, List.filterMap_nil, List.getElem?_toArray, List.getElem?_cons_succ, List.getElem?_cons_zero]); (((try simp only [sides, hasSide, side, lowV, intV, slV, ptrV, Act.eval, Region.wanted, yielded_eq]); go_simp) <;> (try omega)))))
        refine wpPlan_op (by rfl) (by kernel_rfl) (fun K hK => ?_) ?_
        · (apply wp_rows2 (.tmp 20) (.tmp 23); (focus rfl); (focus rfl); (focus rfl); intro g6 X b c60 c61; (have S := b.size); (try replace c60 := cell_up c60 b); (try replace c61 := cell_up c61 b); (try replace c140 := cell_up c140 b); (try replace c141 := cell_up c141 b); (try replace F7 := SliceOf.up F7 b); (try replace F15 := SliceOf.up F15 b); (have TT := T.trans (b.mono T.size)); clear T; (have T := TT); clear TT b; (try simp only [Act.put, List.getElem_toArray, List.getElem_cons_succ, List.getElem_cons_zero, List.setIfInBounds_toArray, List.set_cons_zero, List.set_cons_succ]); refine hK _ _ T ?_; clear hK K)
          refine wpPlan_op (by rfl) (by kernel_rfl) (fun K hK => ?_) ?_
          · (go_simp; refine (C.out k hlt g6 _ T c60 c61).mono ?_; rintro e X ⟨v7, rfl, O7, b⟩; (try replace c60 := cell_up c60 b); (try replace c61 := cell_up c61 b); (try replace c140 := cell_up c140 b); (try replace c141 := cell_up c141 b); (try replace F7 := SliceOf.up F7 b); (try replace F15 := SliceOf.up F15 b); (have TT := T.trans (b.mono T.size)); clear T; (have T := TT); clear TT b; (have F7 := Ints.ofOwn O7 (rot_i64 H.i64 k)); clear O7; (try simp only [Act.put, List.getElem_toArray, List.getElem_cons_succ, List.getElem_cons_zero, List.setIfInBounds_toArray, List.set_cons_zero, List.set_cons_succ]); refine hK _ _ T ?_; clear hK K)
            refine wpPlan_op (by rfl) (by kernel_rfl) (fun K hK => ?_) wpPlan_stop
            (apply wp_rows2 (.tmp 28) (.tmp 31); (focus rfl); (focus rfl); (focus rfl); intro g14 X b c140 c141; (have S := b.size); (try replace c60 := cell_up c60 b); (try replace c61 := cell_up c61 b); (try replace c140 := cell_up c140 b); (try replace c141 := cell_up c141 b); (try replace F7 := SliceOf.up F7 b); (try replace F15 := SliceOf.up F15 b); (have TT := T.trans (b.mono T.size)); clear T; (have T := TT); clear TT b; (try simp only [Act.put, List.getElem_toArray, List.getElem_cons_succ, List.getElem_cons_zero, List.setIfInBounds_toArray, List.set_cons_zero, List.set_cons_succ]); refine hK _ _ T ?_; clear hK K)
            refine wpPlan_op (by rfl) (by kernel_rfl) (fun K hK => ?_) wpPlan_stop
            (go_simp; refine (C.out _ hbn g14 _ T c140 c141).mono ?_; rintro e X ⟨v15, rfl, O15, b⟩; (try replace c60 := cell_up c60 b); (try replace c61 := cell_up c61 b); (try replace c140 := cell_up c140 b); (try replace c141 := cell_up c141 b); (try replace F7 := SliceOf.up F7 b); (try replace F15 := SliceOf.up F15 b); (have TT := T.trans (b.mono T.size)); clear T; (have T := TT); clear TT b; (have F15 := Ints.ofOwn O15 (rot_i64 H.i64 _)); clear O15; (try simp only [Act.put, List.getElem_toArray, List.getElem_cons_succ, List.getElem_cons_zero, List.setIfInBounds_toArray, List.set_cons_zero, List.set_cons_succ]); refine hK _ _ T ?_; clear hK K)
            refine wpPlan_op (by rfl) (by kernel_rfl) (fun K hK => ?_) wpPlan_stop
            (go_simp; refine (D.out _ _ _ F7 F15).mono ?_; rintro e w' ⟨rfl, rfl⟩; (try simp only [Act.put, List.getElem_toArray, List.getElem_cons_succ, List.getElem_cons_zero, List.setIfInBounds_toArray, List.set_cons_zero, List.set_cons_succ]); refine hK _ _ T ?_; clear hK K)
            (apply wpPlan_soft; (focus (intro K hK; (conv => arg 4; (simp only [pick, List.filterMap_cons, List.filterMap_nil, List.getElem?_toArray, List.getElem?_cons_succ, List.getElem?_cons_zero])); go_wp2; exact only_mk hK)); (focus ((simp only [pick, List.filterMap_cons, List.filterMap_nil, List.getElem?_toArray, List.getElem?_cons_succ, List.getElem?_cons_zero]); (((try simp only [sides, hasSide, side, lowV, intV, slV, ptrV, Act.eval, Region.wanted, yielded_eq]); go_simp) <;> (try omega)))))
            (refine wpPlan_end ?_)
            go_wp2
            go_roundw
            case rel => exact ⟨_, k + 1, by omega, by go_num, rfl, hst.out, hb.out.trans (((Below.refl wr.heap.size wr).drew.trans T).mono hb.out.size)⟩
            case measure => simp [intOf]; omega
          · refine wpPlan_op (by rfl) (by kernel_rfl) (fun K hK => ?_) wpPlan_stop
            (apply wp_rows2 (.tmp 28) (.tmp 31); (focus rfl); (focus rfl); (focus rfl); intro g14 X b c140 c141; (have S := b.size); (try replace c60 := cell_up c60 b); (try replace c61 := cell_up c61 b); (try replace c140 := cell_up c140 b); (try replace c141 := cell_up c141 b); (try replace F7 := SliceOf.up F7 b); (try replace F15 := SliceOf.up F15 b); (have TT := T.trans (b.mono T.size)); clear T; (have T := TT); clear TT b; (try simp only [Act.put, List.getElem_toArray, List.getElem_cons_succ, List.getElem_cons_zero, List.setIfInBounds_toArray, List.set_cons_zero, List.set_cons_succ]); refine hK _ _ T ?_; clear hK K)
            refine wpPlan_op (by rfl) (by kernel_rfl) (fun K hK => ?_) wpPlan_stop
            (go_simp; refine (C.out k hlt g6 _ T c60 c61).mono ?_; rintro e X ⟨v7, rfl, O7, b⟩; (try replace c60 := cell_up c60 b); (try replace c61 := cell_up c61 b); (try replace c140 := cell_up c140 b); (try replace c141 := cell_up c141 b); (try replace F7 := SliceOf.up F7 b); (try replace F15 := SliceOf.up F15 b); (have TT := T.trans (b.mono T.size)); clear T; (have T := TT); clear TT b; (have F7 := Ints.ofOwn O7 (rot_i64 H.i64 k)); clear O7; (try simp only [Act.put, List.getElem_toArray, List.getElem_cons_succ, List.getElem_cons_zero, List.setIfInBounds_toArray, List.set_cons_zero, List.set_cons_succ]); refine hK _ _ T ?_; clear hK K)
            refine wpPlan_op (by rfl) (by kernel_rfl) (fun K hK => ?_) wpPlan_stop
            (go_simp; refine (C.out _ hbn g14 _ T c140 c141).mono ?_; rintro e X ⟨v15, rfl, O15, b⟩; (try replace c60 := cell_up c60 b); (try replace c61 := cell_up c61 b); (try replace c140 := cell_up c140 b); (try replace c141 := cell_up c141 b); (try replace F7 := SliceOf.up F7 b); (try replace F15 := SliceOf.up F15 b); (have TT := T.trans (b.mono T.size)); clear T; (have T := TT); clear TT b; (have F15 := Ints.ofOwn O15 (rot_i64 H.i64 _)); clear O15; (try simp only [Act.put, List.getElem_toArray, List.getElem_cons_succ, List.getElem_cons_zero, List.setIfInBounds_toArray, List.set_cons_zero, List.set_cons_succ]); refine hK _ _ T ?_; clear hK K)
            refine wpPlan_op (by rfl) (by kernel_rfl) (fun K hK => ?_) wpPlan_stop
            (go_simp; refine (D.out _ _ _ F7 F15).mono ?_; rintro e w' ⟨rfl, rfl⟩; (try simp only [Act.put, List.getElem_toArray, List.getElem_cons_succ, List.getElem_cons_zero, List.setIfInBounds_toArray, List.set_cons_zero, List.set_cons_succ]); refine hK _ _ T ?_; clear hK K)
            (apply wpPlan_soft; (focus (intro K hK; (conv => arg 4; (simp only [pick, List.filterMap_cons, List.filterMap_nil, List.getElem?_toArray, List.getElem?_cons_succ, List.getElem?_cons_zero])); go_wp2; exact only_mk hK)); (focus ((simp only [pick, List.filterMap_cons, List.filterMap_nil, List.getElem?_toArray, List.getElem?_cons_succ, List.getElem?_cons_zero]); (((try simp only [sides, hasSide, side, lowV, intV, slV, ptrV, Act.eval, Region.wanted, yielded_eq]); go_simp) <;> (try omega)))))
            (refine wpPlan_end ?_)
            go_wp2
            go_roundw
            case rel => exact ⟨_, k + 1, by omega, by go_num, rfl, hst.out, hb.out.trans (((Below.refl wr.heap.size wr).drew.trans T).mono hb.out.size)⟩
            case measure => simp [intOf]; omega
        · refine wpPlan_op (by rfl) (by kernel_rfl) (fun K hK => ?_) wpPlan_stop
          (apply wp_rows2 (.tmp 28) (.tmp 31); (focus rfl); (focus rfl); (focus rfl); intro g14 X b c140 c141; (have S := b.size); (try replace c60 := cell_up c60 b); (try replace c61 := cell_up c61 b); (try replace c140 := cell_up c140 b); (try replace c141 := cell_up c141 b); (try replace F7 := SliceOf.up F7 b); (try replace F15 := SliceOf.up F15 b); (have TT := T.trans (b.mono T.size)); clear T; (have T := TT); clear TT b; (try simp only [Act.put, List.getElem_toArray, List.getElem_cons_succ, List.getElem_cons_zero, List.setIfInBounds_toArray, List.set_cons_zero, List.set_cons_succ]); refine hK _ _ T ?_; clear hK K)
          refine wpPlan_op (by rfl) (by kernel_rfl) (fun K hK => ?_) wpPlan_stop
          (apply wp_rows2 (.tmp 20) (.tmp 23); (focus rfl); (focus rfl); (focus rfl); intro g6 X b c60 c61; (have S := b.size); (try replace c60 := cell_up c60 b); (try replace c61 := cell_up c61 b); (try replace c140 := cell_up c140 b); (try replace c141 := cell_up c141 b); (try replace F7 := SliceOf.up F7 b); (try replace F15 := SliceOf.up F15 b); (have TT := T.trans (b.mono T.size)); clear T; (have T := TT); clear TT b; (try simp only [Act.put, List.getElem_toArray, List.getElem_cons_succ, List.getElem_cons_zero, List.setIfInBounds_toArray, List.set_cons_zero, List.set_cons_succ]); refine hK _ _ T ?_; clear hK K)
          refine wpPlan_op (by rfl) (by kernel_rfl) (fun K hK => ?_) wpPlan_stop
          (go_simp; refine (C.out k hlt g6 _ T c60 c61).mono ?_; rintro e X ⟨v7, rfl, O7, b⟩; (try replace c60 := cell_up c60 b); (try replace c61 := cell_up c61 b); (try replace c140 := cell_up c140 b); (try replace c141 := cell_up c141 b); (try replace F7 := SliceOf.up F7 b); (try replace F15 := SliceOf.up F15 b); (have TT := T.trans (b.mono T.size)); clear T; (have T := TT); clear TT b; (have F7 := Ints.ofOwn O7 (rot_i64 H.i64 k)); clear O7; (try simp only [Act.put, List.getElem_toArray, List.getElem_cons_succ, List.getElem_cons_zero, List.setIfInBounds_toArray, List.set_cons_zero, List.set_cons_succ]); refine hK _ _ T ?_; clear hK K)
          refine wpPlan_op (by rfl) (by kernel_rfl) (fun K hK => ?_) wpPlan_stop
          (go_simp; refine (C.out _ hbn g14 _ T c140 c141).mono ?_; rintro e X ⟨v15, rfl, O15, b⟩; (try replace c60 := cell_up c60 b); (try replace c61 := cell_up c61 b); (try replace c140 := cell_up c140 b); (try replace c141 := cell_up c141 b); (try replace F7 := SliceOf.up F7 b); (try replace F15 := SliceOf.up F15 b); (have TT := T.trans (b.mono T.size)); clear T; (have T := TT); clear TT b; (have F15 := Ints.ofOwn O15 (rot_i64 H.i64 _)); clear O15; (try simp only [Act.put, List.getElem_toArray, List.getElem_cons_succ, List.getElem_cons_zero, List.setIfInBounds_toArray, List.set_cons_zero, List.set_cons_succ]); refine hK _ _ T ?_; clear hK K)
          refine wpPlan_op (by rfl) (by kernel_rfl) (fun K hK => ?_) wpPlan_stop
          (go_simp; refine (D.out _ _ _ F7 F15).mono ?_; rintro e w' ⟨rfl, rfl⟩; (try simp only [Act.put, List.getElem_toArray, List.getElem_cons_succ, List.getElem_cons_zero, List.setIfInBounds_toArray, List.set_cons_zero, List.set_cons_succ]); refine hK _ _ T ?_; clear hK K)
          (apply wpPlan_soft; (focus (intro K hK; (conv => arg 4; (simp only [pick, List.filterMap_cons, List.filterMap_nil, List.getElem?_toArray, List.getElem?_cons_succ, List.getElem?_cons_zero])); go_wp2; exact only_mk hK)); (focus ((simp only [pick, List.filterMap_cons, List.filterMap_nil, List.getElem?_toArray, List.getElem?_cons_succ, List.getElem?_cons_zero]); (((try simp only [sides, hasSide, side, lowV, intV, slV, ptrV, Act.eval, Region.wanted, yielded_eq]); go_simp) <;> (try omega)))))
          (refine wpPlan_end ?_)
          go_wp2
          go_roundw
          case rel => exact ⟨_, k + 1, by omega, by go_num, rfl, hst.out, hb.out.trans (((Below.refl wr.heap.size wr).drew.trans T).mono hb.out.size)⟩
          case measure => simp [intOf]; omega
    · have e : k = n := by omega
      subst e
      have hr : q = turnS l := by rw [hT.out, hq]
      subst hr
      clear hq
      go_wp2
      go_ret2
      exact ⟨rfl, hb⟩
end Go.Proofs.Ytfpdnigihjmohaa
