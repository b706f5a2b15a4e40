/- Calls into package slices at lists of numbers: Clone, Equal. -/
import Derived.Test.YtfpdnigihjmohaaWordA
namespace Go.Proofs.Ytfpdnigihjmohaa
open Go.RowKit
set_option linter.unusedSimpArgs false
set_option linter.unusedVariables false
set_option maxRecDepth 100000

theorem infoInt : (Try.prog.info? 3).map (fun i => (i.zero, i.size, i.bytes)) = some (some (.int .i64 0), 1, 8) := by kernel_rfl

/-- it hands back a new slice that reads as l -/
def NewInts (w : World) (l : List Int) (e : Ending) (w' : World) : Prop := ∃ v', e = .returned v' ∧ w'.ownsRow w.heap.size 3 1 v' l.length (ints l) ∧ Below w.heap.size w w'

theorem SliceOf.nilLen {α : Type} {s : Nat} {R : World → Value → α → Prop} {w : World} {l : List α} {n cap : Nat} (h : SliceOf s R w (.slice none n cap) l) : l = [] ∧ n = 0 ∧ cap = 0 := by
  obtain ⟨ao, n', cap', hv, hn, h1, h2, h3, _⟩ := h
  cases hv
  have := h3 rfl
  subst this
  have : l.length = 0 := by omega
  exact ⟨List.eq_nil_of_length_eq_zero this, by omega, rfl⟩

set_option maxHeartbeats 400000 in
theorem clone_any (v : Value) (l : List Int) (w : World) (h : Ints w v l) (hlen : l.length * 8 ≤ 140737488355328) :
    Calls Try.prog 47 #[v] w (NewInts w l) := by
  obtain ⟨ao, n, cap, rfl, H, L, hc, hm⟩ := h.shape
  have heq := Lib.run_eql_slice_nil (P := Try.prog) w 22 3 ao n cap 0 0 Try.underlying22
  cases ao with
  | none =>
    obtain ⟨rfl, rfl, rfl⟩ := H.nilLen
    go_enter Try.func47, Try.ntmps47
    go_wp2
    go_ret
    exact ⟨_, rfl, World.ownsRow_nil _ _ _ _, Below.refl _ _⟩
  | some ad =>
    have L' := L.out
    subst L'
    clear L
    go_enter Try.func47, Try.ntmps47
    go_wp2_with (at_builtin; refine wpList_append_row rfl _ _ 22 rfl w.heap.size 3 (.int .i64 0) 1 8 Try.underlying22 infoInt rfl (by decide) _ 0 [] rfl ?c1 _ l.length (ints l) rfl ?c2 ?c3 ?c4 ?c5 ?_)
    case c1 => exact World.ownsRow_made w #[] 0 (Nat.le_refl _) (by simp [maxLen]) (by simp)
    case c2 => exact (h.up (by (repeat' (first | exact Below.refl _ _ | assumption | (refine Below.alloc ?_ ?_ _) | (refine Below.drew ?_) | (refine Below.setCell ?_ ?_ _) | (refine Below.trans ?_ (Below.mono (by assumption) ?_)) | omega | (simp; done) | (simp; omega))))).src
    case c3 => simp only [maxLen]; omega
    case c4 => omega
    case c5 => simp
    intro v' w' hown hgrow _
    try simp only [Nat.zero_add, List.nil_append] at hown
    have hb : Below w.heap.size w w' := Below.grown (a := w) (w := w.alloc (.cells #[] 3)) (by (repeat' (first | exact Below.refl _ _ | assumption | (refine Below.alloc ?_ ?_ _) | (refine Below.drew ?_) | (refine Below.setCell ?_ ?_ _) | (refine Below.trans ?_ (Below.mono (by assumption) ?_)) | omega | (simp; done) | (simp; omega)))) hgrow (by simp) (by intro k hk; simp [Value.ownBlock] at hk; omega)
    clear hgrow
    go_wp2
    go_ret
    exact ⟨_, rfl, hown, hb⟩

def eqS (a b : List Int) : Bool := a == b
theorem eqS_len {a b : List Int} (h : a.length ≠ b.length) : eqS a b = false := by
  unfold eqS
  rw [beq_eq_false_iff_ne]
  intro e
  exact h (by rw [e])
theorem eqS_at {a b : List Int} {k : Nat} (hk : k < a.length) (h : a.getD k 0 ≠ b.getD k 0) : eqS a b = false := by
  unfold eqS
  rw [beq_eq_false_iff_ne]
  intro e
  exact h (by rw [e])
theorem eqS_all {a b : List Int} (hl : a.length = b.length) (h : ∀ j, j < a.length → a.getD j 0 = b.getD j 0) : eqS a b = true := by
  unfold eqS
  rw [beq_iff_eq]
  apply List.ext_getElem hl
  intro j h1 h2
  have := h j h1
  simpa [h1, h2] using this

set_option maxHeartbeats 400000 in
theorem equal_any (v1 v2 : Value) (a b : List Int) (w : World) (h1 : Ints w v1 a) (h2 : Ints w v2 b) :
    Calls Try.prog 92 #[v1, v2] w fun e w' => e = .returned (.bool (eqS a b)) ∧ Below w.heap.size w w' := by
  obtain ⟨ao1, n1, cap1, rfl, H1, L1, hc1, hm1⟩ := h1.shape
  obtain ⟨ao2, n2, cap2, rfl, H2, L2, hc2, hm2⟩ := h2.shape
  clear h1 h2
  by_cases hn : n1 = n2
  · subst hn
    go_enter Try.func92, Try.ntmps92
    go_wp2
    go_loopw [13] (fun i wr => ∃ k : Nat, k ≤ n1 ∧ i = .int .i64 k ∧ (∀ j, j < k → a.getD j 0 = b.getD j 0) ∧ Below w.heap.size w wr) (fun i _ => n1 - (intOf i).toNat)
    case atStart => exact ⟨0, Nat.zero_le _, rfl, fun j hj => by omega, Below.refl _ _⟩
    case round =>
      obtain ⟨k, hk, rfl, hg, hb⟩ := hrel
      have hg := Lib.hid hg
      by_cases hlt : k < n1
      · obtain ⟨b1, o1, rfl, hck1, hb1, hw1, hw1'⟩ := (H1.up hb).int hlt
        obtain ⟨b2, o2, rfl, hck2, hb2, hw2, hw2'⟩ := (H2.up hb).int hlt
        generalize hz1 : a.getD k 0 = z1 at *
        generalize hz2 : b.getD k 0 = z2 at *
        have Hz1 := Lib.hid hz1
        have Hz2 := Lib.hid hz2
        clear hz1 hz2
        by_cases hz : z1 = z2
        · have hz' : (z1 != z2) = false := by simpa using hz
          have hz := Lib.hid hz
          go_wp2
          (apply wp_region_soft; (focus kernel_rfl); (focus kernel_rfl); (focus (intro K hK; go_wp2; exact only_mk hK)); (focus ((((try simp only [sides, hasSide, side, lowV, intV, slV, ptrV, Act.eval, Region.wanted, yielded_eq]); go_simp) <;> (try omega)))))
          go_wp2
          go_roundw
          case rel =>
            refine ⟨k + 1, by omega, by go_num, fun j hj => ?_, by (repeat' (first | exact Below.refl _ _ | assumption | (refine Below.alloc ?_ ?_ _) | (refine Below.drew ?_) | (refine Below.setCell ?_ ?_ _) | (refine Below.trans ?_ (Below.mono (by assumption) ?_)) | omega | (simp; done) | (simp; omega)))⟩
            by_cases e : j = k
            · rw [e, Hz1.out, Hz2.out, hz.out]
            · exact hg.out j (by omega)
          case measure => simp [intOf]; omega
        · have hz' : (z1 != z2) = true := by simpa using hz
          have hz := Lib.hid hz
          go_wp2
          (apply wp_region_soft; (focus kernel_rfl); (focus kernel_rfl); (focus (intro K hK; go_wp2; exact only_mk hK)); (focus ((((try simp only [sides, hasSide, side, lowV, intV, slV, ptrV, Act.eval, Region.wanted, yielded_eq]); go_simp) <;> (try omega)))))
          go_wp2
          go_ret
          exact ⟨by rw [eqS_at (k := k) (by rw [← L1.out]; exact hlt) (by rw [Hz1.out, Hz2.out]; exact hz.out)] <;> rfl, by (repeat' (first | exact Below.refl _ _ | assumption | (refine Below.alloc ?_ ?_ _) | (refine Below.drew ?_) | (refine Below.setCell ?_ ?_ _) | (refine Below.trans ?_ (Below.mono (by assumption) ?_)) | omega | (simp; done) | (simp; omega)))⟩
      · go_wp2
        go_ret
        exact ⟨by rw [eqS_all (by rw [← L1.out, ← L2.out]) (fun j hj => hg.out j (by rw [← L1.out] at hj; omega))] <;> rfl, hb⟩
  · have hne : ((n1 : Int) != n2) = true := by simp; omega
    go_enter Try.func92, Try.ntmps92
    go_wp2
    go_ret
    exact ⟨by rw [eqS_len (by rw [← L1.out, ← L2.out]; exact hn)] <;> rfl, Below.refl _ _⟩
set_option maxHeartbeats 400000 in
theorem sameWords_any (v1 v2 : Value) (a b : List Int) (w : World) (h1 : Ints w v1 a) (h2 : Ints w v2 b) :
    Calls Try.prog 19 #[v1, v2] w fun e w' => e = .returned (.bool (eqS a b)) ∧ Below w.heap.size w w' := by
  obtain ⟨ao1, n1, cap1, rfl, H1, L1, hc1, hm1⟩ := h1.shape
  obtain ⟨ao2, n2, cap2, rfl, H2, L2, hc2, hm2⟩ := h2.shape
  clear h1 h2
  by_cases hn : n1 = n2
  · subst hn
    go_enter Try.func19, Try.ntmps19
    go_wp2
    go_loopw [5] (fun i wr => ∃ k : Nat, k ≤ n1 ∧ i = .int .i64 k ∧ (∀ j, j < k → a.getD j 0 = b.getD j 0) ∧ Below w.heap.size w wr) (fun i _ => n1 - (intOf i).toNat)
    case atStart => exact ⟨0, Nat.zero_le _, rfl, fun j hj => by omega, Below.refl _ _⟩
    case round =>
      obtain ⟨k, hk, rfl, hg, hb⟩ := hrel
      have hg := Lib.hid hg
      by_cases hlt : k < n1
      · obtain ⟨b1, o1, rfl, hck1, hb1, hw1, hw1'⟩ := (H1.up hb).int hlt
        obtain ⟨b2, o2, rfl, hck2, hb2, hw2, hw2'⟩ := (H2.up hb).int hlt
        generalize hz1 : a.getD k 0 = z1 at *
        generalize hz2 : b.getD k 0 = z2 at *
        have Hz1 := Lib.hid hz1
        have Hz2 := Lib.hid hz2
        clear hz1 hz2
        by_cases hz : z1 = z2
        · have hz' : (z1 != z2) = false := by simpa using hz
          have hz := Lib.hid hz
          go_wp2
          (apply wp_region_soft; (focus kernel_rfl); (focus kernel_rfl); (focus (intro K hK; go_wp2; exact only_mk hK)); (focus ((((try simp only [sides, hasSide, side, lowV, intV, slV, ptrV, Act.eval, Region.wanted, yielded_eq]); go_simp) <;> (try omega)))))
          go_wp2
          go_roundw
          case rel =>
            refine ⟨k + 1, by omega, by go_num, fun j hj => ?_, by (repeat' (first | exact Below.refl _ _ | assumption | (refine Below.alloc ?_ ?_ _) | (refine Below.drew ?_) | (refine Below.setCell ?_ ?_ _) | (refine Below.trans ?_ (Below.mono (by assumption) ?_)) | omega | (simp; done) | (simp; omega)))⟩
            by_cases e : j = k
            · rw [e, Hz1.out, Hz2.out, hz.out]
            · exact hg.out j (by omega)
          case measure => simp [intOf]; omega
        · have hz' : (z1 != z2) = true := by simpa using hz
          have hz := Lib.hid hz
          go_wp2
          (apply wp_region_soft; (focus kernel_rfl); (focus kernel_rfl); (focus (intro K hK; go_wp2; exact only_mk hK)); (focus ((((try simp only [sides, hasSide, side, lowV, intV, slV, ptrV, Act.eval, Region.wanted, yielded_eq]); go_simp) <;> (try omega)))))
          go_wp2
          go_ret
          exact ⟨by rw [eqS_at (k := k) (by rw [← L1.out]; exact hlt) (by rw [Hz1.out, Hz2.out]; exact hz.out)] <;> rfl, by (repeat' (first | exact Below.refl _ _ | assumption | (refine Below.alloc ?_ ?_ _) | (refine Below.drew ?_) | (refine Below.setCell ?_ ?_ _) | (refine Below.trans ?_ (Below.mono (by assumption) ?_)) | omega | (simp; done) | (simp; omega)))⟩
      · go_wp2
        go_ret
        exact ⟨by rw [eqS_all (by rw [← L1.out, ← L2.out]) (fun j hj => hg.out j (by rw [← L1.out] at hj; omega))] <;> rfl, hb⟩
  · have hne : ((n1 : Int) != n2) = true := by simp; omega
    go_enter Try.func19, Try.ntmps19
    go_wp2
    go_ret
    exact ⟨by rw [eqS_len (by rw [← L1.out, ← L2.out]; exact hn)] <;> rfl, Below.refl _ _⟩
set_option maxHeartbeats 400000 in
theorem alikeWords_any (v1 v2 : Value) (a b : List Int) (w : World) (h1 : Ints w v1 a) (h2 : Ints w v2 b) :
    Calls Try.prog 24 #[v1, v2] w fun e w' => e = .returned (.bool (eqS a b)) ∧ Below w.heap.size w w' := by
  obtain ⟨ao1, n1, cap1, rfl, H1, L1, hc1, hm1⟩ := h1.shape
  obtain ⟨ao2, n2, cap2, rfl, H2, L2, hc2, hm2⟩ := h2.shape
  clear h1 h2
  by_cases hn : n1 = n2
  · subst hn
    go_enter Try.func24, Try.ntmps24
    go_wp2
    go_loopw [5] (fun i wr => ∃ k : Nat, k ≤ n1 ∧ i = .int .i64 k ∧ (∀ j, j < k → a.getD j 0 = b.getD j 0) ∧ Below w.heap.size w wr) (fun i _ => n1 - (intOf i).toNat)
    case atStart => exact ⟨0, Nat.zero_le _, rfl, fun j hj => by omega, Below.refl _ _⟩
    case round =>
      obtain ⟨k, hk, rfl, hg, hb⟩ := hrel
      have hg := Lib.hid hg
      by_cases hlt : k < n1
      · obtain ⟨b1, o1, rfl, hck1, hb1, hw1, hw1'⟩ := (H1.up hb).int hlt
        obtain ⟨b2, o2, rfl, hck2, hb2, hw2, hw2'⟩ := (H2.up hb).int hlt
        generalize hz1 : a.getD k 0 = z1 at *
        generalize hz2 : b.getD k 0 = z2 at *
        have Hz1 := Lib.hid hz1
        have Hz2 := Lib.hid hz2
        clear hz1 hz2
        by_cases hz : z1 = z2
        · have hz' : (z1 != z2) = false := by simpa using hz
          have hz := Lib.hid hz
          go_wp2
          (apply wp_region_soft; (focus kernel_rfl); (focus kernel_rfl); (focus (intro K hK; go_wp2; exact only_mk hK)); (focus ((((try simp only [sides, hasSide, side, lowV, intV, slV, ptrV, Act.eval, Region.wanted, yielded_eq]); go_simp) <;> (try omega)))))
          go_wp2
          go_roundw
          case rel =>
            refine ⟨k + 1, by omega, by go_num, fun j hj => ?_, by (repeat' (first | exact Below.refl _ _ | assumption | (refine Below.alloc ?_ ?_ _) | (refine Below.drew ?_) | (refine Below.setCell ?_ ?_ _) | (refine Below.trans ?_ (Below.mono (by assumption) ?_)) | omega | (simp; done) | (simp; omega)))⟩
            by_cases e : j = k
            · rw [e, Hz1.out, Hz2.out, hz.out]
            · exact hg.out j (by omega)
          case measure => simp [intOf]; omega
        · have hz' : (z1 != z2) = true := by simpa using hz
          have hz := Lib.hid hz
          go_wp2
          (apply wp_region_soft; (focus kernel_rfl); (focus kernel_rfl); (focus (intro K hK; go_wp2; exact only_mk hK)); (focus ((((try simp only [sides, hasSide, side, lowV, intV, slV, ptrV, Act.eval, Region.wanted, yielded_eq]); go_simp) <;> (try omega)))))
          go_wp2
          go_ret
          exact ⟨by rw [eqS_at (k := k) (by rw [← L1.out]; exact hlt) (by rw [Hz1.out, Hz2.out]; exact hz.out)] <;> rfl, by (repeat' (first | exact Below.refl _ _ | assumption | (refine Below.alloc ?_ ?_ _) | (refine Below.drew ?_) | (refine Below.setCell ?_ ?_ _) | (refine Below.trans ?_ (Below.mono (by assumption) ?_)) | omega | (simp; done) | (simp; omega)))⟩
      · go_wp2
        go_ret
        exact ⟨by rw [eqS_all (by rw [← L1.out, ← L2.out]) (fun j hj => hg.out j (by rw [← L1.out] at hj; omega))] <;> rfl, hb⟩
  · have hne : ((n1 : Int) != n2) = true := by simp; omega
    go_enter Try.func24, Try.ntmps24
    go_wp2
    go_ret
    exact ⟨by rw [eqS_len (by rw [← L1.out, ← L2.out]; exact hn)] <;> rfl, Below.refl _ _⟩
end Go.Proofs.Ytfpdnigihjmohaa
