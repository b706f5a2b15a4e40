/- The walks of package muller: the state behind a word; whether a number stands in a row. No condition. -/
import Derived.Test.YtfpdnigihjmohaaFunc
import Derived.Test.YtfpdnigihjmohaaWordB
namespace Go.Proofs.Ytfpdnigihjmohaa
open Go.RowKit
set_option linter.unusedSimpArgs false
set_option linter.unusedVariables false
set_option maxRecDepth 100000
attribute [local irreducible] wpList

/-- rows of k numbers each, all of them numbers of rows -/
def OkN (N : List (List Int)) (k : Int) : Prop := ∀ r ∈ N, (r.length : Int) = k ∧ ∀ x ∈ r, 0 ≤ x ∧ x < N.length
def nextS (N : List (List Int)) (q : Nat) (a : Int) : Nat := ((N.getD q []).getD a.toNat 0).toNat
def afterS (N : List (List Int)) (q : Nat) (w : List Int) : Nat := w.foldl (nextS N) q
theorem getD_mem {α : Type} {l : List α} {k : Nat} {d : α} (h : k < l.length) : l.getD k d ∈ l := by simp [h]
theorem next_cell {N : List (List Int)} {k : Int} (h : OkN N k) {q : Nat} (hq : q < N.length) {a : Int} (h0 : 0 ≤ a) (hk : a < k) : a.toNat < (N.getD q []).length ∧ (N.getD q []).getD a.toNat 0 = nextS N q a ∧ nextS N q a < N.length := by
  obtain ⟨h1, h2⟩ := h _ (getD_mem (d := []) hq)
  have h3 : a.toNat < (N.getD q []).length := by omega
  have := h2 _ (getD_mem (d := 0) h3)
  unfold nextS
  exact ⟨h3, by omega, by omega⟩
theorem after_lt {N : List (List Int)} {k : Int} (h : OkN N k) : ∀ (w : List Int) (q : Nat), q < N.length → (∀ a ∈ w, 0 ≤ a ∧ a < k) → afterS N q w < N.length
  | [], q, hq, _ => hq
  | a :: w, q, hq, hw => after_lt h w _ (next_cell h hq (hw a (by simp)).1 (hw a (by simp)).2).2.2 (fun b hb => hw b (by simp [hb]))
theorem take_next {w : List Int} {k : Nat} (h : k < w.length) {α : Type} (f : α → Int → α) (q : α) : (w.take (k + 1)).foldl f q = f ((w.take k).foldl f q) (w.getD k 0) := by
  rw [List.take_succ_eq_append_getElem h, List.foldl_append]
  simp [h]

set_option maxHeartbeats 1000000 in
theorem after_any (v1 v2 v3 : Value) (x1 x2 : Value) (N : List (List Int)) (k : Int) (q : Nat) (l : List Int) (w : World) (hx1 : x1.oneCell' = true) (hx2 : x2.oneCell' = true) (hv2 : v2.oneCell' = true) (h1 : Rows2 w v1 N) (h3 : Ints w v3 l) (hN : OkN N k) (hq : q < N.length) (hl : ∀ a ∈ l, 0 ≤ a ∧ a < k) (hn : N.length ≤ 4000) :
    Calls Try.prog 50 #[.agg #[x1, x2, v1, v2], .int .i64 q, v3] w fun e w' => e = .returned (.int .i64 (afterS N q l)) ∧ Below w.heap.size w w' := by
  obtain ⟨ao1, n1, cap1, rfl, H1, L1, hc1, hm1⟩ := h1.shape
  obtain ⟨ao3, n3, cap3, rfl, H3, L3, hc3, hm3⟩ := h3.shape
  have hA : ∀ k, k ≤ n3 → afterS N q (l.take k) < N.length := fun k _ => after_lt hN _ _ hq (fun a ha => hl a (List.mem_of_mem_take ha))
  have hA := Lib.hid hA
  have hend := Lib.hid (show l.take n3 = l by rw [L3.out, List.take_length])
  clear h1 h3
  go_enter Try.func50, Try.ntmps50
  go_wp2
  have hb0 : Below w.heap.size w (w.alloc (.cells #[x1, x2, .slice ao1 n1 cap1, v2] 80)) := by (repeat' (first | exact Below.refl _ _ | assumption | (refine Below.alloc ?_ ?_ _) | (refine Below.drew ?_) | (refine Below.setCell ?_ ?_ _) | (refine Below.trans ?_ (Below.mono (by assumption) ?_)) | omega | (simp; done) | (simp; omega)))
  have H1 := H1.up hb0
  have H3 := H3.up hb0
  go_loop [1, 11] (fun v1 v11 => ∃ k : Nat, k ≤ n3 ∧ v11 = .int .i64 k ∧ v1 = .int .i64 (afterS N q (l.take k))) (fun _ v11 => n3 - (intOf v11).toNat)
  case atStart => exact ⟨0, Nat.zero_le _, rfl, rfl⟩
  case round =>
    obtain ⟨i, hi, rfl, rfl⟩ := hrel
    by_cases hlt : i < n3
    · have hqi := hA.out i hi
      obtain ⟨b3, o3, rfl, hc3, hb3, hw3, hw3'⟩ := H3.int hlt
      have hst := Lib.hid (take_next (w := l) (k := i) (by rw [← L3.out]; exact hlt) (nextS N) q)
      have hmem : l.getD i 0 ∈ l := getD_mem (by rw [← L3.out]; exact hlt)
      obtain ⟨hz0, hzk⟩ := hl _ hmem
      have hp : Hid (afterS N q (l.take (i + 1)) = nextS N (afterS N q (l.take i)) (l.getD i 0)) := hst.out
      clear hmem hst
      generalize afterS N q (l.take i) = p at *
      generalize l.getD i 0 = z at *
      obtain ⟨hlen, hcell, hlt2⟩ := next_cell hN hqi hz0 hzk
      obtain ⟨b1, o1, u, rfl, hc1, hb1, hu⟩ := H1.row (k := p) (by rw [L1.out]; exact hqi)
      obtain ⟨ao4, n4, cap4, rfl, H4, L4, hc4, hm4⟩ := hu.shape
      obtain ⟨b4, o4, rfl, hc4, hb4, hw4, hw4'⟩ := H4.int (k := z.toNat) (by rw [L4.out]; exact hlen)
      have hn4 : z.toNat < n4 := by rw [L4.out]; exact hlen
      have hp1 : p < n1 := by rw [L1.out]; exact hqi
      rw [hcell] at hc4
      have hz : ((z.toNat : Nat) : Int) = z := by omega
      obtain ⟨z, rfl⟩ := Int.eq_ofNat_of_zero_le hz0
      simp only [Int.toNat_natCast] at hc4 hn4
      clear hu H4 hlen hcell hw4 hw4' hz0 hzk hw3 hw3' hz
      go_wp2
      go_round
      case rel => exact ⟨i + 1, by omega, by go_num, by rw [hp.out]⟩
      case measure => simp [intOf]; omega
    · have e : i = n3 := by omega
      subst e
      rw [hend.out]
      go_wp2
      go_ret
      exact ⟨rfl, hb0⟩
end Go.Proofs.Ytfpdnigihjmohaa
