/- The walks of package word: what each call answers. -/
import Derived.Test.YtfpdnigihjmohaaRows
import Derived.Test.YtfpdnigihjmohaaOwn
namespace Go.Proofs.Ytfpdnigihjmohaa
open Go.RowKit
set_option linter.unusedSimpArgs false
set_option linter.unusedVariables false
set_option maxRecDepth 100000

def atS (h l : List Int) (n : Nat) : Int := if n < h.length then h.getD n 0 else l.getD ((n - h.length) % l.length) 0

set_option maxHeartbeats 400000 in
theorem at_any (v1 v2 : Value) (h l : List Int) (n : Nat) (w : World) (h1 : Ints w v1 h) (h2 : Ints w v2 l) (hn : n ≤ 9223372036854775807) (hl : 0 < l.length) :
    Calls Try.prog 48 #[.agg #[v1, v2], .int .i64 n] w fun e w' => e = .returned (.int .i64 (atS h l n)) ∧ Below w.heap.size w w' := by
  obtain ⟨ao1, n1, cap1, rfl, H1, L1, hc1, hm1⟩ := h1.shape
  obtain ⟨ao2, n2, cap2, rfl, H2, L2, hc2, hm2⟩ := h2.shape
  have hS : Hid (atS h l n = if n < n1 then h.getD n 0 else l.getD ((n - n1) % n2) 0) := by rw [L1.out, L2.out]; exact rfl
  by_cases hlt : n < n1
  · obtain ⟨b, o, rfl, hc, hb, hw1, hw2⟩ := H1.int hlt
    generalize h.getD n 0 = z at *
    go_enter Try.func48, Try.ntmps48
    go_wp2
    go_ret
    exact ⟨by rw [hS.out, if_pos hlt]; rfl, (Below.refl _ _).alloc (Nat.le_refl _) _⟩
  · have hp : 0 < n2 := by rw [L2.out]; exact hl
    have hk : (n - n1) % n2 < n2 := Nat.mod_lt _ hp
    have hmod : ((n : Int) - n1) % n2 = ((n - n1) % n2 : Nat) := by rw [Int.natCast_emod, Int.ofNat_sub (by omega)]
    generalize (n - n1) % n2 = m at *
    obtain ⟨b, o, rfl, hc, hb, hw1, hw2⟩ := H2.int hk
    generalize l.getD m 0 = z at *
    go_enter Try.func48, Try.ntmps48
    go_wp2
    (apply wp_region_soft; (focus kernel_rfl); (focus kernel_rfl); (focus (intro K hK; go_wp2; exact only_mk hK)); (focus ((((try simp only [sides, hasSide, side, lowV, intV, slV, ptrV, Act.eval, Region.wanted, yielded_eq]); go_simp) <;> (try omega)))))
    go_wp2
    go_ret
    exact ⟨by rw [hS.out, if_neg hlt]; rfl, ((Below.refl _ _).alloc (Nat.le_refl _) _).drew⟩

theorem all_false {p : Int → Bool} {l : List Int} {k : Nat} (hk : k < l.length) (hp : p (l.getD k 0) = false) : l.all p = false := by
  rw [List.all_eq_false]
  exact ⟨l.getD k 0, by simp [hk], by rw [hp]; simp⟩
theorem all_take_succ {p : Int → Bool} {l : List Int} {k : Nat} (hk : k < l.length) (h : (l.take k).all p = true) (hp : p (l.getD k 0) = true) : (l.take (k + 1)).all p = true := by
  rw [List.take_succ_eq_append_getElem hk, List.all_append, h]
  simp [hk] at hp
  simp [hp]
def mayOf (letters : Int) (l : List Int) : Int :=
  if letters < 1 ∨ 4 < letters then 2 else if 60 < l.length then 1 else if l.all (fun a => 0 ≤ a && a < letters) then 0 else 2
set_option maxHeartbeats 400000 in
theorem may_any (letters : Int) (v : Value) (l : List Int) (w : World) (h : Ints w v l) :
    Calls Try.prog 106 #[.int .i64 letters, v] w fun e w' => e = .returned (.int .i64 (mayOf letters l)) ∧ w = w' := by
  obtain ⟨ao, n, cap, rfl, H, L, hc, hm⟩ := h.shape
  have hS : Hid (mayOf letters l = if letters < 1 ∨ 4 < letters then 2 else if 60 < n then 1 else if l.all (fun a => 0 ≤ a && a < letters) then 0 else 2) := by rw [L.out]; exact rfl
  by_cases h1 : letters < 1
  · go_enter Try.func106, Try.ntmps106
    go_wp2
    go_ret
    exact ⟨by rw [hS.out, if_pos (.inl h1)] <;> rfl, rfl⟩
  by_cases h2 : 4 < letters
  · go_enter Try.func106, Try.ntmps106
    go_wp2
    go_ret
    exact ⟨by rw [hS.out, if_pos (.inr h2)] <;> rfl, rfl⟩
  by_cases h3 : 60 < n
  · go_enter Try.func106, Try.ntmps106
    go_wp2
    go_ret
    exact ⟨by rw [hS.out, if_neg (by omega), if_pos h3] <;> rfl, rfl⟩
  go_enter Try.func106, Try.ntmps106
  go_wp2
  go_loop [18] (fun i => ∃ k : Nat, k ≤ n ∧ i = .int .i64 k ∧ (l.take k).all (fun a => 0 ≤ a && a < letters) = true) (fun i => n - (intOf i).toNat)
  case atStart => exact ⟨0, Nat.zero_le _, rfl, rfl⟩
  case round =>
    obtain ⟨k, hk, rfl, hg⟩ := hrel
    have Hg := Lib.hid hg
    clear hg
    by_cases hlt : k < n
    · obtain ⟨b, o, rfl, hck, hb, hw1, hw2⟩ := H.int hlt
      generalize hz : l.getD k 0 = z at *
      have Hz := Lib.hid hz
      clear hz
      by_cases hz0 : z < 0
      · go_wp2
        go_ret
        exact ⟨by rw [hS.out, if_neg (by omega), if_neg h3, all_false (by rw [← L.out]; exact hlt) (by rw [Hz.out]; simp; omega)] <;> rfl, rfl⟩
      by_cases hz1 : letters ≤ z
      · go_wp2
        go_ret
        exact ⟨by rw [hS.out, if_neg (by omega), if_neg h3, all_false (by rw [← L.out]; exact hlt) (by rw [Hz.out]; simp; omega)] <;> rfl, rfl⟩
      go_wp2
      go_round
      case rel => exact ⟨k + 1, by omega, by go_num, all_take_succ (by rw [← L.out]; exact hlt) Hg.out (by rw [Hz.out]; simp; omega)⟩
      case measure => simp [intOf]; omega
    · go_wp2
      go_ret
      have hg := Hg.out
      rw [List.take_of_length_le (by rw [← L.out]; omega)] at hg
      exact ⟨by rw [hS.out, if_neg (by omega), if_neg h3, if_pos hg] <;> rfl, rfl⟩
end Go.Proofs.Ytfpdnigihjmohaa
