/- The walk of the law of powers, where the power is formed. -/
import Derived.Test.YtfpdnigihjmohaaLyndonD
namespace Go.Proofs.Ytfpdnigihjmohaa
open Go.RowKit
set_option linter.unusedSimpArgs false
set_option linter.unusedVariables false
set_option maxRecDepth 100000
attribute [local irreducible] wpList

theorem eqS_refl (a : List Int) : eqS a a = true := by simp [eqS]
set_option maxHeartbeats 8000000 in
theorem lyndonPower_main (v : Value) (l : List Int) (t : Nat) (w : World) (h : Ints w v l) (hm : mayOf 4 l = 0) (hl : 0 < l.length) (ht : 0 < t) (h60 : t * l.length ≤ 60) :
    Calls Try.prog 7 #[v, .int .i64 t] w fun e w' => e = .returned (.bool true) ∧ Below w.heap.size w w' := by
  obtain ⟨ao, n, cap, rfl, H, L, hc, hm1⟩ := h.shape
  have R := Lib.hid (fun W (hW : Below w.heap.size w W) => root_ok (.slice ao n cap) l W (h.up hW) hm hl)
  have T1 := Lib.hid (fun W (hW : Below w.heap.size w W) => turn_ok (.slice ao n cap) l W (h.up hW) hm)
  have hIl := h.i64
  have hm2 : mayOf 4 (pow l t) = 0 := mayOf_zero (by rw [pow_len]; exact h60) (fun a ha => may_mem hm a (mem_pow ha))
  have hpl := pow_len l t
  have hl' : 0 < (pow l t).length := by rw [pow_len]; exact Nat.mul_pos ht hl
  have hn60 : n ≤ 60 := by rw [L.out]; exact may_len hm
  have hpw := Lib.hid (fun r (hr : IsRoot l r) => turn_pow hr hl ht)
  have hrp := Lib.hid (fun r (hr : IsRoot l r) => root_pow hr hl ht)
  have hst := Lib.hid (pow_len l)
  rw [← L.out] at h60 hl hpl
  have ht60 : t ≤ 60 := by
    have : t * 1 ≤ t * n := Nat.mul_le_mul_left _ hl
    omega
  have e1 : ((t : Int) * (n : Int)) = ((t * n : Nat) : Int) := by rw [Int.natCast_mul]
  have hq1 : ((t : Int) * (n : Int)) ≤ 60 := by rw [e1]; omega
  have hq0 : 0 ≤ ((t : Int) * (n : Int)) := by rw [e1]; omega
  clear e1 h hm
  replace hpl := Lib.hid hpl
  replace hm2 := Lib.hid hm2
  replace hl' := Lib.hid hl'
  replace hIl := Lib.hid hIl
  have z1 : ((n : Int) == 0) = false := by simp; omega
  have z2 : ¬ (t : Int) < 1 := by omega
  have z3 : ¬ 60 < (t : Int) := by omega
  have z4 : ¬ 60 < (n : Int) := by omega
  have z5 : ¬ 60 < (t : Int) * (n : Int) := by omega
  go_enter Try.func7, Try.ntmps7
  go_wp2_with ((go_at_call 22; (with_reducible refine (factors_sample _ _ ?_ ?_).mono ?_); (focus (go_simp)); (focus (go_simp)); rintro e w' ⟨a5, c5, rfl, hb⟩; (have hs' := hb.size); (simp at hs'); (have hbw : Below w.heap.size w w' := by (repeat' (first | exact Below.refl _ _ | assumption | (refine Below.alloc ?_ ?_ _) | (refine Below.drew ?_) | (refine Below.setCell ?_ ?_ _) | (refine Below.trans ?_ (Below.mono (by assumption) ?_)) | omega | (simp; done) | (simp; omega)))); clear hb hs'))
  refine (R.out _ hbw).mono ?_
  rintro e w2 ⟨v7, r, rfl, hr, O7, hb⟩
  replace hbw := hbw.trans (hb.mono hbw.size)
  have hrn : r ≤ n := by rw [L.out]; exact Nat.le_of_dvd (by rw [← L.out]; exact hl) (Nat.dvd_of_mod_eq_zero hr.2.1)
  have hr0 : 0 < r := hr.1.1
  have I7 : Ints w2 v7 (l.take r) := Ints.ofOwn (by rw [List.length_take, Nat.min_eq_left (by rw [← L.out]; exact hrn)]; exact O7) (fun a ha => hIl.out a (List.mem_of_mem_take ha))
  have hlr := L.out
  obtain ⟨g7, c7, rfl, _⟩ := ownsRow_shape O7 hr0
  clear hb O7
  replace hr := Lib.hid hr
  replace hlr := Lib.hid hlr
  obtain ⟨hd1, hd2⟩ := div_bound (s := r) hn60
  rw [show (((l.length / r : Nat) : Int)) = (n : Int) / (r : Int) from by rw [← hlr.out, Int.natCast_ediv]]
  go_wp2
  go_loopw [9, 10] (fun v9 v10 wr => ∃ k : Nat, k ≤ t ∧ v10 = .int .i64 k ∧ wr.ownsRow w2.heap.size 3 1 v9 (k * n) (ints (pow l k)) ∧ Below w2.heap.size w2 wr) (fun _ v10 _ => t - (intOf v10).toNat)
  case atStart => exact ⟨0, Nat.zero_le _, rfl, by rw [Nat.zero_mul]; exact World.ownsRow_nil _ _ _ _, Below.refl _ _⟩
  case round =>
    obtain ⟨k, hk, rfl, hown, hb⟩ := hrel
    have hbr := hbw.trans (hb.mono hbw.size)
    have hk60 : k * n ≤ 60 := Nat.le_trans (Nat.mul_le_mul_right _ hk) h60
    by_cases hlt : k < t
    · have H1 := H.up hbr
      go_wp2_with (at_builtin; refine wpList_pushAll (B := w2.heap.size) (w0 := w2) (n := k * n) (L := pow l k) (M := l) rfl (.tmp 68) (.tmp 69) 22 rfl 3 (.int .i64 0) Try.underlying22 infoInt rfl ?c1 rfl rfl ?c2 ?c3 ?c4 ?c5 ?_)
      case c1 => exact hown
      case c2 => exact H1
      case c3 => exact hb
      case c4 => rw [← L.out]; omega
      case c5 => exact hb.size
      intro v' w4 O4 b4 g4
      go_wp2
      go_roundw
      case rel => exact ⟨k + 1, by omega, by go_num, by rw [← L.out] at O4; rw [Nat.succ_mul, pow, ints, List.map_append]; exact O4, b4⟩
      case measure => simp [intOf]; omega
    · obtain rfl : k = t := by omega
      obtain ⟨wo, rfl⟩ : ∃ wo : World, wo = wr := ⟨_, rfl⟩
      have htn : 0 < k * n := Nat.mul_pos ht hl
      obtain ⟨g9, c9, rfl, _⟩ := ownsRow_shape hown htn
      have I9 : Ints wo (.slice (some ⟨g9, 0, none⟩) (k * n) c9) (pow l k) := Ints.ofOwn (by rw [hpl.out]; exact hown) (pow_i64 hIl.out k)
      have hrk := hrp.out r hr.out
      have hdn : n % r = 0 := by rw [L.out]; exact hr.out.2.1
      have key : (((pow l k).length / r : Nat) : Int) = (n : Int) / (r : Int) * (k : Int) := by
        rw [hpl.out, ← Int.natCast_ediv, ← Int.natCast_mul, Nat.mul_comm k n, Nat.mul_comm (n / r) k, Nat.mul_comm n k, Nat.mul_div_assoc _ (Nat.dvd_of_mod_eq_zero hdn)]
      have R2 : Hid (∀ W, Below wo.heap.size wo W → Calls Try.prog 23 #[.slice (some ⟨g9, 0, none⟩) (k * n) c9] W (fun e w' => ∃ v, e = .returned (.tuple #[v, .int .i64 ((n : Int) / (r : Int) * (k : Int)), .int .i64 0]) ∧ w'.ownsRow W.heap.size 3 1 v r (ints (l.take r)) ∧ Below W.heap.size W w')) := fun W hW => by
        refine (root_ok _ (pow l k) W (I9.up hW) hm2.out hl'.out).mono ?_
        rintro e w' ⟨v, r', rfl, hr', O, b⟩
        obtain rfl : r' = r := hr'.uniq hrk
        rw [take_pow (by rw [← L.out]; exact hrn) ht] at O
        exact ⟨v, by rw [key], O, b⟩
      have T2 : Hid (∀ W, Below wo.heap.size wo W → Calls Try.prog 25 #[.slice (some ⟨g9, 0, none⟩) (k * n) c9] W (fun e w' => e = .returned (.tuple #[.int .i64 (turnS l), .int .i64 0]) ∧ Below W.heap.size W w')) := fun W hW => by
        have := turn_ok _ (pow l k) W (I9.up hW) hm2.out
        rwa [(hpw.out r hr.out).1] at this
      have htl := (hpw.out r hr.out).2
      have hbs : Below w2.heap.size w2 wo := hb
      have I7w : Ints wo (.slice (some ⟨g7, 0, none⟩) r c7) (l.take r) := I7.up hb
      have A2 : Hid (∀ W v, Below wo.heap.size wo W → Ints W v (l.take r) → Calls Try.prog 24 #[.slice (some ⟨g7, 0, none⟩) r c7, v] W (fun e w' => e = .returned (.bool true) ∧ Below W.heap.size W w')) := fun W v hW hv => by
        have := alikeWords_any _ v _ _ W (I7w.up hW) hv
        rwa [eqS_refl] at this
      have hn2 : 0 ≤ (n : Int) / (r : Int) * (k : Int) := by rw [← key]; exact Int.natCast_nonneg _
      clear key
      have hn3 : (n : Int) / (r : Int) * (k : Int) ≤ 3600 := Int.le_trans (Int.mul_le_mul hd2 z3 (Int.natCast_nonneg _) (by decide)) (by decide)
      generalize turnS l = tl at *
      have tz1 : ((tl : Int) < r) := Int.ofNat_lt.2 htl
      have hli := I9.i64
      have hIt : I64 (l.take r) := I7.i64
      clear hdn hrk I9 hown htn R hpw hrp hst hli
      generalize l.take r = lr at *
      go_wp2_with fail
      refine (R2.out _ (Below.refl _ _)).mono ?_
      rintro e w5 ⟨v11, rfl, O11, b5⟩
      obtain ⟨g11, c11, rfl, _⟩ := ownsRow_shape O11 hr0
      have I11 : Ints w5 (.slice (some ⟨g11, 0, none⟩) r c11) lr := Ints.ofOwn (by rw [← I7w.len]; exact O11) hIt
      have bo : Below w.heap.size w wo := hbr
      have bw5 := bo.trans (b5.mono bo.size)
      clear O11
      go_wp2_with fail
      refine (A2.out _ _ b5 I11).mono ?_
      rintro e w6 ⟨rfl, b6⟩
      have b56 := b5.trans (b6.mono b5.size)
      have bw6 := bw5.trans (b6.mono bw5.size)
      clear b5 b6 bw5 I11
      go_wp2_with fail
      refine (T1.out _ bw6).mono ?_
      rintro e w7 ⟨rfl, b7⟩
      have b57 := b56.trans (b7.mono b56.size)
      have bw7 := bw6.trans (b7.mono bw6.size)
      clear b56 b7 bw6
      go_wp2_with fail
      refine (T2.out _ b57).mono ?_
      rintro e w8 ⟨rfl, b8⟩
      have bw8 := bw7.trans (b8.mono bw7.size)
      go_wp2
      go_ret
      exact ⟨rfl, bw8⟩
theorem lyndonPower_any {v : Value} {l : List Int} {t : Int} {w : World} (h : Ints w v l) (h1 : -9223372036854775808 ≤ t) (h2 : t ≤ 9223372036854775807) :
    Calls Try.prog 7 #[v, .int .i64 t] w fun e w' => e = .returned (.bool true) ∧ Below w.heap.size w w' := by
  by_cases hm : mayOf 4 l = 0
  · rcases Nat.eq_zero_or_pos l.length with hl | hl
    · exact lyndonPower_early v l t w h (.inr (List.eq_nil_of_length_eq_zero hl))
    · by_cases ho : t < 1 ∨ 60 < t ∨ 60 < t * (l.length : Int)
      · exact lyndonPower_out v l t w h hm hl ho
      · obtain ⟨k, rfl⟩ := Int.eq_ofNat_of_zero_le (show 0 ≤ t by omega)
        refine lyndonPower_main v l k w h hm hl (by omega) ?_
        have : ¬ 60 < (k : Int) * (l.length : Int) := fun e => ho (.inr (.inr e))
        rw [← Int.natCast_mul] at this
        omega
  · exact lyndonPower_early v l t w h (.inl hm)
end Go.Proofs.Ytfpdnigihjmohaa
