/- The walks of package muller: what is asked of an automaton. No condition. -/
import Derived.Test.YtfpdnigihjmohaaMullerA
import Derived.Laws.EntriesVeiled
namespace Go.Proofs.Ytfpdnigihjmohaa
open Go.RowKit
set_option linter.unusedSimpArgs false
set_option linter.unusedVariables false
set_option maxRecDepth 100000
attribute [local irreducible] wpList

theorem enters1 : ∀ args w, (callFunc 108 args).run Try.prog w = .ok (.enter 108 args) w := enters_of Try.func108 (by kernel_rfl) rfl
theorem enters2 : ∀ args w, (callFunc 109 args).run Try.prog w = .ok (.enter 109 args) w := enters_of Try.func109 (by kernel_rfl) rfl
theorem enters3 : ∀ args w, (callFunc 110 args).run Try.prog w = .ok (.enter 110 args) w := enters_of Try.func110 (by kernel_rfl) rfl
theorem enters4 : ∀ args w, (callFunc 111 args).run Try.prog w = .ok (.enter 111 args) w := enters_of Try.func111 (by kernel_rfl) rfl

def lenNot (k : Int) (r : List Int) : Bool := (r.length : Int) != k
def offS (n : Nat) (q : Int) : Bool := decide (q < 0) || decide ((n : Int) ≤ q)
theorem check1 {w : World} {B : Nat} {k : Int} (hB : w.cell? ⟨B, 0, none⟩ = some (.int .i64 k)) : PredW w 108 #[.pointer (some ⟨B, 0, none⟩)] Ints (lenNot k) := fun W u r hW hu => by
  obtain ⟨ao, n, cap, rfl, H, L, hc, hm⟩ := hu.shape
  have hc := cell_up hB hW
  have e : lenNot k r = ((n : Int) != k) := by unfold lenNot; rw [L.out]
  rw [e]
  clear e hu H
  go_enter Try.func108, Try.ntmps108
  go_wp2
  go_ret
  exact ⟨rfl, Below.refl _ _⟩
theorem check2 {w : World} {B n : Nat} (hB : w.cell? ⟨B, 0, none⟩ = some (.int .i64 n)) : PredW w 109 #[.pointer (some ⟨B, 0, none⟩)] IntR (offS n) := fun W u q hW hu => by
  obtain ⟨rfl, h1, h2⟩ := hu
  have hc := cell_up hB hW
  unfold offS
  by_cases h3 : q < 0
  · have e : decide (q < 0) = true := by simpa using h3
    go_enter Try.func109, Try.ntmps109
    go_wp2
    go_ret
    exact ⟨by first | rfl | (rw [e] <;> rfl), Below.refl _ _⟩
  · have e : decide (q < 0) = false := by simpa using h3
    go_enter Try.func109, Try.ntmps109
    go_wp2
    go_ret
    exact ⟨by first | rfl | (rw [e] <;> rfl), Below.refl _ _⟩
theorem check3 {w : World} {B : Nat} {g : Nat} {lb : Array Value} {p : Int → Bool} (hB : w.cell? ⟨B, 0, none⟩ = some (.func (.func g) #[] lb)) (eg : ∀ args w, (callFunc g args).run Try.prog w = .ok (.enter g args) w) (hp : PredW w g lb IntR p) :
    PredW w 110 #[.pointer (some ⟨B, 0, none⟩)] Ints (fun r => r.any p) := fun W u r hW hu => by
  obtain ⟨ao, n, cap, rfl, H, L, hc, hm⟩ := hu.shape
  have hc := cell_up hB hW
  have C := Lib.hid (anyFuncInts _ r W g lb p eg hu (hp.up hW))
  show Calls _ _ _ _ (fun e w' => e = .returned (.bool (r.any p)) ∧ Below W.heap.size W w')
  generalize r.any p = x at *
  clear hu H L
  go_enter Try.func110, Try.ntmps110
  go_wp2_with (go_at_call 79; refine C.out.mono ?_; rintro e w' ⟨rfl, hb'⟩)
  go_ret
  exact ⟨rfl, hb'⟩
theorem pow_bound {n : Nat} (h : n ≤ 4) : 1 ≤ (2 : Int) ^ n ∧ (2 : Int) ^ n ≤ 16 := by
  match n, h with
  | 0, _ => exact (by decide)
  | 1, _ => exact (by decide)
  | 2, _ => exact (by decide)
  | 3, _ => exact (by decide)
  | 4, _ => exact (by decide)
def goodNot (n : Nat) (s : Int) : Bool := decide (s < 1) || decide ((2 : Int) ^ n ≤ s)
theorem check4 {w : World} {B n : Nat} (hB : w.cell? ⟨B, 0, none⟩ = some (.int .i64 n)) (hn : n ≤ 4) : PredW w 111 #[.pointer (some ⟨B, 0, none⟩)] IntR (goodNot n) := fun W u q hW hu => by
  obtain ⟨rfl, h1, h2⟩ := hu
  have hc := cell_up hB hW
  unfold goodNot
  obtain ⟨p1, p2⟩ := pow_bound hn
  by_cases h3 : q < 1
  · have e : decide (q < 1) = true := by simpa using h3
    go_enter Try.func111, Try.ntmps111
    go_wp2
    go_ret
    exact ⟨by first | rfl | (rw [e] <;> rfl), Below.refl _ _⟩
  · have e : decide (q < 1) = false := by simpa using h3
    go_enter Try.func111, Try.ntmps111
    go_wp2
    go_ret
    exact ⟨by first | rfl | (rw [e] <;> rfl), Below.refl _ _⟩

/-- what is wrong with an automaton -/
def mullerS (k q : Int) (N : List (List Int)) (G : List Int) : Int :=
  if k < 1 ∨ 4 < k then 2 else if N.length < 1 ∨ 4 < N.length then 1 else if N.any (lenNot k) then 3
  else if offS N.length q || N.any (fun r => r.any (offS N.length)) || G.any (goodNot N.length) then 2
  else if (List.range G.length).any (fun i => decide (0 < i) && decide (G.getD i 0 ≤ G.getD (i - 1) 0)) then 3 else 0
set_option maxHeartbeats 2000000 in
theorem mullerCheck_any (v1 v2 : Value) (k q : Int) (N : List (List Int)) (G : List Int) (w : World) (h1 : Rows2 w v1 N) (h2 : Ints w v2 G) (hq0 : -9223372036854775808 ≤ q) (hq1 : q ≤ 9223372036854775807) :
    Calls Try.prog 49 #[.agg #[.int .i64 k, .int .i64 q, v1, v2]] w fun e w' => e = .returned (.int .i64 (mullerS k q N G)) ∧ Below w.heap.size w w' := by
  obtain ⟨ao1, n1, cap1, rfl, H1, L1, hc1, hm1⟩ := h1.shape
  obtain ⟨ao2, n2, cap2, rfl, H2, L2, hc2, hm2⟩ := h2.shape
  have hS : Hid (mullerS k q N G = if k < 1 ∨ 4 < k then 2 else if n1 < 1 ∨ 4 < n1 then 1 else if N.any (lenNot k) then 3
    else if offS n1 q || N.any (fun r => r.any (offS n1)) || G.any (goodNot n1) then 2
    else if (List.range n2).any (fun i => decide (0 < i) && decide (G.getD i 0 ≤ G.getD (i - 1) 0)) then 3 else 0) := by rw [L1.out, L2.out]; exact Lib.hid rfl
  generalize mullerS k q N G = r at *
  by_cases a1 : k < 1
  · have e := hS.out
    rw [if_pos (.inl a1)] at e
    subst e
    go_enter Try.func49, Try.ntmps49
    go_wp2
    go_ret
    exact ⟨rfl, by (repeat' (first | exact Below.refl _ _ | assumption | (refine Below.alloc ?_ ?_ _) | (refine Below.drew ?_) | (refine Below.setCell ?_ ?_ _) | (refine Below.trans ?_ (Below.mono (by assumption) ?_)) | omega | (simp; done) | (simp; omega)))⟩
  by_cases a2 : 4 < k
  · have e := hS.out
    rw [if_pos (.inr a2)] at e
    subst e
    go_enter Try.func49, Try.ntmps49
    go_wp2
    go_ret
    exact ⟨rfl, by (repeat' (first | exact Below.refl _ _ | assumption | (refine Below.alloc ?_ ?_ _) | (refine Below.drew ?_) | (refine Below.setCell ?_ ?_ _) | (refine Below.trans ?_ (Below.mono (by assumption) ?_)) | omega | (simp; done) | (simp; omega)))⟩
  rw [if_neg (by omega)] at hS
  by_cases a3 : n1 < 1
  · have e := hS.out
    rw [if_pos (.inl a3)] at e
    subst e
    have a3' : ¬ 1 ≤ (n1 : Int) := by omega
    go_enter Try.func49, Try.ntmps49
    go_wp2
    go_ret
    exact ⟨rfl, by (repeat' (first | exact Below.refl _ _ | assumption | (refine Below.alloc ?_ ?_ _) | (refine Below.drew ?_) | (refine Below.setCell ?_ ?_ _) | (refine Below.trans ?_ (Below.mono (by assumption) ?_)) | omega | (simp; done) | (simp; omega)))⟩
  by_cases a4 : 4 < n1
  · have e := hS.out
    rw [if_pos (.inr a4)] at e
    subst e
    go_enter Try.func49, Try.ntmps49
    go_wp2
    go_ret
    exact ⟨rfl, by (repeat' (first | exact Below.refl _ _ | assumption | (refine Below.alloc ?_ ?_ _) | (refine Below.drew ?_) | (refine Below.setCell ?_ ?_ _) | (refine Below.trans ?_ (Below.mono (by assumption) ?_)) | omega | (simp; done) | (simp; omega)))⟩
  rw [if_neg (by omega)] at hS
  have C1 := Lib.hid (fun W (hW : Below w.heap.size w W) B (e : W.cell? ⟨B, 0, none⟩ = some (.int .i64 k)) => anyFuncRows _ N W _ _ (lenNot k) enters1 (H1.up hW) (check1 e))
  have C2 : Hid (∀ (W : World) (B : Nat), W.cell? ⟨B, 0, none⟩ = some (.int .i64 n1) → Calls Try.prog 109 #[.int .i64 q, .pointer (some ⟨B, 0, none⟩)] W fun e w' => e = .returned (.bool (offS n1 q)) ∧ Below W.heap.size W w') := fun W B e => check2 e W (.int .i64 q) q (Below.refl _ _) ⟨rfl, hq0, hq1⟩
  have C3 := Lib.hid (fun W (hW : Below w.heap.size w W) B B2 (e : W.cell? ⟨B2, 0, none⟩ = some (.int .i64 n1)) (e2 : W.cell? ⟨B, 0, none⟩ = some (.func (.func 109) #[] #[.pointer (some ⟨B2, 0, none⟩)])) => anyFuncRows _ N W _ _ (fun r => r.any (offS n1)) enters3 (H1.up hW) (check3 e2 enters2 (check2 e)))
  have C4 := Lib.hid (fun W (hW : Below w.heap.size w W) B (e : W.cell? ⟨B, 0, none⟩ = some (.int .i64 n1)) => anyFuncInts _ G W _ _ (goodNot n1) enters4 (H2.up hW) (check4 e (by omega)))
  have b1 : ¬ (n1 : Int) < 1 := by omega
  have b2 : ¬ 4 < (n1 : Int) := by omega
  generalize N.any (lenNot k) = x1 at *
  generalize offS n1 q = x2 at *
  generalize (N.any fun r => r.any (offS n1)) = x3 at *
  generalize G.any (goodNot n1) = x4 at *
  cases x1 with
  | true =>
    have e := hS.out
    rw [if_pos rfl] at e
    subst e
    clear C2 C3 C4 hS
    go_enter Try.func49, Try.ntmps49
    go_wp2_with ((go_at_call 77; (with_reducible refine (C1.out _ ?_ _ ?_).mono ?_); (focus ((repeat' (first | exact Below.refl _ _ | assumption | (refine Below.alloc ?_ ?_ _) | (refine Below.drew ?_) | (refine Below.setCell ?_ ?_ _) | (refine Below.trans ?_ (Below.mono (by assumption) ?_)) | omega | (simp; done) | (simp; omega))))); (focus (go_simp)); rintro e w1 ⟨rfl, hb⟩; (have hw1 : Below w.heap.size w w1 := Below.trans (by (repeat' (first | exact Below.refl _ _ | assumption | (refine Below.alloc ?_ ?_ _) | (refine Below.drew ?_) | (refine Below.setCell ?_ ?_ _) | (refine Below.trans ?_ (Below.mono (by assumption) ?_)) | omega | (simp; done) | (simp; omega)))) (hb.mono (by first | omega | (simp; done) | (simp; omega)))); obtain ⟨d0, d1⟩ := bcell hb; (have hs1 : w.heap.size + 1 < w1.heap.size := by have := hb.size; (try simp at this); omega); (have ht1 : w.heap.size < w1.heap.size := by omega); clear hb))
    go_ret
    exact ⟨rfl, hw1⟩
  | false =>
    rw [if_neg (by simp)] at hS
    cases x2 with
    | true =>
      have e := hS.out
      rw [if_pos (by simp)] at e
      subst e
      clear C3 C4 hS
      go_enter Try.func49, Try.ntmps49
      go_wp2_with (first | ((go_at_call 77; (with_reducible refine (C1.out _ ?_ _ ?_).mono ?_); (focus ((repeat' (first | exact Below.refl _ _ | assumption | (refine Below.alloc ?_ ?_ _) | (refine Below.drew ?_) | (refine Below.setCell ?_ ?_ _) | (refine Below.trans ?_ (Below.mono (by assumption) ?_)) | omega | (simp; done) | (simp; omega))))); (focus (go_simp)); rintro e w1 ⟨rfl, hb⟩; (have hw1 : Below w.heap.size w w1 := Below.trans (by (repeat' (first | exact Below.refl _ _ | assumption | (refine Below.alloc ?_ ?_ _) | (refine Below.drew ?_) | (refine Below.setCell ?_ ?_ _) | (refine Below.trans ?_ (Below.mono (by assumption) ?_)) | omega | (simp; done) | (simp; omega)))) (hb.mono (by first | omega | (simp; done) | (simp; omega)))); obtain ⟨d0, d1⟩ := bcell hb; (have hs1 : w.heap.size + 1 < w1.heap.size := by have := hb.size; (try simp at this); omega); (have ht1 : w.heap.size < w1.heap.size := by omega); clear hb)) | ((go_at_call 109; (with_reducible refine (C2.out _ _ ?_).mono ?_); (focus (go_simp)); rintro e w2 ⟨rfl, hb⟩; (have hw2 : Below w.heap.size w w2 := Below.trans (by (repeat' (first | exact Below.refl _ _ | assumption | (refine Below.alloc ?_ ?_ _) | (refine Below.drew ?_) | (refine Below.setCell ?_ ?_ _) | (refine Below.trans ?_ (Below.mono (by assumption) ?_)) | omega | (simp; done) | (simp; omega)))) (hb.mono (by first | omega | (simp; done) | (simp; omega)))); obtain ⟨d0, d1⟩ := bcell hb; (have hs2 : w.heap.size + 1 < w2.heap.size := by have := hb.size; (try simp at this); omega); (have ht2 : w.heap.size < w2.heap.size := by omega); clear hb)) | ((go_at_call 77; (with_reducible refine (C3.out _ ?_ _ (w.heap.size + 1) ?_ ?_).mono ?_); (focus (first | exact hw2 | (repeat' (first | exact Below.refl _ _ | assumption | (refine Below.alloc ?_ ?_ _) | (refine Below.drew ?_) | (refine Below.setCell ?_ ?_ _) | (refine Below.trans ?_ (Below.mono (by assumption) ?_)) | omega | (simp; done) | (simp; omega))))); (focus (go_simp)); (focus (go_simp)); rintro e w3 ⟨rfl, hb⟩; (have hw3 : Below w.heap.size w w3 := Below.trans (by (repeat' (first | exact Below.refl _ _ | assumption | (refine Below.alloc ?_ ?_ _) | (refine Below.drew ?_) | (refine Below.setCell ?_ ?_ _) | (refine Below.trans ?_ (Below.mono (by assumption) ?_)) | omega | (simp; done) | (simp; omega)))) (hb.mono (by first | omega | (simp; done) | (simp; omega)))); obtain ⟨d0, d1⟩ := bcell hb; (have hs3 : w.heap.size + 1 < w3.heap.size := by have := hb.size; (try simp at this); omega); (have ht3 : w.heap.size < w3.heap.size := by omega); clear hb)) | ((go_at_call 79; (with_reducible refine (C4.out _ ?_ _ ?_).mono ?_); (focus (first | exact hw3 | (repeat' (first | exact Below.refl _ _ | assumption | (refine Below.alloc ?_ ?_ _) | (refine Below.drew ?_) | (refine Below.setCell ?_ ?_ _) | (refine Below.trans ?_ (Below.mono (by assumption) ?_)) | omega | (simp; done) | (simp; omega))))); (focus (go_simp)); rintro e w4 ⟨rfl, hb⟩; (have hw4 : Below w.heap.size w w4 := Below.trans (by (repeat' (first | exact Below.refl _ _ | assumption | (refine Below.alloc ?_ ?_ _) | (refine Below.drew ?_) | (refine Below.setCell ?_ ?_ _) | (refine Below.trans ?_ (Below.mono (by assumption) ?_)) | omega | (simp; done) | (simp; omega)))) (hb.mono (by first | omega | (simp; done) | (simp; omega)))); obtain ⟨d0, d1⟩ := bcell hb; (have hs4 : w.heap.size + 1 < w4.heap.size := by have := hb.size; (try simp at this); omega); (have ht4 : w.heap.size < w4.heap.size := by omega); clear hb)))
      go_ret
      exact ⟨rfl, hw2⟩
    | false =>
      cases x3 with
      | true =>
        have e := hS.out
        rw [if_pos (by simp)] at e
        subst e
        clear C4 hS
        go_enter Try.func49, Try.ntmps49
        go_wp2_with (first | ((go_at_call 77; (with_reducible refine (C1.out _ ?_ _ ?_).mono ?_); (focus ((repeat' (first | exact Below.refl _ _ | assumption | (refine Below.alloc ?_ ?_ _) | (refine Below.drew ?_) | (refine Below.setCell ?_ ?_ _) | (refine Below.trans ?_ (Below.mono (by assumption) ?_)) | omega | (simp; done) | (simp; omega))))); (focus (go_simp)); rintro e w1 ⟨rfl, hb⟩; (have hw1 : Below w.heap.size w w1 := Below.trans (by (repeat' (first | exact Below.refl _ _ | assumption | (refine Below.alloc ?_ ?_ _) | (refine Below.drew ?_) | (refine Below.setCell ?_ ?_ _) | (refine Below.trans ?_ (Below.mono (by assumption) ?_)) | omega | (simp; done) | (simp; omega)))) (hb.mono (by first | omega | (simp; done) | (simp; omega)))); obtain ⟨d0, d1⟩ := bcell hb; (have hs1 : w.heap.size + 1 < w1.heap.size := by have := hb.size; (try simp at this); omega); (have ht1 : w.heap.size < w1.heap.size := by omega); clear hb)) | ((go_at_call 109; (with_reducible refine (C2.out _ _ ?_).mono ?_); (focus (go_simp)); rintro e w2 ⟨rfl, hb⟩; (have hw2 : Below w.heap.size w w2 := Below.trans (by (repeat' (first | exact Below.refl _ _ | assumption | (refine Below.alloc ?_ ?_ _) | (refine Below.drew ?_) | (refine Below.setCell ?_ ?_ _) | (refine Below.trans ?_ (Below.mono (by assumption) ?_)) | omega | (simp; done) | (simp; omega)))) (hb.mono (by first | omega | (simp; done) | (simp; omega)))); obtain ⟨d0, d1⟩ := bcell hb; (have hs2 : w.heap.size + 1 < w2.heap.size := by have := hb.size; (try simp at this); omega); (have ht2 : w.heap.size < w2.heap.size := by omega); clear hb)) | ((go_at_call 77; (with_reducible refine (C3.out _ ?_ _ (w.heap.size + 1) ?_ ?_).mono ?_); (focus (first | exact hw2 | (repeat' (first | exact Below.refl _ _ | assumption | (refine Below.alloc ?_ ?_ _) | (refine Below.drew ?_) | (refine Below.setCell ?_ ?_ _) | (refine Below.trans ?_ (Below.mono (by assumption) ?_)) | omega | (simp; done) | (simp; omega))))); (focus (go_simp)); (focus (go_simp)); rintro e w3 ⟨rfl, hb⟩; (have hw3 : Below w.heap.size w w3 := Below.trans (by (repeat' (first | exact Below.refl _ _ | assumption | (refine Below.alloc ?_ ?_ _) | (refine Below.drew ?_) | (refine Below.setCell ?_ ?_ _) | (refine Below.trans ?_ (Below.mono (by assumption) ?_)) | omega | (simp; done) | (simp; omega)))) (hb.mono (by first | omega | (simp; done) | (simp; omega)))); obtain ⟨d0, d1⟩ := bcell hb; (have hs3 : w.heap.size + 1 < w3.heap.size := by have := hb.size; (try simp at this); omega); (have ht3 : w.heap.size < w3.heap.size := by omega); clear hb)) | ((go_at_call 79; (with_reducible refine (C4.out _ ?_ _ ?_).mono ?_); (focus (first | exact hw3 | (repeat' (first | exact Below.refl _ _ | assumption | (refine Below.alloc ?_ ?_ _) | (refine Below.drew ?_) | (refine Below.setCell ?_ ?_ _) | (refine Below.trans ?_ (Below.mono (by assumption) ?_)) | omega | (simp; done) | (simp; omega))))); (focus (go_simp)); rintro e w4 ⟨rfl, hb⟩; (have hw4 : Below w.heap.size w w4 := Below.trans (by (repeat' (first | exact Below.refl _ _ | assumption | (refine Below.alloc ?_ ?_ _) | (refine Below.drew ?_) | (refine Below.setCell ?_ ?_ _) | (refine Below.trans ?_ (Below.mono (by assumption) ?_)) | omega | (simp; done) | (simp; omega)))) (hb.mono (by first | omega | (simp; done) | (simp; omega)))); obtain ⟨d0, d1⟩ := bcell hb; (have hs4 : w.heap.size + 1 < w4.heap.size := by have := hb.size; (try simp at this); omega); (have ht4 : w.heap.size < w4.heap.size := by omega); clear hb)))
        go_ret
        exact ⟨rfl, hw3⟩
      | false =>
        cases x4 with
        | true =>
          have e := hS.out
          rw [if_pos (by simp)] at e
          subst e
          clear hS
          go_enter Try.func49, Try.ntmps49
          go_wp2_with (first | ((go_at_call 77; (with_reducible refine (C1.out _ ?_ _ ?_).mono ?_); (focus ((repeat' (first | exact Below.refl _ _ | assumption | (refine Below.alloc ?_ ?_ _) | (refine Below.drew ?_) | (refine Below.setCell ?_ ?_ _) | (refine Below.trans ?_ (Below.mono (by assumption) ?_)) | omega | (simp; done) | (simp; omega))))); (focus (go_simp)); rintro e w1 ⟨rfl, hb⟩; (have hw1 : Below w.heap.size w w1 := Below.trans (by (repeat' (first | exact Below.refl _ _ | assumption | (refine Below.alloc ?_ ?_ _) | (refine Below.drew ?_) | (refine Below.setCell ?_ ?_ _) | (refine Below.trans ?_ (Below.mono (by assumption) ?_)) | omega | (simp; done) | (simp; omega)))) (hb.mono (by first | omega | (simp; done) | (simp; omega)))); obtain ⟨d0, d1⟩ := bcell hb; (have hs1 : w.heap.size + 1 < w1.heap.size := by have := hb.size; (try simp at this); omega); (have ht1 : w.heap.size < w1.heap.size := by omega); clear hb)) | ((go_at_call 109; (with_reducible refine (C2.out _ _ ?_).mono ?_); (focus (go_simp)); rintro e w2 ⟨rfl, hb⟩; (have hw2 : Below w.heap.size w w2 := Below.trans (by (repeat' (first | exact Below.refl _ _ | assumption | (refine Below.alloc ?_ ?_ _) | (refine Below.drew ?_) | (refine Below.setCell ?_ ?_ _) | (refine Below.trans ?_ (Below.mono (by assumption) ?_)) | omega | (simp; done) | (simp; omega)))) (hb.mono (by first | omega | (simp; done) | (simp; omega)))); obtain ⟨d0, d1⟩ := bcell hb; (have hs2 : w.heap.size + 1 < w2.heap.size := by have := hb.size; (try simp at this); omega); (have ht2 : w.heap.size < w2.heap.size := by omega); clear hb)) | ((go_at_call 77; (with_reducible refine (C3.out _ ?_ _ (w.heap.size + 1) ?_ ?_).mono ?_); (focus (first | exact hw2 | (repeat' (first | exact Below.refl _ _ | assumption | (refine Below.alloc ?_ ?_ _) | (refine Below.drew ?_) | (refine Below.setCell ?_ ?_ _) | (refine Below.trans ?_ (Below.mono (by assumption) ?_)) | omega | (simp; done) | (simp; omega))))); (focus (go_simp)); (focus (go_simp)); rintro e w3 ⟨rfl, hb⟩; (have hw3 : Below w.heap.size w w3 := Below.trans (by (repeat' (first | exact Below.refl _ _ | assumption | (refine Below.alloc ?_ ?_ _) | (refine Below.drew ?_) | (refine Below.setCell ?_ ?_ _) | (refine Below.trans ?_ (Below.mono (by assumption) ?_)) | omega | (simp; done) | (simp; omega)))) (hb.mono (by first | omega | (simp; done) | (simp; omega)))); obtain ⟨d0, d1⟩ := bcell hb; (have hs3 : w.heap.size + 1 < w3.heap.size := by have := hb.size; (try simp at this); omega); (have ht3 : w.heap.size < w3.heap.size := by omega); clear hb)) | ((go_at_call 79; (with_reducible refine (C4.out _ ?_ _ ?_).mono ?_); (focus (first | exact hw3 | (repeat' (first | exact Below.refl _ _ | assumption | (refine Below.alloc ?_ ?_ _) | (refine Below.drew ?_) | (refine Below.setCell ?_ ?_ _) | (refine Below.trans ?_ (Below.mono (by assumption) ?_)) | omega | (simp; done) | (simp; omega))))); (focus (go_simp)); rintro e w4 ⟨rfl, hb⟩; (have hw4 : Below w.heap.size w w4 := Below.trans (by (repeat' (first | exact Below.refl _ _ | assumption | (refine Below.alloc ?_ ?_ _) | (refine Below.drew ?_) | (refine Below.setCell ?_ ?_ _) | (refine Below.trans ?_ (Below.mono (by assumption) ?_)) | omega | (simp; done) | (simp; omega)))) (hb.mono (by first | omega | (simp; done) | (simp; omega)))); obtain ⟨d0, d1⟩ := bcell hb; (have hs4 : w.heap.size + 1 < w4.heap.size := by have := hb.size; (try simp at this); omega); (have ht4 : w.heap.size < w4.heap.size := by omega); clear hb)))
          go_ret
          exact ⟨rfl, hw4⟩
        | false =>
          rw [if_neg (by simp)] at hS
          go_enter Try.func49, Try.ntmps49
          go_wp2_with (first | ((go_at_call 77; (with_reducible refine (C1.out _ ?_ _ ?_).mono ?_); (focus ((repeat' (first | exact Below.refl _ _ | assumption | (refine Below.alloc ?_ ?_ _) | (refine Below.drew ?_) | (refine Below.setCell ?_ ?_ _) | (refine Below.trans ?_ (Below.mono (by assumption) ?_)) | omega | (simp; done) | (simp; omega))))); (focus (go_simp)); rintro e w1 ⟨rfl, hb⟩; (have hw1 : Below w.heap.size w w1 := Below.trans (by (repeat' (first | exact Below.refl _ _ | assumption | (refine Below.alloc ?_ ?_ _) | (refine Below.drew ?_) | (refine Below.setCell ?_ ?_ _) | (refine Below.trans ?_ (Below.mono (by assumption) ?_)) | omega | (simp; done) | (simp; omega)))) (hb.mono (by first | omega | (simp; done) | (simp; omega)))); obtain ⟨d0, d1⟩ := bcell hb; (have hs1 : w.heap.size + 1 < w1.heap.size := by have := hb.size; (try simp at this); omega); (have ht1 : w.heap.size < w1.heap.size := by omega); clear hb)) | ((go_at_call 109; (with_reducible refine (C2.out _ _ ?_).mono ?_); (focus (go_simp)); rintro e w2 ⟨rfl, hb⟩; (have hw2 : Below w.heap.size w w2 := Below.trans (by (repeat' (first | exact Below.refl _ _ | assumption | (refine Below.alloc ?_ ?_ _) | (refine Below.drew ?_) | (refine Below.setCell ?_ ?_ _) | (refine Below.trans ?_ (Below.mono (by assumption) ?_)) | omega | (simp; done) | (simp; omega)))) (hb.mono (by first | omega | (simp; done) | (simp; omega)))); obtain ⟨d0, d1⟩ := bcell hb; (have hs2 : w.heap.size + 1 < w2.heap.size := by have := hb.size; (try simp at this); omega); (have ht2 : w.heap.size < w2.heap.size := by omega); clear hb)) | ((go_at_call 77; (with_reducible refine (C3.out _ ?_ _ (w.heap.size + 1) ?_ ?_).mono ?_); (focus (first | exact hw2 | (repeat' (first | exact Below.refl _ _ | assumption | (refine Below.alloc ?_ ?_ _) | (refine Below.drew ?_) | (refine Below.setCell ?_ ?_ _) | (refine Below.trans ?_ (Below.mono (by assumption) ?_)) | omega | (simp; done) | (simp; omega))))); (focus (go_simp)); (focus (go_simp)); rintro e w3 ⟨rfl, hb⟩; (have hw3 : Below w.heap.size w w3 := Below.trans (by (repeat' (first | exact Below.refl _ _ | assumption | (refine Below.alloc ?_ ?_ _) | (refine Below.drew ?_) | (refine Below.setCell ?_ ?_ _) | (refine Below.trans ?_ (Below.mono (by assumption) ?_)) | omega | (simp; done) | (simp; omega)))) (hb.mono (by first | omega | (simp; done) | (simp; omega)))); obtain ⟨d0, d1⟩ := bcell hb; (have hs3 : w.heap.size + 1 < w3.heap.size := by have := hb.size; (try simp at this); omega); (have ht3 : w.heap.size < w3.heap.size := by omega); clear hb)) | ((go_at_call 79; (with_reducible refine (C4.out _ ?_ _ ?_).mono ?_); (focus (first | exact hw3 | (repeat' (first | exact Below.refl _ _ | assumption | (refine Below.alloc ?_ ?_ _) | (refine Below.drew ?_) | (refine Below.setCell ?_ ?_ _) | (refine Below.trans ?_ (Below.mono (by assumption) ?_)) | omega | (simp; done) | (simp; omega))))); (focus (go_simp)); rintro e w4 ⟨rfl, hb⟩; (have hw4 : Below w.heap.size w w4 := Below.trans (by (repeat' (first | exact Below.refl _ _ | assumption | (refine Below.alloc ?_ ?_ _) | (refine Below.drew ?_) | (refine Below.setCell ?_ ?_ _) | (refine Below.trans ?_ (Below.mono (by assumption) ?_)) | omega | (simp; done) | (simp; omega)))) (hb.mono (by first | omega | (simp; done) | (simp; omega)))); obtain ⟨d0, d1⟩ := bcell hb; (have hs4 : w.heap.size + 1 < w4.heap.size := by have := hb.size; (try simp at this); omega); (have ht4 : w.heap.size < w4.heap.size := by omega); clear hb)))
          have c3 : w4.cell? ⟨w.heap.size, 3, none⟩ = some (.slice ao2 n2 cap2) := by go_simp
          have c3 := Lib.hid c3
          have H2 := H2.up hw4
          replace hS := Lib.hid hS.out
          clear C1 C2 C3 C4 d0 d1
          clear d0 d1
          clear d0 d1
          clear d0 d1
          go_loopw [47] (fun v47 wr => ∃ i : Nat, i ≤ n2 ∧ v47 = .int .i64 i ∧ Hid (∀ j, j < i → (decide (0 < j) && decide (G.getD j 0 ≤ G.getD (j - 1) 0)) = false) ∧ Below w4.heap.size w4 wr) (fun v47 _ => n2 - (intOf v47).toNat)
          case atStart => exact ⟨0, Nat.zero_le _, rfl, fun j hj => absurd hj (Nat.not_lt_zero _), Below.refl _ _⟩
          case round =>
            obtain ⟨i, hi, rfl, hg, hb⟩ := hrel
            replace hg := Lib.hid hg.out
            have c3 := cell_up c3.out hb
            by_cases hlt : i < n2
            · obtain ⟨b1, o1, rfl, hck, hb1, hx, hx'⟩ := (H2.up hb).int hlt
              have hstep := Lib.hid (fun (e : (decide (0 < i) && decide (G.getD i 0 ≤ G.getD (i - 1) 0)) = false) j (hj : j < i + 1) => show (decide (0 < j) && decide (G.getD j 0 ≤ G.getD (j - 1) 0)) = false by
                by_cases e2 : j = i
                · rw [e2]; exact e
                · exact hg.out j (by omega))
              rcases Nat.eq_zero_or_pos i with rfl | hi0
              · have hst := Lib.hid (hstep.out (by simp))
                go_wp2
                refine wp_region_plan (.soft [0, 1, 2] (.soft [3, 4, 5, 6, 7, 8, 9, 10, 11, 12, 13, 14] (.soft [15] .done))) wr.heap.size (by kernel_rfl) (by kernel_rfl) (by kernel_rfl) ?_
                (apply wpPlan_soft; (focus (intro K hK; (conv => arg 4; (simp only [pick, List.filterMap_cons, List.filterMap_nil, List.getElem?_toArray, List.getElem?_cons_succ, List.getElem?_cons_zero])); go_wp2; exact only_mk hK)); (focus ((simp only [pick, List.filterMap_cons, List.filterMap_nil, List.getElem?_toArray, List.getElem?_cons_succ, List.getElem?_cons_zero]); (((try simp only [sides, hasSide, side, lowV, intV, slV, ptrV, Act.eval, Region.wanted, yielded_eq]); go_simp) <;> (try omega)))))
                (apply wpPlan_soft; (focus (intro K hK; (conv => arg 4; (simp only [pick, List.filterMap_cons, List.filterMap_nil, List.getElem?_toArray, List.getElem?_cons_succ, List.getElem?_cons_zero])); (repeat (refine wpList_skip ?_ ?_; (focus kernel_rfl); simp only [Act.put, List.setIfInBounds_toArray, List.set_cons_zero, List.set_cons_succ])); refine wpList_nil ?_; exact only_mk hK)); (focus ((simp only [pick, List.filterMap_cons, List.filterMap_nil, List.getElem?_toArray, List.getElem?_cons_succ, List.getElem?_cons_zero]); (((try simp only [sides, hasSide, side, lowV, intV, slV, ptrV, Act.eval, Region.wanted, yielded_eq]); go_simp) <;> (try omega)))))
                (apply wpPlan_soft; (focus (intro K hK; (conv => arg 4; (simp only [pick, List.filterMap_cons, List.filterMap_nil, List.getElem?_toArray, List.getElem?_cons_succ, List.getElem?_cons_zero])); go_wp2; exact only_mk hK)); (focus ((simp only [pick, List.filterMap_cons, List.filterMap_nil, List.getElem?_toArray, List.getElem?_cons_succ, List.getElem?_cons_zero]); (((try simp only [sides, hasSide, side, lowV, intV, slV, ptrV, Act.eval, Region.wanted, yielded_eq]); go_simp) <;> (try omega)))))
                (refine wpPlan_end ?_)
                go_wp2
                go_roundw
                case rel => exact ⟨1, by omega, by go_num, hst, by (repeat' (first | exact Below.refl _ _ | assumption | (refine Below.alloc ?_ ?_ _) | (refine Below.drew ?_) | (refine Below.setCell ?_ ?_ _) | (refine Below.trans ?_ (Below.mono (by assumption) ?_)) | omega | (simp; done) | (simp; omega)))⟩
                case measure => simp [intOf]; omega
              · obtain ⟨b2, o2, e2, hck2, hb2, hy, hy'⟩ := (H2.up hb).int (k := i - 1) (by omega)
                cases e2
                have hsr : w.heap.size < wr.heap.size := Nat.lt_of_lt_of_le ht4 hb.size
                have hyes := Lib.hid (fun (e : (decide (0 < i) && decide (G.getD i 0 ≤ G.getD (i - 1) 0)) = true) => show ((List.range n2).any fun i => decide (0 < i) && decide (G.getD i 0 ≤ G.getD (i - 1) 0)) = true from List.any_eq_true.2 ⟨i, List.mem_range.2 hlt, e⟩)
                generalize G.getD i 0 = z1 at *
                generalize G.getD (i - 1) 0 = z2 at *
                by_cases hz : z1 ≤ z2
                · have e := hS.out
                  rw [if_pos ?_] at e
                  · subst e
                    go_wp2
                    refine wp_region_plan (.soft [0, 1, 2] (.soft [3, 4, 5, 6, 7, 8, 9, 10, 11, 12, 13, 14] (.soft [15] .done))) wr.heap.size (by kernel_rfl) (by kernel_rfl) (by kernel_rfl) ?_
                    (apply wpPlan_soft; (focus (intro K hK; (conv => arg 4; (simp only [pick, List.filterMap_cons, List.filterMap_nil, List.getElem?_toArray, List.getElem?_cons_succ, List.getElem?_cons_zero])); go_wp2; exact only_mk hK)); (focus ((simp only [pick, List.filterMap_cons, List.filterMap_nil, List.getElem?_toArray, List.getElem?_cons_succ, List.getElem?_cons_zero]); (((try simp only [sides, hasSide, side, lowV, intV, slV, ptrV, Act.eval, Region.wanted, yielded_eq]); go_simp) <;> (try omega)))))
                    (apply wpPlan_soft; (focus (intro K hK; (conv => arg 4; (simp only [pick, List.filterMap_cons, List.filterMap_nil, List.getElem?_toArray, List.getElem?_cons_succ, List.getElem?_cons_zero])); go_wp2; exact only_mk hK)); (focus ((simp only [pick, List.filterMap_cons, List.filterMap_nil, List.getElem?_toArray, List.getElem?_cons_succ, List.getElem?_cons_zero]); (((try simp only [sides, hasSide, side, lowV, intV, slV, ptrV, Act.eval, Region.wanted, yielded_eq]); go_simp) <;> (try omega)))))
                    (apply wpPlan_soft; (focus (intro K hK; (conv => arg 4; (simp only [pick, List.filterMap_cons, List.filterMap_nil, List.getElem?_toArray, List.getElem?_cons_succ, List.getElem?_cons_zero])); go_wp2; exact only_mk hK)); (focus ((simp only [pick, List.filterMap_cons, List.filterMap_nil, List.getElem?_toArray, List.getElem?_cons_succ, List.getElem?_cons_zero]); (((try simp only [sides, hasSide, side, lowV, intV, slV, ptrV, Act.eval, Region.wanted, yielded_eq]); go_simp) <;> (try omega)))))
                    (refine wpPlan_end ?_)
                    go_wp2
                    go_ret
                    exact ⟨rfl, hw4.trans (by (repeat' (first | exact Below.refl _ _ | assumption | (refine Below.alloc ?_ ?_ _) | (refine Below.drew ?_) | (refine Below.setCell ?_ ?_ _) | (refine Below.trans ?_ (Below.mono (by assumption) ?_)) | omega | (simp; done) | (simp; omega))))⟩
                  · exact hyes.out (by simp; omega)
                · have hst := Lib.hid (hstep.out (by simp; omega))
                  clear hstep
                  go_wp2
                  refine wp_region_plan (.soft [0, 1, 2] (.soft [3, 4, 5, 6, 7, 8, 9, 10, 11, 12, 13, 14] (.soft [15] .done))) wr.heap.size (by kernel_rfl) (by kernel_rfl) (by kernel_rfl) ?_
                  (apply wpPlan_soft; (focus (intro K hK; (conv => arg 4; (simp only [pick, List.filterMap_cons, List.filterMap_nil, List.getElem?_toArray, List.getElem?_cons_succ, List.getElem?_cons_zero])); go_wp2; exact only_mk hK)); (focus ((simp only [pick, List.filterMap_cons, List.filterMap_nil, List.getElem?_toArray, List.getElem?_cons_succ, List.getElem?_cons_zero]); (((try simp only [sides, hasSide, side, lowV, intV, slV, ptrV, Act.eval, Region.wanted, yielded_eq]); go_simp) <;> (try omega)))))
                  (apply wpPlan_soft; (focus (intro K hK; (conv => arg 4; (simp only [pick, List.filterMap_cons, List.filterMap_nil, List.getElem?_toArray, List.getElem?_cons_succ, List.getElem?_cons_zero])); go_wp2; exact only_mk hK)); (focus ((simp only [pick, List.filterMap_cons, List.filterMap_nil, List.getElem?_toArray, List.getElem?_cons_succ, List.getElem?_cons_zero]); (((try simp only [sides, hasSide, side, lowV, intV, slV, ptrV, Act.eval, Region.wanted, yielded_eq]); go_simp) <;> (try omega)))))
                  (apply wpPlan_soft; (focus (intro K hK; (conv => arg 4; (simp only [pick, List.filterMap_cons, List.filterMap_nil, List.getElem?_toArray, List.getElem?_cons_succ, List.getElem?_cons_zero])); go_wp2; exact only_mk hK)); (focus ((simp only [pick, List.filterMap_cons, List.filterMap_nil, List.getElem?_toArray, List.getElem?_cons_succ, List.getElem?_cons_zero]); (((try simp only [sides, hasSide, side, lowV, intV, slV, ptrV, Act.eval, Region.wanted, yielded_eq]); go_simp) <;> (try omega)))))
                  (refine wpPlan_end ?_)
                  go_wp2
                  go_roundw
                  case rel => exact ⟨i + 1, by omega, by go_num, hst, by (repeat' (first | exact Below.refl _ _ | assumption | (refine Below.alloc ?_ ?_ _) | (refine Below.drew ?_) | (refine Below.setCell ?_ ?_ _) | (refine Below.trans ?_ (Below.mono (by assumption) ?_)) | omega | (simp; done) | (simp; omega)))⟩
                  case measure => simp [intOf]; omega
            · have e : i = n2 := by omega
              subst e
              have e := hS.out
              rw [if_neg (by rw [Bool.not_eq_true, List.any_eq_false]; intro j hj; rw [hg.out j (List.mem_range.1 hj)]; simp)] at e
              subst e
              go_wp2
              go_ret
              exact ⟨rfl, hw4.trans (hb.mono hw4.size)⟩
end Go.Proofs.Ytfpdnigihjmohaa
