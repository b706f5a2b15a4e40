/- Calls into package slices that hand on a function of the caller's: IndexFunc, ContainsFunc; and Index, Contains. No condition. -/
import Derived.Test.YtfpdnigihjmohaaPush
import Derived.Shelf.Abstract
namespace Go.Proofs.Ytfpdnigihjmohaa
open Go.RowKit
set_option linter.unusedSimpArgs false
set_option linter.unusedVariables false
set_option maxRecDepth 100000
attribute [local irreducible] wpList

/-- the function value g with what it captured tells p of whatever reads by R, in all worlds in which all of w lies as it lay -/
def PredW {α : Type} (w : World) (g : Nat) (lb : Array Value) (R : World → Value → α → Prop) (p : α → Bool) : Prop :=
  ∀ (W : World) (u : Value) (a : α), Below w.heap.size w W → R W u a → Calls Try.prog g (#[u] ++ lb) W fun e w' => e = .returned (.bool (p a)) ∧ Below W.heap.size W w'
theorem PredW.up {α : Type} {w w1 : World} {g : Nat} {lb : Array Value} {R : World → Value → α → Prop} {p : α → Bool} (h : PredW w g lb R p) (hb : Below w.heap.size w w1) : PredW w1 g lb R p :=
  fun W u a hW hR => h W u a (hb.trans (hW.mono hb.size)) hR
/-- the first place at which p holds -/
def idxTo {α : Type} (p : α → Bool) (l : List α) : Int := match l.findIdx? p with | some k => k | none => -1
theorem idxTo_nonneg {α : Type} (p : α → Bool) (l : List α) : decide (0 ≤ idxTo p l) = l.any p := by
  unfold idxTo
  cases h : l.findIdx? p with
  | none =>
    rw [List.findIdx?_eq_none_iff] at h
    have : l.any p = false := by
      rw [List.any_eq_false]
      intro x hx
      simp [h x hx]
    rw [this]
    rfl
  | some k =>
    obtain ⟨hk, hp, _⟩ := List.findIdx?_eq_some_iff_getElem.1 h
    have : l.any p = true := List.any_eq_true.2 ⟨_, List.getElem_mem hk, hp⟩
    rw [this]
    simp
theorem idxTo_hit {α : Type} [Inhabited α] {p : α → Bool} {l : List α} {k : Nat} (d : α) (hk : k < l.length) (hp : p (l.getD k d) = true) (hn : ∀ j, j < k → p (l.getD j d) = false) : idxTo p l = k := by
  unfold idxTo
  have : l.findIdx? p = some k := by
    rw [List.findIdx?_eq_some_iff_getElem]
    refine ⟨hk, by simpa [hk] using hp, fun j hj => ?_⟩
    have := hn j hj
    simp [show j < l.length by omega] at this
    simp [this]
  rw [this]
theorem idxTo_miss {α : Type} {p : α → Bool} {l : List α} (d : α) (hn : ∀ j, j < l.length → p (l.getD j d) = false) : idxTo p l = -1 := by
  unfold idxTo
  have : l.findIdx? p = none := by
    rw [List.findIdx?_eq_none_iff]
    intro x hx
    obtain ⟨j, hj, rfl⟩ := List.mem_iff_getElem.1 hx
    have := hn j hj
    simpa [hj] using this
  rw [this]

set_option maxHeartbeats 1000000 in
theorem indexFuncRows (v : Value) (l : List (List Int)) (w : World) (g : Nat) (lb : Array Value) (p : List Int → Bool) (eg : ∀ args w, (callFunc g args).run Try.prog w = .ok (.enter g args) w) (h : SliceOf 1 Ints w v l) (hp : PredW w g lb Ints p) :
    Calls Try.prog 134 #[v, .func (.func g) #[] lb] w fun e w' => e = .returned (.int .i64 (idxTo p l)) ∧ Below w.heap.size w w' := by
  obtain ⟨ao, n, cap, rfl, H, L, hc, hm⟩ := h.shape
  have hS := Lib.hid (fun (k : Nat) (h1 : k < n) h2 (h3 : ∀ j, j < k → p (l.getD j []) = false) => idxTo_hit (p := p) (l := l) [] (show k < l.length by rw [← L.out]; exact h1) h2 h3)
  have hT := Lib.hid (fun (h3 : ∀ j, j < n → p (l.getD j []) = false) => idxTo_miss (p := p) (l := l) [] (fun j hj => h3 j (by rw [L.out]; exact hj)))
  generalize idxTo p l = r at *
  have hp := Lib.hid hp
  clear h
  go_enter Try.func134, Try.ntmps134
  go_wp2
  go_loopw [8] (fun v8 wr => ∃ k : Nat, k ≤ n ∧ v8 = .int .i64 k ∧ Hid (Below w.heap.size w wr) ∧ Hid (∀ j, j < k → p (l.getD j []) = false)) (fun v8 _ => n - (intOf v8).toNat)
  case atStart => exact ⟨0, Nat.zero_le _, rfl, Below.refl _ _, fun j hj => absurd hj (Nat.not_lt_zero _)⟩
  case round =>
    obtain ⟨k, hk, rfl, hb, hg⟩ := hrel
    replace hb := Lib.hid hb.out
    replace hg := Lib.hid hg.out
    by_cases hlt : k < n
    · obtain ⟨b, o, u, rfl, hck, hbs, hu⟩ := (H.up hb.out).row hlt
      have hcall := hp.out wr _ _ hb.out hu
      have hk1 := Lib.hid (fun (e : p (l.getD k []) = true) => hS.out k hlt e hg.out)
      have hk0 := Lib.hid (fun (e : p (l.getD k []) = false) j (hj : j < k + 1) => show p (l.getD j []) = false by
        by_cases e2 : j = k
        · rw [e2]; exact e
        · exact hg.out j (by omega))
      replace hu := Lib.hid hu
      generalize hq : p (l.getD k []) = q at *
      replace hq := Lib.hid hq
      cases q with
      | true =>
        have e1 := hk1.out (by trivial)
        subst e1
        go_wp2_with (go_at_fn g; refine hcall.mono ?_; rintro e w' ⟨rfl, hb'⟩)
        go_ret
        exact ⟨rfl, hb.out.trans (hb'.mono hb.out.size)⟩
      | false =>
        go_wp2_with (go_at_fn g; refine hcall.mono ?_; rintro e w' ⟨rfl, hb'⟩)
        go_roundw
        case rel => exact ⟨k + 1, by omega, by go_num, hb.out.trans (hb'.mono hb.out.size), hk0.out (by trivial)⟩
        case measure => simp [intOf]; omega
    · have e : k = n := by omega
      subst e
      have e1 := hT.out hg.out
      subst e1
      go_wp2
      go_ret
      exact ⟨rfl, hb.out⟩
theorem anyFuncRows (v : Value) (l : List (List Int)) (w : World) (g : Nat) (lb : Array Value) (p : List Int → Bool) (eg : ∀ args w, (callFunc g args).run Try.prog w = .ok (.enter g args) w) (h : SliceOf 1 Ints w v l) (hp : PredW w g lb Ints p) :
    Calls Try.prog 77 #[v, .func (.func g) #[] lb] w fun e w' => e = .returned (.bool (l.any p)) ∧ Below w.heap.size w w' := by
  have C := Lib.hid (indexFuncRows v l w g lb p eg h hp)
  rw [← idxTo_nonneg p l]
  generalize idxTo p l = r at *
  clear h hp
  go_enter Try.func77, Try.ntmps77
  go_wp2_with (go_at_call 134; refine C.out.mono ?_; rintro e w' ⟨rfl, hb'⟩)
  go_ret
  exact ⟨rfl, hb'⟩
set_option maxHeartbeats 1000000 in
theorem indexFuncInts (v : Value) (l : List (Int)) (w : World) (g : Nat) (lb : Array Value) (p : Int → Bool) (eg : ∀ args w, (callFunc g args).run Try.prog w = .ok (.enter g args) w) (h : SliceOf 1 IntR w v l) (hp : PredW w g lb IntR p) :
    Calls Try.prog 135 #[v, .func (.func g) #[] lb] w fun e w' => e = .returned (.int .i64 (idxTo p l)) ∧ Below w.heap.size w w' := by
  obtain ⟨ao, n, cap, rfl, H, L, hc, hm⟩ := h.shape
  have hS := Lib.hid (fun (k : Nat) (h1 : k < n) h2 (h3 : ∀ j, j < k → p (l.getD j 0) = false) => idxTo_hit (p := p) (l := l) 0 (show k < l.length by rw [← L.out]; exact h1) h2 h3)
  have hT := Lib.hid (fun (h3 : ∀ j, j < n → p (l.getD j 0) = false) => idxTo_miss (p := p) (l := l) 0 (fun j hj => h3 j (by rw [L.out]; exact hj)))
  generalize idxTo p l = r at *
  have hp := Lib.hid hp
  clear h
  go_enter Try.func135, Try.ntmps135
  go_wp2
  go_loopw [8] (fun v8 wr => ∃ k : Nat, k ≤ n ∧ v8 = .int .i64 k ∧ Hid (Below w.heap.size w wr) ∧ Hid (∀ j, j < k → p (l.getD j 0) = false)) (fun v8 _ => n - (intOf v8).toNat)
  case atStart => exact ⟨0, Nat.zero_le _, rfl, Below.refl _ _, fun j hj => absurd hj (Nat.not_lt_zero _)⟩
  case round =>
    obtain ⟨k, hk, rfl, hb, hg⟩ := hrel
    replace hb := Lib.hid hb.out
    replace hg := Lib.hid hg.out
    by_cases hlt : k < n
    · obtain ⟨b, o, rfl, hck, hbs, hw1, hw2⟩ := (H.up hb.out).int hlt; have hu : IntR wr (.int .i64 (l.getD k 0)) (l.getD k 0) := ⟨rfl, hw1, hw2⟩
      have hcall := hp.out wr _ _ hb.out hu
      have hk1 := Lib.hid (fun (e : p (l.getD k 0) = true) => hS.out k hlt e hg.out)
      have hk0 := Lib.hid (fun (e : p (l.getD k 0) = false) j (hj : j < k + 1) => show p (l.getD j 0) = false by
        by_cases e2 : j = k
        · rw [e2]; exact e
        · exact hg.out j (by omega))
      replace hu := Lib.hid hu
      generalize hq : p (l.getD k 0) = q at *
      replace hq := Lib.hid hq
      cases q with
      | true =>
        have e1 := hk1.out (by trivial)
        subst e1
        go_wp2_with (go_at_fn g; refine hcall.mono ?_; rintro e w' ⟨rfl, hb'⟩)
        go_ret
        exact ⟨rfl, hb.out.trans (hb'.mono hb.out.size)⟩
      | false =>
        go_wp2_with (go_at_fn g; refine hcall.mono ?_; rintro e w' ⟨rfl, hb'⟩)
        go_roundw
        case rel => exact ⟨k + 1, by omega, by go_num, hb.out.trans (hb'.mono hb.out.size), hk0.out (by trivial)⟩
        case measure => simp [intOf]; omega
    · have e : k = n := by omega
      subst e
      have e1 := hT.out hg.out
      subst e1
      go_wp2
      go_ret
      exact ⟨rfl, hb.out⟩
theorem anyFuncInts (v : Value) (l : List (Int)) (w : World) (g : Nat) (lb : Array Value) (p : Int → Bool) (eg : ∀ args w, (callFunc g args).run Try.prog w = .ok (.enter g args) w) (h : SliceOf 1 IntR w v l) (hp : PredW w g lb IntR p) :
    Calls Try.prog 79 #[v, .func (.func g) #[] lb] w fun e w' => e = .returned (.bool (l.any p)) ∧ Below w.heap.size w w' := by
  have C := Lib.hid (indexFuncInts v l w g lb p eg h hp)
  rw [← idxTo_nonneg p l]
  generalize idxTo p l = r at *
  clear h hp
  go_enter Try.func79, Try.ntmps79
  go_wp2_with (go_at_call 135; refine C.out.mono ?_; rintro e w' ⟨rfl, hb'⟩)
  go_ret
  exact ⟨rfl, hb'⟩

set_option maxHeartbeats 1000000 in
theorem index_ints (v : Value) (l : List Int) (x : Int) (w : World) (h : Ints w v l) :
    Calls Try.prog 112 #[v, .int .i64 x] w fun e w' => e = .returned (.int .i64 (idxTo (fun y => x == y) l)) ∧ w = w' := by
  obtain ⟨ao, n, cap, rfl, H, L, hc, hm⟩ := h.shape
  have hS := Lib.hid (fun (k : Nat) (h1 : k < n) h2 (h3 : ∀ j, j < k → (fun y => x == y) (l.getD j 0) = false) => idxTo_hit (p := fun y => x == y) (l := l) 0 (show k < l.length by rw [← L.out]; exact h1) h2 h3)
  have hT := Lib.hid (fun (h3 : ∀ j, j < n → (fun y => x == y) (l.getD j 0) = false) => idxTo_miss (p := fun y => x == y) (l := l) 0 (fun j hj => h3 j (by rw [← L.out] at hj; exact hj)))
  generalize idxTo (fun y => x == y) l = r at *
  clear h
  go_enter Try.func112, Try.ntmps112
  go_wp2
  go_loop [8] (fun v8 => ∃ k : Nat, k ≤ n ∧ v8 = .int .i64 k ∧ Hid (∀ j, j < k → (x == l.getD j 0) = false)) (fun v8 => n - (intOf v8).toNat)
  case atStart => exact ⟨0, Nat.zero_le _, rfl, fun j hj => absurd hj (Nat.not_lt_zero _)⟩
  case round =>
    obtain ⟨k, hk, rfl, hg⟩ := hrel
    replace hg := Lib.hid hg.out
    by_cases hlt : k < n
    · obtain ⟨b, o, rfl, hck, hbs, hw1, hw2⟩ := H.int hlt
      have hk1 := Lib.hid (fun (e : (x == l.getD k 0) = true) => hS.out k hlt e hg.out)
      have hk0 := Lib.hid (fun (e : (x == l.getD k 0) = false) j (hj : j < k + 1) => show (x == l.getD j 0) = false by
        by_cases e2 : j = k
        · rw [e2]; exact e
        · exact hg.out j (by omega))
      generalize l.getD k 0 = z at *
      by_cases hz : x = z
      · have e1 := hk1.out (by simpa using hz)
        subst e1
        have hzb : (x == z) = true := by simpa using hz
        replace hz := Lib.hid hz
        go_wp2
        go_ret
        exact ⟨rfl, rfl⟩
      · have hzb : (x == z) = false := by simpa using hz
        have hk0 := Lib.hid (hk0.out hzb)
        replace hz := Lib.hid hz
        go_wp2
        go_round
        case rel => exact ⟨k + 1, by omega, by go_num, hk0⟩
        case measure => simp [intOf]; omega
    · have e : k = n := by omega
      subst e
      have e1 := hT.out hg.out
      subst e1
      go_wp2
      go_ret
      exact ⟨rfl, rfl⟩
theorem contains_ints (v : Value) (l : List Int) (x : Int) (w : World) (h : Ints w v l) :
    Calls Try.prog 51 #[v, .int .i64 x] w fun e w' => e = .returned (.bool (l.any fun y => x == y)) ∧ w = w' := by
  have C := Lib.hid (index_ints v l x w h)
  rw [← idxTo_nonneg (fun y => x == y) l]
  generalize idxTo (fun y => x == y) l = r at *
  clear h
  go_enter Try.func51, Try.ntmps51
  go_wp2_with (go_at_call 112; refine C.out.mono ?_; rintro e w' ⟨rfl, rfl⟩)
  go_ret
  exact ⟨rfl, rfl⟩
end Go.Proofs.Ytfpdnigihjmohaa
