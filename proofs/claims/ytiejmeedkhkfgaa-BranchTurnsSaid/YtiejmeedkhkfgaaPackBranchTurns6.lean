/- Lemmas towards the statement: mirrors of functions, and plain laws. No condition. -/
import Derived.Test.YtiejmeedkhkfgaaPackBranchTurns5


namespace Go.Proofs.Ytiejmeedkhkfgaa
set_option linter.unusedSimpArgs false
set_option linter.unusedVariables false
set_option maxRecDepth 100000
def RdB (c : ByteArray) (kd : Nat) (p : Int) (t : BTr) (q : Int) : Prop := ∃ N, ∀ k, N ≤ k → qB c k kd p = some (t, q)
section
variable {c : ByteArray} {p q q2 : Int} {t u : BTr} {T0 T3 : Int → Option (BTr × Int)}
theorem parQ_33 (h : bch c p = 33) : parQ T0 T3 c p = (T0 (p + 1)).bind fun r => some (bn 33 false 0 [r.1], r.2) := by
 unfold parQ
 rw [if_neg (by omega), if_neg (by omega), if_pos h]
theorem parQ_way (h : bch c p = 69 ∨ bch c p = 65) : parQ T0 T3 c p = wayQ T0 T3 (decide (bch c p = 65)) c p := by
 unfold parQ
 rw [if_neg (by omega), if_neg (by omega), if_neg (by omega), if_pos h]
theorem parQ_40 (h : bch c p = 40) : parQ T0 T3 c p = (T3 (p + 1)).bind fun r => if bch c r.2 = 41 then some (r.1, r.2 + 1) else none := by
 unfold parQ
 rw [if_neg (by omega), if_neg (by omega), if_neg (by omega), if_neg (by omega), if_pos h]
theorem rb_one {kd kd' : Nat} {p' q' : Int} {t' : BTr} (h : RdB c kd p t q) (hs : ∀ k, qB c k kd p = some (t, q) → qB c (k + 1) kd' p' = some (t', q')) : RdB c kd' p' t' q' := by
 obtain ⟨N, hN⟩ := h
 refine ⟨N + 1, fun k hk => ?_⟩
 obtain ⟨k', rfl⟩ : ∃ k', k = k' + 1 := ⟨k - 1, by omega⟩
 exact hs k' (hN k' (by omega))
theorem rb_bang (h1 : bch c p = 33) (h : RdB c 0 (p + 1) t q) : RdB c 0 p (bn 33 false 0 [t]) q := rb_one h fun k e => by
 show parQ _ _ c p = _
 rw [parQ_33 h1, e]
 rfl
theorem rb_way {al : Bool} {sg : Int} (h1 : bch c p = if al = true then 65 else 69) (h2 : bch c (p + 1) = sg) (h3 : sg = 88 ∨ sg = 70 ∨ sg = 71) (h : RdB c 0 (p + 1 + 1) t q) : RdB c 0 p (bn sg al 0 [t]) q := rb_one h fun k e => by
 show parQ _ _ c p = _
 have h4 : bch c p = 69 ∨ bch c p = 65 := by
  cases al
  ·exact .inl h1
  ·exact .inr h1
 have hd : decide (bch c p = 65) = al := by
  cases al
  ·have h1 : bch c p = 69 := h1
   exact decide_eq_false (by omega)
  ·exact decide_eq_true h1
 rw [parQ_way h4, hd]
 unfold wayQ
 rw [if_pos (by rw [h2]; exact h3), e, h2]
 rfl
theorem rb_open (h1 : bch c p = 40) (h : RdB c 2 (p + 1) t q) (h2 : bch c q = 41) : RdB c 0 p t (q + 1) := rb_one h fun k e => by
 show parQ _ _ c p = _
 rw [parQ_40 h1, e]
 show (if bch c q = 41 then some (t, q + 1) else none) = _
 rw [if_pos h2]
theorem rb_until (h1 : bch c p = 69) (h2 : bch c (p + 1) = 40) (h : RdB c 2 (p + 1 + 1) t q) (h3 : bch c q = 85) (h' : RdB c 2 (q + 1) u q2) (h4 : bch c q2 = 41) : RdB c 0 p (bn 85 false 0 [t, u]) (q2 + 1) := by
 obtain ⟨N, hN⟩ := h
 obtain ⟨M, hM⟩ := h'
 refine ⟨N + M + 1, fun k hk => ?_⟩
 obtain ⟨k', rfl⟩ : ∃ k', k = k' + 1 := ⟨k - 1, by omega⟩
 show parQ _ _ c p = _
 rw [parQ_way (.inl h1), show decide (bch c p = 65) = false from decide_eq_false (by omega)]
 unfold wayQ
 rw [if_neg (by omega), if_pos h2, hN k' (by omega)]
 show (if bch c q = 85 then (qB c k' 2 (q + 1)).bind _ else none) = _
 rw [if_pos h3, hM k' (by omega)]
 show (if bch c q2 = 41 then _ else none) = _
 rw [if_pos h4]
theorem rb_term (h : RdB c 0 p t q) (h1 : bch c q ≠ 38) : RdB c 1 p t q := rb_one h fun k e => by
 show (qB c k 0 p).bind _ = _
 rw [e]
 show lopQL 38 _ c (c.size + 1) t q = _
 rw [lopQL, if_neg h1]
theorem rb_and (h : RdB c 0 p t q) (h1 : bch c q = 38) (h2 : RdB c 0 (q + 1) u q2) (h3 : bch c q2 ≠ 38) (h0 : 0 ≤ q) : RdB c 1 p (bn 38 false 0 [t, u]) q2 := by
 have hlt := bch_lt (text := c) (p := q) (by omega)
 obtain ⟨N, hN⟩ := h
 obtain ⟨M, hM⟩ := h2
 refine ⟨N + M + 1, fun k hk => ?_⟩
 obtain ⟨k', rfl⟩ : ∃ k', k = k' + 1 := ⟨k - 1, by omega⟩
 show (qB c k' 0 p).bind _ = _
 rw [hN k' (by omega)]
 show lopQL 38 (qB c k' 0) c (c.size + 1) t q = _
 obtain ⟨m, hm⟩ : ∃ m, c.size = m + 1 := ⟨c.size - 1, by omega⟩
 rw [hm, lopQL, if_pos h1, hM k' (by omega)]
 show lopQL 38 (qB c k' 0) c (m + 1) (bn 38 false 0 [t, u]) q2 = _
 rw [lopQL, if_neg h3]
theorem rb_for (h : RdB c 1 p t q) (h1 : bch c q ≠ 124) : RdB c 2 p t q := rb_one h fun k e => by
 show (qB c k 1 p).bind _ = _
 rw [e]
 show lopQL 124 _ c (c.size + 1) t q = _
 rw [lopQL, if_neg h1]
theorem rb_or (h : RdB c 1 p t q) (h1 : bch c q = 124) (h2 : RdB c 1 (q + 1) u q2) (h3 : bch c q2 ≠ 124) (h0 : 0 ≤ q) : RdB c 2 p (bn 124 false 0 [t, u]) q2 := by
 have hlt := bch_lt (text := c) (p := q) (by omega)
 obtain ⟨N, hN⟩ := h
 obtain ⟨M, hM⟩ := h2
 refine ⟨N + M + 1, fun k hk => ?_⟩
 obtain ⟨k', rfl⟩ : ∃ k', k = k' + 1 := ⟨k - 1, by omega⟩
 show (qB c k' 1 p).bind _ = _
 rw [hN k' (by omega)]
 show lopQL 124 (qB c k' 1) c (c.size + 1) t q = _
 obtain ⟨m, hm⟩ : ∃ m, c.size = m + 1 := ⟨c.size - 1, by omega⟩
 rw [hm, lopQL, if_pos h1, hM k' (by omega)]
 show lopQL 124 (qB c k' 1) c (m + 1) (bn 124 false 0 [t, u]) q2 = _
 rw [lopQL, if_neg h3]
theorem rb_all (h : RdB c 0 p t q) (h1 : bch c q ≠ 38) (h2 : bch c q ≠ 124) : RdB c 2 p t q := rb_for (rb_term h h1) h2
end
theorem lopQL_mono {c : ByteArray} {ch : Int} {f g : Int → Option (BTr × Int)} (hfg : ∀ p r, f p = some r → g p = some r) : ∀ (m : Nat) (t : BTr) (p : Int) (r : BTr × Int), lopQL ch f c m t p = some r → lopQL ch g c m t p = some r
 | 0, _, _, _, e => by simp [lopQL] at e
 | m + 1, t, p, r, e => by
  rw [lopQL] at e ⊢
  by_cases hc : bch c p = ch
  ·rw [if_pos hc] at e ⊢
   obtain ⟨x, z, e⟩ := Option.bind_eq_some_iff.1 e
   rw [hfg _ _ z]
   exact lopQL_mono hfg m _ _ r e
  ·rw [if_neg hc] at e ⊢
   exact e
theorem lopQ_mono {c : ByteArray} {ch : Int} {f g : Int → Option (BTr × Int)} (hfg : ∀ p r, f p = some r → g p = some r) (p : Int) (r : BTr × Int) (e : lopQ ch f c p = some r) : lopQ ch g c p = some r := by
 obtain ⟨x, z, e⟩ := Option.bind_eq_some_iff.1 e
 unfold lopQ
 rw [hfg _ _ z]
 exact lopQL_mono hfg _ _ _ r e
theorem bind_mono {α β : Type} {x y : Option α} {f g : α → Option β} {r : β} (hx : ∀ a, x = some a → y = some a) (hf : ∀ a r, f a = some r → g a = some r) (e : x.bind f = some r) : y.bind g = some r := by
 obtain ⟨a, z, e⟩ := Option.bind_eq_some_iff.1 e
 rw [hx a z]
 exact hf a r e
theorem wayQ_mono {c : ByteArray} {all : Bool} {f g f3 g3 : Int → Option (BTr × Int)} (h : ∀ p r, f p = some r → g p = some r) (h3 : ∀ p r, f3 p = some r → g3 p = some r) (p : Int) (r : BTr × Int) (e : wayQ f f3 all c p = some r) : wayQ g g3 all c p = some r := by
 unfold wayQ at e ⊢
 by_cases c1 : bch c (p + 1) = 88 ∨ bch c (p + 1) = 70 ∨ bch c (p + 1) = 71
 ·rw [if_pos c1] at e ⊢
  exact bind_mono (h _) (fun _ _ h => h) e
 rw [if_neg c1] at e ⊢
 by_cases c2 : bch c (p + 1) = 40
 ·rw [if_pos c2] at e ⊢
  refine bind_mono (h3 _) (fun a r e => ?_) e
  by_cases c3 : bch c a.2 = 85
  ·rw [if_pos c3] at e ⊢
   exact bind_mono (h3 _) (fun _ _ h => h) e
  ·rw [if_neg c3] at e
   cases e
 ·rw [if_neg c2] at e
  cases e
theorem parQ_mono {c : ByteArray} {f g f3 g3 : Int → Option (BTr × Int)} (h : ∀ p r, f p = some r → g p = some r) (h3 : ∀ p r, f3 p = some r → g3 p = some r) (p : Int) (r : BTr × Int) (e : parQ f f3 c p = some r) : parQ g g3 c p = some r := by
 unfold parQ at e ⊢
 by_cases c1 : bch c p = 48 ∨ bch c p = 49
 ·rw [if_pos c1] at e ⊢
  exact e
 rw [if_neg c1] at e ⊢
 by_cases c2 : 97 ≤ bch c p ∧ bch c p ≤ 100
 ·rw [if_pos c2] at e ⊢
  exact e
 rw [if_neg c2] at e ⊢
 by_cases c3 : bch c p = 33
 ·rw [if_pos c3] at e ⊢
  exact bind_mono (h _) (fun _ _ h => h) e
 rw [if_neg c3] at e ⊢
 by_cases c4 : bch c p = 69 ∨ bch c p = 65
 ·rw [if_pos c4] at e ⊢
  exact wayQ_mono h h3 p r e
 rw [if_neg c4] at e ⊢
 by_cases c5 : bch c p = 40
 ·rw [if_pos c5] at e ⊢
  exact bind_mono (h3 _) (fun _ _ h => h) e
 rw [if_neg c5] at e
 cases e
theorem qB_mono1 {c : ByteArray} : ∀ (k kd : Nat) (p : Int) (r : BTr × Int), qB c k kd p = some r → qB c (k + 1) kd p = some r
 | 0, _, _, _, e => by simp [qB] at e
 | k + 1, 0, p, r, e => parQ_mono (fun p r => qB_mono1 k 0 p r) (fun p r => qB_mono1 k 2 p r) p r e
 | k + 1, 1, p, r, e => lopQ_mono (fun p r => qB_mono1 k 0 p r) p r e
 | k + 1, 2, p, r, e => lopQ_mono (fun p r => qB_mono1 k 1 p r) p r e
 | k + 1, n + 3, p, r, e => lopQ_mono (fun p r => qB_mono1 k 1 p r) p r e
theorem qB_mono {c : ByteArray} {k kd : Nat} {p : Int} {r : BTr × Int} (e : qB c k kd p = some r) : ∀ {k'}, k ≤ k' → qB c k' kd p = some r
 | 0, h => by
  have : k = 0 := by omega
  subst this
  exact e
 | k' + 1, h => by
  by_cases hk : k = k' + 1
  ·subst hk
   exact e
  ·exact qB_mono1 k' kd p r (qB_mono e (by omega))
theorem rb_full {c : ByteArray} {K : Nat} {t t' : BTr} {q q' : Int} (h : RdB c 2 0 t q) (e : qB c K 2 0 = some (t', q')) : t' = t := by
 obtain ⟨N, hN⟩ := h
 have h1 := hN (N + K) (by omega)
 rw [qB_mono e (show K ≤ N + K by omega)] at h1
 cases h1
 rfl
structure InB (s c : ByteArray) (o : Int) : Prop where
 o0 : 0 ≤ o
 at_ : ∀ p : Int, 0 ≤ p → p < s.size → bch c (o + p) = bch s p
 close : bch c (o + s.size) = 41
section
variable {s c : ByteArray} {o : Int}
theorem InB.ch (h : InB s c o) {p x : Int} (h0 : 0 ≤ p) (h1 : p ≤ s.size) (hx : x ≠ 41) (hz : x ≠ 0) : bch c (o + p) = x ↔ bch s p = x := by
 by_cases hp : p < s.size
 ·rw [h.at_ p h0 hp]
 ·have : p = s.size := by omega
  subst this
  rw [h.close, bch_end (Int.le_refl _)]
  omega
def ExB (s : ByteArray) (o : Int) (f g : Int → Option (BTr × Int)) : Prop := ∀ (p : Int) (r : BTr × Int), 0 ≤ p → p ≤ s.size → f p = some r → (p < r.2 ∧ r.2 ≤ s.size) ∧ g (o + p) = some (r.1, o + r.2)
theorem wayQ_ext (h : InB s c o) {f g f3 g3 : Int → Option (BTr × Int)} (he : ExB s o f g) (he3 : ExB s o f3 g3) {all : Bool} {p : Int} {r : BTr × Int} (h0 : 0 ≤ p) (h1 : p < s.size) (e : wayQ f f3 all s p = some r) : (p < r.2 ∧ r.2 ≤ s.size) ∧ wayQ g g3 all c (o + p) = some (r.1, o + r.2) := by
 have hlt : p + 1 < s.size := by
  refine Decidable.byContradiction fun hn => ?_
  have hz := bch_end (text := s) (i := p + 1) (by omega)
  unfold wayQ at e
  rw [hz] at e
  simp at e
 have hch : bch c (o + p + 1) = bch s (p + 1) := by
  rw [show o + p + 1 = o + (p + 1) by omega]
  exact h.at_ _ (by omega) hlt
 unfold wayQ at e ⊢
 rw [hch]
 by_cases c1 : bch s (p + 1) = 88 ∨ bch s (p + 1) = 70 ∨ bch s (p + 1) = 71
 ·rw [if_pos c1] at e ⊢
  obtain ⟨x, z, e⟩ := Option.bind_eq_some_iff.1 e
  cases e
  obtain ⟨⟨k1, k2⟩, k3⟩ := he (p + 1 + 1) x (by omega) (by omega) z
  rw [show o + p + 1 + 1 = o + (p + 1 + 1) by omega, k3]
  exact ⟨⟨by show p < x.2; omega, k2⟩, rfl⟩
 rw [if_neg c1] at e ⊢
 by_cases c2 : bch s (p + 1) = 40
 ·rw [if_pos c2] at e ⊢
  obtain ⟨a, z, e⟩ := Option.bind_eq_some_iff.1 e
  obtain ⟨⟨k1, k2⟩, k3⟩ := he3 (p + 1 + 1) a (by omega) (by omega) z
  rw [show o + p + 1 + 1 = o + (p + 1 + 1) by omega, k3]
  show _ ∧ (if bch c (o + a.2) = 85 then (g3 (o + a.2 + 1)).bind _ else none) = _
  by_cases c3 : bch s a.2 = 85
  ·rw [if_pos c3] at e
   rw [if_pos ((h.ch (by omega) k2 (by decide) (by decide)).2 c3)]
   have hl := bch_lt (text := s) (p := a.2) (by omega)
   obtain ⟨b, z2, e⟩ := Option.bind_eq_some_iff.1 e
   obtain ⟨⟨j1, j2⟩, j3⟩ := he3 (a.2 + 1) b (by omega) (by omega) z2
   rw [show o + a.2 + 1 = o + (a.2 + 1) by omega, j3]
   show _ ∧ (if bch c (o + b.2) = 41 then some (bn 85 all 0 [a.1, b.1], o + b.2 + 1) else none) = _
   split at e
   ·rename_i hc
    have hl2 := bch_lt (text := s) (p := b.2) (by omega)
    cases e
    rw [if_pos (by rw [h.at_ b.2 (by omega) hl2]; exact hc)]
    refine ⟨⟨by show p < b.2 + 1; omega, by show b.2 + 1 ≤ (s.size : Int); omega⟩, ?_⟩
    show some (bn 85 all 0 [a.1, b.1], o + b.2 + 1) = some (bn 85 all 0 [a.1, b.1], o + (b.2 + 1))
    rw [show o + b.2 + 1 = o + (b.2 + 1) by omega]
   ·cases e
  ·rw [if_neg c3] at e
   cases e
 ·rw [if_neg c2] at e
  cases e
theorem parQ_ext (h : InB s c o) {f g f3 g3 : Int → Option (BTr × Int)} (he : ExB s o f g) (he3 : ExB s o f3 g3) : ExB s o (parQ f f3 s) (parQ g g3 c) := fun p r h0 h1 e => by
 have hlt : p < s.size := by
  refine Decidable.byContradiction fun hn => ?_
  have hz := bch_end (text := s) (i := p) (by omega)
  unfold parQ at e
  rw [hz] at e
  simp at e
 have hch := h.at_ p h0 hlt
 have leaf : ∀ t : BTr, some (t, p + 1) = some r → (p < r.2 ∧ r.2 ≤ s.size) ∧ some (t, o + p + 1) = some (r.1, o + r.2) := fun t e => by
  cases e
  exact ⟨⟨by show p < p + 1; omega, by show p + 1 ≤ (s.size : Int); omega⟩, by rw [show o + p + 1 = o + (p + 1) by omega]⟩
 unfold parQ at e ⊢
 rw [hch]
 by_cases c1 : bch s p = 48 ∨ bch s p = 49
 ·rw [if_pos c1] at e ⊢
  exact leaf _ e
 rw [if_neg c1] at e ⊢
 by_cases c2 : 97 ≤ bch s p ∧ bch s p ≤ 100
 ·rw [if_pos c2] at e ⊢
  exact leaf _ e
 rw [if_neg c2] at e ⊢
 by_cases c3 : bch s p = 33
 ·rw [if_pos c3] at e ⊢
  obtain ⟨x, z, e⟩ := Option.bind_eq_some_iff.1 e
  cases e
  obtain ⟨⟨k1, k2⟩, k3⟩ := he (p + 1) x (by omega) (by omega) z
  rw [show o + p + 1 = o + (p + 1) by omega, k3]
  exact ⟨⟨by show p < x.2; omega, k2⟩, rfl⟩
 rw [if_neg c3] at e ⊢
 by_cases c4 : bch s p = 69 ∨ bch s p = 65
 ·rw [if_pos c4] at e ⊢
  exact wayQ_ext h he he3 h0 hlt e
 rw [if_neg c4] at e ⊢
 by_cases c5 : bch s p = 40
 ·rw [if_pos c5] at e ⊢
  obtain ⟨x, z, e⟩ := Option.bind_eq_some_iff.1 e
  obtain ⟨⟨k1, k2⟩, k3⟩ := he3 (p + 1) x (by omega) (by omega) z
  split at e
  ·rename_i hc
   have hl := bch_lt (text := s) (p := x.2) (by omega)
   cases e
   rw [show o + p + 1 = o + (p + 1) by omega, k3]
   refine ⟨⟨by show p < x.2 + 1; omega, by show x.2 + 1 ≤ (s.size : Int); omega⟩, ?_⟩
   show (if bch c (o + x.2) = 41 then some (x.1, o + x.2 + 1) else none) = _
   rw [if_pos (by rw [h.at_ x.2 (by omega) hl]; exact hc)]
   show some (x.1, o + x.2 + 1) = some (x.1, o + (x.2 + 1))
   rw [show o + x.2 + 1 = o + (x.2 + 1) by omega]
  ·cases e
 rw [if_neg c5] at e
 cases e
theorem lopQL_ext (h : InB s c o) {ch : Int} (hc1 : ch ≠ 41) (hc0 : ch ≠ 0) {f g : Int → Option (BTr × Int)} (he : ExB s o f g) : ∀ (m m' : Nat) (t : BTr) (p : Int) (r : BTr × Int), m ≤ m' → 0 ≤ p → p ≤ s.size → lopQL ch f s m t p = some r → (p ≤ r.2 ∧ r.2 ≤ s.size) ∧ lopQL ch g c m' t (o + p) = some (r.1, o + r.2)
 | 0, _, _, _, _, _, _, _, e => by simp [lopQL] at e
 | m + 1, 0, _, _, _, hm, _, _, _ => by omega
 | m + 1, m' + 1, t, p, r, hm, h0, h1, e => by
  rw [lopQL] at e ⊢
  by_cases hc : bch s p = ch
  ·rw [if_pos hc] at e
   rw [if_pos ((h.ch h0 h1 hc1 hc0).2 hc)]
   have hl := bch_lt (text := s) (p := p) (by omega)
   obtain ⟨x, z, e⟩ := Option.bind_eq_some_iff.1 e
   obtain ⟨⟨k1, k2⟩, k3⟩ := he (p + 1) x (by omega) (by omega) z
   obtain ⟨⟨j1, j2⟩, j3⟩ := lopQL_ext h hc1 hc0 he m m' _ x.2 r (by omega) (by omega) k2 e
   rw [show o + p + 1 = o + (p + 1) by omega, k3]
   exact ⟨⟨by omega, j2⟩, j3⟩
  ·rw [if_neg hc] at e
   rw [if_neg fun e => hc ((h.ch h0 h1 hc1 hc0).1 e)]
   cases e
   exact ⟨⟨Int.le_refl _, h1⟩, rfl⟩
theorem lopQ_ext (h : InB s c o) (hsz : s.size ≤ c.size) {ch : Int} (hc1 : ch ≠ 41) (hc0 : ch ≠ 0) {f g : Int → Option (BTr × Int)} (he : ExB s o f g) : ExB s o (lopQ ch f s) (lopQ ch g c) := fun p r h0 h1 e => by
 obtain ⟨x, z, e⟩ := Option.bind_eq_some_iff.1 e
 obtain ⟨⟨k1, k2⟩, k3⟩ := he p x h0 h1 z
 obtain ⟨⟨j1, j2⟩, j3⟩ := lopQL_ext h hc1 hc0 he (s.size + 1) (c.size + 1) x.1 x.2 r (by omega) (by omega) k2 e
 unfold lopQ
 rw [k3]
 exact ⟨⟨by omega, j2⟩, j3⟩
theorem qB_ext (h : InB s c o) (hsz : s.size ≤ c.size) : ∀ k kd, ExB s o (qB s k kd) (qB c k kd)
 | 0, _ => fun p r _ _ e => by simp [qB] at e
 | k + 1, 0 => parQ_ext h (qB_ext h hsz k 0) (qB_ext h hsz k 2)
 | k + 1, 1 => lopQ_ext h hsz (by decide) (by decide) (qB_ext h hsz k 0)
 | k + 1, 2 => lopQ_ext h hsz (by decide) (by decide) (qB_ext h hsz k 1)
 | k + 1, n + 3 => lopQ_ext h hsz (by decide) (by decide) (qB_ext h hsz k 1)
theorem rb_in {K : Nat} {S : BTr} {p q : Int} (h : InB s c o) (hsz : s.size ≤ c.size) (hs : qB s K 2 0 = some (S, (s.size : Int))) (h1 : bch c p = 40) (hp : p + 1 = o) (hq : q = o + s.size + 1) : RdB c 0 p S q := by
 subst hp
 subst hq
 refine rb_open h1 ⟨K, fun k hk => ?_⟩ h.close
 have := (qB_ext h hsz k 2 0 _ (Int.le_refl _) (Int.natCast_nonneg _) (qB_mono hs hk)).2
 rw [Int.add_zero] at this
 exact this
end
theorem byteAt_data (s : ByteArray) (i : Nat) : s[i]? = s.data[i]? := by
 by_cases h : i < s.size
 ·rw [getElem?_pos s i h]
  have h2 : i < s.data.size := h
  rw [getElem?_pos s.data i h2]
  rfl
 ·rw [getElem?_neg s i h]
  have h2 : ¬ i < s.data.size := h
  rw [getElem?_neg s.data i h2]
theorem bch_app (a b : ByteArray) (i : Int) : bch (a ++ b) i = if i < a.size then bch a i else bch b (i - a.size) := by
 unfold bch byteAt
 by_cases h0 : 0 ≤ i
 ·rw [if_pos h0, byteAt_data, ByteArray.data_append, Array.getElem?_append]
  have hs : a.data.size = a.size := rfl
  rw [hs]
  by_cases h : i < a.size
  ·rw [if_pos h, if_pos (by omega), if_pos h0, byteAt_data]
  ·rw [if_neg h, if_neg (by omega), if_pos (by omega), byteAt_data, show (i - a.size).toNat = i.toNat - a.size by omega]
 ·rw [if_neg h0, if_pos (by omega), if_neg h0]
theorem bch_l {a b : ByteArray} {i : Int} (h : i < a.size) : bch (a ++ b) i = bch a i := by rw [bch_app, if_pos h]
theorem bch_r {a b : ByteArray} {i j : Int} (e : i = a.size + j) (h : 0 ≤ j) : bch (a ++ b) i = bch b j := by
 rw [bch_app, if_neg (by omega), show i - a.size = j by omega]
end Go.Proofs.Ytiejmeedkhkfgaa


namespace Go.Proofs.Ytiejmeedkhkfgaa
open Go.RowKit Go.MapKept
set_option linter.unusedSimpArgs false
set_option linter.unusedVariables false
set_option maxRecDepth 100000
def brTurn_vc (g : ApiGraph) (s : ByteArray) (t : ByteArray) (Q : Bool → Prop) : Prop :=
 g.fArrows.length ≤ 9223372036854775807 →
 (∃ J : Bool → Prop, (IfP ((HoldsR (ApiGraph.mk 1 2 ([(ApiArrow.mk 0 0 1)] : (List ApiArrow))) (ByteArray.mk #[65, 70, 33, 97])).2 != 0) (J true) (IfP (((HoldsR (ApiGraph.mk 1 2 ([(ApiArrow.mk 0 0 1)] : (List ApiArrow))) (ByteArray.mk #[65, 70, 33, 97])).1.length : Int) != 2) (J true) (∃ e, idx (HoldsR (ApiGraph.mk 1 2 ([(ApiArrow.mk 0 0 1)] : (List ApiArrow))) (ByteArray.mk #[65, 70, 33, 97])).1 0 = some e ∧
 J (!e)))) ∧
 (∀ (x40 : Bool), J x40 → IfP x40 (Q false) (∀ r : ApiFault, (CheckB s) r →
 (∀ r_2 : ApiFault, (CheckB t) r_2 →
 (IfP ((r.fCode != 0) || (r_2.fCode != 0)) (Q true) (((ByteArray.mk #[65, 88, 40]).size + s.size ≤ 1048576) ∧
 (((ByteArray.mk #[65, 88, 40]) ++ s).size + (ByteArray.mk #[41]).size ≤ 1048576) ∧
 ((ByteArray.mk #[65, 71, 40]).size + s.size ≤ 1048576) ∧
 (((ByteArray.mk #[65, 71, 40]) ++ s).size + (ByteArray.mk #[41]).size ≤ 1048576) ∧
 ((ByteArray.mk #[65, 70, 40]).size + s.size ≤ 1048576) ∧
 (((ByteArray.mk #[65, 70, 40]) ++ s).size + (ByteArray.mk #[41]).size ≤ 1048576) ∧
 ((ByteArray.mk #[69, 40, 40]).size + s.size ≤ 1048576) ∧
 (((ByteArray.mk #[69, 40, 40]) ++ s).size + (ByteArray.mk #[41, 85, 40]).size ≤ 1048576) ∧
 ((((ByteArray.mk #[69, 40, 40]) ++ s) ++ (ByteArray.mk #[41, 85, 40])).size + t.size ≤ 1048576) ∧
 (((((ByteArray.mk #[69, 40, 40]) ++ s) ++ (ByteArray.mk #[41, 85, 40])) ++ t).size + (ByteArray.mk #[41, 41]).size ≤ 1048576) ∧
 ((ByteArray.mk #[33, 69, 88, 33, 40]).size + s.size ≤ 1048576) ∧
 (((ByteArray.mk #[33, 69, 88, 33, 40]) ++ s).size + (ByteArray.mk #[41]).size ≤ 1048576) ∧
 ((ByteArray.mk #[33, 69, 70, 33, 40]).size + s.size ≤ 1048576) ∧
 (((ByteArray.mk #[33, 69, 70, 33, 40]) ++ s).size + (ByteArray.mk #[41]).size ≤ 1048576) ∧
 ((ByteArray.mk #[33, 69, 71, 33, 40]).size + s.size ≤ 1048576) ∧
 (((ByteArray.mk #[33, 69, 71, 33, 40]) ++ s).size + (ByteArray.mk #[41]).size ≤ 1048576) ∧
 ((ByteArray.mk #[40]).size + t.size ≤ 1048576) ∧
 (((ByteArray.mk #[40]) ++ t).size + (ByteArray.mk #[41, 124, 40, 40]).size ≤ 1048576) ∧
 ((((ByteArray.mk #[40]) ++ t) ++ (ByteArray.mk #[41, 124, 40, 40])).size + s.size ≤ 1048576) ∧
 (((((ByteArray.mk #[40]) ++ t) ++ (ByteArray.mk #[41, 124, 40, 40])) ++ s).size + (ByteArray.mk #[41, 38, 69, 88, 69, 40, 40]).size ≤ 1048576) ∧
 ((((((ByteArray.mk #[40]) ++ t) ++ (ByteArray.mk #[41, 124, 40, 40])) ++ s) ++ (ByteArray.mk #[41, 38, 69, 88, 69, 40, 40])).size + s.size ≤ 1048576) ∧
 (((((((ByteArray.mk #[40]) ++ t) ++ (ByteArray.mk #[41, 124, 40, 40])) ++ s) ++ (ByteArray.mk #[41, 38, 69, 88, 69, 40, 40])) ++ s).size + (ByteArray.mk #[41, 85, 40]).size ≤ 1048576) ∧
 ((((((((ByteArray.mk #[40]) ++ t) ++ (ByteArray.mk #[41, 124, 40, 40])) ++ s) ++ (ByteArray.mk #[41, 38, 69, 88, 69, 40, 40])) ++ s) ++ (ByteArray.mk #[41, 85, 40])).size + t.size ≤ 1048576) ∧
 (((((((((ByteArray.mk #[40]) ++ t) ++ (ByteArray.mk #[41, 124, 40, 40])) ++ s) ++ (ByteArray.mk #[41, 38, 69, 88, 69, 40, 40])) ++ s) ++ (ByteArray.mk #[41, 85, 40])) ++ t).size + (ByteArray.mk #[41, 41, 41]).size ≤ 1048576) ∧
 ∃ (Inv : Int → Prop) (mu : Int → Nat), Inv 0 ∧
 ∀ (x14 : Int) , Inv x14 → (IfP (decide (x14 < (([(((ByteArray.mk #[65, 88, 40]) ++ s) ++ (ByteArray.mk #[41])), (((ByteArray.mk #[65, 71, 40]) ++ s) ++ (ByteArray.mk #[41])), (((ByteArray.mk #[65, 70, 40]) ++ s) ++ (ByteArray.mk #[41])), (((((ByteArray.mk #[69, 40, 40]) ++ s) ++ (ByteArray.mk #[41, 85, 40])) ++ t) ++ (ByteArray.mk #[41, 41]))] : (List ByteArray)).length : Int))) (∃ J_2 : Prop, (∃ e_2, idx ([(((ByteArray.mk #[65, 88, 40]) ++ s) ++ (ByteArray.mk #[41])), (((ByteArray.mk #[65, 71, 40]) ++ s) ++ (ByteArray.mk #[41])), (((ByteArray.mk #[65, 70, 40]) ++ s) ++ (ByteArray.mk #[41])), (((((ByteArray.mk #[69, 40, 40]) ++ s) ++ (ByteArray.mk #[41, 85, 40])) ++ t) ++ (ByteArray.mk #[41, 41]))] : (List ByteArray)) x14 = some e_2 ∧
 ∃ e_3, idx ([(((ByteArray.mk #[33, 69, 88, 33, 40]) ++ s) ++ (ByteArray.mk #[41])), (((ByteArray.mk #[33, 69, 70, 33, 40]) ++ s) ++ (ByteArray.mk #[41])), (((ByteArray.mk #[33, 69, 71, 33, 40]) ++ s) ++ (ByteArray.mk #[41])), (((((((((ByteArray.mk #[40]) ++ t) ++ (ByteArray.mk #[41, 124, 40, 40])) ++ s) ++ (ByteArray.mk #[41, 38, 69, 88, 69, 40, 40])) ++ s) ++ (ByteArray.mk #[41, 85, 40])) ++ t) ++ (ByteArray.mk #[41, 41, 41]))] : (List ByteArray)) x14 = some e_3 ∧
 IfP (((HoldsR g e_2).2 != 0) || ((HoldsR g e_3).2 != 0)) (J_2) (∃ (Inv_2 : Int → Prop) (mu_2 : Int → Nat), Inv_2 0 ∧
 ∀ (x19 : Int) , Inv_2 x19 → (IfP (decide (x19 < ((HoldsR g e_2).1.length : Int))) (∃ e_4, idx (HoldsR g e_2).1 x19 = some e_4 ∧
 ∃ e_5, idx (HoldsR g e_3).1 x19 = some e_5 ∧
 IfP (e_4 != e_5) (Q false) ((Inv_2 (wr (x19 + 1)) ∧ mu_2 (wr (x19 + 1)) < mu_2 x19))) (J_2)))) ∧
 (J_2 → (Inv (wr (x14 + 1)) ∧ mu (wr (x14 + 1)) < mu x14))) (Q true))))))))
noncomputable abbrev qbrTurn0 := (ByteArray.mk #[41])
noncomputable abbrev qbrTurn1 := (ByteArray.mk #[41, 85, 40])
noncomputable abbrev qbrTurn2 := (ByteArray.mk #[41, 38, 69, 88, 69, 40, 40])
noncomputable abbrev qbrTurn3 := (ByteArray.mk #[33, 69, 88, 33, 40])
noncomputable abbrev qbrTurn4 := (ByteArray.mk #[33, 69, 70, 33, 40])
noncomputable abbrev qbrTurn5 := (ByteArray.mk #[33, 69, 71, 33, 40])
noncomputable abbrev qbrTurn6 := (ByteArray.mk #[41, 124, 40, 40])
noncomputable abbrev qbrTurn7 := (ByteArray.mk #[65, 88, 40])
noncomputable abbrev qbrTurn8 := (ByteArray.mk #[65, 71, 40])
noncomputable abbrev qbrTurn9 := (ByteArray.mk #[69, 40, 40])
noncomputable abbrev qbrTurn10 := (HoldsR (ApiGraph.mk 1 2 ([(ApiArrow.mk 0 0 1)] : (List ApiArrow))) (ByteArray.mk #[65, 70, 33, 97]))
noncomputable abbrev qbrTurn11 := (ByteArray.mk #[65, 70, 40])
set_option maxHeartbeats 2000000 in
theorem brTurn_walk (g : ApiGraph) (s : ByteArray) (t : ByteArray) (Q : Bool → Prop) (h : brTurn_vc g s t Q) : Ct 3 [.sv (.agg [I g.fLetters, I g.fPlaces, LS ApiArrow.ty g.fArrows]), .sv (.one (.v (.string s))), .sv (.one (.v (.string t)))] [] Q (fun (r : Bool) => .sv (.one (B r))) := by
 have ht := tab_ok
 refine Ct.body Try.func3 rfl rfl rfl rfl (fun c hn => ?_)
 unfold brTurn_vc at h
 refine En.lenA 0 2 (by rfl) (by rfl) (fun hl => ?_)
 replace h := h hl
 clear hl
 refine En.seq ?_
 refine En.region ?_
 refine WL.run ht hn 2 ⟨[sl 1 (.v (.string s)), sl 2 (.v (.string t)), sl 3 (.ptr 0 0)], [.box (ApiGraph.cl g) 24 false]⟩ (by kernel_rfl) ?_
 refine WL.nil ?_
 refine En.seq ?_
 refine En.region ?_
 refine WL.run ht hn 1 ⟨[sl 1 (.v (.string s)), sl 2 (.v (.string t)), sl 3 (.ptr 0 0), (20, .sv (.agg [I 0, I 0, I 1]))], [.box (ApiGraph.cl g) 24 false]⟩ (by kernel_rfl) ?_
 refine WL.mt0 (K := []) (p := some (1, rowI 26 ApiArrow.ty ([(ApiArrow.mk 0 0 1)] : (List ApiArrow)))) hn (by rfl) (mt_lit (T := ApiArrow.ty) ([(ApiArrow.mk 0 0 1)] : (List ApiArrow)) (mt_bsl 1 (r := cellsOf ApiArrow.ty ([(ApiArrow.mk 0 0 1)] : (List ApiArrow))) ht rfl (by rfl) (by rfl) (by rfl) (by kernel_rfl) (by rfl)) (fun _ h => by cases h) (fun _ => rfl) (fun _ => rfl) (by rfl) (Nat.le_of_ble_eq_true rfl)) (by rfl) (by rfl) (by rfl) ?_
 refine WL.run ht hn 3 ⟨[sl 1 (.v (.string s)), sl 2 (.v (.string t)), sl 3 (.ptr 0 0), sl 7 (.ptr 2 0)], [.box (ApiGraph.cl g) 24 false, rowI 26 ApiArrow.ty ([(ApiArrow.mk 0 0 1)] : (List ApiArrow)), .box [I 1, I 2, .own 1] 24 false]⟩ (by kernel_rfl) ?_
 refine WL.nil ?_
 refine En.seq ?_
 refine En.region ?_
 refine WL.run ht hn 1 ⟨[sl 1 (.v (.string s)), sl 2 (.v (.string t)), sl 3 (.ptr 0 0), (24, .sv (.agg [I 1, I 2, .own 1]))], [.box (ApiGraph.cl g) 24 false, rowI 26 ApiArrow.ty ([(ApiArrow.mk 0 0 1)] : (List ApiArrow)), .gone]⟩ (by kernel_rfl) ?_
 refine WL.seal (T := ApiArrow.ty) (l := ([(ApiArrow.mk 0 0 1)] : (List ApiArrow))) (e := 26) 1 rfl ?_
 refine WL.run ht hn 0 ⟨[sl 1 (.v (.string s)), sl 2 (.v (.string t)), sl 3 (.ptr 0 0), (24, .sv (.agg [I 1, I 2, LS ApiArrow.ty ([(ApiArrow.mk 0 0 1)] : (List ApiArrow))]))], [.box (ApiGraph.cl g) 24 false, .gone, .gone]⟩ (by kernel_rfl) ?_
 refine WL.mt0 (K := []) (p := none) hn (by rfl) (mt_call (bHolds_ct (ApiGraph.mk 1 2 ([(ApiArrow.mk 0 0 1)] : (List ApiArrow))) (ByteArray.mk #[65, 70, 33, 97])) en9 (caps := []) [] rfl (by rfl) (by kernel_rfl) (by kernel_rfl) (by rfl) (by rfl) (by rfl)) (by rfl) (by rfl) (by rfl) ?_
 refine WL.run ht hn 5 ⟨[sl 1 (.v (.string s)), sl 2 (.v (.string t)), sl 3 (.ptr 0 0), sl 8 (LS boolT (qbrTurn10).1), sl 9 (I (qbrTurn10).2)], [.box (ApiGraph.cl g) 24 false, .gone, .gone]⟩ (by kernel_rfl) ?_
 refine WL.nil ?_
 refine En.seq ?_
 obtain ⟨J, h, hJ⟩ := h
 refine En.seqJ (σ := Bool) (fun zz => J zz) (fun zz => ⟨[sl 1 (.v (.string s)), sl 2 (.v (.string t)), sl 3 (.ptr 0 0), sl 40 (B zz)], [.box (ApiGraph.cl g) 24 false, .gone, .gone]⟩) ?_ ?_
 refine En.region ?_
 refine WL.run ht hn 3 ⟨[sl 1 (.v (.string s)), sl 2 (.v (.string t)), sl 3 (.ptr 0 0), sl 8 (LS boolT (qbrTurn10).1), sl 30 (B ((qbrTurn10).2 != 0))], [.box (ApiGraph.cl g) 24 false, .gone, .gone]⟩ (by kernel_rfl) ?_
 refine splitB ((qbrTurn10).2 != 0) (fun hb => ?_) (fun hb => ?_)
 replace h := h.1 hb
 refine WL.setB 30 hb (by kernel_rfl) ?_
 refine WL.run ht hn 10 ⟨[sl 1 (.v (.string s)), sl 2 (.v (.string t)), sl 3 (.ptr 0 0), sl 40 (B true)], [.box (ApiGraph.cl g) 24 false, .gone, .gone]⟩ (by kernel_rfl) ?_
 refine WL.nil ?_
 exact En.at (I := fun zz => J zz) (T := fun zz => ⟨[sl 1 (.v (.string s)), sl 2 (.v (.string t)), sl 3 (.ptr 0 0), sl 40 (B zz)], [.box (ApiGraph.cl g) 24 false, .gone, .gone]⟩) true h (by kernel_rfl)
 replace h := h.2 hb
 refine WL.setB 30 hb (by kernel_rfl) ?_
 refine WL.run ht hn 5 ⟨[sl 1 (.v (.string s)), sl 2 (.v (.string t)), sl 3 (.ptr 0 0), sl 8 (LS boolT (qbrTurn10).1), sl 35 (B (((qbrTurn10).1.length : Int) != 2))], [.box (ApiGraph.cl g) 24 false, .gone, .gone]⟩ (by kernel_rfl) ?_
 refine splitB (((qbrTurn10).1.length : Int) != 2) (fun hb => ?_) (fun hb => ?_)
 replace h := h.1 hb
 refine WL.setB 35 hb (by kernel_rfl) ?_
 refine WL.run ht hn 5 ⟨[sl 1 (.v (.string s)), sl 2 (.v (.string t)), sl 3 (.ptr 0 0), sl 40 (B true)], [.box (ApiGraph.cl g) 24 false, .gone, .gone]⟩ (by kernel_rfl) ?_
 refine WL.nil ?_
 exact En.at (I := fun zz => J zz) (T := fun zz => ⟨[sl 1 (.v (.string s)), sl 2 (.v (.string t)), sl 3 (.ptr 0 0), sl 40 (B zz)], [.box (ApiGraph.cl g) 24 false, .gone, .gone]⟩) true h (by kernel_rfl)
 replace h := h.2 hb
 refine WL.setB 35 hb (by kernel_rfl) ?_
 refine WL.run ht hn 1 ⟨[sl 1 (.v (.string s)), sl 2 (.v (.string t)), sl 3 (.ptr 0 0), sl 35 (B false), sl 36 (LS boolT (qbrTurn10).1)], [.box (ApiGraph.cl g) 24 false, .gone, .gone]⟩ (by kernel_rfl) ?_
 obtain ⟨e, he, h⟩ := h
 refine WL.val hn (by rfl) (val_index (T := boolT) (l := (qbrTurn10).1) (i := 0) ht rfl (by rfl) (by rfl) (by rfl) (by rfl) (by rfl) (by rfl) he) (by rfl) ?_
 refine WL.val hn (by rfl) (val_load (s := .one (B e)) ht rfl (by rfl) (by rfl) (by rfl) (by rfl) (by rfl)) (by rfl) ?_
 refine WL.run ht hn 2 ⟨[sl 1 (.v (.string s)), sl 2 (.v (.string t)), sl 3 (.ptr 0 0), sl 40 (B (!e))], [.box (ApiGraph.cl g) 24 false, .gone, .gone]⟩ (by kernel_rfl) ?_
 refine WL.nil ?_
 exact En.at (I := fun zz => J zz) (T := fun zz => ⟨[sl 1 (.v (.string s)), sl 2 (.v (.string t)), sl 3 (.ptr 0 0), sl 40 (B zz)], [.box (ApiGraph.cl g) 24 false, .gone, .gone]⟩) (!e) h (by kernel_rfl)
 intro x40 h
 replace h := hJ _ h
 show En c ⟨[sl 1 (.v (.string s)), sl 2 (.v (.string t)), sl 3 (.ptr 0 0), sl 40 (B x40)], [.box (ApiGraph.cl g) 24 false, .gone, .gone]⟩ _
 refine En.cond (b := x40) (by kernel_rfl) (fun hb => ?_) (fun hb => ?_)
 replace h := h.1 hb
 refine En.seq ?_
 refine En.region ?_
 refine WL.run ht hn 1 ⟨[sl 6 (B false)], [.gone, .gone, .gone]⟩ (by kernel_rfl) ?_
 refine WL.nil ?_
 refine En.ret ?_
 exact En.back ht false h (by kernel_rfl) rfl
 replace h := h.2 hb
 refine En.skip ?_
 refine En.seq ?_
 refine En.region ?_
 refine WL.run ht hn 1 ⟨[sl 1 (.v (.string s)), sl 2 (.v (.string t)), sl 3 (.ptr 0 0), sl 41 (.v (.string s))], [.box (ApiGraph.cl g) 24 false, .gone, .gone]⟩ (by kernel_rfl) ?_
 refine WL.mtQ (Q := CheckB s) (x := fun (r : ApiFault) => .sv (.agg (ApiFault.cl r))) (p := fun _ => none) hn (by rfl) (mtq_call (bCheck_ct s) en10 (caps := []) [] rfl (by rfl) (by kernel_rfl) (by kernel_rfl) (by rfl) (fun _ => rfl) (by rfl)) (fun r hr_2 => ⟨by rfl, _, by rfl, ?_⟩)
 replace h := h r hr_2
 refine WL.run ht hn 2 ⟨[sl 1 (.v (.string s)), sl 2 (.v (.string t)), sl 3 (.ptr 0 0), sl 10 (.ptr 3 0)], [.box (ApiGraph.cl g) 24 false, .gone, .gone, .box (ApiFault.cl r) 32 false]⟩ (by kernel_rfl) ?_
 refine WL.nil ?_
 refine En.seq ?_
 refine En.region ?_
 refine WL.run ht hn 1 ⟨[sl 1 (.v (.string s)), sl 2 (.v (.string t)), sl 3 (.ptr 0 0), sl 10 (.ptr 3 0), sl 43 (.v (.string t))], [.box (ApiGraph.cl g) 24 false, .gone, .gone, .box (ApiFault.cl r) 32 false]⟩ (by kernel_rfl) ?_
 refine WL.mtQ (Q := CheckB t) (x := fun (r : ApiFault) => .sv (.agg (ApiFault.cl r))) (p := fun _ => none) hn (by rfl) (mtq_call (bCheck_ct t) en10 (caps := []) [] rfl (by rfl) (by kernel_rfl) (by kernel_rfl) (by rfl) (fun _ => rfl) (by rfl)) (fun r_2 hr_2_2 => ⟨by rfl, _, by rfl, ?_⟩)
 replace h := h r_2 hr_2_2
 refine WL.run ht hn 2 ⟨[sl 1 (.v (.string s)), sl 2 (.v (.string t)), sl 3 (.ptr 0 0), sl 10 (.ptr 3 0), sl 11 (.ptr 4 0)], [.box (ApiGraph.cl g) 24 false, .gone, .gone, .box (ApiFault.cl r) 32 false, .box (ApiFault.cl r_2) 32 false]⟩ (by kernel_rfl) ?_
 refine WL.nil ?_
 refine En.seq ?_
 refine En.seq ?_
 refine En.region ?_
 refine WL.run ht hn 4 ⟨[sl 1 (.v (.string s)), sl 2 (.v (.string t)), sl 3 (.ptr 0 0), sl 11 (.ptr 4 0), sl 48 (B (r.fCode != 0))], [.box (ApiGraph.cl g) 24 false, .gone, .gone, .gone, .box (ApiFault.cl r_2) 32 false]⟩ (by kernel_rfl) ?_
 refine WL.thru ⟨[sl 1 (.v (.string s)), sl 2 (.v (.string t)), sl 3 (.ptr 0 0), sl 52 (B ((r.fCode != 0) || (r_2.fCode != 0)))], [.box (ApiGraph.cl g) 24 false, .gone, .gone, .gone, .gone]⟩ ?_ ?_
 refine splitB (r.fCode != 0) (fun hb0 => ?_) (fun hb0 => ?_)
 refine WL.setB 48 hb0 (by kernel_rfl) ?_
 refine WL.run ht hn 4 ⟨[sl 1 (.v (.string s)), sl 2 (.v (.string t)), sl 3 (.ptr 0 0), sl 52 (B true)], [.box (ApiGraph.cl g) 24 false, .gone, .gone, .gone, .gone]⟩ (by kernel_rfl) ?_
 exact WL.nil (sub_ok (by simp only [hb0]; kernel_rfl))
 refine WL.setB 48 hb0 (by kernel_rfl) ?_
 refine WL.run ht hn 4 ⟨[sl 1 (.v (.string s)), sl 2 (.v (.string t)), sl 3 (.ptr 0 0), sl 52 (B (r_2.fCode != 0))], [.box (ApiGraph.cl g) 24 false, .gone, .gone, .gone, .gone]⟩ (by kernel_rfl) ?_
 exact WL.nil (sub_ok (by simp only [hb0]; kernel_rfl))
 refine En.cond (b := ((r.fCode != 0) || (r_2.fCode != 0))) (by kernel_rfl) (fun hb => ?_) (fun hb => ?_)
 replace h := h.1 hb
 refine En.seq ?_
 refine En.region ?_
 refine WL.run ht hn 1 ⟨[sl 6 (B true)], [.gone, .gone, .gone, .gone, .gone]⟩ (by kernel_rfl) ?_
 refine WL.nil ?_
 refine En.ret ?_
 exact En.back ht true h (by kernel_rfl) rfl
 replace h := h.2 hb
 refine En.skip ?_
 refine En.seq ?_
 refine En.region ?_
 refine WL.run ht hn 1 ⟨[sl 1 (.v (.string s)), sl 2 (.v (.string t)), sl 3 (.ptr 0 0), sl 53 (.v (.string s))], [.box (ApiGraph.cl g) 24 false, .gone, .gone, .gone, .gone]⟩ (by kernel_rfl) ?_
 have hp_2 := h.1
 replace h := h.2
 refine WL.val hn (by rfl) (val_addS (u := (qbrTurn7)) (v := s) rfl (by rfl) (by rfl) hp_2) (by rfl) ?_
 have hp_3 := h.1
 replace h := h.2
 refine WL.val hn (by rfl) (val_addS (u := ((qbrTurn7) ++ s)) (v := (qbrTurn0)) rfl (by rfl) (by rfl) hp_3) (by rfl) ?_
 refine WL.run ht hn 1 ⟨[sl 1 (.v (.string s)), sl 2 (.v (.string t)), sl 3 (.ptr 0 0), sl 55 (.v (.string (((qbrTurn7) ++ s) ++ (qbrTurn0)))), sl 56 (.v (.string s))], [.box (ApiGraph.cl g) 24 false, .gone, .gone, .gone, .gone]⟩ (by kernel_rfl) ?_
 have hp_4 := h.1
 replace h := h.2
 refine WL.val hn (by rfl) (val_addS (u := (qbrTurn8)) (v := s) rfl (by rfl) (by rfl) hp_4) (by rfl) ?_
 have hp_5 := h.1
 replace h := h.2
 refine WL.val hn (by rfl) (val_addS (u := ((qbrTurn8) ++ s)) (v := (qbrTurn0)) rfl (by rfl) (by rfl) hp_5) (by rfl) ?_
 refine WL.run ht hn 1 ⟨[sl 1 (.v (.string s)), sl 2 (.v (.string t)), sl 3 (.ptr 0 0), sl 55 (.v (.string (((qbrTurn7) ++ s) ++ (qbrTurn0)))), sl 58 (.v (.string (((qbrTurn8) ++ s) ++ (qbrTurn0)))), sl 59 (.v (.string s))], [.box (ApiGraph.cl g) 24 false, .gone, .gone, .gone, .gone]⟩ (by kernel_rfl) ?_
 have hp_6 := h.1
 replace h := h.2
 refine WL.val hn (by rfl) (val_addS (u := (qbrTurn11)) (v := s) rfl (by rfl) (by rfl) hp_6) (by rfl) ?_
 have hp_7 := h.1
 replace h := h.2
 refine WL.val hn (by rfl) (val_addS (u := ((qbrTurn11) ++ s)) (v := (qbrTurn0)) rfl (by rfl) (by rfl) hp_7) (by rfl) ?_
 refine WL.run ht hn 1 ⟨[sl 1 (.v (.string s)), sl 2 (.v (.string t)), sl 3 (.ptr 0 0), sl 55 (.v (.string (((qbrTurn7) ++ s) ++ (qbrTurn0)))), sl 58 (.v (.string (((qbrTurn8) ++ s) ++ (qbrTurn0)))), sl 61 (.v (.string (((qbrTurn11) ++ s) ++ (qbrTurn0)))), sl 62 (.v (.string s))], [.box (ApiGraph.cl g) 24 false, .gone, .gone, .gone, .gone]⟩ (by kernel_rfl) ?_
 have hp_8 := h.1
 replace h := h.2
 refine WL.val hn (by rfl) (val_addS (u := (qbrTurn9)) (v := s) rfl (by rfl) (by rfl) hp_8) (by rfl) ?_
 have hp_9 := h.1
 replace h := h.2
 refine WL.val hn (by rfl) (val_addS (u := ((qbrTurn9) ++ s)) (v := (qbrTurn1)) rfl (by rfl) (by rfl) hp_9) (by rfl) ?_
 refine WL.run ht hn 1 ⟨[sl 1 (.v (.string s)), sl 2 (.v (.string t)), sl 3 (.ptr 0 0), sl 55 (.v (.string (((qbrTurn7) ++ s) ++ (qbrTurn0)))), sl 58 (.v (.string (((qbrTurn8) ++ s) ++ (qbrTurn0)))), sl 61 (.v (.string (((qbrTurn11) ++ s) ++ (qbrTurn0)))), sl 64 (.v (.string (((qbrTurn9) ++ s) ++ (qbrTurn1)))), sl 65 (.v (.string t))], [.box (ApiGraph.cl g) 24 false, .gone, .gone, .gone, .gone]⟩ (by kernel_rfl) ?_
 have hp_10 := h.1
 replace h := h.2
 refine WL.val hn (by rfl) (val_addS (u := (((qbrTurn9) ++ s) ++ (qbrTurn1))) (v := t) rfl (by rfl) (by rfl) hp_10) (by rfl) ?_
 have hp_11 := h.1
 replace h := h.2
 refine WL.val hn (by rfl) (val_addS (u := ((((qbrTurn9) ++ s) ++ (qbrTurn1)) ++ t)) (v := (ByteArray.mk #[41, 41])) rfl (by rfl) (by rfl) hp_11) (by rfl) ?_
 refine WL.mt0 (K := []) (p := some (5, rowI 9 strT ([(((qbrTurn7) ++ s) ++ (qbrTurn0)), (((qbrTurn8) ++ s) ++ (qbrTurn0)), (((qbrTurn11) ++ s) ++ (qbrTurn0)), (((((qbrTurn9) ++ s) ++ (qbrTurn1)) ++ t) ++ (ByteArray.mk #[41, 41]))] : (List ByteArray)))) hn (by rfl) (mt_lit (T := strT) ([(((qbrTurn7) ++ s) ++ (qbrTurn0)), (((qbrTurn8) ++ s) ++ (qbrTurn0)), (((qbrTurn11) ++ s) ++ (qbrTurn0)), (((((qbrTurn9) ++ s) ++ (qbrTurn1)) ++ t) ++ (ByteArray.mk #[41, 41]))] : (List ByteArray)) (mt_bsl 5 (r := cellsOf strT ([(((qbrTurn7) ++ s) ++ (qbrTurn0)), (((qbrTurn8) ++ s) ++ (qbrTurn0)), (((qbrTurn11) ++ s) ++ (qbrTurn0)), (((((qbrTurn9) ++ s) ++ (qbrTurn1)) ++ t) ++ (ByteArray.mk #[41, 41]))] : (List ByteArray))) ht rfl (by rfl) (by rfl) (by rfl) (by kernel_rfl) (by rfl)) (fun _ h => by cases h) (fun _ => rfl) (fun _ => rfl) (by rfl) (Nat.le_of_ble_eq_true rfl)) (by rfl) (by rfl) (by rfl) ?_
 refine WL.run ht hn 1 ⟨[sl 1 (.v (.string s)), sl 2 (.v (.string t)), sl 3 (.ptr 0 0), sl 12 (.own 5)], [.box (ApiGraph.cl g) 24 false, .gone, .gone, .gone, .gone, rowI 9 strT ([(((qbrTurn7) ++ s) ++ (qbrTurn0)), (((qbrTurn8) ++ s) ++ (qbrTurn0)), (((qbrTurn11) ++ s) ++ (qbrTurn0)), (((((qbrTurn9) ++ s) ++ (qbrTurn1)) ++ t) ++ (ByteArray.mk #[41, 41]))] : (List ByteArray))]⟩ (by kernel_rfl) ?_
 refine WL.nil ?_
 refine En.seq ?_
 refine En.region ?_
 refine WL.run ht hn 1 ⟨[sl 1 (.v (.string s)), sl 2 (.v (.string t)), sl 3 (.ptr 0 0), sl 12 (.own 5), sl 69 (.v (.string s))], [.box (ApiGraph.cl g) 24 false, .gone, .gone, .gone, .gone, rowI 9 strT ([(((qbrTurn7) ++ s) ++ (qbrTurn0)), (((qbrTurn8) ++ s) ++ (qbrTurn0)), (((qbrTurn11) ++ s) ++ (qbrTurn0)), (((((qbrTurn9) ++ s) ++ (qbrTurn1)) ++ t) ++ (ByteArray.mk #[41, 41]))] : (List ByteArray))]⟩ (by kernel_rfl) ?_
 have hp_12 := h.1
 replace h := h.2
 refine WL.val hn (by rfl) (val_addS (u := (qbrTurn3)) (v := s) rfl (by rfl) (by rfl) hp_12) (by rfl) ?_
 have hp_13 := h.1
 replace h := h.2
 refine WL.val hn (by rfl) (val_addS (u := ((qbrTurn3) ++ s)) (v := (qbrTurn0)) rfl (by rfl) (by rfl) hp_13) (by rfl) ?_
 refine WL.run ht hn 1 ⟨[sl 1 (.v (.string s)), sl 2 (.v (.string t)), sl 3 (.ptr 0 0), sl 12 (.own 5), sl 71 (.v (.string (((qbrTurn3) ++ s) ++ (qbrTurn0)))), sl 72 (.v (.string s))], [.box (ApiGraph.cl g) 24 false, .gone, .gone, .gone, .gone, rowI 9 strT ([(((qbrTurn7) ++ s) ++ (qbrTurn0)), (((qbrTurn8) ++ s) ++ (qbrTurn0)), (((qbrTurn11) ++ s) ++ (qbrTurn0)), (((((qbrTurn9) ++ s) ++ (qbrTurn1)) ++ t) ++ (ByteArray.mk #[41, 41]))] : (List ByteArray))]⟩ (by kernel_rfl) ?_
 have hp_14 := h.1
 replace h := h.2
 refine WL.val hn (by rfl) (val_addS (u := (qbrTurn4)) (v := s) rfl (by rfl) (by rfl) hp_14) (by rfl) ?_
 have hp_15 := h.1
 replace h := h.2
 refine WL.val hn (by rfl) (val_addS (u := ((qbrTurn4) ++ s)) (v := (qbrTurn0)) rfl (by rfl) (by rfl) hp_15) (by rfl) ?_
 refine WL.run ht hn 1 ⟨[sl 1 (.v (.string s)), sl 2 (.v (.string t)), sl 3 (.ptr 0 0), sl 12 (.own 5), sl 71 (.v (.string (((qbrTurn3) ++ s) ++ (qbrTurn0)))), sl 74 (.v (.string (((qbrTurn4) ++ s) ++ (qbrTurn0)))), sl 75 (.v (.string s))], [.box (ApiGraph.cl g) 24 false, .gone, .gone, .gone, .gone, rowI 9 strT ([(((qbrTurn7) ++ s) ++ (qbrTurn0)), (((qbrTurn8) ++ s) ++ (qbrTurn0)), (((qbrTurn11) ++ s) ++ (qbrTurn0)), (((((qbrTurn9) ++ s) ++ (qbrTurn1)) ++ t) ++ (ByteArray.mk #[41, 41]))] : (List ByteArray))]⟩ (by kernel_rfl) ?_
 have hp_16 := h.1
 replace h := h.2
 refine WL.val hn (by rfl) (val_addS (u := (qbrTurn5)) (v := s) rfl (by rfl) (by rfl) hp_16) (by rfl) ?_
 have hp_17 := h.1
 replace h := h.2
 refine WL.val hn (by rfl) (val_addS (u := ((qbrTurn5) ++ s)) (v := (qbrTurn0)) rfl (by rfl) (by rfl) hp_17) (by rfl) ?_
 refine WL.run ht hn 1 ⟨[sl 1 (.v (.string s)), sl 2 (.v (.string t)), sl 3 (.ptr 0 0), sl 12 (.own 5), sl 71 (.v (.string (((qbrTurn3) ++ s) ++ (qbrTurn0)))), sl 74 (.v (.string (((qbrTurn4) ++ s) ++ (qbrTurn0)))), sl 77 (.v (.string (((qbrTurn5) ++ s) ++ (qbrTurn0)))), sl 78 (.v (.string t))], [.box (ApiGraph.cl g) 24 false, .gone, .gone, .gone, .gone, rowI 9 strT ([(((qbrTurn7) ++ s) ++ (qbrTurn0)), (((qbrTurn8) ++ s) ++ (qbrTurn0)), (((qbrTurn11) ++ s) ++ (qbrTurn0)), (((((qbrTurn9) ++ s) ++ (qbrTurn1)) ++ t) ++ (ByteArray.mk #[41, 41]))] : (List ByteArray))]⟩ (by kernel_rfl) ?_
 have hp_18 := h.1
 replace h := h.2
 refine WL.val hn (by rfl) (val_addS (u := (ByteArray.mk #[40])) (v := t) rfl (by rfl) (by rfl) hp_18) (by rfl) ?_
 have hp_19 := h.1
 replace h := h.2
 refine WL.val hn (by rfl) (val_addS (u := ((ByteArray.mk #[40]) ++ t)) (v := (qbrTurn6)) rfl (by rfl) (by rfl) hp_19) (by rfl) ?_
 refine WL.run ht hn 1 ⟨[sl 1 (.v (.string s)), sl 2 (.v (.string t)), sl 3 (.ptr 0 0), sl 12 (.own 5), sl 71 (.v (.string (((qbrTurn3) ++ s) ++ (qbrTurn0)))), sl 74 (.v (.string (((qbrTurn4) ++ s) ++ (qbrTurn0)))), sl 77 (.v (.string (((qbrTurn5) ++ s) ++ (qbrTurn0)))), sl 80 (.v (.string (((ByteArray.mk #[40]) ++ t) ++ (qbrTurn6)))), sl 81 (.v (.string s))], [.box (ApiGraph.cl g) 24 false, .gone, .gone, .gone, .gone, rowI 9 strT ([(((qbrTurn7) ++ s) ++ (qbrTurn0)), (((qbrTurn8) ++ s) ++ (qbrTurn0)), (((qbrTurn11) ++ s) ++ (qbrTurn0)), (((((qbrTurn9) ++ s) ++ (qbrTurn1)) ++ t) ++ (ByteArray.mk #[41, 41]))] : (List ByteArray))]⟩ (by kernel_rfl) ?_
 have hp_20 := h.1
 replace h := h.2
 refine WL.val hn (by rfl) (val_addS (u := (((ByteArray.mk #[40]) ++ t) ++ (qbrTurn6))) (v := s) rfl (by rfl) (by rfl) hp_20) (by rfl) ?_
 have hp_21 := h.1
 replace h := h.2
 refine WL.val hn (by rfl) (val_addS (u := ((((ByteArray.mk #[40]) ++ t) ++ (qbrTurn6)) ++ s)) (v := (qbrTurn2)) rfl (by rfl) (by rfl) hp_21) (by rfl) ?_
 refine WL.run ht hn 1 ⟨[sl 2 (.v (.string t)), sl 3 (.ptr 0 0), sl 12 (.own 5), sl 71 (.v (.string (((qbrTurn3) ++ s) ++ (qbrTurn0)))), sl 74 (.v (.string (((qbrTurn4) ++ s) ++ (qbrTurn0)))), sl 77 (.v (.string (((qbrTurn5) ++ s) ++ (qbrTurn0)))), sl 83 (.v (.string (((((ByteArray.mk #[40]) ++ t) ++ (qbrTurn6)) ++ s) ++ (qbrTurn2)))), sl 84 (.v (.string s))], [.box (ApiGraph.cl g) 24 false, .gone, .gone, .gone, .gone, rowI 9 strT ([(((qbrTurn7) ++ s) ++ (qbrTurn0)), (((qbrTurn8) ++ s) ++ (qbrTurn0)), (((qbrTurn11) ++ s) ++ (qbrTurn0)), (((((qbrTurn9) ++ s) ++ (qbrTurn1)) ++ t) ++ (ByteArray.mk #[41, 41]))] : (List ByteArray))]⟩ (by kernel_rfl) ?_
 have hp_22 := h.1
 replace h := h.2
 refine WL.val hn (by rfl) (val_addS (u := (((((ByteArray.mk #[40]) ++ t) ++ (qbrTurn6)) ++ s) ++ (qbrTurn2))) (v := s) rfl (by rfl) (by rfl) hp_22) (by rfl) ?_
 have hp_23 := h.1
 replace h := h.2
 refine WL.val hn (by rfl) (val_addS (u := ((((((ByteArray.mk #[40]) ++ t) ++ (qbrTurn6)) ++ s) ++ (qbrTurn2)) ++ s)) (v := (qbrTurn1)) rfl (by rfl) (by rfl) hp_23) (by rfl) ?_
 refine WL.run ht hn 1 ⟨[sl 3 (.ptr 0 0), sl 12 (.own 5), sl 71 (.v (.string (((qbrTurn3) ++ s) ++ (qbrTurn0)))), sl 74 (.v (.string (((qbrTurn4) ++ s) ++ (qbrTurn0)))), sl 77 (.v (.string (((qbrTurn5) ++ s) ++ (qbrTurn0)))), sl 86 (.v (.string (((((((ByteArray.mk #[40]) ++ t) ++ (qbrTurn6)) ++ s) ++ (qbrTurn2)) ++ s) ++ (qbrTurn1)))), sl 87 (.v (.string t))], [.box (ApiGraph.cl g) 24 false, .gone, .gone, .gone, .gone, rowI 9 strT ([(((qbrTurn7) ++ s) ++ (qbrTurn0)), (((qbrTurn8) ++ s) ++ (qbrTurn0)), (((qbrTurn11) ++ s) ++ (qbrTurn0)), (((((qbrTurn9) ++ s) ++ (qbrTurn1)) ++ t) ++ (ByteArray.mk #[41, 41]))] : (List ByteArray))]⟩ (by kernel_rfl) ?_
 have hp_24 := h.1
 replace h := h.2
 refine WL.val hn (by rfl) (val_addS (u := (((((((ByteArray.mk #[40]) ++ t) ++ (qbrTurn6)) ++ s) ++ (qbrTurn2)) ++ s) ++ (qbrTurn1))) (v := t) rfl (by rfl) (by rfl) hp_24) (by rfl) ?_
 have hp_25 := h.1
 replace h := h.2
 refine WL.val hn (by rfl) (val_addS (u := ((((((((ByteArray.mk #[40]) ++ t) ++ (qbrTurn6)) ++ s) ++ (qbrTurn2)) ++ s) ++ (qbrTurn1)) ++ t)) (v := (ByteArray.mk #[41, 41, 41])) rfl (by rfl) (by rfl) hp_25) (by rfl) ?_
 refine WL.mt0 (K := []) (p := some (6, rowI 9 strT ([(((qbrTurn3) ++ s) ++ (qbrTurn0)), (((qbrTurn4) ++ s) ++ (qbrTurn0)), (((qbrTurn5) ++ s) ++ (qbrTurn0)), (((((((((ByteArray.mk #[40]) ++ t) ++ (qbrTurn6)) ++ s) ++ (qbrTurn2)) ++ s) ++ (qbrTurn1)) ++ t) ++ (ByteArray.mk #[41, 41, 41]))] : (List ByteArray)))) hn (by rfl) (mt_lit (T := strT) ([(((qbrTurn3) ++ s) ++ (qbrTurn0)), (((qbrTurn4) ++ s) ++ (qbrTurn0)), (((qbrTurn5) ++ s) ++ (qbrTurn0)), (((((((((ByteArray.mk #[40]) ++ t) ++ (qbrTurn6)) ++ s) ++ (qbrTurn2)) ++ s) ++ (qbrTurn1)) ++ t) ++ (ByteArray.mk #[41, 41, 41]))] : (List ByteArray)) (mt_bsl 6 (r := cellsOf strT ([(((qbrTurn3) ++ s) ++ (qbrTurn0)), (((qbrTurn4) ++ s) ++ (qbrTurn0)), (((qbrTurn5) ++ s) ++ (qbrTurn0)), (((((((((ByteArray.mk #[40]) ++ t) ++ (qbrTurn6)) ++ s) ++ (qbrTurn2)) ++ s) ++ (qbrTurn1)) ++ t) ++ (ByteArray.mk #[41, 41, 41]))] : (List ByteArray))) ht rfl (by rfl) (by rfl) (by rfl) (by kernel_rfl) (by rfl)) (fun _ h => by cases h) (fun _ => rfl) (fun _ => rfl) (by rfl) (Nat.le_of_ble_eq_true rfl)) (by rfl) (by rfl) (by rfl) ?_
 refine WL.run ht hn 1 ⟨[sl 3 (.ptr 0 0), sl 12 (.own 5), sl 13 (.own 6)], [.box (ApiGraph.cl g) 24 false, .gone, .gone, .gone, .gone, rowI 9 strT ([(((qbrTurn7) ++ s) ++ (qbrTurn0)), (((qbrTurn8) ++ s) ++ (qbrTurn0)), (((qbrTurn11) ++ s) ++ (qbrTurn0)), (((((qbrTurn9) ++ s) ++ (qbrTurn1)) ++ t) ++ (ByteArray.mk #[41, 41]))] : (List ByteArray)), rowI 9 strT ([(((qbrTurn3) ++ s) ++ (qbrTurn0)), (((qbrTurn4) ++ s) ++ (qbrTurn0)), (((qbrTurn5) ++ s) ++ (qbrTurn0)), (((((((((ByteArray.mk #[40]) ++ t) ++ (qbrTurn6)) ++ s) ++ (qbrTurn2)) ++ s) ++ (qbrTurn1)) ++ t) ++ (ByteArray.mk #[41, 41, 41]))] : (List ByteArray))]⟩ (by kernel_rfl) ?_
 refine WL.nil ?_
 refine En.seq ?_
 refine En.seq ?_
 refine En.region ?_
 refine WL.run ht hn 1 ⟨[sl 3 (.ptr 0 0), sl 12 (.own 5), sl 13 (.own 6), sl 14 (I 0)], [.box (ApiGraph.cl g) 24 false, .gone, .gone, .gone, .gone, rowI 9 strT ([(((qbrTurn7) ++ s) ++ (qbrTurn0)), (((qbrTurn8) ++ s) ++ (qbrTurn0)), (((qbrTurn11) ++ s) ++ (qbrTurn0)), (((((qbrTurn9) ++ s) ++ (qbrTurn1)) ++ t) ++ (ByteArray.mk #[41, 41]))] : (List ByteArray)), rowI 9 strT ([(((qbrTurn3) ++ s) ++ (qbrTurn0)), (((qbrTurn4) ++ s) ++ (qbrTurn0)), (((qbrTurn5) ++ s) ++ (qbrTurn0)), (((((((((ByteArray.mk #[40]) ++ t) ++ (qbrTurn6)) ++ s) ++ (qbrTurn2)) ++ s) ++ (qbrTurn1)) ++ t) ++ (ByteArray.mk #[41, 41, 41]))] : (List ByteArray))]⟩ (by kernel_rfl) ?_
 refine WL.nil ?_
 refine En.block ?_
 obtain ⟨Inv, mu, h0_2, hI_2⟩ := h
 refine En.loop (σ := Int) (fun zz => Inv zz) (fun zz => mu zz) (fun zz => ⟨[sl 3 (.ptr 0 0), sl 12 (.own 5), sl 13 (.own 6), sl 14 (I zz)], [.box (ApiGraph.cl g) 24 false, .gone, .gone, .gone, .gone, rowI 9 strT ([(((qbrTurn7) ++ s) ++ (qbrTurn0)), (((qbrTurn8) ++ s) ++ (qbrTurn0)), (((qbrTurn11) ++ s) ++ (qbrTurn0)), (((((qbrTurn9) ++ s) ++ (qbrTurn1)) ++ t) ++ (ByteArray.mk #[41, 41]))] : (List ByteArray)), rowI 9 strT ([(((qbrTurn3) ++ s) ++ (qbrTurn0)), (((qbrTurn4) ++ s) ++ (qbrTurn0)), (((qbrTurn5) ++ s) ++ (qbrTurn0)), (((((((((ByteArray.mk #[40]) ++ t) ++ (qbrTurn6)) ++ s) ++ (qbrTurn2)) ++ s) ++ (qbrTurn1)) ++ t) ++ (ByteArray.mk #[41, 41, 41]))] : (List ByteArray))]⟩) 0 h0_2 (sub_ok (by kernel_rfl)) ?_
 intro x14 h
 replace h := hI_2 _ h
 show En c ⟨[sl 3 (.ptr 0 0), sl 12 (.own 5), sl 13 (.own 6), sl 14 (I x14)], [.box (ApiGraph.cl g) 24 false, .gone, .gone, .gone, .gone, rowI 9 strT ([(((qbrTurn7) ++ s) ++ (qbrTurn0)), (((qbrTurn8) ++ s) ++ (qbrTurn0)), (((qbrTurn11) ++ s) ++ (qbrTurn0)), (((((qbrTurn9) ++ s) ++ (qbrTurn1)) ++ t) ++ (ByteArray.mk #[41, 41]))] : (List ByteArray)), rowI 9 strT ([(((qbrTurn3) ++ s) ++ (qbrTurn0)), (((qbrTurn4) ++ s) ++ (qbrTurn0)), (((qbrTurn5) ++ s) ++ (qbrTurn0)), (((((((((ByteArray.mk #[40]) ++ t) ++ (qbrTurn6)) ++ s) ++ (qbrTurn2)) ++ s) ++ (qbrTurn1)) ++ t) ++ (ByteArray.mk #[41, 41, 41]))] : (List ByteArray))]⟩ _
 refine En.seq ?_
 refine En.seq ?_
 refine En.region ?_
 refine WL.run ht hn 4 ⟨[sl 3 (.ptr 0 0), sl 12 (.own 5), sl 13 (.own 6), sl 14 (I x14), sl 94 (B (decide (x14 < (([(((qbrTurn7) ++ s) ++ (qbrTurn0)), (((qbrTurn8) ++ s) ++ (qbrTurn0)), (((qbrTurn11) ++ s) ++ (qbrTurn0)), (((((qbrTurn9) ++ s) ++ (qbrTurn1)) ++ t) ++ (ByteArray.mk #[41, 41]))] : (List ByteArray)).length : Int))))], [.box (ApiGraph.cl g) 24 false, .gone, .gone, .gone, .gone, rowI 9 strT ([(((qbrTurn7) ++ s) ++ (qbrTurn0)), (((qbrTurn8) ++ s) ++ (qbrTurn0)), (((qbrTurn11) ++ s) ++ (qbrTurn0)), (((((qbrTurn9) ++ s) ++ (qbrTurn1)) ++ t) ++ (ByteArray.mk #[41, 41]))] : (List ByteArray)), rowI 9 strT ([(((qbrTurn3) ++ s) ++ (qbrTurn0)), (((qbrTurn4) ++ s) ++ (qbrTurn0)), (((qbrTurn5) ++ s) ++ (qbrTurn0)), (((((((((ByteArray.mk #[40]) ++ t) ++ (qbrTurn6)) ++ s) ++ (qbrTurn2)) ++ s) ++ (qbrTurn1)) ++ t) ++ (ByteArray.mk #[41, 41, 41]))] : (List ByteArray))]⟩ (by kernel_rfl) ?_
 refine WL.nil ?_
 refine En.cond (b := (decide (x14 < (([(((qbrTurn7) ++ s) ++ (qbrTurn0)), (((qbrTurn8) ++ s) ++ (qbrTurn0)), (((qbrTurn11) ++ s) ++ (qbrTurn0)), (((((qbrTurn9) ++ s) ++ (qbrTurn1)) ++ t) ++ (ByteArray.mk #[41, 41]))] : (List ByteArray)).length : Int)))) (by kernel_rfl) (fun hb => ?_) (fun hb => ?_)
 replace h := h.1 hb
 refine En.skip ?_
 obtain ⟨J_2, h, hJ_2⟩ := h
 refine En.seqJ (σ := Unit) (fun _ => J_2) (fun _ => ⟨[sl 3 (.ptr 0 0), sl 12 (.own 5), sl 13 (.own 6), sl 14 (I x14)], [.box (ApiGraph.cl g) 24 false, .gone, .gone, .gone, .gone, rowI 9 strT ([(((qbrTurn7) ++ s) ++ (qbrTurn0)), (((qbrTurn8) ++ s) ++ (qbrTurn0)), (((qbrTurn11) ++ s) ++ (qbrTurn0)), (((((qbrTurn9) ++ s) ++ (qbrTurn1)) ++ t) ++ (ByteArray.mk #[41, 41]))] : (List ByteArray)), rowI 9 strT ([(((qbrTurn3) ++ s) ++ (qbrTurn0)), (((qbrTurn4) ++ s) ++ (qbrTurn0)), (((qbrTurn5) ++ s) ++ (qbrTurn0)), (((((((((ByteArray.mk #[40]) ++ t) ++ (qbrTurn6)) ++ s) ++ (qbrTurn2)) ++ s) ++ (qbrTurn1)) ++ t) ++ (ByteArray.mk #[41, 41, 41]))] : (List ByteArray))]⟩) ?_ ?_
 refine En.block ?_
 refine En.seq ?_
 obtain ⟨e_2, he_2, h⟩ := h
 refine En.regionA ⟨[sl 3 (.ptr 0 0), sl 12 (.own 5), sl 13 (.own 6), sl 14 (I x14)], [.sv (.agg (ApiGraph.cl g)), .sv (.one (.own 5)), .sv (.one (I x14)), .sv (.one (.oe 5 ((x14).toNat) 1)), .sv (.one (.v (.string e_2))), .tup [.one (LS boolT (HoldsR g e_2).1), .one (I (HoldsR g e_2).2)], .tup [.one (LS boolT (HoldsR g e_2).1), .one (I (HoldsR g e_2).2)], .sv (.one (LS boolT (HoldsR g e_2).1)), .sv (.one (I (HoldsR g e_2).2)), .sv (.one (LS boolT (HoldsR g e_2).1)), .sv (.one (I (HoldsR g e_2).2))], [⟨.box (ApiGraph.cl g) 24 false, none, none, none⟩, ⟨.gone, none, none, none⟩, ⟨.gone, none, none, none⟩, ⟨.gone, none, none, none⟩, ⟨.gone, none, none, none⟩, ⟨rowI 9 strT ([(((qbrTurn7) ++ s) ++ (qbrTurn0)), (((qbrTurn8) ++ s) ++ (qbrTurn0)), (((qbrTurn11) ++ s) ++ (qbrTurn0)), (((((qbrTurn9) ++ s) ++ (qbrTurn1)) ++ t) ++ (ByteArray.mk #[41, 41]))] : (List ByteArray)), none, none, none⟩, ⟨rowI 9 strT ([(((qbrTurn3) ++ s) ++ (qbrTurn0)), (((qbrTurn4) ++ s) ++ (qbrTurn0)), (((qbrTurn5) ++ s) ++ (qbrTurn0)), (((((((((ByteArray.mk #[40]) ++ t) ++ (qbrTurn6)) ++ s) ++ (qbrTurn2)) ++ s) ++ (qbrTurn1)) ++ t) ++ (ByteArray.mk #[41, 41, 41]))] : (List ByteArray)), none, none, none⟩]⟩ ⟨[sl 3 (.ptr 0 0), sl 12 (.own 5), sl 13 (.own 6), sl 14 (I x14), sl 15 (LS boolT (HoldsR g e_2).1), sl 16 (I (HoldsR g e_2).2)], [.box (ApiGraph.cl g) 24 false, .gone, .gone, .gone, .gone, rowI 9 strT ([(((qbrTurn7) ++ s) ++ (qbrTurn0)), (((qbrTurn8) ++ s) ++ (qbrTurn0)), (((qbrTurn11) ++ s) ++ (qbrTurn0)), (((((qbrTurn9) ++ s) ++ (qbrTurn1)) ++ t) ++ (ByteArray.mk #[41, 41]))] : (List ByteArray)), rowI 9 strT ([(((qbrTurn3) ++ s) ++ (qbrTurn0)), (((qbrTurn4) ++ s) ++ (qbrTurn0)), (((qbrTurn5) ++ s) ++ (qbrTurn0)), (((((((((ByteArray.mk #[40]) ++ t) ++ (qbrTurn6)) ++ s) ++ (qbrTurn2)) ++ s) ++ (qbrTurn1)) ++ t) ++ (ByteArray.mk #[41, 41, 41]))] : (List ByteArray))]⟩ (by kernel_rfl) hn (by kernel_rfl) (by rfl) (by kernel_rfl) ?_ (by kernel_rfl) ?_
 exact ⟨.mt ⟨[sl 3 (.ptr 0 0)], [.box (ApiGraph.cl g) 24 false]⟩ [] none (by kernel_rfl) (by rfl) (mt_ev ht (by kernel_rfl)) rfl rfl rfl rfl,
 .mt ⟨[sl 12 (.own 5)], []⟩ [] none (by kernel_rfl) (by rfl) (mt_ev ht (by kernel_rfl)) rfl rfl rfl rfl,
 .mt ⟨[sl 14 (I x14)], []⟩ [] none (by kernel_rfl) (by rfl) (mt_ev ht (by kernel_rfl)) rfl rfl rfl rfl,
 .mt ⟨[sl 99 (.own 5), sl 100 (I x14)], [.gone, .gone, .gone, .gone, .gone, rowI 9 strT ([(((qbrTurn7) ++ s) ++ (qbrTurn0)), (((qbrTurn8) ++ s) ++ (qbrTurn0)), (((qbrTurn11) ++ s) ++ (qbrTurn0)), (((((qbrTurn9) ++ s) ++ (qbrTurn1)) ++ t) ++ (ByteArray.mk #[41, 41]))] : (List ByteArray))]⟩ [] none (by kernel_rfl) (by rfl) (mt_val (val_indexO (T := strT) (l := ([(((qbrTurn7) ++ s) ++ (qbrTurn0)), (((qbrTurn8) ++ s) ++ (qbrTurn0)), (((qbrTurn11) ++ s) ++ (qbrTurn0)), (((((qbrTurn9) ++ s) ++ (qbrTurn1)) ++ t) ++ (ByteArray.mk #[41, 41]))] : (List ByteArray))) (k := x14) ht rfl (by rfl) (by rfl) (by rfl) (by rfl) (by decide) (by rfl) (by rfl) (by rfl) he_2)) rfl rfl rfl rfl,
 .mt ⟨[sl 101 (.oe 5 ((x14).toNat) 1)], [.gone, .gone, .gone, .gone, .gone, rowI 9 strT ([(((qbrTurn7) ++ s) ++ (qbrTurn0)), (((qbrTurn8) ++ s) ++ (qbrTurn0)), (((qbrTurn11) ++ s) ++ (qbrTurn0)), (((((qbrTurn9) ++ s) ++ (qbrTurn1)) ++ t) ++ (ByteArray.mk #[41, 41]))] : (List ByteArray))]⟩ [] none (by kernel_rfl) (by rfl) (mt_val (val_loadO (T := strT) (l := ([(((qbrTurn7) ++ s) ++ (qbrTurn0)), (((qbrTurn8) ++ s) ++ (qbrTurn0)), (((qbrTurn11) ++ s) ++ (qbrTurn0)), (((((qbrTurn9) ++ s) ++ (qbrTurn1)) ++ t) ++ (ByteArray.mk #[41, 41]))] : (List ByteArray))) (y := e_2) ht rfl (by rfl) (by rfl) (by rfl) (by rfl) (by rfl) (idx_some he_2).2.2 (by rfl))) rfl rfl rfl rfl,
 .mt ⟨[(98, .sv (.agg (ApiGraph.cl g))), sl 102 (.v (.string e_2))], []⟩ [] none (by kernel_rfl) (by rfl) (mt_call (bHolds_ct g e_2) en9 (caps := []) [] rfl (by rfl) (by kernel_rfl) (by kernel_rfl) (by rfl) (by rfl) (by rfl)) rfl rfl rfl rfl,
 .mt ⟨[(103, .tup [.one (LS boolT (HoldsR g e_2).1), .one (I (HoldsR g e_2).2)])], []⟩ [] none (by kernel_rfl) (by rfl) (mt_ev ht (by kernel_rfl)) rfl rfl rfl rfl,
 .mt ⟨[(97, .tup [.one (LS boolT (HoldsR g e_2).1), .one (I (HoldsR g e_2).2)])], []⟩ [] none (by kernel_rfl) (by rfl) (mt_ev ht (by kernel_rfl)) rfl rfl rfl rfl,
 .mt ⟨[(97, .tup [.one (LS boolT (HoldsR g e_2).1), .one (I (HoldsR g e_2).2)])], []⟩ [] none (by kernel_rfl) (by rfl) (mt_ev ht (by kernel_rfl)) rfl rfl rfl rfl,
 .mt ⟨[sl 104 (LS boolT (HoldsR g e_2).1)], []⟩ [] none (by kernel_rfl) (by rfl) (mt_ev ht (by kernel_rfl)) rfl rfl rfl rfl,
 .mt ⟨[sl 105 (I (HoldsR g e_2).2)], []⟩ [] none (by kernel_rfl) (by rfl) (mt_ev ht (by kernel_rfl)) rfl rfl rfl rfl,
 trivial⟩
 refine En.seq ?_
 obtain ⟨e_3, he_3, h⟩ := h
 refine En.regionA ⟨[sl 3 (.ptr 0 0), sl 12 (.own 5), sl 13 (.own 6), sl 14 (I x14), sl 15 (LS boolT (HoldsR g e_2).1), sl 16 (I (HoldsR g e_2).2)], [.sv (.agg (ApiGraph.cl g)), .sv (.one (.own 6)), .sv (.one (I x14)), .sv (.one (.oe 6 ((x14).toNat) 1)), .sv (.one (.v (.string e_3))), .tup [.one (LS boolT (HoldsR g e_3).1), .one (I (HoldsR g e_3).2)], .tup [.one (LS boolT (HoldsR g e_3).1), .one (I (HoldsR g e_3).2)], .sv (.one (LS boolT (HoldsR g e_3).1)), .sv (.one (I (HoldsR g e_3).2)), .sv (.one (LS boolT (HoldsR g e_3).1)), .sv (.one (I (HoldsR g e_3).2))], [⟨.box (ApiGraph.cl g) 24 false, none, none, none⟩, ⟨.gone, none, none, none⟩, ⟨.gone, none, none, none⟩, ⟨.gone, none, none, none⟩, ⟨.gone, none, none, none⟩, ⟨rowI 9 strT ([(((qbrTurn7) ++ s) ++ (qbrTurn0)), (((qbrTurn8) ++ s) ++ (qbrTurn0)), (((qbrTurn11) ++ s) ++ (qbrTurn0)), (((((qbrTurn9) ++ s) ++ (qbrTurn1)) ++ t) ++ (ByteArray.mk #[41, 41]))] : (List ByteArray)), none, none, none⟩, ⟨rowI 9 strT ([(((qbrTurn3) ++ s) ++ (qbrTurn0)), (((qbrTurn4) ++ s) ++ (qbrTurn0)), (((qbrTurn5) ++ s) ++ (qbrTurn0)), (((((((((ByteArray.mk #[40]) ++ t) ++ (qbrTurn6)) ++ s) ++ (qbrTurn2)) ++ s) ++ (qbrTurn1)) ++ t) ++ (ByteArray.mk #[41, 41, 41]))] : (List ByteArray)), none, none, none⟩]⟩ ⟨[sl 3 (.ptr 0 0), sl 12 (.own 5), sl 13 (.own 6), sl 14 (I x14), sl 15 (LS boolT (HoldsR g e_2).1), sl 16 (I (HoldsR g e_2).2), sl 17 (LS boolT (HoldsR g e_3).1), sl 18 (I (HoldsR g e_3).2)], [.box (ApiGraph.cl g) 24 false, .gone, .gone, .gone, .gone, rowI 9 strT ([(((qbrTurn7) ++ s) ++ (qbrTurn0)), (((qbrTurn8) ++ s) ++ (qbrTurn0)), (((qbrTurn11) ++ s) ++ (qbrTurn0)), (((((qbrTurn9) ++ s) ++ (qbrTurn1)) ++ t) ++ (ByteArray.mk #[41, 41]))] : (List ByteArray)), rowI 9 strT ([(((qbrTurn3) ++ s) ++ (qbrTurn0)), (((qbrTurn4) ++ s) ++ (qbrTurn0)), (((qbrTurn5) ++ s) ++ (qbrTurn0)), (((((((((ByteArray.mk #[40]) ++ t) ++ (qbrTurn6)) ++ s) ++ (qbrTurn2)) ++ s) ++ (qbrTurn1)) ++ t) ++ (ByteArray.mk #[41, 41, 41]))] : (List ByteArray))]⟩ (by kernel_rfl) hn (by kernel_rfl) (by rfl) (by kernel_rfl) ?_ (by kernel_rfl) ?_
 exact ⟨.mt ⟨[sl 3 (.ptr 0 0)], [.box (ApiGraph.cl g) 24 false]⟩ [] none (by kernel_rfl) (by rfl) (mt_ev ht (by kernel_rfl)) rfl rfl rfl rfl,
 .mt ⟨[sl 13 (.own 6)], []⟩ [] none (by kernel_rfl) (by rfl) (mt_ev ht (by kernel_rfl)) rfl rfl rfl rfl,
 .mt ⟨[sl 14 (I x14)], []⟩ [] none (by kernel_rfl) (by rfl) (mt_ev ht (by kernel_rfl)) rfl rfl rfl rfl,
 .mt ⟨[sl 108 (.own 6), sl 109 (I x14)], [.gone, .gone, .gone, .gone, .gone, .gone, rowI 9 strT ([(((qbrTurn3) ++ s) ++ (qbrTurn0)), (((qbrTurn4) ++ s) ++ (qbrTurn0)), (((qbrTurn5) ++ s) ++ (qbrTurn0)), (((((((((ByteArray.mk #[40]) ++ t) ++ (qbrTurn6)) ++ s) ++ (qbrTurn2)) ++ s) ++ (qbrTurn1)) ++ t) ++ (ByteArray.mk #[41, 41, 41]))] : (List ByteArray))]⟩ [] none (by kernel_rfl) (by rfl) (mt_val (val_indexO (T := strT) (l := ([(((qbrTurn3) ++ s) ++ (qbrTurn0)), (((qbrTurn4) ++ s) ++ (qbrTurn0)), (((qbrTurn5) ++ s) ++ (qbrTurn0)), (((((((((ByteArray.mk #[40]) ++ t) ++ (qbrTurn6)) ++ s) ++ (qbrTurn2)) ++ s) ++ (qbrTurn1)) ++ t) ++ (ByteArray.mk #[41, 41, 41]))] : (List ByteArray))) (k := x14) ht rfl (by rfl) (by rfl) (by rfl) (by rfl) (by decide) (by rfl) (by rfl) (by rfl) he_3)) rfl rfl rfl rfl,
 .mt ⟨[sl 110 (.oe 6 ((x14).toNat) 1)], [.gone, .gone, .gone, .gone, .gone, .gone, rowI 9 strT ([(((qbrTurn3) ++ s) ++ (qbrTurn0)), (((qbrTurn4) ++ s) ++ (qbrTurn0)), (((qbrTurn5) ++ s) ++ (qbrTurn0)), (((((((((ByteArray.mk #[40]) ++ t) ++ (qbrTurn6)) ++ s) ++ (qbrTurn2)) ++ s) ++ (qbrTurn1)) ++ t) ++ (ByteArray.mk #[41, 41, 41]))] : (List ByteArray))]⟩ [] none (by kernel_rfl) (by rfl) (mt_val (val_loadO (T := strT) (l := ([(((qbrTurn3) ++ s) ++ (qbrTurn0)), (((qbrTurn4) ++ s) ++ (qbrTurn0)), (((qbrTurn5) ++ s) ++ (qbrTurn0)), (((((((((ByteArray.mk #[40]) ++ t) ++ (qbrTurn6)) ++ s) ++ (qbrTurn2)) ++ s) ++ (qbrTurn1)) ++ t) ++ (ByteArray.mk #[41, 41, 41]))] : (List ByteArray))) (y := e_3) ht rfl (by rfl) (by rfl) (by rfl) (by rfl) (by rfl) (idx_some he_3).2.2 (by rfl))) rfl rfl rfl rfl,
 .mt ⟨[(107, .sv (.agg (ApiGraph.cl g))), sl 111 (.v (.string e_3))], []⟩ [] none (by kernel_rfl) (by rfl) (mt_call (bHolds_ct g e_3) en9 (caps := []) [] rfl (by rfl) (by kernel_rfl) (by kernel_rfl) (by rfl) (by rfl) (by rfl)) rfl rfl rfl rfl,
 .mt ⟨[(112, .tup [.one (LS boolT (HoldsR g e_3).1), .one (I (HoldsR g e_3).2)])], []⟩ [] none (by kernel_rfl) (by rfl) (mt_ev ht (by kernel_rfl)) rfl rfl rfl rfl,
 .mt ⟨[(106, .tup [.one (LS boolT (HoldsR g e_3).1), .one (I (HoldsR g e_3).2)])], []⟩ [] none (by kernel_rfl) (by rfl) (mt_ev ht (by kernel_rfl)) rfl rfl rfl rfl,
 .mt ⟨[(106, .tup [.one (LS boolT (HoldsR g e_3).1), .one (I (HoldsR g e_3).2)])], []⟩ [] none (by kernel_rfl) (by rfl) (mt_ev ht (by kernel_rfl)) rfl rfl rfl rfl,
 .mt ⟨[sl 113 (LS boolT (HoldsR g e_3).1)], []⟩ [] none (by kernel_rfl) (by rfl) (mt_ev ht (by kernel_rfl)) rfl rfl rfl rfl,
 .mt ⟨[sl 114 (I (HoldsR g e_3).2)], []⟩ [] none (by kernel_rfl) (by rfl) (mt_ev ht (by kernel_rfl)) rfl rfl rfl rfl,
 trivial⟩
 refine En.seq ?_
 refine En.seq ?_
 refine En.region ?_
 refine WL.run ht hn 3 ⟨[sl 3 (.ptr 0 0), sl 12 (.own 5), sl 13 (.own 6), sl 14 (I x14), sl 15 (LS boolT (HoldsR g e_2).1), sl 17 (LS boolT (HoldsR g e_3).1), sl 18 (I (HoldsR g e_3).2), sl 117 (B ((HoldsR g e_2).2 != 0))], [.box (ApiGraph.cl g) 24 false, .gone, .gone, .gone, .gone, rowI 9 strT ([(((qbrTurn7) ++ s) ++ (qbrTurn0)), (((qbrTurn8) ++ s) ++ (qbrTurn0)), (((qbrTurn11) ++ s) ++ (qbrTurn0)), (((((qbrTurn9) ++ s) ++ (qbrTurn1)) ++ t) ++ (ByteArray.mk #[41, 41]))] : (List ByteArray)), rowI 9 strT ([(((qbrTurn3) ++ s) ++ (qbrTurn0)), (((qbrTurn4) ++ s) ++ (qbrTurn0)), (((qbrTurn5) ++ s) ++ (qbrTurn0)), (((((((((ByteArray.mk #[40]) ++ t) ++ (qbrTurn6)) ++ s) ++ (qbrTurn2)) ++ s) ++ (qbrTurn1)) ++ t) ++ (ByteArray.mk #[41, 41, 41]))] : (List ByteArray))]⟩ (by kernel_rfl) ?_
 refine WL.thru ⟨[sl 3 (.ptr 0 0), sl 12 (.own 5), sl 13 (.own 6), sl 14 (I x14), sl 15 (LS boolT (HoldsR g e_2).1), sl 17 (LS boolT (HoldsR g e_3).1), sl 120 (B (((HoldsR g e_2).2 != 0) || ((HoldsR g e_3).2 != 0)))], [.box (ApiGraph.cl g) 24 false, .gone, .gone, .gone, .gone, rowI 9 strT ([(((qbrTurn7) ++ s) ++ (qbrTurn0)), (((qbrTurn8) ++ s) ++ (qbrTurn0)), (((qbrTurn11) ++ s) ++ (qbrTurn0)), (((((qbrTurn9) ++ s) ++ (qbrTurn1)) ++ t) ++ (ByteArray.mk #[41, 41]))] : (List ByteArray)), rowI 9 strT ([(((qbrTurn3) ++ s) ++ (qbrTurn0)), (((qbrTurn4) ++ s) ++ (qbrTurn0)), (((qbrTurn5) ++ s) ++ (qbrTurn0)), (((((((((ByteArray.mk #[40]) ++ t) ++ (qbrTurn6)) ++ s) ++ (qbrTurn2)) ++ s) ++ (qbrTurn1)) ++ t) ++ (ByteArray.mk #[41, 41, 41]))] : (List ByteArray))]⟩ ?_ ?_
 refine splitB ((HoldsR g e_2).2 != 0) (fun hb0 => ?_) (fun hb0 => ?_)
 refine WL.setB 117 hb0 (by kernel_rfl) ?_
 refine WL.run ht hn 3 ⟨[sl 3 (.ptr 0 0), sl 12 (.own 5), sl 13 (.own 6), sl 14 (I x14), sl 15 (LS boolT (HoldsR g e_2).1), sl 17 (LS boolT (HoldsR g e_3).1), sl 120 (B true)], [.box (ApiGraph.cl g) 24 false, .gone, .gone, .gone, .gone, rowI 9 strT ([(((qbrTurn7) ++ s) ++ (qbrTurn0)), (((qbrTurn8) ++ s) ++ (qbrTurn0)), (((qbrTurn11) ++ s) ++ (qbrTurn0)), (((((qbrTurn9) ++ s) ++ (qbrTurn1)) ++ t) ++ (ByteArray.mk #[41, 41]))] : (List ByteArray)), rowI 9 strT ([(((qbrTurn3) ++ s) ++ (qbrTurn0)), (((qbrTurn4) ++ s) ++ (qbrTurn0)), (((qbrTurn5) ++ s) ++ (qbrTurn0)), (((((((((ByteArray.mk #[40]) ++ t) ++ (qbrTurn6)) ++ s) ++ (qbrTurn2)) ++ s) ++ (qbrTurn1)) ++ t) ++ (ByteArray.mk #[41, 41, 41]))] : (List ByteArray))]⟩ (by kernel_rfl) ?_
 exact WL.nil (sub_ok (by simp only [hb0]; kernel_rfl))
 refine WL.setB 117 hb0 (by kernel_rfl) ?_
 refine WL.run ht hn 3 ⟨[sl 3 (.ptr 0 0), sl 12 (.own 5), sl 13 (.own 6), sl 14 (I x14), sl 15 (LS boolT (HoldsR g e_2).1), sl 17 (LS boolT (HoldsR g e_3).1), sl 120 (B ((HoldsR g e_3).2 != 0))], [.box (ApiGraph.cl g) 24 false, .gone, .gone, .gone, .gone, rowI 9 strT ([(((qbrTurn7) ++ s) ++ (qbrTurn0)), (((qbrTurn8) ++ s) ++ (qbrTurn0)), (((qbrTurn11) ++ s) ++ (qbrTurn0)), (((((qbrTurn9) ++ s) ++ (qbrTurn1)) ++ t) ++ (ByteArray.mk #[41, 41]))] : (List ByteArray)), rowI 9 strT ([(((qbrTurn3) ++ s) ++ (qbrTurn0)), (((qbrTurn4) ++ s) ++ (qbrTurn0)), (((qbrTurn5) ++ s) ++ (qbrTurn0)), (((((((((ByteArray.mk #[40]) ++ t) ++ (qbrTurn6)) ++ s) ++ (qbrTurn2)) ++ s) ++ (qbrTurn1)) ++ t) ++ (ByteArray.mk #[41, 41, 41]))] : (List ByteArray))]⟩ (by kernel_rfl) ?_
 exact WL.nil (sub_ok (by simp only [hb0]; kernel_rfl))
 refine En.cond (b := (((HoldsR g e_2).2 != 0) || ((HoldsR g e_3).2 != 0))) (by kernel_rfl) (fun hb => ?_) (fun hb => ?_)
 replace h := h.1 hb
 refine En.exit rfl ?_
 exact En.at (I := fun _ => J_2) (T := fun _ => ⟨[sl 3 (.ptr 0 0), sl 12 (.own 5), sl 13 (.own 6), sl 14 (I x14)], [.box (ApiGraph.cl g) 24 false, .gone, .gone, .gone, .gone, rowI 9 strT ([(((qbrTurn7) ++ s) ++ (qbrTurn0)), (((qbrTurn8) ++ s) ++ (qbrTurn0)), (((qbrTurn11) ++ s) ++ (qbrTurn0)), (((((qbrTurn9) ++ s) ++ (qbrTurn1)) ++ t) ++ (ByteArray.mk #[41, 41]))] : (List ByteArray)), rowI 9 strT ([(((qbrTurn3) ++ s) ++ (qbrTurn0)), (((qbrTurn4) ++ s) ++ (qbrTurn0)), (((qbrTurn5) ++ s) ++ (qbrTurn0)), (((((((((ByteArray.mk #[40]) ++ t) ++ (qbrTurn6)) ++ s) ++ (qbrTurn2)) ++ s) ++ (qbrTurn1)) ++ t) ++ (ByteArray.mk #[41, 41, 41]))] : (List ByteArray))]⟩) () h (by kernel_rfl)
 replace h := h.2 hb
 refine En.skip ?_
 refine En.seq ?_
 refine En.region ?_
 refine WL.run ht hn 1 ⟨[sl 3 (.ptr 0 0), sl 12 (.own 5), sl 13 (.own 6), sl 14 (I x14), sl 15 (LS boolT (HoldsR g e_2).1), sl 17 (LS boolT (HoldsR g e_3).1), sl 19 (I 0)], [.box (ApiGraph.cl g) 24 false, .gone, .gone, .gone, .gone, rowI 9 strT ([(((qbrTurn7) ++ s) ++ (qbrTurn0)), (((qbrTurn8) ++ s) ++ (qbrTurn0)), (((qbrTurn11) ++ s) ++ (qbrTurn0)), (((((qbrTurn9) ++ s) ++ (qbrTurn1)) ++ t) ++ (ByteArray.mk #[41, 41]))] : (List ByteArray)), rowI 9 strT ([(((qbrTurn3) ++ s) ++ (qbrTurn0)), (((qbrTurn4) ++ s) ++ (qbrTurn0)), (((qbrTurn5) ++ s) ++ (qbrTurn0)), (((((((((ByteArray.mk #[40]) ++ t) ++ (qbrTurn6)) ++ s) ++ (qbrTurn2)) ++ s) ++ (qbrTurn1)) ++ t) ++ (ByteArray.mk #[41, 41, 41]))] : (List ByteArray))]⟩ (by kernel_rfl) ?_
 refine WL.nil ?_
 refine En.block ?_
 obtain ⟨Inv_2, mu_2, h0, hI⟩ := h
 refine En.loop (σ := Int) (fun zz => Inv_2 zz) (fun zz => mu_2 zz) (fun zz => ⟨[sl 3 (.ptr 0 0), sl 12 (.own 5), sl 13 (.own 6), sl 14 (I x14), sl 15 (LS boolT (HoldsR g e_2).1), sl 17 (LS boolT (HoldsR g e_3).1), sl 19 (I zz)], [.box (ApiGraph.cl g) 24 false, .gone, .gone, .gone, .gone, rowI 9 strT ([(((qbrTurn7) ++ s) ++ (qbrTurn0)), (((qbrTurn8) ++ s) ++ (qbrTurn0)), (((qbrTurn11) ++ s) ++ (qbrTurn0)), (((((qbrTurn9) ++ s) ++ (qbrTurn1)) ++ t) ++ (ByteArray.mk #[41, 41]))] : (List ByteArray)), rowI 9 strT ([(((qbrTurn3) ++ s) ++ (qbrTurn0)), (((qbrTurn4) ++ s) ++ (qbrTurn0)), (((qbrTurn5) ++ s) ++ (qbrTurn0)), (((((((((ByteArray.mk #[40]) ++ t) ++ (qbrTurn6)) ++ s) ++ (qbrTurn2)) ++ s) ++ (qbrTurn1)) ++ t) ++ (ByteArray.mk #[41, 41, 41]))] : (List ByteArray))]⟩) 0 h0 (sub_ok (by kernel_rfl)) ?_
 intro x19 h
 replace h := hI _ h
 show En c ⟨[sl 3 (.ptr 0 0), sl 12 (.own 5), sl 13 (.own 6), sl 14 (I x14), sl 15 (LS boolT (HoldsR g e_2).1), sl 17 (LS boolT (HoldsR g e_3).1), sl 19 (I x19)], [.box (ApiGraph.cl g) 24 false, .gone, .gone, .gone, .gone, rowI 9 strT ([(((qbrTurn7) ++ s) ++ (qbrTurn0)), (((qbrTurn8) ++ s) ++ (qbrTurn0)), (((qbrTurn11) ++ s) ++ (qbrTurn0)), (((((qbrTurn9) ++ s) ++ (qbrTurn1)) ++ t) ++ (ByteArray.mk #[41, 41]))] : (List ByteArray)), rowI 9 strT ([(((qbrTurn3) ++ s) ++ (qbrTurn0)), (((qbrTurn4) ++ s) ++ (qbrTurn0)), (((qbrTurn5) ++ s) ++ (qbrTurn0)), (((((((((ByteArray.mk #[40]) ++ t) ++ (qbrTurn6)) ++ s) ++ (qbrTurn2)) ++ s) ++ (qbrTurn1)) ++ t) ++ (ByteArray.mk #[41, 41, 41]))] : (List ByteArray))]⟩ _
 refine En.seq ?_
 refine En.seq ?_
 refine En.region ?_
 refine WL.run ht hn 4 ⟨[sl 3 (.ptr 0 0), sl 12 (.own 5), sl 13 (.own 6), sl 14 (I x14), sl 15 (LS boolT (HoldsR g e_2).1), sl 17 (LS boolT (HoldsR g e_3).1), sl 19 (I x19), sl 124 (B (decide (x19 < ((HoldsR g e_2).1.length : Int))))], [.box (ApiGraph.cl g) 24 false, .gone, .gone, .gone, .gone, rowI 9 strT ([(((qbrTurn7) ++ s) ++ (qbrTurn0)), (((qbrTurn8) ++ s) ++ (qbrTurn0)), (((qbrTurn11) ++ s) ++ (qbrTurn0)), (((((qbrTurn9) ++ s) ++ (qbrTurn1)) ++ t) ++ (ByteArray.mk #[41, 41]))] : (List ByteArray)), rowI 9 strT ([(((qbrTurn3) ++ s) ++ (qbrTurn0)), (((qbrTurn4) ++ s) ++ (qbrTurn0)), (((qbrTurn5) ++ s) ++ (qbrTurn0)), (((((((((ByteArray.mk #[40]) ++ t) ++ (qbrTurn6)) ++ s) ++ (qbrTurn2)) ++ s) ++ (qbrTurn1)) ++ t) ++ (ByteArray.mk #[41, 41, 41]))] : (List ByteArray))]⟩ (by kernel_rfl) ?_
 refine WL.nil ?_
 refine En.cond (b := (decide (x19 < ((HoldsR g e_2).1.length : Int)))) (by kernel_rfl) (fun hb => ?_) (fun hb => ?_)
 replace h := h.1 hb
 refine En.skip ?_
 refine En.seq ?_
 refine En.block ?_
 refine En.seq ?_
 obtain ⟨e_4, he_4, h⟩ := h
 obtain ⟨e_5, he_5, h⟩ := h
 refine En.regionA ⟨[sl 3 (.ptr 0 0), sl 12 (.own 5), sl 13 (.own 6), sl 14 (I x14), sl 15 (LS boolT (HoldsR g e_2).1), sl 17 (LS boolT (HoldsR g e_3).1), sl 19 (I x19)], [.sv (.one (LS boolT (HoldsR g e_2).1)), .sv (.one (I x19)), .sv (.one (.pe (svR (.one (B e_4))) 1)), .sv (.one (B e_4)), .sv (.one (LS boolT (HoldsR g e_3).1)), .sv (.one (I x19)), .sv (.one (.pe (svR (.one (B e_5))) 1)), .sv (.one (B e_5)), .sv (.one (B (e_4 != e_5)))], [⟨.box (ApiGraph.cl g) 24 false, none, none, none⟩, ⟨.gone, none, none, none⟩, ⟨.gone, none, none, none⟩, ⟨.gone, none, none, none⟩, ⟨.gone, none, none, none⟩, ⟨rowI 9 strT ([(((qbrTurn7) ++ s) ++ (qbrTurn0)), (((qbrTurn8) ++ s) ++ (qbrTurn0)), (((qbrTurn11) ++ s) ++ (qbrTurn0)), (((((qbrTurn9) ++ s) ++ (qbrTurn1)) ++ t) ++ (ByteArray.mk #[41, 41]))] : (List ByteArray)), none, none, none⟩, ⟨rowI 9 strT ([(((qbrTurn3) ++ s) ++ (qbrTurn0)), (((qbrTurn4) ++ s) ++ (qbrTurn0)), (((qbrTurn5) ++ s) ++ (qbrTurn0)), (((((((((ByteArray.mk #[40]) ++ t) ++ (qbrTurn6)) ++ s) ++ (qbrTurn2)) ++ s) ++ (qbrTurn1)) ++ t) ++ (ByteArray.mk #[41, 41, 41]))] : (List ByteArray)), none, none, none⟩]⟩ ⟨[sl 3 (.ptr 0 0), sl 12 (.own 5), sl 13 (.own 6), sl 14 (I x14), sl 15 (LS boolT (HoldsR g e_2).1), sl 17 (LS boolT (HoldsR g e_3).1), sl 19 (I x19), sl 135 (B (e_4 != e_5))], [.box (ApiGraph.cl g) 24 false, .gone, .gone, .gone, .gone, rowI 9 strT ([(((qbrTurn7) ++ s) ++ (qbrTurn0)), (((qbrTurn8) ++ s) ++ (qbrTurn0)), (((qbrTurn11) ++ s) ++ (qbrTurn0)), (((((qbrTurn9) ++ s) ++ (qbrTurn1)) ++ t) ++ (ByteArray.mk #[41, 41]))] : (List ByteArray)), rowI 9 strT ([(((qbrTurn3) ++ s) ++ (qbrTurn0)), (((qbrTurn4) ++ s) ++ (qbrTurn0)), (((qbrTurn5) ++ s) ++ (qbrTurn0)), (((((((((ByteArray.mk #[40]) ++ t) ++ (qbrTurn6)) ++ s) ++ (qbrTurn2)) ++ s) ++ (qbrTurn1)) ++ t) ++ (ByteArray.mk #[41, 41, 41]))] : (List ByteArray))]⟩ (by kernel_rfl) hn (by kernel_rfl) (by rfl) (by kernel_rfl) ?_ (by kernel_rfl) ?_
 exact ⟨.mt ⟨[sl 15 (LS boolT (HoldsR g e_2).1)], []⟩ [] none (by kernel_rfl) (by rfl) (mt_ev ht (by kernel_rfl)) rfl rfl rfl rfl,
 .mt ⟨[sl 19 (I x19)], []⟩ [] none (by kernel_rfl) (by rfl) (mt_ev ht (by kernel_rfl)) rfl rfl rfl rfl,
 .mt ⟨[sl 127 (LS boolT (HoldsR g e_2).1), sl 128 (I x19)], []⟩ [] none (by kernel_rfl) (by rfl) (mt_val (val_index (T := boolT) (l := (HoldsR g e_2).1) (i := x19) ht rfl (by rfl) (by rfl) (by rfl) (by rfl) (by rfl) (by rfl) he_4)) rfl rfl rfl rfl,
 .mt ⟨[sl 129 (.pe (svR (.one (B e_4))) 1)], []⟩ [] none (by kernel_rfl) (by rfl) (mt_val (val_load (s := .one (B e_4)) ht rfl (by rfl) (by rfl) (by rfl) (by rfl) (by rfl))) rfl rfl rfl rfl,
 .mt ⟨[sl 17 (LS boolT (HoldsR g e_3).1)], []⟩ [] none (by kernel_rfl) (by rfl) (mt_ev ht (by kernel_rfl)) rfl rfl rfl rfl,
 .mt ⟨[sl 19 (I x19)], []⟩ [] none (by kernel_rfl) (by rfl) (mt_ev ht (by kernel_rfl)) rfl rfl rfl rfl,
 .mt ⟨[sl 131 (LS boolT (HoldsR g e_3).1), sl 132 (I x19)], []⟩ [] none (by kernel_rfl) (by rfl) (mt_val (val_index (T := boolT) (l := (HoldsR g e_3).1) (i := x19) ht rfl (by rfl) (by rfl) (by rfl) (by rfl) (by rfl) (by rfl) he_5)) rfl rfl rfl rfl,
 .mt ⟨[sl 133 (.pe (svR (.one (B e_5))) 1)], []⟩ [] none (by kernel_rfl) (by rfl) (mt_val (val_load (s := .one (B e_5)) ht rfl (by rfl) (by rfl) (by rfl) (by rfl) (by rfl))) rfl rfl rfl rfl,
 .mt ⟨[sl 130 (B e_4), sl 134 (B e_5)], []⟩ [] none (by kernel_rfl) (by rfl) (mt_val (val_eqB (u := e_4) (v := e_5) rfl Try.underlying4 (by rfl) (by rfl) (.inr ⟨rfl, rfl⟩))) rfl rfl rfl rfl,
 trivial⟩
 refine En.cond (b := (e_4 != e_5)) (by kernel_rfl) (fun hb => ?_) (fun hb => ?_)
 replace h := h.1 hb
 refine En.seq ?_
 refine En.region ?_
 refine WL.run ht hn 1 ⟨[sl 6 (B false)], [.gone, .gone, .gone, .gone, .gone, .gone, .gone]⟩ (by kernel_rfl) ?_
 refine WL.nil ?_
 refine En.ret ?_
 exact En.back ht false h (by kernel_rfl) rfl
 replace h := h.2 hb
 refine En.skip ?_
 refine En.region ?_
 refine WL.run ht hn 3 ⟨[sl 3 (.ptr 0 0), sl 12 (.own 5), sl 13 (.own 6), sl 14 (I x14), sl 15 (LS boolT (HoldsR g e_2).1), sl 17 (LS boolT (HoldsR g e_3).1), sl 19 (I (wr (x19 + 1)))], [.box (ApiGraph.cl g) 24 false, .gone, .gone, .gone, .gone, rowI 9 strT ([(((qbrTurn7) ++ s) ++ (qbrTurn0)), (((qbrTurn8) ++ s) ++ (qbrTurn0)), (((qbrTurn11) ++ s) ++ (qbrTurn0)), (((((qbrTurn9) ++ s) ++ (qbrTurn1)) ++ t) ++ (ByteArray.mk #[41, 41]))] : (List ByteArray)), rowI 9 strT ([(((qbrTurn3) ++ s) ++ (qbrTurn0)), (((qbrTurn4) ++ s) ++ (qbrTurn0)), (((qbrTurn5) ++ s) ++ (qbrTurn0)), (((((((((ByteArray.mk #[40]) ++ t) ++ (qbrTurn6)) ++ s) ++ (qbrTurn2)) ++ s) ++ (qbrTurn1)) ++ t) ++ (ByteArray.mk #[41, 41, 41]))] : (List ByteArray))]⟩ (by kernel_rfl) ?_
 refine WL.nil ?_
 exact En.at (I := fun zz => Inv_2 zz ∧ mu_2 zz < mu_2 x19) (T := fun zz => ⟨[sl 3 (.ptr 0 0), sl 12 (.own 5), sl 13 (.own 6), sl 14 (I x14), sl 15 (LS boolT (HoldsR g e_2).1), sl 17 (LS boolT (HoldsR g e_3).1), sl 19 (I zz)], [.box (ApiGraph.cl g) 24 false, .gone, .gone, .gone, .gone, rowI 9 strT ([(((qbrTurn7) ++ s) ++ (qbrTurn0)), (((qbrTurn8) ++ s) ++ (qbrTurn0)), (((qbrTurn11) ++ s) ++ (qbrTurn0)), (((((qbrTurn9) ++ s) ++ (qbrTurn1)) ++ t) ++ (ByteArray.mk #[41, 41]))] : (List ByteArray)), rowI 9 strT ([(((qbrTurn3) ++ s) ++ (qbrTurn0)), (((qbrTurn4) ++ s) ++ (qbrTurn0)), (((qbrTurn5) ++ s) ++ (qbrTurn0)), (((((((((ByteArray.mk #[40]) ++ t) ++ (qbrTurn6)) ++ s) ++ (qbrTurn2)) ++ s) ++ (qbrTurn1)) ++ t) ++ (ByteArray.mk #[41, 41, 41]))] : (List ByteArray))]⟩) (wr (x19 + 1)) h (by kernel_rfl)
 replace h := h.2 hb
 refine En.exit rfl ?_
 exact En.at (I := fun _ => J_2) (T := fun _ => ⟨[sl 3 (.ptr 0 0), sl 12 (.own 5), sl 13 (.own 6), sl 14 (I x14)], [.box (ApiGraph.cl g) 24 false, .gone, .gone, .gone, .gone, rowI 9 strT ([(((qbrTurn7) ++ s) ++ (qbrTurn0)), (((qbrTurn8) ++ s) ++ (qbrTurn0)), (((qbrTurn11) ++ s) ++ (qbrTurn0)), (((((qbrTurn9) ++ s) ++ (qbrTurn1)) ++ t) ++ (ByteArray.mk #[41, 41]))] : (List ByteArray)), rowI 9 strT ([(((qbrTurn3) ++ s) ++ (qbrTurn0)), (((qbrTurn4) ++ s) ++ (qbrTurn0)), (((qbrTurn5) ++ s) ++ (qbrTurn0)), (((((((((ByteArray.mk #[40]) ++ t) ++ (qbrTurn6)) ++ s) ++ (qbrTurn2)) ++ s) ++ (qbrTurn1)) ++ t) ++ (ByteArray.mk #[41, 41, 41]))] : (List ByteArray))]⟩) () h (by kernel_rfl)
 intro _ h
 replace h := hJ_2 h
 show En c ⟨[sl 3 (.ptr 0 0), sl 12 (.own 5), sl 13 (.own 6), sl 14 (I x14)], [.box (ApiGraph.cl g) 24 false, .gone, .gone, .gone, .gone, rowI 9 strT ([(((qbrTurn7) ++ s) ++ (qbrTurn0)), (((qbrTurn8) ++ s) ++ (qbrTurn0)), (((qbrTurn11) ++ s) ++ (qbrTurn0)), (((((qbrTurn9) ++ s) ++ (qbrTurn1)) ++ t) ++ (ByteArray.mk #[41, 41]))] : (List ByteArray)), rowI 9 strT ([(((qbrTurn3) ++ s) ++ (qbrTurn0)), (((qbrTurn4) ++ s) ++ (qbrTurn0)), (((qbrTurn5) ++ s) ++ (qbrTurn0)), (((((((((ByteArray.mk #[40]) ++ t) ++ (qbrTurn6)) ++ s) ++ (qbrTurn2)) ++ s) ++ (qbrTurn1)) ++ t) ++ (ByteArray.mk #[41, 41, 41]))] : (List ByteArray))]⟩ _
 refine En.region ?_
 refine WL.run ht hn 3 ⟨[sl 3 (.ptr 0 0), sl 12 (.own 5), sl 13 (.own 6), sl 14 (I (wr (x14 + 1)))], [.box (ApiGraph.cl g) 24 false, .gone, .gone, .gone, .gone, rowI 9 strT ([(((qbrTurn7) ++ s) ++ (qbrTurn0)), (((qbrTurn8) ++ s) ++ (qbrTurn0)), (((qbrTurn11) ++ s) ++ (qbrTurn0)), (((((qbrTurn9) ++ s) ++ (qbrTurn1)) ++ t) ++ (ByteArray.mk #[41, 41]))] : (List ByteArray)), rowI 9 strT ([(((qbrTurn3) ++ s) ++ (qbrTurn0)), (((qbrTurn4) ++ s) ++ (qbrTurn0)), (((qbrTurn5) ++ s) ++ (qbrTurn0)), (((((((((ByteArray.mk #[40]) ++ t) ++ (qbrTurn6)) ++ s) ++ (qbrTurn2)) ++ s) ++ (qbrTurn1)) ++ t) ++ (ByteArray.mk #[41, 41, 41]))] : (List ByteArray))]⟩ (by kernel_rfl) ?_
 refine WL.nil ?_
 exact En.at (I := fun zz => Inv zz ∧ mu zz < mu x14) (T := fun zz => ⟨[sl 3 (.ptr 0 0), sl 12 (.own 5), sl 13 (.own 6), sl 14 (I zz)], [.box (ApiGraph.cl g) 24 false, .gone, .gone, .gone, .gone, rowI 9 strT ([(((qbrTurn7) ++ s) ++ (qbrTurn0)), (((qbrTurn8) ++ s) ++ (qbrTurn0)), (((qbrTurn11) ++ s) ++ (qbrTurn0)), (((((qbrTurn9) ++ s) ++ (qbrTurn1)) ++ t) ++ (ByteArray.mk #[41, 41]))] : (List ByteArray)), rowI 9 strT ([(((qbrTurn3) ++ s) ++ (qbrTurn0)), (((qbrTurn4) ++ s) ++ (qbrTurn0)), (((qbrTurn5) ++ s) ++ (qbrTurn0)), (((((((((ByteArray.mk #[40]) ++ t) ++ (qbrTurn6)) ++ s) ++ (qbrTurn2)) ++ s) ++ (qbrTurn1)) ++ t) ++ (ByteArray.mk #[41, 41, 41]))] : (List ByteArray))]⟩) (wr (x14 + 1)) h (by kernel_rfl)
 replace h := h.2 hb
 refine En.exit rfl ?_
 refine En.seq ?_
 refine En.region ?_
 refine WL.run ht hn 1 ⟨[sl 6 (B true)], [.gone, .gone, .gone, .gone, .gone, .gone, .gone]⟩ (by kernel_rfl) ?_
 refine WL.nil ?_
 refine En.ret ?_
 exact En.back ht true h (by kernel_rfl) rfl
theorem brLX {s t : ByteArray} {S T : BTr} {K K2 : Nat} (hs : qB s K 2 0 = some (S, (s.size : Int))) : RdB (((ByteArray.mk #[65, 88, 40]) ++ s) ++ (ByteArray.mk #[41])) 2 0 (bn 88 true 0 [S]) (4 + (s.size : Int)) := by
 obtain ⟨c, he⟩ : ∃ c, c = (((ByteArray.mk #[65, 88, 40]) ++ s) ++ (ByteArray.mk #[41])) := ⟨_, rfl⟩
 rw [← he]
 have z0 : (ByteArray.mk #[65, 88, 40]).size = 3 := rfl
 have z1 : (ByteArray.mk #[41]).size = 1 := rfl
 have hz : c.size = 4 + s.size := by rw [he]; simp only [ByteArray.size_append]; omega
 have c0 : ∀ p : Int, p = 0 → bch c p = 65 := fun p e => by rw [he, bch_l (by (try simp only [ByteArray.size_append]); omega), bch_l (by (try simp only [ByteArray.size_append]); omega)]; subst e; kernel_rfl
 have c1 : ∀ p : Int, p = 1 → bch c p = 88 := fun p e => by rw [he, bch_l (by (try simp only [ByteArray.size_append]); omega), bch_l (by (try simp only [ByteArray.size_append]); omega)]; subst e; kernel_rfl
 have c2 : ∀ p : Int, p = 2 → bch c p = 40 := fun p e => by rw [he, bch_l (by (try simp only [ByteArray.size_append]); omega), bch_l (by (try simp only [ByteArray.size_append]); omega)]; subst e; kernel_rfl
 have i1 : InB s c (3) := ⟨by omega, fun p h0 h => by rw [he, bch_l (by (try simp only [ByteArray.size_append]); omega), bch_r (j := p) (by (try simp only [ByteArray.size_append]); omega) (by omega)], by rw [he, bch_r (j := 0) (by (try simp only [ByteArray.size_append]); omega) (by omega)]; kernel_rfl⟩
 have c3 : ∀ p : Int, p = 3 + (s.size : Int) → bch c p = 41 := fun p e => by rw [he, bch_r (j := 0) (by (try simp only [ByteArray.size_append]); omega) (by omega)]; kernel_rfl
 have cz : ∀ p : Int, p = 4 + (s.size : Int) → bch c p = 0 := fun p e => bch_end (by omega)
 have k : RdB c 0 (0 + 1 + 1) S (4 + (s.size : Int)) := rb_in i1 (by omega) hs (c2 _ (by omega)) (by omega) (by omega)
 exact rb_all (rb_way (al := true) (c0 _ (by omega)) (c1 _ (by omega)) (by decide) k) (by rw [cz _ (by omega)]; decide) (by rw [cz _ (by omega)]; decide)
theorem brRX {s t : ByteArray} {S T : BTr} {K K2 : Nat} (hs : qB s K 2 0 = some (S, (s.size : Int))) : RdB (((ByteArray.mk #[33, 69, 88, 33, 40]) ++ s) ++ (ByteArray.mk #[41])) 2 0 (bn 33 false 0 [bn 88 false 0 [bn 33 false 0 [S]]]) (6 + (s.size : Int)) := by
 obtain ⟨c, he⟩ : ∃ c, c = (((ByteArray.mk #[33, 69, 88, 33, 40]) ++ s) ++ (ByteArray.mk #[41])) := ⟨_, rfl⟩
 rw [← he]
 have z0 : (ByteArray.mk #[33, 69, 88, 33, 40]).size = 5 := rfl
 have z1 : (ByteArray.mk #[41]).size = 1 := rfl
 have hz : c.size = 6 + s.size := by rw [he]; simp only [ByteArray.size_append]; omega
 have c0 : ∀ p : Int, p = 0 → bch c p = 33 := fun p e => by rw [he, bch_l (by (try simp only [ByteArray.size_append]); omega), bch_l (by (try simp only [ByteArray.size_append]); omega)]; subst e; kernel_rfl
 have c1 : ∀ p : Int, p = 1 → bch c p = 69 := fun p e => by rw [he, bch_l (by (try simp only [ByteArray.size_append]); omega), bch_l (by (try simp only [ByteArray.size_append]); omega)]; subst e; kernel_rfl
 have c2 : ∀ p : Int, p = 2 → bch c p = 88 := fun p e => by rw [he, bch_l (by (try simp only [ByteArray.size_append]); omega), bch_l (by (try simp only [ByteArray.size_append]); omega)]; subst e; kernel_rfl
 have c3 : ∀ p : Int, p = 3 → bch c p = 33 := fun p e => by rw [he, bch_l (by (try simp only [ByteArray.size_append]); omega), bch_l (by (try simp only [ByteArray.size_append]); omega)]; subst e; kernel_rfl
 have c4 : ∀ p : Int, p = 4 → bch c p = 40 := fun p e => by rw [he, bch_l (by (try simp only [ByteArray.size_append]); omega), bch_l (by (try simp only [ByteArray.size_append]); omega)]; subst e; kernel_rfl
 have i1 : InB s c (5) := ⟨by omega, fun p h0 h => by rw [he, bch_l (by (try simp only [ByteArray.size_append]); omega), bch_r (j := p) (by (try simp only [ByteArray.size_append]); omega) (by omega)], by rw [he, bch_r (j := 0) (by (try simp only [ByteArray.size_append]); omega) (by omega)]; kernel_rfl⟩
 have c5 : ∀ p : Int, p = 5 + (s.size : Int) → bch c p = 41 := fun p e => by rw [he, bch_r (j := 0) (by (try simp only [ByteArray.size_append]); omega) (by omega)]; kernel_rfl
 have cz : ∀ p : Int, p = 6 + (s.size : Int) → bch c p = 0 := fun p e => bch_end (by omega)
 have k : RdB c 0 (0 + 1 + 1 + 1 + 1) S (6 + (s.size : Int)) := rb_in i1 (by omega) hs (c4 _ (by omega)) (by omega) (by omega)
 exact rb_all (rb_bang (c0 _ (by omega)) (rb_way (al := false) (c1 _ (by omega)) (c2 _ (by omega)) (by decide) (rb_bang (c3 _ (by omega)) k))) (by rw [cz _ (by omega)]; decide) (by rw [cz _ (by omega)]; decide)
theorem brLG {s t : ByteArray} {S T : BTr} {K K2 : Nat} (hs : qB s K 2 0 = some (S, (s.size : Int))) : RdB (((ByteArray.mk #[65, 71, 40]) ++ s) ++ (ByteArray.mk #[41])) 2 0 (bn 71 true 0 [S]) (4 + (s.size : Int)) := by
 obtain ⟨c, he⟩ : ∃ c, c = (((ByteArray.mk #[65, 71, 40]) ++ s) ++ (ByteArray.mk #[41])) := ⟨_, rfl⟩
 rw [← he]
 have z0 : (ByteArray.mk #[65, 71, 40]).size = 3 := rfl
 have z1 : (ByteArray.mk #[41]).size = 1 := rfl
 have hz : c.size = 4 + s.size := by rw [he]; simp only [ByteArray.size_append]; omega
 have c0 : ∀ p : Int, p = 0 → bch c p = 65 := fun p e => by rw [he, bch_l (by (try simp only [ByteArray.size_append]); omega), bch_l (by (try simp only [ByteArray.size_append]); omega)]; subst e; kernel_rfl
 have c1 : ∀ p : Int, p = 1 → bch c p = 71 := fun p e => by rw [he, bch_l (by (try simp only [ByteArray.size_append]); omega), bch_l (by (try simp only [ByteArray.size_append]); omega)]; subst e; kernel_rfl
 have c2 : ∀ p : Int, p = 2 → bch c p = 40 := fun p e => by rw [he, bch_l (by (try simp only [ByteArray.size_append]); omega), bch_l (by (try simp only [ByteArray.size_append]); omega)]; subst e; kernel_rfl
 have i1 : InB s c (3) := ⟨by omega, fun p h0 h => by rw [he, bch_l (by (try simp only [ByteArray.size_append]); omega), bch_r (j := p) (by (try simp only [ByteArray.size_append]); omega) (by omega)], by rw [he, bch_r (j := 0) (by (try simp only [ByteArray.size_append]); omega) (by omega)]; kernel_rfl⟩
 have c3 : ∀ p : Int, p = 3 + (s.size : Int) → bch c p = 41 := fun p e => by rw [he, bch_r (j := 0) (by (try simp only [ByteArray.size_append]); omega) (by omega)]; kernel_rfl
 have cz : ∀ p : Int, p = 4 + (s.size : Int) → bch c p = 0 := fun p e => bch_end (by omega)
 have k : RdB c 0 (0 + 1 + 1) S (4 + (s.size : Int)) := rb_in i1 (by omega) hs (c2 _ (by omega)) (by omega) (by omega)
 exact rb_all (rb_way (al := true) (c0 _ (by omega)) (c1 _ (by omega)) (by decide) k) (by rw [cz _ (by omega)]; decide) (by rw [cz _ (by omega)]; decide)
theorem brRG {s t : ByteArray} {S T : BTr} {K K2 : Nat} (hs : qB s K 2 0 = some (S, (s.size : Int))) : RdB (((ByteArray.mk #[33, 69, 71, 33, 40]) ++ s) ++ (ByteArray.mk #[41])) 2 0 (bn 33 false 0 [bn 71 false 0 [bn 33 false 0 [S]]]) (6 + (s.size : Int)) := by
 obtain ⟨c, he⟩ : ∃ c, c = (((ByteArray.mk #[33, 69, 71, 33, 40]) ++ s) ++ (ByteArray.mk #[41])) := ⟨_, rfl⟩
 rw [← he]
 have z0 : (ByteArray.mk #[33, 69, 71, 33, 40]).size = 5 := rfl
 have z1 : (ByteArray.mk #[41]).size = 1 := rfl
 have hz : c.size = 6 + s.size := by rw [he]; simp only [ByteArray.size_append]; omega
 have c0 : ∀ p : Int, p = 0 → bch c p = 33 := fun p e => by rw [he, bch_l (by (try simp only [ByteArray.size_append]); omega), bch_l (by (try simp only [ByteArray.size_append]); omega)]; subst e; kernel_rfl
 have c1 : ∀ p : Int, p = 1 → bch c p = 69 := fun p e => by rw [he, bch_l (by (try simp only [ByteArray.size_append]); omega), bch_l (by (try simp only [ByteArray.size_append]); omega)]; subst e; kernel_rfl
 have c2 : ∀ p : Int, p = 2 → bch c p = 71 := fun p e => by rw [he, bch_l (by (try simp only [ByteArray.size_append]); omega), bch_l (by (try simp only [ByteArray.size_append]); omega)]; subst e; kernel_rfl
 have c3 : ∀ p : Int, p = 3 → bch c p = 33 := fun p e => by rw [he, bch_l (by (try simp only [ByteArray.size_append]); omega), bch_l (by (try simp only [ByteArray.size_append]); omega)]; subst e; kernel_rfl
 have c4 : ∀ p : Int, p = 4 → bch c p = 40 := fun p e => by rw [he, bch_l (by (try simp only [ByteArray.size_append]); omega), bch_l (by (try simp only [ByteArray.size_append]); omega)]; subst e; kernel_rfl
 have i1 : InB s c (5) := ⟨by omega, fun p h0 h => by rw [he, bch_l (by (try simp only [ByteArray.size_append]); omega), bch_r (j := p) (by (try simp only [ByteArray.size_append]); omega) (by omega)], by rw [he, bch_r (j := 0) (by (try simp only [ByteArray.size_append]); omega) (by omega)]; kernel_rfl⟩
 have c5 : ∀ p : Int, p = 5 + (s.size : Int) → bch c p = 41 := fun p e => by rw [he, bch_r (j := 0) (by (try simp only [ByteArray.size_append]); omega) (by omega)]; kernel_rfl
 have cz : ∀ p : Int, p = 6 + (s.size : Int) → bch c p = 0 := fun p e => bch_end (by omega)
 have k : RdB c 0 (0 + 1 + 1 + 1 + 1) S (6 + (s.size : Int)) := rb_in i1 (by omega) hs (c4 _ (by omega)) (by omega) (by omega)
 exact rb_all (rb_bang (c0 _ (by omega)) (rb_way (al := false) (c1 _ (by omega)) (c2 _ (by omega)) (by decide) (rb_bang (c3 _ (by omega)) k))) (by rw [cz _ (by omega)]; decide) (by rw [cz _ (by omega)]; decide)
theorem brLF {s t : ByteArray} {S T : BTr} {K K2 : Nat} (hs : qB s K 2 0 = some (S, (s.size : Int))) : RdB (((ByteArray.mk #[65, 70, 40]) ++ s) ++ (ByteArray.mk #[41])) 2 0 (bn 70 true 0 [S]) (4 + (s.size : Int)) := by
 obtain ⟨c, he⟩ : ∃ c, c = (((ByteArray.mk #[65, 70, 40]) ++ s) ++ (ByteArray.mk #[41])) := ⟨_, rfl⟩
 rw [← he]
 have z0 : (ByteArray.mk #[65, 70, 40]).size = 3 := rfl
 have z1 : (ByteArray.mk #[41]).size = 1 := rfl
 have hz : c.size = 4 + s.size := by rw [he]; simp only [ByteArray.size_append]; omega
 have c0 : ∀ p : Int, p = 0 → bch c p = 65 := fun p e => by rw [he, bch_l (by (try simp only [ByteArray.size_append]); omega), bch_l (by (try simp only [ByteArray.size_append]); omega)]; subst e; kernel_rfl
 have c1 : ∀ p : Int, p = 1 → bch c p = 70 := fun p e => by rw [he, bch_l (by (try simp only [ByteArray.size_append]); omega), bch_l (by (try simp only [ByteArray.size_append]); omega)]; subst e; kernel_rfl
 have c2 : ∀ p : Int, p = 2 → bch c p = 40 := fun p e => by rw [he, bch_l (by (try simp only [ByteArray.size_append]); omega), bch_l (by (try simp only [ByteArray.size_append]); omega)]; subst e; kernel_rfl
 have i1 : InB s c (3) := ⟨by omega, fun p h0 h => by rw [he, bch_l (by (try simp only [ByteArray.size_append]); omega), bch_r (j := p) (by (try simp only [ByteArray.size_append]); omega) (by omega)], by rw [he, bch_r (j := 0) (by (try simp only [ByteArray.size_append]); omega) (by omega)]; kernel_rfl⟩
 have c3 : ∀ p : Int, p = 3 + (s.size : Int) → bch c p = 41 := fun p e => by rw [he, bch_r (j := 0) (by (try simp only [ByteArray.size_append]); omega) (by omega)]; kernel_rfl
 have cz : ∀ p : Int, p = 4 + (s.size : Int) → bch c p = 0 := fun p e => bch_end (by omega)
 have k : RdB c 0 (0 + 1 + 1) S (4 + (s.size : Int)) := rb_in i1 (by omega) hs (c2 _ (by omega)) (by omega) (by omega)
 exact rb_all (rb_way (al := true) (c0 _ (by omega)) (c1 _ (by omega)) (by decide) k) (by rw [cz _ (by omega)]; decide) (by rw [cz _ (by omega)]; decide)
theorem brRF {s t : ByteArray} {S T : BTr} {K K2 : Nat} (hs : qB s K 2 0 = some (S, (s.size : Int))) : RdB (((ByteArray.mk #[33, 69, 70, 33, 40]) ++ s) ++ (ByteArray.mk #[41])) 2 0 (bn 33 false 0 [bn 70 false 0 [bn 33 false 0 [S]]]) (6 + (s.size : Int)) := by
 obtain ⟨c, he⟩ : ∃ c, c = (((ByteArray.mk #[33, 69, 70, 33, 40]) ++ s) ++ (ByteArray.mk #[41])) := ⟨_, rfl⟩
 rw [← he]
 have z0 : (ByteArray.mk #[33, 69, 70, 33, 40]).size = 5 := rfl
 have z1 : (ByteArray.mk #[41]).size = 1 := rfl
 have hz : c.size = 6 + s.size := by rw [he]; simp only [ByteArray.size_append]; omega
 have c0 : ∀ p : Int, p = 0 → bch c p = 33 := fun p e => by rw [he, bch_l (by (try simp only [ByteArray.size_append]); omega), bch_l (by (try simp only [ByteArray.size_append]); omega)]; subst e; kernel_rfl
 have c1 : ∀ p : Int, p = 1 → bch c p = 69 := fun p e => by rw [he, bch_l (by (try simp only [ByteArray.size_append]); omega), bch_l (by (try simp only [ByteArray.size_append]); omega)]; subst e; kernel_rfl
 have c2 : ∀ p : Int, p = 2 → bch c p = 70 := fun p e => by rw [he, bch_l (by (try simp only [ByteArray.size_append]); omega), bch_l (by (try simp only [ByteArray.size_append]); omega)]; subst e; kernel_rfl
 have c3 : ∀ p : Int, p = 3 → bch c p = 33 := fun p e => by rw [he, bch_l (by (try simp only [ByteArray.size_append]); omega), bch_l (by (try simp only [ByteArray.size_append]); omega)]; subst e; kernel_rfl
 have c4 : ∀ p : Int, p = 4 → bch c p = 40 := fun p e => by rw [he, bch_l (by (try simp only [ByteArray.size_append]); omega), bch_l (by (try simp only [ByteArray.size_append]); omega)]; subst e; kernel_rfl
 have i1 : InB s c (5) := ⟨by omega, fun p h0 h => by rw [he, bch_l (by (try simp only [ByteArray.size_append]); omega), bch_r (j := p) (by (try simp only [ByteArray.size_append]); omega) (by omega)], by rw [he, bch_r (j := 0) (by (try simp only [ByteArray.size_append]); omega) (by omega)]; kernel_rfl⟩
 have c5 : ∀ p : Int, p = 5 + (s.size : Int) → bch c p = 41 := fun p e => by rw [he, bch_r (j := 0) (by (try simp only [ByteArray.size_append]); omega) (by omega)]; kernel_rfl
 have cz : ∀ p : Int, p = 6 + (s.size : Int) → bch c p = 0 := fun p e => bch_end (by omega)
 have k : RdB c 0 (0 + 1 + 1 + 1 + 1) S (6 + (s.size : Int)) := rb_in i1 (by omega) hs (c4 _ (by omega)) (by omega) (by omega)
 exact rb_all (rb_bang (c0 _ (by omega)) (rb_way (al := false) (c1 _ (by omega)) (c2 _ (by omega)) (by decide) (rb_bang (c3 _ (by omega)) k))) (by rw [cz _ (by omega)]; decide) (by rw [cz _ (by omega)]; decide)
theorem brLU {s t : ByteArray} {S T : BTr} {K K2 : Nat} (hs : qB s K 2 0 = some (S, (s.size : Int))) (ht : qB t K2 2 0 = some (T, (t.size : Int))) : RdB (((((ByteArray.mk #[69, 40, 40]) ++ s) ++ (ByteArray.mk #[41, 85, 40])) ++ t) ++ (ByteArray.mk #[41, 41])) 2 0 (bn 85 false 0 [S, T]) (7 + (s.size : Int) + (t.size : Int) + 1) := by
 obtain ⟨c, he⟩ : ∃ c, c = (((((ByteArray.mk #[69, 40, 40]) ++ s) ++ (ByteArray.mk #[41, 85, 40])) ++ t) ++ (ByteArray.mk #[41, 41])) := ⟨_, rfl⟩
 rw [← he]
 have z0 : (ByteArray.mk #[69, 40, 40]).size = 3 := rfl
 have z1 : (ByteArray.mk #[41, 85, 40]).size = 3 := rfl
 have z2 : (ByteArray.mk #[41, 41]).size = 2 := rfl
 have hz : c.size = 8 + s.size + t.size := by rw [he]; simp only [ByteArray.size_append]; omega
 have c0 : ∀ p : Int, p = 0 → bch c p = 69 := fun p e => by rw [he, bch_l (by (try simp only [ByteArray.size_append]); omega), bch_l (by (try simp only [ByteArray.size_append]); omega), bch_l (by (try simp only [ByteArray.size_append]); omega), bch_l (by (try simp only [ByteArray.size_append]); omega)]; subst e; kernel_rfl
 have c1 : ∀ p : Int, p = 1 → bch c p = 40 := fun p e => by rw [he, bch_l (by (try simp only [ByteArray.size_append]); omega), bch_l (by (try simp only [ByteArray.size_append]); omega), bch_l (by (try simp only [ByteArray.size_append]); omega), bch_l (by (try simp only [ByteArray.size_append]); omega)]; subst e; kernel_rfl
 have c2 : ∀ p : Int, p = 2 → bch c p = 40 := fun p e => by rw [he, bch_l (by (try simp only [ByteArray.size_append]); omega), bch_l (by (try simp only [ByteArray.size_append]); omega), bch_l (by (try simp only [ByteArray.size_append]); omega), bch_l (by (try simp only [ByteArray.size_append]); omega)]; subst e; kernel_rfl
 have i1 : InB s c (3) := ⟨by omega, fun p h0 h => by rw [he, bch_l (by (try simp only [ByteArray.size_append]); omega), bch_l (by (try simp only [ByteArray.size_append]); omega), bch_l (by (try simp only [ByteArray.size_append]); omega), bch_r (j := p) (by (try simp only [ByteArray.size_append]); omega) (by omega)], by rw [he, bch_l (by (try simp only [ByteArray.size_append]); omega), bch_l (by (try simp only [ByteArray.size_append]); omega), bch_r (j := 0) (by (try simp only [ByteArray.size_append]); omega) (by omega)]; kernel_rfl⟩
 have c3 : ∀ p : Int, p = 3 + (s.size : Int) → bch c p = 41 := fun p e => by rw [he, bch_l (by (try simp only [ByteArray.size_append]); omega), bch_l (by (try simp only [ByteArray.size_append]); omega), bch_r (j := 0) (by (try simp only [ByteArray.size_append]); omega) (by omega)]; kernel_rfl
 have c4 : ∀ p : Int, p = 4 + (s.size : Int) → bch c p = 85 := fun p e => by rw [he, bch_l (by (try simp only [ByteArray.size_append]); omega), bch_l (by (try simp only [ByteArray.size_append]); omega), bch_r (j := 1) (by (try simp only [ByteArray.size_append]); omega) (by omega)]; kernel_rfl
 have c5 : ∀ p : Int, p = 5 + (s.size : Int) → bch c p = 40 := fun p e => by rw [he, bch_l (by (try simp only [ByteArray.size_append]); omega), bch_l (by (try simp only [ByteArray.size_append]); omega), bch_r (j := 2) (by (try simp only [ByteArray.size_append]); omega) (by omega)]; kernel_rfl
 have i3 : InB t c (6 + (s.size : Int)) := ⟨by omega, fun p h0 h => by rw [he, bch_l (by (try simp only [ByteArray.size_append]); omega), bch_r (j := p) (by (try simp only [ByteArray.size_append]); omega) (by omega)], by rw [he, bch_r (j := 0) (by (try simp only [ByteArray.size_append]); omega) (by omega)]; kernel_rfl⟩
 have c6 : ∀ p : Int, p = 6 + (s.size : Int) + (t.size : Int) → bch c p = 41 := fun p e => by rw [he, bch_r (j := 0) (by (try simp only [ByteArray.size_append]); omega) (by omega)]; kernel_rfl
 have c7 : ∀ p : Int, p = 7 + (s.size : Int) + (t.size : Int) → bch c p = 41 := fun p e => by rw [he, bch_r (j := 1) (by (try simp only [ByteArray.size_append]); omega) (by omega)]; kernel_rfl
 have cz : ∀ p : Int, p = 8 + (s.size : Int) + (t.size : Int) → bch c p = 0 := fun p e => bch_end (by omega)
 have k1 : RdB c 0 (0 + 1 + 1) S (4 + (s.size : Int)) := rb_in i1 (by omega) hs (c2 _ (by omega)) (by omega) (by omega)
 have k2 : RdB c 0 (4 + (s.size : Int) + 1) T (7 + (s.size : Int) + (t.size : Int)) := rb_in i3 (by omega) ht (c5 _ (by omega)) (by omega) (by omega)
 exact rb_all (rb_until (c0 _ (by omega)) (c1 _ (by omega)) (rb_all k1 (by rw [c4 _ (by omega)]; decide) (by rw [c4 _ (by omega)]; decide)) (c4 _ (by omega)) (rb_all k2 (by rw [c7 _ (by omega)]; decide) (by rw [c7 _ (by omega)]; decide)) (c7 _ (by omega))) (by rw [cz _ (by omega)]; decide) (by rw [cz _ (by omega)]; decide)
theorem brRU {s t : ByteArray} {S T : BTr} {K K2 : Nat} (hs : qB s K 2 0 = some (S, (s.size : Int))) (ht : qB t K2 2 0 = some (T, (t.size : Int))) : RdB (((((((((ByteArray.mk #[40]) ++ t) ++ (ByteArray.mk #[41, 124, 40, 40])) ++ s) ++ (ByteArray.mk #[41, 38, 69, 88, 69, 40, 40])) ++ s) ++ (ByteArray.mk #[41, 85, 40])) ++ t) ++ (ByteArray.mk #[41, 41, 41])) 2 0 (bn 124 false 0 [T, bn 38 false 0 [S, bn 88 false 0 [bn 85 false 0 [S, T]]]]) (16 + (t.size : Int) + (s.size : Int) + (s.size : Int) + (t.size : Int) + 1 + 1) := by
 obtain ⟨c, he⟩ : ∃ c, c = (((((((((ByteArray.mk #[40]) ++ t) ++ (ByteArray.mk #[41, 124, 40, 40])) ++ s) ++ (ByteArray.mk #[41, 38, 69, 88, 69, 40, 40])) ++ s) ++ (ByteArray.mk #[41, 85, 40])) ++ t) ++ (ByteArray.mk #[41, 41, 41])) := ⟨_, rfl⟩
 rw [← he]
 have z0 : (ByteArray.mk #[40]).size = 1 := rfl
 have z1 : (ByteArray.mk #[41, 124, 40, 40]).size = 4 := rfl
 have z2 : (ByteArray.mk #[41, 38, 69, 88, 69, 40, 40]).size = 7 := rfl
 have z3 : (ByteArray.mk #[41, 85, 40]).size = 3 := rfl
 have z4 : (ByteArray.mk #[41, 41, 41]).size = 3 := rfl
 have hz : c.size = 18 + t.size + s.size + s.size + t.size := by rw [he]; simp only [ByteArray.size_append]; omega
 have c0 : ∀ p : Int, p = 0 → bch c p = 40 := fun p e => by rw [he, bch_l (by (try simp only [ByteArray.size_append]); omega), bch_l (by (try simp only [ByteArray.size_append]); omega), bch_l (by (try simp only [ByteArray.size_append]); omega), bch_l (by (try simp only [ByteArray.size_append]); omega), bch_l (by (try simp only [ByteArray.size_append]); omega), bch_l (by (try simp only [ByteArray.size_append]); omega), bch_l (by (try simp only [ByteArray.size_append]); omega), bch_l (by (try simp only [ByteArray.size_append]); omega)]; subst e; kernel_rfl
 have i1 : InB t c (1) := ⟨by omega, fun p h0 h => by rw [he, bch_l (by (try simp only [ByteArray.size_append]); omega), bch_l (by (try simp only [ByteArray.size_append]); omega), bch_l (by (try simp only [ByteArray.size_append]); omega), bch_l (by (try simp only [ByteArray.size_append]); omega), bch_l (by (try simp only [ByteArray.size_append]); omega), bch_l (by (try simp only [ByteArray.size_append]); omega), bch_l (by (try simp only [ByteArray.size_append]); omega), bch_r (j := p) (by (try simp only [ByteArray.size_append]); omega) (by omega)], by rw [he, bch_l (by (try simp only [ByteArray.size_append]); omega), bch_l (by (try simp only [ByteArray.size_append]); omega), bch_l (by (try simp only [ByteArray.size_append]); omega), bch_l (by (try simp only [ByteArray.size_append]); omega), bch_l (by (try simp only [ByteArray.size_append]); omega), bch_l (by (try simp only [ByteArray.size_append]); omega), bch_r (j := 0) (by (try simp only [ByteArray.size_append]); omega) (by omega)]; kernel_rfl⟩
 have c1 : ∀ p : Int, p = 1 + (t.size : Int) → bch c p = 41 := fun p e => by rw [he, bch_l (by (try simp only [ByteArray.size_append]); omega), bch_l (by (try simp only [ByteArray.size_append]); omega), bch_l (by (try simp only [ByteArray.size_append]); omega), bch_l (by (try simp only [ByteArray.size_append]); omega), bch_l (by (try simp only [ByteArray.size_append]); omega), bch_l (by (try simp only [ByteArray.size_append]); omega), bch_r (j := 0) (by (try simp only [ByteArray.size_append]); omega) (by omega)]; kernel_rfl
 have c2 : ∀ p : Int, p = 2 + (t.size : Int) → bch c p = 124 := fun p e => by rw [he, bch_l (by (try simp only [ByteArray.size_append]); omega), bch_l (by (try simp only [ByteArray.size_append]); omega), bch_l (by (try simp only [ByteArray.size_append]); omega), bch_l (by (try simp only [ByteArray.size_append]); omega), bch_l (by (try simp only [ByteArray.size_append]); omega), bch_l (by (try simp only [ByteArray.size_append]); omega), bch_r (j := 1) (by (try simp only [ByteArray.size_append]); omega) (by omega)]; kernel_rfl
 have c3 : ∀ p : Int, p = 3 + (t.size : Int) → bch c p = 40 := fun p e => by rw [he, bch_l (by (try simp only [ByteArray.size_append]); omega), bch_l (by (try simp only [ByteArray.size_append]); omega), bch_l (by (try simp only [ByteArray.size_append]); omega), bch_l (by (try simp only [ByteArray.size_append]); omega), bch_l (by (try simp only [ByteArray.size_append]); omega), bch_l (by (try simp only [ByteArray.size_append]); omega), bch_r (j := 2) (by (try simp only [ByteArray.size_append]); omega) (by omega)]; kernel_rfl
 have c4 : ∀ p : Int, p = 4 + (t.size : Int) → bch c p = 40 := fun p e => by rw [he, bch_l (by (try simp only [ByteArray.size_append]); omega), bch_l (by (try simp only [ByteArray.size_append]); omega), bch_l (by (try simp only [ByteArray.size_append]); omega), bch_l (by (try simp only [ByteArray.size_append]); omega), bch_l (by (try simp only [ByteArray.size_append]); omega), bch_l (by (try simp only [ByteArray.size_append]); omega), bch_r (j := 3) (by (try simp only [ByteArray.size_append]); omega) (by omega)]; kernel_rfl
 have i3 : InB s c (5 + (t.size : Int)) := ⟨by omega, fun p h0 h => by rw [he, bch_l (by (try simp only [ByteArray.size_append]); omega), bch_l (by (try simp only [ByteArray.size_append]); omega), bch_l (by (try simp only [ByteArray.size_append]); omega), bch_l (by (try simp only [ByteArray.size_append]); omega), bch_l (by (try simp only [ByteArray.size_append]); omega), bch_r (j := p) (by (try simp only [ByteArray.size_append]); omega) (by omega)], by rw [he, bch_l (by (try simp only [ByteArray.size_append]); omega), bch_l (by (try simp only [ByteArray.size_append]); omega), bch_l (by (try simp only [ByteArray.size_append]); omega), bch_l (by (try simp only [ByteArray.size_append]); omega), bch_r (j := 0) (by (try simp only [ByteArray.size_append]); omega) (by omega)]; kernel_rfl⟩
 have c5 : ∀ p : Int, p = 5 + (t.size : Int) + (s.size : Int) → bch c p = 41 := fun p e => by rw [he, bch_l (by (try simp only [ByteArray.size_append]); omega), bch_l (by (try simp only [ByteArray.size_append]); omega), bch_l (by (try simp only [ByteArray.size_append]); omega), bch_l (by (try simp only [ByteArray.size_append]); omega), bch_r (j := 0) (by (try simp only [ByteArray.size_append]); omega) (by omega)]; kernel_rfl
 have c6 : ∀ p : Int, p = 6 + (t.size : Int) + (s.size : Int) → bch c p = 38 := fun p e => by rw [he, bch_l (by (try simp only [ByteArray.size_append]); omega), bch_l (by (try simp only [ByteArray.size_append]); omega), bch_l (by (try simp only [ByteArray.size_append]); omega), bch_l (by (try simp only [ByteArray.size_append]); omega), bch_r (j := 1) (by (try simp only [ByteArray.size_append]); omega) (by omega)]; kernel_rfl
 have c7 : ∀ p : Int, p = 7 + (t.size : Int) + (s.size : Int) → bch c p = 69 := fun p e => by rw [he, bch_l (by (try simp only [ByteArray.size_append]); omega), bch_l (by (try simp only [ByteArray.size_append]); omega), bch_l (by (try simp only [ByteArray.size_append]); omega), bch_l (by (try simp only [ByteArray.size_append]); omega), bch_r (j := 2) (by (try simp only [ByteArray.size_append]); omega) (by omega)]; kernel_rfl
 have c8 : ∀ p : Int, p = 8 + (t.size : Int) + (s.size : Int) → bch c p = 88 := fun p e => by rw [he, bch_l (by (try simp only [ByteArray.size_append]); omega), bch_l (by (try simp only [ByteArray.size_append]); omega), bch_l (by (try simp only [ByteArray.size_append]); omega), bch_l (by (try simp only [ByteArray.size_append]); omega), bch_r (j := 3) (by (try simp only [ByteArray.size_append]); omega) (by omega)]; kernel_rfl
 have c9 : ∀ p : Int, p = 9 + (t.size : Int) + (s.size : Int) → bch c p = 69 := fun p e => by rw [he, bch_l (by (try simp only [ByteArray.size_append]); omega), bch_l (by (try simp only [ByteArray.size_append]); omega), bch_l (by (try simp only [ByteArray.size_append]); omega), bch_l (by (try simp only [ByteArray.size_append]); omega), bch_r (j := 4) (by (try simp only [ByteArray.size_append]); omega) (by omega)]; kernel_rfl
 have c10 : ∀ p : Int, p = 10 + (t.size : Int) + (s.size : Int) → bch c p = 40 := fun p e => by rw [he, bch_l (by (try simp only [ByteArray.size_append]); omega), bch_l (by (try simp only [ByteArray.size_append]); omega), bch_l (by (try simp only [ByteArray.size_append]); omega), bch_l (by (try simp only [ByteArray.size_append]); omega), bch_r (j := 5) (by (try simp only [ByteArray.size_append]); omega) (by omega)]; kernel_rfl
 have c11 : ∀ p : Int, p = 11 + (t.size : Int) + (s.size : Int) → bch c p = 40 := fun p e => by rw [he, bch_l (by (try simp only [ByteArray.size_append]); omega), bch_l (by (try simp only [ByteArray.size_append]); omega), bch_l (by (try simp only [ByteArray.size_append]); omega), bch_l (by (try simp only [ByteArray.size_append]); omega), bch_r (j := 6) (by (try simp only [ByteArray.size_append]); omega) (by omega)]; kernel_rfl
 have i5 : InB s c (12 + (t.size : Int) + (s.size : Int)) := ⟨by omega, fun p h0 h => by rw [he, bch_l (by (try simp only [ByteArray.size_append]); omega), bch_l (by (try simp only [ByteArray.size_append]); omega), bch_l (by (try simp only [ByteArray.size_append]); omega), bch_r (j := p) (by (try simp only [ByteArray.size_append]); omega) (by omega)], by rw [he, bch_l (by (try simp only [ByteArray.size_append]); omega), bch_l (by (try simp only [ByteArray.size_append]); omega), bch_r (j := 0) (by (try simp only [ByteArray.size_append]); omega) (by omega)]; kernel_rfl⟩
 have c12 : ∀ p : Int, p = 12 + (t.size : Int) + (s.size : Int) + (s.size : Int) → bch c p = 41 := fun p e => by rw [he, bch_l (by (try simp only [ByteArray.size_append]); omega), bch_l (by (try simp only [ByteArray.size_append]); omega), bch_r (j := 0) (by (try simp only [ByteArray.size_append]); omega) (by omega)]; kernel_rfl
 have c13 : ∀ p : Int, p = 13 + (t.size : Int) + (s.size : Int) + (s.size : Int) → bch c p = 85 := fun p e => by rw [he, bch_l (by (try simp only [ByteArray.size_append]); omega), bch_l (by (try simp only [ByteArray.size_append]); omega), bch_r (j := 1) (by (try simp only [ByteArray.size_append]); omega) (by omega)]; kernel_rfl
 have c14 : ∀ p : Int, p = 14 + (t.size : Int) + (s.size : Int) + (s.size : Int) → bch c p = 40 := fun p e => by rw [he, bch_l (by (try simp only [ByteArray.size_append]); omega), bch_l (by (try simp only [ByteArray.size_append]); omega), bch_r (j := 2) (by (try simp only [ByteArray.size_append]); omega) (by omega)]; kernel_rfl
 have i7 : InB t c (15 + (t.size : Int) + (s.size : Int) + (s.size : Int)) := ⟨by omega, fun p h0 h => by rw [he, bch_l (by (try simp only [ByteArray.size_append]); omega), bch_r (j := p) (by (try simp only [ByteArray.size_append]); omega) (by omega)], by rw [he, bch_r (j := 0) (by (try simp only [ByteArray.size_append]); omega) (by omega)]; kernel_rfl⟩
 have c15 : ∀ p : Int, p = 15 + (t.size : Int) + (s.size : Int) + (s.size : Int) + (t.size : Int) → bch c p = 41 := fun p e => by rw [he, bch_r (j := 0) (by (try simp only [ByteArray.size_append]); omega) (by omega)]; kernel_rfl
 have c16 : ∀ p : Int, p = 16 + (t.size : Int) + (s.size : Int) + (s.size : Int) + (t.size : Int) → bch c p = 41 := fun p e => by rw [he, bch_r (j := 1) (by (try simp only [ByteArray.size_append]); omega) (by omega)]; kernel_rfl
 have c17 : ∀ p : Int, p = 17 + (t.size : Int) + (s.size : Int) + (s.size : Int) + (t.size : Int) → bch c p = 41 := fun p e => by rw [he, bch_r (j := 2) (by (try simp only [ByteArray.size_append]); omega) (by omega)]; kernel_rfl
 have cz : ∀ p : Int, p = 18 + (t.size : Int) + (s.size : Int) + (s.size : Int) + (t.size : Int) → bch c p = 0 := fun p e => bch_end (by omega)
 have k1 : RdB c 0 0 T (2 + (t.size : Int)) := rb_in i1 (by omega) ht (c0 _ (by omega)) (by omega) (by omega)
 have k2 : RdB c 0 (2 + (t.size : Int) + 1 + 1) S (6 + (t.size : Int) + (s.size : Int)) := rb_in i3 (by omega) hs (c4 _ (by omega)) (by omega) (by omega)
 have k3 : RdB c 0 (6 + (t.size : Int) + (s.size : Int) + 1 + 1 + 1 + 1 + 1) S (13 + (t.size : Int) + (s.size : Int) + (s.size : Int)) := rb_in i5 (by omega) hs (c11 _ (by omega)) (by omega) (by omega)
 have k4 : RdB c 0 (13 + (t.size : Int) + (s.size : Int) + (s.size : Int) + 1) T (16 + (t.size : Int) + (s.size : Int) + (s.size : Int) + (t.size : Int)) := rb_in i7 (by omega) ht (c14 _ (by omega)) (by omega) (by omega)
 have un := rb_until (p := 6 + (t.size : Int) + (s.size : Int) + 1 + 1 + 1) (c9 _ (by omega)) (c10 _ (by omega)) (rb_all k3 (by rw [c13 _ (by omega)]; decide) (by rw [c13 _ (by omega)]; decide)) (c13 _ (by omega)) (rb_all k4 (by rw [c16 _ (by omega)]; decide) (by rw [c16 _ (by omega)]; decide)) (c16 _ (by omega))
 have x1 := rb_way (al := false) (p := 6 + (t.size : Int) + (s.size : Int) + 1) (c7 _ (by omega)) (c8 _ (by omega)) (.inl rfl) un
 have a1 := rb_for (rb_and k2 (c6 _ (by omega)) x1 (by rw [c17 _ (by omega)]; decide) (by omega)) (by rw [c17 _ (by omega)]; decide)
 have o2 := rb_open (p := 2 + (t.size : Int) + 1) (c3 _ (by omega)) a1 (c17 _ (by omega))
 exact rb_or (rb_term k1 (by rw [c2 _ (by omega)]; decide)) (c2 _ (by omega)) (rb_term o2 (by rw [cz _ (by omega)]; decide)) (by rw [cz _ (by omega)]; decide) (by omega)
theorem holds_at {g : ApiGraph} {c : ByteArray} {X : BTr} {q : Int} (h : (HoldsR g c).2 = 0) (hX : RdB c 2 0 X q) : samErr g = 0 ∧ Shp 30 X ∧ (HoldsR g c).1 = bSem (walkR g) 30 X := by
 unfold HoldsR at h ⊢
 by_cases hs : samErr g ≠ 0
 ·rw [if_pos hs] at h
  exact absurd h hs
 ·rw [if_neg hs] at h ⊢
  cases hf : fullB c with
  | none =>
   rw [hf] at h
   cases h
  | some t =>
   obtain ⟨_, hS, hq⟩ := fullB_some hf
   cases rb_full hX hq
   exact ⟨Decidable.not_not.1 hs, hS, rfl⟩
theorem sem_no {w : BranchWalker} {k : Nat} {x : BTr} : bSem w (k + 1) (bn 33 false 0 [x]) = notL (bSem w k x) := (bSem_one (.inl rfl)).trans (if_pos rfl)
theorem sem_all {w : BranchWalker} {k : Nat} {sg : Int} {x : BTr} (h : sg = 88 ∨ sg = 70 ∨ sg = 71) : bSem w (k + 1) (bn sg true 0 [x]) = notL (wayW w sg true (notL (bSem w k x))) := (bSem_one (.inr h)).trans ((if_neg (by show ¬ sg = 33; omega)).trans (if_pos rfl))
theorem sem_some {w : BranchWalker} {k : Nat} {sg : Int} {x : BTr} (h : sg = 88 ∨ sg = 70 ∨ sg = 71) : bSem w (k + 1) (bn sg false 0 [x]) = wayW w sg false (bSem w k x) := (bSem_one (.inr h)).trans ((if_neg (by show ¬ sg = 33; omega)).trans (if_neg Bool.false_ne_true))
theorem eachL_congr {n : Int} {f g : Int → Bool} (h : ∀ p, 0 ≤ p → p < n → f p = g p) : eachL n f = eachL n g := by
 unfold eachL
 refine List.map_congr_left fun p hp => ?_
 have hp := List.mem_range.1 hp
 exact h _ (Int.natCast_nonneg _) (by omega)
theorem law_all {w : BranchWalker} {sg sg2 : Int} {S : BTr} (h : sg = 88 ∨ sg = 70 ∨ sg = 71) (h2 : sg2 = 88 ∨ sg2 = 70 ∨ sg2 = 71) (hw : ∀ A, wayW w sg true A = wayW w sg2 false A) (hR : Shp 30 (bn 33 false 0 [bn sg2 false 0 [bn 33 false 0 [S]]])) : bSem w 30 (bn sg true 0 [S]) = bSem w 30 (bn 33 false 0 [bn sg2 false 0 [bn 33 false 0 [S]]]) := by
 have hS : Shp 27 S := shp_one (shp_one (shp_one hR))
 rw [sem_all (k := 29) h, sem_no (k := 29), sem_some (k := 28) h2, sem_no (k := 27), hw, bSem_up hS (show 27 ≤ 29 by decide)]
theorem law_un {w : BranchWalker} (hw : WOk w) {S T : BTr} (hR : Shp 30 (bn 124 false 0 [T, bn 38 false 0 [S, bn 88 false 0 [bn 85 false 0 [S, T]]]])) : bSem w 30 (bn 85 false 0 [S, T]) = bSem w 30 (bn 124 false 0 [T, bn 38 false 0 [S, bn 88 false 0 [bn 85 false 0 [S, T]]]]) := by
 obtain ⟨_, h1⟩ := shp_two hR
 obtain ⟨_, h2⟩ := shp_two h1
 obtain ⟨hS, hT⟩ := shp_two (shp_one h2)
 have u : ∀ k, bSem w (k + 1) (bn 85 false 0 [S, T]) = untR w (bSem w k S) (bSem w k T) := fun k => bSem_two (.inr (.inr rfl))
 have e1 : bSem w 30 (bn 124 false 0 [T, bn 38 false 0 [S, bn 88 false 0 [bn 85 false 0 [S, T]]]]) = eachL w.fGraph.fPlaces fun p => onB (bSem w 29 T) p || onB (bSem w 29 (bn 38 false 0 [S, bn 88 false 0 [bn 85 false 0 [S, T]]])) p := bSem_two (.inr (.inl rfl))
 have e2 : bSem w 29 (bn 38 false 0 [S, bn 88 false 0 [bn 85 false 0 [S, T]]]) = eachL w.fGraph.fPlaces fun p => onB (bSem w 28 S) p && onB (bSem w 28 (bn 88 false 0 [bn 85 false 0 [S, T]])) p := bSem_two (.inl rfl)
 have e3 : bSem w 28 (bn 88 false 0 [bn 85 false 0 [S, T]]) = eachL w.fGraph.fPlaces fun p => leadB w p (bSem w 27 (bn 85 false 0 [S, T])) := sem_some (k := 27) (.inl rfl)
 rw [e1, e2, e3, u 29, u 26, bSem_up hS (show 26 ≤ 29 by decide), bSem_up hT (show 26 ≤ 29 by decide), bSem_up hS (show 26 ≤ 28 by decide)]
 refine (untR_fix hw (bSem_len hT)).trans (eachL_congr fun p h0 h1 => ?_)
 rw [onB_each h0 h1, onB_each h0 h1]
theorem heldC : HoldsR ⟨1, 2, [⟨0, 0, 1⟩]⟩ (ByteArray.mk #[65, 70, 33, 97]) = ([true, true], 0) := by kernel_rfl
theorem brStep {g : ApiGraph} {c d : ByteArray} {Qf : Prop} (h : (HoldsR g c).2 = 0 → (HoldsR g d).2 = 0 → (HoldsR g c).1 = (HoldsR g d).1 ∧ (HoldsR g c).1.length ≤ 1000) : IfP (((HoldsR g c).2 != 0) || ((HoldsR g d).2 != 0)) True (∃ (Inv_2 : Int → Prop) (mu_2 : Int → Nat), Inv_2 0 ∧ ∀ (x19 : Int), Inv_2 x19 → (IfP (decide (x19 < ((HoldsR g c).1.length : Int))) (∃ e_4, idx (HoldsR g c).1 x19 = some e_4 ∧ ∃ e_5, idx (HoldsR g d).1 x19 = some e_5 ∧ IfP (e_4 != e_5) Qf ((Inv_2 (wr (x19 + 1)) ∧ mu_2 (wr (x19 + 1)) < mu_2 x19))) True)) := by
 refine ⟨fun _ => trivial, fun hb => ?_⟩
 rw [Bool.or_eq_false_iff, bne_eq_false_iff_eq, bne_eq_false_iff_eq] at hb
 obtain ⟨e, hl⟩ := h hb.1 hb.2
 rw [← e]
 refine ⟨fun j => ∃ m : Nat, j = m ∧ m ≤ (HoldsR g c).1.length, fun j => ((HoldsR g c).1.length - j).toNat, ⟨0, rfl, Nat.zero_le _⟩, ?_⟩
 rintro _ ⟨m, rfl, hm⟩
 refine ⟨fun hb => ?_, fun _ => trivial⟩
 have hlt : m < (HoldsR g c).1.length := by have := of_decide_eq_true hb; omega
 have hi : idx (HoldsR g c).1 (m : Int) = some ((HoldsR g c).1[m]) := by
  unfold idx
  rw [if_pos (Int.natCast_nonneg _), Int.toNat_natCast, List.getElem?_eq_getElem hlt]
 refine ⟨_, hi, _, hi, fun hne => ?_, fun _ => ?_⟩
 ·exact absurd rfl (bne_iff_ne.1 hne)
 ·rw [wr_in (by omega) (by omega)]
  refine ⟨⟨m + 1, by omega, by omega⟩, ?_⟩
  show ((HoldsR g c).1.length - ((m : Int) + 1)).toNat < ((HoldsR g c).1.length - (m : Int)).toNat
  omega
theorem brAlike {g : ApiGraph} {c d : ByteArray} {X Y : BTr} {p q : Int} (hX : RdB c 2 0 X p) (hY : RdB d 2 0 Y q) (h : samErr g = 0 → Shp 30 X → Shp 30 Y → bSem (walkR g) 30 X = bSem (walkR g) 30 Y) (h1 : (HoldsR g c).2 = 0) (h2 : (HoldsR g d).2 = 0) : (HoldsR g c).1 = (HoldsR g d).1 ∧ (HoldsR g c).1.length ≤ 1000 := by
 obtain ⟨hs, s1, e1⟩ := holds_at h1 hX
 obtain ⟨_, s2, e2⟩ := holds_at h2 hY
 refine ⟨e1.trans ((h hs s1 s2).trans e2.symm), ?_⟩
 rw [e1, bSem_len s1]
 have := (gr_ok hs).pos
 show g.fPlaces.toNat ≤ 1000
 omega
theorem way_x (w : BranchWalker) (A : List Bool) : wayW w 88 true A = wayW w 88 false A := rfl
theorem way_g (w : BranchWalker) (A : List Bool) : wayW w 71 true A = wayW w 70 false A := rfl
theorem way_f (w : BranchWalker) (A : List Bool) : wayW w 70 true A = wayW w 71 false A := rfl
theorem brTurn_ct (g : ApiGraph) (s : ByteArray) (t : ByteArray)  : Ct 3 [.sv (.agg [I g.fLetters, I g.fPlaces, LS ApiArrow.ty g.fArrows]), .sv (.one (.v (.string s))), .sv (.one (.v (.string t)))] [] (fun (_ : Unit) => True) (fun _ => .sv (.one (B (true)))) := by
 refine (brTurn_walk g s t (fun res_ => res_ = (true)) ?_).fun
 unfold brTurn_vc
 intro _
 refine ⟨fun b => b = false, ?_, ?_⟩
 ·have e : HoldsR (ApiGraph.mk 1 2 ([(ApiArrow.mk 0 0 1)] : (List ApiArrow))) (ByteArray.mk #[65, 70, 33, 97]) = ([true, true], 0) := heldC
  rw [e]
  exact ⟨fun h => (by cases h), fun _ => ⟨fun h => (by cases h), fun _ => ⟨true, rfl, rfl⟩⟩⟩
 rintro _ rfl
 refine ⟨fun h => (by cases h), fun _ r hr r2 hr2 => ⟨fun _ => rfl, fun h => ?_⟩⟩
 rw [Bool.or_eq_false_iff, bne_eq_false_iff_eq, bne_eq_false_iff_eq] at h
 obtain ⟨S, hfs⟩ := hr h.1
 obtain ⟨T, hft⟩ := hr2 h.2
 obtain ⟨zs, _, hs⟩ := fullB_some hfs
 obtain ⟨zt, _, ht⟩ := fullB_some hft
 have y1 : (ByteArray.mk #[65, 88, 40]).size = 3 := rfl
 have y2 : (ByteArray.mk #[65, 71, 40]).size = 3 := rfl
 have y3 : (ByteArray.mk #[65, 70, 40]).size = 3 := rfl
 have y4 : (ByteArray.mk #[69, 40, 40]).size = 3 := rfl
 have y5 : (ByteArray.mk #[41]).size = 1 := rfl
 have y6 : (ByteArray.mk #[41, 85, 40]).size = 3 := rfl
 have y7 : (ByteArray.mk #[41, 41]).size = 2 := rfl
 have y8 : (ByteArray.mk #[33, 69, 88, 33, 40]).size = 5 := rfl
 have y9 : (ByteArray.mk #[33, 69, 70, 33, 40]).size = 5 := rfl
 have y10 : (ByteArray.mk #[33, 69, 71, 33, 40]).size = 5 := rfl
 have y11 : (ByteArray.mk #[40]).size = 1 := rfl
 have y12 : (ByteArray.mk #[41, 124, 40, 40]).size = 4 := rfl
 have y13 : (ByteArray.mk #[41, 38, 69, 88, 69, 40, 40]).size = 7 := rfl
 have y14 : (ByteArray.mk #[41, 41, 41]).size = 3 := rfl
 refine ⟨(by (try simp only [ByteArray.size_append]); omega), (by (try simp only [ByteArray.size_append]); omega), (by (try simp only [ByteArray.size_append]); omega), (by (try simp only [ByteArray.size_append]); omega), (by (try simp only [ByteArray.size_append]); omega), (by (try simp only [ByteArray.size_append]); omega), (by (try simp only [ByteArray.size_append]); omega), (by (try simp only [ByteArray.size_append]); omega), (by (try simp only [ByteArray.size_append]); omega), (by (try simp only [ByteArray.size_append]); omega), (by (try simp only [ByteArray.size_append]); omega), (by (try simp only [ByteArray.size_append]); omega), (by (try simp only [ByteArray.size_append]); omega), (by (try simp only [ByteArray.size_append]); omega), (by (try simp only [ByteArray.size_append]); omega), (by (try simp only [ByteArray.size_append]); omega), (by (try simp only [ByteArray.size_append]); omega), (by (try simp only [ByteArray.size_append]); omega), (by (try simp only [ByteArray.size_append]); omega), (by (try simp only [ByteArray.size_append]); omega), (by (try simp only [ByteArray.size_append]); omega), (by (try simp only [ByteArray.size_append]); omega), (by (try simp only [ByteArray.size_append]); omega), (by (try simp only [ByteArray.size_append]); omega), ?_⟩
 refine ⟨fun i => ∃ k : Nat, i = k ∧ k ≤ 4, fun i => (4 - i).toNat, ⟨0, rfl, by decide⟩, ?_⟩
 rintro _ ⟨k, rfl, hk⟩
 refine ⟨fun hi => ⟨True, ?_, fun _ => ?_⟩, fun _ => rfl⟩
 ·have hk4 : (k : Int) < 4 := of_decide_eq_true hi
  have hk4 : k = 0 ∨ k = 1 ∨ k = 2 ∨ k = 3 := by omega
  rcases hk4 with rfl | rfl | rfl | rfl
  ·exact ⟨_, rfl, _, rfl, brStep (brAlike (brLX (t := t) (T := T) (K2 := 0) hs) (brRX (t := t) (T := T) (K2 := 0) hs) fun _ _ s2 => law_all (.inl rfl) (.inl rfl) (way_x _) s2)⟩
  ·exact ⟨_, rfl, _, rfl, brStep (brAlike (brLG (t := t) (T := T) (K2 := 0) hs) (brRF (t := t) (T := T) (K2 := 0) hs) fun _ _ s2 => law_all (.inr (.inr rfl)) (.inr (.inl rfl)) (way_g _) s2)⟩
  ·exact ⟨_, rfl, _, rfl, brStep (brAlike (brLF (t := t) (T := T) (K2 := 0) hs) (brRG (t := t) (T := T) (K2 := 0) hs) fun _ _ s2 => law_all (.inr (.inl rfl)) (.inr (.inr rfl)) (way_f _) s2)⟩
  ·exact ⟨_, rfl, _, rfl, brStep (brAlike (brLU hs ht) (brRU hs ht) fun h0 _ s2 => law_un (walkR_ok (gr_ok h0)) s2)⟩
 ·have hk4 : (k : Int) < 4 := of_decide_eq_true hi
  rw [wr_in (by omega) (by omega)]
  refine ⟨⟨k + 1, by omega, by omega⟩, ?_⟩
  show (4 - ((k : Int) + 1)).toNat < (4 - (k : Int)).toNat
  omega
end Go.Proofs.Ytiejmeedkhkfgaa

