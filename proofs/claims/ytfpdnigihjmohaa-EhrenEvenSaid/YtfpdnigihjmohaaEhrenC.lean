/- The walks of the play with two words: a reply, and who wins. -/
import Derived.Test.YtfpdnigihjmohaaEhrenB
namespace Go.Proofs.Ytfpdnigihjmohaa
open Go.RowKit
set_option linter.unusedSimpArgs false
set_option linter.unusedVariables false
attribute [local irreducible] wpList

def WinsP (k : Nat) : Prop := ∀ (v1 v2 v3 v4 : Value) (u v a b : List Int) (w : World), Ints w v1 u → Ints w v2 v → Ints w v3 a → Ints w v4 b → u.length ≤ 8 → v.length ≤ 8 → a.length = b.length → a.length + k ≤ 3 →
  Calls Try.prog 53 #[.agg #[v1, v2, v3, v4], .int .i64 k] w fun e w' => e = .returned (.bool (winsS k u v a b)) ∧ Below w.heap.size w w'
def hasReply (k : Nat) (u v a b : List Int) (p : Nat) : Bool := (List.range v.length).any fun q => fitsS u v a b p q && winsS k u v (a ++ [(p : Int)]) (b ++ [(q : Int)])
def RetReply (w : World) (r : Bool) (e : Ending) (w' : World) : Prop := ∃ z, e = .returned (.tuple #[.int .i64 z, .bool r]) ∧ Below w.heap.size w w'

theorem any_range_true {n q : Nat} {f : Nat → Bool} (hq : q < n) (h : f q = true) : (List.range n).any f = true := by
  rw [List.any_eq_true]
  exact ⟨q, List.mem_range.2 hq, h⟩
theorem any_range_false {n : Nat} {f : Nat → Bool} (h : ∀ q, q < n → f q = false) : (List.range n).any f = false := by
  rw [List.any_eq_false]
  intro q hq
  rw [h q (List.mem_range.1 hq)]
  simp

set_option maxHeartbeats 2000000 in
theorem reply_any (k : Nat) (hk : WinsP k) (v1 v2 v3 v4 : Value) (u v a b : List Int) (p : Nat) (w : World) (h1 : Ints w v1 u) (h2 : Ints w v2 v) (h3 : Ints w v3 a) (h4 : Ints w v4 b) (hu : u.length ≤ 8) (hv : v.length ≤ 8) (hab : a.length = b.length) (hak : a.length + 1 + k ≤ 3) (hp : p < u.length) :
    Calls Try.prog 114 #[.agg #[v1, v2, v3, v4], .int .i64 p, .int .i64 k] w (RetReply w (hasReply k u v a b p)) := by
  obtain ⟨ao1, n1, cap1, rfl, H1, L1, hc1, hm1⟩ := h1.shape
  obtain ⟨ao2, n2, cap2, rfl, H2, L2, hc2, hm2⟩ := h2.shape
  obtain ⟨ao3, n3, cap3, rfl, H3, L3, hc3, hm3⟩ := h3.shape
  obtain ⟨ao4, n4, cap4, rfl, H4, L4, hc4, hm4⟩ := h4.shape
  have F0 : Hid (∀ q, q < n2 → ∀ W, Below w.heap.size w W → Calls Try.prog 158 #[.agg #[.slice ao1 n1 cap1, .slice ao2 n2 cap2, .slice ao3 n3 cap3, .slice ao4 n4 cap4], .int .i64 p, .int .i64 q] W fun e w' => e = .returned (.bool (fitsS u v a b p q)) ∧ Below W.heap.size W w') := fun q hq W hW =>
    fits_any _ _ _ _ u v a b p q W (H1.up hW) (H2.up hW) (H3.up hW) (H4.up hW) hp (by rw [← L2.out]; exact hq) hab
  have X0 : Hid (∀ q : Nat, q < n2 → ∀ W, Below w.heap.size w W → Calls Try.prog 159 #[.agg #[.slice ao1 n1 cap1, .slice ao2 n2 cap2, .slice ao3 n3 cap3, .slice ao4 n4 cap4], .int .i64 p, .int .i64 q] W (RetTable W u v (a ++ [(p : Int)]) (b ++ [(q : Int)]))) := fun q hq W hW =>
    with_any _ _ _ _ u v a b p q W (H1.up hW) (H2.up hW) (H3.up hW) (H4.up hW) (by omega) (by omega) (by omega) (by rw [L2.out] at hq; omega)
  have G0 : Hid (∀ q : Nat, ∀ W x1 x2 x3 x4, Ints W x1 u → Ints W x2 v → Ints W x3 (a ++ [(p : Int)]) → Ints W x4 (b ++ [(q : Int)]) → Calls Try.prog 53 #[.agg #[x1, x2, x3, x4], .int .i64 k] W fun e w' => e = .returned (.bool (winsS k u v (a ++ [(p : Int)]) (b ++ [(q : Int)]))) ∧ Below W.heap.size W w') := fun q W x1 x2 x3 x4 e1 e2 e3 e4 =>
    hk x1 x2 x3 x4 u v _ _ W e1 e2 e3 e4 hu hv (by simp [hab]) (by simp; omega)
  have hR : Hid (hasReply k u v a b p = (List.range n2).any fun q => fitsS u v a b p q && winsS k u v (a ++ [(p : Int)]) (b ++ [(q : Int)])) := by rw [L2.out]; exact rfl
  have hn2 : n2 ≤ 8 := by rw [L2.out]; exact hv
  clear h1 h2 h3 h4 hk
  go_enter Try.func114, Try.ntmps114
  go_wp2
  go_loopw [12] (fun i wr => ∃ q : Nat, q ≤ n2 ∧ i = .int .i64 q ∧ (∀ j, j < q → (fitsS u v a b p j && winsS k u v (a ++ [(p : Int)]) (b ++ [(j : Int)])) = false) ∧ Below (w.heap.size + 1) (w.alloc (.cells #[.slice ao1 n1 cap1, .slice ao2 n2 cap2, .slice ao3 n3 cap3, .slice ao4 n4 cap4] 134)) wr) (fun i _ => n2 - (intOf i).toNat)
  case atStart => exact ⟨0, Nat.zero_le _, rfl, fun j hj => by omega, by simpa using Below.refl _ _⟩
  case round =>
    obtain ⟨q, hq, rfl, hg, hb⟩ := hrel
    have hg := Lib.hid hg
    obtain ⟨d0, d1⟩ := bcell hb
    have hs : w.heap.size + 1 ≤ wr.heap.size := by simpa using hb.size
    have hbw : Below w.heap.size w wr := ((Below.refl w.heap.size w).alloc (Nat.le_refl _) _).trans (hb.mono (Nat.le_succ _))
    by_cases hlt : q < n2
    · have F := Lib.hid (F0.out q hlt)
      have X := Lib.hid (X0.out q hlt)
      have G := Lib.hid (G0.out q)
      have hgq : Hid (∀ r : Bool, (fitsS u v a b p q && winsS k u v (a ++ [(p : Int)]) (b ++ [(q : Int)])) = r → r = false → ∀ j, j < q + 1 → (fitsS u v a b p j && winsS k u v (a ++ [(p : Int)]) (b ++ [(j : Int)])) = false) := Lib.hid (fun r h1 h2 j hj => by
        by_cases e : j = q
        · rw [e, h1, h2]
        · exact hg.out j (by omega))
      have hyes : Hid ((fitsS u v a b p q && winsS k u v (a ++ [(p : Int)]) (b ++ [(q : Int)])) = true → hasReply k u v a b p = true) := Lib.hid (fun h => by rw [hR.out]; exact any_range_true hlt h)
      clear F0 X0 G0
      generalize hf : fitsS u v a b p q = fq at *
      generalize hx : winsS k u v (a ++ [(p : Int)]) (b ++ [(q : Int)]) = xq at *
      clear hf hx
      cases fq with
      | false =>
        go_wp2_with ((go_at_call 158; (with_reducible refine (F.out _ ?_).mono ?_); (focus ((repeat' (first | exact Below.refl _ _ | assumption | (refine Below.alloc ?_ ?_ _) | (refine Below.drew ?_) | (refine Below.setCell ?_ ?_ _) | (refine Below.trans ?_ (Below.mono (by assumption) ?_)) | omega | (simp; done) | (simp; omega))))); rintro e w1 ⟨rfl, hb1⟩; have T1 := hb.trans (hb1.mono hs); (have hs1 : w.heap.size + 1 ≤ w1.heap.size := Nat.le_trans hs hb1.size); obtain ⟨d0, d1⟩ := bcell T1; (have hbw1 : Below w.heap.size w w1 := hbw.trans (hb1.mono (by omega))); clear hb1))
        go_roundw
        case rel => exact ⟨q + 1, by omega, by go_num, hgq.out _ rfl rfl, T1⟩
        case measure => simp [intOf]; omega
      | true =>
        cases xq with
        | false =>
          go_wp2_with (first | ((go_at_call 158; (with_reducible refine (F.out _ ?_).mono ?_); (focus ((repeat' (first | exact Below.refl _ _ | assumption | (refine Below.alloc ?_ ?_ _) | (refine Below.drew ?_) | (refine Below.setCell ?_ ?_ _) | (refine Below.trans ?_ (Below.mono (by assumption) ?_)) | omega | (simp; done) | (simp; omega))))); rintro e w1 ⟨rfl, hb1⟩; have T1 := hb.trans (hb1.mono hs); (have hs1 : w.heap.size + 1 ≤ w1.heap.size := Nat.le_trans hs hb1.size); obtain ⟨d0, d1⟩ := bcell T1; (have hbw1 : Below w.heap.size w w1 := hbw.trans (hb1.mono (by omega))); clear hb1)) | ((go_at_call 159; (with_reducible refine (X.out _ ?_).mono ?_); (focus ((repeat' (first | exact Below.refl _ _ | assumption | (refine Below.alloc ?_ ?_ _) | (refine Below.drew ?_) | (refine Below.setCell ?_ ?_ _) | (refine Below.trans ?_ (Below.mono (by assumption) ?_)) | omega | (simp; done) | (simp; omega))))); rintro e w2 ⟨x1, x2, x3, x4, rfl, i1, i2, i3, i4, hb2⟩; obtain ⟨bo1, m1, dap1, rfl, i1, _⟩ := i1.shape; obtain ⟨bo2, m2, dap2, rfl, i2, _⟩ := i2.shape; obtain ⟨bo3, m3, dap3, rfl, i3, _⟩ := i3.shape; obtain ⟨bo4, m4, dap4, rfl, i4, _⟩ := i4.shape; have T2 := T1.trans (hb2.mono hs1); (have hs2 : w.heap.size + 1 ≤ w2.heap.size := Nat.le_trans hs1 hb2.size); (have hbw2 : Below w.heap.size w w2 := hbw1.trans (hb2.mono (by omega))); clear hb2)) | ((go_at_call 53; (with_reducible refine (G.out _ _ _ _ _ i1 i2 i3 i4).mono ?_); rintro e w3 ⟨rfl, hb3⟩; have T3 := T2.trans (hb3.mono hs2); (have hs3 : w.heap.size + 1 ≤ w3.heap.size := Nat.le_trans hs2 hb3.size); (have hbw3 : Below w.heap.size w w3 := hbw2.trans (hb3.mono (by omega))); clear hb3)))
          go_roundw
          case rel => exact ⟨q + 1, by omega, by go_num, hgq.out _ rfl rfl, T3⟩
          case measure => simp [intOf]; omega
        | true =>
          have hyes := Lib.hid (hyes.out rfl)
          go_wp2_with (first | ((go_at_call 158; (with_reducible refine (F.out _ ?_).mono ?_); (focus ((repeat' (first | exact Below.refl _ _ | assumption | (refine Below.alloc ?_ ?_ _) | (refine Below.drew ?_) | (refine Below.setCell ?_ ?_ _) | (refine Below.trans ?_ (Below.mono (by assumption) ?_)) | omega | (simp; done) | (simp; omega))))); rintro e w1 ⟨rfl, hb1⟩; have T1 := hb.trans (hb1.mono hs); (have hs1 : w.heap.size + 1 ≤ w1.heap.size := Nat.le_trans hs hb1.size); obtain ⟨d0, d1⟩ := bcell T1; (have hbw1 : Below w.heap.size w w1 := hbw.trans (hb1.mono (by omega))); clear hb1)) | ((go_at_call 159; (with_reducible refine (X.out _ ?_).mono ?_); (focus ((repeat' (first | exact Below.refl _ _ | assumption | (refine Below.alloc ?_ ?_ _) | (refine Below.drew ?_) | (refine Below.setCell ?_ ?_ _) | (refine Below.trans ?_ (Below.mono (by assumption) ?_)) | omega | (simp; done) | (simp; omega))))); rintro e w2 ⟨x1, x2, x3, x4, rfl, i1, i2, i3, i4, hb2⟩; obtain ⟨bo1, m1, dap1, rfl, i1, _⟩ := i1.shape; obtain ⟨bo2, m2, dap2, rfl, i2, _⟩ := i2.shape; obtain ⟨bo3, m3, dap3, rfl, i3, _⟩ := i3.shape; obtain ⟨bo4, m4, dap4, rfl, i4, _⟩ := i4.shape; have T2 := T1.trans (hb2.mono hs1); (have hs2 : w.heap.size + 1 ≤ w2.heap.size := Nat.le_trans hs1 hb2.size); (have hbw2 : Below w.heap.size w w2 := hbw1.trans (hb2.mono (by omega))); clear hb2)) | ((go_at_call 53; (with_reducible refine (G.out _ _ _ _ _ i1 i2 i3 i4).mono ?_); rintro e w3 ⟨rfl, hb3⟩; have T3 := T2.trans (hb3.mono hs2); (have hs3 : w.heap.size + 1 ≤ w3.heap.size := Nat.le_trans hs2 hb3.size); (have hbw3 : Below w.heap.size w w3 := hbw2.trans (hb3.mono (by omega))); clear hb3)))
          exact bodyPost_ret (v := .tuple #[.int .i64 q, .bool true]) (by simp [results, Try.results114, go_sem]) rfl ⟨_, by rw [hyes.out], hbw3⟩
    · have hno : Hid (hasReply k u v a b p = false) := Lib.hid (by rw [hR.out]; exact any_range_false fun j hj => hg.out j (by omega))
      clear F0 X0 G0
      go_wp2
      exact bodyPost_ret (v := .tuple #[.int .i64 0, .bool false]) (by simp [results, Try.results114, go_sem]) rfl ⟨_, by rw [hno.out], hbw⟩
end Go.Proofs.Ytfpdnigihjmohaa
