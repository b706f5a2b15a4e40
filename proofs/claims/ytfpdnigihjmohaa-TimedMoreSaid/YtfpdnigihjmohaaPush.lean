/- Appending to rows of the call's own, in one step with the class of worlds. No condition. -/
import Derived.Test.YtfpdnigihjmohaaSlices
namespace Go.Proofs.Ytfpdnigihjmohaa
open Go.RowKit
set_option linter.unusedSimpArgs false
set_option linter.unusedVariables false
set_option maxRecDepth 100000

theorem cell_grown' {W X : World} {row : Option Nat} {g : Nat} {v : Value} (h : W.cell? ⟨g, 0, none⟩ = some v) (gr : W.grownBy X row) (hn : ∀ k, row = some k → k ≠ g) : X.cell? ⟨g, 0, none⟩ = some v :=
  (World.cell?_of_block (w := W) (w' := X) (a := ⟨g, 0, none⟩) (gr.block g (World.block_lt_of_cell? W _ h) (fun e => hn g e.symm rfl))).trans h
theorem src_one' {W : World} {g : Nat} {u : Value} (h : W.cell? ⟨g, 0, none⟩ = some u) (h1 : u.oneCell' = true) : SrcRow W 1 (.slice (some ⟨g, 0, none⟩) 1 1) 1 [u] := by
  refine ⟨some ⟨g, 0, none⟩, 1, rfl, (fun e => by cases e), by simp, (fun j x hj => ?_), (fun x hx => ?_)⟩
  · cases j with
    | zero =>
      simp at hj
      subst hj
      exact ⟨g, 0, rfl, h⟩
    | succ j => simp at hj
  · simp at hx
    subst hx
    exact h1
section
variable {P : Program} {w : World} {ops : Array Oper} {rest : List Oper} {o : Oper} {a : Act} {Q : Exit → Act → World → Prop}
/-- one value more, of one cell -/
theorem wpList_push1 (hgd : o.guard = none) (s x : Operand) (t : TypeId) (ho : o.op = .call { callee := .builtin .append, args := #[s, x], argTypes := #[t, t] })
    (e : TypeId) (z : Value) (bytes : Nat) (ht : P.underlying t = some (.slice e)) (hi : (P.info? e).map (fun i => (i.zero, i.size, i.bytes)) = some (some z, 1, bytes)) (hzs : z.cells.size = 1)
    {B : Nat} {w0 : World} {v : Value} {n g : Nat} {xs : List Value} {u : Value} (hown : w.ownsRow B e 1 v n xs) (hs : a.eval s = v) (hx : a.eval x = .slice (some ⟨g, 0, none⟩) 1 1) (hb : Below B w0 w)
    (hc : w.cell? ⟨g, 0, none⟩ = some u) (h1 : u.oneCell' = true) (hn : (n + 1) * bytes ≤ 140737488355328 ∧ n + 1 ≤ maxLen) (hB : B ≤ w.heap.size)
    (h : ∀ v' w', w'.ownsRow B e 1 v' (n + 1) (xs ++ [u]) → Below B w0 w' → w.grownBy w' v.ownBlock → wpList P ops Q rest (a.put o.dst v') w') : wpList P ops Q (o :: rest) a w :=
  wpList_append_row hgd s x t ho B e z 1 bytes ht hi hzs (by decide) v n xs hs hown _ 1 [u] hx (src_one' hc h1) hn.2 hn.1 hB
    fun v' w' h1 h2 _ => h v' w' h1 (hb.grown h2 hB fun k hk => (hown.lt k hk).1) h2
/-- a row of numbers more -/
theorem wpList_pushAll (hgd : o.guard = none) (s x : Operand) (t : TypeId) (ho : o.op = .call { callee := .builtin .append, args := #[s, x], argTypes := #[t, t] })
    (e : TypeId) (z : Value) (ht : P.underlying t = some (.slice e)) (hi : (P.info? e).map (fun i => (i.zero, i.size, i.bytes)) = some (some z, 1, 8)) (hzs : z.cells.size = 1)
    {B : Nat} {w0 : World} {v vx : Value} {n : Nat} {L M : List Int} (hown : w.ownsRow B e 1 v n (ints L)) (hs : a.eval s = v) (hx : a.eval x = vx) (hM : Ints w vx M) (hb : Below B w0 w) (hn : n + M.length ≤ 1000000000000) (hB : B ≤ w.heap.size)
    (h : ∀ v' w', w'.ownsRow B e 1 v' (n + M.length) (ints (L ++ M)) → Below B w0 w' → w.grownBy w' v.ownBlock → wpList P ops Q rest (a.put o.dst v') w') : wpList P ops Q (o :: rest) a w :=
  wpList_append_row hgd s x t ho B e z 1 8 ht hi hzs (by decide) v n (ints L) hs hown _ M.length (ints M) hx hM.src (by simp [maxLen]; omega) (by omega) hB
    fun v' w' h1 h2 _ => h v' w' (by rw [ints, List.map_append]; exact h1) (hb.grown h2 hB fun k hk => (hown.lt k hk).1) h2
end
theorem ownsRow_mono {w : World} {base base' : Nat} {e : TypeId} {s : Nat} {v : Value} {n : Nat} {xs : List Value} (h : w.ownsRow base e s v n xs) (hb : base' ≤ base) : w.ownsRow base' e s v n xs := by
  refine ⟨h.1, ?_⟩
  rcases h.2 with h2 | ⟨g, cap, cur, hv, hg, r⟩
  · exact .inl h2
  · exact .inr ⟨g, cap, cur, hv, Nat.le_trans hb hg, r⟩
theorem ints_snoc {L : List Int} {z : Int} : ints L ++ [.int .i64 z] = ints (L ++ [z]) := by simp [ints]
end Go.Proofs.Ytfpdnigihjmohaa
