/- Lemmas towards the statement: mirrors of functions, and plain laws. No condition. -/
import Derived.Laws.MakeOwn
import Derived.Test.YtobenjahlicnoaaRows
import Derived.ProofKit
import Derived.OpenShut
import Derived.ShutString
import Derived.ChangeOld
import Derived.Lib.SmallJoins
import Derived.JoinedCond
import Derived.Lib.AppendZeros
import Derived.Laws.BytesString
import Derived.Shelf.Abstract
import Derived.Test.YtobenjahlicnoaaPackGramParts1
namespace Go.Proofs.Ytobenjahlicnoaa
open Go.RowKit Go.MapKept
set_option linter.unusedSimpArgs false
set_option linter.unusedVariables false
set_option maxRecDepth 100000
abbrev rowI {α : Type} (ty : Nat) (T : Ty α) (l : List α) : Item := .row ty T.s (rowR T l) l.length
theorem TI.ok.parts {t : Nat} {i : TI} (h : TI.ok t i) : ∃ x z, Try.prog.info? t = some x ∧ x.zero = some z ∧ x.size = i.size ∧ x.bytes = i.bytes ∧ z.cells.toList = i.zero := by
 have h1 := h.info
 cases hx : Try.prog.info? t with
 | none => rw [hx] at h1; simp at h1
 | some x =>
  rw [hx] at h1
  simp at h1
  obtain ⟨e1, ⟨z, hz, hz2⟩, e3⟩ := h1
  exact ⟨x, z, rfl, hz, e1, e3, hz2⟩
theorem Blk_slice {v : Value} {b : Nat} (h : ∃ ao n cap, v = .slice ao n cap) : Blk v b ↔ v.ownBlock = some b := by
 obtain ⟨ao, n, cap, rfl⟩ := h
 cases ao <;> exact Iff.rfl
theorem ownsRow_slice {w : World} {e : TypeId} {s : Nat} {v : Value} {n : Nat} {xs : List Value} (h : w.ownsAt e s v n xs) : ∃ ao m cap, v = .slice ao m cap := by
 rcases h.2 with ⟨rfl, _⟩ | ⟨g, o, cap, cur, rfl, _⟩ <;> exact ⟨_, _, _, rfl⟩
theorem drop_seg {α : Type} (A u : List α) {o K : Nat} (h : o + K ≤ A.length) : (A.take (o + K) ++ u ++ A.drop (o + K + u.length)).drop o = (A.drop o).take K ++ u ++ (A.drop o).drop (K + u.length) := by
 rw [List.append_assoc, List.drop_append_of_le_length (by simp; omega), List.drop_take, List.drop_drop, show o + K - o = K by omega, List.append_assoc, Nat.add_assoc]
theorem seg_front {α : Type} (B u C : List α) {K m : Nat} (hB : B.length = K) (hu : u.length = m) : (B ++ u ++ C).take (K + m) = B ++ u := by
 rw [List.take_append_of_le_length (by simp; omega), List.take_of_length_le (by simp; omega)]
theorem run_append_at2 {w : World} (t ty e : TypeId) (i : TypeInfo) (z : Value) (size bytes : Nat) (ht : Try.prog.underlying t = some (.slice e)) (hi : Try.prog.info? e = some i) (hz : i.zero = some z)
  (hsize : i.size = size) (hby : i.bytes = bytes) (hzs : z.cells.size = size) (hsz : 0 < size)
  (v : Value) (n : Nat) (xs : List Value) (hown : w.ownsAt e size v n xs)
  (a : Addr) (m c : Nat) (news : List Value) (hl : news.length = m * size) (hnews : ∀ j u, news[j]? = some u → w.cell? (a.add j) = some u) (h1 : ∀ u ∈ news, u.oneCell' = true)
  (h63 : n + m ≤ maxLen) (hbytes : (n + m) * bytes ≤ 140737488355328) :
  ∃ v' w', (Builtin.append_ #[t, t] ty #[v, .slice (some a) m c]).run Try.prog w = .ok v' w' ∧ w'.ownsAt e size v' (n + m) (xs ++ news) ∧ w.grownBy w' v.ownBlock ∧ (v'.ownBlock = v.ownBlock ∨ v'.ownBlock = some w.heap.size) := by
 obtain ⟨hx, h2⟩ := hown
 rcases h2 with ⟨rfl, rfl⟩ | ⟨g, o, cap, cur, rfl, hg, hnc, hcm, hcs, htake⟩
 ·have hx0 : xs = [] := List.eq_nil_of_length_eq_zero (by simpa using hx)
  subst hx0
  obtain ⟨v', w', r1, r2, r3, _, r5⟩ := run_append_own_at w 0 t ty e i z size bytes ht hi hz hsize hby hzs hsz (.slice none 0 0) 0 [] (World.ownsRow_nil w 0 e size) a m c news hl hnews h1 h63 hbytes (Nat.zero_le _)
  exact ⟨v', w', r1, r2.at, r3, r5⟩
 ·subst hsize hby
  have hlen : (xs ++ news).length = (n + m) * i.size := by rw [List.length_append, hx, hl, Nat.add_mul]
  have hnx : n * i.size ≤ cap * i.size := Nat.mul_le_mul_right _ hnc
  by_cases hroom : n + m ≤ cap
  ·have hfit : o + n * i.size + news.length ≤ cur.size := by
    have : (n + m) * i.size ≤ cap * i.size := Nat.mul_le_mul_right _ hroom
    rw [Nat.add_mul] at this
    omega
   have hf := run_firstCells_some (P := Try.prog) w i.size m a m c news hl hnews
   have hst := run_storeCells_at Try.prog g (o + n * i.size) e news 0 cur w hg (by simpa using hfit) h1
   simp only [Nat.add_zero] at hst
   have hr : (Builtin.append_ #[t, t] ty #[.slice (some ⟨g, o, none⟩) n cap, .slice (some a) m c]).run Try.prog w = .ok (.slice (some ⟨g, o, none⟩) (n + m) cap) (w.setRow g (cur.toList.take (o + n * i.size) ++ news ++ cur.toList.drop (o + n * i.size + news.length)).toArray) := by
    simp [Builtin.append_, run_underlying ht, sizeOf, typeInfo, hi, Builtin.lenOf, hroom, hf, Addr.add_lit, hst]
   refine ⟨_, _, hr, ⟨hlen, .inr ⟨g, o, cap, _, rfl, setRow_heap w g cur _ e _ hg, hroom, hcm, ?_, ?_⟩⟩, ⟨rfl, rfl, rfl, by simp, fun k _ hk => setRow_other w g k _ (fun e => hk (by simp [Value.ownBlock, e]))⟩, .inl rfl⟩
   ·simp only [List.size_toArray, List.length_append, List.length_take, List.length_drop, Array.length_toList]
    omega
   ·show (List.drop o (_ ++ news ++ _)).take _ = _
    rw [drop_seg _ _ (by rw [Array.length_toList]; omega), htake, Nat.add_mul, seg_front _ _ _ hx hl]
  ·have holds : ∀ j u, xs[j]? = some u → w.cell? ((⟨g, o, none⟩ : Addr).add j) = some u := fun j u hj => by
    rw [Addr.add_lit]
    unfold World.cell?
    rw [hg]
    rw [← htake, List.getElem?_take] at hj
    split at hj
    ·rw [List.getElem?_drop] at hj
     simpa using hj
    ·cases hj
   have hr := run_append_grow (P := Try.prog) w t ty e i z ht hi hz ⟨g, o, none⟩ n cap xs hx holds a m c news hl hnews (by omega) (by simp only [maxLen] at h63; omega) (growslice_fits (by omega) hbytes)
   have hge := grownCap_ge w (n + m) cap e
   have hle := grownCap_le_maxLen w (n + m) cap e h63
   refine ⟨_, _, hr, ⟨hlen, .inr ⟨w.heap.size, 0, _, _, rfl, heap_alloc_new w.drew _, hge, hle, ?_, ?_⟩⟩, ⟨rfl, rfl, rfl, by simp, fun k hk _ => (World.grownBy_alloc w.drew _ none).block k hk (by simp)⟩, .inr rfl⟩
   ·simp only [Array.size_append, List.size_toArray, size_zeroCells, hzs, hx, hl, ← Nat.add_mul, Nat.zero_add]
    exact Nat.mul_le_mul_right _ (by omega)
   ·rw [List.drop_zero]
    simp only [Array.toList_append]
    rw [Nat.add_mul, seg_front _ _ _ hx hl]
theorem run_append_none_at {w : World} (t ty e : TypeId) (i : TypeInfo) (size : Nat) (ht : Try.prog.underlying t = some (.slice e)) (hi : Try.prog.info? e = some i) (v : Value) (n : Nat) (xs : List Value) (hown : w.ownsAt e size v n xs) : (Builtin.append_ #[t, t] ty #[v, .slice none 0 0]).run Try.prog w = .ok v w := by
 rcases hown.2 with ⟨rfl, rfl⟩ | ⟨g, o, cap, cur, rfl, _, hnc, _⟩
 ·simp [Builtin.append_, run_underlying ht, sizeOf, typeInfo, hi, Builtin.lenOf, Builtin.firstCells, loadCells, loadCellsFrom]
 ·simp [Builtin.append_, run_underlying ht, sizeOf, typeInfo, hi, Builtin.lenOf, Builtin.firstCells, loadCells, loadCellsFrom, hnc, storeCells]
theorem run_append_src {w : World} {t ty e : Nat} {ti te : TI} (hu : Try.prog.underlying t = some (.slice e)) (hte : TI.ok e te) (hs : 0 < te.size) {v : Value} {n : Nat} {xs : List Value} (hown : w.ownsAt e te.size v n xs)
  {vx : Value} {m : Nat} {news : List Value} (hsrc : SrcRow w te.size vx m news) (h63 : n + m ≤ maxLen) (hbytes : (n + m) * te.bytes ≤ 140737488355328) :
  ∃ v' w', (Builtin.append_ #[t, t] ty #[v, vx]).run Try.prog w = .ok v' w' ∧ w'.ownsAt e te.size v' (n + m) (xs ++ news) ∧ w.grownBy w' v.ownBlock ∧ (v'.ownBlock = v.ownBlock ∨ v'.ownBlock = some w.heap.size) := by
 obtain ⟨x, z, h1, h2, h3, h4, h5⟩ := hte.parts
 obtain ⟨ao, c, rfl, hnil, hl, hcells, hone⟩ := hsrc
 have hzs : z.cells.size = te.size := by rw [← Array.length_toList, h5, hte.zs]
 cases ao with
 | none =>
  obtain ⟨rfl, rfl⟩ := hnil rfl
  have hn : news = [] := List.eq_nil_of_length_eq_zero (by simpa using hl)
  subst hn
  exact ⟨v, w, run_append_none_at t ty e x te.size hu h1 v n xs hown, by simpa using hown, ⟨rfl, rfl, rfl, Nat.le_refl _, fun _ _ _ => rfl⟩, .inl rfl⟩
 | some a =>
  obtain ⟨v', w', r1, r2, r3, r5⟩ := run_append_at2 (w := w) t ty e x z te.size te.bytes hu h1 h2 h3 h4 hzs hs v n xs hown a m c news hl (fun j u hj => by
   obtain ⟨b, o, e1, e2⟩ := hcells j u hj
   cases e1
   rw [svs_add]
   exact e2) hone h63 hbytes
  exact ⟨v', w', r1, r2, r3, r5⟩
section
variable {c : Cfg} {S S1 : St} {a : Act} {w : World} {g : Gh} {hs : Nat → Value} {tab : Tab} {n : Nat} {o : Oper} {ops : Array Oper} {rest L : List Oper} {N : Po}
def SrcOk {α : Type} (c : Cfg) (S : St) (y : Operand) (T : Ty α) (es : List α) : Prop := ∀ a w g hs, Ok' c S a w g hs → ∃ cs, SrcRow w T.s (a.eval y) es.length cs ∧ rowRead T es g cs
theorem srcLS {α : Type} {T : Ty α} {es : List α} {y : Operand} {m : Nat} (hT : T.solid) (hs : 0 < T.s) (hy : evX S.F y = some (.sv (.one (.sl (slR T es) m)))) : SrcOk c S y T es := fun a w g hs' h =>
 src_LS hT hs h.base.pers (evX_ok h hy).1.1
theorem srcBsl {α : Type} {T : Ty α} (es : List α) {y : Operand} {j m ty : Nat} {fz : Bool} {cells : List At} (hT : T.solid) (hz : ∀ a, (svCells (T.sv a)).length = T.s) (hc : ∀ a, (T.sv a).refs = []) (hy : evX S.F y = some (.sv (.one (.bsl j m)))) (hm : S.M[j]? = some (.box cells ty fz)) (he : cells = cellsOf T es) (hl : m = es.length) : SrcOk c S y T es := fun a w g hs' h => by
 obtain ⟨⟨b, hb, hv⟩, _⟩ := evX_ok h hy
 obtain ⟨b', cs, h1, h2, h3, _⟩ := h.items j _ hm
 rw [hb] at h1
 simp at h1
 subst h1
 subst he hl
 have hr := rowRead.of_oks hT hz hc h2
 refine ⟨cs, ⟨some ⟨b, 0, none⟩, es.length, hv, (fun e => by cases e), hr.length, fun j u hj => ⟨b, 0, rfl, ?_⟩, fun u hu => (oks_cells h2 u hu).one⟩, hr⟩
 rw [Nat.zero_add, cell_box h3]
 exact hj
theorem mt_append {α : Type} {T : Ty α} {l es : List α} {i p : Nat} {x y : Operand} {t e : Nat} {ti te : TI} (ht : tab.ok) (ho : o.op = .call ⟨.builtin .append, #[x, y], #[t, t]⟩) (h1 : tab t = some ti) (h2 : ti.sl = some e) (h3 : tab e = some te) (h4 : te.size = T.s) (h5 : 0 < T.s)
  (hx : evX S.F x = some (.sv (.one (.own i)))) (hm : S.M[i]? = some (rowI e T l)) (hsrc : SrcOk c S y T es) (hb : (l.length + es.length) * te.bytes ≤ 140737488355328) (hb2 : l.length + es.length ≤ 140737488355328) : MT c S o (.sv (.one (.own p))) [i] (some (p, rowI e T (l ++ es))) := fun a w g hs h N Z hN => by
 have hu := slT_some ((ht t ti h1).sl.trans h2)
 have hv : a.eval x = hs i := (evX_ok h hx).1
 obtain ⟨cs, r1, r2⟩ := h.items i _ hm
 obtain ⟨cs', r3, r4⟩ := hsrc a w g hs h
 rw [← h4] at r1 r3 h5
 obtain ⟨v', w', k1, k2, k3, k4⟩ := run_append_src (ty := o.type) (ti := ti) hu (ht e te h3) h5 r1 r3 (by simp only [maxLen]; omega) hb
 unfold Oper.wp
 have hrun : (execOp a.eval o).run Try.prog w = .ok (.value v') w' := by
  have : execOp a.eval o = (do pure (.value (← Builtin.append_ #[t, t] o.type #[a.eval x, a.eval y])) : Sem Next) := by
   unfold execOp
   rw [ho]
   simp [resolve, invoke, builtin]
  rw [this, hv]
  exact run_valW k1
 rw [hrun]
 have hsl := ownsRow_slice r1
 have hsl' := ownsRow_slice k2
 have hbi : ∀ b, (hs i).ownBlock = some b → g b = none := fun b hb => ((h.mine i _ hm (by simp) b (by rw [Blk_slice hsl]; exact hb)).2 rfl).2
 refine hN v' w' g v' ⟨k3.os, k3.tape, k3.output, k3.size, fun b hb hk => k3.block b hb (fun e => hk i (by simp) (by rw [Blk_slice hsl]; exact e.symm)), Gh.le.refl g, fun b o e => .inl e, fun b o e => ?_⟩ ⟨?_, ?_⟩ ⟨⟨cs ++ cs', ?_, r2.append r4⟩, fun b hb => ?_⟩
 ·refine (k3.block b (h.base.pers.lt e) (fun e2 => ?_)).trans (h.base.pers b o e)
  rw [hbi b e2.symm] at e
  cases e
 ·show v' = (if p = p then v' else hs p)
  rw [if_pos rfl]
 ·obtain ⟨ao, m, cap, rfl⟩ := hsl'
  trivial
 ·rw [List.length_append, ← h4]
  exact k2
 ·rw [Blk_slice hsl'] at hb
  rcases k4 with e | e
  ·rw [hb] at e
   obtain ⟨m1, m2⟩ := h.mine i _ hm (by simp) b (by rw [Blk_slice hsl]; exact e.symm)
   exact ⟨Nat.lt_of_lt_of_le m1 k3.size, fun _ => (m2 rfl).2, .inr ⟨i, by simp, by rw [Blk_slice hsl]; exact e.symm⟩⟩
  ·rw [hb] at e
   cases e
   have := k2.lt w.heap.size hb
   refine ⟨this.2, fun _ => ?_, .inl (Nat.le_refl _)⟩
   cases hgb : g w.heap.size with
   | none => rfl
   | some o => have := h.base.pers.lt hgb; omega
theorem Eff.refl (h : Base c w g) : Eff hs [] w g w g := ⟨rfl, rfl, rfl, Nat.le_refl _, fun _ _ _ => rfl, Gh.le.refl g, fun _ _ e => .inl e, h.pers⟩
theorem WL.rowNil {α : Type} (t p e : Nat) (T : Ty α) (hl : look t S.F = some (.sv (.one (.v (.slice none 0 0))))) (hr : S.refsAll (fun i => !(Nat.beq i p)) = true)
  (h : WL c ops L ⟨(t, .sv (.one (.own p))) :: S.F, newM S.M [] (some (p, rowI e T []))⟩ N) : WL c ops L S N := fun a w ⟨g, hs, hk⟩ => by
 have hv := (hk.slots t _ (look_mem hl)).1
 have he := hk.eff (K := []) (p := some (p, rowI e T [])) (h' := .slice none 0 0) (Eff.refl hk.base) ⟨⟨[], World.ownsAt_nil _ _ _, rowRead.nil⟩, fun b hb => by cases hb⟩ hr rfl
 refine h a w ⟨g, _, he.size, he.defers, he.base, fun t' y hy => ?_, he.items, he.sep, he.mine⟩
 rcases List.mem_cons.1 hy with hy | hy
 ·cases hy
  refine ⟨?_, by rw [hv]; trivial⟩
  show _ = (if p = p then _ else hs p)
  rw [if_pos rfl]
  exact hv
 ·exact he.slots t' y hy
theorem val_indexO {α : Type} {T : Ty α} {l : List α} {i : Nat} {k : Int} {y : α} {t el : Nat} {ti te : TI} {x ix : Operand} {ik : IntKind} (ht : tab.ok) (ho : o.op = .indexAddr t x ix) (h1 : tab t = some ti) (h2 : ti.sl = some el) (h3 : tab el = some te) (h4 : te.size = T.s) (h5 : 0 < T.s)
  (hx : evX S.F x = some (.sv (.one (.own i)))) (hm : S.M[i]? = some (rowI el T l)) (hi : evK S.F ix = some (.int ik k)) (hy : idx l k = some y) : Val c S o (.sv (.one (.oe i k.toNat T.s))) := fun a w g hs h => by
 obtain ⟨g5, g6, g7⟩ := idx_some hy
 have hu := slT_some ((ht t ti h1).sl.trans h2)
 have hv : a.eval x = hs i := (evX_ok h hx).1
 obtain ⟨cs, ⟨hl0, r1⟩, r2⟩ := h.items i _ hm
 rcases r1 with ⟨e1, e2⟩ | ⟨gb, of, cap, cur, e1, _⟩
 ·omega
 ·refine ⟨.pointer (some ⟨gb, of + k.toNat * T.s, none⟩), ?_, ⟨gb, of, l.length, cap, e1, rfl⟩, trivial⟩
  have : (execOp a.eval o) = (do pure (.value (← Instr.indexAt t (a.eval x) (a.eval ix))) : Sem Next) := by unfold execOp; rw [ho]
  rw [this]
  refine run_val ?_
  have hlt : 0 ≤ k ∧ k < (l.length : Int) := ⟨g5, g6⟩
  simp only [Instr.indexAt, evK_ok h hi, asIntOf, hv, e1, Sem.run_bind, Sem.run_pure, Result.andThen_ok, run_underlying hu, if_pos hlt, (ht el te h3).run_size, h4, svs_add]
theorem row_elem {α : Type} {T : Ty α} {l : List α} {cs : List Value} (h : rowRead T l g cs) {k : Nat} {y : α} (hy : l[k]? = some y) : ∃ u : Value, (T.sv y).ok g hs0 u ∧ u.cells.size = T.s ∧ ∀ j c, u.cells[j]? = some c → cs[k * T.s + j]? = some c := by
 obtain ⟨us, rfl, h2, h3⟩ := h
 have hlt := (List.getElem?_eq_some_iff.1 hy).1
 have hu : us[k]? = some (us[k]'(by omega)) := by simp
 obtain ⟨x1, x2⟩ := h3 k _ y hu hy
 exact ⟨_, x1, x2, fun j c hj => flat_at (rowRead.sizes h2 h3) hu hj⟩
theorem val_loadO {α : Type} {T : Ty α} {l : List α} {i k t el : Nat} {y : α} {ti : TI} {x : Operand} (ht : tab.ok) (ho : o.op = .load t x) (h1 : tab t = some ti) (h2 : ti.size = T.s) (h3 : svFits ti (T.sv y) = true)
  (hx : evX S.F x = some (.sv (.one (.oe i k T.s)))) (hm : S.M[i]? = some (rowI el T l)) (hy : l[k]? = some y) (hc : (T.sv y).refs = []) : Val c S o (.sv (T.sv y)) := fun a w g hs h => by
 obtain ⟨⟨b, of, nn, cap, e1, e2⟩, _⟩ := evX_ok h hx
 obtain ⟨cs, ⟨hl0, r1⟩, r2⟩ := h.items i _ hm
 have htk := ht t ti h1
 obtain ⟨u, u1, u2, u3⟩ := row_elem r2 hy
 have : (execOp a.eval o) = (do pure (.value (← Instr.loadAt t (a.eval x))) : Sem Next) := by unfold execOp; rw [ho]
 rw [this]
 have u1' : (T.sv y).ok g hs u := SV.ok_hs (fun i hi => by rw [hc] at hi; cases hi) u1
 refine ⟨u, run_val ?_, u1'⟩
 have hcell : ∀ j v, u.cells.toList[j]? = some v → w.cell? ((⟨b, of + k * T.s, none⟩ : Addr).add j) = some v := fun j v hj => by
  rw [svs_add]
  have hj' := u3 j v (by simpa using hj)
  rcases r1 with ⟨e3, _⟩ | ⟨gb, of', cap', cur, e3, e4, _, _, _, e5⟩
  ·rw [e1] at e3; cases e3
  ·rw [e1] at e3
   simp at e3
   obtain ⟨⟨rfl, rfl⟩, rfl, rfl⟩ := e3
   unfold World.cell?
   rw [e4]
   rw [← e5, List.getElem?_take] at hj'
   split at hj'
   ·rw [List.getElem?_drop] at hj'
    simpa [Nat.add_assoc] using hj'
   ·cases hj'
 simp only [Instr.loadAt, e2, Instr.sureAddr, loadVar, Sem.run_bind, Sem.run_pure, Result.andThen_ok, htk.run_isAgg]
 cases hsv : T.sv y with
 | agg l' =>
  rw [hsv] at h3 u1
  simp only [svFits] at h3
  rw [h3]
  obtain ⟨cs', rfl, _⟩ := u1
  have hl := run_loadCells_list (P := Try.prog) w ⟨b, of + k * T.s, none⟩ cs' (by simpa [Value.cells] using hcell)
  have e5 : cs'.length = ti.size := by rw [h2, ← u2]; simp [Value.cells]
  rw [e5] at hl
  simp [htk.run_size, hl]
 | one x =>
  rw [hsv] at h3 u1
  have h3' : ti.agg = false ∧ cellV u := by
   have h6 := u1.2
   cases x <;> first | exact ⟨by simpa [svFits] using h3, h6⟩ | (simp [svFits] at h3)
  have hcv : u.cells = #[u] := cellV.cells h3'.2
  rw [h3'.1]
  have := hcell 0 u (by rw [hcv]; rfl)
  rw [svs_add, Nat.add_zero] at this
  simp [load, Sem.run, this]
theorem rowRead.set {α : Type} {T : Ty α} {l : List α} {cs : List Value} (h : rowRead T l g cs) {k : Nat} (hk : k < l.length) {y : α} {u : Value} (hu : (T.sv y).ok g hs0 u) (hs : u.cells.size = T.s) :
  rowRead T (l.set k y) g (cs.take (k * T.s) ++ u.cells.toList ++ cs.drop (k * T.s + u.cells.toList.length)) := by
 obtain ⟨us, rfl, h2, h3⟩ := h
 have hsz := rowRead.sizes h2 h3
 have key : ∀ (us : List Value) (k : Nat), (∀ u ∈ us, u.cells.size = T.s) → k < us.length → (us.set k u).flatMap (·.cells.toList) = (us.flatMap (·.cells.toList)).take (k * T.s) ++ u.cells.toList ++ (us.flatMap (·.cells.toList)).drop (k * T.s + u.cells.toList.length) := by
  intro us
  induction us with
  | nil => intro k _ h; simp at h
  | cons x us ih =>
   intro k hz hk
   have hx : x.cells.toList.length = T.s := by simpa using hz x (by simp)
   have hul : u.cells.toList.length = T.s := by simpa using hs
   cases k with
   | zero =>
    simp only [List.set_cons_zero, List.flatMap_cons, Nat.zero_mul, List.take_zero, List.nil_append, Nat.zero_add]
    rw [hul, ← hx, List.drop_left]
   | succ k =>
    have := ih k (fun y hy => hz y (by simp [hy])) (by simpa using hk)
    simp only [List.set_cons_succ, List.flatMap_cons]
    rw [this]
    have e1 : (k + 1) * T.s = x.cells.toList.length + k * T.s := by rw [hx, Nat.succ_mul, Nat.add_comm]
    rw [e1, List.take_length_add_append, Nat.add_assoc, List.drop_length_add_append]
    simp
 refine ⟨us.set k u, (key us k hsz (by omega)).symm, by simp [h2], fun q x a hx ha => ?_⟩
 rw [List.getElem?_set] at hx ha
 by_cases e : k = q
 ·rw [if_pos e] at hx ha
  rw [if_pos (by omega)] at hx
  rw [if_pos (by omega)] at ha
  simp at hx ha
  subst hx ha
  exact ⟨hu, hs⟩
 ·rw [if_neg e] at hx ha
  exact h3 q x a hx ha
theorem seg_take {α : Type} (A u : List α) (K m L : Nat) (hu : u.length = m) (h1 : K + m ≤ L) (h2 : L ≤ A.length) : (A.take K ++ u ++ A.drop (K + m)).take L = (A.take L).take K ++ u ++ (A.take L).drop (K + m) := by
 have hl : (A.take K ++ u).length = K + m := by simp [hu]; omega
 rw [List.take_append, hl, List.take_of_length_le (by rw [hl]; exact h1), List.take_take, List.drop_take]
 congr 3
 omega
theorem WL.storeO {α : Type} {T : Ty α} {l : List α} {i k t el : Nat} {y : α} {ti : TI} {x v : Operand} {S1 : St} (ht : tab.ok) (hn : c.n = n) (hw : wantE ops S.F o = some true) (ho : o.op = .store t x v) (h1 : tab t = some ti) (h2 : ti.size = T.s) (hT : T.solid)
  (hx : evX S.F x = some (.sv (.one (.oe i k T.s)))) (hm : S.M[i]? = some (rowI el T l)) (hk : k < l.length) (hv : evX S.F v = some (.sv (T.sv y))) (hz : (svCells (T.sv y)).length = T.s) (hc : (T.sv y).refs = [])
  (e : putE n o.dst (.tup []) ⟨S.F, S.M.set i (rowI el T (l.set k y))⟩ = some S1) (h : WL c ops rest S1 N) : WL c ops (o :: rest) S N := fun a w ⟨g, hs, hh⟩ => by
 unfold wpList
 rw [if_pos (wantE_ok hh hw)]
 refine .inl ?_
 unfold Oper.wp
 obtain ⟨⟨b, of, nn, cap, e1, e2⟩, _⟩ := evX_ok hh hx
 obtain ⟨cs, ⟨hl0, r1⟩, r2⟩ := hh.items i _ hm
 have htk := ht t ti h1
 have hval : (T.sv y).ok g hs (a.eval v) := evX_ok hh hv
 have hval0 : (T.sv y).ok g hs0 (a.eval v) := SV.ok_hs (fun i hi => by rw [hc] at hi; cases hi) hval
 have hcells := sv_cells (hT y) hval0
 have hlen : (a.eval v).cells.toList.length = T.s := by rw [← oks_length hcells]; exact hz
 rcases r1 with ⟨e3, e4⟩ | ⟨gb, of', cap', cur, e3, e4, e5, e6, e7, e8⟩
 ·omega
 ·rw [e1] at e3
  simp at e3
  obtain ⟨⟨rfl, rfl⟩, rfl, rfl⟩ := e3
  have hkl : k * T.s + T.s ≤ l.length * T.s := by rw [← Nat.succ_mul]; exact Nat.mul_le_mul_right _ hk
  have hlc : of + l.length * T.s ≤ cur.size := Nat.le_trans (Nat.add_le_add_left (Nat.mul_le_mul_right _ e5) _) e7
  have hst := run_storeCells_at (P := Try.prog) b (of + k * T.s) el (a.eval v).cells.toList 0 cur w e4 (by rw [hlen, Nat.add_zero, Nat.add_assoc]; exact Nat.le_trans (Nat.add_le_add_left hkl _) hlc) (fun u hu => (oks_cells hcells u hu).one)
  simp only [Nat.add_zero] at hst
  have hup := hh.upd (w' := w.setRow b (cur.toList.take (of + k * T.s) ++ (a.eval v).cells.toList ++ cur.toList.drop (of + k * T.s + (a.eval v).cells.toList.length)).toArray) (it' := rowI el T (l.set k y)) hm rfl rfl ?_ ?_
  ·have hrun : (execOp a.eval o).run Try.prog w = .ok .skip (w.setRow b (cur.toList.take (of + k * T.s) ++ (a.eval v).cells.toList ++ cur.toList.drop (of + k * T.s + (a.eval v).cells.toList.length)).toArray) := by
    have : execOp a.eval o = (do Instr.storeAt t (a.eval x) (a.eval v); pure .skip : Sem Next) := by unfold execOp; rw [ho]
    rw [this]
    simp only [Instr.storeAt, e2, Instr.sureAddr, storeVar, Sem.run_bind, Sem.run_pure, Result.andThen_ok, htk.run_size]
    rw [if_neg (by rw [h2]; simp at hlen; simp [hlen])]
    simp only [hst, Result.andThen_ok, Sem.run_pure]
   rw [hrun]
   exact h _ _ ⟨g, hs, putE_ok hup hn undef_ok e⟩
  ·rw [e1]
   exact ⟨rfl, rfl, rfl, by simp, fun q hq hne => setRow_other w b q _ (fun e => hne (by rw [e]; rfl))⟩
  ·have hset := r2.set hk hval0 (by rw [← hlen]; simp)
   refine ⟨_, ⟨hset.length.trans (by simp), .inr ⟨b, of, cap, _, by rw [e1]; simp, setRow_heap w b _ _ _ _ e4, by simpa using e5, e6, ?_, ?_⟩⟩, hset⟩
   ·simp only [List.size_toArray, List.length_append, List.length_take, List.length_drop, Array.length_toList] at hlen ⊢
    omega
   ·simp only [List.length_set]
    show (List.drop of (_ ++ (a.eval v).cells.toList ++ _)).take _ = _
    rw [drop_seg _ _ (by rw [Array.length_toList]; exact Nat.le_trans (Nat.add_le_add_left (Nat.le_trans (Nat.le_add_right _ _) hkl) _) hlc), ← e8, hlen]
    exact seg_take (cur.toList.drop of) (a.eval v).cells.toList (k * T.s) T.s (l.length * T.s) hlen hkl (by rw [List.length_drop, Array.length_toList]; exact Nat.le_sub_of_add_le (by rw [Nat.add_comm]; exact hlc))
end
def At.sub (a : At) (i : Nat) (b : At) : At := match a with
 | .own j => match Nat.beq j i with
  | true => b
  | false => .own j
 | a => a
def SV.sub (s : SV) (i : Nat) (b : At) : SV := match s with
 | .one a => .one (a.sub i b)
 | .agg l => .agg (l.map (·.sub i b))
def SC.sub (x : SC) (i : Nat) (b : At) : SC := match x with
 | .sv s => .sv (s.sub i b)
 | .tup l => .tup (l.map (·.sub i b))
def Item.sub (it : Item) (i : Nat) (b : At) : Item := match it with
 | .box cells ty fz => .box (cells.map (·.sub i b)) ty fz
 | it => it
section
variable {g : Gh} {hs : Nat → Value} {i : Nat} {b : At}
theorem At.sub_ok (hb : b.ok g hs (hs i)) {a : At} {u : Value} (h : a.ok g hs u) : (a.sub i b).ok g hs u := by
 cases a with
 | own j =>
  show At.ok g hs (match Nat.beq j i with | true => b | false => .own j) u
  cases hj : Nat.beq j i with
  | true =>
   have := Nat.eq_of_beq_eq_true hj
   subst this
   have : u = hs j := h.1
   subst this
   exact hb
  | false => exact h
 | _ => exact h
theorem oks_sub (hb : b.ok g hs (hs i)) : ∀ {l : List At} {us : List Value}, oks g hs l us → oks g hs (l.map (·.sub i b)) us
 | [], [], _ => trivial
 | [], _ :: _, h => h.elim
 | _ :: _, [], h => h.elim
 | _ :: _, _ :: _, h => ⟨At.sub_ok hb h.1, h.2.1, oks_sub hb h.2.2⟩
theorem SV.sub_ok (hb : b.ok g hs (hs i)) {a : SV} {u : Value} (h : a.ok g hs u) : (a.sub i b).ok g hs u := by
 cases a with
 | one a => exact At.sub_ok hb h
 | agg l =>
  obtain ⟨cs, h1, h2⟩ := h
  exact ⟨cs, h1, oks_sub hb h2⟩
theorem svs_sub (hb : b.ok g hs (hs i)) : ∀ {l : List SV} {us : List Value}, SV.oks g hs l us → SV.oks g hs (l.map (·.sub i b)) us
 | [], [], _ => trivial
 | [], _ :: _, h => h.elim
 | _ :: _, [], h => h.elim
 | _ :: _, _ :: _, h => ⟨SV.sub_ok hb h.1, svs_sub hb h.2⟩
theorem SC.sub_ok (hb : b.ok g hs (hs i)) {a : SC} {u : Value} (h : a.ok g hs u) : (a.sub i b).ok g hs u := by
 cases a with
 | sv s => exact SV.sub_ok hb h
 | tup l =>
  obtain ⟨cs, h1, h2⟩ := h
  exact ⟨cs, h1, svs_sub hb h2⟩
end
theorem ls_nil {α : Type} {T : Ty α} {g : Gh} {hs : Nat → Value} : (LS T ([] : List α)).ok g hs (.slice none 0 0) := ⟨⟨⟨none, 0, 0, rfl, rfl, Nat.le_refl _, by simp [maxLen], fun _ => rfl, fun q a h => by simp at h⟩, none, 0, rfl⟩, trivial⟩
section
variable {c : Cfg} {S S1 : St} {a : Act} {w : World} {g : Gh} {hs : Nat → Value} {tab : Tab} {n : Nat} {o : Oper} {ops : Array Oper} {rest L : List Oper} {N : Po}
theorem row_LS {α : Type} {T : Ty α} {l : List α} {e : Nat} {v : Value} {cs : List Value} {g' : Gh} (h1 : w.ownsAt e T.s v l.length cs) (h2 : rowRead T l g cs) (hle : Gh.le g g') (hb : ∀ b, v.ownBlock = some b → g' b = w.heap[b]?) : (LS T l).ok g' hs v := by
 obtain ⟨h0, h1⟩ := h1
 rcases h1 with ⟨rfl, hn⟩ | ⟨gb, of, cap, cur, rfl, e4, e5, e6, e7, e8⟩
 ·have : l = [] := List.eq_nil_of_length_eq_zero hn
  subst this
  exact ls_nil
 ·refine ⟨⟨⟨some ⟨gb, of, none⟩, l.length, cap, rfl, rfl, e5, e6, (fun e => by cases e), fun q a ha => ?_⟩, _, _, rfl⟩, trivial⟩
  obtain ⟨u, u1, u2, u3⟩ := row_elem h2 ha
  refine ⟨gb, of, u, rfl, SV.mono hle u1, u2, fun j c hj => ?_⟩
  have := u3 j c hj
  unfold Gh.cell
  rw [hb gb rfl, e4]
  rw [← e8, List.getElem?_take] at this
  split at this
  ·rw [List.getElem?_drop] at this
   simpa [Nat.add_assoc] using this
  ·cases this
def sealS (S : St) (i : Nat) (b : At) : St := ⟨S.F.map fun e => (e.1, e.2.sub i b), (S.M.set i .gone).map (·.sub i b)⟩
theorem Ok'.seal {α : Type} {T : Ty α} {l : List α} {e i : Nat} (h : Ok' c S a w g hs) (hm : S.M[i]? = some (rowI e T l)) : ∃ g', Ok' c (sealS S i (LS T l)) a w g' hs := by
 classical
 obtain ⟨cs, r1, r2⟩ := h.items i _ hm
 have hmine := h.mine i _ hm (by simp)
 have hbk : ∀ b, Blk (hs i) b ↔ (hs i).ownBlock = some b := fun b => Blk_slice (ownsRow_slice r1)
 let g' : Gh := fun x => if (hs i).ownBlock = some x then w.heap[x]? else g x
 have hle : Gh.le g g' := fun x o e => by
  show (if (hs i).ownBlock = some x then _ else g x) = some o
  by_cases hx : (hs i).ownBlock = some x
  ·have := (hmine x (by rw [hbk]; exact hx)).2 rfl
   rw [this.2] at e
   cases e
  ·rw [if_neg hx]; exact e
 have hb : (LS T l).ok g' hs (hs i) := row_LS r1 r2 hle (fun b hb => if_pos hb)
 have hset : ∀ (j : Nat) (jt : Item), ((S.M.set i .gone).map (·.sub i (LS T l)))[j]? = some jt → jt ≠ .gone → ∃ kt, j ≠ i ∧ S.M[j]? = some kt ∧ jt = kt.sub i (LS T l) ∧ kt ≠ .gone ∧ jt.fz = kt.fz := fun j jt hj hn => by
  rw [List.getElem?_map, List.getElem?_set] at hj
  by_cases e : i = j
  ·rw [if_pos e] at hj
   split at hj
   ·simp [Item.sub] at hj
    exact absurd hj.symm hn
   ·cases hj
  ·rw [if_neg e] at hj
   cases hk : S.M[j]? with
   | none => rw [hk] at hj; cases hj
   | some kt =>
    rw [hk] at hj
    simp at hj
    refine ⟨kt, Ne.symm e, rfl, hj.symm, fun e => ?_, ?_⟩
    ·subst e; exact hn hj.symm
    ·rw [← hj]; cases kt <;> rfl
 refine ⟨g', h.size, h.defers, ⟨h.base.os, h.base.tape, h.base.output, h.base.grows, h.base.frame, h.base.ghle.trans hle, fun x o e => ?_, fun x o e => ?_⟩, fun t x hx => ?_, fun j jt hj => ?_, fun j k jt kt hjk hj hk hfj hnk x hx => ?_, fun j jt hj hnj x hx => ?_⟩
 ·by_cases hx : (hs i).ownBlock = some x
  ·exact .inr ((hmine x (by rw [hbk]; exact hx)).2 rfl).1
  ·rw [show g' x = g x from if_neg hx] at e
   exact h.base.ghnew x o e
 ·by_cases hx : (hs i).ownBlock = some x
  ·rw [show g' x = w.heap[x]? from if_pos hx] at e
   exact e
  ·rw [show g' x = g x from if_neg hx] at e
   exact h.base.pers x o e
 ·obtain ⟨y, hy, e⟩ := List.mem_map.1 hx
  cases e
  exact SC.sub_ok hb (SC.mono hle (h.slots _ _ hy))
 ·by_cases hn : jt = .gone
  ·subst hn; trivial
  ·obtain ⟨kt, h1, h2, rfl, h3, _⟩ := hset j jt hj hn
   have h4 := Item.mono hle (h.items j kt h2)
   cases kt with
   | box cells ty fz =>
    obtain ⟨b, us, k1, k2, k3, k4⟩ := h4
    exact ⟨b, us, k1, oks_sub hb k2, k3, k4⟩
   | _ => exact h4
 ·obtain ⟨jt', h1, h2, rfl, h3, h4⟩ := hset j jt hj (fz_gone hfj)
  obtain ⟨kt', k1, k2, rfl, k3, k4⟩ := hset k kt hk hnk
  exact h.sep j k jt' kt' hjk h2 k2 (by rw [← h4]; exact hfj) k3 x hx
 ·obtain ⟨jt', h1, h2, rfl, h3, h4⟩ := hset j jt hj hnj
  obtain ⟨m1, m2⟩ := h.mine j jt' h2 h3 x hx
  refine ⟨m1, fun hf => ?_⟩
  rw [h4] at hf
  refine ⟨(m2 hf).1, ?_⟩
  have hx' : (hs i).ownBlock ≠ some x := fun e => h.sep j i jt' _ h1 h2 hm hf (by simp) x hx (by rw [hbk]; exact e)
  rw [show g' x = g x from if_neg hx']
  exact (m2 hf).2
theorem WL.seal {α : Type} {T : Ty α} {l : List α} {e : Nat} (i : Nat) (hm : S.M[i]? = some (rowI e T l)) (h : WL c ops L (sealS S i (LS T l)) N) : WL c ops L S N := fun a w ⟨g, hs, hk⟩ => by
 obtain ⟨g', hk'⟩ := hk.seal hm
 exact h a w ⟨g', hs, hk'⟩
theorem En.seal {α : Type} {T : Ty α} {l : List α} {e : Nat} (i : Nat) (hm : S.M[i]? = some (rowI e T l)) (h : En c (sealS S i (LS T l)) N) : En c S N := fun a w ⟨g, hs, hk⟩ => by
 obtain ⟨g', hk'⟩ := hk.seal hm
 exact h a w ⟨g', hs, hk'⟩
theorem made_row {α : Type} {T : Ty α} {z0 : α} {z : Value} {k N : Nat} (hz : (T.sv z0).ok g hs0 z) (hs : z.cells.size = T.s) (h0 : 0 < T.s) (hk : k ≤ N) : rowRead T (List.replicate k z0) g ((madeCells z.cells (N * T.s)).toList.take (k * T.s)) := by
 refine ⟨List.replicate k z, ?_, by simp, fun q u a hu ha => ?_⟩
 ·have hsz : ∀ u ∈ List.replicate k z, u.cells.size = T.s := fun u hu => by rw [List.eq_of_mem_replicate hu]; exact hs
  apply List.ext_getElem?
  intro j
  by_cases hj : j < k * T.s
  ·have hq : j / T.s < k := by rw [Nat.div_lt_iff_lt_mul h0]; exact hj
   have hm : j % T.s < T.s := Nat.mod_lt _ h0
   have h1 := flat_at (q := j / T.s) (j := j % T.s) (u := z) (c := z.cells[j % T.s]'(by omega)) hsz (by simp [hq]) (by simp [hs, hm])
   rw [show j / T.s * T.s + j % T.s = j from by rw [Nat.mul_comm]; exact Nat.div_add_mod j T.s] at h1
   rw [h1, List.getElem?_take, if_pos hj]
   have hjN : j < N * T.s := Nat.lt_of_lt_of_le hj (Nat.mul_le_mul_right _ hk)
   have hmz : j % z.cells.size < z.cells.size := by rw [hs]; exact hm
   simp [madeCells, hjN]
   have e : j % z.cells.size = j % T.s := by rw [hs]
   rw [getElem!_pos z.cells (j % z.cells.size) hmz]
   simp only [e]
  ·rw [List.getElem?_take, if_neg hj, List.getElem?_eq_none]
   rw [flat_len hsz]
   simp
   omega
 ·rw [List.getElem?_replicate] at hu ha
  split at hu
  ·rename_i h
   rw [if_pos h] at ha
   simp at hu ha
   subst hu ha
   exact ⟨hz, hs⟩
  ·cases hu
theorem mt_make {α : Type} {T : Ty α} (z0 : α) {zv : Value} (p : Nat) {t e : Nat} {ti te : TI} {x y : Operand} {k1 k2 : IntKind} {l cp : Int} (ht : tab.ok) (ho : o.op = .makeSlice t x y) (h1 : tab t = some ti) (h2 : ti.sl = some e) (h3 : tab e = some te) (h4 : te.size = T.s) (h5 : 0 < T.s)
  (hx : evK S.F x = some (.int k1 l)) (hy : evK S.F y = some (.int k2 cp)) (hl0 : 0 ≤ l) (hlc : l ≤ cp) (hb : cp * te.bytes ≤ 140737488355328) (hb2 : cp ≤ 140737488355328) (hzc : zv.cells.toList = te.zero) (hz : ∀ g, (T.sv z0).ok g hs0 zv) :
  MT c S o (.sv (.one (.own p))) [] (some (p, rowI e T (List.replicate l.toNat z0))) := fun a w g hs h N Z hN => by
 have hu := slT_some ((ht t ti h1).sl.trans h2)
 have hte := ht e te h3
 obtain ⟨x', z, i1, i2, i3, i4, i5⟩ := hte.parts
 have hzz : z.cells = zv.cells := by apply Array.toList_inj.1; rw [i5, hzc]
 have hzs : zv.cells.size = T.s := by rw [← Array.length_toList, hzc, hte.zs, h4]
 have hrun := run_make (P := Try.prog) (w := w) t e x' z hu i1 i2 k1 k2 l cp hl0 hlc (by rw [i4, Int.mul_comm]; omega) (by omega)
 unfold Oper.wp
 have hr : (execOp a.eval o).run Try.prog w = .ok (.value (.slice (some ⟨w.heap.size, 0, none⟩) l.toNat cp.toNat)) (w.alloc (.cells (madeCells z.cells (cp.toNat * x'.size)) e)) := by
  have : execOp a.eval o = (do pure (.value (← Instr.makeSlice t (a.eval x) (a.eval y))) : Sem Next) := by unfold execOp; rw [ho]
  rw [this, evK_ok h hx, evK_ok h hy]
  exact run_valW hrun
 rw [hr]
 have hlc' : l.toNat ≤ cp.toNat := by omega
 have hsz : x'.size = T.s := by rw [i3, h4]
 refine hN _ _ g (.slice (some ⟨w.heap.size, 0, none⟩) l.toNat cp.toNat) ⟨rfl, rfl, rfl, by simp, fun b hb _ => (World.grownBy_alloc w _ none).block b hb (by simp), Gh.le.refl g, fun b o e => .inl e, fun b o e => ?_⟩ ⟨?_, trivial⟩ ⟨⟨(madeCells zv.cells (cp.toNat * T.s)).toList.take (l.toNat * T.s), ?_, made_row (hz g) hzs h5 hlc'⟩, fun b hb => ?_⟩
 ·exact ((World.grownBy_alloc w _ none).block b (h.base.pers.lt e) (by simp)).trans (h.base.pers b o e)
 ·show _ = (if p = p then _ else hs p)
  rw [if_pos rfl]
 ·rw [List.length_replicate]
  refine World.ownsRow.at (base := 0) ⟨?_, .inr ⟨w.heap.size, cp.toNat, madeCells zv.cells (cp.toNat * T.s), rfl, Nat.zero_le _, ?_, hlc', by simp only [maxLen]; omega, by rw [size_madeCells], rfl⟩⟩
  ·rw [List.length_take, Array.length_toList, size_madeCells]
   exact Nat.min_eq_left (Nat.mul_le_mul_right _ hlc')
  ·rw [hzz, hsz]
   exact heap_alloc_new w _
 ·cases hb
  refine ⟨by simp, fun _ => ?_, .inl (Nat.le_refl _)⟩
  cases hgb : g w.heap.size with
  | none => rfl
  | some o => have := h.base.pers.lt hgb; omega
theorem slRead.take {α : Type} {T : Ty α} {l : List α} {ao : Option Addr} {n' cap : Nat} (h : slRead T l g (.slice ao n' cap)) {lo hi : Nat} (h1 : lo ≤ hi) (h2 : hi ≤ l.length) :
  slRead T ((l.take hi).drop lo) g (.slice (if cap = lo then ao else ao.map (·.add (lo * T.s))) (hi - lo) (cap - lo)) := by
 obtain ⟨ao', n'', cap', e1, e2, e3, e4, e5, e6⟩ := h
 cases e1
 subst e2
 refine ⟨_, _, _, rfl, by simp; omega, by omega, by omega, fun e => ?_, fun q a hq => ?_⟩
 ·split at e
  ·omega
  ·cases ao with
   | none => have := e5 rfl; omega
   | some x => cases e
 ·rw [List.getElem?_drop, List.getElem?_take] at hq
  split at hq
  case isFalse => cases hq
  obtain ⟨b, o, u, rfl, k2, k3, k4⟩ := e6 _ a hq
  refine ⟨b, o + lo * T.s, u, ?_, k2, k3, fun j c hj => ?_⟩
  ·rw [if_neg (by omega)]
   simp [Addr.add_lit]
  ·have := k4 j c hj
   rw [Nat.add_mul] at this
   rw [← this]
   congr 2
   omega
theorem val_slice {α : Type} {T : Ty α} {l : List α} {t el m : Nat} {ti te : TI} {x : Operand} {lo hi : Option Operand} {lv hv : Int} (ht : tab.ok) (ho : o.op = .slice t x lo hi none) (h1 : tab t = some ti) (h2 : ti.sl = some el) (h3 : tab el = some te) (h4 : te.size = T.s)
  (hx : evX S.F x = some (.sv (.one (.sl (slR T l) m)))) (hlo : (match lo with | some q => evK S.F q = some (.int .i64 lv) | none => lv = 0)) (hhi : (match hi with | some q => evK S.F q = some (.int .i64 hv) | none => hv = l.length)) (h5 : 0 ≤ lv ∧ lv ≤ hv ∧ hv ≤ l.length) :
  Val c S o (.sv (.one (LS T ((l.take hv.toNat).drop lv.toNat)))) := fun a w g hs h => by
 obtain ⟨h6, h7, h8⟩ := h5
 have hu := slT_some ((ht t ti h1).sl.trans h2)
 obtain ⟨⟨hr, ao, cap, e1⟩, _⟩ := evX_ok h hx
 have hr' : slRead T l g (a.eval x) := hr
 rw [e1] at hr'
 have hr2 := hr'
 obtain ⟨ao', n'', cap', k1, k2, k3, k4, k5, k6⟩ := hr2
 cases k1
 subst k2
 have htk := hr'.take (lo := lv.toNat) (hi := hv.toNat) (by omega) (by omega)
 refine ⟨_, ?_, ⟨htk, _, _, by simp only [List.length_drop, List.length_take]; congr 1; omega⟩, trivial⟩
 have : execOp a.eval o = (do pure (.value (← Instr.sliceAt t (a.eval x) (lo.map a.eval) (hi.map a.eval) none)) : Sem Next) := by unfold execOp; rw [ho]; rfl
 rw [this]
 refine run_val ?_
 have hb : (Instr.sliceBounds true l.length cap (lo.map a.eval) (hi.map a.eval) none).run Try.prog w = .ok (lv.toNat, hv.toNat, cap) w := by
  unfold Instr.sliceBounds
  cases lo with
  | none =>
   cases hi with
   | none =>
    simp only at hlo hhi
    subst hlo hhi
    simp
   | some q =>
    simp only at hlo hhi
    subst hlo
    simp only [Option.map_none, Option.map_some, Sem.run_bind, Sem.run_pure, Result.andThen_ok, Instr.sliceBound, evK_ok h hhi, asIntOf]
    rw [if_pos (by omega)]
    simp
  | some q' =>
   cases hi with
   | none =>
    simp only at hlo hhi
    subst hhi
    simp only [Option.map_none, Option.map_some, Sem.run_bind, Sem.run_pure, Result.andThen_ok, Instr.sliceBound, evK_ok h hlo, asIntOf]
    rw [if_pos (by omega)]
    simp
   | some q =>
    simp only at hlo hhi
    simp only [Option.map_some, Sem.run_bind, Sem.run_pure, Result.andThen_ok, Instr.sliceBound, evK_ok h hhi, evK_ok h hlo, asIntOf]
    rw [if_pos (by omega)]
    simp only [Sem.run_bind, Sem.run_pure, Result.andThen_ok]
    rw [if_pos (by omega)]
    simp
 simp only [Instr.sliceAt, Instr.slice, Sem.run_bind, run_underlying hu, Result.andThen_ok, e1, hb, (ht el te h3).run_size, Sem.run_pure, h4]
theorem WL.mt0 {x : SC} {K : List Nat} {p : Option (Nat × Item)} (hn : c.n = n) (hw : wantE ops S.F o = some true) (hm : MT c S o x K p) (hr : refsNe S p = true) (hu : usable S K = true) (e : putE n o.dst x ⟨S.F, newM S.M K p⟩ = some S1) (h : WL c ops rest S1 N) : WL c ops (o :: rest) S N := fun a w ⟨g, hs, hk⟩ => by
 unfold wpList
 rw [if_pos (wantE_ok hk hw)]
 refine .inl (hm a w g hs hk _ N fun v w' g' h' h1 h3 h4 => ?_)
 exact h _ _ ⟨g', _, putE_ok (hk.eff h1 h4 hr hu) hn h3 e⟩
def capOk (n m b : Nat) : Prop := (n + m) * b ≤ 140737488355328
theorem capOk.le {n m b : Nat} (h : capOk n m b) (hb : 0 < b) : n + m ≤ 140737488355328 := Nat.le_trans (Nat.le_mul_of_pos_right _ hb) h
def makeOk (l c : Int) (b : Nat) : Prop := 0 ≤ l ∧ l ≤ c ∧ c * b ≤ 140737488355328
theorem makeOk.le {l c : Int} {b : Nat} (h : makeOk l c b) (hb : 0 < b) : c ≤ 140737488355328 := by
 obtain ⟨h1, h2, h3⟩ := h
 have : c * 1 ≤ c * b := Int.mul_le_mul_of_nonneg_left (by omega) (by omega)
 omega
def partOk (lo hi n : Int) : Prop := 0 ≤ lo ∧ lo ≤ hi ∧ hi ≤ n
theorem oks_junk : ∀ {l : List At} {us : List Value} (j : Nat), oks g hs l us → oks g hs (l.set j .junk) us
 | [], _, _, h => by simpa using h
 | _ :: _, [], _, h => h.elim
 | _ :: _, _ :: _, 0, h => ⟨⟨trivial, trivial⟩, h.2.1, h.2.2⟩
 | _ :: _, _ :: _, j + 1, h => ⟨h.1, h.2.1, oks_junk j h.2.2⟩
theorem WL.junk (i j : Nat) {cells : List At} {ty : Nat} (hm : S.M[i]? = some (.box cells ty false)) (h : WL c ops L ⟨S.F, S.M.set i (.box (cells.set j .junk) ty false)⟩ N) : WL c ops L S N := fun a w ⟨g, hs, hk⟩ => by
 refine h a w ⟨g, hs, hk.upd hm rfl rfl (World.grownBy.mk rfl rfl rfl (Nat.le_refl _) (fun _ _ _ => rfl)) ?_⟩
 obtain ⟨b, cs, h1, h2, h3, h4⟩ := hk.items i _ hm
 exact ⟨b, cs, h1, oks_junk j h2, h3, fun h => by cases h⟩
theorem mt_empty {α : Type} (T : Ty α) (p : Nat) {t e : Nat} {ti te : TI} (ht : tab.ok) (ho : o.op = .buildSlice t 0 #[]) (h1 : tab t = some ti) (h2 : ti.sl = some e) (h3 : tab e = some te) : MT c S o (.sv (.one (.own p))) [] (some (p, rowI e T [])) := fun a w g hs h N Z hN => by
 have hu := slT_some ((ht t ti h1).sl.trans h2)
 unfold Oper.wp
 have hrun : (execOp a.eval o).run Try.prog w = .ok (.value (.slice (some ⟨w.heap.size, 0, none⟩) 0 0)) (w.alloc (.cells #[] e)) := by
  have : execOp a.eval o = (do pure (.value (← Instr.buildSlice t 0 #[])) : Sem Next) := by unfold execOp; rw [ho]; simp
  rw [this]
  refine run_valW ?_
  simp [Instr.buildSlice, run_underlying hu, (ht e te h3).run_size, Instr.fill, newRow, newObj, Sem.run]
  exact congrArg (fun z => w.alloc (.cells z e)) (Array.toList_inj.1 (by simp))
 rw [hrun]
 refine hN _ _ g (.slice (some ⟨w.heap.size, 0, none⟩) 0 0) ⟨rfl, rfl, rfl, by simp, fun b hb _ => (World.grownBy_alloc w _ none).block b hb (by simp), Gh.le.refl g, fun b o e => .inl e, fun b o e => ?_⟩ ⟨?_, trivial⟩ ⟨⟨[], World.ownsRow.at (base := 0) ⟨by simp, .inr ⟨w.heap.size, 0, #[], rfl, Nat.zero_le _, heap_alloc_new w _, Nat.le_refl _, by simp [maxLen], by simp, by simp⟩⟩, rowRead.nil⟩, fun b hb => ?_⟩
 ·exact ((World.grownBy_alloc w _ none).block b (h.base.pers.lt e) (by simp)).trans (h.base.pers b o e)
 ·show _ = (if p = p then _ else hs p)
  rw [if_pos rfl]
 ·cases hb
  refine ⟨by simp, fun _ => ?_, .inl (Nat.le_refl _)⟩
  cases hgb : g w.heap.size with
  | none => rfl
  | some o => have := h.base.pers.lt hgb; omega
theorem En.nilLS {α : Type} (t : Nat) (T : Ty α) (hl : look t S.F = some (.sv (.one (.v (.slice none 0 0))))) (h : En c ⟨(t, .sv (.one (LS T ([] : List α)))) :: S.F, S.M⟩ N) : En c S N := fun a w ⟨g, hs, hk⟩ => by
 refine h a w ⟨g, hs, hk.size, hk.defers, hk.base, fun t' y hy => ?_, hk.items, hk.sep, hk.mine⟩
 rcases List.mem_cons.1 hy with hy | hy
 ·cases hy
  have hv := (hk.slots t _ (look_mem hl)).1
  rw [hv]
  exact ls_nil
 ·exact hk.slots t' y hy
theorem slRead.le {α : Type} {T : Ty α} {l : List α} {v : Value} (h : slRead T l g v) : l.length ≤ 9223372036854775807 := by
 obtain ⟨ao, n, cap, h1, rfl, h2, h3, _⟩ := h
 simp only [maxLen] at h3
 omega
theorem En.lenL {α : Type} {T : Ty α} {l : List α} {m : Nat} (t : Nat) (hl : look t S.F = some (.sv (.one (.sl (slR T l) m)))) (h : l.length ≤ 9223372036854775807 → En c S N) : En c S N := fun a w ⟨g, hs, hk⟩ =>
 h (slRead.le (hk.slots t _ (look_mem hl)).1.1) a w ⟨g, hs, hk⟩
theorem En.lenA {α : Type} {T : Ty α} {l : List α} {m : Nat} (t j : Nat) {cells : List At} (hl : look t S.F = some (.sv (.agg cells))) (hj : cells[j]? = some (.sl (slR T l) m)) (h : l.length ≤ 9223372036854775807 → En c S N) : En c S N := fun a w ⟨g, hs, hk⟩ => by
 obtain ⟨cs, _, h2⟩ := hk.slots t _ (look_mem hl)
 obtain ⟨u, _, h3, _⟩ := oks_get h2 hj
 exact h (slRead.le h3.1.1) a w ⟨g, hs, hk⟩
end
section plain
variable {κ α : Type} [DecidableEq κ]
def mget (k : κ) : List (κ × α) → Option α
 | [] => none
 | x :: D => if k = x.1 then some x.2 else mget k D
def mput (k : κ) (v : α) : List (κ × α) → List (κ × α)
 | [] => [(k, v)]
 | x :: D => if k = x.1 then (k, v) :: D else x :: mput k v D
theorem mput_keys {a : κ} {v : α} {D : List (κ × α)} : (mput a v D).map (·.1) = if a ∈ D.map (·.1) then D.map (·.1) else D.map (·.1) ++ [a] := by
 induction D with
 | nil => simp [mput]
 | cons x D ih =>
  rw [mput]
  split
  ·rename_i e
   simp [e]
  ·rename_i e
   rw [List.map_cons, ih]
   by_cases h : a ∈ D.map (·.1)
   ·rw [if_pos h, if_pos (by simp [h])]; simp
   ·rw [if_neg h, if_neg (by simp [e]; simpa using h)]; simp
theorem mput_nodup {a : κ} {v : α} {D : List (κ × α)} (hn : (D.map (·.1)).Nodup) : ((mput a v D).map (·.1)).Nodup := by
 rw [mput_keys]
 split
 ·exact hn
 ·rename_i h
  rw [List.nodup_append]
  exact ⟨hn, by simp, fun x hx y hy => by simp at hy; subst hy; exact fun e => h (e ▸ hx)⟩
theorem mget_put {a b : κ} {v : α} {D : List (κ × α)} : mget b (mput a v D) = if b = a then some v else mget b D := by
 induction D with
 | nil => simp only [mput, mget]
 | cons x D ih =>
  rw [mput]
  split
  ·rename_i e
   simp only [mget, ← e]
   split <;> simp_all
  ·rename_i e
   simp only [mget]
   split
   ·rename_i e2
    have : b ≠ a := fun e3 => e (by rw [← e3, e2])
    simp [this]
   ·exact ih
theorem mget_mem {a : κ} {v : α} {D : List (κ × α)} (hn : (D.map (·.1)).Nodup) : mget a D = some v ↔ (a, v) ∈ D := by
 induction D with
 | nil => simp [mget]
 | cons x D ih =>
  rw [List.map_cons, List.nodup_cons] at hn
  simp only [mget]
  split
  ·rename_i e
   subst e
   simp only [Option.some.injEq, List.mem_cons]
   constructor
   ·rintro rfl; exact .inl rfl
   ·rintro (h | h)
    ·rw [← h]
    ·exact absurd (List.mem_map_of_mem (f := (·.1)) h) hn.1
  ·rename_i e
   rw [ih hn.2, List.mem_cons]
   constructor
   ·exact .inr
   ·rintro (h | h)
    ·exact absurd (by rw [← h]) e
    ·exact h
end plain
section
variable {κ α : Type} [DecidableEq κ]
def mapRead (enc : κ → Value) (T : Ty α) (D : List (κ × α)) (g : Gh) (L : Array MapEntry × Nat) : Prop :=
 ∃ D0 : List (κ × Value), (L.1.toList.map (fun e => (e.key, e.val)) = D0.map (fun x => (enc x.1, x.2)) ∧ (L.1.toList.map (·.born)).Pairwise (· < ·) ∧ ∀ e ∈ L.1.toList, e.born < L.2) ∧ D0.map (·.1) = D.map (·.1) ∧ (D.map (·.1)).Nodup ∧ ∀ (q : Nat) (x : κ × Value) (y : κ × α), D0[q]? = some x → D[q]? = some y → (T.sv y.2).ok g hs0 x.2
def mapR (enc : κ → Value) (T : Ty α) (D : List (κ × α)) : Rl (Array MapEntry × Nat) := ⟨mapRead enc T D, fun g g' L h ⟨D0, h1, h2, h3, h4⟩ => ⟨D0, h1, h2, h3, fun q x y hx hy => SV.mono h (h4 q x y hx hy)⟩⟩
def MapAs (enc : κ → Value) (T : Ty α) (D : List (κ × α)) (r : Rl (Array MapEntry × Nat)) : Prop := ∀ g p, r.R g p → mapRead enc T D g p
omit [DecidableEq κ] in
theorem mapAs (enc : κ → Value) (T : Ty α) (D : List (κ × α)) : MapAs enc T D (mapR enc T D) := fun _ _ h => h
def mapXR (enc : κ → Value) (T : Ty α) (D : List (κ × α)) (es : Array MapEntry) (clock : Nat) : Rl (Array MapEntry × Nat) := ⟨fun g p => p = (es, clock) ∧ mapRead enc T D g p, fun g g' L h ⟨e, k⟩ => ⟨e, (mapR enc T D).mono g g' L h k⟩⟩
abbrev mapX (enc : κ → Value) (T : Ty α) (D : List (κ × α)) (es : Array MapEntry) (clock : Nat) : Item := .map (mapXR enc T D es clock)
omit [DecidableEq κ] in
theorem mapXAs (enc : κ → Value) (T : Ty α) (D : List (κ × α)) (es : Array MapEntry) (clock : Nat) : MapAs enc T D (mapXR enc T D es clock) := fun _ _ h => h.2
abbrev mapI (enc : κ → Value) (T : Ty α) (D : List (κ × α)) : Item := .map (mapR enc T D)
theorem pairs_get {T : Ty α} {g : Gh} {k : κ} : ∀ {D0 : List (κ × Value)} {D : List (κ × α)}, D0.map (·.1) = D.map (·.1) → (∀ (q : Nat) (x : κ × Value) (y : κ × α), D0[q]? = some x → D[q]? = some y → (T.sv y.2).ok g hs0 x.2) →
  (lookD k D0 = none ∧ mget k D = none) ∨ ∃ v y, lookD k D0 = some v ∧ mget k D = some y ∧ (T.sv y).ok g hs0 v := by
 have key : ∀ (D0 : List (κ × Value)) (D : List (κ × α)) (i : Nat), D0.map (·.1) = D.map (·.1) → (∀ (q : Nat) (x : κ × Value) (y : κ × α), D0[q]? = some x → D[q]? = some y → (T.sv y.2).ok g hs0 x.2) →
   ((findD k D0 i).map (·.2) = none ∧ mget k D = none) ∨ ∃ v y, (findD k D0 i).map (·.2) = some v ∧ mget k D = some y ∧ (T.sv y).ok g hs0 v := by
  intro D0
  induction D0 with
  | nil => intro D i h _; cases D with
   | nil => exact .inl ⟨rfl, rfl⟩
   | cons _ _ => cases h
  | cons x D0 ih =>
   intro D i h hp
   cases D with
   | nil => cases h
   | cons y D =>
    simp only [List.map_cons, List.cons.injEq] at h
    simp only [findD, mget, ← h.1]
    split
    ·exact .inr ⟨x.2, y.2, rfl, rfl, hp 0 x y rfl rfl⟩
    ·exact ih D (i + 1) h.2 (fun q a b ha hb => hp (q + 1) a b (by simpa using ha) (by simpa using hb))
 intro D0 D h1 h2
 exact key D0 D 0 h1 h2
theorem pairs_put {T : Ty α} {g : Gh} {k : κ} {v : Value} {y : α} (hv : (T.sv y).ok g hs0 v) : ∀ {D0 : List (κ × Value)} {D : List (κ × α)}, D0.map (·.1) = D.map (·.1) → (∀ (q : Nat) (x : κ × Value) (y : κ × α), D0[q]? = some x → D[q]? = some y → (T.sv y.2).ok g hs0 x.2) →
  (putD k v D0).map (·.1) = (mput k y D).map (·.1) ∧ ∀ (q : Nat) (x : κ × Value) (y' : κ × α), (putD k v D0)[q]? = some x → (mput k y D)[q]? = some y' → (T.sv y'.2).ok g hs0 x.2 := by
 intro D0
 induction D0 with
 | nil => intro D h _; cases D with
  | nil =>
   refine ⟨rfl, fun q x y' hx hy => ?_⟩
   cases q with
   | zero => simp [putD, mput] at hx hy; subst hx hy; exact hv
   | succ q => simp [putD] at hx
  | cons _ _ => cases h
 | cons x D0 ih =>
  intro D h hp
  cases D with
  | nil => cases h
  | cons z D =>
   simp only [List.map_cons, List.cons.injEq] at h
   simp only [putD, mput, ← h.1]
   split
   ·refine ⟨by simp [h.2], fun q a b ha hb => ?_⟩
    cases q with
    | zero => simp at ha hb; subst ha hb; exact hv
    | succ q => exact hp (q + 1) a b (by simpa using ha) (by simpa using hb)
   ·obtain ⟨i1, i2⟩ := ih h.2 (fun q a b ha hb => hp (q + 1) a b (by simpa using ha) (by simpa using hb))
    refine ⟨by simp [h.1, i1], fun q a b ha hb => ?_⟩
    cases q with
    | zero => simp at ha hb; subst ha hb; exact hp 0 x z rfl rfl
    | succ q => exact i2 q a b (by simpa using ha) (by simpa using hb)
end
def knownL : List At → Option (List Value)
 | [] => some []
 | .v x :: l => match knownL l with
  | some r => some (x :: r)
  | none => none
 | _ :: _ => none
def evKV (F : List (Nat × SC)) (o : Operand) : Option Value := match evX F o with
 | some (.sv (.one (.v x))) => some x
 | some (.sv (.agg l)) => match knownL l with
  | some r => some (.agg r.toArray)
  | none => none
 | _ => none
theorem knownL_ok {g : Gh} {hs : Nat → Value} : ∀ {l : List At} {r us : List Value}, knownL l = some r → oks g hs l us → us = r
 | [], r, us, e, h => by
  cases e
  cases us with
  | nil => rfl
  | cons _ _ => exact h.elim
 | a :: l, r, us, e, h => by
  cases a <;> try (cases e; done)
  rename_i x
  simp only [knownL] at e
  split at e
  case h_2 => cases e
  rename_i r' hr
  cases e
  cases us with
  | nil => exact h.elim
  | cons u us =>
   have h1 : u = x := h.1.1
   rw [h1, knownL_ok hr h.2.2]
section
variable {κ α : Type} [DecidableEq κ] {enc : κ → Value} {T : Ty α} {D : List (κ × α)}
variable {c : Cfg} {S S1 : St} {a : Act} {w : World} {g : Gh} {hs : Nat → Value} {tab : Tab} {n : Nat} {o : Oper} {ops : Array Oper} {rest L : List Oper} {N : Po}
theorem evKV_ok (h : Ok' c S a w g hs) {x : Operand} {v : Value} (e : evKV S.F x = some v) : a.eval x = v := by
 unfold evKV at e
 split at e
 ·rename_i y hy
  cases e
  exact (evX_ok h hy).1
 ·rename_i l hl
  split at e
  case h_2 => cases e
  rename_i r hr
  cases e
  obtain ⟨cs, h1, h2⟩ := evX_ok h hl
  rw [h1, knownL_ok hr h2]
 ·cases e
omit [DecidableEq κ] in
theorem map_ownR {r : Rl (Array MapEntry × Nat)} (h : Ok' c S a w g hs) {i : Nat} (hm : S.M[i]? = some (.map r)) (hr : MapAs enc T D r) : ∃ m D0, hs i = .map (some m) ∧ OwnMap enc w m D0 ∧ D0.map (·.1) = D.map (·.1) ∧ (D.map (·.1)).Nodup ∧ ∀ (q : Nat) (x : κ × Value) (y : κ × α), D0[q]? = some x → D[q]? = some y → (T.sv y.2).ok g hs0 x.2 := by
 obtain ⟨m, es, clock, h1, h2, hx⟩ := h.items i _ hm
 obtain ⟨D0, ⟨h6, h4, h5⟩, h7, h8, h9⟩ := hr _ _ hx
 exact ⟨m, D0, h1, ⟨es, clock, h2, h6, by rw [h7]; exact h8, h4, h5⟩, h7, h8, h9⟩
omit [DecidableEq κ] in
theorem mt_makeMap (enc : κ → Value) (T : Ty α) (p : Nat) {t : Nat} (ho : o.op = .makeMap t none) : MT c S o (.sv (.one (.own p))) [] (some (p, mapI enc T [])) := fun a w g hs h N Z hN => by
 unfold Oper.wp
 have hrun : (execOp a.eval o).run Try.prog w = .ok (.value (.map (some w.heap.size))) (w.alloc (.map #[] 0)) := by
  have : execOp a.eval o = (do pure (.value (← Instr.makeMap t none)) : Sem Next) := by unfold execOp; rw [ho]; rfl
  rw [this]
  refine run_valW ?_
  simp [Instr.makeMap, newObj, Sem.run]
 rw [hrun]
 refine hN _ _ g (.map (some w.heap.size)) ⟨rfl, rfl, rfl, by simp, fun b hb _ => (World.grownBy_alloc w _ none).block b hb (by simp), Gh.le.refl g, fun b o e => .inl e, fun b o e => ?_⟩ ⟨?_, trivial⟩ ⟨⟨w.heap.size, #[], 0, rfl, heap_alloc_new w _, [], ⟨rfl, by simp, by simp⟩, rfl, by simp, fun q x y hx => by simp at hx⟩, fun b hb => ?_⟩
 ·exact ((World.grownBy_alloc w _ none).block b (h.base.pers.lt e) (by simp)).trans (h.base.pers b o e)
 ·show _ = (if p = p then _ else hs p)
  rw [if_pos rfl]
 ·cases hb
  refine ⟨by simp, fun _ => ?_, .inl (Nat.le_refl _)⟩
  cases hgb : g w.heap.size with
  | none => rfl
  | some o => have := h.base.pers.lt hgb; omega
def lookOut (T : Ty α) (z : α) (r : Option α) (ok : Bool) : SC := match ok with
 | true => .tup [T.sv (r.getD z), .one (B r.isSome)]
 | false => .sv (T.sv (r.getD z))
theorem val_lookup {kt e t i : Nat} (K : KeyLaw kt enc) {k : κ} {m x : Operand} {ok : Bool} (z : α) {zv : Value} (ho : o.op = .lookup t m x ok) (ht : Try.prog.underlying t = some (.map kt e)) (hz : ∀ w, (zeroValue e).run Try.prog w = .ok zv w) (hz2 : ∀ g, (T.sv z).ok g hs0 zv)
  {r : Rl (Array MapEntry × Nat)} (hr : MapAs enc T D r) (hm : evX S.F m = some (.sv (.one (.own i)))) (hi : S.M[i]? = some (.map r)) (hx : evKV S.F x = some (enc k)) (hc : ∀ a, (T.sv a).refs = []) : Val c S o (lookOut T z (mget k D) ok) := fun a w g hs h => by
 obtain ⟨b, D0, h1, h2, h3, h4, h5⟩ := map_ownR h hi hr
 have hv : a.eval m = .map (some b) := (evX_ok h hm).1.trans h1
 have hrun := h2.look K ht hz k ok
 have : (execOp a.eval o).run Try.prog w = .ok (.value (lookV ok zv (lookD k D0))) w := by
  have e : execOp a.eval o = (do pure (.value (← Instr.lookup t (a.eval m) (a.eval x) ok)) : Sem Next) := by unfold execOp; rw [ho]
  rw [e, hv, evKV_ok h hx]
  exact run_val hrun
 refine ⟨_, this, ?_⟩
 have up : ∀ {s : SV} {v : Value}, s.refs = [] → s.ok g hs0 v → s.ok g hs v := fun hc h => SV.ok_hs (fun i hi => by rw [hc] at hi; cases hi) h
 rcases pairs_get (k := k) h3 h5 with ⟨e1, e2⟩ | ⟨v, y, e1, e2, e3⟩
 ·rw [e1, e2]
  cases ok with
  | true => exact ⟨[zv, .bool false], rfl, up (hc _) (hz2 g), ⟨rfl, trivial⟩, trivial⟩
  | false => exact up (hc _) (hz2 g)
 ·rw [e1, e2]
  cases ok with
  | true => exact ⟨[v, .bool true], rfl, up (hc _) e3, ⟨rfl, trivial⟩, trivial⟩
  | false => exact up (hc _) e3
end
structure CI where
 it : Item
 born : Option Nat
 kill : Option Nat
 upd : Option (Nat × Item)
structure Cert where
 F0 : List (Nat × SC)
 xs : List SC
 ci : List CI
def Cert.x (C : Cert) (i : Nat) : SC := C.xs.getD i (.tup [])
def lv (L : Nat → Bool) : Option Nat → Bool
 | none => true
 | some b => L b
def lk (L : Nat → Bool) : Option Nat → Bool
 | none => false
 | some b => L b
def CI.cur (L : Nat → Bool) (e : CI) : Item := match e.upd with
 | some (u, it') => match L u with
  | true => it'
  | false => e.it
 | none => e.it
def CI.at (L : Nat → Bool) (e : CI) : Item := match lv L e.born && !(lk L e.kill) with
 | true => e.cur L
 | false => .gone
def Cert.ML (C : Cert) (L : Nat → Bool) : List Item := C.ci.map (CI.at L)
def doneD (ops : List Oper) (L : Nat → Bool) (t : Nat) : Bool := ops.zipIdx.any fun x => match L x.2 with
 | true => (match x.1.dst with
  | some d => Nat.beq d t
  | none => false)
 | false => false
theorem doneD_iff {ops : List Oper} {L : Nat → Bool} {t : Nat} : doneD ops L t = true ↔ ∃ (i : Nat) (o : Oper), ops[i]? = some o ∧ L i = true ∧ o.dst = some t := by
 unfold doneD
 rw [List.any_eq_true]
 constructor
 ·rintro ⟨⟨o, i⟩, h1, h2⟩
  have h3 := List.mem_zipIdx_iff_getElem?.1 h1
  cases hL : L i with
  | false => simp only [hL] at h2; cases h2
  | true =>
   simp only [hL] at h2
   cases hd : o.dst with
   | none => rw [hd] at h2; cases h2
   | some d =>
    rw [hd] at h2
    exact ⟨i, o, h3, hL, by rw [hd, Nat.eq_of_beq_eq_true h2]⟩
 ·rintro ⟨i, o, h1, h2, h3⟩
  refine ⟨(o, i), List.mem_zipIdx_iff_getElem?.2 h1, ?_⟩
  simp [h2, h3]
def Cert.FL (C : Cert) (ops : List Oper) (L : Nat → Bool) : List (Nat × SC) := (ops.zipIdx.filterMap fun x => match L x.2 with
 | true => x.1.dst.map fun d => (d, C.x x.2)
 | false => none) ++ C.F0.filter fun e => !(doneD ops L e.1)
def onE (o : Oper) : List Nat := (o.after.toList.filter (Region.binds .any)).map (·.on)
def dstE (ops : List Oper) (i : Nat) : Option Nat := match ops[i]? with
 | some o => o.dst
 | none => none
def onI (ops : List Oper) (i : Nat) : List Nat := match ops[i]? with
 | some o => onE o
 | none => []
def closE (ops : List Oper) : Nat → List Nat → List Nat
 | 0, s => s
 | i + 1, s => match s.contains i with
  | true => closE ops i (s ++ onI ops i)
  | false => closE ops i s
def refE (C : Cert) (ops : List Oper) (j : Option Nat) (r : Nat) : Bool := match C.ci[r]? with
 | none => true
 | some e => match e.born with
  | none => true
  | some b => match j with
   | none => false
   | some j => Nat.beq b j || ((onI ops j).contains b || (closE ops j (onI ops j)).contains b)
def nodupB : List Nat → Bool
 | [] => true
 | x :: l => !(l.contains x) && nodupB l
def chkE (C : Cert) (ops : List Oper) : Bool :=
 (ops.zipIdx.all fun x => (onE x.1).all fun j => Nat.blt j x.2) &&
 nodupB (ops.filterMap (·.dst)) &&
 (ops.zipIdx.all fun x => match x.1.dst with
  | some _ => (C.x x.2).refs.all (refE C ops (some x.2))
  | none => true) &&
 (C.F0.all fun x => x.2.refs.all (refE C ops none)) &&
 (C.ci.all fun e => e.it.refs.all (refE C ops e.born) && (match e.upd with
  | some (u, it') => it'.refs.all (refE C ops (some u)) && (match e.born with
   | some b => (onI ops u).contains b
   | none => true)
  | none => true) && (match e.kill with
  | some k => (match e.born with
   | some b => (onI ops k).contains b
   | none => true)
  | none => true))
def lateE (ops : List Oper) (i t : Nat) : Bool := ops.zipIdx.all fun x => match x.1.dst with
 | some d => match Nat.beq d t with
  | true => Nat.beq x.2 i || (onI ops x.2).contains i
  | false => true
 | none => true
def needF (C : Cert) (ops : List Oper) (i t : Nat) : Option SC := match (onI ops i).find? (fun j => match dstE ops j with
  | some d => Nat.beq d t
  | none => false) with
 | some j => some (C.x j)
 | none => match lateE ops i t with
  | true => look t C.F0
  | false => none
def needM (C : Cert) (ops : List Oper) (i q : Nat) : Option Item := match C.ci[q]? with
 | none => none
 | some e => match (match e.born with
   | none => true
   | some b => (onI ops i).contains b) && (match e.kill with
   | none => true
   | some k => Nat.beq k i || (onI ops k).contains i) with
  | false => none
  | true => match e.upd with
   | none => some e.it
   | some (u, it') => match (onI ops i).contains u with
    | true => some it'
    | false => match (Nat.beq u i || (onI ops u).contains i) || (closE ops u (onI ops u)).contains i with
     | true => some e.it
     | false => none
def fitsE (C : Cert) (ops : List Oper) (i : Nat) (S : St) : List (Option SC) × List (Option Item) := (S.F.map fun e => needF C ops i e.1, S.M.zipIdx.map fun x => match x.1 with
 | .gone => none
 | _ => needM C ops i x.2)
def fitsX (S : St) : List (Option SC) × List (Option Item) := (S.F.map fun e => some e.2, S.M.map fun x => match x with
 | .gone => none
 | it => some it)
def MU (c : Cfg) (S : St) (o : Oper) (q : Nat) (it' : Item) : Prop :=
 ∀ a w g hs, Ok' c S a w g hs → ∀ N Z : Po, (∀ v w', w.grownBy w' (blk (hs q)) → it'.ok g hs w' (hs q) → N (a.put o.dst v) w') → o.wp Try.prog a w N (OnlyP c Z)
def ME (c : Cfg) (S : St) (o : Oper) (x : SC) (us : List (Nat × Item)) : Prop :=
 ∀ a w g hs, Ok' c S a w g hs → ∀ N Z : Po, (∀ v w' g', Eff hs (us.map (·.1)) w g w' g' → (∀ q ∈ us.map (·.1), ∀ b, Blk (hs q) b → g' b = none) → x.ok g' hs v → (∀ p ∈ us, p.2.ok g' hs w' (hs p.1)) → N (a.put o.dst v) w') → o.wp Try.prog a w N (OnlyP c Z)
def bornE (C : Cert) (i : Nat) : List Nat := (C.ci.zipIdx.filter fun x => match x.1.born with
 | some b => Nat.beq b i
 | none => false).map (·.2)
def killE (C : Cert) (i : Nat) : List Nat := (C.ci.zipIdx.filter fun x => match x.1.kill with
 | some b => Nat.beq b i
 | none => false).map (·.2)
def updE (C : Cert) (i : Nat) : List Nat := (C.ci.zipIdx.filter fun x => match x.1.upd with
 | some (b, _) => Nat.beq b i
 | none => false).map (·.2)
def UpsOk (C : Cert) (i : Nat) (S : St) : List (Nat × Item) → Prop
 | [] => True
 | p :: l => (∃ e, C.ci[p.1]? = some e ∧ e.upd = some (i, p.2) ∧ S.M[p.1]? = some e.it ∧ e.it.fz = false ∧ p.2.fz = false) ∧ UpsOk C i S l
theorem upsOk_mem {C : Cert} {i : Nat} {S : St} : ∀ {us : List (Nat × Item)}, UpsOk C i S us → ∀ p ∈ us, ∃ e, C.ci[p.1]? = some e ∧ e.upd = some (i, p.2) ∧ S.M[p.1]? = some e.it ∧ e.it.fz = false ∧ p.2.fz = false
 | [], _, p, hp => by simp at hp
 | x :: l, h, p, hp => by
  rcases List.mem_cons.1 hp with rfl | hp
  ·exact h.1
  ·exact upsOk_mem h.2 p hp
def setIt : List Item → List (Nat × Item) → List Item
 | M, [] => M
 | M, p :: l => setIt (M.set p.1 p.2) l
theorem setIt_get : ∀ {us : List (Nat × Item)} {M : List Item} {i : Nat} {it : Item}, (setIt M us)[i]? = some it → (∃ p ∈ us, p.1 = i ∧ p.2 = it) ∨ (i ∉ us.map (·.1) ∧ M[i]? = some it)
 | [], M, i, it, h => .inr ⟨by simp, h⟩
 | p :: us, M, i, it, h => by
  rcases setIt_get (us := us) (M := M.set p.1 p.2) h with ⟨q, h1, h2⟩ | ⟨h1, h2⟩
  ·exact .inl ⟨q, List.mem_cons_of_mem _ h1, h2⟩
  ·rw [List.getElem?_set] at h2
   by_cases e : p.1 = i
   ·rw [if_pos e] at h2
    split at h2
    ·simp at h2
     exact .inl ⟨p, List.mem_cons_self, e, h2⟩
    ·cases h2
   ·rw [if_neg e] at h2
    refine .inr ⟨?_, h2⟩
    rw [List.map_cons, List.mem_cons, not_or]
    exact ⟨Ne.symm e, h1⟩
theorem setIt_len : ∀ {us : List (Nat × Item)} {M : List Item}, (setIt M us).length = M.length
 | [], _ => rfl
 | p :: us, M => by
  show (setIt (M.set p.1 p.2) us).length = _
  rw [setIt_len, List.length_set]
theorem setIt_out : ∀ {us : List (Nat × Item)} {M : List Item} {i : Nat}, i ∉ us.map (·.1) → (setIt M us)[i]? = M[i]?
 | [], _, _, _ => rfl
 | p :: us, M, i, h => by
  rw [List.map_cons, List.mem_cons, not_or] at h
  show (setIt (M.set p.1 p.2) us)[i]? = _
  rw [setIt_out h.2, List.getElem?_set, if_neg (Ne.symm h.1)]
def CI.un (u0 : Nat) (e : CI) : CI := match e.upd with
 | some (u, it') => match Nat.beq u u0 with
  | true => { e with upd := none }
  | false => { e with upd := some (u, it') }
 | none => e
def CI.did (u0 : Nat) (e : CI) : CI := match e.upd with
 | some (u, it') => match Nat.beq u u0 with
  | true => { e with it := it', upd := none }
  | false => { e with upd := some (u, it') }
 | none => e
def Cert.un (C : Cert) (u0 : Nat) : Cert := { C with ci := C.ci.map (CI.un u0) }
def Cert.did (C : Cert) (u0 : Nat) : Cert := { C with ci := C.ci.map (CI.did u0) }
theorem CI.un_at {L : Nat → Bool} {u0 : Nat} (h : L u0 = false) (e : CI) : (e.un u0).at L = e.at L := by
 rcases e with ⟨it, born, kill, upd⟩
 unfold CI.un
 cases upd with
 | none => rfl
 | some x =>
  obtain ⟨u, it'⟩ := x
  simp only
  split
  ·rename_i hb
   have := Nat.eq_of_beq_eq_true hb
   subst this
   unfold CI.at CI.cur
   simp only [h]
  ·rfl
theorem CI.did_at {L : Nat → Bool} {u0 : Nat} (h : L u0 = true) (e : CI) : (e.did u0).at L = e.at L := by
 rcases e with ⟨it, born, kill, upd⟩
 unfold CI.did
 cases upd with
 | none => rfl
 | some x =>
  obtain ⟨u, it'⟩ := x
  simp only
  split
  ·rename_i hb
   have := Nat.eq_of_beq_eq_true hb
   subst this
   unfold CI.at CI.cur
   simp only [h]
  ·rfl
theorem Cert.un_ML {C : Cert} {L : Nat → Bool} {u0 : Nat} (h : L u0 = false) : (C.un u0).ML L = C.ML L := by
 unfold Cert.ML Cert.un
 rw [List.map_map]
 exact List.map_congr_left fun e _ => CI.un_at h e
theorem Cert.did_ML {C : Cert} {L : Nat → Bool} {u0 : Nat} (h : L u0 = true) : (C.did u0).ML L = C.ML L := by
 unfold Cert.ML Cert.did
 rw [List.map_map]
 exact List.map_congr_left fun e _ => CI.did_at h e
inductive StepOk (c : Cfg) (C : Cert) (ops : List Oper) (i : Nat) (o : Oper) : Prop
 | mt (S : St) (K : List Nat) (p : Option Nat) (hf : fitsE C ops i S = fitsX S) (hw : wantE ops.toArray S.F o = some true) (hm : MT c S o (C.x i) K (p.bind fun q => (C.ci[q]?).map fun e => (q, e.it)))
   (hk : killE C i = K) (hb : bornE C i = p.toList) (hu : updE C i = []) (huse : usable S K = true)
 | mu (S : St) (q : Nat) (e : CI) (it' : Item) (he : C.ci[q]? = some e) (heu : e.upd = some (i, it')) (hf : fitsE C ops i S = fitsX S) (hw : wantE ops.toArray S.F o = some true) (hm : MU c S o q it') (hk : killE C i = []) (hb : bornE C i = []) (hu : updE C i = [q])
   (hq : S.M[q]? = some e.it) (h1 : e.it.fz = false) (h2 : it'.fz = false) (hd : o.dst = none)
 | me (S : St) (us : List (Nat × Item)) (hf : fitsE C ops i S = fitsX S) (hw : wantE ops.toArray S.F o = some true) (hm : ME c S o (C.x i) us) (hk : killE C i = []) (hb : bornE C i = []) (hu : updE C i = us.map (·.1)) (huq : UpsOk C i S us)
 | two (u0 : Nat) (S S' : St) (hf : fitsE (C.un u0) ops i S = fitsX S) (hf' : fitsE (C.did u0) ops i S' = fitsX S') (hw : wantE ops.toArray S.F o = some true) (hw' : wantE ops.toArray S'.F o = some true) (hm : MT c S o (C.x i) [] none) (hm' : MT c S' o (C.x i) [] none)
   (hk : killE C i = []) (hb : bornE C i = []) (hu : updE C i = [])
 | skip (S : St) (hf : fitsE C ops i S = fitsX S) (hw : wantE ops.toArray S.F o = some false) (hx : C.x i = .tup []) (hk : killE C i = []) (hb : bornE C i = []) (hu : updE C i = [])
def StepsOk (c : Cfg) (C : Cert) (ops : List Oper) : Nat → List Oper → Prop
 | _, [] => True
 | i, o :: l => StepOk c C ops i o ∧ StepsOk c C ops (i + 1) l
theorem stepsOk_get {c : Cfg} {C : Cert} {ops : List Oper} : ∀ {l : List Oper} {k : Nat}, StepsOk c C ops k l → ∀ (i : Nat) (o : Oper), l[i]? = some o → StepOk c C ops (k + i) o
 | [], _, _, i, o, h => by simp at h
 | x :: l, k, hs, 0, o, h => by simp at h; subst h; exact hs.1
 | x :: l, k, hs, i + 1, o, h => by
  have := stepsOk_get hs.2 i o (by simpa using h)
  rwa [show k + 1 + i = k + (i + 1) by omega] at this
theorem FL_mem {C : Cert} {ops : List Oper} {L : Nat → Bool} {t : Nat} {y : SC} : (t, y) ∈ C.FL ops L ↔ (∃ (i : Nat) (o : Oper), ops[i]? = some o ∧ L i = true ∧ o.dst = some t ∧ y = C.x i) ∨ ((t, y) ∈ C.F0 ∧ doneD ops L t = false) := by
 unfold Cert.FL
 rw [List.mem_append, List.mem_filterMap]
 refine or_congr ⟨?_, ?_⟩ (by simp [List.mem_filter])
 ·rintro ⟨⟨o, i⟩, h1, h2⟩
  have h3 := List.mem_zipIdx' h1
  cases hL : L i with
  | false => simp only [hL] at h2; cases h2
  | true =>
   simp only [hL] at h2
   cases hd : o.dst with
   | none => rw [hd] at h2; cases h2
   | some d =>
    rw [hd] at h2
    simp at h2
    refine ⟨i, o, ?_, hL, by rw [hd, h2.1], h2.2.symm⟩
    obtain ⟨h4, h5⟩ := h3
    rw [List.getElem?_eq_getElem h4, ← h5]
 ·rintro ⟨i, o, h1, h2, h3, rfl⟩
  refine ⟨(o, i), ?_, by simp [h2, h3]⟩
  obtain ⟨h4, h5⟩ := List.getElem?_eq_some_iff.1 h1
  rw [List.mem_zipIdx_iff_getElem?]
  exact h1
theorem Ok'.subM {c : Cfg} {S S1 : St} {a : Act} {w : World} {g : Gh} {hs : Nat → Value} (hF : ∀ e ∈ S.F, e ∈ S1.F) (hM : itemsOf S1.M S.M) (h : Ok' c S1 a w g hs) : Ok' c S a w g hs := by
 have hm : ∀ (i : Nat) (it : Item), S.M[i]? = some it → it ≠ .gone → S1.M[i]? = some it := fun i it hi hn => (hM i it hi).resolve_left hn
 refine ⟨h.size, h.defers, h.base, fun t x hx => h.slots t x (hF _ hx), fun i it hi => ?_, fun i j it jt hij hi hj hfi hnj => h.sep i j it jt hij (hm i it hi (fz_gone hfi)) (hm j jt hj hnj) hfi hnj, fun i it hi hni => h.mine i it (hm i it hi hni) hni⟩
 rcases hM i it hi with rfl | h1
 ·trivial
 ·exact h.items i it h1
theorem nodupB_ok : ∀ {l : List Nat}, nodupB l = true → l.Nodup
 | [], _ => List.nodup_nil
 | x :: l, h => by
  simp only [nodupB, Bool.and_eq_true, Bool.not_eq_true', List.contains_iff_mem] at h
  rw [List.nodup_cons]
  refine ⟨fun hx => ?_, nodupB_ok h.2⟩
  have := h.1
  simp [List.contains_iff_mem, hx] at this
structure Chk (C : Cert) (ops : List Oper) : Prop where
 below : ∀ (i : Nat) (o : Oper), ops[i]? = some o → ∀ j ∈ onE o, j < i
 nodup : (ops.filterMap (·.dst)).Nodup
 refsX : ∀ (i : Nat) (o : Oper), ops[i]? = some o → o.dst ≠ none → ∀ r ∈ (C.x i).refs, refE C ops (some i) r = true
 refs0 : ∀ e ∈ C.F0, ∀ r ∈ e.2.refs, refE C ops none r = true
 refsM : ∀ e ∈ C.ci, ∀ r ∈ e.it.refs, refE C ops e.born r = true
 refsU : ∀ e ∈ C.ci, ∀ u it', e.upd = some (u, it') → (∀ r ∈ it'.refs, refE C ops (some u) r = true) ∧ ∀ b, e.born = some b → b ∈ onI ops u
 killB : ∀ e ∈ C.ci, ∀ k b, e.kill = some k → e.born = some b → b ∈ onI ops k
theorem chk_of {C : Cert} {ops : List Oper} (h : chkE C ops = true) : Chk C ops := by
 simp only [chkE, Bool.and_eq_true] at h
 obtain ⟨⟨⟨⟨h1, h2⟩, h3⟩, h4⟩, h5⟩ := h
 have hz : ∀ {i : Nat} {o : Oper}, ops[i]? = some o → (o, i) ∈ ops.zipIdx := fun {i o} hi => List.mem_zipIdx_iff_getElem?.2 hi
 refine ⟨fun i o hi j hj => ?_, nodupB_ok h2, fun i o hi hd r hr => ?_, fun e he r hr => ?_, fun e he r hr => ?_, fun e he u it' hu => ?_, fun e he k b hk hb => ?_⟩
 ·have := List.all_eq_true.1 (List.all_eq_true.1 h1 _ (hz hi)) j hj
  exact Nat.le_of_ble_eq_true this
 ·have := List.all_eq_true.1 h3 _ (hz hi)
  cases hdd : o.dst with
  | none => exact absurd hdd hd
  | some d => simp only [hdd] at this; exact List.all_eq_true.1 this r hr
 ·exact List.all_eq_true.1 (List.all_eq_true.1 h4 e he) r hr
 ·have := List.all_eq_true.1 h5 e he
  simp only [Bool.and_eq_true] at this
  exact List.all_eq_true.1 this.1.1 r hr
 ·have := List.all_eq_true.1 h5 e he
  simp only [Bool.and_eq_true, hu] at this
  refine ⟨fun r hr => List.all_eq_true.1 this.1.2.1 r hr, fun b hb => ?_⟩
  have h6 := this.1.2.2
  rw [hb] at h6
  simpa [List.contains_iff_mem] using h6
 ·have := List.all_eq_true.1 h5 e he
  simp only [Bool.and_eq_true, hk, hb] at this
  simpa [List.contains_iff_mem] using this.2
def Closed' (ops : List Oper) (L : Nat → Bool) : Prop := ∀ i, L i = true → i < ops.length ∧ ∀ j ∈ onI ops i, L j = true
def addL (L : Nat → Bool) (i : Nat) : Nat → Bool := fun j => if j = i then true else L j
section
variable {c : Cfg} {C : Cert} {ops : List Oper} {L : Nat → Bool}
theorem onI_eq {i : Nat} {o : Oper} (h : ops[i]? = some o) : onI ops i = onE o := by unfold onI; rw [h]
theorem ML_get {q : Nat} {it : Item} (h : (C.ML L)[q]? = some it) (hn : it ≠ .gone) : ∃ e, C.ci[q]? = some e ∧ lv L e.born = true ∧ lk L e.kill = false ∧ it = e.cur L := by
 unfold Cert.ML at h
 rw [List.getElem?_map] at h
 cases he : C.ci[q]? with
 | none => rw [he] at h; cases h
 | some e =>
  rw [he] at h
  simp only [Option.map_some, Option.some.injEq] at h
  unfold CI.at at h
  split at h
  ·rename_i hb
   simp only [Bool.and_eq_true, Bool.not_eq_true'] at hb
   exact ⟨e, rfl, hb.1, hb.2, h.symm⟩
  ·exact absurd h.symm hn
theorem ML_mk {q : Nat} {e : CI} (he : C.ci[q]? = some e) (h1 : lv L e.born = true) (h2 : lk L e.kill = false) : (C.ML L)[q]? = some (e.cur L) := by
 unfold Cert.ML
 rw [List.getElem?_map, he]
 simp [CI.at, h1, h2]
theorem clos_in (hc : Closed' ops L) : ∀ {n : Nat} {s : List Nat}, (∀ x ∈ s, L x = true) → ∀ x ∈ closE ops n s, L x = true
 | 0, s, h, x, hx => h x hx
 | i + 1, s, h, x, hx => by
  unfold closE at hx
  split at hx
  ·rename_i hi
   refine clos_in hc (fun y hy => ?_) x hx
   rcases List.mem_append.1 hy with hy | hy
   ·exact h y hy
   ·exact (hc i (h i (by simpa [List.contains_iff_mem] using hi))).2 y hy
  ·exact clos_in hc h x hx
theorem ref_of (hc : Closed' ops L) {j : Option Nat} (hj : ∀ k, j = some k → L k = true) {r : Nat} (h : refE C ops j r = true) {e : CI} (he : C.ci[r]? = some e) {b : Nat} (hb : e.born = some b) : L b = true := by
 unfold refE at h
 rw [he] at h
 simp only [hb] at h
 cases j with
 | none => cases h
 | some j =>
  simp only [Bool.or_eq_true] at h
  rcases h with h | h
  ·rw [Nat.eq_of_beq_eq_true h]; exact hj j rfl
  ·rcases h with h | h
   ·exact (hc j (hj j rfl)).2 b (by simpa [List.contains_iff_mem] using h)
   ·exact clos_in hc (hc j (hj j rfl)).2 b (by simpa [List.contains_iff_mem] using h)
theorem fits_sub (hc : Closed' ops L) {i : Nat} {o : Oper} (hi : ops[i]? = some o) (hL : L i = false) (hon : ∀ j ∈ onE o, L j = true) {S : St} (hf : fitsE C ops i S = fitsX S) : (∀ e ∈ S.F, e ∈ C.FL ops L) ∧ itemsOf (C.ML L) S.M := by
 have hF := congrArg Prod.fst hf
 have hM := congrArg Prod.snd hf
 simp only [fitsE, fitsX] at hF hM
 have hoi := onI_eq hi
 constructor
 ·intro e he
  obtain ⟨q, hq⟩ := List.getElem?_of_mem he
  have h1 := congrArg (·[q]?) hF
  simp [hq] at h1
  obtain ⟨t, y⟩ := e
  rw [FL_mem]
  unfold needF at h1
  split at h1
  ·rename_i j hj
   have h2 := List.find?_some hj
   have h3 := List.mem_of_find?_eq_some hj
   cases h1
   unfold dstE at h2
   cases ho : ops[j]? with
   | none => rw [ho] at h2; cases h2
   | some oj =>
    rw [ho] at h2
    simp only at h2
    cases hd : oj.dst with
    | none => rw [hd] at h2; cases h2
    | some d =>
     rw [hd] at h2
     have := Nat.eq_of_beq_eq_true h2
     subst this
     exact .inl ⟨j, oj, ho, hon j (by rwa [hoi] at h3), hd, rfl⟩
  ·split at h1
   case h_2 => cases h1
   rename_i hlate
   refine .inr ⟨look_mem h1, ?_⟩
   cases hdd : doneD ops L t with
   | false => rfl
   | true =>
    exfalso
    obtain ⟨k, ok, hk1, hk2, hk3⟩ := doneD_iff.1 hdd
    have h5 := List.all_eq_true.1 hlate (ok, k) (List.mem_zipIdx_iff_getElem?.2 hk1)
    simp only [hk3, Nat.beq_refl] at h5
    simp only [Bool.or_eq_true] at h5
    rcases h5 with h5 | h5
    ·rw [Nat.eq_of_beq_eq_true h5, hL] at hk2
     cases hk2
    ·have := (hc k hk2).2 i (by simpa [List.contains_iff_mem] using h5)
     rw [hL] at this
     cases this
 ·intro q it hq
  by_cases hn : it = .gone
  ·exact .inl hn
  ·right
   have h1 := congrArg (·[q]?) hM
   simp only [List.getElem?_map, List.getElem?_zipIdx, hq, Option.map_some] at h1
   have h1' : needM C ops i (0 + q) = some it := by
    cases it <;> first | exact absurd rfl hn | (simpa using h1)
   rw [Nat.zero_add] at h1'
   unfold needM at h1'
   cases he : C.ci[q]? with
   | none => rw [he] at h1'; cases h1'
   | some e =>
    rw [he] at h1'
    simp only at h1'
    split at h1'
    case h_1 => cases h1'
    rename_i hcond
    simp only [Bool.and_eq_true] at hcond
    obtain ⟨c1, c2⟩ := hcond
    have hlv : lv L e.born = true := by
     cases hb : e.born with
     | none => rfl
     | some b =>
      rw [hb] at c1
      exact hon b (by rw [← hoi]; simpa [List.contains_iff_mem] using c1)
    have late : ∀ k, (Nat.beq k i || (onI ops k).contains i) = true → L k = false := fun k hk => by
     simp only [Bool.or_eq_true] at hk
     rcases hk with hk | hk
     ·rw [Nat.eq_of_beq_eq_true hk]; exact hL
     ·cases hLk : L k with
      | false => rfl
      | true =>
       have := (hc k hLk).2 i (by simpa [List.contains_iff_mem] using hk)
       rw [hL] at this
       cases this
    have hlk : lk L e.kill = false := by
     cases hkk : e.kill with
     | none => rfl
     | some k => rw [hkk] at c2; exact late k c2
    rw [ML_mk he hlv hlk]
    congr 1
    unfold CI.cur
    cases hu : e.upd with
    | none => rw [hu] at h1'; simpa using h1'
    | some x =>
     obtain ⟨u, it'⟩ := x
     rw [hu] at h1'
     simp only at h1' ⊢
     cases hcu : (onI ops i).contains u with
     | true =>
      rw [hcu] at h1'
      have hLu := hon u (by rw [← hoi]; simpa [List.contains_iff_mem] using hcu)
      rw [hLu]
      simpa using h1'
     | false =>
      rw [hcu] at h1'
      simp only at h1'
      split at h1'
      ·rename_i hlate
       have hLu : L u = false := by
        rcases Bool.or_eq_true _ _ ▸ hlate with hl | hl
        ·exact late u hl
        ·cases hLk : L u with
         | false => rfl
         | true =>
          have := clos_in hc (hc u hLk).2 i (List.contains_iff_mem.1 hl)
          rw [hL] at this
          cases this
       rw [hLu]
       simpa using h1'
      ·cases h1'
theorem FL_add (hk : Chk C ops) {i : Nat} {o : Oper} (hi : ops[i]? = some o) {F : List (Nat × SC)} (hF : ∀ e, e ∈ F ↔ e ∈ C.FL ops L) (M : List Item) : ∀ e ∈ C.FL ops (addL L i), e ∈ (St.put o.dst (C.x i) ⟨F, M⟩).F := by
 rintro ⟨t, y⟩ he
 rw [FL_mem] at he
 have n1 := hk.nodup
 rcases he with ⟨j, oj, hj, hLj, hd, rfl⟩ | he
 ·by_cases e : j = i
  ·subst e
   rw [hi] at hj
   cases hj
   rw [hd]
   simp [St.put]
  ·have hLj' : L j = true := by simpa [addL, e] using hLj
   have hm : (t, C.x j) ∈ C.FL ops L := FL_mem.2 (.inl ⟨j, oj, hj, hLj', hd, rfl⟩)
   cases hdo : o.dst with
   | none => simpa [St.put] using (hF _).2 hm
   | some d =>
    have hne : t ≠ d := fun e2 => by
     subst e2
     refine e ?_
     have key : ∀ (l : List Oper) (i j : Nat) (a b : Oper), (l.filterMap (·.dst)).Nodup → l[i]? = some a → l[j]? = some b → a.dst = some t → b.dst = some t → i = j := by
      intro l
      induction l with
      | nil => intro i j a b _ h; simp at h
      | cons x l ih =>
       intro i j a b hn h1 h2 h3 h4
       cases i with
       | zero =>
        cases j with
        | zero => rfl
        | succ j =>
         simp at h1 h2
         subst h1
         rw [List.filterMap_cons, h3] at hn
         simp only [List.nodup_cons] at hn
         exact absurd (List.mem_filterMap.2 ⟨b, List.mem_of_getElem? h2, h4⟩) hn.1
       | succ i =>
        cases j with
        | zero =>
         simp at h1 h2
         subst h2
         rw [List.filterMap_cons, h4] at hn
         simp only [List.nodup_cons] at hn
         exact absurd (List.mem_filterMap.2 ⟨a, List.mem_of_getElem? h1, h3⟩) hn.1
        | succ j =>
         simp at h1 h2
         have hn' : (l.filterMap (·.dst)).Nodup := by
          rw [List.filterMap_cons] at hn
          cases hx : x.dst with
          | none => simpa [hx] using hn
          | some _ => rw [hx] at hn; exact (List.nodup_cons.1 hn).2
         rw [ih i j a b hn' h1 h2 h3 h4]
     exact key ops j i oj o n1 hj hi hd hdo
    simp only [St.put, List.mem_cons, List.mem_filter]
    refine .inr ⟨(hF _).2 hm, ?_⟩
    cases hb : Nat.beq t d with
    | false => rfl
    | true => exact absurd (Nat.eq_of_beq_eq_true hb) hne
 ·obtain ⟨he, hnd⟩ := he
  have hnot : ∀ (k : Nat) (ok : Oper), ops[k]? = some ok → addL L i k = true → ok.dst ≠ some t := fun k ok h1 h2 h3 => by
   have := doneD_iff.2 ⟨k, ok, h1, h2, h3⟩
   rw [hnd] at this
   cases this
  have hm : (t, y) ∈ C.FL ops L := FL_mem.2 (.inr ⟨he, by
   cases hdd : doneD ops L t with
   | false => rfl
   | true =>
    exfalso
    obtain ⟨k, ok, h1, h2, h3⟩ := doneD_iff.1 hdd
    refine hnot k ok h1 ?_ h3
    unfold addL
    split
    ·rfl
    ·exact h2⟩)
  cases hdo : o.dst with
  | none => simpa [St.put] using (hF _).2 hm
  | some d =>
   have hne : t ≠ d := fun e2 => by
    subst e2
    exact hnot i o hi (by simp [addL]) hdo
   simp only [St.put, List.mem_cons, List.mem_filter]
   refine .inr ⟨(hF _).2 hm, ?_⟩
   cases hb : Nat.beq t d with
   | false => rfl
   | true => exact absurd (Nat.eq_of_beq_eq_true hb) hne
theorem goneM_keep : ∀ {K : List Nat} {M : List Item} {i : Nat}, i ∉ K → (goneM M K)[i]? = M[i]?
 | [], _, _, _ => rfl
 | k :: K, M, i, h => by
  simp only [List.mem_cons, not_or] at h
  show (goneM (M.set k .gone) K)[i]? = _
  rw [goneM_keep h.2, List.getElem?_set, if_neg (Ne.symm h.1)]
theorem setM_new {M : List Item} {p : Nat} {it : Item} : (setM M p it)[p]? = some it := by
 unfold setM
 split
 ·rename_i h; simp [h]
 ·rename_i h
  have hl : (M ++ List.replicate (p - M.length) Item.gone).length = p := by simp; omega
  rw [List.getElem?_append_right (by omega), hl]
  simp
theorem setM_keep {M : List Item} {p : Nat} {it jt : Item} {i : Nat} (h : i ≠ p) (hi : M[i]? = some jt) : (setM M p it)[i]? = some jt := by
 unfold setM
 have hlt := (List.getElem?_eq_some_iff.1 hi).1
 split
 ·rw [List.getElem?_set, if_neg (Ne.symm h)]; exact hi
 ·rw [List.append_assoc, List.getElem?_append_left hlt]; exact hi
theorem born_iff {i q : Nat} : q ∈ bornE C i ↔ ∃ e, C.ci[q]? = some e ∧ e.born = some i := by
 unfold bornE
 rw [List.mem_map]
 constructor
 ·rintro ⟨⟨e, q'⟩, h, rfl⟩
  rw [List.mem_filter, List.mem_zipIdx_iff_getElem?] at h
  obtain ⟨h1, h2⟩ := h
  simp only at h1 h2
  cases hb : e.born with
  | none => rw [hb] at h2; cases h2
  | some b => rw [hb] at h2; exact ⟨e, h1, by rw [Nat.eq_of_beq_eq_true h2] at hb; exact hb⟩
 ·rintro ⟨e, h1, h2⟩
  exact ⟨(e, q), List.mem_filter.2 ⟨List.mem_zipIdx_iff_getElem?.2 h1, by simp [h2]⟩, rfl⟩
theorem kill_iff {i q : Nat} : q ∈ killE C i ↔ ∃ e, C.ci[q]? = some e ∧ e.kill = some i := by
 unfold killE
 rw [List.mem_map]
 constructor
 ·rintro ⟨⟨e, q'⟩, h, rfl⟩
  rw [List.mem_filter, List.mem_zipIdx_iff_getElem?] at h
  obtain ⟨h1, h2⟩ := h
  simp only at h1 h2
  cases hb : e.kill with
  | none => rw [hb] at h2; cases h2
  | some b => rw [hb] at h2; exact ⟨e, h1, by rw [Nat.eq_of_beq_eq_true h2] at hb; exact hb⟩
 ·rintro ⟨e, h1, h2⟩
  exact ⟨(e, q), List.mem_filter.2 ⟨List.mem_zipIdx_iff_getElem?.2 h1, by simp [h2]⟩, rfl⟩
theorem upd_iff {i q : Nat} : q ∈ updE C i ↔ ∃ e it', C.ci[q]? = some e ∧ e.upd = some (i, it') := by
 unfold updE
 rw [List.mem_map]
 constructor
 ·rintro ⟨⟨e, q'⟩, h, rfl⟩
  rw [List.mem_filter, List.mem_zipIdx_iff_getElem?] at h
  obtain ⟨h1, h2⟩ := h
  simp only at h1 h2
  cases hb : e.upd with
  | none => rw [hb] at h2; cases h2
  | some b => obtain ⟨b, it'⟩ := b; rw [hb] at h2; exact ⟨e, it', h1, by rw [Nat.eq_of_beq_eq_true h2] at hb; exact hb⟩
 ·rintro ⟨e, it', h1, h2⟩
  exact ⟨(e, q), List.mem_filter.2 ⟨List.mem_zipIdx_iff_getElem?.2 h1, by simp [h2]⟩, rfl⟩
theorem ML_add {i q : Nat} {it : Item} (h : (C.ML (addL L i))[q]? = some it) (hn : it ≠ .gone) (hu : q ∉ updE C i) : q ∉ killE C i ∧ ((∃ e, C.ci[q]? = some e ∧ e.born = some i ∧ it = e.cur (addL L i)) ∨ (q ∉ bornE C i ∧ (C.ML L)[q]? = some it)) := by
 obtain ⟨e, he, h1, h2, h3⟩ := ML_get h hn
 have hki : q ∉ killE C i := fun hk => by
  obtain ⟨e', he', hk'⟩ := kill_iff.1 hk
  rw [he] at he'
  cases he'
  rw [hk'] at h2
  simp [lk, addL] at h2
 refine ⟨hki, ?_⟩
 have hlk : lk L e.kill = false := by
  cases hk : e.kill with
  | none => rfl
  | some k =>
   have hne : k ≠ i := fun e2 => hki (kill_iff.2 ⟨e, he, by rw [hk, e2]⟩)
   rw [hk] at h2
   simpa [lk, addL, hne] using h2
 by_cases hb : e.born = some i
 ·exact .inl ⟨e, he, hb, h3⟩
 ·right
  refine ⟨fun hq => ?_, ?_⟩
  ·obtain ⟨e', he', hb'⟩ := born_iff.1 hq
   rw [he] at he'
   cases he'
   exact hb hb'
  ·have hlv : lv L e.born = true := by
    cases hbb : e.born with
    | none => rfl
    | some b =>
     have hne : b ≠ i := fun e2 => hb (by rw [hbb, e2])
     rw [hbb] at h1
     simpa [lv, addL, hne] using h1
   rw [ML_mk he hlv hlk, h3]
   congr 1
   unfold CI.cur
   cases hup : e.upd with
   | none => rfl
   | some x =>
    obtain ⟨u, it'⟩ := x
    have hne : u ≠ i := fun e2 => hu (upd_iff.2 ⟨e, it', he, by rw [hup, e2]⟩)
    simp [addL, hne]
theorem refsAll_of {S : St} {p : Nat → Bool} (h1 : ∀ e ∈ S.F, ∀ r ∈ e.2.refs, p r = true) (h2 : ∀ it ∈ S.M, ∀ r ∈ it.refs, p r = true) : S.refsAll p = true := by
 simp only [St.refsAll, Bool.and_eq_true, List.all_eq_true]
 exact ⟨fun e he r hr => h1 e he r hr, fun it hi r hr => h2 it hi r hr⟩
theorem L_refs (hk : Chk C ops) (hc : Closed' ops L) {q i : Nat} {e : CI} (he : C.ci[q]? = some e) (hb : e.born = some i) (hL : L i = false) : (⟨C.FL ops L, C.ML L⟩ : St).refsAll (fun r => !(Nat.beq r q)) = true := by
 have key : ∀ (j : Option Nat) (r : Nat), (∀ k, j = some k → L k = true) → refE C ops j r = true → (!(Nat.beq r q)) = true := fun j r hj hr => by
  cases hrq : Nat.beq r q with
  | false => rfl
  | true =>
   have := Nat.eq_of_beq_eq_true hrq
   subst this
   have := ref_of hc hj hr he hb
   rw [hL] at this
   cases this
 refine refsAll_of ?_ ?_
 ·rintro ⟨t, y⟩ hm r hr
  rcases FL_mem.1 hm with ⟨j, o, hj, hLj, hd, rfl⟩ | hm
  ·exact key (some j) r (fun k e => by cases e; exact hLj) (hk.refsX j o hj (by rw [hd]; simp) r hr)
  ·exact key none r (fun k e => by cases e) (hk.refs0 _ hm.1 r hr)
 ·intro it hit r hr
  obtain ⟨q', hq'⟩ := List.getElem?_of_mem hit
  by_cases hn : it = .gone
  ·subst hn; simp [Item.refs] at hr
  ·obtain ⟨e', he', h1, h2, h3⟩ := ML_get hq' hn
   subst h3
   have hmem := List.mem_of_getElem? he'
   have hborn : ∀ k, e'.born = some k → L k = true := fun k hk' => by rw [hk'] at h1; exact h1
   unfold CI.cur at hr
   split at hr
   ·rename_i u it' hu
    split at hr
    ·rename_i hLu
     exact key (some u) r (fun k e => by cases e; exact hLu) ((hk.refsU e' hmem u it' hu).1 r hr)
    ·exact key e'.born r hborn (hk.refsM e' hmem r hr)
   ·exact key e'.born r hborn (hk.refsM e' hmem r hr)
theorem goneM_keepU : ∀ {K : List Nat} {M : List Item} {i : Nat}, i ∉ K → (goneM M K)[i]? = M[i]?
 | [], _, _, _ => rfl
 | k :: K, M, i, h => by
  simp only [List.mem_cons, not_or] at h
  show (goneM (M.set k .gone) K)[i]? = _
  rw [goneM_keepU h.2, List.getElem?_set, if_neg (Ne.symm h.1)]
theorem Ok'.updS {S : St} {a : Act} {w w' : World} {g g' : Gh} {hs : Nat → Value} (h : Ok' c S a w g hs) {us : List (Nat × Item)} (hu : ∀ p ∈ us, ∃ it, S.M[p.1]? = some it ∧ it.fz = false) (hf : ∀ p ∈ us, p.2.fz = false) (he : Eff hs (us.map (·.1)) w g w' g') (hun : ∀ q ∈ us.map (·.1), ∀ b, Blk (hs q) b → g' b = none) (ho : ∀ p ∈ us, p.2.ok g' hs w' (hs p.1)) : Ok' c ⟨S.F, setIt S.M us⟩ a w' g' hs := by
 have hus : usable S (us.map (·.1)) = true := by
  unfold usable
  rw [List.all_eq_true]
  intro k hk
  obtain ⟨p, hp, rfl⟩ := List.mem_map.1 hk
  obtain ⟨it, h1, h2⟩ := hu p hp
  simp only [h1, h2, Bool.not_false]
 have h1 := h.eff (h' := undef) (p := none) he trivial rfl hus
 have hold : ∀ (i : Nat) (it : Item), (setIt S.M us)[i]? = some it → it ≠ .gone → ∃ x, S.M[i]? = some x ∧ x ≠ .gone ∧ (it.fz = false → x.fz = false) := fun i it hi hn => by
  rcases setIt_get hi with ⟨p, hp, rfl, rfl⟩ | ⟨_, h2⟩
  ·obtain ⟨x, h3, h4⟩ := hu p hp
   exact ⟨x, h3, fz_gone h4, fun _ => h4⟩
  ·exact ⟨it, h2, hn, fun h => h⟩
 refine ⟨h1.size, h1.defers, h1.base, h1.slots, fun i it hi => ?_, fun i j it jt hij hi hj hfi hnj => ?_, fun i it hi hn b hb => ?_⟩
 ·rcases setIt_get hi with ⟨p, hp, rfl, rfl⟩ | ⟨h2, h3⟩
  ·exact ho p hp
  ·exact h1.items i it (by show (goneM S.M _)[i]? = _; rw [goneM_keepU h2]; exact h3)
 ·obtain ⟨x, x1, _, x2⟩ := hold i it hi (fz_gone hfi)
  obtain ⟨y, y1, y2, _⟩ := hold j jt hj hnj
  exact h.sep i j x y hij x1 y1 (x2 hfi) y2
 ·rcases setIt_get hi with ⟨p, hp, rfl, rfl⟩ | ⟨h2, h3⟩
  ·obtain ⟨x, x1, x2⟩ := hu p hp
   obtain ⟨m1, m2⟩ := h.mine p.1 x x1 (fz_gone x2) b hb
   exact ⟨Nat.lt_of_lt_of_le m1 he.size, fun _ => ⟨(m2 x2).1, hun p.1 (List.mem_map.2 ⟨p, hp, rfl⟩) b hb⟩⟩
  ·exact h1.mine i it (by show (goneM S.M _)[i]? = _; rw [goneM_keepU h2]; exact h3) hn b hb
theorem itemsOf_usable {M : List Item} {S : St} {F : List (Nat × SC)} (h : itemsOf M S.M) {K : List Nat} (hu : usable S K = true) : usable ⟨F, M⟩ K = true := by
 unfold usable at hu ⊢
 rw [List.all_eq_true] at hu ⊢
 intro k hk
 have := hu k hk
 cases hm : S.M[k]? with
 | none => rw [hm] at this; cases this
 | some it =>
  rw [hm] at this
  rcases h k it hm with rfl | h1
  ·cases this
  ·simp only
   rw [h1]
   exact this
variable {n : Nat}
theorem step_mt (hk : Chk C ops) (hc : Closed' ops L) (hn : c.n = n) (hd : (ops.all fun o => match o.dst with | some d => Nat.blt d n | none => true) = true) {i : Nat} {o : Oper} (hi : ops[i]? = some o) (hL : L i = false) (hon : ∀ j ∈ onE o, L j = true) 
  {a : Act} {w : World} {g : Gh} {hs' : Nat → Value} (h : Ok' c ⟨C.FL ops L, C.ML L⟩ a w g hs') {S : St} {K : List Nat} {p : Option Nat} (hS : Ok' c S a w g hs') (f2 : itemsOf (C.ML L) S.M) (hw : wantE ops.toArray S.F o = some true)
  (hm : MT c S o (C.x i) K (p.bind fun q => (C.ci[q]?).map fun e => (q, e.it))) (hkk : killE C i = K) (hbb : bornE C i = p.toList) (huu : updE C i = []) (huse : usable S K = true) {N Z : Po} (hN : ∀ a' w', Ok c ⟨C.FL ops (addL L i), C.ML (addL L i)⟩ a' w' → N a' w') :
  if Region.wanted o (yielded ops.toArray a.tmps) = true then o.wp Try.prog a w N (OnlyP c Z) else N (a.put o.dst undef) w := by
 have hdst : ∀ d, o.dst = some d → d < c.n := fun d e => by
  have := List.all_eq_true.1 hd o (List.mem_of_getElem? hi)
  rw [e] at this
  rw [hn]
  exact Nat.le_of_ble_eq_true this
 rw [if_pos (wantE_ok hS hw)]
 have hP : ∀ q, p = some q → ∃ e, C.ci[q]? = some e ∧ e.born = some i := fun q e => born_iff.1 (by rw [hbb, e]; simp)
 refine hm a w g hs' hS N Z fun v w' g' h' h1 h3 h4 => hN _ _ ⟨g', newH hs' (p.bind fun q => (C.ci[q]?).map fun e => (q, e.it)) h', ?_⟩
 have hr : refsNe ⟨C.FL ops L, C.ML L⟩ (p.bind fun q => (C.ci[q]?).map fun e => (q, e.it)) = true := by
  cases p with
  | none => rfl
  | some q =>
   obtain ⟨e, he, hb⟩ := hP q rfl
   simp only [Option.bind_some, he, Option.map_some]
   exact L_refs hk hc he hb hL
 have he := h.eff h1 h4 hr (itemsOf_usable (F := C.FL ops L) f2 huse)
 have hput := he.put (dst := o.dst) (x := C.x i) (v := v) hdst (fun _ _ => h3)
 refine Ok'.subM ?_ ?_ hput
 ·exact FL_add hk hi (F := C.FL ops L) (fun _ => Iff.rfl) _
 ·intro q it hq
  by_cases hg : it = .gone
  ·exact .inl hg
  right
  obtain ⟨k1, k2⟩ := ML_add hq hg (by rw [huu]; simp)
  rw [hkk] at k1
  have hMe : (St.put o.dst (C.x i) ⟨C.FL ops L, newM (C.ML L) K (p.bind fun q => (C.ci[q]?).map fun e => (q, e.it))⟩).M = newM (C.ML L) K (p.bind fun q => (C.ci[q]?).map fun e => (q, e.it)) := by
   cases o.dst <;> rfl
  rw [hMe]
  rcases k2 with ⟨e, he', hb, hit⟩ | ⟨hnb, hML⟩
  ·have hqb : q ∈ bornE C i := born_iff.2 ⟨e, he', hb⟩
   rw [hbb] at hqb
   cases p with
   | none => simp at hqb
   | some q' =>
    simp at hqb
    subst hqb
    simp only [Option.bind_some, he', Option.map_some, newM]
    rw [setM_new, hit]
    congr 1
    unfold CI.cur
    cases hup : e.upd with
    | none => rfl
    | some x =>
     obtain ⟨u, it'⟩ := x
     have hui : u ≠ i := fun e2 => by
      have : q ∈ updE C i := upd_iff.2 ⟨e, it', he', by rw [hup, e2]⟩
      rw [huu] at this
      simp at this
     have hLu : L u = false := by
      cases hLu : L u with
      | false => rfl
      | true =>
       have := (hc u hLu).2 i ((hk.refsU e (List.mem_of_getElem? he') u it' hup).2 i hb)
       rw [hL] at this
       cases this
     simp [addL, hui, hLu]
  ·cases p with
   | none =>
    show (goneM (C.ML L) K)[q]? = some it
    rw [goneM_keep k1]
    exact hML
   | some q' =>
    obtain ⟨e, he', hb⟩ := hP q' rfl
    simp only [Option.bind_some, he', Option.map_some, newM]
    have hne : q ≠ q' := fun e2 => hnb (by rw [hbb, e2]; simp)
    exact setM_keep hne (by rw [goneM_keep k1]; exact hML)
theorem step_ok (hk : Chk C ops) (hc : Closed' ops L) (hn : c.n = n) (hd : (ops.all fun o => match o.dst with | some d => Nat.blt d n | none => true) = true) {i : Nat} {o : Oper} (hi : ops[i]? = some o) (hL : L i = false) (hon : ∀ j ∈ onE o, L j = true) (hs : StepOk c C ops i o)
  {a : Act} {w : World} (h : Ok c ⟨C.FL ops L, C.ML L⟩ a w) {N Z : Po} (hN : ∀ a' w', Ok c ⟨C.FL ops (addL L i), C.ML (addL L i)⟩ a' w' → N a' w') :
  if Region.wanted o (yielded ops.toArray a.tmps) = true then o.wp Try.prog a w N (OnlyP c Z) else N (a.put o.dst undef) w := by
 obtain ⟨g, hs', h⟩ := h
 have hdst : ∀ d, o.dst = some d → d < c.n := fun d e => by
  have := List.all_eq_true.1 hd o (List.mem_of_getElem? hi)
  rw [e] at this
  rw [hn]
  exact Nat.le_of_ble_eq_true this
 cases hs with
 | mt S K p hf hw hm hkk hbb huu huse =>
  obtain ⟨f1, f2⟩ := fits_sub hc hi hL hon hf
  exact step_mt hk hc hn hd hi hL hon h (Ok'.subM f1 f2 h) f2 hw hm hkk hbb huu huse hN
 | two u0 S S' hf hf' hw hw' hm hm' hkk hbb huu =>
  cases hu0 : L u0 with
  | false =>
   obtain ⟨f1, f2⟩ := fits_sub (C := C.un u0) hc hi hL hon hf
   rw [Cert.un_ML hu0] at f2
   exact step_mt (K := []) (p := none) hk hc hn hd hi hL hon h (Ok'.subM (S1 := ⟨C.FL ops L, C.ML L⟩) f1 f2 h) f2 hw hm hkk hbb huu rfl hN
  | true =>
   obtain ⟨f1, f2⟩ := fits_sub (C := C.did u0) hc hi hL hon hf'
   rw [Cert.did_ML hu0] at f2
   exact step_mt (K := []) (p := none) hk hc hn hd hi hL hon h (Ok'.subM (S1 := ⟨C.FL ops L, C.ML L⟩) f1 f2 h) f2 hw' hm' hkk hbb huu rfl hN
 | mu S q e it' he heu hf hw hm hkk hbb huu hq h1 h2 hd0 =>
  obtain ⟨f1, f2⟩ := fits_sub hc hi hL hon hf
  have hS : Ok' c S a w g hs' := Ok'.subM f1 f2 h
  rw [if_pos (wantE_ok hS hw)]
  have hML : (C.ML L)[q]? = some e.it := (f2 q _ hq).resolve_left (fz_gone h1)
  refine hm a w g hs' hS N Z fun v w' hg' hit => hN _ _ ⟨g, hs', ?_⟩
  have hup := h.upd (i := q) (it := e.it) (it' := it') hML h1 h2 hg' hit
  have hput := hup.put (dst := o.dst) (x := C.x i) (v := v) hdst (fun d e => by rw [hd0] at e; cases e)
  refine Ok'.subM ?_ ?_ hput
  ·exact FL_add hk hi (F := C.FL ops L) (fun _ => Iff.rfl) _
  ·intro q' it hq'
   by_cases hg : it = .gone
   ·exact .inl hg
   right
   have hMe : (St.put o.dst (C.x i) ⟨C.FL ops L, (C.ML L).set q it'⟩).M = (C.ML L).set q it' := by
    cases o.dst <;> rfl
   rw [hMe, List.getElem?_set]
   by_cases e2 : q = q'
   ·subst e2
    rw [if_pos rfl, if_pos (List.getElem?_eq_some_iff.1 hML).1]
    obtain ⟨e', he', _, _, h7⟩ := ML_get hq' hg
    rw [he] at he'
    cases he'
    rw [h7]
    unfold CI.cur
    rw [heu]
    simp [addL]
   ·rw [if_neg e2]
    obtain ⟨k1, k2⟩ := ML_add hq' hg (by rw [huu]; simp; exact Ne.symm e2)
    rcases k2 with ⟨e3, he3, hb3, _⟩ | ⟨_, h8⟩
    ·have := born_iff.2 ⟨e3, he3, hb3⟩
     rw [hbb] at this
     simp at this
    ·exact h8
 | me S us hf hw hm hkk hbb huu huq =>
  obtain ⟨f1, f2⟩ := fits_sub hc hi hL hon hf
  have hS : Ok' c S a w g hs' := Ok'.subM f1 f2 h
  rw [if_pos (wantE_ok hS hw)]
  have hq := upsOk_mem huq
  have hML : ∀ p ∈ us, ∃ it, (C.ML L)[p.1]? = some it ∧ it.fz = false := fun p hp => by
   obtain ⟨e, _, _, e3, e4, _⟩ := hq p hp
   exact ⟨e.it, (f2 p.1 _ e3).resolve_left (fz_gone e4), e4⟩
  refine hm a w g hs' hS N Z fun v w' g' h1 h2 h3 h4 => hN _ _ ⟨g', hs', ?_⟩
  have hup := h.updS hML (fun p hp => by obtain ⟨e, _, _, _, _, e5⟩ := hq p hp; exact e5) h1 h2 h4
  have hput := hup.put (dst := o.dst) (x := C.x i) (v := v) hdst (fun _ _ => h3)
  refine Ok'.subM ?_ ?_ hput
  ·exact FL_add hk hi (F := C.FL ops L) (fun _ => Iff.rfl) _
  ·intro q' it hq'
   by_cases hg : it = .gone
   ·exact .inl hg
   right
   have hMe : (St.put o.dst (C.x i) ⟨C.FL ops L, setIt (C.ML L) us⟩).M = setIt (C.ML L) us := by
    cases o.dst <;> rfl
   rw [hMe]
   by_cases e2 : q' ∈ us.map (·.1)
   ·obtain ⟨e', he', _, _, h7⟩ := ML_get hq' hg
    have hlt : q' < (setIt (C.ML L) us).length := by
     rw [setIt_len]
     obtain ⟨p, hp, rfl⟩ := List.mem_map.1 e2
     obtain ⟨_, h8, _⟩ := hML p hp
     exact (List.getElem?_eq_some_iff.1 h8).1
    rw [List.getElem?_eq_getElem hlt]
    rcases setIt_get (List.getElem?_eq_getElem hlt) with ⟨p, hp, rfl, hit⟩ | ⟨h9, _⟩
    ·obtain ⟨e, e1, e3, _⟩ := hq p hp
     rw [he'] at e1
     cases e1
     rw [← hit, h7]
     unfold CI.cur
     rw [e3]
     simp [addL]
    ·exact absurd e2 h9
   ·rw [setIt_out e2]
    obtain ⟨k1, k2⟩ := ML_add hq' hg (by rw [huu]; exact e2)
    rcases k2 with ⟨e3, he3, hb3, _⟩ | ⟨_, h8⟩
    ·have := born_iff.2 ⟨e3, he3, hb3⟩
     rw [hbb] at this
     simp at this
    ·exact h8
 | skip S hf hw hx hkk hbb huu =>
  obtain ⟨f1, f2⟩ := fits_sub hc hi hL hon hf
  have hS : Ok' c S a w g hs' := Ok'.subM f1 f2 h
  rw [if_neg (by rw [wantE_ok hS hw]; exact Bool.false_ne_true)]
  refine hN _ _ ⟨g, hs', ?_⟩
  have hput := h.put (dst := o.dst) (x := C.x i) (v := undef) hdst (fun _ _ => by rw [hx]; exact undef_ok)
  refine Ok'.subM ?_ ?_ hput
  ·exact FL_add hk hi (F := C.FL ops L) (fun _ => Iff.rfl) _
  ·intro q it hq
   by_cases hg : it = .gone
   ·exact .inl hg
   right
   have hMe : (St.put o.dst (C.x i) ⟨C.FL ops L, C.ML L⟩).M = C.ML L := by cases o.dst <;> rfl
   rw [hMe]
   obtain ⟨k1, k2⟩ := ML_add hq hg (by rw [huu]; simp)
   rcases k2 with ⟨e3, he3, hb3, _⟩ | ⟨_, h8⟩
   ·have := born_iff.2 ⟨e3, he3, hb3⟩
    rw [hbb] at this
    simp at this
   ·exact h8
end
def LB (listed : Array Bool) : Nat → Bool := fun i => listed.getD i false
theorem ready_mem {ops : List Oper} {listed : Array Bool} (hs : listed.size = ops.length) {i : Nat} (h : i ∈ Region.ready .any ops.toArray listed) : ∃ o, ops[i]? = some o ∧ LB listed i = false ∧ ∀ j ∈ onE o, LB listed j = true := by
 unfold Region.ready at h
 rw [List.mem_filter, List.mem_range] at h
 obtain ⟨h1, h2⟩ := h
 simp only [Bool.and_eq_true, Bool.not_eq_true'] at h2
 obtain ⟨h3, h4⟩ := h2
 have hlt : i < ops.length := by simpa using h1
 have ho : ops.toArray[i]? = some ops[i] := by simp [hlt]
 rw [ho] at h4
 refine ⟨ops[i], by simp, ?_, fun j hj => ?_⟩
 ·unfold LB
  rw [Array.getD_eq_getD_getElem?] at h3 ⊢
  have : listed[i]? = some listed[i] := by simp [hs, hlt]
  rw [this] at h3 ⊢
  exact h3
 ·simp only [Option.map_some, Option.getD_some] at h4
  unfold onE at hj
  obtain ⟨e, he, rfl⟩ := List.mem_map.1 hj
  obtain ⟨he1, he2⟩ := List.mem_filter.1 he
  have := (Array.all_eq_true_iff_forall_mem.1 h4) e (by simpa using he1)
  rw [he2] at this
  simpa [LB] using this
theorem ready_nil {ops : List Oper} {listed : Array Bool} (hs : listed.size = ops.length) (hb : ∀ (i : Nat) (o : Oper), ops[i]? = some o → ∀ j ∈ onE o, j < i) (h : Region.ready .any ops.toArray listed = []) : ∀ i, i < ops.length → LB listed i = true := by
 intro i
 induction i using Nat.strongRecOn with
 | _ i ih =>
  intro hi
  cases hL : LB listed i with
  | true => rfl
  | false =>
   exfalso
   have hmem : i ∈ Region.ready .any ops.toArray listed := by
    unfold Region.ready
    rw [List.mem_filter, List.mem_range]
    refine ⟨by simpa using hi, ?_⟩
    have ho : ops.toArray[i]? = some ops[i] := by simp [hi]
    simp only [ho, Option.map_some, Option.getD_some, Bool.and_eq_true, Bool.not_eq_true']
    constructor
    ·unfold LB at hL
     rw [Array.getD_eq_getD_getElem?] at hL ⊢
     have : listed[i]? = some listed[i] := by simp [hs, hi]
     rw [this] at hL ⊢
     exact hL
    ·rw [Array.all_eq_true_iff_forall_mem]
     intro e he
     cases hbind : Region.binds .any e with
     | false => rfl
     | true =>
      have hj : e.on ∈ onE ops[i] := List.mem_map.2 ⟨e, List.mem_filter.2 ⟨by simpa using he, hbind⟩, rfl⟩
      have hlt := hb i ops[i] (by simp [hi]) e.on hj
      have := ih e.on hlt (by omega)
      simpa [LB] using this
   rw [h] at hmem
   cases hmem
theorem LB_set {listed : Array Bool} {i : Nat} (hi : i < listed.size) : LB (listed.setIfInBounds i true) = addL (LB listed) i := by
 funext j
 unfold LB addL
 simp only [Array.getD_eq_getD_getElem?, Array.getElem?_setIfInBounds]
 by_cases e : i = j
 ·subst e; simp [hi]
 ·rw [if_neg e, if_neg (Ne.symm e)]
theorem count_set (l : List Bool) (i : Nat) (h : l[i]? = some false) : ((l.set i true).filter id).length = (l.filter id).length + 1 := by
 induction l generalizing i with
 | nil => simp at h
 | cons x l ih =>
  cases i with
  | zero => simp at h; subst h; simp
  | succ i =>
   have := ih i (by simpa using h)
   cases x <;> simp [this]
theorem count_all (l : List Bool) (h : (l.filter id).length = l.length) : ∀ b ∈ l, b = true := fun b hb => by
 have := List.length_filter_eq_length_iff.1 h b hb
 simpa using this
section
variable {c : Cfg} {C : Cert} {l : List Oper} {n : Nat} {N : Po}
theorem any_ok (hk : Chk C l) (hn : c.n = n) (hd : (l.all fun o => match o.dst with | some d => Nat.blt d n | none => true) = true) (hs : StepsOk c C l 0 l) (hN : ∀ a w, Ok c ⟨C.FL l (fun i => Nat.blt i l.length), C.ML (fun i => Nat.blt i l.length)⟩ a w → N a w) :
  ∀ (fuel : Nat) (listed : Array Bool) (a : Act) (w : World), listed.size = l.length → Closed' l (LB listed) → (listed.toList.filter id).length + fuel = l.length → Ok c ⟨C.FL l (LB listed), C.ML (LB listed)⟩ a w → wpAny Try.prog .any l.toArray (OnlyP c N) fuel listed a w := by
 have full : ∀ listed : Array Bool, listed.size = l.length → (∀ i, i < l.length → LB listed i = true) → LB listed = fun i => Nat.blt i l.length := fun listed hsz h => by
  funext i
  by_cases hi : i < l.length
  ·rw [h i hi]
   exact (Nat.ble_eq_true_of_le hi).symm
  ·have : LB listed i = false := by
    unfold LB
    rw [Array.getD_eq_getD_getElem?]
    have : listed[i]? = none := by simp; omega
    rw [this]
    rfl
   rw [this]
   cases hb : Nat.blt i l.length with
   | false => rfl
   | true => exact absurd (Nat.le_of_ble_eq_true hb) hi
 intro fuel
 induction fuel with
 | zero =>
  intro listed a w hsz hcl hcnt hok
  have hall : ∀ i, i < l.length → LB listed i = true := fun i hi => by
   have hlen : listed.toList.length = l.length := by simpa using hsz
   have := count_all listed.toList (by omega) (listed[i]'(by omega)) (by simp)
   unfold LB
   rw [Array.getD_eq_getD_getElem?]
   simp [hsz, hi, this]
  refine ⟨?_, hN a w (by rw [← full listed hsz hall]; exact hok)⟩
  cases hr : Region.ready .any l.toArray listed with
  | nil => rfl
  | cons i r =>
   obtain ⟨o, ho, hL, _⟩ := ready_mem hsz (i := i) (by rw [hr]; simp)
   rw [hall i (List.getElem?_eq_some_iff.1 ho).1] at hL
   cases hL
 | succ fuel ih =>
  intro listed a w hsz hcl hcnt hok
  refine ⟨fun hr => hN a w (by rw [← full listed hsz (ready_nil hsz hk.below hr)]; exact hok), fun i hi => ?_⟩
  obtain ⟨o, ho, hL, hon⟩ := ready_mem hsz hi
  have hlt := (List.getElem?_eq_some_iff.1 ho).1
  have hst := stepsOk_get hs i o ho
  rw [Nat.zero_add] at hst
  have hset := LB_set (listed := listed) (i := i) (by omega)
  have hnext : ∀ a' w', Ok c ⟨C.FL l (addL (LB listed) i), C.ML (addL (LB listed) i)⟩ a' w' → wpAny Try.prog .any l.toArray (OnlyP c N) fuel (listed.setIfInBounds i true) a' w' := fun a' w' h' => by
   refine ih _ a' w' (by simpa using hsz) ?_ ?_ (by rw [hset]; exact h')
   ·rw [hset]
    intro j hj
    unfold addL at hj ⊢
    by_cases e : j = i
    ·subst e
     refine ⟨hlt, fun k hk' => ?_⟩
     rw [onI_eq ho] at hk'
     split
     ·rfl
     ·exact hon k hk'
    ·rw [if_neg e] at hj
     obtain ⟨h1, h2⟩ := hcl j hj
     refine ⟨h1, fun k hk' => ?_⟩
     split
     ·rfl
     ·exact h2 k hk'
   ·rw [Array.toList_setIfInBounds, count_set]
    ·omega
    ·unfold LB at hL
     rw [Array.getD_eq_getD_getElem?] at hL
     have : listed[i]? = some listed[i] := by simp [hsz, hlt]
     rw [this] at hL
     simp at hL
     rw [Array.getElem?_toList, this, hL]
  have := step_ok (Z := N) hk hcl hn hd ho hL hon hst hok hnext
  unfold wpOp
  have ho' : l.toArray[i]? = some o := by simpa using ho
  rw [ho']
  simp only
  split
  ·rename_i hw
   rw [if_pos hw] at this
   exact .inl this
  ·rename_i hw
   rw [if_neg hw] at this
   exact this
theorem En.regionA {S : St} {id : Nat} {E : List (Nat × Po)} {R : Po} (C : Cert) (fin : St) (hm : Try.prog.follows .mixedOrders = true) (hn : c.n = n) (hk : chkE C l = true) (hd : (l.all fun o => match o.dst with | some d => Nat.blt d n | none => true) = true)
  (h0 : subE ⟨C.FL l (fun _ => false), C.ML (fun _ => false)⟩ S = subX ⟨C.FL l (fun _ => false), C.ML (fun _ => false)⟩) (hs : StepsOk c C l 0 l)
  (h1 : subE fin ⟨C.FL l (fun i => Nat.blt i l.length), C.ML (fun i => Nat.blt i l.length)⟩ = subX fin) (h2 : En c fin N) : En c S (cwp (.region id l.toArray true) (PQ c N E R)) := fun a w ⟨g, hs', hok⟩ => by
 have hok1 : Ok' c S a w.drew g hs' := hok.grown (grown_drew w)
 have hL : LB (Array.replicate l.length false) = fun _ => false := by
  funext i
  unfold LB
  rw [Array.getD_eq_getD_getElem?, Array.getElem?_replicate]
  split <;> rfl
 refine Code.wp_mono (fun e a w q => ?_) (wp_region_any (Q := OnlyP c N) hm (any_ok (chk_of hk) hn hd hs (fun a w h => h2 a w (sub_ok h1 a w h)) l.toArray.size _ a w.drew (by simp) ?_ ?_ ?_))
 ·cases e <;> first | exact q | exact (q : False).elim
 ·intro i hi
  simp only [List.size_toArray] at hi
  rw [hL] at hi
  cases hi
 ·simp only [List.size_toArray, Array.toList_replicate]
  rw [List.filter_replicate_of_neg (by simp)]
  simp
 ·simp only [List.size_toArray]
  rw [hL]
  exact sub_ok h0 a w.drew ⟨g, hs', hok1⟩
end
section
variable {c : Cfg} {S : St} {tab : Tab} {o : Oper}
theorem mt_val {x : SC} (h : Val c S o x) : MT c S o x [] none := fun a w g hs hk N Z hN => by
 obtain ⟨v, h1, h2⟩ := h a w g hs hk
 unfold Oper.wp
 rw [h1]
 exact hN v w g undef (Eff.refl hk.base) h2 trivial
theorem mt_ev {x : SC} (ht : tab.ok) (e : evV tab S o = some x) : MT c S o x [] none := mt_val fun a w g hs hk => evV_ok ht hk e
theorem mt_newbox {p t : Nat} {cells : List At} {x : SC} (hr : ((cells.flatMap At.refs).all fun i => !(Nat.beq i p)) = true)
  (H : ∀ a w g hs, Ok' c S a w g hs → ∃ cs v, oks g hs cells cs ∧ (execOp a.eval o).run Try.prog w = .ok (.value v) (w.alloc (.cells cs.toArray t)) ∧ ∀ hs' : Nat → Value, hs' p = .pointer (some ⟨w.heap.size, 0, none⟩) → x.ok g hs' v) : MT c S o x [] (some (p, .box cells t false)) := fun a w g hs h N Z hN => by
 obtain ⟨cs, v, h1, h2, h3⟩ := H a w g hs h
 unfold Oper.wp
 rw [h2]
 refine hN v _ g (.pointer (some ⟨w.heap.size, 0, none⟩)) ⟨rfl, rfl, rfl, by simp, fun b hb _ => (World.grownBy_alloc w _ none).block b hb (by simp), Gh.le.refl g, fun b o e => .inl e, fun b o e => ?_⟩ (h3 _ (if_pos rfl)) ⟨⟨w.heap.size, cs, rfl, oks_hs (fun i hi => ?_) h1, heap_alloc_new w _, fun h => by cases h⟩, fun b hb => ?_⟩
 ·exact ((World.grownBy_alloc w _ none).block b (h.base.pers.lt e) (by simp)).trans (h.base.pers b o e)
 ·have := List.all_eq_true.1 hr i hi
  have hne : i ≠ p := fun e => by subst e; simp at this
  rw [if_neg hne]
 ·cases hb
  refine ⟨by simp, fun _ => ?_, .inl (Nat.le_refl _)⟩
  cases hgb : g w.heap.size with
  | none => rfl
  | some o => have := h.base.pers.lt hgb; omega
theorem mt_alloc (p : Nat) {t : Nat} {ti : TI} (ht : tab.ok) (ho : o.op = .alloc t) (h1 : tab t = some ti) : MT c S o (.sv (.one (.ptr p 0))) [] (some (p, .box (ti.zero.map .v) t false)) := by
 have htk := ht t ti h1
 refine mt_newbox ?_ fun a w g hs h => ?_
 ·rw [List.all_eq_true]
  intro i hi
  obtain ⟨x, hx, hi⟩ := List.mem_flatMap.1 hi
  obtain ⟨v, _, rfl⟩ := List.mem_map.1 hx
  cases hi
 ·obtain ⟨z, hz1, hz2⟩ := htk.run_zero
  have hzc : z.cells = ti.zero.toArray := by simp [← hz1]
  refine ⟨ti.zero, .pointer (some ⟨w.heap.size, 0, none⟩), oks_v htk.zc, ?_, fun hs' e => ptr_new e⟩
  have : execOp a.eval o = (do pure (.value (← Instr.alloc t true (.tuple #[]))) : Sem Next) := by unfold execOp; rw [ho]
  rw [this]
  refine run_valW ?_
  simp only [Instr.alloc, Sem.run_bind, hz2, Result.andThen_ok, newVar, newRow, newObj, Sem.run, Sem.run_pure, hzc]
  rfl
def bslE (te : TI) (len : Nat) (F : List (Nat × SC)) (parts : List (Nat × Operand)) : Option (List At) := match Nat.ble (len * te.size) 16777216 && Nat.blt 0 (len * te.size) with
 | true => match evP F parts with
  | some ps => fillE ((List.range len).map fun i => (i * te.size, te.size, te.agg)) ((List.range (len * te.size)).map fun j => .v (te.zero.getD (j % te.size) undef)) ps
  | none => none
 | false => none
theorem mt_bsl (p : Nat) {t len el : Nat} {parts : Array (Nat × Operand)} {ti te : TI} {r : List At} (ht : tab.ok) (ho : o.op = .buildSlice t len parts) (h1 : tab t = some ti) (h2 : ti.sl = some el) (h3 : tab el = some te) (e : bslE te len S.F parts.toList = some r) (hr : ((r.flatMap At.refs).all fun i => !(Nat.beq i p)) = true) : MT c S o (.sv (.one (.bsl p len))) [] (some (p, .box r el false)) := by
 refine mt_newbox hr fun a w g hs h => ?_
 unfold bslE at e
 split at e
 case h_2 => cases e
 rename_i hb
 obtain ⟨b1, b2⟩ := (Bool.and_eq_true _ _).mp hb
 replace b1 := Nat.le_of_ble_eq_true b1
 replace b2 := Nat.le_of_ble_eq_true b2
 split at e
 case h_2 => cases e
 rename_i ps hps
 have hu := slT_some ((ht t ti h1).sl.trans h2)
 have htk := ht el te h3
 obtain ⟨z, hz1, hz2⟩ := htk.run_zero
 have hzc : z.cells = te.zero.toArray := by simp [← hz1]
 have hp := evP_ok h hps
 have hs0 : 0 < te.size := by
  rcases Nat.eq_zero_or_pos te.size with h0 | h0
  ·rw [h0] at b2; omega
  ·exact h0
 have hz0 : oks g hs ((List.range (len * te.size)).map fun j => .v (te.zero.getD (j % te.size) undef)) ((List.range (len * te.size)).map fun j => te.zero.getD (j % te.size) undef) := by
  have := oks_v (g := g) (hs := hs) (l := (List.range (len * te.size)).map fun j => te.zero.getD (j % te.size) undef) (by
   rw [List.all_eq_true]
   intro x hx
   obtain ⟨j, hj, rfl⟩ := List.mem_map.1 hx
   have hlt : j % te.size < te.zero.length := by rw [htk.zs]; exact Nat.mod_lt _ hs0
   have := List.all_eq_true.1 htk.zc (te.zero[j % te.size]) (by simp)
   simpa [List.getD, hlt] using this)
  rw [List.map_map] at this
  exact this
 obtain ⟨us', k1, k2⟩ := fill_ok (place := fun i => some (i * te.size, te.size)) (fun i off sz ag hi => by
  rw [List.getElem?_map] at hi
  cases h3 : (List.range len)[i]? with
  | none => rw [h3] at hi; cases hi
  | some j =>
   have hj : j = i := by
    have := (List.getElem?_eq_some_iff.1 h3).2
    simpa using this.symm
   subst hj
   rw [h3] at hi
   simp at hi
   obtain ⟨e1, e2, _⟩ := hi
   subst e1 e2
   rfl) hp hz0 e
 refine ⟨us', .slice (some ⟨w.heap.size, 0, none⟩) len len, k2, ?_, fun hs' e => ⟨⟨w.heap.size, e, rfl⟩, trivial⟩⟩
 have : execOp a.eval o = (do pure (.value (← Instr.buildSlice t len (parts.map fun (i, x) => (i, a.eval x)))) : Sem Next) := by unfold execOp; rw [ho]
 rw [this]
 refine run_valW ?_
 have hpl : (Array.map (fun (x : Nat × Operand) => (x.1, a.eval x.2)) parts).toList = parts.toList.map fun x => (x.1, a.eval x.2) := by simp
 have hza : (Array.range (len * te.size)).map (fun j => te.zero.toArray[j % te.zero.toArray.size]!) = ((List.range (len * te.size)).map fun j => te.zero.getD (j % te.size) undef).toArray := by
  apply Array.toList_inj.1
  simp only [Array.toList_map, Array.toList_range]
  refine List.map_congr_left fun j _ => ?_
  have hlt : j % te.size < te.zero.length := by rw [htk.zs]; exact Nat.mod_lt _ hs0
  have hlt2 : j % te.zero.length < te.zero.length := by rw [htk.zs] at hlt ⊢; exact hlt
  simp only [List.size_toArray, htk.zs]
  simp [List.getD, hlt]
 simp only [Instr.buildSlice, Sem.run_bind, run_underlying hu, Result.andThen_ok, htk.run_size]
 rw [if_neg (by omega)]
 rw [if_neg (show ¬ len * te.size = 0 by omega)]
 simp only [Sem.run_bind, Sem.run_pure, Result.andThen_ok, hz2, hzc, hza, hpl, k1, newRow, newObj, Sem.run]
 rfl
theorem mu_store {t i off ty : Nat} {ti : TI} {x y : Operand} {s : SV} {cells : List At} (ht : tab.ok) (ho : o.op = .store t x y) (h1 : tab t = some ti) (hx : evX S.F x = some (.sv (.one (.ptr i off)))) (hm : S.M[i]? = some (.box cells ty false)) (hy : evX S.F y = some (.sv s)) (hj : s ≠ .one .junk)
  (hb : (Nat.beq (svCells s).length ti.size && Nat.ble (off + (svCells s).length) cells.length) = true) : MU c S o i (.box (cells.take off ++ svCells s ++ cells.drop (off + (svCells s).length)) ty false) := fun a w g hs h N Z hN => by
 obtain ⟨b1, b2⟩ := (Bool.and_eq_true _ _).mp hb
 replace b1 := Nat.eq_of_beq_eq_true b1
 replace b2 := Nat.le_of_ble_eq_true b2
 have hv := evX_ok h hy
 have hc := sv_cells hj hv
 have htk := ht t ti h1
 obtain ⟨⟨b, hb1, hv1⟩, _⟩ := evX_ok h hx
 obtain ⟨b', cs, k1, k2, k3, k4⟩ := h.items i _ hm
 rw [hb1] at k1
 simp at k1
 subst k1
 have l1 := oks_length hc
 have l2 := oks_length k2
 have hst := run_storeCells_at (P := Try.prog) b off ty (a.eval y).cells.toList 0 cs.toArray w k3 (by simp at l1 ⊢; omega) (fun v hv => (oks_cells hc v hv).one)
 simp only [Nat.add_zero] at hst
 unfold Oper.wp
 have hrun : (execOp a.eval o).run Try.prog w = .ok .skip (w.setRow b (cs.take off ++ (a.eval y).cells.toList ++ cs.drop (off + (a.eval y).cells.toList.length)).toArray) := by
  have : execOp a.eval o = (do Instr.storeAt t (a.eval x) (a.eval y); pure .skip : Sem Next) := by unfold execOp; rw [ho]
  rw [this]
  simp only [Instr.storeAt, hv1, Instr.sureAddr, storeVar, Sem.run_bind, Sem.run_pure, Result.andThen_ok, htk.run_size]
  rw [if_neg (by simp at l1; simp; omega)]
  simp only [hst, Result.andThen_ok, Sem.run_pure]
 rw [hrun]
 refine hN undef _ ?_ ?_
 ·rw [hb1]
  exact ⟨rfl, rfl, rfl, by simp, fun k hk hne => setRow_other w b k _ (fun e => hne (by rw [e]; rfl))⟩
 ·refine ⟨b, _, hb1, ?_, setRow_heap w b _ _ _ _ k3, fun h => by cases h⟩
  have e1 : (a.eval y).cells.toList.length = (svCells s).length := l1.symm
  rw [e1]
  exact oks_append (oks_append (oks_take off k2) hc) (oks_drop _ k2)
theorem mt_castB {b b' : Bool} (e : b = b') (h : MT c S o (.sv (.one (.v (.bool b)))) [] none) : MT c S o (.sv (.one (.v (.bool b')))) [] none := e ▸ h
theorem nil_LS {α : Type} {T : Ty α} (g : Gh) (hs : Nat → Value) (u : Value) (h : SC.ok g hs (.sv (.one (.v (.slice none 0 0)))) u) : SC.ok g hs (.sv (.one (LS T ([] : List α)))) u := by
 have : u = .slice none 0 0 := h.1
 subst this
 exact ls_nil
theorem mt_seal {α : Type} {T : Ty α} {l : List α} {K : List Nat} {q e : Nat} (h : MT c S o (.sv (.one (.own q))) K (some (q, rowI e T l))) : MT c S o (.sv (.one (LS T l))) K none := fun a w g hs hk N Z hN => by
 classical
 refine h a w g hs hk N Z fun v w' g' h' h1 h2 h3 => ?_
 obtain ⟨⟨cs, r1, r2⟩, hb⟩ := h3
 have hv : v = h' := by
  have := h2.1
  have e : v = (if q = q then h' else hs q) := this
  rwa [if_pos rfl] at e
 subst hv
 have hbk : ∀ b, Blk v b ↔ v.ownBlock = some b := fun b => Blk_slice (ownsRow_slice r1)
 let g2 : Gh := fun x => if v.ownBlock = some x then w'.heap[x]? else g' x
 have hle : Gh.le g' g2 := fun x o e => by
  show (if v.ownBlock = some x then _ else g' x) = some o
  by_cases hx : v.ownBlock = some x
  ·have := (hb x (by rw [hbk]; exact hx)).2.1 rfl
   rw [this] at e
   cases e
  ·rw [if_neg hx]; exact e
 refine hN v w' g2 undef ⟨h1.os, h1.tape, h1.output, h1.size, h1.block, h1.ghle.trans hle, fun b o e => ?_, fun b o e => ?_⟩ (row_LS r1 r2 hle (fun b hb => if_pos hb)) trivial
 ·by_cases hx : v.ownBlock = some b
  ·exact .inr ((hb b (by rw [hbk]; exact hx)).2.2)
  ·rw [show g2 b = g' b from if_neg hx] at e
   exact h1.ghnew b o e
 ·by_cases hx : v.ownBlock = some b
  ·rw [show g2 b = w'.heap[b]? from if_pos hx] at e
   exact e
  ·rw [show g2 b = g' b from if_neg hx] at e
   exact h1.pers b o e
def CtI (f : Nat) (ins : List SC) (M : List Item) (it : Item) : Prop := ∀ (w : World) (g : Gh) (hs : Nat → Value) (args : List Value), Pers g w → okArgs g hs ins args → (∀ (i : Nat) (it : Item), M[i]? = some it → fzOk g hs (hs i) it) →
 Calls Try.prog f args.toArray w (fun en w' => ∃ v g', en = .returned v ∧ Base (cfg0 0 w g) w' g' ∧ cellV v ∧ it.ok g' hs0 w' v ∧ ∀ b, Blk v b → b < w'.heap.size ∧ w.heap.size ≤ b ∧ g' b = none)
theorem mt_callI {it : Item} (p : Nat) {f : Nat} {ins : List SC} {M : List Item} (ct : CtI f ins M it) (en : ∀ args w, (callFunc f args).run Try.prog w = .ok (.enter f args) w) {caps : List Nat} (rn : List Nat) {fo : Operand} {args : Array Operand} {ats : Array TypeId} (hir : it.refs = [])
  (ho : o.op = .call ⟨.value fo, args, ats⟩) (hf : evX S.F fo = some (.sv (.one (.fn f caps)))) (ha : (match evXs S.F args.toList with | some l => some (l ++ caps.map fun i => .sv (.one (.ptr i 0))) | none => none) = some (ins.map (SC.ren fun i => rn.getD i 0)))
  (hM : fzE S.M (fun i => rn.getD i 0) 0 M = M.map fun it => some (it.ren fun i => rn.getD i 0)) (hz : M.all fzB = true) (hcb : caps.all (boxB S) = true) : MT c S o (.sv (.one (.own p))) [] (some (p, it)) := fun a w g hs h N Z hN => by
 unfold Oper.wp
 have hfv : a.eval fo = .func (.func f) #[] (caps.map hs).toArray := (evX_ok h hf).1
 split at ha
 case h_2 => cases ha
 rename_i l' hl
 simp only [Option.some.injEq] at ha
 have h1 := evXs_ok h hl
 have hcp : ∀ i ∈ caps, ∃ b, hs i = .pointer (some ⟨b, 0, none⟩) := fun i hi => by
  have := List.all_eq_true.1 hcb i hi
  unfold boxB at this
  cases hm : S.M[i]? with
  | none => rw [hm] at this; cases this
  | some it =>
   rw [hm] at this
   cases it <;> try (cases this; done)
   obtain ⟨b, cs, h1, _⟩ := h.items i _ hm
   exact ⟨b, h1⟩
 have h2 : okArgs g hs (caps.map fun i => SC.sv (.one (.ptr i 0))) (caps.map hs) := by
  clear ha hf hfv hcb
  induction caps with
  | nil => trivial
  | cons i caps ih =>
   refine ⟨?_, ih (fun j hj => hcp j (List.mem_cons_of_mem _ hj))⟩
   obtain ⟨b, hb⟩ := hcp i (by simp)
   exact ⟨⟨b, hb, hb⟩, by rw [hb]; trivial⟩
 have h3 := okArgs_append h1 h2
 rw [ha] at h3
 have h4 := okArgs_ren h3
 have hrun : (execOp a.eval o).run Try.prog w = .ok (.enter f ((args.toList.map a.eval) ++ caps.map hs).toArray) w := by
  unfold execOp
  simp only [ho, resolve, hfv, Deferred.ofValue, Sem.run_bind, Sem.run_pure, Result.andThen_ok, invoke]
  rw [show (#[] ++ Array.map a.eval args ++ (List.map hs caps).toArray : Array Value) = (args.toList.map a.eval ++ caps.map hs).toArray by simp]
  exact en _ _
 rw [hrun]
 refine (ct w g (fun i => hs (rn.getD i 0)) _ h.base.pers h4 (fun i it hi => ?_)).mono ?_
 ·have h5 := fzE_ok hM i it hi
  rw [Nat.zero_add] at h5
  exact fz_of (f := fun i => rn.getD i 0) (i := i) h5 (List.all_eq_true.1 hz it (List.mem_of_getElem? hi)) h
 ·rintro e' w' ⟨v, g', rfl, h5, hcv, h6, h8⟩
  refine hN v w' g' v (Eff.of_base h5) ⟨?_, ?_⟩ ⟨Item.ok_hs (fun j hj => by rw [hir] at hj; cases hj) h6, fun b hb => ?_⟩
  ·show v = (if p = p then v else hs p)
   rw [if_pos rfl]
  ·exact hcv
  ·exact ⟨(h8 b hb).1, fun _ => (h8 b hb).2.2, .inl (h8 b hb).2.1⟩
variable {rest : List Oper} {ops : Array Oper} {N : Po} {n : Nat}
theorem WL.eqNil {α : Type} {T : Ty α} {l : List α} {m t e d : Nat} {yt : Nat} {x : Operand} {ti : TI} (op : BinOp) (neg : Bool) (hop : (op = .eql ∧ neg = false) ∨ (op = .neq ∧ neg = true)) (ht : tab.ok) (hn : c.n = n) (hw : wantE ops S.F o = some true) (ho : o.op = .binOp op t x (.const (.slice none 0 0)) yt) (h1 : tab t = some ti) (h2 : ti.sl = some e)
  (hx : evX S.F x = some (.sv (.one (.sl (slR T l) m)))) (hdst : o.dst = some d) (hd : Nat.blt d n = true) (h : ∀ b : Bool, (b = true → l = []) → WL c ops rest (S.put (some d) (.sv (.one (.v (.bool (b != neg)))))) N) : WL c ops (o :: rest) S N := fun a w ⟨g, hs, hk⟩ => by
 unfold wpList
 rw [if_pos (wantE_ok hk hw)]
 refine .inl ?_
 unfold Oper.wp
 have hu := slT_some ((ht t ti h1).sl.trans h2)
 obtain ⟨⟨⟨ao, n', cap, e1, e2, e3, e4, e5, _⟩, _⟩, _⟩ := evX_ok hk hx
 have hd' : d < c.n := by rw [hn]; exact Nat.le_of_ble_eq_true hd
 have hrun : (execOp a.eval o).run Try.prog w = .ok (.value (.bool (ao.isNone != neg))) w := by
  obtain ⟨X, hX⟩ : ∃ X : Sem Value, X = (do eqGuard op t x (.const (.slice none 0 0)) (a.eval x) (.slice none 0 0); binOp op t (a.eval x) (.slice none 0 0)) := ⟨_, rfl⟩
  have e : execOp a.eval o = (do pure (.value (← X)) : Sem Next) := by rw [hX]; unfold execOp; rw [ho]; rfl
  rw [e]
  refine run_val ?_
  rw [hX, e1]
  have heq : (Op.equal t (.slice ao n' cap) (.slice none 0 0)).run Try.prog w = .ok ao.isNone w := by
   show (Op.equalIn (9999 + 1) _ _ _).run _ _ = _
   rw [Op.equalIn]
   simp only [Sem.run_bind, run_underlying hu, Result.andThen_ok]
   cases ao <;> simp
  rcases hop with ⟨rfl, rfl⟩ | ⟨rfl, rfl⟩
  ·have hg : (eqGuard .eql t x (.const (.slice none 0 0)) (.slice ao n' cap) (.slice none 0 0)).run Try.prog w = .ok () w := by simp [eqGuard]
   rw [Sem.run_bind, hg, Result.andThen_ok]
   simp only [binOp, Sem.run_bind, heq, Result.andThen_ok]
   cases ao <;> simp
  ·have hg : (eqGuard .neq t x (.const (.slice none 0 0)) (.slice ao n' cap) (.slice none 0 0)).run Try.prog w = .ok () w := by simp [eqGuard]
   rw [Sem.run_bind, hg, Result.andThen_ok]
   simp only [binOp, Sem.run_bind, heq, Result.andThen_ok]
   cases ao <;> simp
 rw [hrun]
 have := h ao.isNone (fun hb => by
  have : ao = none := by cases ao <;> simp at hb ⊢
  have := e5 this
  exact List.eq_nil_of_length_eq_zero (by omega))
 refine this _ _ ⟨g, hs, ?_⟩
 rw [hdst]
 exact hk.put (fun d2 e => by cases e; exact hd') (fun _ _ => ⟨rfl, trivial⟩)
def CtJ {β : Type} (f : Nat) (ins : List SC) (M : List Item) (post : β → Prop) (itf : β → Item) : Prop := ∀ (w : World) (g : Gh) (hs : Nat → Value) (args : List Value), Pers g w → okArgs g hs ins args → (∀ (i : Nat) (it : Item), M[i]? = some it → fzOk g hs (hs i) it) →
 Calls Try.prog f args.toArray w (fun en w' => ∃ v g' r, en = .returned v ∧ post r ∧ Base (cfg0 0 w g) w' g' ∧ cellV v ∧ (itf r).ok g' hs0 w' v ∧ ∀ b, Blk v b → b < w'.heap.size ∧ w.heap.size ≤ b ∧ g' b = none)
theorem CtJ.fun {β : Type} {f : Nat} {ins : List SC} {M : List Item} {r : β} {itf : β → Item} (h : CtJ f ins M (fun x => x = r) itf) : CtI f ins M (itf r) := fun w g hs args h1 h2 h3 =>
 (h w g hs args h1 h2 h3).mono fun e w' ⟨v, g', r', e1, e2, e3⟩ => ⟨v, g', e1, by subst e2; exact e3⟩
def RetJ {β : Type} (c : Cfg) (rs : Array ResultVar) (post : β → Prop) (itf : β → Item) : Po := fun a w => a.defers = c.dfr ∧ ∃ v g' r, (resR rs a.tmps).run Try.prog w = .ok v w ∧ post r ∧ Base c w g' ∧ cellV v ∧ (itf r).ok g' hs0 w v ∧ ∀ b, Blk v b → b < w.heap.size ∧ c.w0.heap.size ≤ b ∧ g' b = none
theorem CtJ.body {β : Type} {post : β → Prop} {itf : β → Item} {f : Nat} {fn : Func} {code : Code} {n : Nat} {rs : Array ResultVar} {ins : List SC} {M : List Item} (hf : Try.prog.funcs[f]? = some fn) (hb : fn.body = some code) (hn : fn.ntmps = n) (hr : fn.results = rs)
  (hl : Nat.ble ins.length n = true) (h : ∀ c : Cfg, c.n = n → c.may = (fun _ => False) → En c ⟨enumF 0 ins, M⟩ (cwp code (PQ c (RetJ c rs post itf) [] (RetJ c rs post itf)))) : CtJ f ins M post itf := fun w g hs args hp ha hm => by
 have hl := Nat.le_of_ble_eq_true hl
 have hla := okArgs_length ha
 refine calls_of_wp hf hb (Code.wp_mono (fun ex a w' q => ?_) (h (cfg0 n w g) rfl rfl { tmps := args.toArray ++ Array.replicate (fn.ntmps - args.toArray.size) undef, defers := [] } w ⟨g, hs, ?_⟩))
 ·have key : RetJ (cfg0 n w g) rs post itf a w' → a.defers = [] ∧ ∃ v, (results fn a.tmps).run Try.prog w' = .ok v w' ∧ ∃ v' g' r', Ending.returned v = .returned v' ∧ post r' ∧ Base (cfg0 0 w g) w' g' ∧ cellV v' ∧ (itf r').ok g' hs0 w' v' ∧ ∀ b, Blk v' b → b < w'.heap.size ∧ w.heap.size ≤ b ∧ g' b = none := fun ⟨h1, v, g', r', h2, h4, h5, h6, h7, h8⟩ => by
   refine ⟨h1, v, ?_, v, g', r', rfl, h4, ⟨h5.os, h5.tape, h5.output, h5.grows, h5.frame, h5.ghle, h5.ghnew, h5.pers⟩, h6, h7, h8⟩
   subst hr
   exact h2
  cases ex <;> first | exact key q | exact (q : False).elim | exact (q.2 : False).elim
 ·refine ⟨?_, rfl, ⟨rfl, rfl, rfl, Nat.le_refl _, fun _ _ _ => rfl, Gh.le.refl g, fun b o e => .inl e, hp⟩, fun t x hx => ?_, fun i it hi => ?_, ?_, ?_⟩
  ·simp [cfg0, hn]
   omega
  ·obtain ⟨u, h1, _, h3⟩ := enumF_ok ha hx
   simp only [Nat.sub_zero] at h1
   have hlt := (List.getElem?_eq_some_iff.1 h1).1
   have : (args.toArray ++ Array.replicate (fn.ntmps - args.toArray.size) undef).getD t undef = u := by
    rw [Array.getD_eq_getD_getElem?, Array.getElem?_append_left (by simpa using hlt)]
    simp [h1]
   rw [this]
   exact h3
  ·have := hm i it hi
   cases it <;> try exact this.elim
   rename_i cells ty fz
   cases fz
   ·exact this.elim
   ·obtain ⟨b, cs, h1, h2, h3⟩ := this
    exact ⟨b, cs, h1, h2, hp _ _ h3, fun _ => h3⟩
  ·intro i j it jt _ hi _ hfi
   have := hm i it hi
   cases it <;> try exact this.elim
   rename_i cells ty fz
   cases fz
   ·exact this.elim
   ·cases hfi
  ·intro i it hi hnn b hb
   clear hnn
   have := hm i it hi
   cases it <;> try exact this.elim
   rename_i cells ty fz
   cases fz
   ·exact this.elim
   ·obtain ⟨b', cs, h1, h2, h3⟩ := this
    rw [h1] at hb
    cases hb
    exact ⟨hp.lt h3, fun h => by cases h⟩
theorem res_one {tmps : Array Value} {t : Nat} {w : World} : (resR #[.tmp t] tmps).run Try.prog w = .ok (tmps.getD t undef) w := by
 simp [resR]
theorem En.backJ {β : Type} {post : β → Prop} {itf : β → Item} {t i : Nat} {l : β} (hmay : c.may = fun _ => False) (hl : look t S.F = some (.sv (.one (.own i)))) (hm : S.M[i]? = some (itf l)) (hz : (itf l).fz = false) (hr : (itf l).refs = []) (hp : post l) : En c S (RetJ c #[.tmp t] post itf) := fun a w ⟨g, hs, h⟩ => by
 have hv := h.slots t _ (look_mem hl)
 have hv1 : a.tmps.getD t undef = hs i := hv.1
 refine ⟨h.defers, hs i, g, l, by rw [res_one, hv1], hp, h.base, hv1 ▸ hv.2, Item.ok_hs (fun j hj => by rw [hr] at hj; cases hj) (h.items i _ hm), fun b hb => ?_⟩
 obtain ⟨m1, m2⟩ := h.mine i _ hm (fz_gone hz) b hb
 obtain ⟨m3, m4⟩ := m2 hz
 rw [hmay] at m3
 exact ⟨m1, m3.resolve_left (fun h => h), m4⟩
theorem En.backN {α : Type} {T : Ty α} {post : List α → Prop} {e t : Nat} (hl : look t S.F = some (.sv (.one (.v (.slice none 0 0))))) (hp : post []) : En c S (RetJ c #[.tmp t] post (fun l => rowI e T l)) := fun a w ⟨g, hs, h⟩ => by
 have hv : a.tmps.getD t undef = .slice none 0 0 := (h.slots t _ (look_mem hl)).1
 exact ⟨h.defers, .slice none 0 0, g, [], by rw [res_one, hv], hp, h.base, trivial, ⟨[], World.ownsAt_nil _ _ _, rowRead.nil⟩, fun b hb => by cases hb⟩
theorem En.freeze (l : List Nat) {M' : List Item} (e : fzSets S.M l = some M') (h : En c ⟨S.F, M'⟩ N) : En c S N := fun a w ⟨g, hs, hk⟩ => by
 obtain ⟨g', hk'⟩ := freezes (F := S.F) e hk
 exact h a w ⟨g', hs, hk'⟩
theorem mt_fv {x x' : SC} (ht : tab.ok) (e : evV tab S o = some x) (hx : ∀ a w g hs, Ok' c S a w g hs → ∀ u, SC.ok g hs x u → SC.ok g hs x' u) : MT c S o x' [] none := mt_val fun a w g hs hk => by
 obtain ⟨v, h1, h2⟩ := evV_ok ht hk e
 exact ⟨v, h1, hx a w g hs hk v h2⟩
theorem oks_nil {α : Type} {T : Ty α} {g : Gh} {hs : Nat → Value} : ∀ {l : List At} {us : List Value} (j : Nat), l[j]? = some (.v (.slice none 0 0)) → oks g hs l us → oks g hs (l.set j (LS T ([] : List α))) us
 | [], _, _, e, _ => by simp at e
 | _ :: _, [], _, _, h => h.elim
 | a :: _, u :: _, 0, e, h => by
  simp at e
  subst e
  have : u = .slice none 0 0 := h.1.1
  subst this
  exact ⟨ls_nil, h.2.1, h.2.2⟩
 | _ :: _, _ :: _, j + 1, e, h => ⟨h.1, h.2.1, oks_nil j (by simpa using e) h.2.2⟩
end
end Go.Proofs.Ytobenjahlicnoaa
namespace Go.Proofs.Ytobenjahlicnoaa
open Go.RowKit Go.ChangeMaps Go.MapKept
set_option linter.unusedSimpArgs false
set_option linter.unusedVariables false
set_option maxRecDepth 100000
section plain
variable {β : Type}
def unseen : List β → List MapEntry → Array Nat → List β
 | d :: D, e :: E, s => if s.contains e.born then unseen D E s else d :: unseen D E s
 | _, _, _ => []
theorem unseen_none : ∀ {D : List β} {E : List MapEntry}, D.length = E.length → unseen D E #[] = D
 | [], [], _ => rfl
 | d :: D, e :: E, h => by
  rw [unseen, if_neg (by simp), unseen_none (by simpa using h)]
theorem unseen_all : ∀ {D : List β} {E : List MapEntry} {s : Array Nat}, (∀ e ∈ E, s.contains e.born = true) → unseen D E s = []
 | [], _, _, _ => by rw [unseen]; intros; simp_all
 | _ :: _, [], _, _ => by rw [unseen]; intros; simp_all
 | d :: D, e :: E, s, h => by
  rw [unseen, if_pos (h e (by simp)), unseen_all (fun e he => h e (by simp [he]))]
theorem unseen_push_ne : ∀ {D : List β} {E : List MapEntry} {s : Array Nat} {b : Nat}, (∀ e ∈ E, e.born ≠ b) → unseen D E (s.push b) = unseen D E s
 | [], E, _, _, _ => by cases E <;> rfl
 | _ :: _, [], _, _, _ => rfl
 | d :: D, e :: E, s, b, h => by
  have h1 : (s.push b).contains e.born = s.contains e.born := by
   rw [Bool.eq_iff_iff]
   simp [Array.mem_push, h e (by simp)]
  rw [unseen, unseen, h1, unseen_push_ne (fun e he => h e (by simp [he]))]
theorem unseen_next : ∀ {D : List β} {E : List MapEntry} {s : Array Nat} {j : Nat} {e : MapEntry}, D.length = E.length → (E.map (·.born)).Nodup → E[j]? = some e → s.contains e.born = false →
  ∃ x l1 l2, D[j]? = some x ∧ unseen D E s = l1 ++ x :: l2 ∧ unseen D E (s.push e.born) = l1 ++ l2
 | [], [], _, _, _, _, _, h, _ => by simp at h
 | d :: D, f :: E, s, 0, e, hl, hn, h, hs => by
  simp at h
  subst h
  rw [List.map_cons, List.nodup_cons] at hn
  refine ⟨d, [], unseen D E s, rfl, by rw [unseen, if_neg (by rw [hs]; exact Bool.false_ne_true)]; rfl, ?_⟩
  rw [unseen, if_pos (by simp [Array.contains_push])]
  exact unseen_push_ne fun x hx e => hn.1 (by rw [← e]; exact List.mem_map_of_mem (f := (·.born)) hx)
 | d :: D, f :: E, s, j + 1, e, hl, hn, h, hs => by
  rw [List.map_cons, List.nodup_cons] at hn
  have he : e ∈ E := List.mem_of_getElem? (by simpa using h)
  have hne : f.born ≠ e.born := fun x => hn.1 (by rw [x]; exact List.mem_map_of_mem (f := (·.born)) he)
  have hc : (s.push e.born).contains f.born = s.contains f.born := by
   rw [Bool.eq_iff_iff]
   simp [Array.mem_push, hne]
  obtain ⟨x, l1, l2, h1, h2, h3⟩ := unseen_next (s := s) (D := D) (by simpa using hl) hn.2 (by simpa using h) hs
  by_cases hf : s.contains f.born = true
  ·exact ⟨x, l1, l2, by simpa using h1, by rw [unseen, if_pos hf, h2], by rw [unseen, if_pos (by rw [hc]; exact hf), h3]⟩
  ·exact ⟨x, d :: l1, l2, by simpa using h1, by rw [unseen, if_neg hf, h2]; rfl, by rw [unseen, if_neg (by rw [hc]; exact hf), h3]; rfl⟩
end plain
section
variable {κ α : Type} {enc : κ → Value} {T : Ty α} {D : List (κ × α)} {es : Array MapEntry} {clock : Nat}
def curOk (D : List (κ × α)) (es : Array MapEntry) (cur : Option (κ × α)) (seen : Array Nat) : Prop := ∀ x, cur = some x → ∃ (j : Nat) (e : MapEntry) (s : Array Nat), es.toList[j]? = some e ∧ D[j]? = some x ∧ seen = s.push e.born
def iterP (D : List (κ × α)) (es : Array MapEntry) (clock : Nat) (left : List (κ × α)) (cur : Option (κ × α)) (q : Nat × Array Nat) : Prop := q.1 = clock ∧ left = unseen D es.toList q.2 ∧ curOk D es cur q.2
abbrev iterX (i : Nat) (D : List (κ × α)) (es : Array MapEntry) (clock : Nat) (left : List (κ × α)) (cur : Option (κ × α)) : Item := .iter i (iterP D es clock left cur)
theorem mapRead.at {g : Gh} {p : Array MapEntry × Nat} (h : mapRead enc T D g p) : D.length = p.1.toList.length ∧ (p.1.toList.map (·.born)).Nodup ∧ (∀ e ∈ p.1.toList, e.born < p.2) ∧ ∀ (j : Nat) (e : MapEntry) (x : κ × α), p.1.toList[j]? = some e → D[j]? = some x → e.key = enc x.1 ∧ (T.sv x.2).ok g hs0 e.val := by
 obtain ⟨D0, ⟨h1, h2, h3⟩, h4, h5, h6⟩ := h
 have l1 := congrArg List.length h1
 have l2 := congrArg List.length h4
 simp only [List.length_map] at l1 l2
 refine ⟨by omega, h2.imp (fun h => by omega), h3, fun j e x he hx => ?_⟩
 have hlt := (List.getElem?_eq_some_iff.1 he).1
 obtain ⟨y, hy⟩ : ∃ y, D0[j]? = some y := ⟨D0[j]'(by omega), List.getElem?_eq_getElem _⟩
 have a1 := congrArg (·[j]?) h1
 have a2 := congrArg (·[j]?) h4
 simp only [List.getElem?_map, he, hy, hx, Option.map_some, Option.some.injEq, Prod.mk.injEq] at a1 a2
 rw [a1.1, a1.2, a2]
 exact ⟨rfl, h6 j y x hy hx⟩
variable {c : Cfg} {S S1 : St} {a : Act} {w : World} {g : Gh} {hs : Nat → Value} {tab : Tab} {n : Nat} {o : Oper} {ops : Array Oper} {rest L : List Oper} {N : Po}
theorem Ok'.retell (h : Ok' c S a w g hs) {i : Nat} {it it' : Item} (hi : S.M[i]? = some it) (hf : it.fz = false) (hf' : it'.fz = false) (ho : it'.ok g hs w (hs i)) : Ok' c ⟨S.F, S.M.set i it'⟩ a w g hs :=
 h.upd hi hf hf' ⟨rfl, rfl, rfl, Nat.le_refl _, fun _ _ _ => rfl⟩ ho
theorem opens (h : Ok' c S a w g hs) {i : Nat} (hi : S.M[i]? = some (mapI enc T D)) : ∃ es clock, Ok' c ⟨S.F, S.M.set i (mapX enc T D es clock)⟩ a w g hs := by
 obtain ⟨m, es, clock, h1, h2, h3⟩ := h.items i _ hi
 exact ⟨es, clock, h.retell hi rfl rfl ⟨m, es, clock, h1, h2, rfl, h3⟩⟩
theorem WL.openM (i : Nat) (hi : S.M[i]? = some (mapI enc T D)) (h : ∀ es clock, WL c ops L ⟨S.F, S.M.set i (mapX enc T D es clock)⟩ N) : WL c ops L S N := fun a w ⟨g, hs, hk⟩ => by
 obtain ⟨es, clock, hk'⟩ := opens hk hi
 exact h es clock a w ⟨g, hs, hk'⟩
theorem mt_range (p : Nat) {i t kt e : Nat} {m : Operand} (ho : o.op = .range t m) (ht : Try.prog.underlying t = some (.map kt e)) (hm : evX S.F m = some (.sv (.one (.own i)))) (hi : S.M[i]? = some (mapX enc T D es clock)) (hne : Nat.beq i p = false) : MT c S o (.sv (.one (.own p))) [] (some (p, iterX i D es clock D none)) := fun a w g hs h N Z hN => by
 unfold Oper.wp
 obtain ⟨mb, es', clock', h1, h2, h3, h4⟩ := h.items i _ hi
 cases h3
 have hu : (Go.underlying t).run Try.prog w = .ok (.map kt e) w := run_underlying ht w
 have hrun : (execOp a.eval o).run Try.prog w = .ok (.value (.pointer (some ⟨w.heap.size, 0, none⟩))) (w.alloc (.mapIter (some mb) clock #[] clock)) := by
  have : execOp a.eval o = (do pure (.value (← Instr.range t (a.eval m))) : Sem Next) := by unfold execOp; rw [ho]
  rw [this, show a.eval m = .map (some mb) from (evX_ok h hm).1.trans h1]
  refine run_valW ?_
  simp only [Instr.range, Sem.run_bind, hu, Result.andThen_ok, getObj, Sem.run, h2, Sem.run_pure, newObj]
  rfl
 rw [hrun]
 have hnp : i ≠ p := fun e => by subst e; simp at hne
 refine hN _ _ g (.pointer (some ⟨w.heap.size, 0, none⟩)) ⟨rfl, rfl, rfl, by simp, fun b hb _ => (World.grownBy_alloc w _ none).block b hb (by simp), Gh.le.refl g, fun b o e => .inl e, fun b o e => ?_⟩ ⟨?_, trivial⟩ ⟨⟨w.heap.size, mb, clock, #[], rfl, ?_, heap_alloc_new w _, rfl, (unseen_none h4.at.1).symm, fun x hx => by cases hx⟩, fun b hb => ?_⟩
 ·exact ((World.grownBy_alloc w _ none).block b (h.base.pers.lt e) (by simp)).trans (h.base.pers b o e)
 ·show _ = (if p = p then _ else hs p)
  rw [if_pos rfl]
 ·show (if i = p then _ else hs i) = _
  rw [if_neg hnp]
  exact h1
 ·cases hb
  refine ⟨by simp, fun _ => ?_, .inl (Nat.le_refl _)⟩
  cases hgb : g w.heap.size with
  | none => rfl
  | some o => have := h.base.pers.lt hgb; omega
theorem WL.nextM {Tk : Ty κ} {left : List (κ × α)} {cur : Option (κ × α)} {i r : Nat} {x : Operand} (hn : c.n = n) (hw : wantE ops S.F o = some true) (ho : o.op = .next x false) (hx : evX S.F x = some (.sv (.one (.own r)))) (hr : S.M[r]? = some (iterX i D es clock left cur)) (hi : S.M[i]? = some (mapX enc T D es clock))
  (hk : ∀ k g hs, (Tk.sv k).ok g hs (enc k)) (hc : ∀ y, (T.sv y).refs = [])
  (e1 : putE n o.dst (.tup [.one (B false)]) S = some S1) (h1 : left = [] → WL c ops rest S1 N)
  (h2 : ∀ l1 y l2, left = l1 ++ y :: l2 → ∃ S2, putE n o.dst (.tup [.one (B true), Tk.sv y.1, T.sv y.2]) ⟨S.F, S.M.set r (iterX i D es clock (l1 ++ l2) (some y))⟩ = some S2 ∧ WL c ops rest S2 N) : WL c ops (o :: rest) S N := fun a w ⟨g, hs, h⟩ => by
 unfold wpList
 rw [if_pos (wantE_ok h hw)]
 refine .inl ?_
 unfold Oper.wp
 obtain ⟨mb, es', clock', i1, i2, i3, i4⟩ := h.items i _ hi
 cases i3
 obtain ⟨rb, mb', clock', seen, r1, r2, r3, r4, r5, r6⟩ := h.items r _ hr
 simp only at r4
 subst r4
 rw [i1] at r2
 cases r2
 obtain ⟨q1, q2, q3, q4⟩ := i4.at
 have hxv : a.eval x = .pointer (some ⟨rb, 0, none⟩) := (evX_ok h hx).1.trans r1
 have hop : execOp a.eval o = (do pure (.value (← Instr.next (a.eval x) false o.type)) : Sem Next) := by unfold execOp; rw [ho]
 rcases run_next_at (P := Try.prog) (ty := o.type) w rb mb clock' clock' seen es clock' r3 i2 q3 (Nat.le_refl _) with ⟨hz, hrun⟩ | ⟨e, he, w1, hw1, hrun⟩
 ·rw [hop, hxv, run_valW hrun]
  have hz' : (leftOf es seen).toList = [] := by rw [Array.eq_empty_of_size_eq_zero hz]
  refine h1 ?_ _ _ ⟨g, hs, putE_ok h hn (x := .tup [.one (B false)]) ⟨[.bool false], rfl, ⟨rfl, trivial⟩, trivial⟩ e1⟩
  rw [r5]
  refine unseen_all fun e he => ?_
  unfold leftOf at hz'
  rw [Array.toList_filter, List.filter_eq_nil_iff] at hz'
  simpa using hz' e he
 ·rw [hop, hxv, run_valW hrun]
  obtain ⟨he1, he2⟩ : e ∈ es.toList ∧ seen.contains e.born = false := by
   unfold leftOf at he
   rw [Array.toList_filter, List.mem_filter] at he
   exact ⟨he.1, by simpa using he.2⟩
  obtain ⟨j, hj⟩ := List.mem_iff_getElem?.1 he1
  obtain ⟨y, l1, l2, u1, u2, u3⟩ := unseen_next q1 q2 hj he2
  obtain ⟨v1, v2⟩ := q4 j e y hj u1
  obtain ⟨S2, hp, hW⟩ := h2 l1 y l2 (by rw [r5, u2])
  have hr1 : w1.heap = w.heap := by rcases hw1 with rfl | rfl <;> rfl
  have hrlt : rb < w1.heap.size := by rw [hr1]; exact (Array.getElem?_eq_some_iff.1 r3).1
  have hg : w.grownBy (setBlock w1 rb (.mapIter (some mb) clock' (seen.push e.born) clock')) (some rb) := by
   rcases hw1 with rfl | rfl
   ·exact ⟨rfl, rfl, rfl, by simp [setBlock], fun i _ hi => by
     show (w1.heap.setIfInBounds rb _)[i]? = _
     rw [Array.getElem?_setIfInBounds_ne (fun e => hi (by rw [e]))]⟩
   ·exact ⟨rfl, rfl, rfl, by simp [setBlock], fun i _ hi => by
     show (w.heap.setIfInBounds rb _)[i]? = _
     rw [Array.getElem?_setIfInBounds_ne (fun e => hi (by rw [e]))]⟩
  have hup := h.upd (it' := iterX i D es clock' (l1 ++ l2) (some y)) hr rfl rfl (by rw [r1]; exact hg) ⟨rb, mb, clock', seen.push e.born, r1, i1, ?_, rfl, u3.symm, fun x hx => ?_⟩
  ·refine hW _ _ ⟨g, hs, putE_ok hup hn (x := .tup [.one (B true), Tk.sv y.1, T.sv y.2]) ⟨[.bool true, e.key, e.val], rfl, ⟨rfl, trivial⟩, ?_, ?_, trivial⟩ hp⟩
   ·rw [v1]; exact hk _ _ _
   ·exact SV.ok_hs (fun i hi => by rw [hc] at hi; cases hi) v2
  ·show (w1.heap.setIfInBounds rb _)[rb]? = _
   rw [Array.getElem?_setIfInBounds_self_of_lt hrlt]
  ·cases hx
   exact ⟨j, e, seen, hj, u1, rfl⟩
theorem val_entryM {Tk : Ty κ} {left : List (κ × α)} {y : κ × α} {i r : Nat} {x : Operand} (ho : o.op = .entry x) (hx : evX S.F x = some (.sv (.one (.own r)))) (hr : S.M[r]? = some (iterX i D es clock left (some y))) (hi : S.M[i]? = some (mapX enc T D es clock))
  (hk : ∀ k g hs, (Tk.sv k).ok g hs (enc k)) (hc : ∀ y, (T.sv y).refs = []) : Val c S o (.tup [Tk.sv y.1, T.sv y.2]) := fun a w g hs h => by
 obtain ⟨mb, es', clock', i1, i2, i3, i4⟩ := h.items i _ hi
 cases i3
 obtain ⟨rb, mb', clock', seen, r1, r2, r3, r4, r5, r6⟩ := h.items r _ hr
 simp only at r4
 subst r4
 rw [i1] at r2
 cases r2
 obtain ⟨q1, q2, q3, q4⟩ := i4.at
 have hxv : a.eval x = .pointer (some ⟨rb, 0, none⟩) := (evX_ok h hx).1.trans r1
 have hop : execOp a.eval o = (do pure (.value (← Instr.entry (a.eval x))) : Sem Next) := by unfold execOp; rw [ho]
 obtain ⟨j, e, s, hj, hy, hs'⟩ := r6 y rfl
 simp only at hs'
 subst hs'
 obtain ⟨v1, v2⟩ := q4 j e y hj hy
 refine ⟨.tuple #[e.key, e.val], ?_, [e.key, e.val], rfl, ?_, ?_, trivial⟩
 ·rw [hop, hxv]
  exact run_val (run_entry_at w rb mb clock' s es clock' e r3 i2 (List.mem_of_getElem? hj) q2)
 ·rw [v1]; exact hk _ _ _
 ·exact SV.ok_hs (fun i hi => by rw [hc] at hi; cases hi) v2
end
end Go.Proofs.Ytobenjahlicnoaa
namespace Go.Proofs.Ytobenjahlicnoaa
open Go.RowKit Go.MapKept
set_option linter.unusedSimpArgs false
set_option linter.unusedVariables false
set_option maxRecDepth 100000
theorem At.ren_ok {g : Gh} {hs : Nat → Value} {f : Nat → Nat} {a : At} {u : Value} (h : a.ok g (fun i => hs (f i)) u) : (a.ren f).ok g hs u := by
 refine ⟨?_, by have := h.2; cases a <;> exact this⟩
 have h1 := h.1
 cases a <;> simp only [At.raw, At.ren] at h1 ⊢
 case fn _ l => rw [h1, List.map_map]; rfl
 case pfn _ l =>
  refine ⟨fun p hp => ?_, ?_⟩
  ·obtain ⟨q, hq, rfl⟩ := List.mem_map.1 hp
   exact h1.1 q hq
  ·rw [h1.2]
   simp only [List.map_map]
   rfl
 all_goals exact h1
theorem oks_ren' {g : Gh} {hs : Nat → Value} {f : Nat → Nat} : ∀ {l : List At} {us : List Value}, oks g (fun i => hs (f i)) l us → oks g hs (l.map (At.ren f)) us
 | [], [], _ => trivial
 | [], _ :: _, h => h.elim
 | _ :: _, [], h => h.elim
 | _ :: _, _ :: _, h => ⟨At.ren_ok h.1, h.2.1, oks_ren' h.2.2⟩
theorem SV.ren_ok {g : Gh} {hs : Nat → Value} {f : Nat → Nat} {a : SV} {u : Value} (h : a.ok g (fun i => hs (f i)) u) : (a.ren f).ok g hs u := by
 cases a with
 | one a => exact At.ren_ok h
 | agg l =>
  obtain ⟨cs, h1, h2⟩ := h
  exact ⟨cs, h1, oks_ren' h2⟩
theorem svs_ren' {g : Gh} {hs : Nat → Value} {f : Nat → Nat} : ∀ {l : List SV} {us : List Value}, SV.oks g (fun i => hs (f i)) l us → SV.oks g hs (l.map (SV.ren f)) us
 | [], [], _ => trivial
 | [], _ :: _, h => h.elim
 | _ :: _, [], h => h.elim
 | _ :: _, _ :: _, h => ⟨SV.ren_ok h.1, svs_ren' h.2⟩
theorem SC.ren_ok {g : Gh} {hs : Nat → Value} {f : Nat → Nat} {a : SC} {u : Value} (h : a.ok g (fun i => hs (f i)) u) : (a.ren f).ok g hs u := by
 cases a with
 | sv s => exact SV.ren_ok h
 | tup l =>
  obtain ⟨cs, h1, h2⟩ := h
  exact ⟨cs, h1, svs_ren' h2⟩
def Item.mv (f : Nat → Nat) : Item → Item
 | .box cells ty fz => .box (cells.map (At.ren f)) ty fz
 | .iter j r => .iter (f j) r
 | .grid tyo ty s rows link => .grid tyo ty s rows (match link with
  | some (p, k) => some (p, f k)
  | none => none)
 | it => it
theorem Item.mv_fz {f : Nat → Nat} {it : Item} : (it.mv f).fz = it.fz := by cases it <;> rfl
theorem Item.mv_gone {f : Nat → Nat} {it : Item} : it.mv f = .gone ↔ it = .gone := by cases it <;> simp [Item.mv]
theorem Item.mv_ok {g : Gh} {hs : Nat → Value} {f : Nat → Nat} {w : World} {v : Value} {it : Item} (h : it.ok g (fun i => hs (f i)) w v) : (it.mv f).ok g hs w v := by
 cases it with
 | box cells ty fz =>
  obtain ⟨b, cs, h1, h2, h3⟩ := h
  exact ⟨b, cs, h1, oks_ren' h2, h3⟩
 | row _ _ _ _ => exact h
 | map _ => exact h
 | iter _ _ => exact h
 | siter _ _ => exact h
 | ext _ => exact h
 | grid tyo ty s rows link =>
  obtain ⟨us, ocs, h1, h2, h3, h3', h4, h4', hk, h5⟩ := h
  refine ⟨us, ocs, h1, h2, h3, h3', h4, h4', fun p k hl => ?_, h5⟩
  cases link with
  | none => cases hl
  | some x =>
   obtain ⟨p', k'⟩ := x
   cases hl
   exact hk _ _ rfl
 | gone => trivial
def mvF (q p : Nat) : Nat → Nat := fun i => bif Nat.beq i q then p else i
def moveS (S : St) (q p : Nat) : St := ⟨S.F.map fun e => (e.1, e.2.ren (mvF q p)), setM ((S.M.set q .gone).map (Item.mv (mvF q p))) p ((S.M.getD q .gone).mv (mvF q p))⟩
def freeAt (S : St) (p : Nat) : Bool := match S.M[p]? with
 | none => true
 | some .gone => true
 | _ => false
section
variable {c : Cfg} {S S1 : St} {a : Act} {w : World} {g : Gh} {hs : Nat → Value} {tab : Tab} {n : Nat} {o : Oper} {ops : Array Oper} {rest L : List Oper} {N : Po}
theorem Ok'.move (h : Ok' c S a w g hs) {q p : Nat} (hne : Nat.beq q p = false) (hp : (freeAt S p && S.refsAll (fun i => !(Nat.beq i p))) = true) : Ok' c (moveS S q p) a w g (fun i => if i = p then hs q else hs i) := by
 obtain ⟨hfr, hrf⟩ := (Bool.and_eq_true _ _).mp hp
 have hqp : q ≠ p := fun e => by subst e; simp at hne
 have hH : ∀ i, (!(Nat.beq i p)) = true → (fun i => if i = p then hs q else hs i) (mvF q p i) = hs i := fun i hi => by
  have hip : i ≠ p := fun e => by subst e; simp at hi
  unfold mvF
  by_cases e : i = q
  ·subst e; simp
  ·have : Nat.beq i q = false := (by cases hb : Nat.beq i q with | false => rfl | true => exact absurd (Nat.eq_of_beq_eq_true hb) e)
   rw [this]
   simp [hip]
 have hit : ∀ (i : Nat) (jt : Item), (moveS S q p).M[i]? = some jt → jt ≠ .gone → ∃ k kt, S.M[k]? = some kt ∧ jt = kt.mv (mvF q p) ∧ (if i = p then hs q else hs i) = hs k ∧ ((i = p ∧ k = q) ∨ (i ≠ p ∧ k = i ∧ i ≠ q)) := fun i jt hi hn => by
  rcases setM_get i jt hi with ⟨rfl, rfl⟩ | ⟨hip, hi | rfl⟩
  ·cases hq : S.M[q]? with
   | none =>
    exfalso; apply hn
    rw [List.getD_eq_getElem?_getD, hq]
    rfl
   | some kt =>
    refine ⟨q, kt, hq, ?_, if_pos rfl, .inl ⟨rfl, rfl⟩⟩
    rw [List.getD_eq_getElem?_getD, hq]
    rfl
  ·rw [List.getElem?_map] at hi
   cases hk : (S.M.set q .gone)[i]? with
   | none => rw [hk] at hi; simp at hi
   | some kt =>
    rw [hk] at hi
    simp at hi
    have hiq : i ≠ q := fun e => by
     subst e
     rw [List.getElem?_set] at hk
     simp only [if_true] at hk
     split at hk
     ·simp at hk
      subst hk
      exact hn hi.symm
     ·cases hk
    rw [List.getElem?_set, if_neg (Ne.symm hiq)] at hk
    exact ⟨i, kt, hk, hi.symm, if_neg hip, .inr ⟨hip, rfl, hiq⟩⟩
  ·exact absurd rfl hn
 refine ⟨h.size, h.defers, h.base, fun t x hx => ?_, fun i jt hi => ?_, fun i j jt kt hij hi hj hfi hnj b hb => ?_, fun i jt hi hn b hb => ?_⟩
 ·obtain ⟨⟨t', y⟩, hy, hyx⟩ := List.mem_map.1 hx
  cases hyx
  exact SC.ren_ok (hs := fun i => if i = p then hs q else hs i) (SC.ok_hs (fun i hi => hH i (St.refs_F hrf hy i hi)) (h.slots _ y hy))
 ·by_cases hn : jt = .gone
  ·subst hn; trivial
  ·obtain ⟨k, kt, h1, rfl, h3, _⟩ := hit i jt hi hn
   show Item.ok _ _ _ (if i = p then hs q else hs i) _
   rw [h3]
   exact Item.mv_ok (hs := fun i => if i = p then hs q else hs i) (Item.ok_hs (fun i hi => hH i (St.refs_M hrf h1 i hi)) (h.items k kt h1))
 ·obtain ⟨k, k1, h1, rfl, h3, h4⟩ := hit i jt hi (fz_gone hfi)
  obtain ⟨k', k2, h1', rfl, h3', h4'⟩ := hit j kt hj hnj
  simp only [h3, h3'] at hb ⊢
  rw [Item.mv_fz] at hfi
  exact h.sep k k' k1 k2 (by rcases h4 with ⟨e1, e2⟩ | ⟨e1, e2, e3⟩ <;> rcases h4' with ⟨f1, f2⟩ | ⟨f1, f2, f3⟩ <;> omega) h1 h1' hfi (fun e => hnj (Item.mv_gone.2 e)) b hb
 ·obtain ⟨k, kt, h1, rfl, h3, _⟩ := hit i jt hi hn
  simp only [h3] at hb
  rw [Item.mv_fz]
  exact h.mine k kt h1 (fun e => hn (Item.mv_gone.2 e)) b hb
theorem En.move (q p : Nat) (hne : Nat.beq q p = false) (hp : (freeAt S p && S.refsAll (fun i => !(Nat.beq i p))) = true) (h : En c (moveS S q p) N) : En c S N := fun a w ⟨_, _, hk⟩ => h a w ⟨_, _, hk.move hne hp⟩
theorem rowNil_ok {α : Type} {t p e : Nat} {T : Ty α} (hl : look t S.F = some (.sv (.one (.v (.slice none 0 0))))) (hr : S.refsAll (fun i => !(Nat.beq i p)) = true) (hk : Ok' c S a w g hs) : ∃ hs', Ok' c ⟨(t, .sv (.one (.own p))) :: S.F, newM S.M [] (some (p, rowI e T []))⟩ a w g hs' := by
 have hv := (hk.slots t _ (look_mem hl)).1
 have he := hk.eff (K := []) (p := some (p, rowI e T [])) (h' := .slice none 0 0) (Eff.refl hk.base) ⟨⟨[], World.ownsAt_nil _ _ _, rowRead.nil⟩, fun b hb => by cases hb⟩ hr rfl
 refine ⟨_, he.size, he.defers, he.base, fun t' y hy => ?_, he.items, he.sep, he.mine⟩
 rcases List.mem_cons.1 hy with hy | hy
 ·cases hy
  refine ⟨?_, by rw [hv]; trivial⟩
  show _ = (if p = p then _ else hs p)
  rw [if_pos rfl]
  exact hv
 ·exact he.slots t' y hy
theorem En.rowNil {α : Type} (t p e : Nat) (T : Ty α) (hl : look t S.F = some (.sv (.one (.v (.slice none 0 0))))) (hr : S.refsAll (fun i => !(Nat.beq i p)) = true)
  (h : En c ⟨(t, .sv (.one (.own p))) :: S.F, newM S.M [] (some (p, rowI e T []))⟩ N) : En c S N := fun a w ⟨g, _, hk⟩ => by
 obtain ⟨hs', hk'⟩ := rowNil_ok hl hr hk
 exact h a w ⟨g, hs', hk'⟩
theorem val_eqB {x y : Operand} {b : TypeId} {t : Nat} {op : BinOp} {u v r : Bool} (ho : o.op = .binOp op t x y b) (ht : Try.prog.underlying t = some .bool) (hx : evX S.F x = some (.sv (.one (.v (.bool u))))) (hy : evX S.F y = some (.sv (.one (.v (.bool v))))) (hop : (op = .eql ∧ r = (u == v)) ∨ (op = .neq ∧ r = (u != v))) : Val c S o (.sv (.one (.v (.bool r)))) := fun a w g hs h => by
 have h1 : a.eval x = .bool u := (evX_ok h hx).1
 have h2 : a.eval y = .bool v := (evX_ok h hy).1
 refine ⟨_, ?_, rfl, trivial⟩
 have e : execOp a.eval o = (do pure (.value (← (do eqGuard op t x y (a.eval x) (a.eval y); binOp op t (a.eval x) (a.eval y) : Sem Value))) : Sem Next) := by unfold execOp; rw [ho]
 rw [e]
 refine run_val ?_
 rw [h1, h2]
 have hu := run_underlying ht w
 have heq : (Op.equal t (.bool u) (.bool v)).run Try.prog w = .ok (u == v) w := by
  show (Op.equalIn (9999 + 1) _ _ _).run _ _ = _
  rw [Op.equalIn]
  simp only [Sem.run_bind, hu, Result.andThen_ok]
  simp
 rcases hop with ⟨rfl, rfl⟩ | ⟨rfl, rfl⟩
 ·have hg : (eqGuard .eql t x y (.bool u) (.bool v)).run Try.prog w = .ok () w := by simp [eqGuard]
  rw [Sem.run_bind, hg, Result.andThen_ok]
  simp [binOp, heq]
 ·have hg : (eqGuard .neq t x y (.bool u) (.bool v)).run Try.prog w = .ok () w := by simp [eqGuard]
  rw [Sem.run_bind, hg, Result.andThen_ok]
  simp [binOp, heq]
  cases u <;> cases v <;> rfl
end
def MTQ {β : Type} (c : Cfg) (S : St) (o : Oper) (Q : β → Prop) (x : β → SC) (p : β → Option (Nat × Item)) : Prop :=
 ∀ a w g hs, Ok' c S a w g hs → ∀ N Z : Po, (∀ r, Q r → ∀ v w' g' h', Eff hs [] w g w' g' → (x r).ok g' (newH hs (p r) h') v → newOk hs [] w w' g' h' (p r) → N (a.put o.dst v) w') → o.wp Try.prog a w N (OnlyP c Z)
section
variable {c : Cfg} {S S1 : St} {a : Act} {w : World} {g : Gh} {hs : Nat → Value} {tab : Tab} {n : Nat} {o : Oper} {ops : Array Oper} {rest L : List Oper} {N : Po}
theorem WL.mtQ {β : Type} {Q : β → Prop} {x : β → SC} {p : β → Option (Nat × Item)} (hn : c.n = n) (hw : wantE ops S.F o = some true) (hm : MTQ c S o Q x p) (h : ∀ r, Q r → refsNe S (p r) = true ∧ ∃ S1, putE n o.dst (x r) ⟨S.F, newM S.M [] (p r)⟩ = some S1 ∧ WL c ops rest S1 N) : WL c ops (o :: rest) S N := fun a w ⟨g, hs, hk⟩ => by
 unfold wpList
 rw [if_pos (wantE_ok hk hw)]
 refine .inl (hm a w g hs hk _ N fun r hq v w' g' h' h1 h3 h4 => ?_)
 obtain ⟨hr, S1, e, hW⟩ := h r hq
 exact hW _ _ ⟨g', _, putE_ok (hk.eff h1 h4 hr rfl) hn h3 e⟩
theorem mtq_call {β : Type} {Q : β → Prop} {x : β → SC} {f : Nat} {ins : List SC} {M : List Item} (ct : Ct f ins M Q x) (en : ∀ args w, (callFunc f args).run Try.prog w = .ok (.enter f args) w) {caps : List Nat} (rn : List Nat) {fo : Operand} {args : Array Operand} {ats : Array TypeId}
  (ho : o.op = .call ⟨.value fo, args, ats⟩) (hf : evX S.F fo = some (.sv (.one (.fn f caps)))) (ha : (match evXs S.F args.toList with | some l => some (l ++ caps.map fun i => .sv (.one (.ptr i 0))) | none => none) = some (ins.map (SC.ren fun i => rn.getD i 0)))
  (hM : fzE S.M (fun i => rn.getD i 0) 0 M = M.map fun it => some (it.ren fun i => rn.getD i 0)) (hz : M.all fzB = true) (hcl : ∀ r, (x r).refs = []) (hcb : caps.all (boxB S) = true) : MTQ c S o Q x (fun _ => none) := fun a w g hs h N Z hN => by
 unfold Oper.wp
 have hfv : a.eval fo = .func (.func f) #[] (caps.map hs).toArray := (evX_ok h hf).1
 split at ha
 case h_2 => cases ha
 rename_i l hl
 simp only [Option.some.injEq] at ha
 have h1 := evXs_ok h hl
 have hcp : ∀ i ∈ caps, ∃ b, hs i = .pointer (some ⟨b, 0, none⟩) := fun i hi => by
  have := List.all_eq_true.1 hcb i hi
  unfold boxB at this
  cases hm : S.M[i]? with
  | none => rw [hm] at this; cases this
  | some it =>
   rw [hm] at this
   cases it <;> try (cases this; done)
   obtain ⟨b, cs, h1, _⟩ := h.items i _ hm
   exact ⟨b, h1⟩
 have h2 : okArgs g hs (caps.map fun i => SC.sv (.one (.ptr i 0))) (caps.map hs) := by
  clear ha hf hfv hcb
  induction caps with
  | nil => trivial
  | cons i caps ih =>
   refine ⟨?_, ih (fun j hj => hcp j (List.mem_cons_of_mem _ hj))⟩
   obtain ⟨b, hb⟩ := hcp i (by simp)
   exact ⟨⟨b, hb, hb⟩, by rw [hb]; trivial⟩
 have h3 := okArgs_append h1 h2
 rw [ha] at h3
 have h4 := okArgs_ren h3
 have hrun : (execOp a.eval o).run Try.prog w = .ok (.enter f ((args.toList.map a.eval) ++ caps.map hs).toArray) w := by
  unfold execOp
  simp only [ho, resolve, hfv, Deferred.ofValue, Sem.run_bind, Sem.run_pure, Result.andThen_ok, invoke]
  rw [show (#[] ++ Array.map a.eval args ++ (List.map hs caps).toArray : Array Value) = (args.toList.map a.eval ++ caps.map hs).toArray by simp]
  exact en _ _
 rw [hrun]
 refine (ct w g (fun i => hs (rn.getD i 0)) _ h.base.pers h4 (fun i it hi => ?_)).mono ?_
 ·have h5 := fzE_ok hM i it hi
  rw [Nat.zero_add] at h5
  exact fz_of h5 (List.all_eq_true.1 hz it (List.mem_of_getElem? hi)) h
 ·rintro e w' ⟨v, g', r, rfl, h5, h6, h7⟩
  exact hN r h5 v w' g' undef (Eff.of_base h7) (SC.ok_closed' (hcl r) h6) trivial
theorem mt_lit {α : Type} {T : Ty α} (es : List α) {p e m : Nat} (h : MT c S o (.sv (.one (.bsl p m))) [] (some (p, .box (cellsOf T es) e false))) (hT : T.solid) (hz : ∀ a, (svCells (T.sv a)).length = T.s) (hc : ∀ a, (T.sv a).refs = []) (hlen : m = es.length) (hml : es.length ≤ 140737488355328) : MT c S o (.sv (.one (.own p))) [] (some (p, rowI e T es)) := fun a w g hs hk N Z hN => by
 refine h a w g hs hk N Z fun v w' g' h' h1 h2 h3 => ?_
 obtain ⟨⟨b, cs, rfl, k2, k3, _⟩, hb⟩ := h3
 obtain ⟨⟨b', hb', hv⟩, _⟩ := h2
 have hbb : b = b' := by
  have : (if p = p then (Value.pointer (some ⟨b, 0, none⟩)) else hs p) = .pointer (some ⟨b', 0, none⟩) := hb'
  rw [if_pos rfl] at this
  simpa using this
 subst hbb hlen
 have hrow := rowRead.of_oks hT hz hc k2
 have hown : w'.ownsAt e T.s (.slice (some ⟨b, 0, none⟩) es.length es.length) es.length cs := World.ownsRow.at (base := 0) ⟨hrow.length, .inr ⟨b, es.length, cs.toArray, rfl, Nat.zero_le _, k3, Nat.le_refl _, by simp only [maxLen]; omega, by simpa using hrow.length, by simpa using (List.take_of_length_le (by rw [hrow.length]; exact Nat.le_refl _))⟩⟩
 refine hN v w' g' (.slice (some ⟨b, 0, none⟩) es.length es.length) h1 ⟨?_, by rw [hv]; trivial⟩ ⟨⟨cs, hown, hrow⟩, fun b2 hb2 => ?_⟩
 ·show v = (if p = p then _ else hs p)
  rw [if_pos rfl]
  exact hv
 ·cases hb2
  obtain ⟨x1, x2, x3⟩ := hb b rfl
  exact ⟨x1, fun _ => x2 rfl, x3⟩
end
end Go.Proofs.Ytobenjahlicnoaa
namespace Go.Proofs.Ytobenjahlicnoaa
open Go.ChangeShapes Go.WideShapes Go.ChangeAt Go.RowKit
set_option linter.unusedSimpArgs false
set_option linter.unusedVariables false
set_option maxRecDepth 100000
set_option maxRecDepth 100000
def Reads {α : Type} (t : TypeId) (s : Nat) (R : World → Value → α → Prop) : Prop :=
 ∀ (H : Type) (enc : TypeId × Value → H) (w : World) (base : Nat) (spare : Nat → Bool) (held : Bool) (fuel : Nat) (cs : List Value) (x : DataW H × List MemPlace),
  DataW.trod enc Try.prog w base spare held fuel t cs = some x → ∃ u a, u.cells.toList = cs ∧ u.cells.size = s ∧ R w u a
theorem reads_int {t : TypeId} (ht : Try.prog.underlying t = some (.int .i64)) : Reads t 1 IntR := by
 intro H enc w base spare held fuel cs x h
 obtain ⟨n, rfl, _, hw⟩ := DataW.trod_int ht h
 have hb : -9223372036854775808 ≤ n ∧ n ≤ 9223372036854775807 := by simpa [Lit.wf, IntKind.min, IntKind.max, IntKind.signed, IntKind.bits] using hw
 exact ⟨.int .i64 n, n, rfl, rfl, rfl, hb⟩
theorem list_of {α : Type} {P : Nat → α → Prop} (n : Nat) : (∀ i, i < n → ∃ a, P i a) → ∃ l : List α, l.length = n ∧ ∀ i a, l[i]? = some a → P i a := by
 induction n with
 | zero => exact fun _ => ⟨[], rfl, fun i a h => by simp at h⟩
 | succ n ih =>
  intro h
  obtain ⟨l, hl, hp⟩ := ih fun i hi => h i (by omega)
  obtain ⟨a, ha⟩ := h n (by omega)
  refine ⟨l ++ [a], by simp [hl], fun i b hb => ?_⟩
  by_cases hi : i < n
  ·exact hp i b (by rwa [List.getElem?_append_left (by omega)] at hb)
  ·rw [List.getElem?_append_right (by omega)] at hb
   have : i - l.length = 0 := by
    have := (List.getElem?_eq_some_iff.1 hb).1
    simp at this
    omega
   rw [this] at hb
   simp at hb
   subst hb
   rwa [show i = n from by omega]
theorem reads_slice {α : Type} {t e : TypeId} {s : Nat} {R : World → Value → α → Prop} (ht : Try.prog.underlying t = some (.slice e)) (hc : Try.prog.cellsOf e = s) (hs : 0 < s) (he : Reads e s R) : Reads t 1 (SliceOf s R) := by
 intro H enc w base spare held fuel cs x h
 rcases DataW.trod_slice ht h with ⟨rfl, _⟩ | ⟨a, len, cap, elems, rest, n, _, rfl, _, _, hl, hm, hlen, hel, _⟩
 ·exact ⟨.slice none 0 0, [], rfl, rfl, none, 0, 0, rfl, rfl, Nat.le_refl _, Nat.zero_le _, fun _ => rfl, fun q a h => by simp at h⟩
 ·rw [hc] at hel
  have each : ∀ i, i < len → ∃ y : α, ∃ b o u, some a = some (⟨b, o, none⟩ : Addr) ∧ R w u y ∧ u.cells.size = s ∧ ∀ j c, u.cells[j]? = some c → w.cell? ⟨b, o + i * s + j, none⟩ = some c := by
   intro i hi
   have h1 := hel i hi
   rw [List.getElem?_eq_getElem (by omega)] at h1
   obtain ⟨cs', hcs, htr⟩ := Option.bind_eq_some_iff.1 h1
   obtain ⟨u, y, e1, e2, hR⟩ := he H enc w base spare held n cs' _ htr
   obtain ⟨_, hcl, hcell⟩ := World.cells?_some hcs
   have hsp : a.spot = none := by
    have h0 := hcell 0 hs
    rw [List.getElem?_eq_getElem (by omega)] at h0
    by_cases hz : i * s = 0
    ·rw [hz] at h0
     simpa [Addr.add] using World.cell?_spot h0
    ·rcases a with ⟨b, o, sp⟩
     have hi0 : i ≠ 0 := fun e => by simp [e] at hz
     have hi1 : i = i - 1 + 1 := by omega
     have h2 := hel 0 (by omega)
     rw [List.getElem?_eq_getElem (by omega)] at h2
     obtain ⟨cs2, hcs2, _⟩ := Option.bind_eq_some_iff.1 h2
     obtain ⟨_, hcl2, hcell2⟩ := World.cells?_some hcs2
     have h3 := hcell2 0 hs
     rw [List.getElem?_eq_getElem (by omega)] at h3
     simpa [Addr.add] using World.cell?_spot h3
   obtain ⟨b, o, sp⟩ := a
   simp only at hsp
   subst hsp
   refine ⟨y, b, o, u, rfl, hR, e2, fun j c hj => ?_⟩
   have hj' : cs'[j]? = some c := by rw [← e1]; simpa using hj
   have hlt : j < s := by rw [← hcl]; exact (List.getElem?_eq_some_iff.1 hj').1
   have h5 := (hcell j hlt).trans hj'
   simpa [Addr.add_lit] using h5
  obtain ⟨l, hll, hp⟩ := list_of len each
  exact ⟨.slice (some a) len cap, l, rfl, rfl, some a, len, cap, rfl, hll.symm, hl, hm, (fun h => by cases h), hp⟩
def Agg2 {α β : Type} (R : World → Value → α → Prop) (S : World → Value → β → Prop) (w : World) (v : Value) (a : α × β) : Prop := ∃ x y, v = .agg #[x, y] ∧ R w x a.1 ∧ S w y a.2 ∧ x.cells = #[x] ∧ y.cells = #[y]
instance {α β : Type} {R : World → Value → α → Prop} {S : World → Value → β → Prop} [Stab R] [Stab S] : Stab (Agg2 R S) :=
 ⟨fun ⟨x, y, hv, hR, hS, hx, hy⟩ hb => ⟨x, y, hv, Stab.up hR hb, Stab.up hS hb, hx, hy⟩⟩
def One {α : Type} (R : World → Value → α → Prop) : Prop := ∀ w v a, R w v a → v.cells = #[v]
theorem laidOut : laidOutB Try.prog = true := by kernel_rfl
theorem ownK : ownKnob Try.prog.godebug = none := by kernel_rfl
theorem places_lt {H : Type} {enc : TypeId × Value → H} {w : World} {base : Nat} {spare : Nat → Bool} {held : Bool} {t : TypeId} {v : Value} {d : DataW H} {p : List MemPlace} (h : DataW.Trod enc Try.prog w base spare held t v d p) : ∀ x ∈ p, x.block < w.heap.size := by
 obtain ⟨m, hm⟩ := h
 exact DataW.trod_lt m _ _ _ hm
end Go.Proofs.Ytobenjahlicnoaa
namespace Go.Proofs.Ytobenjahlicnoaa
open Go.ChangeShapes Go.WideShapes Go.ChangeAt Go.RowKit
set_option linter.unusedSimpArgs false
set_option linter.unusedVariables false
set_option maxRecDepth 100000
def Reads1 (t : TypeId) (S : World → Value → Prop) : Prop :=
 ∀ (H : Type) (enc : TypeId × Value → H) (w : World) (base : Nat) (spare : Nat → Bool) (held : Bool) (fuel : Nat) (c : Value) (x : DataW H × List MemPlace),
  DataW.trod enc Try.prog w base spare held fuel t [c] = some x → S w c ∧ c.cells = #[c]
theorem Reads.one {α : Type} {t : TypeId} {R : World → Value → α → Prop} (h : Reads t 1 R) (ho : One R) : Reads1 t (fun w c => ∃ a, R w c a) := by
 intro H enc w base spare held fuel c x hx
 obtain ⟨u, a, h1, _, hR⟩ := h H enc w base spare held fuel [c] x hx
 rw [ho w u a hR] at h1
 simp at h1
 subst h1
 exact ⟨⟨a, hR⟩, ho _ _ _ hR⟩
def AggOf (Ss : List (World → Value → Prop)) (w : World) (v : Value) : Prop :=
 ∃ cs : List Value, v = .agg cs.toArray ∧ cs.length = Ss.length ∧ ∀ (i : Nat) (S : World → Value → Prop) (c : Value), Ss[i]? = some S → cs[i]? = some c → S w c ∧ c.cells = #[c]
def FieldsBy (fs : Array Field) (Ss : List (World → Value → Prop)) : Prop := fs.size = Ss.length ∧ ∀ (i : Nat) (f : Field) (S : World → Value → Prop), fs[i]? = some f → Ss[i]? = some S → Reads1 f.type S
theorem reads_agg {t : TypeId} {fs : Array Field} {Ss : List (World → Value → Prop)} (ht : Try.prog.underlying t = some (.struct fs)) (hc : Try.prog.cellsOf t = fs.size) (hone : Go.Deep.oneCellFields Try.prog fs = true) (hS : FieldsBy fs Ss) :
  Reads t fs.size (fun w u (_ : Unit) => AggOf Ss w u) := by
 intro H enc w base spare held fuel cs x h
 obtain ⟨xs, n, _, _, hl, hlen, hf⟩ := DataW.trod_struct ht h
 rw [hc] at hl
 refine ⟨.agg cs.toArray, (), by simp only [Value.cells, List.toList_toArray], by simp [Value.cells, hl], cs, rfl, by rw [hl, hS.1], fun i S c h1 h2 => ?_⟩
 have hi : i < fs.size := by
  have := (List.getElem?_eq_some_iff.1 h2).1
  omega
 obtain ⟨k0, k1⟩ := Go.Deep.hone_of hone i fs[i] (by simp [hi])
 have hx := hf i fs[i] (by simp [hi])
 rw [List.getElem?_eq_getElem (by omega)] at hx
 rw [k0, k1] at hx
 have e : (cs.drop i).take 1 = [c] := by
  have hi2 : i < cs.length := by omega
  rw [List.drop_eq_getElem_cons hi2]
  have : cs[i] = c := by
   rw [List.getElem?_eq_getElem hi2] at h2
   simpa using h2
  simp [this]
 rw [e] at hx
 exact hS.2 i fs[i] S (by simp [hi]) h1 H enc w base spare held n c _ hx
theorem Reads.imp {α β : Type} {t : TypeId} {s : Nat} {R : World → Value → α → Prop} {R' : World → Value → β → Prop} (h : Reads t s R) (hi : ∀ w u a, R w u a → ∃ b, R' w u b) : Reads t s R' := by
 intro H enc w base spare held fuel cs x hx
 obtain ⟨u, a, h1, h2, hR⟩ := h H enc w base spare held fuel cs x hx
 obtain ⟨b, hb⟩ := hi w u a hR
 exact ⟨u, b, h1, h2, hb⟩
theorem fields_of (l : List (Field × (World → Value → Prop))) (h : ∀ x ∈ l, Reads1 x.1.type x.2) : FieldsBy (l.map (·.1)).toArray (l.map (·.2)) := by
 refine ⟨by simp, fun i f S h1 h2 => ?_⟩
 simp only [List.getElem?_toArray, List.getElem?_map] at h1 h2
 cases hl : l[i]? with
 | none => simp [hl] at h1
 | some x =>
  simp [hl] at h1 h2
  subst h1 h2
  exact h x (List.mem_of_getElem? hl)
theorem fields1 {f0 : Field} {S0 : World → Value → Prop} (h0 : Reads1 f0.type S0) : FieldsBy #[f0] [S0] :=
 fields_of [(f0, S0)] (fun x hx => by
  simp only [List.mem_cons, List.not_mem_nil, or_false] at hx
  rcases hx with rfl
  exact h0)
theorem fields2 {f0 f1 : Field} {S0 S1 : World → Value → Prop} (h0 : Reads1 f0.type S0) (h1 : Reads1 f1.type S1) : FieldsBy #[f0, f1] [S0, S1] :=
 fields_of [(f0, S0), (f1, S1)] (fun x hx => by
  simp only [List.mem_cons, List.not_mem_nil, or_false] at hx
  rcases hx with rfl | rfl
  ·exact h0
  ·exact h1)
theorem fields3 {f0 f1 f2 : Field} {S0 S1 S2 : World → Value → Prop} (h0 : Reads1 f0.type S0) (h1 : Reads1 f1.type S1) (h2 : Reads1 f2.type S2) : FieldsBy #[f0, f1, f2] [S0, S1, S2] :=
 fields_of [(f0, S0), (f1, S1), (f2, S2)] (fun x hx => by
  simp only [List.mem_cons, List.not_mem_nil, or_false] at hx
  rcases hx with rfl | rfl | rfl
  ·exact h0
  ·exact h1
  ·exact h2)
theorem fields4 {f0 f1 f2 f3 : Field} {S0 S1 S2 S3 : World → Value → Prop} (h0 : Reads1 f0.type S0) (h1 : Reads1 f1.type S1) (h2 : Reads1 f2.type S2) (h3 : Reads1 f3.type S3) : FieldsBy #[f0, f1, f2, f3] [S0, S1, S2, S3] :=
 fields_of [(f0, S0), (f1, S1), (f2, S2), (f3, S3)] (fun x hx => by
  simp only [List.mem_cons, List.not_mem_nil, or_false] at hx
  rcases hx with rfl | rfl | rfl | rfl
  ·exact h0
  ·exact h1
  ·exact h2
  ·exact h3)
def RT {α : Type} (T : Ty α) : World → Value → α → Prop := fun w u a => (T.sv a).ok w.gh hs0 u
theorem gh_cell {w : World} {p : Addr} {v : Value} (h : w.cell? p = some v) : w.gh.cell p = some v := by
 unfold World.cell? at h
 unfold Gh.cell World.gh
 exact h
theorem RT.slice {α : Type} {T : Ty α} {w : World} {v : Value} {l : List α} (h : SliceOf T.s (RT T) w v l) : RT (lsT T) w v l := by
 obtain ⟨ao, n, cap, rfl, rfl, h1, h2, h3, h4⟩ := h
 refine ⟨⟨⟨ao, l.length, cap, rfl, rfl, h1, h2, h3, fun q a hq => ?_⟩, ao, cap, rfl⟩, trivial⟩
 obtain ⟨b, o, u, k1, k2, k3, k4⟩ := h4 q a hq
 exact ⟨b, o, u, k1, k2, k3, fun j c hj => gh_cell (k4 j c hj)⟩
theorem readsT_int {t : TypeId} (ht : Try.prog.underlying t = some (.int .i64)) : Reads t 1 (RT intT) := (reads_int ht).imp fun w u a h => ⟨a, by obtain ⟨rfl, _⟩ := h; exact ⟨rfl, trivial⟩⟩
theorem readsT_slice {α : Type} {T : Ty α} {t e : TypeId} (ht : Try.prog.underlying t = some (.slice e)) (hc : Try.prog.cellsOf e = T.s) (hs : 0 < T.s) (he : Reads e T.s (RT T)) : Reads t 1 (RT (lsT T)) := (reads_slice ht hc hs he).imp fun w u a h => ⟨a, RT.slice h⟩
theorem oneT {α : Type} {T : Ty α} (h : ∀ a, ∃ x, T.sv a = .one x ∧ x ≠ .junk) : One (RT T) := fun w v a hR => by
 obtain ⟨x, h1, h2⟩ := h a
 unfold RT at hR
 rw [h1] at hR
 have : cellV v := by
  have h3 := hR.2
  cases x <;> first | exact h3 | exact absurd rfl h2
 exact this.cells
theorem one_intT : One (RT intT) := oneT fun a => ⟨_, rfl, by simp⟩
theorem one_lsT {α : Type} {T : Ty α} : One (RT (lsT T)) := oneT fun a => ⟨_, rfl, by simp⟩
theorem topT_struct {α : Type} {T : Ty α} {H : Type} {enc : TypeId × Value → H} {w : World} {t : TypeId} {fs : Array Field} {r : Reach} {b base : Nat} {spare : Nat → Bool} {held : Bool} {v : Value} {d : DataW H} {p : List MemPlace} (ht : Try.prog.underlying t = some (.struct fs))
  (hT : ∀ a, ∃ cells, T.sv a = .agg cells) (hr : Reads t T.s (RT T)) (hv : Value.okWide Try.prog w r b t v) (h : DataW.Trod enc Try.prog w base spare held t v d p) : ∃ a, RT T w v a := by
 obtain ⟨cs, rfl, _⟩ := okWide_struct ht hv
 obtain ⟨fuel, hf⟩ := h
 obtain ⟨u, a, h1, _, hR⟩ := hr H enc w base spare held fuel _ _ hf
 refine ⟨a, ?_⟩
 obtain ⟨cells, hc⟩ := hT a
 have hR' := hR
 unfold RT at hR'
 rw [hc] at hR'
 obtain ⟨us, rfl, _⟩ := hR'
 have : cs = us.toArray := by
  simp only [Value.cells] at h1
  exact (Array.toList_inj.1 h1).symm
 subst this
 exact hR
theorem Base.below {w w' : World} {g' : Gh} (h : Base (cfg0 0 w w.gh) w' g') : Below w.heap.size w w' := ⟨h.os, h.tape, h.output, h.grows, fun b hb => h.frame b hb (fun h => h)⟩
theorem Ct.row {f : Nat} {ins : List SC} {w : World} {args : List Value} (h : Ct f ins [] (fun (_ : Unit) => True) (fun _ => .sv (.one (B true)))) (ha : okArgs w.gh hs0 ins args) : Calls Try.prog f args.toArray w (fun e w' => e = .returned (.bool true) ∧ Below w.heap.size w w') :=
 (h w w.gh hs0 args (gh_pers w) ha (fun i it hi => by simp at hi)).mono fun e w' ⟨v, g', _, h1, _, h2, h3⟩ => ⟨by rw [h1]; congr 1; exact h2.1, h3.below⟩
end Go.Proofs.Ytobenjahlicnoaa
namespace Go.Proofs.Ytobenjahlicnoaa
open Go.RowKit Go.MapKept
set_option linter.unusedSimpArgs false
set_option linter.unusedVariables false
set_option maxRecDepth 100000
theorem Item.ok_mv {g : Gh} {hs : Nat → Value} {f : Nat → Nat} {w : World} {v : Value} {it : Item} (h : (it.mv f).ok g hs w v) : it.ok g (fun i => hs (f i)) w v := by
 cases it with
 | box cells ty fz =>
  obtain ⟨b, cs, h1, h2, h3⟩ := h
  exact ⟨b, cs, h1, oks_ren h2, h3⟩
 | row _ _ _ _ => exact h
 | map _ => exact h
 | iter _ _ => exact h
 | siter _ _ => exact h
 | ext _ => exact h
 | grid tyo ty s rows link =>
  obtain ⟨us, ocs, h1, h2, h3, h3', h4, h4', hk, h5⟩ := h
  refine ⟨us, ocs, h1, h2, h3, h3', h4, h4', fun p k hl => ?_, h5⟩
  subst hl
  exact hk p (f k) rfl
 | gone => trivial
structure ItemsOk (may : Nat → Prop) (lo : Nat) (M : List Item) (g : Gh) (hs : Nat → Value) (w : World) : Prop where
 items : ∀ (i : Nat) (it : Item), M[i]? = some it → it.ok g hs w (hs i)
 sep : ∀ (i j : Nat) (it jt : Item), i ≠ j → M[i]? = some it → M[j]? = some jt → it.fz = false → jt ≠ .gone → ∀ b, Blk (hs i) b → ¬ Blk (hs j) b
 mine : ∀ (i : Nat) (it : Item), M[i]? = some it → it ≠ .gone → ∀ b, Blk (hs i) b → b < w.heap.size ∧ (it.fz = false → (may b ∨ lo ≤ b) ∧ g b = none)
def mayM (M : List Item) (hs : Nat → Value) (b : Nat) : Prop := ∃ (i : Nat) (it : Item), M[i]? = some it ∧ it.fz = false ∧ Blk (hs i) b
def CtE {β : Type} (f : Nat) (ins : List SC) (M : List Item) (pin : List Nat) (post : β → Prop) (out : β → SC) (M' : β → List Item) : Prop := ∀ (w : World) (g : Gh) (hs : Nat → Value) (args : List Value), Pers g w → okArgs g hs ins args → ItemsOk (fun _ => True) 0 M g hs w →
 Calls Try.prog f args.toArray w (fun en w' => ∃ v g' hs' r, en = .returned v ∧ post r ∧ (out r).ok g' hs' v ∧ (∀ i ∈ pin, hs' i = hs i) ∧ Base (cfgM 0 w g (mayM M hs)) w' g' ∧ ItemsOk (mayM M hs) w.heap.size (M' r) g' hs' w')
theorem CtE.imp {β γ : Type} {f : Nat} {ins : List SC} {M : List Item} {pin : List Nat} {post : β → Prop} {post' : γ → Prop} {out : β → SC} {out' : γ → SC} {M1 : β → List Item} {M2 : γ → List Item} (h : CtE f ins M pin post out M1) (hp : ∀ r, post r → ∃ s, post' s ∧ out' s = out r ∧ M2 s = M1 r) : CtE f ins M pin post' out' M2 := fun w g hs args h1 h2 h3 =>
 (h w g hs args h1 h2 h3).mono fun e w' ⟨v, g', hs', r, e1, e2, e3, e4⟩ => by
  obtain ⟨s, s1, s2, s3⟩ := hp r e2
  exact ⟨v, g', hs', s, e1, s1, by rw [s2]; exact e3, by rw [s3]; exact e4⟩
def pinS (pin : List Nat) (B : Nat → Nat) : SC → SC
 | .sv (.one (.ptr i off)) => bif pin.any (Nat.beq i) then .sv (.one (.pptr i off (B i))) else .sv (.one (.ptr i off))
 | x => x
def RetE {β : Type} (c : Cfg) (rs : Array ResultVar) (pin : List Nat) (B : Nat → Nat) (post : β → Prop) (out : β → SC) (M' : β → List Item) : Po := fun a w => a.defers = c.dfr ∧ ∃ v g hs r, (resR rs a.tmps).run Try.prog w = .ok v w ∧ post r ∧ (out r).ok g hs v ∧ (∀ i ∈ pin, hs i = .pointer (some ⟨B i, 0, none⟩)) ∧ Base c w g ∧ ItemsOk c.may c.w0.heap.size (M' r) g hs w
def pinned (pin : List Nat) (ins : List SC) : Bool := pin.all fun i => ins.any fun x => match x with
 | .sv (.one (.ptr j 0)) => Nat.beq i j
 | _ => false
theorem okArgs_get {g : Gh} {hs : Nat → Value} : ∀ {l : List SC} {us : List Value} {x : SC}, okArgs g hs l us → x ∈ l → ∃ u, x.ok g hs u
 | [], _, _, _, h => by simp at h
 | _ :: _, [], _, h, _ => h.elim
 | y :: l, u :: us, x, h, hx => by
  rcases List.mem_cons.1 hx with rfl | hx
  ·exact ⟨u, h.1⟩
  ·exact okArgs_get h.2 hx
theorem okArgs_pin {g : Gh} {hs : Nat → Value} {pin : List Nat} {B : Nat → Nat} (hB : ∀ i ∈ pin, hs i = .pointer (some ⟨B i, 0, none⟩)) : ∀ {l : List SC} {us : List Value}, okArgs g hs l us → okArgs g hs (l.map (pinS pin B)) us
 | [], [], _ => trivial
 | [], _ :: _, h => h.elim
 | _ :: _, [], h => h.elim
 | x :: l, u :: us, h => by
  refine ⟨?_, okArgs_pin hB h.2⟩
  have h1 := h.1
  unfold pinS
  split
  ·rename_i i off
   cases hc : pin.any (Nat.beq i) with
   | false => exact h1
   | true =>
    obtain ⟨j, hj, e⟩ := List.any_eq_true.1 hc
    have e := Nat.eq_of_beq_eq_true e
    subst e
    obtain ⟨⟨b, h2, h3⟩, h4⟩ := h1
    have h5 := hB i hj
    rw [h2] at h5
    simp at h5
    subst h5
    exact ⟨⟨h2, h3⟩, h4⟩
  ·exact h1
theorem CtE.body {β : Type} {f : Nat} {fn : Func} {code : Code} {n : Nat} {rs : Array ResultVar} {ins : List SC} {M : List Item} {pin : List Nat} {post : β → Prop} {out : β → SC} {M' : β → List Item} (hf : Try.prog.funcs[f]? = some fn) (hb : fn.body = some code) (hn : fn.ntmps = n) (hr : fn.results = rs)
  (hl : Nat.ble ins.length n = true) (hpin : pinned pin ins = true) (h : ∀ (c : Cfg) (B : Nat → Nat), c.n = n → En c ⟨enumF 0 (ins.map (pinS pin B)), M⟩ (cwp code (PQ c (RetE c rs pin B post out M') [] (RetE c rs pin B post out M')))) : CtE f ins M pin post out M' := fun w g hs args hp ha hm => by
 have hl := Nat.le_of_ble_eq_true hl
 have hla := okArgs_length ha
 have hB : ∀ i ∈ pin, hs i = .pointer (some ⟨(blk (hs i)).getD 0, 0, none⟩) := fun i hi => by
  obtain ⟨x, hx, e⟩ := List.any_eq_true.1 (List.all_eq_true.1 hpin i hi)
  split at e
  ·rename_i j
   have e := Nat.eq_of_beq_eq_true e
   subst e
   obtain ⟨u, ⟨b, h1, _⟩, _⟩ := okArgs_get ha hx
   rw [h1]
   rfl
  ·cases e
 refine calls_of_wp hf hb (Code.wp_mono (fun e a w' q => ?_) (h (cfgM n w g (mayM M hs)) (fun i => (blk (hs i)).getD 0) rfl { tmps := args.toArray ++ Array.replicate (fn.ntmps - args.toArray.size) undef, defers := [] } w ⟨g, hs, ?_⟩))
 ·have key : RetE (cfgM n w g (mayM M hs)) rs pin (fun i => (blk (hs i)).getD 0) post out M' a w' → a.defers = [] ∧ ∃ v, (results fn a.tmps).run Try.prog w' = .ok v w' ∧ ∃ v' g' hs' r, Ending.returned v = .returned v' ∧ post r ∧ (out r).ok g' hs' v' ∧ (∀ i ∈ pin, hs' i = hs i) ∧ Base (cfgM 0 w g (mayM M hs)) w' g' ∧ ItemsOk (mayM M hs) w.heap.size (M' r) g' hs' w' := fun ⟨h1, v, g', hs', r, h2, h3, h4, h5, h6, h7⟩ => by
   refine ⟨h1, v, ?_, v, g', hs', r, rfl, h3, h4, fun i hi => (h5 i hi).trans (hB i hi).symm, ⟨h6.os, h6.tape, h6.output, h6.grows, h6.frame, h6.ghle, h6.ghnew, h6.pers⟩, h7⟩
   subst hr
   exact h2
  cases e <;> first | exact key q | exact (q : False).elim | exact (q.2 : False).elim
 ·refine ⟨?_, rfl, ⟨rfl, rfl, rfl, Nat.le_refl _, fun _ _ _ => rfl, Gh.le.refl g, fun b o e => .inl e, hp⟩, fun t x hx => ?_, hm.items, hm.sep, fun i it hi hn b hb => ?_⟩
  ·simp [hn]
   omega
  ·obtain ⟨u, h1, _, h3⟩ := enumF_ok (okArgs_pin hB ha) hx
   simp only [Nat.sub_zero] at h1
   have hlt := (List.getElem?_eq_some_iff.1 h1).1
   have : (args.toArray ++ Array.replicate (fn.ntmps - args.toArray.size) undef).getD t undef = u := by
    rw [Array.getD_eq_getD_getElem?, Array.getElem?_append_left (by simpa using hlt)]
    simp [h1]
   rw [this]
   exact h3
  ·obtain ⟨h1, h2⟩ := hm.mine i it hi hn b hb
   exact ⟨h1, fun hf => ⟨.inl ⟨i, it, hi, hf, hb⟩, (h2 hf).2⟩⟩
section
variable {c : Cfg} {S S1 : St} {a : Act} {w : World} {g : Gh} {hs : Nat → Value} {tab : Tab} {n : Nat} {o : Oper} {ops : Array Oper} {rest L : List Oper} {N : Po}
theorem En.backE {β : Type} {post : β → Prop} {out : β → SC} {M' : β → List Item} {rs : Array ResultVar} {pin : List Nat} {B : Nat → Nat} (ts : List Nat) (ht : tab.ok) (r : β) (hp : post r) (e : evR tab S rs = some (out r)) (hM : (dropM (M' r) S.M).1 = (dropM (M' r) S.M).2) (hB : ts.map (fun t => look t S.F) = pin.map fun i => some (.sv (.one (.pptr i 0 (B i))))) : En c S (RetE c rs pin B post out M') := fun a w ⟨g, hs, h⟩ => by
 obtain ⟨v, h1, h2⟩ := evR_ok ht h e
 have hM := dropM_ok hM
 have hm : ∀ (i : Nat) (it : Item), (M' r)[i]? = some it → it ≠ .gone → S.M[i]? = some it := fun i it hi hn => (hM i it hi).resolve_left hn
 refine ⟨h.defers, v, g, hs, r, h1, hp, h2, fun i hi => ?_, h.base, fun i it hi => ?_, fun i j it jt hij hi hj hfi hnj => h.sep i j it jt hij (hm i it hi (fz_gone hfi)) (hm j jt hj hnj) hfi hnj, fun i it hi hni => h.mine i it (hm i it hi hni) hni⟩
 ·obtain ⟨j, hj⟩ := List.mem_iff_getElem?.1 hi
  have := congrArg (·[j]?) hB
  simp only [List.getElem?_map, hj, Option.map_some] at this
  cases ht : ts[j]? with
  | none => rw [ht] at this; simp at this
  | some t =>
   rw [ht] at this
   simp only [Option.map_some, Option.some.injEq] at this
   exact (h.slots t _ (look_mem this)).1.1
 ·rcases hM i it hi with rfl | h1
  ·trivial
  ·exact h.items i it h1
def ArgsAs (c : Cfg) (S : St) (args : Array Operand) (caps : List Nat) (ins : List SC) : Prop := ∀ a w g hs, Ok' c S a w g hs → okArgs g hs ins (args.toList.map a.eval ++ caps.map hs)
theorem argsAs {args : Array Operand} {caps : List Nat} {ins : List SC} (ha : (match evXs S.F args.toList with | some l => some (l ++ caps.map fun i => .sv (.one (.ptr i 0))) | none => none) = some ins) (hcb : caps.all (boxB S) = true) : ArgsAs c S args caps ins := fun a w g hs h => by
 split at ha
 case h_2 => cases ha
 rename_i l hl
 simp only [Option.some.injEq] at ha
 have h1 := evXs_ok h hl
 have hcp : ∀ i ∈ caps, ∃ b, hs i = .pointer (some ⟨b, 0, none⟩) := fun i hi => by
  have := List.all_eq_true.1 hcb i hi
  unfold boxB at this
  cases hm : S.M[i]? with
  | none => rw [hm] at this; cases this
  | some it =>
   rw [hm] at this
   cases it <;> try (cases this; done)
   obtain ⟨b, cs, h1, _⟩ := h.items i _ hm
   exact ⟨b, h1⟩
 have h2 : okArgs g hs (caps.map fun i => SC.sv (.one (.ptr i 0))) (caps.map hs) := by
  clear ha hcb
  induction caps with
  | nil => trivial
  | cons i caps ih =>
   refine ⟨?_, ih (fun j hj => hcp j (List.mem_cons_of_mem _ hj))⟩
   obtain ⟨b, hb⟩ := hcp i (by simp)
   exact ⟨⟨b, hb, hb⟩, by rw [hb]; trivial⟩
 have h3 := okArgs_append h1 h2
 rw [ha] at h3
 exact h3
def rnF (rn : List Nat) (m : Nat) (i : Nat) : Nat := bif Nat.blt i rn.length then rn.getD i 0 else m + (i - rn.length)
def putItems (f : Nat → Nat) : List Item → List Nat → List Item → List Item
 | M, j :: rn, it :: l => putItems f (M.set j (it.mv f)) rn l
 | M, [], l => M ++ l.map (Item.mv f)
 | M, _, [] => M
theorem putItems_get {f : Nat → Nat} : ∀ {rn : List Nat} {l M : List Item} {k : Nat} {jt : Item}, rn.length ≤ l.length → rn.Nodup → (∀ j ∈ rn, j < M.length) → (putItems f M rn l)[k]? = some jt →
  (k ∉ rn ∧ k < M.length ∧ M[k]? = some jt) ∨ ∃ i it, l[i]? = some it ∧ jt = it.mv f ∧ ((i < rn.length ∧ rn[i]? = some k) ∨ (rn.length ≤ i ∧ k = M.length + (i - rn.length)))
 | [], l, M, k, jt, _, _, _, h => by
  simp only [putItems] at h
  rw [List.getElem?_append] at h
  split at h
  ·rename_i hlt
   exact .inl ⟨by simp, hlt, h⟩
  ·rename_i hge
   rw [List.getElem?_map] at h
   cases hx : l[k - M.length]? with
   | none => rw [hx] at h; simp at h
   | some it =>
    rw [hx] at h
    simp at h
    exact .inr ⟨k - M.length, it, hx, h.symm, .inr ⟨by simp, by simp; omega⟩⟩
 | j :: rn, [], M, k, jt, h, _, _, _ => by simp at h
 | j :: rn, it :: l, M, k, jt, hl, hn, hr, h => by
  simp only [putItems] at h
  rw [List.nodup_cons] at hn
  rcases putItems_get (by simpa using hl) hn.2 (fun x hx => by rw [List.length_set]; exact hr x (by simp [hx])) h with ⟨h1, h2, h3⟩ | ⟨i, it', h1, h2, h3⟩
  ·rw [List.length_set] at h2
   rw [List.getElem?_set] at h3
   by_cases e : j = k
   ·subst e
    rw [if_pos rfl, if_pos h2] at h3
    simp at h3
    exact .inr ⟨0, it, rfl, h3.symm, .inl ⟨by simp, rfl⟩⟩
   ·rw [if_neg e] at h3
    exact .inl ⟨by simp; exact ⟨Ne.symm e, h1⟩, h2, h3⟩
  ·rw [List.length_set] at h3
   refine .inr ⟨i + 1, it', by simpa using h1, h2, ?_⟩
   rcases h3 with ⟨h4, h5⟩ | ⟨h4, h5⟩
   ·exact .inl ⟨by simpa using h4, by simpa using h5⟩
   ·exact .inr ⟨by simpa using h4, by simp only [List.length_cons]; omega⟩
def aloneE (S : St) (rn pin : List Nat) : Bool :=
 S.F.all (fun x => x.2.refs.all fun k => Nat.blt k S.M.length && (!(rn.any (Nat.beq k)) || pin.any fun i => Nat.beq (rn.getD i S.M.length) k)) && ((List.range S.M.length).zip S.M).all fun x => rn.any (Nat.beq x.1) || x.2.refs.all fun k => Nat.blt k S.M.length && (!(rn.any (Nat.beq k)) || pin.any fun i => Nat.beq (rn.getD i S.M.length) k)
def refsB (l : List Item) : Bool := l.all fun it => it.refs.all fun k => Nat.blt k l.length
def backB (pin : List Nat) (M M' : List Item) : Prop := ∀ (i : Nat) (it : Item), M'[i]? = some it → it ≠ .gone → it.fz = true → i ∈ pin ∧ ∃ jt, M[i]? = some jt ∧ jt.fz = true ∧ jt ≠ .gone
theorem any_beq {l : List Nat} {k : Nat} : l.any (Nat.beq k) = true ↔ k ∈ l := by
 rw [List.any_eq_true]
 constructor
 ·rintro ⟨x, hx, e⟩
  have := Nat.eq_of_beq_eq_true e
  subst this
  exact hx
 ·intro h
  exact ⟨k, h, by simp⟩
theorem Ok'.backE (h : Ok' c S a w g hs) {M M' : List Item} {rn pin : List Nat} {w' : World} {g' : Gh} {hs' : Nat → Value} (hM : M.map (fun it => some (it.mv (rnF rn S.M.length))) = rn.map (fun j => S.M[j]?)) (hnd : rn.Nodup) (hal : aloneE S rn pin = true) (hrf : refsB M' = true) (hlen : M.length ≤ M'.length) (hbk : backB pin M M')
  (hpin : ∀ i ∈ pin, hs' i = hs (rnF rn S.M.length i)) (hpl : ∀ i ∈ pin, i < rn.length) (hb : Base (cfgM 0 w g (mayM M (fun i => hs (rnF rn S.M.length i)))) w' g') (hi : ItemsOk (mayM M (fun i => hs (rnF rn S.M.length i))) w.heap.size M' g' hs' w') :
  ∃ hsN : Nat → Value, Ok' c ⟨S.F, putItems (rnF rn S.M.length) S.M rn M'⟩ a w' g' hsN ∧ ∀ i, i < M'.length → hsN (rnF rn S.M.length i) = hs' i := by
 classical
 obtain ⟨hal1, hal2⟩ := (Bool.and_eq_true _ _).mp hal
 have hlr : M.length = rn.length := by have := congrArg List.length hM; simpa using this
 have hat : ∀ (i : Nat) (it : Item), M[i]? = some it → ∃ j, rn[i]? = some j ∧ S.M[j]? = some (it.mv (rnF rn S.M.length)) := fun i it hi => by
  have := congrArg (·[i]?) hM
  simp only [List.getElem?_map, hi, Option.map_some] at this
  cases hr : rn[i]? with
  | none => rw [hr] at this; simp at this
  | some j => rw [hr] at this; simp at this; exact ⟨j, rfl, this.symm⟩
 have hrnlt : ∀ j ∈ rn, j < S.M.length := fun j hj => by
  obtain ⟨i, hi⟩ := List.mem_iff_getElem?.1 hj
  have hlt := (List.getElem?_eq_some_iff.1 hi).1
  obtain ⟨j', h1, h2⟩ := hat i (M[i]'(by omega)) (by simp)
  rw [hi] at h1
  cases h1
  exact (List.getElem?_eq_some_iff.1 h2).1
 have hrnF : ∀ i j, rn[i]? = some j → rnF rn S.M.length i = j := fun i j hi => by
  have hlt := (List.getElem?_eq_some_iff.1 hi).1
  unfold rnF
  rw [show Nat.blt i rn.length = true from by simpa [Nat.blt_eq] using hlt]
  simp [hi]
 have hrnG : ∀ i, rn.length ≤ i → rnF rn S.M.length i = S.M.length + (i - rn.length) := fun i hi => by
  unfold rnF
  rw [show Nat.blt i rn.length = false from by cases hb : Nat.blt i rn.length with | false => rfl | true => rw [Nat.blt_eq] at hb; omega]
  rfl
 let hsN : Nat → Value := fun k => if hk : ∃ i, rn[i]? = some k then hs' hk.choose else if S.M.length ≤ k then hs' (k - S.M.length + rn.length) else hs k
 have hin : ∀ i k, rn[i]? = some k → hsN k = hs' i := fun i k hi => by
  have hk : ∃ i, rn[i]? = some k := ⟨i, hi⟩
  show (if hk : ∃ i, rn[i]? = some k then hs' hk.choose else _) = _
  rw [dif_pos hk]
  congr 1
  have h1 := hk.choose_spec
  exact (List.getElem?_inj (List.getElem?_eq_some_iff.1 h1).1 hnd).1 (h1.trans hi.symm)
 have hout : ∀ k, k ∉ rn → k < S.M.length → hsN k = hs k := fun k hk hlt => by
  show (if hk : ∃ i, rn[i]? = some k then hs' hk.choose else _) = _
  rw [dif_neg (fun ⟨i, hi⟩ => hk (List.mem_of_getElem? hi)), if_neg (by omega)]
 have hnew : ∀ i, rn.length ≤ i → hsN (S.M.length + (i - rn.length)) = hs' i := fun i hi => by
  show (if hk : ∃ j, rn[j]? = some (S.M.length + (i - rn.length)) then hs' hk.choose else _) = _
  rw [dif_neg (fun ⟨j, hj⟩ => by have := hrnlt _ (List.mem_of_getElem? hj); omega), if_pos (by omega)]
  congr 1
  omega
 have hcor : ∀ i, i < M'.length → hsN (rnF rn S.M.length i) = hs' i := fun i hi => by
  by_cases hlt : i < rn.length
  ·rw [hrnF i rn[i] (by simp)]
   exact hin i _ (by simp)
  ·rw [hrnG i (by omega)]
   exact hnew i (by omega)
 have hsafe : ∀ k, (Nat.blt k S.M.length && (!(rn.any (Nat.beq k)) || pin.any fun i => Nat.beq (rn.getD i S.M.length) k)) = true → hsN k = hs k := fun k hk => by
  obtain ⟨hlt, hk⟩ := (Bool.and_eq_true _ _).mp hk
  rw [Nat.blt_eq] at hlt
  rw [Bool.or_eq_true] at hk
  rcases hk with hk | hk
  ·refine hout k (fun hm => ?_) hlt
   rw [any_beq.2 hm] at hk
   cases hk
  ·obtain ⟨i, hi, e⟩ := List.any_eq_true.1 hk
   have e := Nat.eq_of_beq_eq_true e
   have hil := hpl i hi
   have hgi : rn[i]? = some rn[i] := by simp
   have e2 : rn[i] = k := by rw [← e]; simp [hil]
   rw [e2] at hgi
   rw [hin i k hgi, hpin i hi, hrnF i k hgi]
 have hmay : ∀ b, mayM M (fun i => hs (rnF rn S.M.length i)) b → ∃ j it, j ∈ rn ∧ S.M[j]? = some it ∧ it.fz = false ∧ Blk (hs j) b := fun b ⟨i, it, h1, h2, h3⟩ => by
  obtain ⟨j, h4, h5⟩ := hat i it h1
  simp only [hrnF i j h4] at h3
  exact ⟨j, _, List.mem_of_getElem? h4, h5, by rw [Item.mv_fz]; exact h2, h3⟩
 have hoth : ∀ k jt b, k ∉ rn → S.M[k]? = some jt → jt ≠ .gone → Blk (hs k) b → ¬ mayM M (fun i => hs (rnF rn S.M.length i)) b := fun k jt b h1 h2 h3 h4 h5 => by
  obtain ⟨j, it, h6, h7, h8, h9⟩ := hmay b h5
  exact h.sep j k it jt (fun e => h1 (e ▸ h6)) h7 h2 h8 h3 b h9 h4
 have hkM : ∀ i k it, M'[i]? = some it → ((i < rn.length ∧ rn[i]? = some k) ∨ (rn.length ≤ i ∧ k = S.M.length + (i - rn.length))) → hsN k = hs' i := fun i k it h1 h2 => by
  rcases h2 with ⟨h2, h3⟩ | ⟨h2, rfl⟩
  ·exact hin i k h3
  ·exact hnew i h2
 have hget := fun (k : Nat) (jt : Item) (hk : (putItems (rnF rn S.M.length) S.M rn M')[k]? = some jt) => putItems_get (f := rnF rn S.M.length) (by omega) hnd hrnlt hk
 have hmine' : ∀ i it, M'[i]? = some it → it ≠ .gone → it.fz = false → ∀ b, Blk (hs' i) b → (c.may b ∨ c.w0.heap.size ≤ b) ∧ g' b = none := fun i it h1 h2 h3 b h4 => by
  obtain ⟨_, h5⟩ := hi.mine i it h1 h2 b h4
  obtain ⟨h6, h7⟩ := h5 h3
  refine ⟨?_, h7⟩
  rcases h6 with h6 | h6
  ·obtain ⟨j, jt, _, h8, h9, h10⟩ := hmay b h6
   exact ((h.mine j jt h8 (fz_gone h9) b h10).2 h9).1
  ·exact .inr (Nat.le_trans h.base.grows h6)
 -- a piece that came back, and one that was not handed on, stand apart
 have hmix : ∀ i it k jt b, M'[i]? = some it → it ≠ .gone → k ∉ rn → S.M[k]? = some jt → jt ≠ .gone → (it.fz = false ∨ jt.fz = false) → Blk (hs' i) b → ¬ Blk (hs k) b := fun i it k jt b h1 h2 h3 h4 h5 h6 h7 h8 => by
  cases hf : it.fz with
  | false =>
   obtain ⟨_, h9⟩ := hi.mine i it h1 h2 b h7
   rcases (h9 hf).1 with h10 | h10
   ·exact hoth k jt b h3 h4 h5 h8 h10
   ·have := (h.mine k jt h4 h5 b h8).1
    omega
  | true =>
   have hjf : jt.fz = false := by rcases h6 with h6 | h6; (rw [hf] at h6; cases h6); exact h6
   obtain ⟨h9, mt, h10, h11, h12⟩ := hbk i it h1 h2 hf
   obtain ⟨j, h13, h14⟩ := hat i mt h10
   rw [hpin i h9, hrnF i j h13] at h7
   exact h.sep k j jt _ (fun e => h3 (e ▸ List.mem_of_getElem? h13)) h4 h14 hjf (fun e => h12 (Item.mv_gone.1 e)) b h8 h7
 refine ⟨hsN, ⟨h.size, h.defers, ?_, fun t x hx => ?_, fun k jt hk => ?_, fun k l jt lt hkl hk hl hf hn b hb1 => ?_, fun k jt hk hn b hb1 => ?_⟩, hcor⟩
 ·refine ⟨hb.os.trans h.base.os, hb.tape.trans h.base.tape, hb.output.trans h.base.output, Nat.le_trans h.base.grows hb.grows, fun b hb1 hm => ?_, h.base.ghle.trans hb.ghle, fun b o e => ?_, hb.pers⟩
  ·refine (hb.frame b (Nat.lt_of_lt_of_le hb1 h.base.grows) fun hm2 => ?_).trans (h.base.frame b hb1 hm)
   obtain ⟨j, jt, _, h8, h9, h10⟩ := hmay b hm2
   rcases ((h.mine j jt h8 (fz_gone h9) b h10).2 h9).1 with h11 | h11
   ·exact hm h11
   ·omega
  ·rcases hb.ghnew b o e with h1 | h1 | h1
   ·exact h.base.ghnew b o h1
   ·obtain ⟨j, jt, _, h8, h9, h10⟩ := hmay b h1
    exact .inr ((h.mine j jt h8 (fz_gone h9) b h10).2 h9).1
   ·exact .inr (.inr (Nat.le_trans h.base.grows h1))
 ·refine SC.ok_hs (fun k hk => hsafe k ?_) (SC.mono hb.ghle (h.slots t x hx))
  exact List.all_eq_true.1 (List.all_eq_true.1 hal1 _ hx) k hk
 ·rcases hget k jt hk with ⟨h1, h2, h3⟩ | ⟨i, it, h1, rfl, h3⟩
  ·by_cases hn : jt = .gone
   ·subst hn; trivial
   ·rw [hout k h1 h2]
    refine Item.ok_hs (fun q hq => hsafe q ?_) (Item.same hb.ghle (fun b hb1 => hb.frame b (h.mine k jt h3 hn b hb1).1 (hoth k jt b h1 h3 hn hb1)) (h.items k jt h3))
    have := List.all_eq_true.1 hal2 (k, jt) (List.mem_iff_getElem?.2 ⟨k, by rw [List.getElem?_zip_eq_some]; exact ⟨by simp [h2], h3⟩⟩)
    rw [Bool.or_eq_true] at this
    rcases this with h5 | h5
    ·exact absurd (any_beq.1 h5) h1
    ·exact List.all_eq_true.1 h5 q hq
  ·rw [hkM i k it h1 h3]
   refine Item.mv_ok (Item.ok_hs (fun q hq => hcor q ?_) (hi.items i it h1))
   have := List.all_eq_true.1 (List.all_eq_true.1 hrf it (List.mem_of_getElem? h1)) q hq
   rwa [Nat.blt_eq] at this
 ·rcases hget k jt hk with ⟨h1, h2, h3⟩ | ⟨i, it, h1, rfl, h3⟩ <;> rcases hget l lt hl with ⟨k1, k2, k3⟩ | ⟨i', it', k1, rfl, k3⟩
  ·rw [hout k h1 h2] at hb1
   rw [hout l k1 k2]
   exact h.sep k l jt lt hkl h3 k3 hf hn b hb1
  ·rw [hout k h1 h2] at hb1
   rw [hkM i' l it' k1 k3]
   intro e
   exact hmix i' it' k jt b k1 (fun e => hn (by rw [e]; rfl)) h1 h3 (fz_gone hf) (.inr hf) e hb1
  ·rw [hkM i k it h1 h3] at hb1
   rw [hout l k1 k2]
   rw [Item.mv_fz] at hf
   exact hmix i it l lt b h1 (fz_gone hf) k1 k3 hn (.inl hf) hb1
  ·rw [hkM i k it h1 h3] at hb1
   rw [hkM i' l it' k1 k3]
   rw [Item.mv_fz] at hf
   refine hi.sep i i' it it' (fun e => ?_) h1 k1 hf (fun e => hn (by rw [e]; rfl)) b hb1
   subst e
   rcases h3 with ⟨h3, h4⟩ | ⟨h3, h4⟩ <;> rcases k3 with ⟨k3, k4⟩ | ⟨k3, k4⟩
   ·rw [h4] at k4; exact hkl (Option.some.inj k4)
   ·omega
   ·omega
   ·exact hkl (h4.trans k4.symm)
 ·rcases hget k jt hk with ⟨h1, h2, h3⟩ | ⟨i, it, h1, rfl, h3⟩
  ·rw [hout k h1 h2] at hb1
   obtain ⟨m1, m2⟩ := h.mine k jt h3 hn b hb1
   refine ⟨Nat.lt_of_lt_of_le m1 hb.grows, fun hf => ⟨(m2 hf).1, ?_⟩⟩
   cases hg : g' b with
   | none => rfl
   | some o =>
    rcases hb.ghnew b o hg with h5 | h5 | h5
    ·have h6 := (m2 hf).2
     have h5 : g b = some o := h5
     rw [h6] at h5; cases h5
    ·exact absurd h5 (hoth k jt b h1 h3 hn hb1)
    ·have : w.heap.size ≤ b := h5
     omega
  ·rw [hkM i k it h1 h3] at hb1
   have hn' : it ≠ .gone := fun e => hn (by rw [e]; rfl)
   refine ⟨(hi.mine i it h1 hn' b hb1).1, fun hf => ?_⟩
   rw [Item.mv_fz] at hf
   exact hmine' i it h1 hn' hf b hb1
def isGone : Item → Bool
 | .gone => true
 | _ => false
def backC (pin : List Nat) (M M' : List Item) : Bool := ((List.range M'.length).zip M').all fun x => isGone x.2 || !x.2.fz || (pin.any (Nat.beq x.1) && match M[x.1]? with
 | some jt => jt.fz && !isGone jt
 | none => false)
theorem backB_of {pin : List Nat} {M M' : List Item} (h : backC pin M M' = true) : backB pin M M' := fun i it hi hn hf => by
 have hlt := (List.getElem?_eq_some_iff.1 hi).1
 have := List.all_eq_true.1 h (i, it) (List.mem_iff_getElem?.2 ⟨i, by rw [List.getElem?_zip_eq_some]; exact ⟨by simp [hlt], hi⟩⟩)
 have hg : isGone it = false := by cases it <;> first | rfl | exact absurd rfl hn
 simp only [hg, hf, Bool.not_true, Bool.or_self, Bool.false_or, Bool.and_eq_true] at this
 obtain ⟨h1, h2⟩ := this
 refine ⟨any_beq.1 h1, ?_⟩
 split at h2
 ·rename_i jt hj
  obtain ⟨h3, h4⟩ := (Bool.and_eq_true _ _).mp h2
  exact ⟨jt, hj, h3, fun e => by subst e; cases h4⟩
 ·cases h2
theorem items_in (h : Ok' c S a w g hs) {M : List Item} {rn : List Nat} (hM : M.map (fun it => some (it.mv (rnF rn S.M.length))) = rn.map (fun j => S.M[j]?)) (hnd : rn.Nodup) : ItemsOk (fun _ => True) 0 M g (fun i => hs (rnF rn S.M.length i)) w := by
 have hat : ∀ (i : Nat) (it : Item), M[i]? = some it → ∃ j, rn[i]? = some j ∧ rnF rn S.M.length i = j ∧ S.M[j]? = some (it.mv (rnF rn S.M.length)) := fun i it hi => by
  have := congrArg (·[i]?) hM
  simp only [List.getElem?_map, hi, Option.map_some] at this
  cases hr : rn[i]? with
  | none => rw [hr] at this; simp at this
  | some j =>
   rw [hr] at this
   simp at this
   have hlt := (List.getElem?_eq_some_iff.1 hr).1
   refine ⟨j, rfl, ?_, this.symm⟩
   unfold rnF
   rw [show Nat.blt i rn.length = true from by simpa [Nat.blt_eq] using hlt]
   simp [hr]
 refine ⟨fun i it hi => ?_, fun i j it jt hij hi hj hf hn b hb => ?_, fun i it hi hn b hb => ?_⟩
 ·obtain ⟨j, h1, h2, h3⟩ := hat i it hi
  rw [h2]
  exact Item.ok_mv (h.items j _ h3)
 ·obtain ⟨k, h1, h2, h3⟩ := hat i it hi
  obtain ⟨l, k1, k2, k3⟩ := hat j jt hj
  simp only [h2] at hb
  simp only [k2]
  refine h.sep k l _ _ (fun e => hij ?_) h3 k3 (by rw [Item.mv_fz]; exact hf) (fun e => hn (Item.mv_gone.1 e)) b hb
  subst e
  exact (List.getElem?_inj (List.getElem?_eq_some_iff.1 h1).1 hnd).1 (h1.trans k1.symm)
 ·obtain ⟨k, h1, h2, h3⟩ := hat i it hi
  simp only [h2] at hb
  obtain ⟨m1, m2⟩ := h.mine k _ h3 (fun e => hn (Item.mv_gone.1 e)) b hb
  exact ⟨m1, fun hf => ⟨.inl trivial, (m2 (by rw [Item.mv_fz]; exact hf)).2⟩⟩
theorem WL.callE {β : Type} {f : Nat} {ins : List SC} {M : List Item} {pin : List Nat} {post : β → Prop} {out : β → SC} {M' : β → List Item} (ct : CtE f ins M pin post out M') (en : ∀ args w, (callFunc f args).run Try.prog w = .ok (.enter f args) w) {caps : List Nat} (rn : List Nat) {fo : Operand} {args : Array Operand} {ats : Array TypeId}
  (hn : c.n = n) (hw : wantE ops S.F o = some true) (ho : o.op = .call ⟨.value fo, args, ats⟩) (hf : evX S.F fo = some (.sv (.one (.fn f caps)))) (ha : ArgsAs c S args caps (ins.map (SC.ren (rnF rn S.M.length))))
  (hM : M.map (fun it => some (it.mv (rnF rn S.M.length))) = rn.map (fun j => S.M[j]?)) (hnd : rn.Nodup) (hal : aloneE S rn pin = true) (hpl : pin.all (fun i => Nat.blt i rn.length) = true)
  (h : ∀ r, post r → (refsB (M' r) && Nat.ble M.length (M' r).length && backC pin M (M' r) && (out r).refs.all (fun i => Nat.blt i (M' r).length)) = true ∧ ∃ S1, putE n o.dst ((out r).ren (rnF rn S.M.length)) ⟨S.F, putItems (rnF rn S.M.length) S.M rn (M' r)⟩ = some S1 ∧ WL c ops rest S1 N) : WL c ops (o :: rest) S N := fun a w ⟨g, hs, hk⟩ => by
 unfold wpList
 rw [if_pos (wantE_ok hk hw)]
 refine .inl ?_
 unfold Oper.wp
 have hfv : a.eval fo = .func (.func f) #[] (caps.map hs).toArray := (evX_ok hk hf).1
 have hrun : (execOp a.eval o).run Try.prog w = .ok (.enter f ((args.toList.map a.eval) ++ caps.map hs).toArray) w := by
  unfold execOp
  simp only [ho, resolve, hfv, Deferred.ofValue, Sem.run_bind, Sem.run_pure, Result.andThen_ok, invoke]
  rw [show (#[] ++ Array.map a.eval args ++ (List.map hs caps).toArray : Array Value) = (args.toList.map a.eval ++ caps.map hs).toArray by simp]
  exact en _ _
 rw [hrun]
 refine (ct w g (fun i => hs (rnF rn S.M.length i)) _ hk.base.pers (okArgs_ren (ha a w g hs hk)) (items_in hk hM hnd)).mono ?_
 rintro e' w' ⟨v, g', hs', r, rfl, hq, h3, h4, h5, h6⟩
 obtain ⟨hc, S1, hp, hW⟩ := h r hq
 simp only [Bool.and_eq_true] at hc
 obtain ⟨⟨⟨c1, c2⟩, c3⟩, c4⟩ := hc
 obtain ⟨hsN, n1, n2⟩ := hk.backE hM hnd hal c1 (Nat.le_of_ble_eq_true c2) (backB_of c3) h4 (fun i hi => by have := List.all_eq_true.1 hpl i hi; rwa [Nat.blt_eq] at this) h5 h6
 refine hW _ _ ⟨g', hsN, putE_ok n1 hn (SC.ren_ok (SC.ok_hs (fun i hi => n2 i ?_) h3)) hp⟩
 have := List.all_eq_true.1 c4 i hi
 rwa [Nat.blt_eq] at this
end
theorem rowRead.take {α : Type} {T : Ty α} {l : List α} {g : Gh} {cs : List Value} (h : rowRead T l g cs) (k : Nat) : rowRead T (l.take k) g (cs.take (k * T.s)) := by
 obtain ⟨us, rfl, h2, h3⟩ := h
 have hs := rowRead.sizes h2 h3
 refine ⟨us.take k, ?_, by simp [h2], fun q u a hu ha => ?_⟩
 ·clear h2 h3
  induction us generalizing k with
  | nil => simp
  | cons u us ih =>
   cases k with
   | zero => simp
   | succ k =>
    have h0 : u.cells.toList.length = T.s := by simpa using hs u (by simp)
    rw [List.flatMap_cons, List.take_succ_cons, List.flatMap_cons, List.take_append, h0, List.take_of_length_le (by rw [h0, Nat.succ_mul]; omega), show (k + 1) * T.s - T.s = k * T.s by rw [Nat.succ_mul]; omega, ih k (fun v hv => hs v (by simp [hv]))]
 ·rw [List.getElem?_take] at hu ha
  split at hu
  ·rename_i hlt
   rw [if_pos hlt] at ha
   exact h3 q u a hu ha
  ·cases hu
theorem idx_lt {α : Type} {l : List α} {i : Int} {a : α} (h : idx l i = some a) : i.toNat < l.length := by
 have := idx_some h
 omega
section
variable {c : Cfg} {S S1 : St} {a : Act} {w : World} {g : Gh} {hs : Nat → Value} {tab : Tab} {n : Nat} {o : Oper} {ops : Array Oper} {rest L : List Oper} {N : Po}
theorem mt_sliceO {α : Type} {T : Ty α} {l : List α} {i p t el : Nat} {ti te : TI} {x q : Operand} {hv : Int} (ht : tab.ok) (ho : o.op = .slice t x none (some q) none) (h1 : tab t = some ti) (h2 : ti.sl = some el) (h3 : tab el = some te) (h4 : te.size = T.s)
  (hx : evX S.F x = some (.sv (.one (.own i)))) (hm : S.M[i]? = some (rowI el T l)) (hhi : evK S.F q = some (.int .i64 hv)) (h5 : 0 ≤ hv ∧ hv ≤ (l.length : Int)) : MT c S o (.sv (.one (.own p))) [i] (some (p, rowI el T (l.take hv.toNat))) := fun a w g hs h N Z hN => by
 obtain ⟨h6, h7⟩ := h5
 have hu := slT_some ((ht t ti h1).sl.trans h2)
 have hv0 : a.eval x = hs i := (evX_ok h hx).1
 obtain ⟨cs, ⟨hl0, r1⟩, r2⟩ := h.items i _ hm
 have hmine := h.mine i _ hm (by simp)
 have hlen : (l.take hv.toNat).length = hv.toNat := by simp; omega
 obtain ⟨ao, cap, e1, hcap, hao⟩ : ∃ ao cap, hs i = .slice ao l.length cap ∧ (l.length : Int) ≤ cap ∧ (∀ b, ao = some b → ∃ gb of, b = ⟨gb, of, none⟩) := by
  rcases r1 with ⟨e3, e4⟩ | ⟨gb, of, cap, cur, e3, e4, e5, _⟩
  ·exact ⟨none, 0, by rw [e3, e4], by rw [e4]; simp, fun b hb => by cases hb⟩
  ·exact ⟨_, cap, e3, by omega, fun b hb => ⟨gb, of, by cases hb; rfl⟩⟩
 have hb : (Instr.sliceBounds true l.length cap none (some (a.eval q)) none).run Try.prog w = .ok (0, hv.toNat, cap) w := by
  unfold Instr.sliceBounds
  simp only [Sem.run_bind, Sem.run_pure, Result.andThen_ok, Instr.sliceBound, evK_ok h hhi, asIntOf]
  rw [if_pos (by omega)]
  simp
 have hrun : (execOp a.eval o).run Try.prog w = .ok (.value (.slice ao hv.toNat cap)) w := by
  have : execOp a.eval o = (do pure (.value (← Instr.sliceAt t (a.eval x) none (some (a.eval q)) none)) : Sem Next) := by unfold execOp; rw [ho]; rfl
  rw [this]
  refine run_val ?_
  simp only [Instr.sliceAt, Instr.slice, Sem.run_bind, run_underlying hu, Result.andThen_ok, hv0, e1, hb, (ht el te h3).run_size, Sem.run_pure, h4]
  congr 2
  cases ao with
  | none => simp
  | some b =>
   obtain ⟨gb, of, rfl⟩ := hao _ rfl
   simp [Addr.add]
 unfold Oper.wp
 rw [hrun]
 refine hN _ _ g (.slice ao hv.toNat cap) ⟨rfl, rfl, rfl, Nat.le_refl _, fun _ _ _ => rfl, Gh.le.refl g, fun _ _ e => .inl e, h.base.pers⟩ ⟨?_, trivial⟩ ⟨⟨cs.take (hv.toNat * T.s), ⟨?_, ?_⟩, r2.take hv.toNat⟩, fun b hb => ?_⟩
 ·show _ = (if p = p then _ else hs p)
  rw [if_pos rfl]
 ·rw [hlen, List.length_take, hl0]
  exact Nat.min_eq_left (Nat.mul_le_mul_right _ (by omega))
 ·rw [hlen]
  rcases r1 with ⟨e3, e4⟩ | ⟨gb, of, cap', cur, e3, e4, e5, e6, e7, e8⟩
  ·rw [e3] at e1
   simp only [Value.slice.injEq] at e1
   obtain ⟨rfl, _, rfl⟩ := e1
   left
   exact ⟨by congr 1; omega, by omega⟩
  ·rw [e3] at e1
   simp only [Value.slice.injEq] at e1
   obtain ⟨rfl, _, rfl⟩ := e1
   refine .inr ⟨gb, of, cap', cur, rfl, e4, by omega, e6, e7, ?_⟩
   rw [← e8, List.take_take]
   congr 1
   exact (Nat.min_eq_left (Nat.mul_le_mul_right _ (by omega))).symm
 ·have hb' : Blk (hs i) b := by
   rw [e1]
   cases ao with
   | none => cases hb
   | some q => exact hb
  obtain ⟨m1, m2⟩ := hmine b hb'
  exact ⟨m1, fun _ => (m2 rfl).2, .inr ⟨i, by simp, hb'⟩⟩
theorem val_capNil {x : Operand} {t : Nat} {ti : TI} {e : Nat} (ht : tab.ok) (ho : o.op = .call ⟨.builtin .cap, #[x], #[t]⟩) (h1 : tab t = some ti) (h2 : ti.sl = some e) (hx : evX S.F x = some (.sv (.one (.v (.slice none 0 0))))) : Val c S o (.sv (.one (I 0))) := fun a w g hs h => by
 have hu := slT_some ((ht t ti h1).sl.trans h2)
 have hv : a.eval x = .slice none 0 0 := (evX_ok h hx).1
 refine ⟨.int .i64 0, ?_, rfl, trivial⟩
 have : execOp a.eval o = (do pure (.value (← Builtin.cap_ #[t] o.type #[a.eval x])) : Sem Next) := by
  unfold execOp
  rw [ho]
  simp [resolve, invoke, builtin]
 rw [this, hv]
 refine run_val ?_
 simp [Builtin.cap_, run_underlying hu, goInt]
theorem mt_appendZ {α : Type} {T : Ty α} (z0 : α) {zv : Value} (p : Nat) {t tn e : Nat} {ti te : TI} {kn k : IntKind} {x y : Operand} {l : Int} (ht : tab.ok) (ho : o.op = .call ⟨.builtin .append, #[x, y], #[t, tn]⟩) (h1 : tab t = some ti) (h2 : ti.sl = some e) (h3 : tab e = some te) (h4 : te.size = T.s) (h5 : 0 < T.s) (htn : Try.prog.underlying tn = some (.int kn))
  (hx : evX S.F x = some (.sv (.one (.v (.slice none 0 0))))) (hy : evK S.F y = some (.int k l)) (hl0 : 0 < l) (hb : l * te.bytes ≤ 140737488355328) (hb2 : l ≤ 140737488355328) (hzc : zv.cells.toList = te.zero) (hz : ∀ g, (T.sv z0).ok g hs0 zv) :
  MT c S o (.sv (.one (.own p))) [] (some (p, rowI e T (List.replicate l.toNat z0))) := fun a w g hs h N Z hN => by
 have hu := slT_some ((ht t ti h1).sl.trans h2)
 have hte := ht e te h3
 obtain ⟨x', z, i1, i2, i3, i4, i5⟩ := hte.parts
 have hzz : z.cells = zv.cells := by apply Array.toList_inj.1; rw [i5, hzc]
 have hzs : zv.cells.size = T.s := by rw [← Array.length_toList, hzc, hte.zs, h4]
 obtain ⟨m, rfl⟩ : ∃ m : Nat, l = m := ⟨l.toNat, by omega⟩
 have hsz : x'.size = T.s := by rw [i3, h4]
 have hb' : m * te.bytes ≤ 140737488355328 := by
  have : ((m * te.bytes : Nat) : Int) ≤ 140737488355328 := by rw [Int.natCast_mul]; exact hb
  omega
 have hrun := Lib.run_append_nil_zeros (P := Try.prog) w t tn o.type e x' z k kn hu htn i1 i2 m (by omega) (by omega) (by omega) (by rw [i4]; omega)
 have hge := grownCap_ge w m 0 e
 have hle := grownCap_le_maxLen w m 0 e (by simp only [maxLen]; omega)
 generalize grownCap w m 0 e = G at *
 unfold Oper.wp
 have hr : (execOp a.eval o).run Try.prog w = .ok (.value (.slice (some ⟨w.heap.size, 0, none⟩) m G)) (w.drew.alloc (.cells (Builtin.zeroCells z.cells m ++ Builtin.zeroCells z.cells (G - m)) e)) := by
  have : execOp a.eval o = (do pure (.value (← Builtin.append_ #[t, tn] o.type #[a.eval x, a.eval y])) : Sem Next) := by
   unfold execOp
   rw [ho]
   simp [resolve, invoke, builtin]
  rw [this, show a.eval x = .slice none 0 0 from (evX_ok h hx).1, evK_ok h hy]
  exact run_valW hrun
 rw [hr]
 have hzc1 : ∀ q, Builtin.zeroCells z.cells q = madeCells zv.cells (q * T.s) := fun q => by
  rw [hzz]
  unfold Builtin.zeroCells madeCells
  rw [hzs]
 have hblk : ∀ b, b < w.heap.size → (w.drew.alloc (.cells (Builtin.zeroCells z.cells m ++ Builtin.zeroCells z.cells (G - m)) e)).heap[b]? = w.heap[b]? := fun b hb => (World.grownBy_alloc w.drew _ none).block b hb (by simp)
 rw [hzc1, hzc1] at *
 refine hN _ _ g (.slice (some ⟨w.heap.size, 0, none⟩) m G) ⟨rfl, rfl, rfl, by simp, fun b hb _ => hblk b hb, Gh.le.refl g, fun b o e => .inl e, fun b o e => (hblk b (h.base.pers.lt e)).trans (h.base.pers b o e)⟩ ⟨?_, trivial⟩ ⟨⟨(madeCells zv.cells (m * T.s)).toList.take (m * T.s), ?_, made_row (hz g) hzs h5 (Nat.le_refl _)⟩, fun b hb => ?_⟩
 ·show _ = (if p = p then _ else hs p)
  rw [if_pos rfl]
 ·simp only [Int.toNat_natCast, List.length_replicate]
  refine World.ownsRow.at (base := 0) ⟨by rw [List.length_take, Array.length_toList, size_madeCells]; omega, .inr ⟨w.heap.size, G, madeCells zv.cells (m * T.s) ++ madeCells zv.cells ((G - m) * T.s), rfl, Nat.zero_le _, heap_alloc_new w.drew _, hge, hle, ?_, ?_⟩⟩
  ·rw [Array.size_append, size_madeCells, size_madeCells, ← Nat.add_mul]
   congr 1
   omega
  ·rw [Array.toList_append, List.take_append_of_le_length (by rw [Array.length_toList, size_madeCells]; exact Nat.le_refl _)]
 ·cases hb
  refine ⟨by simp, fun _ => ?_, .inl (Nat.le_refl _)⟩
  cases hgb : g w.heap.size with
  | none => rfl
  | some o => have := h.base.pers.lt hgb; omega
theorem mu_storeO {α : Type} {T : Ty α} {l : List α} {i k t el : Nat} {y : α} {ti : TI} {x v : Operand} (ht : tab.ok) (ho : o.op = .store t x v) (h1 : tab t = some ti) (h2 : ti.size = T.s) (hT : T.solid)
  (hx : evX S.F x = some (.sv (.one (.oe i k T.s)))) (hm : S.M[i]? = some (rowI el T l)) (hk : k < l.length) (hv : evX S.F v = some (.sv (T.sv y))) (hz : (svCells (T.sv y)).length = T.s) (hc : (T.sv y).refs = []) : MU c S o i (rowI el T (l.set k y)) := fun a w g hs hh N Z hN => by
 unfold Oper.wp
 obtain ⟨⟨b, of, nn, cap, e1, e2⟩, _⟩ := evX_ok hh hx
 obtain ⟨cs, ⟨hl0, r1⟩, r2⟩ := hh.items i _ hm
 have htk := ht t ti h1
 have hval : (T.sv y).ok g hs (a.eval v) := evX_ok hh hv
 have hval0 : (T.sv y).ok g hs0 (a.eval v) := SV.ok_hs (fun i hi => by rw [hc] at hi; cases hi) hval
 have hcells := sv_cells (hT y) hval0
 have hlen : (a.eval v).cells.toList.length = T.s := by rw [← oks_length hcells]; exact hz
 rcases r1 with ⟨e3, e4⟩ | ⟨gb, of', cap', cur, e3, e4, e5, e6, e7, e8⟩
 ·omega
 ·rw [e1] at e3
  simp at e3
  obtain ⟨⟨rfl, rfl⟩, rfl, rfl⟩ := e3
  have hkl : k * T.s + T.s ≤ l.length * T.s := by rw [← Nat.succ_mul]; exact Nat.mul_le_mul_right _ hk
  have hlc : of + l.length * T.s ≤ cur.size := Nat.le_trans (Nat.add_le_add_left (Nat.mul_le_mul_right _ e5) _) e7
  have hst := run_storeCells_at (P := Try.prog) b (of + k * T.s) el (a.eval v).cells.toList 0 cur w e4 (by rw [hlen, Nat.add_zero, Nat.add_assoc]; exact Nat.le_trans (Nat.add_le_add_left hkl _) hlc) (fun u hu => (oks_cells hcells u hu).one)
  simp only [Nat.add_zero] at hst
  have hrun : (execOp a.eval o).run Try.prog w = .ok .skip (w.setRow b (cur.toList.take (of + k * T.s) ++ (a.eval v).cells.toList ++ cur.toList.drop (of + k * T.s + (a.eval v).cells.toList.length)).toArray) := by
   have : execOp a.eval o = (do Instr.storeAt t (a.eval x) (a.eval v); pure .skip : Sem Next) := by unfold execOp; rw [ho]
   rw [this]
   simp only [Instr.storeAt, e2, Instr.sureAddr, storeVar, Sem.run_bind, Sem.run_pure, Result.andThen_ok, htk.run_size]
   rw [if_neg (by rw [h2]; simp at hlen; simp [hlen])]
   simp only [hst, Result.andThen_ok, Sem.run_pure]
  rw [hrun]
  refine hN undef _ ?_ ?_
  ·rw [e1]
   exact ⟨rfl, rfl, rfl, by simp, fun q hq hne => setRow_other w b q _ (fun e => hne (by rw [e]; rfl))⟩
  ·have hset := r2.set hk hval0 (by rw [← hlen]; simp)
   refine ⟨_, ⟨hset.length.trans (by simp), .inr ⟨b, of, cap, _, by rw [e1]; simp, setRow_heap w b _ _ _ _ e4, by simpa using e5, e6, ?_, ?_⟩⟩, hset⟩
   ·simp only [List.size_toArray, List.length_append, List.length_take, List.length_drop, Array.length_toList] at hlen ⊢
    omega
   ·simp only [List.length_set]
    show (List.drop of (_ ++ (a.eval v).cells.toList ++ _)).take _ = _
    rw [drop_seg _ _ (by rw [Array.length_toList]; exact Nat.le_trans (Nat.add_le_add_left (Nat.le_trans (Nat.le_add_right _ _) hkl) _) hlc), ← e8, hlen]
    exact seg_take (cur.toList.drop of) (a.eval v).cells.toList (k * T.s) T.s (l.length * T.s) hlen hkl (by rw [List.length_drop, Array.length_toList]; exact Nat.le_sub_of_add_le (by rw [Nat.add_comm]; exact hlc))
theorem val_sliceNil {t el : Nat} {ti te : TI} {x q : Operand} (ht : tab.ok) (ho : o.op = .slice t x none (some q) none) (h1 : tab t = some ti) (h2 : ti.sl = some el) (h3 : tab el = some te) (hx : evX S.F x = some (.sv (.one (.v (.slice none 0 0))))) (hhi : evK S.F q = some (.int .i64 0)) : Val c S o (.sv (.one (.v (.slice none 0 0)))) := fun a w g hs h => by
 have hu := slT_some ((ht t ti h1).sl.trans h2)
 have hv0 : a.eval x = .slice none 0 0 := (evX_ok h hx).1
 refine ⟨_, ?_, rfl, trivial⟩
 have : execOp a.eval o = (do pure (.value (← Instr.sliceAt t (a.eval x) none (some (a.eval q)) none)) : Sem Next) := by unfold execOp; rw [ho]; rfl
 rw [this]
 refine run_val ?_
 have hb : (Instr.sliceBounds true 0 0 none (some (a.eval q)) none).run Try.prog w = .ok (0, 0, 0) w := by
  unfold Instr.sliceBounds
  simp only [Sem.run_bind, Sem.run_pure, Result.andThen_ok, Instr.sliceBound, evK_ok h hhi, asIntOf]
  rw [if_pos (by omega)]
  simp
 simp only [Instr.sliceAt, Instr.slice, Sem.run_bind, run_underlying hu, Result.andThen_ok, hv0, hb, (ht el te h3).run_size, Sem.run_pure]
 simp
def plainA : At → Bool
 | .v _ => true
 | _ => false
def plainS : SV → Bool
 | .one a => plainA a
 | .agg l => l.all plainA
def plainB : SC → Bool
 | .sv s => plainS s
 | .tup l => l.all plainS
theorem plainA_ok {g g' : Gh} {hs hs' : Nat → Value} {x : At} {u : Value} (hp : plainA x = true) (h : x.ok g hs u) : x.ok g' hs' u := by
 cases x <;> first | (cases hp; done) | exact h
theorem plain_oks {g g' : Gh} {hs hs' : Nat → Value} : ∀ {l : List At} {us : List Value}, l.all plainA = true → oks g hs l us → oks g' hs' l us
 | [], [], _, _ => trivial
 | [], _ :: _, _, h => h.elim
 | _ :: _, [], _, h => h.elim
 | _ :: _, _ :: _, hp, h => by
  rw [List.all_cons, Bool.and_eq_true] at hp
  exact ⟨plainA_ok hp.1 h.1, h.2.1, plain_oks hp.2 h.2.2⟩
theorem plainS_ok {g g' : Gh} {hs hs' : Nat → Value} {x : SV} {u : Value} (hp : plainS x = true) (h : x.ok g hs u) : x.ok g' hs' u := by
 cases x with
 | one a => exact plainA_ok hp h
 | agg l =>
  obtain ⟨cs, h1, h2⟩ := h
  exact ⟨cs, h1, plain_oks hp h2⟩
theorem plain_svs {g g' : Gh} {hs hs' : Nat → Value} : ∀ {l : List SV} {us : List Value}, l.all plainS = true → SV.oks g hs l us → SV.oks g' hs' l us
 | [], [], _, _ => trivial
 | [], _ :: _, _, h => h.elim
 | _ :: _, [], _, h => h.elim
 | _ :: _, _ :: _, hp, h => by
  rw [List.all_cons, Bool.and_eq_true] at hp
  exact ⟨plainS_ok hp.1 h.1, plain_svs hp.2 h.2⟩
theorem plainB_ok {g g' : Gh} {hs hs' : Nat → Value} {x : SC} {u : Value} (hp : plainB x = true) (h : x.ok g hs u) : x.ok g' hs' u := by
 cases x with
 | sv s => exact plainS_ok hp h
 | tup l =>
  obtain ⟨us, h1, h2⟩ := h
  exact ⟨us, h1, plain_svs hp h2⟩
theorem Eff.back {w' : World} {g2 g' : Gh} (he : Eff hs [] w g2 w' g') (hp : Pers g w) : Eff hs [] w g w' g :=
 ⟨he.os, he.tape, he.output, he.size, he.block, Gh.le.refl g, fun _ _ e => .inl e, fun b o e => (he.block b (hp.lt e) (fun k hk => by simp at hk)).trans (hp b o e)⟩
theorem mt_lend {α : Type} {T : Ty α} {l : List α} {e : Nat} {x : SC} (i : Nat) (hm : S.M[i]? = some (rowI e T l)) (hp : plainB x = true) (h : MT c (sealS S i (LS T l)) o x [] none) : MT c S o x [] none := fun a w g hs hk N Z hN => by
 obtain ⟨g2, hk2⟩ := hk.seal hm
 exact h a w g2 hs hk2 N Z fun v w' g' h' h1 h2 _ => hN v w' g h' (h1.back hk.base.pers) (plainB_ok hp h2) trivial
def plainI (it : Item) : Prop := ∀ g g' hs hs' w v, it.ok g hs w v → it.ok g' hs' w v
theorem plain_row {α : Type} {T : Ty α} {l : List α} {e : Nat} (hT : ∀ a, plainS (T.sv a) = true) : plainI (rowI e T l) := fun g g' hs hs' w v ⟨cs, h1, us, h2, h3, h4⟩ => ⟨cs, h1, us, h2, h3, fun q u a hu ha => ⟨plainS_ok (hT a) (h4 q u a hu ha).1, (h4 q u a hu ha).2⟩⟩
theorem mt_lendI {α : Type} {T : Ty α} {l : List α} {e p : Nat} {it : Item} (i : Nat) (hm : S.M[i]? = some (rowI e T l)) (hp : plainI it) (h : MT c (sealS S i (LS T l)) o (.sv (.one (.own p))) [] (some (p, it))) : MT c S o (.sv (.one (.own p))) [] (some (p, it)) := fun a w g hs hk N Z hN => by
 obtain ⟨g2, hk2⟩ := hk.seal hm
 refine h a w g2 hs hk2 N Z fun v w' g' h' h1 h2 h3 => hN v w' g h' (h1.back hk.base.pers) ⟨h2.1, h2.2⟩ ⟨hp _ _ _ _ _ _ h3.1, fun b hb => ?_⟩
 obtain ⟨m1, m2, m3⟩ := h3.2 b hb
 refine ⟨m1, fun _ => ?_, m3⟩
 rcases m3 with m3 | ⟨k, hk, _⟩
 ·cases hg : g b with
  | none => rfl
  | some o => have := hk.base.pers.lt hg; omega
 ·simp at hk
theorem mt_lendF {x : SC} (l : List Nat) {M' : List Item} (e : fzSets S.M l = some M') (hp : plainB x = true) (h : MT c ⟨S.F, M'⟩ o x [] none) : MT c S o x [] none := fun a w g hs hk N Z hN => by
 obtain ⟨g2, hk2⟩ := freezes (F := S.F) e hk
 exact h a w g2 hs hk2 N Z fun v w' g' h' h1 h2 _ => hN v w' g h' (h1.back hk.base.pers) (plainB_ok hp h2) trivial
theorem mt_ghost {x : SC} {K : List Nat} {p : Option (Nat × Item)} (t : Nat) {y : SC} (y' : SC) (hl : look t S.F = some y) (hx : ∀ a w g hs, Ok' c S a w g hs → ∀ u, y.ok g hs u → y'.ok g hs u) (h : MT c ⟨(t, y') :: S.F, S.M⟩ o x K p) : MT c S o x K p := fun a w g hs hk N Z hN => by
 refine h a w g hs ⟨hk.size, hk.defers, hk.base, fun t' z hz => ?_, hk.items, hk.sep, hk.mine⟩ N Z hN
 rcases List.mem_cons.1 hz with hz | hz
 ·cases hz
  exact hx a w g hs hk _ (hk.slots t _ (look_mem hl))
 ·exact hk.slots t' z hz
theorem fv_const {α β : Type} {ins : α → List SC} {out : β → SC} {dom : α → Prop} {φ : α → β} {f : Nat} (ct : ∀ x, dom x → Ct f (ins x) [] (fun (_ : Unit) => True) (fun _ => out (φ x))) (en : ∀ args w, (callFunc f args).run Try.prog w = .ok (.enter f args) w) :
  ∀ (g : Gh) (hs : Nat → Value) (u : Value), SC.ok g hs (.sv (.one (.fn f []))) u → SC.ok g hs (.sv (.one (.rd (fvR ins out dom φ)))) u := fun g hs u hu =>
 ⟨⟨f, #[], hu.1, en, fun x hx w' g' args _ hp ha => by simpa using ct x hx w' g' hs0 args hp ha (fun i it h => by simp at h)⟩, hu.2⟩
def ArgLe (l' l : List SC) : Prop := ∀ (g : Gh) (hs : Nat → Value) (us : List Value), okArgs g hs l' us → okArgs g hs l us
theorem argLe_nil : ArgLe [] [] := fun _ _ _ h => h
theorem argLe_same {x : SC} {l' l : List SC} (h : ArgLe l' l) : ArgLe (x :: l') (x :: l) := fun g hs us k => by
 cases us with
 | nil => exact k.elim
 | cons u us => exact ⟨k.1, h g hs us k.2⟩
theorem argLe_to {x' x : SC} {l' l : List SC} (hx : ∀ (g : Gh) (hs : Nat → Value) (u : Value), x'.ok g hs u → x.ok g hs u) (h : ArgLe l' l) : ArgLe (x' :: l') (x :: l) := fun g hs us k => by
 cases us with
 | nil => exact k.elim
 | cons u us => exact ⟨hx g hs u k.1, h g hs us k.2⟩
theorem Ct.args {β : Type} {f : Nat} {ins ins' : List SC} {M : List Item} {post : β → Prop} {out : β → SC} (h : Ct f ins M post out) (hle : ArgLe ins' ins) : Ct f ins' M post out := fun w g hs args h1 h2 h3 => h w g hs args h1 (hle _ _ _ h2) h3
theorem oks_turn {g : Gh} {hs : Nat → Value} {x y : At} (hx : ∀ u, x.ok g hs u → y.ok g hs u) : ∀ {l : List At} {us : List Value} (j : Nat), l[j]? = some x → oks g hs l us → oks g hs (l.set j y) us
 | [], _, _, e, _ => by simp at e
 | _ :: _, [], _, _, h => h.elim
 | a :: _, u :: _, 0, e, h => by
  simp at e
  subst e
  exact ⟨hx u h.1, h.2.1, h.2.2⟩
 | _ :: _, _ :: _, j + 1, e, h => ⟨h.1, h.2.1, oks_turn hx j (by simpa using e) h.2.2⟩
theorem nilBoxO_ok {α : Type} {i j p e ty : Nat} {T : Ty α} {cells : List At} (hm : S.M[i]? = some (.box cells ty false)) (hj : cells[j]? = some (.v (.slice none 0 0))) (hp : (newM S.M [] (some (p, rowI e T [])))[i]? = some (.box cells ty false)) (hr : S.refsAll (fun i => !(Nat.beq i p)) = true) (hk : Ok' c S a w g hs) :
  ∃ hs', Ok' c ⟨S.F, (newM S.M [] (some (p, rowI e T []))).set i (.box (cells.set j (.own p)) ty false)⟩ a w g hs' := by
 have he := hk.eff (K := []) (p := some (p, rowI e T [])) (h' := .slice none 0 0) (Eff.refl hk.base) ⟨⟨[], World.ownsAt_nil _ _ _, rowRead.nil⟩, fun b hb => by cases hb⟩ hr rfl
 refine ⟨_, he.retell (it' := .box (cells.set j (.own p)) ty false) hp rfl rfl ?_⟩
 obtain ⟨b, cs, h1, h2, h3⟩ := he.items i _ hp
 refine ⟨b, cs, h1, oks_turn (fun u hu => ?_) j hj h2, h3⟩
 have : u = .slice none 0 0 := hu.1
 subst this
 refine ⟨?_, trivial⟩
 show _ = (if p = p then _ else hs p)
 rw [if_pos rfl]
theorem En.nilBoxO {α : Type} {T : Ty α} {cells : List At} {ty : Nat} (i j p e : Nat) (hm : S.M[i]? = some (.box cells ty false)) (hj : cells[j]? = some (.v (.slice none 0 0))) (hp : (newM S.M [] (some (p, rowI e T ([] : List α))))[i]? = some (.box cells ty false)) (hr : S.refsAll (fun i => !(Nat.beq i p)) = true)
  (h : En c ⟨S.F, (newM S.M [] (some (p, rowI e T []))).set i (.box (cells.set j (.own p)) ty false)⟩ N) : En c S N := fun a w ⟨g, _, hk⟩ => by
 obtain ⟨hs', hk'⟩ := nilBoxO_ok hm hj hp hr hk
 exact h a w ⟨g, hs', hk'⟩
theorem WL.nilBoxO {α : Type} {T : Ty α} {cells : List At} {ty : Nat} (i j p e : Nat) (hm : S.M[i]? = some (.box cells ty false)) (hj : cells[j]? = some (.v (.slice none 0 0))) (hp : (newM S.M [] (some (p, rowI e T ([] : List α))))[i]? = some (.box cells ty false)) (hr : S.refsAll (fun i => !(Nat.beq i p)) = true)
  (h : WL c ops L ⟨S.F, (newM S.M [] (some (p, rowI e T []))).set i (.box (cells.set j (.own p)) ty false)⟩ N) : WL c ops L S N := fun a w ⟨g, _, hk⟩ => by
 obtain ⟨hs', hk'⟩ := nilBoxO_ok hm hj hp hr hk
 exact h a w ⟨g, hs', hk'⟩
theorem mu_store2 {t i off ty : Nat} {ti : TI} {x y : Operand} {s : SV} {cells r : List At} (ht : tab.ok) (ho : o.op = .store t x y) (h1 : tab t = some ti) (hx : evX S.F x = some (.sv (.one (.ptr i off)))) (hm : S.M[i]? = some (.box cells ty false)) (hy : evX S.F y = some (.sv s)) (hj : s ≠ .one .junk)
  (hb : (Nat.beq (svCells s).length ti.size && Nat.ble (off + (svCells s).length) cells.length) = true) (hr : cells.take off ++ svCells s ++ cells.drop (off + (svCells s).length) = r) : MU c S o i (.box r ty false) := hr ▸ mu_store ht ho h1 hx hm hy hj hb
end
end Go.Proofs.Ytobenjahlicnoaa
namespace Go.Proofs.Ytobenjahlicnoaa
open Go.RowKit Go.MapKept
set_option linter.unusedSimpArgs false
set_option linter.unusedVariables false
set_option maxRecDepth 100000
set_option linter.unusedSectionVars false
def bytesOf (l : List Int) : ByteArray := l.foldl (fun r n => r.push (UInt8.ofNat n.toNat)) ByteArray.empty
theorem push_toList (l : List Int) : ∀ s : ByteArray, (l.foldl (fun r n => r.push (UInt8.ofNat n.toNat)) s).data.toList = s.data.toList ++ l.map fun n => UInt8.ofNat n.toNat := by
 induction l with
 | nil => intro s; simp
 | cons n l ih => intro s; rw [List.foldl_cons, ih]; simp [ByteArray.push]
theorem rowRead.bytes {l : List Int} {g : Gh} {cs : List Value} {k : IntKind} (h : rowRead (intKT k) l g cs) : cs = l.map (Value.int k) := by
 obtain ⟨us, rfl, h2, h3⟩ := h
 have : us = l.map (Value.int k) := by
  refine List.ext_getElem? fun q => ?_
  rw [List.getElem?_map]
  cases hu : us[q]? with
  | none =>
   have := List.getElem?_eq_none_iff.1 hu
   rw [List.getElem?_eq_none (by omega)]
   rfl
  | some u =>
   have hq := (List.getElem?_eq_some_iff.1 hu).1
   have ha : l[q]? = some (l[q]'(by omega)) := List.getElem?_eq_getElem (by omega)
   rw [ha]
   have := (h3 q u _ hu ha).1.1
   show some u = some _
   rw [show u = _ from this]
 rw [this]
 clear this h2 h3
 induction l with
 | nil => rfl
 | cons x l ih => simp only [List.map_cons, List.flatMap_cons, ih]; rfl
section
variable {c : Cfg} {S S1 : St} {a : Act} {w : World} {g : Gh} {hs : Nat → Value} {tab : Tab} {n : Nat} {o : Oper} {ops : Array Oper} {rest L : List Oper} {N : Po}
theorem srcOwn {α : Type} {T : Ty α} {es : List α} {y : Operand} {i e : Nat} (hT : T.solid) (hy : evX S.F y = some (.sv (.one (.own i)))) (hm : S.M[i]? = some (rowI e T es)) : SrcOk c S y T es := fun a w g hs h => by
 have hv : a.eval y = hs i := (evX_ok h hy).1
 obtain ⟨cs, ⟨hl0, r1⟩, r2⟩ := h.items i _ hm
 refine ⟨cs, ?_, r2⟩
 rw [hv]
 rcases r1 with ⟨e1, e2⟩ | ⟨gb, of, cap, cur, e1, e4, _, _, _, e5⟩
 ·refine ⟨none, 0, by rw [e1, e2], fun _ => ⟨rfl, e2⟩, hl0, fun j u hj => ?_, fun u hu => (r2.cells hT u hu).one⟩
  have := (List.getElem?_eq_some_iff.1 hj).1
  rw [hl0, e2] at this
  omega
 ·refine ⟨some ⟨gb, of, none⟩, cap, e1, (fun h => by cases h), hl0, fun j u hj => ⟨gb, of, rfl, ?_⟩, fun u hu => (r2.cells hT u hu).one⟩
  unfold World.cell?
  rw [← e5, List.getElem?_take] at hj
  split at hj
  ·rw [List.getElem?_drop] at hj
   simp only [e4]
   simpa using hj
  ·cases hj
theorem val_str {l : List Int} {src t e : Nat} {x : Operand} (ho : o.op = .convert src t x) (h1 : Try.prog.underlying src = some (.slice e)) (h2 : Try.prog.underlying e = some (.int .u8)) (h3 : Try.prog.underlying t = some .string) (hx : SrcOk c S x (intKT .u8) l) : Val c S o (.sv (.one (.v (.string (bytesOf l))))) := fun a w g hs h => by
 obtain ⟨cs, ⟨ao, cp, e1, e2, e3, e4, e5⟩, r⟩ := hx a w g hs h
 obtain rfl := r.bytes
 refine ⟨.string (bytesOf l), ?_, rfl, trivial⟩
 have : (execOp a.eval o) = (do pure (.value (← convert src t (a.eval x))) : Sem Next) := by unfold execOp; rw [ho]
 rw [this]
 refine run_val ?_
 rw [e1, run_convert_bytes_string w src t e ao _ cp h1 h2 h3]
 cases ao with
 | none =>
  obtain ⟨_, h0⟩ := e2 rfl
  obtain rfl := List.eq_nil_of_length_eq_zero h0
  rfl
 | some ad =>
  refine run_bytesToString w ad _ cp l ?_
  have := run_loadCells_list (P := Try.prog) (w := w) ad (l.map (Value.int .u8)) fun j v hj => by
   obtain ⟨b, of, h4, h5⟩ := e4 j v hj
   cases h4
   rw [svs_add]
   exact h5
  rw [List.length_map] at this
  exact this
def strT : Ty ByteArray := ⟨1, fun x => .one (.v (.string x))⟩
def encS (k : ByteArray) : Value := .string k
theorem encSOk : ∀ (k : ByteArray) (g : Gh) (hs : Nat → Value), (strT.sv k).ok g hs (encS k) := fun k g hs => ⟨rfl, trivial⟩
theorem beq_bytes (u v : ByteArray) : (u == v) = decide (u = v) := by
 cases u with
 | mk a =>
  cases v with
  | mk b =>
   show (a == b) = _
   by_cases e : a = b
   ·subst e; simp
   ·rw [show (a == b) = false from beq_eq_false_iff_ne.2 e]
    simp [e]
theorem val_lenM {κ α : Type} [DecidableEq κ] {enc : κ → Value} {T : Ty α} {D : List (κ × α)} {x : Operand} {t i kt e : Nat} {r : Rl (Array MapEntry × Nat)} (ho : o.op = .call ⟨.builtin .len, #[x], #[t]⟩) (ht : Try.prog.underlying t = some (.map kt e)) (hx : evX S.F x = some (.sv (.one (.own i)))) (hm : S.M[i]? = some (.map r)) (hr : MapAs enc T D r) : Val c S o (.sv (.one (I (D.length : Int)))) := fun a w g hs h => by
 obtain ⟨m, D0, h1, ⟨es, clock, h2, h3, _⟩, h4, _⟩ := map_ownR h hm hr
 have hv : a.eval x = .map (some m) := (evX_ok h hx).1.trans h1
 have hl : es.size = D.length := by
  have e1 := congrArg List.length h3
  have e2 := congrArg List.length h4
  simp only [List.length_map, Array.length_toList] at e1 e2
  omega
 have hrun : (execOp a.eval o).run Try.prog w = .ok (.value (.int .i64 (D.length : Int))) w := by
  have : execOp a.eval o = (do pure (.value (← Builtin.len_ #[t] o.type #[a.eval x])) : Sem Next) := by
   unfold execOp
   rw [ho]
   simp [resolve, invoke, builtin]
  rw [this, hv]
  refine run_val ?_
  simp [Builtin.len_, run_underlying ht, MapKept.run_getObj_map h2, hl, goInt, Result.andThen]
 exact ⟨_, hrun, rfl, trivial⟩
theorem mt_alloc2 (p : Nat) (t : Nat) {ti : TI} {cells : List At} (ht : tab.ok) (ho : o.op = .alloc t) (h1 : tab t = some ti) (hz : ti.zero.map .v = cells) : MT c S o (.sv (.one (.ptr p 0))) [] (some (p, .box cells t false)) := hz ▸ mt_alloc p ht ho h1
end
end Go.Proofs.Ytobenjahlicnoaa
namespace Go.Proofs.Ytobenjahlicnoaa
open Go.ChangeShapes Go.WideShapes Go.ChangeAt Go.RowKit
set_option linter.unusedSimpArgs false
set_option linter.unusedVariables false
set_option maxRecDepth 100000
end Go.Proofs.Ytobenjahlicnoaa
namespace Go.Proofs.Ytobenjahlicnoaa
open Go.RowKit Go.MapKept
set_option linter.unusedSimpArgs false
set_option linter.unusedVariables false
set_option maxRecDepth 100000
section
variable {c : Cfg} {S S1 : St} {tab : Tab} {n : Nat} {o : Oper} {ops : Array Oper} {rest L : List Oper} {N : Po}
theorem WL.callQ {β : Type} (F2 : List (Nat × SC)) {f : Nat} {ins : List SC} {M : List Item} {pin : List Nat} {post : β → Prop} {out : β → SC} {M' : β → List Item} (ct : CtE f ins M pin post out M') (en : ∀ args w, (callFunc f args).run Try.prog w = .ok (.enter f args) w) {caps : List Nat} (rn : List Nat) {fo : Operand} {args : Array Operand} {ats : Array TypeId}
  (hn : c.n = n) (hw : wantE ops S.F o = some true) (ho : o.op = .call ⟨.value fo, args, ats⟩) (hf : evX S.F fo = some (.sv (.one (.fn f caps)))) (ha : ArgsAs c S args caps (ins.map (SC.ren (rnF rn S.M.length))))
  (hM : M.map (fun it => some (it.mv (rnF rn S.M.length))) = rn.map (fun j => S.M[j]?)) (hnd : rn.Nodup) (hsb : subE ⟨F2, S.M⟩ S = subX ⟨F2, S.M⟩) (hal : aloneE ⟨F2, S.M⟩ rn pin = true) (hpl : pin.all (fun i => Nat.blt i rn.length) = true)
  (h : ∀ r, post r → (refsB (M' r) && Nat.ble M.length (M' r).length && backC pin M (M' r) && (out r).refs.all (fun i => Nat.blt i (M' r).length)) = true ∧ ∃ S1, putE n o.dst ((out r).ren (rnF rn S.M.length)) ⟨F2, putItems (rnF rn S.M.length) S.M rn (M' r)⟩ = some S1 ∧ WL c ops rest S1 N) : WL c ops (o :: rest) S N := fun a w ⟨g, hs, hk⟩ => by
 unfold wpList
 rw [if_pos (wantE_ok hk hw)]
 refine .inl ?_
 unfold Oper.wp
 have hfv : a.eval fo = .func (.func f) #[] (caps.map hs).toArray := (evX_ok hk hf).1
 have hrun : (execOp a.eval o).run Try.prog w = .ok (.enter f ((args.toList.map a.eval) ++ caps.map hs).toArray) w := by
  unfold execOp
  simp only [ho, resolve, hfv, Deferred.ofValue, Sem.run_bind, Sem.run_pure, Result.andThen_ok, invoke]
  rw [show (#[] ++ Array.map a.eval args ++ (List.map hs caps).toArray : Array Value) = (args.toList.map a.eval ++ caps.map hs).toArray by simp]
  exact en _ _
 rw [hrun]
 refine (ct w g (fun i => hs (rnF rn S.M.length i)) _ hk.base.pers (okArgs_ren (ha a w g hs hk)) (items_in hk hM hnd)).mono ?_
 rintro e' w' ⟨v, g', hs', r, rfl, hq, h3, h4, h5, h6⟩
 obtain ⟨hc, S1, hp, hW⟩ := h r hq
 simp only [Bool.and_eq_true] at hc
 obtain ⟨⟨⟨c1, c2⟩, c3⟩, c4⟩ := hc
 obtain ⟨hsN, n1, n2⟩ := (sub_ok' hsb a w g hs hk).backE hM hnd hal c1 (Nat.le_of_ble_eq_true c2) (backB_of c3) h4 (fun i hi => by have := List.all_eq_true.1 hpl i hi; rwa [Nat.blt_eq] at this) h5 h6
 refine hW _ _ ⟨g', hsN, putE_ok n1 hn (SC.ren_ok (SC.ok_hs (fun i hi => n2 i ?_) h3)) hp⟩
 have := List.all_eq_true.1 c4 i hi
 rwa [Nat.blt_eq] at this
end
end Go.Proofs.Ytobenjahlicnoaa
namespace Go.Proofs.Ytobenjahlicnoaa
open Go.RowKit
set_option linter.unusedSimpArgs false
set_option linter.unusedVariables false
set_option maxRecDepth 100000
def idxTo {α : Type} (p : α → Bool) (l : List α) : Int := match l.findIdx? p with | some k => k | none => -1
theorem idxTo_nonneg {α : Type} (p : α → Bool) (l : List α) : decide (0 ≤ idxTo p l) = l.any p := by
 unfold idxTo
 cases h : l.findIdx? p with
 | none =>
  rw [List.findIdx?_eq_none_iff] at h
  have : l.any p = false := by
   rw [List.any_eq_false]
   intro x hx
   simp [h x hx]
  rw [this]
  rfl
 | some k =>
  obtain ⟨hk, hp, _⟩ := List.findIdx?_eq_some_iff_getElem.1 h
  have : l.any p = true := List.any_eq_true.2 ⟨_, List.getElem_mem hk, hp⟩
  rw [this]
  simp
theorem idxTo_hit {α : Type} [Inhabited α] {p : α → Bool} {l : List α} {k : Nat} (d : α) (hk : k < l.length) (hp : p (l.getD k d) = true) (hn : ∀ j, j < k → p (l.getD j d) = false) : idxTo p l = k := by
 unfold idxTo
 have : l.findIdx? p = some k := by
  rw [List.findIdx?_eq_some_iff_getElem]
  refine ⟨hk, by simpa [hk] using hp, fun j hj => ?_⟩
  have := hn j hj
  simp [show j < l.length by omega] at this
  simp [this]
 rw [this]
theorem idxTo_miss {α : Type} {p : α → Bool} {l : List α} (d : α) (hn : ∀ j, j < l.length → p (l.getD j d) = false) : idxTo p l = -1 := by
 unfold idxTo
 have : l.findIdx? p = none := by
  rw [List.findIdx?_eq_none_iff]
  intro x hx
  obtain ⟨j, hj, rfl⟩ := List.mem_iff_getElem.1 hx
  have := hn j hj
  simpa [hj] using this
 rw [this]
end Go.Proofs.Ytobenjahlicnoaa
namespace Go.Proofs.Ytobenjahlicnoaa
open Go.RowKit Go.MapKept
set_option linter.unusedSimpArgs false
set_option linter.unusedVariables false
set_option maxRecDepth 100000
theorem index_plain {α : Type} [Inhabited α] (l : List α) (dom : α → Prop) (φ : α → Bool) (hd : ∀ x ∈ l, dom x) : l.length ≤ 9223372036854775807 → (∃ (Inv : Int → Prop) (mu : Int → Nat), Inv 0 ∧
 ∀ (x8 : Int), Inv x8 → (IfP (decide (x8 < (l.length : Int))) (∃ e, idx l x8 = some e ∧ dom e ∧ IfP (φ e) (x8 = idxTo φ l) (Inv (wr (x8 + 1)) ∧ mu (wr (x8 + 1)) < mu x8)) (-1 = idxTo φ l))) := by
 intro hl
 refine ⟨fun x => ∃ k : Nat, x = k ∧ k ≤ l.length ∧ ∀ j e, j < k → l[j]? = some e → φ e = false, fun x => l.length - x.toNat, ⟨0, rfl, Nat.zero_le _, fun j e hj => absurd hj (Nat.not_lt_zero _)⟩, ?_⟩
 rintro x ⟨k, rfl, hk, hp⟩
 refine ⟨fun hb => ?_, fun hb => ?_⟩
 ·have hlt : k < l.length := by simpa using hb
  refine ⟨l[k], by simp [idx, hlt], hd _ (List.getElem_mem hlt), fun h1 => ?_, fun h1 => ?_⟩
  ·exact (idxTo_hit l[k] hlt (by simpa [hlt] using h1) (fun j hj => by
    have hjl : j < l.length := by omega
    simpa [hjl] using hp j _ hj (List.getElem?_eq_getElem hjl))).symm
  ·rw [wr_in (by omega) (by omega)]
   refine ⟨⟨k + 1, by omega, by omega, fun j e hj he => ?_⟩, by simp only; omega⟩
   by_cases ej : j = k
   ·subst ej
    simp [hlt] at he
    subst he
    exact h1
   ·exact hp j e (by omega) he
 ·have e : k = l.length := by simp at hb; omega
  by_cases h0 : l = []
  ·subst h0; rfl
  ·have h1 : 0 < l.length := List.length_pos_iff.2 h0
   exact (idxTo_miss (l[0]) fun j hj => by simpa [hj] using hp j _ (by omega) (List.getElem?_eq_getElem hj)).symm
end Go.Proofs.Ytobenjahlicnoaa
namespace Go.Proofs.Ytobenjahlicnoaa
open Go.RowKit Go.MapKept
set_option linter.unusedSimpArgs false
set_option linter.unusedVariables false
set_option maxRecDepth 100000
set_option linter.unusedSectionVars false
section
variable {c : Cfg} {S S1 : St} {a : Act} {w : World} {g : Gh} {hs : Nat → Value} {tab : Tab} {o : Oper}
theorem Ok'.boxTurn {i j ty : Nat} {cells : List At} {fz : Bool} {x y : At} (hk : Ok' c S a w g hs) (hm : S.M[i]? = some (.box cells ty fz)) (hj : cells[j]? = some x) (hx : ∀ u, x.ok g hs u → y.ok g hs u) : Ok' c ⟨S.F, S.M.set i (.box (cells.set j y) ty fz)⟩ a w g hs := by
 have hlt := (List.getElem?_eq_some_iff.1 hm).1
 have hold : ∀ (k : Nat) (it : Item), (S.M.set i (.box (cells.set j y) ty fz))[k]? = some it → ∃ jt, S.M[k]? = some jt ∧ jt.fz = it.fz ∧ (it ≠ .gone → jt ≠ .gone) := fun k it h => by
  rw [List.getElem?_set] at h
  by_cases e : i = k
  ·subst e
   rw [if_pos rfl, if_pos hlt] at h
   cases h
   exact ⟨_, hm, rfl, fun _ h => by cases h⟩
  ·rw [if_neg e] at h
   exact ⟨it, h, rfl, fun h => h⟩
 refine ⟨hk.size, hk.defers, hk.base, hk.slots, fun k it h => ?_, fun k l it jt hkl h1 h2 h3 h4 => ?_, fun k it h hn => ?_⟩
 ·rw [List.getElem?_set] at h
  by_cases e : i = k
  ·subst e
   rw [if_pos rfl, if_pos hlt] at h
   cases h
   obtain ⟨b, cs, e1, e2, e3, e4⟩ := hk.items i _ hm
   exact ⟨b, cs, e1, oks_turn hx j hj e2, e3, e4⟩
  ·rw [if_neg e] at h
   exact hk.items k it h
 ·obtain ⟨kt, k1, k2, _⟩ := hold k it h1
  obtain ⟨lt, l1, _, l3⟩ := hold l jt h2
  exact hk.sep k l kt lt hkl k1 l1 (k2.trans h3) (l3 h4)
 ·obtain ⟨kt, k1, k2, k3⟩ := hold k it h
  intro b hb
  obtain ⟨m1, m2⟩ := hk.mine k kt k1 (k3 hn) b hb
  exact ⟨m1, fun hf => m2 (k2.trans hf)⟩
theorem fv_at {r : Rd} {x : At} (h : ∀ a w g hs, Ok' c S a w g hs → ∀ u, SC.ok g hs (.sv (.one x)) u → SC.ok g hs (.sv (.one (.rd r))) u) : ∀ a w g hs, Ok' c S a w g hs → ∀ u, x.ok g hs u → At.ok g hs (.rd r) u := h
end
section
variable {c : Cfg} {S S1 : St} {o : Oper} {tab : Tab} {n : Nat} {ops : Array Oper} {rest : List Oper} {N : Po}
end
end Go.Proofs.Ytobenjahlicnoaa
namespace Go.Proofs.Ytobenjahlicnoaa
open Go.RowKit Go.MapKept
set_option linter.unusedSimpArgs false
set_option linter.unusedVariables false
set_option maxRecDepth 100000
section
variable {c : Cfg} {S S1 : St} {a : Act} {w : World} {g : Gh} {hs : Nat → Value} {tab : Tab} {n : Nat} {o : Oper} {ops : Array Oper} {rest L : List Oper} {N : Po}
theorem mt_lendB {x : SC} {K : List Nat} {p : Option (Nat × Item)} {ty : Nat} {cells : List At} {fz : Bool} {u0 : At} (y : At) (i j : Nat) (hm : S.M[i]? = some (.box cells ty fz)) (hj : cells[j]? = some u0) (hx : ∀ a w g hs, Ok' c S a w g hs → ∀ u, u0.ok g hs u → y.ok g hs u) (h : MT c ⟨S.F, S.M.set i (.box (cells.set j y) ty fz)⟩ o x K p) : MT c S o x K p := fun a w g hs hk =>
 h a w g hs (hk.boxTurn hm hj (hx a w g hs hk))
end
section
variable {c : Cfg} {S S1 : St} {a : Act} {w : World} {g : Gh} {hs : Nat → Value} {tab : Tab} {n : Nat} {o : Oper} {ops : Array Oper} {rest L : List Oper} {N : Po}
end
end Go.Proofs.Ytobenjahlicnoaa
