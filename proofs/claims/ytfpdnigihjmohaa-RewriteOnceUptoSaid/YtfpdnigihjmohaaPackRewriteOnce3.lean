/- Lemmas towards the statement: mirrors of functions, and plain laws. No condition. -/
import Derived.Lib.AppendZeros
import Derived.Laws.BytesString
import Derived.Shelf.Abstract
import Derived.Laws.BitsLemmas
import Derived.Test.YtfpdnigihjmohaaPackRewriteOnce2

/- Symbolic states of a walk: rows of the call's own cut short, laid with zeros, written in any order. No condition. -/
namespace Go.Proofs.Ytfpdnigihjmohaa
open Go.RowKit Go.MapKept
set_option linter.unusedSimpArgs false
set_option linter.unusedVariables false
set_option maxRecDepth 100000

theorem rowRead.take {α : Type} {T : Ty α} {l : List α} {g : Gh} {cs : List Value} (h : rowRead T l g cs) (k : Nat) : rowRead T (l.take k) g (cs.take (k * T.s)) := by
  obtain ⟨us, rfl, h2, h3⟩ := h
  have hs := rowRead.sizes h2 h3
  refine ⟨us.take k, ?_, by simp [h2], fun q u a hu ha => ?_⟩
  · clear h2 h3
    induction us generalizing k with
    | nil => simp
    | cons u us ih =>
      cases k with
      | zero => simp
      | succ k =>
        have h0 : u.cells.toList.length = T.s := by simpa using hs u (by simp)
        rw [List.flatMap_cons, List.take_succ_cons, List.flatMap_cons, List.take_append, h0, List.take_of_length_le (by rw [h0, Nat.succ_mul]; omega), show (k + 1) * T.s - T.s = k * T.s by rw [Nat.succ_mul]; omega, ih k (fun v hv => hs v (by simp [hv]))]
  · rw [List.getElem?_take] at hu ha
    split at hu
    · rename_i hlt
      rw [if_pos hlt] at ha
      exact h3 q u a hu ha
    · cases hu
section
variable {c : Cfg} {S S1 : St} {a : Act} {w : World} {g : Gh} {hs : Nat → Value} {tab : Tab} {n : Nat} {o : Oper} {ops : Array Oper} {rest L : List Oper} {N : Po}
/-- a row of the call's own, cut short -/
theorem mt_sliceO {α : Type} {T : Ty α} {l : List α} {i p t el : Nat} {ti te : TI} {x q : Operand} {hv : Int} (ht : tab.ok) (ho : o.op = .slice t x none (some q) none) (h1 : tab t = some ti) (h2 : ti.sl = some el) (h3 : tab el = some te) (h4 : te.size = T.s)
    (hx : evX S.F x = some (.sv (.one (.own i)))) (hm : S.M[i]? = some (rowI el T l)) (hhi : evK S.F q = some (.int .i64 hv)) (h5 : 0 ≤ hv ∧ hv ≤ (l.length : Int)) : MT c S o (.sv (.one (.own p))) [i] (some (p, rowI el T (l.take hv.toNat))) := fun a w g hs h N Z hN => by
  obtain ⟨h6, h7⟩ := h5
  have hu := slT_some ((ht t ti h1).sl.trans h2)
  have hv0 : a.eval x = hs i := (evX_ok h hx).1
  obtain ⟨cs, ⟨hl0, r1⟩, r2⟩ := h.items i _ hm
  have hmine := h.mine i _ hm (by simp)
  have hlen : (l.take hv.toNat).length = hv.toNat := by simp; omega
  obtain ⟨ao, cap, e1, hcap, hao⟩ : ∃ ao cap, hs i = .slice ao l.length cap ∧ (l.length : Int) ≤ cap ∧ (∀ b, ao = some b → ∃ gb of, b = ⟨gb, of, none⟩) := by
    rcases r1 with ⟨e3, e4⟩ | ⟨gb, of, cap, cur, e3, e4, e5, _⟩
    · exact ⟨none, 0, by rw [e3, e4], by rw [e4]; simp, fun b hb => by cases hb⟩
    · exact ⟨_, cap, e3, by omega, fun b hb => ⟨gb, of, by cases hb; rfl⟩⟩
  have hb : (Instr.sliceBounds true l.length cap none (some (a.eval q)) none).run Try.prog w = .ok (0, hv.toNat, cap) w := by
    unfold Instr.sliceBounds
    simp only [Sem.run_bind, Sem.run_pure, Result.andThen_ok, Instr.sliceBound, evK_ok h hhi, asIntOf]
    rw [if_pos (by omega)]
    simp
  have hrun : (execOp a.eval o).run Try.prog w = .ok (.value (.slice ao hv.toNat cap)) w := by
    have : execOp a.eval o = (do pure (.value (← Instr.sliceAt t (a.eval x) none (some (a.eval q)) none)) : Sem Next) := by unfold execOp; rw [ho]; rfl
    rw [this]
    refine run_val ?_
    simp only [Instr.sliceAt, Instr.slice, Sem.run_bind, run_underlying hu, Result.andThen_ok, hv0, e1, hb, (ht el te h3).run_size, Sem.run_pure, h4]
    congr 2
    cases ao with
    | none => simp
    | some b =>
      obtain ⟨gb, of, rfl⟩ := hao _ rfl
      simp [Addr.add]
  unfold Oper.wp
  rw [hrun]
  refine hN _ _ g (.slice ao hv.toNat cap) ⟨rfl, rfl, rfl, Nat.le_refl _, fun _ _ _ => rfl, Gh.le.refl g, fun _ _ e => .inl e, h.base.pers⟩ ⟨?_, trivial⟩ ⟨⟨cs.take (hv.toNat * T.s), ⟨?_, ?_⟩, r2.take hv.toNat⟩, fun b hb => ?_⟩
  · show _ = (if p = p then _ else hs p)
    rw [if_pos rfl]
  · rw [hlen, List.length_take, hl0]
    exact Nat.min_eq_left (Nat.mul_le_mul_right _ (by omega))
  · rw [hlen]
    rcases r1 with ⟨e3, e4⟩ | ⟨gb, of, cap', cur, e3, e4, e5, e6, e7, e8⟩
    · rw [e3] at e1
      simp only [Value.slice.injEq] at e1
      obtain ⟨rfl, _, rfl⟩ := e1
      left
      exact ⟨by congr 1; omega, by omega⟩
    · rw [e3] at e1
      simp only [Value.slice.injEq] at e1
      obtain ⟨rfl, _, rfl⟩ := e1
      refine .inr ⟨gb, of, cap', cur, rfl, e4, by omega, e6, e7, ?_⟩
      rw [← e8, List.take_take]
      congr 1
      exact (Nat.min_eq_left (Nat.mul_le_mul_right _ (by omega))).symm
  · have hb' : blk (hs i) = some b := by
      rw [e1]
      cases ao with
      | none => cases hb
      | some q => exact hb
    obtain ⟨m1, m2⟩ := hmine b hb'
    exact ⟨m1, fun _ => (m2 rfl).2, .inr ⟨i, by simp, hb'⟩⟩
/-- what nothing has room for -/
theorem val_capNil {x : Operand} {t : Nat} {ti : TI} {e : Nat} (ht : tab.ok) (ho : o.op = .call ⟨.builtin .cap, #[x], #[t]⟩) (h1 : tab t = some ti) (h2 : ti.sl = some e) (hx : evX S.F x = some (.sv (.one (.v (.slice none 0 0))))) : Val c S o (.sv (.one (I 0))) := fun a w g hs h => by
  have hu := slT_some ((ht t ti h1).sl.trans h2)
  have hv : a.eval x = .slice none 0 0 := (evX_ok h hx).1
  refine ⟨.int .i64 0, ?_, rfl, trivial⟩
  have : execOp a.eval o = (do pure (.value (← Builtin.cap_ #[t] o.type #[a.eval x])) : Sem Next) := by
    unfold execOp
    rw [ho]
    simp [resolve, invoke, builtin]
  rw [this, hv]
  refine run_val ?_
  simp [Builtin.cap_, run_underlying hu, goInt]
/-- zeros behind nothing -/
theorem mt_appendZ {α : Type} {T : Ty α} (z0 : α) {zv : Value} (p : Nat) {t tn e : Nat} {ti te : TI} {kn k : IntKind} {x y : Operand} {l : Int} (ht : tab.ok) (ho : o.op = .call ⟨.builtin .append, #[x, y], #[t, tn]⟩) (h1 : tab t = some ti) (h2 : ti.sl = some e) (h3 : tab e = some te) (h4 : te.size = T.s) (h5 : 0 < T.s) (htn : Try.prog.underlying tn = some (.int kn))
    (hx : evX S.F x = some (.sv (.one (.v (.slice none 0 0))))) (hy : evK S.F y = some (.int k l)) (hl0 : 0 < l) (hb : l * te.bytes ≤ 140737488355328) (hb2 : l ≤ 140737488355328) (hzc : zv.cells.toList = te.zero) (hz : ∀ g, (T.sv z0).ok g hs0 zv) :
    MT c S o (.sv (.one (.own p))) [] (some (p, rowI e T (List.replicate l.toNat z0))) := fun a w g hs h N Z hN => by
  have hu := slT_some ((ht t ti h1).sl.trans h2)
  have hte := ht e te h3
  obtain ⟨x', z, i1, i2, i3, i4, i5⟩ := hte.parts
  have hzz : z.cells = zv.cells := by apply Array.toList_inj.1; rw [i5, hzc]
  have hzs : zv.cells.size = T.s := by rw [← Array.length_toList, hzc, hte.zs, h4]
  obtain ⟨m, rfl⟩ : ∃ m : Nat, l = m := ⟨l.toNat, by omega⟩
  have hsz : x'.size = T.s := by rw [i3, h4]
  have hb' : m * te.bytes ≤ 140737488355328 := by
    have : ((m * te.bytes : Nat) : Int) ≤ 140737488355328 := by rw [Int.natCast_mul]; exact hb
    omega
  have hrun := Lib.run_append_nil_zeros (P := Try.prog) w t tn o.type e x' z k kn hu htn i1 i2 m (by omega) (by omega) (by omega) (by rw [i4]; omega)
  have hge := grownCap_ge w m 0 e
  have hle := grownCap_le_maxLen w m 0 e (by simp only [maxLen]; omega)
  generalize grownCap w m 0 e = G at *
  unfold Oper.wp
  have hr : (execOp a.eval o).run Try.prog w = .ok (.value (.slice (some ⟨w.heap.size, 0, none⟩) m G)) (w.drew.alloc (.cells (Builtin.zeroCells z.cells m ++ Builtin.zeroCells z.cells (G - m)) e)) := by
    have : execOp a.eval o = (do pure (.value (← Builtin.append_ #[t, tn] o.type #[a.eval x, a.eval y])) : Sem Next) := by
      unfold execOp
      rw [ho]
      simp [resolve, invoke, builtin]
    rw [this, show a.eval x = .slice none 0 0 from (evX_ok h hx).1, evK_ok h hy]
    exact run_valW hrun
  rw [hr]
  have hzc1 : ∀ q, Builtin.zeroCells z.cells q = madeCells zv.cells (q * T.s) := fun q => by
    rw [hzz]
    unfold Builtin.zeroCells madeCells
    rw [hzs]
  have hblk : ∀ b, b < w.heap.size → (w.drew.alloc (.cells (Builtin.zeroCells z.cells m ++ Builtin.zeroCells z.cells (G - m)) e)).heap[b]? = w.heap[b]? := fun b hb => (World.grownBy_alloc w.drew _ none).block b hb (by simp)
  rw [hzc1, hzc1] at *
  refine hN _ _ g (.slice (some ⟨w.heap.size, 0, none⟩) m G) ⟨rfl, rfl, rfl, by simp, fun b hb _ => hblk b hb, Gh.le.refl g, fun b o e => .inl e, fun b o e => (hblk b (h.base.pers.lt e)).trans (h.base.pers b o e)⟩ ⟨?_, trivial⟩ ⟨⟨(madeCells zv.cells (m * T.s)).toList.take (m * T.s), ?_, made_row (hz g) hzs h5 (Nat.le_refl _)⟩, fun b hb => ?_⟩
  · show _ = (if p = p then _ else hs p)
    rw [if_pos rfl]
  · simp only [Int.toNat_natCast, List.length_replicate]
    refine World.ownsRow.at (base := 0) ⟨by rw [List.length_take, Array.length_toList, size_madeCells]; omega, .inr ⟨w.heap.size, G, madeCells zv.cells (m * T.s) ++ madeCells zv.cells ((G - m) * T.s), rfl, Nat.zero_le _, heap_alloc_new w.drew _, hge, hle, ?_, ?_⟩⟩
    · rw [Array.size_append, size_madeCells, size_madeCells, ← Nat.add_mul]
      congr 1
      omega
    · rw [Array.toList_append, List.take_append_of_le_length (by rw [Array.length_toList, size_madeCells]; exact Nat.le_refl _)]
  · cases hb
    refine ⟨by simp, fun _ => ?_, .inl (Nat.le_refl _)⟩
    cases hgb : g w.heap.size with
    | none => rfl
    | some o => have := h.base.pers.lt hgb; omega
/-- nothing, cut short -/
theorem val_sliceNil {t el : Nat} {ti te : TI} {x q : Operand} (ht : tab.ok) (ho : o.op = .slice t x none (some q) none) (h1 : tab t = some ti) (h2 : ti.sl = some el) (h3 : tab el = some te) (hx : evX S.F x = some (.sv (.one (.v (.slice none 0 0))))) (hhi : evK S.F q = some (.int .i64 0)) : Val c S o (.sv (.one (.v (.slice none 0 0)))) := fun a w g hs h => by
  have hu := slT_some ((ht t ti h1).sl.trans h2)
  have hv0 : a.eval x = .slice none 0 0 := (evX_ok h hx).1
  refine ⟨_, ?_, rfl, trivial⟩
  have : execOp a.eval o = (do pure (.value (← Instr.sliceAt t (a.eval x) none (some (a.eval q)) none)) : Sem Next) := by unfold execOp; rw [ho]; rfl
  rw [this]
  refine run_val ?_
  have hb : (Instr.sliceBounds true 0 0 none (some (a.eval q)) none).run Try.prog w = .ok (0, 0, 0) w := by
    unfold Instr.sliceBounds
    simp only [Sem.run_bind, Sem.run_pure, Result.andThen_ok, Instr.sliceBound, evK_ok h hhi, asIntOf]
    rw [if_pos (by omega)]
    simp
  simp only [Instr.sliceAt, Instr.slice, Sem.run_bind, run_underlying hu, Result.andThen_ok, hv0, hb, (ht el te h3).run_size, Sem.run_pure]
  simp
/-- what hangs on nothing that stays -/
def plainA : At → Bool
  | .v _ => true
  | _ => false
def plainS : SV → Bool
  | .one a => plainA a
  | .agg l => l.all plainA
def plainB : SC → Bool
  | .sv s => plainS s
  | .tup l => l.all plainS
theorem plainA_ok {g g' : Gh} {hs hs' : Nat → Value} {x : At} {u : Value} (hp : plainA x = true) (h : x.ok g hs u) : x.ok g' hs' u := by
  cases x <;> first | (cases hp; done) | exact h
theorem plain_oks {g g' : Gh} {hs hs' : Nat → Value} : ∀ {l : List At} {us : List Value}, l.all plainA = true → oks g hs l us → oks g' hs' l us
  | [], [], _, _ => trivial
  | [], _ :: _, _, h => h.elim
  | _ :: _, [], _, h => h.elim
  | _ :: _, _ :: _, hp, h => by
    rw [List.all_cons, Bool.and_eq_true] at hp
    exact ⟨plainA_ok hp.1 h.1, h.2.1, plain_oks hp.2 h.2.2⟩
theorem plainS_ok {g g' : Gh} {hs hs' : Nat → Value} {x : SV} {u : Value} (hp : plainS x = true) (h : x.ok g hs u) : x.ok g' hs' u := by
  cases x with
  | one a => exact plainA_ok hp h
  | agg l =>
    obtain ⟨cs, h1, h2⟩ := h
    exact ⟨cs, h1, plain_oks hp h2⟩
theorem plain_svs {g g' : Gh} {hs hs' : Nat → Value} : ∀ {l : List SV} {us : List Value}, l.all plainS = true → SV.oks g hs l us → SV.oks g' hs' l us
  | [], [], _, _ => trivial
  | [], _ :: _, _, h => h.elim
  | _ :: _, [], _, h => h.elim
  | _ :: _, _ :: _, hp, h => by
    rw [List.all_cons, Bool.and_eq_true] at hp
    exact ⟨plainS_ok hp.1 h.1, plain_svs hp.2 h.2⟩
theorem plainB_ok {g g' : Gh} {hs hs' : Nat → Value} {x : SC} {u : Value} (hp : plainB x = true) (h : x.ok g hs u) : x.ok g' hs' u := by
  cases x with
  | sv s => exact plainS_ok hp h
  | tup l =>
    obtain ⟨us, h1, h2⟩ := h
    exact ⟨us, h1, plain_svs hp h2⟩
theorem Eff.back {w' : World} {g2 g' : Gh} (he : Eff hs [] w g2 w' g') (hp : Pers g w) : Eff hs [] w g w' g :=
  ⟨he.os, he.tape, he.output, he.size, he.block, Gh.le.refl g, fun _ _ e => .inl e, fun b o e => (he.block b (hp.lt e) (fun k hk => by simp at hk)).trans (hp b o e)⟩
/-- a reading of memory that hangs on nothing that stays -/
def plainI (it : Item) : Prop := ∀ g g' hs hs' w v, it.ok g hs w v → it.ok g' hs' w v
theorem plain_row {α : Type} {T : Ty α} {l : List α} {e : Nat} (hT : ∀ a, plainS (T.sv a) = true) : plainI (rowI e T l) := fun g g' hs hs' w v ⟨cs, h1, us, h2, h3, h4⟩ => ⟨cs, h1, us, h2, h3, fun q u a hu ha => ⟨plainS_ok (hT a) (h4 q u a hu ha).1, (h4 q u a hu ha).2⟩⟩
theorem mt_lendI {α : Type} {T : Ty α} {l : List α} {e p : Nat} {it : Item} (i : Nat) (hm : S.M[i]? = some (rowI e T l)) (hp : plainI it) (h : MT c (sealS S i (LS T l)) o (.sv (.one (.own p))) [] (some (p, it))) : MT c S o (.sv (.one (.own p))) [] (some (p, it)) := fun a w g hs hk N Z hN => by
  obtain ⟨g2, hk2⟩ := hk.seal hm
  refine h a w g2 hs hk2 N Z fun v w' g' h' h1 h2 h3 => hN v w' g h' (h1.back hk.base.pers) ⟨h2.1, h2.2⟩ ⟨hp _ _ _ _ _ _ h3.1, fun b hb => ?_⟩
  obtain ⟨m1, m2, m3⟩ := h3.2 b hb
  refine ⟨m1, fun _ => ?_, m3⟩
  rcases m3 with m3 | ⟨k, hk, _⟩
  · cases hg : g b with
    | none => rfl
    | some o => have := hk.base.pers.lt hg; omega
  · simp at hk
/-- variables, lent to be read -/
theorem mt_lendF {x : SC} (l : List Nat) {M' : List Item} (e : fzSets S.M l = some M') (hp : plainB x = true) (h : MT c ⟨S.F, M'⟩ o x [] none) : MT c S o x [] none := fun a w g hs hk N Z hN => by
  obtain ⟨g2, hk2⟩ := freezes (F := S.F) e hk
  exact h a w g2 hs hk2 N Z fun v w' g' h' h1 h2 _ => hN v w' g h' (h1.back hk.base.pers) (plainB_ok hp h2) trivial
/-- a slot told otherwise, for one operation -/
theorem mt_ghost {x : SC} {K : List Nat} {p : Option (Nat × Item)} (t : Nat) {y : SC} (y' : SC) (hl : look t S.F = some y) (hx : ∀ a w g hs, Ok' c S a w g hs → ∀ u, y.ok g hs u → y'.ok g hs u) (h : MT c ⟨(t, y') :: S.F, S.M⟩ o x K p) : MT c S o x K p := fun a w g hs hk N Z hN => by
  refine h a w g hs ⟨hk.size, hk.defers, hk.base, fun t' z hz => ?_, hk.items, hk.sep, hk.mine⟩ N Z hN
  rcases List.mem_cons.1 hz with hz | hz
  · cases hz
    exact hx a w g hs hk _ (hk.slots t _ (look_mem hl))
  · exact hk.slots t' z hz
def ArgLe (l' l : List SC) : Prop := ∀ (g : Gh) (hs : Nat → Value) (us : List Value), okArgs g hs l' us → okArgs g hs l us
theorem Ct.args {β : Type} {f : Nat} {ins ins' : List SC} {M : List Item} {post : β → Prop} {out : β → SC} (h : Ct f ins M post out) (hle : ArgLe ins' ins) : Ct f ins' M post out := fun w g hs args h1 h2 h3 => h w g hs args h1 (hle _ _ _ h2) h3
theorem mu_store2 {t i off ty : Nat} {ti : TI} {x y : Operand} {s : SV} {cells r : List At} (ht : tab.ok) (ho : o.op = .store t x y) (h1 : tab t = some ti) (hx : evX S.F x = some (.sv (.one (.ptr i off)))) (hm : S.M[i]? = some (.box cells ty false)) (hy : evX S.F y = some (.sv s)) (hj : s ≠ .one .junk)
    (hb : (Nat.beq (svCells s).length ti.size && Nat.ble (off + (svCells s).length) cells.length) = true) (hr : cells.take off ++ svCells s ++ cells.drop (off + (svCells s).length) = r) : MU c S o i (.box r ty false) := hr ▸ mu_store ht ho h1 hx hm hy hj hb
end
end Go.Proofs.Ytfpdnigihjmohaa

/- Symbolic states of a walk: strings made of bytes, strings compared, strings as keys. No condition. -/
namespace Go.Proofs.Ytfpdnigihjmohaa
open Go.RowKit Go.MapKept
set_option linter.unusedSimpArgs false
set_option linter.unusedVariables false
set_option maxRecDepth 100000
set_option linter.unusedSectionVars false

/-- a string of bytes -/
def bytesOf (l : List Int) : ByteArray := l.foldl (fun r n => r.push (UInt8.ofNat n.toNat)) ByteArray.empty
theorem push_toList (l : List Int) : ∀ s : ByteArray, (l.foldl (fun r n => r.push (UInt8.ofNat n.toNat)) s).data.toList = s.data.toList ++ l.map fun n => UInt8.ofNat n.toNat := by
  induction l with
  | nil => intro s; simp
  | cons n l ih => intro s; rw [List.foldl_cons, ih]; simp [ByteArray.push]
theorem bytesOf_inj {l m : List Int} (hl : ∀ x ∈ l, 0 ≤ x ∧ x < 256) (hm : ∀ x ∈ m, 0 ≤ x ∧ x < 256) (h : bytesOf l = bytesOf m) : l = m := by
  have e := congrArg (fun s : ByteArray => s.data.toList) h
  simp only [bytesOf, push_toList] at e
  have e0 : ByteArray.empty.data.toList = [] := rfl
  rw [e0, List.nil_append, List.nil_append] at e
  clear h e0
  induction l generalizing m with
  | nil =>
    cases m with
    | nil => rfl
    | cons y m => simp at e
  | cons x l ih =>
    cases m with
    | nil => simp at e
    | cons y m =>
      simp only [List.map_cons, List.cons.injEq] at e
      have h1 := hl x List.mem_cons_self
      have h2 := hm y List.mem_cons_self
      have h3 : x.toNat = y.toNat := by
        have := congrArg UInt8.toNat e.1
        simp only [UInt8.toNat_ofNat'] at this
        omega
      rw [ih (fun z hz => hl z (List.mem_cons_of_mem _ hz)) (fun z hz => hm z (List.mem_cons_of_mem _ hz)) e.2, show x = y by omega]
theorem rowRead.bytes {l : List Int} {g : Gh} {cs : List Value} {k : IntKind} (h : rowRead (intKT k) l g cs) : cs = l.map (Value.int k) := by
  obtain ⟨us, rfl, h2, h3⟩ := h
  have : us = l.map (Value.int k) := by
    refine List.ext_getElem? fun q => ?_
    rw [List.getElem?_map]
    cases hu : us[q]? with
    | none =>
      have := List.getElem?_eq_none_iff.1 hu
      rw [List.getElem?_eq_none (by omega)]
      rfl
    | some u =>
      have hq := (List.getElem?_eq_some_iff.1 hu).1
      have ha : l[q]? = some (l[q]'(by omega)) := List.getElem?_eq_getElem (by omega)
      rw [ha]
      have := (h3 q u _ hu ha).1.1
      show some u = some _
      rw [show u = _ from this]
  rw [this]
  clear this h2 h3
  induction l with
  | nil => rfl
  | cons x l ih => simp only [List.map_cons, List.flatMap_cons, ih]; rfl
theorem flat_drop {s : Nat} : ∀ {us : List Value} (k : Nat), (∀ u ∈ us, u.cells.size = s) → (us.flatMap (·.cells.toList)).drop (k * s) = (us.drop k).flatMap (·.cells.toList)
  | us, 0, _ => by simp
  | [], k + 1, _ => by simp
  | u :: us, k + 1, h => by
    have hu : u.cells.toList.length = s := by simpa using h u List.mem_cons_self
    have ih := flat_drop (us := us) k fun x hx => h x (List.mem_cons_of_mem _ hx)
    rw [List.flatMap_cons, List.drop_succ_cons, Nat.succ_mul, Nat.add_comm, ← hu, ← List.drop_drop, List.drop_left, hu]
    exact ih
theorem rowRead.drop {α : Type} {T : Ty α} {l : List α} {g : Gh} {cs : List Value} (h : rowRead T l g cs) (k : Nat) : rowRead T (l.drop k) g (cs.drop (k * T.s)) := by
  obtain ⟨us, rfl, h2, h3⟩ := h
  refine ⟨us.drop k, flat_drop k (rowRead.sizes h2 h3), by simp [h2], fun q u a hu ha => ?_⟩
  rw [List.getElem?_drop] at hu ha
  exact h3 _ u a hu ha
section
variable {c : Cfg} {S S1 : St} {a : Act} {w : World} {g : Gh} {hs : Nat → Value} {tab : Tab} {n : Nat} {o : Oper} {ops : Array Oper} {rest L : List Oper} {N : Po}
/-- a row of the call's own, as what is read -/
theorem srcOwn {α : Type} {T : Ty α} {es : List α} {y : Operand} {i e : Nat} (hT : T.solid) (hy : evX S.F y = some (.sv (.one (.own i)))) (hm : S.M[i]? = some (rowI e T es)) : SrcOk c S y T es := fun a w g hs h => by
  have hv : a.eval y = hs i := (evX_ok h hy).1
  obtain ⟨cs, ⟨hl0, r1⟩, r2⟩ := h.items i _ hm
  refine ⟨cs, ?_, r2⟩
  rw [hv]
  rcases r1 with ⟨e1, e2⟩ | ⟨gb, of, cap, cur, e1, e4, _, _, _, e5⟩
  · refine ⟨none, 0, by rw [e1, e2], fun _ => ⟨rfl, e2⟩, hl0, fun j u hj => ?_, fun u hu => (r2.cells hT u hu).one⟩
    have := (List.getElem?_eq_some_iff.1 hj).1
    rw [hl0, e2] at this
    omega
  · refine ⟨some ⟨gb, of, none⟩, cap, e1, (fun h => by cases h), hl0, fun j u hj => ⟨gb, of, rfl, ?_⟩, fun u hu => (r2.cells hT u hu).one⟩
    unfold World.cell?
    rw [← e5, List.getElem?_take] at hj
    split at hj
    · rw [List.getElem?_drop] at hj
      simp only [e4]
      simpa using hj
    · cases hj
/-- a string of bytes -/
theorem val_str {l : List Int} {src t e : Nat} {x : Operand} (ho : o.op = .convert src t x) (h1 : Try.prog.underlying src = some (.slice e)) (h2 : Try.prog.underlying e = some (.int .u8)) (h3 : Try.prog.underlying t = some .string) (hx : SrcOk c S x (intKT .u8) l) : Val c S o (.sv (.one (.v (.string (bytesOf l))))) := fun a w g hs h => by
  obtain ⟨cs, ⟨ao, cp, e1, e2, e3, e4, e5⟩, r⟩ := hx a w g hs h
  obtain rfl := r.bytes
  refine ⟨.string (bytesOf l), ?_, rfl, trivial⟩
  have : (execOp a.eval o) = (do pure (.value (← convert src t (a.eval x))) : Sem Next) := by unfold execOp; rw [ho]
  rw [this]
  refine run_val ?_
  rw [e1, run_convert_bytes_string w src t e ao _ cp h1 h2 h3]
  cases ao with
  | none =>
    obtain ⟨_, h0⟩ := e2 rfl
    obtain rfl := List.eq_nil_of_length_eq_zero h0
    rfl
  | some ad =>
    refine run_bytesToString w ad _ cp l ?_
    have := run_loadCells_list (P := Try.prog) (w := w) ad (l.map (Value.int .u8)) fun j v hj => by
      obtain ⟨b, of, h4, h5⟩ := e4 j v hj
      cases h4
      rw [svs_add]
      exact h5
    rw [List.length_map] at this
    exact this
theorem list_bytes (u v : ByteArray) : (u.toList == v.toList) = decide (u = v) := by
  rw [ByteArray.toList_eq, ByteArray.toList_eq]
  by_cases e : u = v
  · subst e; simp
  · have h3 : u.data.toList ≠ v.data.toList := fun e2 => e (by
      cases u; cases v
      simp only [ByteArray.mk.injEq]
      exact Array.toList_inj.1 e2)
    rw [beq_eq_false_iff_ne.2 h3]
    simp [e]
/-- strings compared -/
theorem val_eqS {x y : Operand} {t : Nat} {b : TypeId} {u v : ByteArray} {op : BinOp} {r : Bool} (ho : o.op = .binOp op t x y b) (hx : evX S.F x = some (.sv (.one (.v (.string u))))) (hy : evX S.F y = some (.sv (.one (.v (.string v))))) (hop : (op = .eql ∧ r = decide (u = v)) ∨ (op = .neq ∧ r = !decide (u = v))) : Val c S o (.sv (.one (B r))) := fun a w g hs h => by
  have h1 : a.eval x = .string u := (evX_ok h hx).1
  have h2 : a.eval y = .string v := (evX_ok h hy).1
  refine ⟨.bool r, ?_, rfl, trivial⟩
  have e : execOp a.eval o = (do pure (.value (← (do eqGuard op t x y (a.eval x) (a.eval y); binOp op t (a.eval x) (a.eval y) : Sem Value))) : Sem Next) := by unfold execOp; rw [ho]
  rw [e]
  refine run_val ?_
  rw [h1, h2]
  rcases hop with ⟨rfl, rfl⟩ | ⟨rfl, rfl⟩
  · have hg : (eqGuard .eql t x y (.string u) (.string v)).run Try.prog w = .ok () w := by simp [eqGuard]
    rw [Sem.run_bind, hg, Result.andThen_ok]
    simp [binOp, Op.stringOp, list_bytes]
  · have hg : (eqGuard .neq t x y (.string u) (.string v)).run Try.prog w = .ok () w := by simp [eqGuard]
    rw [Sem.run_bind, hg, Result.andThen_ok]
    simp [binOp, Op.stringOp, list_bytes]
end
end Go.Proofs.Ytfpdnigihjmohaa

/- Where the first element stands that is so. No condition. -/
namespace Go.Proofs.Ytfpdnigihjmohaa
open Go.RowKit
set_option linter.unusedSimpArgs false
set_option linter.unusedVariables false
set_option maxRecDepth 100000

def idxTo {α : Type} (p : α → Bool) (l : List α) : Int := match l.findIdx? p with | some k => k | none => -1
theorem idxTo_nonneg {α : Type} (p : α → Bool) (l : List α) : decide (0 ≤ idxTo p l) = l.any p := by
  unfold idxTo
  cases h : l.findIdx? p with
  | none =>
    rw [List.findIdx?_eq_none_iff] at h
    have : l.any p = false := by
      rw [List.any_eq_false]
      intro x hx
      simp [h x hx]
    rw [this]
    rfl
  | some k =>
    obtain ⟨hk, hp, _⟩ := List.findIdx?_eq_some_iff_getElem.1 h
    have : l.any p = true := List.any_eq_true.2 ⟨_, List.getElem_mem hk, hp⟩
    rw [this]
    simp
theorem idxTo_hit {α : Type} [Inhabited α] {p : α → Bool} {l : List α} {k : Nat} (d : α) (hk : k < l.length) (hp : p (l.getD k d) = true) (hn : ∀ j, j < k → p (l.getD j d) = false) : idxTo p l = k := by
  unfold idxTo
  have : l.findIdx? p = some k := by
    rw [List.findIdx?_eq_some_iff_getElem]
    refine ⟨hk, by simpa [hk] using hp, fun j hj => ?_⟩
    have := hn j hj
    simp [show j < l.length by omega] at this
    simp [this]
  rw [this]
theorem idxTo_miss {α : Type} {p : α → Bool} {l : List α} (d : α) (hn : ∀ j, j < l.length → p (l.getD j d) = false) : idxTo p l = -1 := by
  unfold idxTo
  have : l.findIdx? p = none := by
    rw [List.findIdx?_eq_none_iff]
    intro x hx
    obtain ⟨j, hj, rfl⟩ := List.mem_iff_getElem.1 hx
    have := hn j hj
    simpa [hj] using this
  rw [this]
end Go.Proofs.Ytfpdnigihjmohaa

/- Plain laws of library functions that are used again and again. No condition. -/
namespace Go.Proofs.Ytfpdnigihjmohaa
open Go.RowKit Go.MapKept
set_option linter.unusedSimpArgs false
set_option linter.unusedVariables false
set_option maxRecDepth 100000

theorem index_plain {α : Type} [Inhabited α] (l : List α) (dom : α → Prop) (φ : α → Bool) (hd : ∀ x ∈ l, dom x) : l.length ≤ 9223372036854775807 → (∃ (Inv : Int → Prop) (mu : Int → Nat), Inv 0 ∧
  ∀ (x8 : Int), Inv x8 → (IfP (decide (x8 < (l.length : Int))) (∃ e, idx l x8 = some e ∧ dom e ∧ IfP (φ e) (x8 = idxTo φ l) (Inv (wr (x8 + 1)) ∧ mu (wr (x8 + 1)) < mu x8)) (-1 = idxTo φ l))) := by
  intro hl
  refine ⟨fun x => ∃ k : Nat, x = k ∧ k ≤ l.length ∧ ∀ j e, j < k → l[j]? = some e → φ e = false, fun x => l.length - x.toNat, ⟨0, rfl, Nat.zero_le _, fun j e hj => absurd hj (Nat.not_lt_zero _)⟩, ?_⟩
  rintro x ⟨k, rfl, hk, hp⟩
  refine ⟨fun hb => ?_, fun hb => ?_⟩
  · have hlt : k < l.length := by simpa using hb
    refine ⟨l[k], by simp [idx, hlt], hd _ (List.getElem_mem hlt), fun h1 => ?_, fun h1 => ?_⟩
    · exact (idxTo_hit l[k] hlt (by simpa [hlt] using h1) (fun j hj => by
        have hjl : j < l.length := by omega
        simpa [hjl] using hp j _ hj (List.getElem?_eq_getElem hjl))).symm
    · rw [wr_in (by omega) (by omega)]
      refine ⟨⟨k + 1, by omega, by omega, fun j e hj he => ?_⟩, by simp only; omega⟩
      by_cases ej : j = k
      · subst ej
        simp [hlt] at he
        subst he
        exact h1
      · exact hp j e (by omega) he
  · have e : k = l.length := by simp at hb; omega
    by_cases h0 : l = []
    · subst h0; rfl
    · have h1 : 0 < l.length := List.length_pos_iff.2 h0
      exact (idxTo_miss (l[0]) fun j hj => by simpa [hj] using hp j _ (by omega) (List.getElem?_eq_getElem hj)).symm
end Go.Proofs.Ytfpdnigihjmohaa

/- Symbolic states of a walk: contracts whose result holds a new piece of memory, the caller's own. No condition. -/
namespace Go.Proofs.Ytfpdnigihjmohaa
open Go.RowKit Go.MapKept
set_option linter.unusedSimpArgs false
set_option linter.unusedVariables false
set_option maxRecDepth 100000
set_option linter.unusedSectionVars false

/-- a contract: a result that is so, within which .own 0 is a new piece of memory, the caller's own -/
def CtS {β : Type} (f : Nat) (ins : List SC) (M : List Item) (post : β → Prop) (out : β → SC) (itf : β → Item) : Prop := ∀ (w : World) (g : Gh) (hs : Nat → Value) (args : List Value), Pers g w → okArgs g hs ins args → (∀ (i : Nat) (it : Item), M[i]? = some it → fzOk g hs (hs i) it) →
  Calls Try.prog f args.toArray w (fun en w' => ∃ v g' r h', en = .returned v ∧ post r ∧ Base (cfg0 0 w g) w' g' ∧ (out r).ok g' (fun _ => h') v ∧ (itf r).ok g' hs0 w' h' ∧ ∀ b, blk h' = some b → b < w'.heap.size ∧ w.heap.size ≤ b ∧ g' b = none)
theorem CtS.fun {β : Type} {f : Nat} {ins : List SC} {M : List Item} {r : β} {out : β → SC} {itf : β → Item} (h : CtS f ins M (fun x => x = r) out itf) : CtS f ins M (fun (_ : Unit) => True) (fun _ => out r) (fun _ => itf r) := fun w g hs args h1 h2 h3 =>
  (h w g hs args h1 h2 h3).mono fun e w' ⟨v, g', r', h', e1, e2, e3⟩ => ⟨v, g', (), h', e1, trivial, by subst e2; exact e3⟩
def RetS {β : Type} (c : Cfg) (rs : Array ResultVar) (post : β → Prop) (out : β → SC) (itf : β → Item) : Po := fun a w => a.defers = [] ∧ ∃ v g' r h', (resR rs a.tmps).run Try.prog w = .ok v w ∧ post r ∧ Base c w g' ∧ (out r).ok g' (fun _ => h') v ∧ (itf r).ok g' hs0 w h' ∧ ∀ b, blk h' = some b → b < w.heap.size ∧ c.w0.heap.size ≤ b ∧ g' b = none
section
variable {c : Cfg} {S S1 : St} {a : Act} {w : World} {g : Gh} {hs : Nat → Value} {tab : Tab} {o : Oper}
theorem CtS.body {β : Type} {post : β → Prop} {out : β → SC} {itf : β → Item} {f : Nat} {fn : Func} {code : Code} {n : Nat} {rs : Array ResultVar} {ins : List SC} {M : List Item} (hf : Try.prog.funcs[f]? = some fn) (hb : fn.body = some code) (hn : fn.ntmps = n) (hr : fn.results = rs)
    (hl : Nat.ble ins.length n = true) (h : ∀ c : Cfg, c.n = n → c.may = (fun _ => False) → En c ⟨enumF 0 ins, M⟩ (cwp code (PQ (RetS c rs post out itf) [] (RetS c rs post out itf)))) : CtS f ins M post out itf := fun w g hs args hp ha hm => by
  have hl := Nat.le_of_ble_eq_true hl
  have hla := okArgs_length ha
  refine calls_of_wp hf hb (Code.wp_mono (fun ex a w' q => ?_) (h (cfg0 n w g) rfl rfl { tmps := args.toArray ++ Array.replicate (fn.ntmps - args.toArray.size) undef, defers := [] } w ⟨g, hs, ?_⟩))
  · have key : RetS (cfg0 n w g) rs post out itf a w' → a.defers = [] ∧ ∃ v, (results fn a.tmps).run Try.prog w' = .ok v w' ∧ ∃ v' g' r' h', Ending.returned v = .returned v' ∧ post r' ∧ Base (cfg0 0 w g) w' g' ∧ (out r').ok g' (fun _ => h') v' ∧ (itf r').ok g' hs0 w' h' ∧ ∀ b, blk h' = some b → b < w'.heap.size ∧ w.heap.size ≤ b ∧ g' b = none := fun ⟨h1, v, g', r', h', h2, h4, h5, h6, h7, h8⟩ => by
      refine ⟨h1, v, ?_, v, g', r', h', rfl, h4, ⟨h5.os, h5.tape, h5.output, h5.grows, h5.frame, h5.ghle, h5.ghnew, h5.pers⟩, h6, h7, h8⟩
      subst hr
      exact h2
    cases ex <;> first | exact key q | exact (q : False).elim
  · refine ⟨?_, rfl, ⟨rfl, rfl, rfl, Nat.le_refl _, fun _ _ _ => rfl, Gh.le.refl g, fun b o e => .inl e, hp⟩, fun t x hx => ?_, fun i it hi => ?_, ?_, ?_⟩
    · simp [cfg0, hn]
      omega
    · obtain ⟨u, h1, _, h3⟩ := enumF_ok ha hx
      simp only [Nat.sub_zero] at h1
      have hlt := (List.getElem?_eq_some_iff.1 h1).1
      have : (args.toArray ++ Array.replicate (fn.ntmps - args.toArray.size) undef).getD t undef = u := by
        rw [Array.getD_eq_getD_getElem?, Array.getElem?_append_left (by simpa using hlt)]
        simp [h1]
      rw [this]
      exact h3
    · have := hm i it hi
      cases it <;> try exact this.elim
      rename_i cells ty fz
      cases fz
      · exact this.elim
      · obtain ⟨b, cs, h1, h2, h3⟩ := this
        exact ⟨b, cs, h1, h2, hp _ _ h3, fun _ => h3⟩
    · intro i j it jt _ hi _ hfi
      have := hm i it hi
      cases it <;> try exact this.elim
      rename_i cells ty fz
      cases fz
      · exact this.elim
      · cases hfi
    · intro i it hi hnn b hb
      clear hnn
      have := hm i it hi
      cases it <;> try exact this.elim
      rename_i cells ty fz
      cases fz
      · exact this.elim
      · obtain ⟨b', cs, h1, h2, h3⟩ := this
        rw [h1] at hb
        cases hb
        exact ⟨hp.lt h3, fun h => by cases h⟩
theorem En.label {l : Nat} {N R : Po} {E : List (Nat × Po)} (h : En c S N) : En c S (cwp (.label l) (PQ N E R)) := fun a w hk => wp_label (h a w hk)
end
end Go.Proofs.Ytfpdnigihjmohaa

/- What is to be known of types; structs as plain data. No condition. -/
namespace Go.Proofs.Ytfpdnigihjmohaa
open Go.RowKit Go.MapKept
set_option linter.unusedSimpArgs false
set_option linter.unusedVariables false
set_option maxRecDepth 100000

structure ApiEdge where
  fFrom : Int
  fTo : Int
  fLow : Int
  fHigh : Int
  fOpen : Int
  fReset : Int
deriving DecidableEq, Inhabited
abbrev ApiEdge.sv (x : ApiEdge) : SV := .agg [I x.fFrom, I x.fTo, I x.fLow, I x.fHigh, I x.fOpen, I x.fReset]
abbrev ApiEdge.ty : Ty ApiEdge := ⟨6, ApiEdge.sv⟩
structure ApiTimed where
  fStay : (List Int)
  fEdges : (List ApiEdge)
  fGoal : Int
deriving DecidableEq, Inhabited
abbrev ApiTimed.sv (x : ApiTimed) : SV := .agg [LS intT x.fStay, LS ApiEdge.ty x.fEdges, I x.fGoal]
abbrev ApiTimed.ty : Ty ApiTimed := ⟨3, ApiTimed.sv⟩
structure ApiLeg where
  fWait : Int
  fEdge : Int
deriving DecidableEq, Inhabited
abbrev ApiLeg.sv (x : ApiLeg) : SV := .agg [I x.fWait, I x.fEdge]
abbrev ApiLeg.ty : Ty ApiLeg := ⟨2, ApiLeg.sv⟩
structure ApiLasso where
  fHead : (List Int)
  fLoop : (List Int)
deriving DecidableEq, Inhabited
abbrev ApiLasso.sv (x : ApiLasso) : SV := .agg [LS intT x.fHead, LS intT x.fLoop]
abbrev ApiLasso.ty : Ty ApiLasso := ⟨2, ApiLasso.sv⟩
structure ApiMuller where
  fLetters : Int
  fStart : Int
  fNext : (List (List Int))
  fGood : (List Int)
deriving DecidableEq, Inhabited
abbrev ApiMuller.sv (x : ApiMuller) : SV := .agg [I x.fLetters, I x.fStart, LS (lsT intT) x.fNext, LS intT x.fGood]
abbrev ApiMuller.ty : Ty ApiMuller := ⟨4, ApiMuller.sv⟩
structure ApiPush where
  fFrom : Int
  fTop : Int
  fTo : Int
  fPut : (List Int)
deriving DecidableEq, Inhabited
abbrev ApiPush.sv (x : ApiPush) : SV := .agg [I x.fFrom, I x.fTop, I x.fTo, LS intT x.fPut]
abbrev ApiPush.ty : Ty ApiPush := ⟨4, ApiPush.sv⟩
structure ApiConfig where
  fControl : Int
  fStack : (List Int)
deriving DecidableEq, Inhabited
abbrev ApiConfig.sv (x : ApiConfig) : SV := .agg [I x.fControl, LS intT x.fStack]
abbrev ApiConfig.ty : Ty ApiConfig := ⟨2, ApiConfig.sv⟩
structure ApiMorph where
  fBase : Int
  fImages : (List (List Int))
  fCoding : (List Int)
deriving DecidableEq, Inhabited
abbrev ApiMorph.sv (x : ApiMorph) : SV := .agg [I x.fBase, LS (lsT intT) x.fImages, LS intT x.fCoding]
abbrev ApiMorph.ty : Ty ApiMorph := ⟨3, ApiMorph.sv⟩
structure ApiAlter where
  fLetters : Int
  fStart : Int
  fNext : (List (List (List (List Int))))
  fMark : (List Int)
deriving DecidableEq, Inhabited
abbrev ApiAlter.sv (x : ApiAlter) : SV := .agg [I x.fLetters, I x.fStart, LS (lsT (lsT (lsT intT))) x.fNext, LS intT x.fMark]
abbrev ApiAlter.ty : Ty ApiAlter := ⟨4, ApiAlter.sv⟩
structure ApiDet where
  fLetters : Int
  fStart : Int
  fNext : (List (List Int))
  fMark : (List Int)
deriving DecidableEq, Inhabited
abbrev ApiDet.sv (x : ApiDet) : SV := .agg [I x.fLetters, I x.fStart, LS (lsT intT) x.fNext, LS intT x.fMark]
abbrev ApiDet.ty : Ty ApiDet := ⟨4, ApiDet.sv⟩
structure ApiHeaps where
  fPlaces : Int
  fTakes : (List (List Int))
  fGives : (List (List Int))
deriving DecidableEq, Inhabited
abbrev ApiHeaps.sv (x : ApiHeaps) : SV := .agg [I x.fPlaces, LS (lsT intT) x.fTakes, LS (lsT intT) x.fGives]
abbrev ApiHeaps.ty : Ty ApiHeaps := ⟨3, ApiHeaps.sv⟩
structure ApiPump where
  fBounded : Bool
  fFirst : (List Int)
  fAgain : (List Int)
deriving DecidableEq, Inhabited
abbrev ApiPump.sv (x : ApiPump) : SV := .agg [B x.fBounded, LS intT x.fFirst, LS intT x.fAgain]
abbrev ApiPump.ty : Ty ApiPump := ⟨3, ApiPump.sv⟩
structure ApiCover where
  fCan : Bool
  fSteps : (List Int)
  fBars : (List (List Int))
deriving DecidableEq, Inhabited
abbrev ApiCover.sv (x : ApiCover) : SV := .agg [B x.fCan, LS intT x.fSteps, LS (lsT intT) x.fBars]
abbrev ApiCover.ty : Ty ApiCover := ⟨3, ApiCover.sv⟩
structure ApiSwap where
  fFrom : (List Int)
  fTo : (List Int)
deriving DecidableEq, Inhabited
abbrev ApiSwap.sv (x : ApiSwap) : SV := .agg [LS intT x.fFrom, LS intT x.fTo]
abbrev ApiSwap.ty : Ty ApiSwap := ⟨2, ApiSwap.sv⟩
structure ApiArrow where
  fFrom : Int
  fLetter : Int
  fTo : Int
deriving DecidableEq, Inhabited
abbrev ApiArrow.sv (x : ApiArrow) : SV := .agg [I x.fFrom, I x.fLetter, I x.fTo]
abbrev ApiArrow.ty : Ty ApiArrow := ⟨3, ApiArrow.sv⟩
structure ApiGraph where
  fLetters : Int
  fPlaces : Int
  fArrows : (List ApiArrow)
deriving DecidableEq, Inhabited
abbrev ApiGraph.sv (x : ApiGraph) : SV := .agg [I x.fLetters, I x.fPlaces, LS ApiArrow.ty x.fArrows]
abbrev ApiGraph.ty : Ty ApiGraph := ⟨3, ApiGraph.sv⟩
structure ApiFault where
  fCode : Int
  fAt : Int
deriving DecidableEq, Inhabited
abbrev ApiFault.sv (x : ApiFault) : SV := .agg [I x.fCode, I x.fAt]
abbrev ApiFault.ty : Ty ApiFault := ⟨2, ApiFault.sv⟩
structure TimedWay where
  fTime : Int
  fLegs : (List ApiLeg)
  fDone : Bool
deriving DecidableEq, Inhabited
abbrev TimedWay.sv (x : TimedWay) : SV := .agg [I x.fTime, LS ApiLeg.ty x.fLegs, B x.fDone]
abbrev TimedWay.ty : Ty TimedWay := ⟨3, TimedWay.sv⟩
structure EhrenTable where
  fU : (List Int)
  fV : (List Int)
  fA : (List Int)
  fB : (List Int)
deriving DecidableEq, Inhabited
abbrev EhrenTable.sv (x : EhrenTable) : SV := .agg [LS intT x.fU, LS intT x.fV, LS intT x.fA, LS intT x.fB]
abbrev EhrenTable.ty : Ty EhrenTable := ⟨4, EhrenTable.sv⟩
structure StackEdge where
  fFrom : Int
  fSign : Int
  fTo : Int
deriving DecidableEq, Inhabited
abbrev StackEdge.sv (x : StackEdge) : SV := .agg [I x.fFrom, I x.fSign, I x.fTo]
abbrev StackEdge.ty : Ty StackEdge := ⟨3, StackEdge.sv⟩
structure StackWay where
  fTo : Int
  fCost : Int
  fOver : (List StackEdge)
deriving DecidableEq, Inhabited
abbrev StackWay.sv (x : StackWay) : SV := .agg [I x.fTo, I x.fCost, LS StackEdge.ty x.fOver]
abbrev StackWay.ty : Ty StackWay := ⟨3, StackWay.sv⟩
structure St158 where
  fE0 : Int
  fE1 : Int
deriving DecidableEq, Inhabited
abbrev St158.sv (x : St158) : SV := .agg [I x.fE0, I x.fE1]
abbrev St158.ty : Ty St158 := ⟨2, St158.sv⟩
structure SeqsPlace where
  fA : Int
  fB : Int
  fN : Int
deriving DecidableEq, Inhabited
abbrev SeqsPlace.sv (x : SeqsPlace) : SV := .agg [I x.fA, I x.fB, I x.fN]
abbrev SeqsPlace.ty : Ty SeqsPlace := ⟨3, SeqsPlace.sv⟩
structure CoverBar where
  fState : (List Int)
  fStep : Int
  fThen : Int
deriving DecidableEq, Inhabited
abbrev CoverBar.sv (x : CoverBar) : SV := .agg [LS intT x.fState, I x.fStep, I x.fThen]
abbrev CoverBar.ty : Ty CoverBar := ⟨3, CoverBar.sv⟩
structure TimeNode where
  fKind : Int
  fA : Int
  fB : Int
deriving DecidableEq, Inhabited
abbrev TimeNode.sv (x : TimeNode) : SV := .agg [I x.fKind, I x.fA, I x.fB]
abbrev TimeNode.ty : Ty TimeNode := ⟨3, TimeNode.sv⟩
structure TimedSpot where
  fPlace : Int
  fClock : Int
deriving DecidableEq, Inhabited
abbrev TimedSpot.sv (x : TimedSpot) : SV := .agg [I x.fPlace, I x.fClock]
abbrev TimedSpot.ty : Ty TimedSpot := ⟨2, TimedSpot.sv⟩
structure St205 where
  fE0 : (List Int)
  fE1 : (List Int)
deriving DecidableEq, Inhabited
abbrev St205.sv (x : St205) : SV := .agg [LS intT x.fE0, LS intT x.fE1]
abbrev St205.ty : Ty St205 := ⟨2, St205.sv⟩
structure StackKnown where
  fRule : Int
  fCost : Int
  fOver : (List StackEdge)
deriving DecidableEq, Inhabited
abbrev StackKnown.sv (x : StackKnown) : SV := .agg [I x.fRule, I x.fCost, LS StackEdge.ty x.fOver]
abbrev StackKnown.ty : Ty StackKnown := ⟨3, StackKnown.sv⟩
structure TimeStop where
  fFault : ApiFault
deriving DecidableEq, Inhabited
abbrev TimeStop.sv (x : TimeStop) : SV := .agg [I x.fFault.fCode, I x.fFault.fAt]
abbrev TimeStop.ty : Ty TimeStop := ⟨2, TimeStop.sv⟩
structure TimeReader where
  fText : ByteArray
  fI : Int
  fNodes : Int
  fTimes : Int
  fNest : Int
  fL : (List TimeNode)
deriving DecidableEq, Inhabited
abbrev TimeReader.sv (x : TimeReader) : SV := .agg [.v (.string x.fText), I x.fI, I x.fNodes, I x.fTimes, I x.fNest, LS TimeNode.ty x.fL]
abbrev TimeReader.ty : Ty TimeReader := ⟨6, TimeReader.sv⟩
structure DetSplit where
  fOwn : Int
  fNext : ByteArray
deriving DecidableEq, Inhabited
abbrev DetSplit.sv (x : DetSplit) : SV := .agg [I x.fOwn, .v (.string x.fNext)]
abbrev DetSplit.ty : Ty DetSplit := ⟨2, DetSplit.sv⟩
def tabs : List (Nat × TI) := [
  (3, ⟨false, false, 1, [.int .i64 0], [], some .i64, none, 8⟩),
  (4, ⟨false, false, 1, [.bool false], [], none, none, 1⟩),
  (5, ⟨false, false, 1, [.int .u8 0], [], some .u8, none, 1⟩),
  (22, ⟨false, false, 1, [.slice none 0 0], [], none, some 3, 24⟩),
  (23, ⟨false, false, 1, [.slice none 0 0], [], none, some 27, 24⟩),
  (25, ⟨true, true, 3, [.slice none 0 0, .slice none 0 0, .int .i64 0], [(0, 1, false), (1, 1, false), (2, 1, false)], none, none, 56⟩),
  (27, ⟨true, true, 6, [.int .i64 0, .int .i64 0, .int .i64 0, .int .i64 0, .int .i64 0, .int .i64 0], [(0, 1, false), (1, 1, false), (2, 1, false), (3, 1, false), (4, 1, false), (5, 1, false)], none, none, 48⟩),
  (28, ⟨false, false, 1, [.slice none 0 0], [], none, some 253, 24⟩),
  (29, ⟨false, false, 1, [.int .i64 0], [], some .i64, none, 8⟩),
  (34, ⟨true, true, 2, [.slice none 0 0, .slice none 0 0], [(0, 1, false), (1, 1, false)], none, none, 48⟩),
  (42, ⟨false, false, 1, [.slice none 0 0], [], none, some 22, 24⟩),
  (44, ⟨true, true, 4, [.int .i64 0, .int .i64 0, .slice none 0 0, .slice none 0 0], [(0, 1, false), (1, 1, false), (2, 1, false), (3, 1, false)], none, none, 64⟩),
  (56, ⟨false, false, 1, [.slice none 0 0], [], none, some 60, 24⟩),
  (58, ⟨true, true, 2, [.int .i64 0, .slice none 0 0], [(0, 1, false), (1, 1, false)], none, none, 32⟩),
  (60, ⟨true, true, 4, [.int .i64 0, .int .i64 0, .int .i64 0, .slice none 0 0], [(0, 1, false), (1, 1, false), (2, 1, false), (3, 1, false)], none, none, 48⟩),
  (67, ⟨true, true, 3, [.int .i64 0, .slice none 0 0, .slice none 0 0], [(0, 1, false), (1, 1, false), (2, 1, false)], none, none, 56⟩),
  (75, ⟨false, false, 1, [.slice none 0 0], [], none, some 78, 24⟩),
  (77, ⟨true, true, 4, [.int .i64 0, .int .i64 0, .slice none 0 0, .slice none 0 0], [(0, 1, false), (1, 1, false), (2, 1, false), (3, 1, false)], none, none, 64⟩),
  (78, ⟨false, false, 1, [.slice none 0 0], [], none, some 42, 24⟩),
  (80, ⟨true, true, 4, [.int .i64 0, .int .i64 0, .slice none 0 0, .slice none 0 0], [(0, 1, false), (1, 1, false), (2, 1, false), (3, 1, false)], none, none, 64⟩),
  (88, ⟨true, true, 3, [.int .i64 0, .slice none 0 0, .slice none 0 0], [(0, 1, false), (1, 1, false), (2, 1, false)], none, none, 56⟩),
  (90, ⟨true, true, 3, [.bool false, .slice none 0 0, .slice none 0 0], [(0, 1, false), (1, 1, false), (2, 1, false)], none, none, 56⟩),
  (94, ⟨true, true, 3, [.bool false, .slice none 0 0, .slice none 0 0], [(0, 1, false), (1, 1, false), (2, 1, false)], none, none, 56⟩),
  (98, ⟨false, false, 1, [.slice none 0 0], [], none, some 101, 24⟩),
  (101, ⟨true, true, 2, [.slice none 0 0, .slice none 0 0], [(0, 1, false), (1, 1, false)], none, none, 48⟩),
  (105, ⟨false, false, 1, [.slice none 0 0], [], none, some 110, 24⟩),
  (107, ⟨true, true, 3, [.int .i64 0, .int .i64 0, .slice none 0 0], [(0, 1, false), (1, 1, false), (2, 1, false)], none, none, 40⟩),
  (110, ⟨true, true, 3, [.int .i64 0, .int .i64 0, .int .i64 0], [(0, 1, false), (1, 1, false), (2, 1, false)], none, none, 24⟩),
  (111, ⟨false, false, 1, [.slice none 0 0], [], none, some 114, 24⟩),
  (114, ⟨false, false, 1, [.slice none 0 0], [], none, some 4, 24⟩),
  (118, ⟨true, true, 2, [.int .i64 0, .int .i64 0], [(0, 1, false), (1, 1, false)], none, none, 16⟩),
  (123, ⟨true, true, 3, [.int .i64 0, .slice none 0 0, .bool false], [(0, 1, false), (1, 1, false), (2, 1, false)], none, none, 40⟩),
  (134, ⟨true, true, 4, [.slice none 0 0, .slice none 0 0, .slice none 0 0, .slice none 0 0], [(0, 1, false), (1, 1, false), (2, 1, false), (3, 1, false)], none, none, 96⟩),
  (135, ⟨false, false, 1, [.nilFunc], [], none, none, 8⟩),
  (142, ⟨false, false, 1, [.slice none 0 0], [], none, some 146, 24⟩),
  (144, ⟨false, false, 1, [.slice none 0 0], [], none, some 149, 24⟩),
  (146, ⟨true, true, 3, [.int .i64 0, .int .i64 0, .slice none 0 0], [(0, 1, false), (1, 1, false), (2, 1, false)], none, none, 40⟩),
  (149, ⟨true, true, 3, [.int .i64 0, .int .i64 0, .int .i64 0], [(0, 1, false), (1, 1, false), (2, 1, false)], none, none, 24⟩),
  (153, ⟨false, false, 1, [.map none], [], none, none, 8⟩),
  (157, ⟨false, false, 1, [.slice none 0 0], [], none, some 67, 24⟩),
  (158, ⟨true, false, 2, [.int .i64 0, .int .i64 0], [(0, 1, false), (1, 1, false)], none, none, 16⟩),
  (159, ⟨false, false, 1, [.map none], [], none, none, 8⟩),
  (161, ⟨true, true, 3, [.int .i64 0, .int .i64 0, .int .i64 0], [(0, 1, false), (1, 1, false), (2, 1, false)], none, none, 24⟩),
  (162, ⟨false, false, 1, [.slice none 0 0], [], none, some 161, 24⟩),
  (177, ⟨true, true, 9, [.int .i64 0, .slice none 0 0, .slice none 0 0, .map none, .slice none 0 0, .slice none 0 0, .bool false, .slice none 0 0, .slice none 0 0], [(0, 3, true), (3, 1, false), (4, 1, false), (5, 1, false), (6, 3, true)], none, none, 168⟩),
  (179, ⟨true, true, 3, [.slice none 0 0, .int .i64 0, .int .i64 0], [(0, 1, false), (1, 1, false), (2, 1, false)], none, none, 40⟩),
  (180, ⟨false, false, 1, [.slice none 0 0], [], none, some 179, 24⟩),
  (191, ⟨false, false, 1, [.nilFunc], [], none, none, 8⟩),
  (192, ⟨false, false, 1, [.slice none 0 0], [], none, some 196, 24⟩),
  (196, ⟨true, true, 3, [.int .i64 0, .int .i64 0, .int .i64 0], [(0, 1, false), (1, 1, false), (2, 1, false)], none, none, 24⟩),
  (198, ⟨false, false, 1, [.nilFunc], [], none, none, 8⟩),
  (201, ⟨false, false, 1, [.map none], [], none, none, 8⟩),
  (204, ⟨true, true, 2, [.int .i64 0, .int .i64 0], [(0, 1, false), (1, 1, false)], none, none, 16⟩),
  (205, ⟨true, false, 2, [.slice none 0 0, .slice none 0 0], [(0, 1, false), (1, 1, false)], none, none, 48⟩),
  (209, ⟨false, false, 1, [.slice none 0 0], [], none, some 134, 24⟩),
  (213, ⟨false, false, 1, [.slice none 0 0], [], none, some 58, 24⟩),
  (214, ⟨false, false, 1, [.map none], [], none, none, 8⟩),
  (216, ⟨true, true, 3, [.int .i64 0, .slice none 0 0, .map none], [(0, 2, true), (2, 1, false)], none, none, 40⟩),
  (218, ⟨true, true, 3, [.int .i64 0, .int .i64 0, .slice none 0 0], [(0, 1, false), (1, 1, false), (2, 1, false)], none, none, 40⟩),
  (220, ⟨false, false, 1, [.map none], [], none, none, 8⟩),
  (225, ⟨false, false, 1, [.slice none 0 0], [], none, some 5, 24⟩),
  (226, ⟨false, false, 1, [.int .u64 0], [], some .u64, none, 8⟩),
  (229, ⟨false, false, 1, [.map none], [], none, none, 8⟩),
  (244, ⟨true, true, 2, [.int .i64 0, .int .i64 0], [(0, 2, true)], none, none, 16⟩),
  (247, ⟨true, true, 6, [.string ByteArray.empty, .int .i64 0, .int .i64 0, .int .i64 0, .int .i64 0, .slice none 0 0], [(0, 1, false), (1, 1, false), (2, 1, false), (3, 1, false), (4, 1, false), (5, 1, false)], none, none, 72⟩),
  (253, ⟨true, true, 2, [.int .i64 0, .int .i64 0], [(0, 1, false), (1, 1, false)], none, none, 16⟩),
  (258, ⟨false, false, 1, [.map none], [], none, none, 8⟩),
  (260, ⟨true, true, 2, [.int .i64 0, .string ByteArray.empty], [(0, 1, false), (1, 1, false)], none, none, 24⟩),
  (264, ⟨false, false, 1, [.int .u32 0], [], some .u32, none, 4⟩),
  (267, ⟨false, false, 1, [.int .u64 0], [], some .u64, none, 8⟩)]
def tab : Tab := tabL tabs
theorem ti3 : TI.ok 3 ⟨false, false, 1, [.int .i64 0], [], some .i64, none, 8⟩ := ⟨by kernel_rfl, by kernel_rfl, by kernel_rfl, by kernel_rfl, by kernel_rfl, by kernel_rfl, by rfl, by rfl, by decide⟩
theorem ti4 : TI.ok 4 ⟨false, false, 1, [.bool false], [], none, none, 1⟩ := ⟨by kernel_rfl, by kernel_rfl, by kernel_rfl, by kernel_rfl, by kernel_rfl, by kernel_rfl, by rfl, by rfl, by decide⟩
theorem ti5 : TI.ok 5 ⟨false, false, 1, [.int .u8 0], [], some .u8, none, 1⟩ := ⟨by kernel_rfl, by kernel_rfl, by kernel_rfl, by kernel_rfl, by kernel_rfl, by kernel_rfl, by rfl, by rfl, by decide⟩
theorem ti22 : TI.ok 22 ⟨false, false, 1, [.slice none 0 0], [], none, some 3, 24⟩ := ⟨by kernel_rfl, by kernel_rfl, by kernel_rfl, by kernel_rfl, by kernel_rfl, by kernel_rfl, by rfl, by rfl, by decide⟩
theorem ti23 : TI.ok 23 ⟨false, false, 1, [.slice none 0 0], [], none, some 27, 24⟩ := ⟨by kernel_rfl, by kernel_rfl, by kernel_rfl, by kernel_rfl, by kernel_rfl, by kernel_rfl, by rfl, by rfl, by decide⟩
theorem ti25 : TI.ok 25 ⟨true, true, 3, [.slice none 0 0, .slice none 0 0, .int .i64 0], [(0, 1, false), (1, 1, false), (2, 1, false)], none, none, 56⟩ := ⟨by kernel_rfl, by kernel_rfl, by kernel_rfl, by kernel_rfl, by kernel_rfl, by kernel_rfl, by rfl, by rfl, by decide⟩
theorem ti27 : TI.ok 27 ⟨true, true, 6, [.int .i64 0, .int .i64 0, .int .i64 0, .int .i64 0, .int .i64 0, .int .i64 0], [(0, 1, false), (1, 1, false), (2, 1, false), (3, 1, false), (4, 1, false), (5, 1, false)], none, none, 48⟩ := ⟨by kernel_rfl, by kernel_rfl, by kernel_rfl, by kernel_rfl, by kernel_rfl, by kernel_rfl, by rfl, by rfl, by decide⟩
theorem ti28 : TI.ok 28 ⟨false, false, 1, [.slice none 0 0], [], none, some 253, 24⟩ := ⟨by kernel_rfl, by kernel_rfl, by kernel_rfl, by kernel_rfl, by kernel_rfl, by kernel_rfl, by rfl, by rfl, by decide⟩
theorem ti29 : TI.ok 29 ⟨false, false, 1, [.int .i64 0], [], some .i64, none, 8⟩ := ⟨by kernel_rfl, by kernel_rfl, by kernel_rfl, by kernel_rfl, by kernel_rfl, by kernel_rfl, by rfl, by rfl, by decide⟩
theorem ti34 : TI.ok 34 ⟨true, true, 2, [.slice none 0 0, .slice none 0 0], [(0, 1, false), (1, 1, false)], none, none, 48⟩ := ⟨by kernel_rfl, by kernel_rfl, by kernel_rfl, by kernel_rfl, by kernel_rfl, by kernel_rfl, by rfl, by rfl, by decide⟩
theorem ti42 : TI.ok 42 ⟨false, false, 1, [.slice none 0 0], [], none, some 22, 24⟩ := ⟨by kernel_rfl, by kernel_rfl, by kernel_rfl, by kernel_rfl, by kernel_rfl, by kernel_rfl, by rfl, by rfl, by decide⟩
theorem ti44 : TI.ok 44 ⟨true, true, 4, [.int .i64 0, .int .i64 0, .slice none 0 0, .slice none 0 0], [(0, 1, false), (1, 1, false), (2, 1, false), (3, 1, false)], none, none, 64⟩ := ⟨by kernel_rfl, by kernel_rfl, by kernel_rfl, by kernel_rfl, by kernel_rfl, by kernel_rfl, by rfl, by rfl, by decide⟩
theorem ti56 : TI.ok 56 ⟨false, false, 1, [.slice none 0 0], [], none, some 60, 24⟩ := ⟨by kernel_rfl, by kernel_rfl, by kernel_rfl, by kernel_rfl, by kernel_rfl, by kernel_rfl, by rfl, by rfl, by decide⟩
theorem ti58 : TI.ok 58 ⟨true, true, 2, [.int .i64 0, .slice none 0 0], [(0, 1, false), (1, 1, false)], none, none, 32⟩ := ⟨by kernel_rfl, by kernel_rfl, by kernel_rfl, by kernel_rfl, by kernel_rfl, by kernel_rfl, by rfl, by rfl, by decide⟩
theorem ti60 : TI.ok 60 ⟨true, true, 4, [.int .i64 0, .int .i64 0, .int .i64 0, .slice none 0 0], [(0, 1, false), (1, 1, false), (2, 1, false), (3, 1, false)], none, none, 48⟩ := ⟨by kernel_rfl, by kernel_rfl, by kernel_rfl, by kernel_rfl, by kernel_rfl, by kernel_rfl, by rfl, by rfl, by decide⟩
theorem ti67 : TI.ok 67 ⟨true, true, 3, [.int .i64 0, .slice none 0 0, .slice none 0 0], [(0, 1, false), (1, 1, false), (2, 1, false)], none, none, 56⟩ := ⟨by kernel_rfl, by kernel_rfl, by kernel_rfl, by kernel_rfl, by kernel_rfl, by kernel_rfl, by rfl, by rfl, by decide⟩
theorem ti75 : TI.ok 75 ⟨false, false, 1, [.slice none 0 0], [], none, some 78, 24⟩ := ⟨by kernel_rfl, by kernel_rfl, by kernel_rfl, by kernel_rfl, by kernel_rfl, by kernel_rfl, by rfl, by rfl, by decide⟩
theorem ti77 : TI.ok 77 ⟨true, true, 4, [.int .i64 0, .int .i64 0, .slice none 0 0, .slice none 0 0], [(0, 1, false), (1, 1, false), (2, 1, false), (3, 1, false)], none, none, 64⟩ := ⟨by kernel_rfl, by kernel_rfl, by kernel_rfl, by kernel_rfl, by kernel_rfl, by kernel_rfl, by rfl, by rfl, by decide⟩
theorem ti78 : TI.ok 78 ⟨false, false, 1, [.slice none 0 0], [], none, some 42, 24⟩ := ⟨by kernel_rfl, by kernel_rfl, by kernel_rfl, by kernel_rfl, by kernel_rfl, by kernel_rfl, by rfl, by rfl, by decide⟩
theorem ti80 : TI.ok 80 ⟨true, true, 4, [.int .i64 0, .int .i64 0, .slice none 0 0, .slice none 0 0], [(0, 1, false), (1, 1, false), (2, 1, false), (3, 1, false)], none, none, 64⟩ := ⟨by kernel_rfl, by kernel_rfl, by kernel_rfl, by kernel_rfl, by kernel_rfl, by kernel_rfl, by rfl, by rfl, by decide⟩
theorem ti88 : TI.ok 88 ⟨true, true, 3, [.int .i64 0, .slice none 0 0, .slice none 0 0], [(0, 1, false), (1, 1, false), (2, 1, false)], none, none, 56⟩ := ⟨by kernel_rfl, by kernel_rfl, by kernel_rfl, by kernel_rfl, by kernel_rfl, by kernel_rfl, by rfl, by rfl, by decide⟩
theorem ti90 : TI.ok 90 ⟨true, true, 3, [.bool false, .slice none 0 0, .slice none 0 0], [(0, 1, false), (1, 1, false), (2, 1, false)], none, none, 56⟩ := ⟨by kernel_rfl, by kernel_rfl, by kernel_rfl, by kernel_rfl, by kernel_rfl, by kernel_rfl, by rfl, by rfl, by decide⟩
theorem ti94 : TI.ok 94 ⟨true, true, 3, [.bool false, .slice none 0 0, .slice none 0 0], [(0, 1, false), (1, 1, false), (2, 1, false)], none, none, 56⟩ := ⟨by kernel_rfl, by kernel_rfl, by kernel_rfl, by kernel_rfl, by kernel_rfl, by kernel_rfl, by rfl, by rfl, by decide⟩
theorem ti98 : TI.ok 98 ⟨false, false, 1, [.slice none 0 0], [], none, some 101, 24⟩ := ⟨by kernel_rfl, by kernel_rfl, by kernel_rfl, by kernel_rfl, by kernel_rfl, by kernel_rfl, by rfl, by rfl, by decide⟩
theorem ti101 : TI.ok 101 ⟨true, true, 2, [.slice none 0 0, .slice none 0 0], [(0, 1, false), (1, 1, false)], none, none, 48⟩ := ⟨by kernel_rfl, by kernel_rfl, by kernel_rfl, by kernel_rfl, by kernel_rfl, by kernel_rfl, by rfl, by rfl, by decide⟩
theorem ti105 : TI.ok 105 ⟨false, false, 1, [.slice none 0 0], [], none, some 110, 24⟩ := ⟨by kernel_rfl, by kernel_rfl, by kernel_rfl, by kernel_rfl, by kernel_rfl, by kernel_rfl, by rfl, by rfl, by decide⟩
theorem ti107 : TI.ok 107 ⟨true, true, 3, [.int .i64 0, .int .i64 0, .slice none 0 0], [(0, 1, false), (1, 1, false), (2, 1, false)], none, none, 40⟩ := ⟨by kernel_rfl, by kernel_rfl, by kernel_rfl, by kernel_rfl, by kernel_rfl, by kernel_rfl, by rfl, by rfl, by decide⟩
theorem ti110 : TI.ok 110 ⟨true, true, 3, [.int .i64 0, .int .i64 0, .int .i64 0], [(0, 1, false), (1, 1, false), (2, 1, false)], none, none, 24⟩ := ⟨by kernel_rfl, by kernel_rfl, by kernel_rfl, by kernel_rfl, by kernel_rfl, by kernel_rfl, by rfl, by rfl, by decide⟩
theorem ti111 : TI.ok 111 ⟨false, false, 1, [.slice none 0 0], [], none, some 114, 24⟩ := ⟨by kernel_rfl, by kernel_rfl, by kernel_rfl, by kernel_rfl, by kernel_rfl, by kernel_rfl, by rfl, by rfl, by decide⟩
theorem ti114 : TI.ok 114 ⟨false, false, 1, [.slice none 0 0], [], none, some 4, 24⟩ := ⟨by kernel_rfl, by kernel_rfl, by kernel_rfl, by kernel_rfl, by kernel_rfl, by kernel_rfl, by rfl, by rfl, by decide⟩
theorem ti118 : TI.ok 118 ⟨true, true, 2, [.int .i64 0, .int .i64 0], [(0, 1, false), (1, 1, false)], none, none, 16⟩ := ⟨by kernel_rfl, by kernel_rfl, by kernel_rfl, by kernel_rfl, by kernel_rfl, by kernel_rfl, by rfl, by rfl, by decide⟩
theorem ti123 : TI.ok 123 ⟨true, true, 3, [.int .i64 0, .slice none 0 0, .bool false], [(0, 1, false), (1, 1, false), (2, 1, false)], none, none, 40⟩ := ⟨by kernel_rfl, by kernel_rfl, by kernel_rfl, by kernel_rfl, by kernel_rfl, by kernel_rfl, by rfl, by rfl, by decide⟩
theorem ti134 : TI.ok 134 ⟨true, true, 4, [.slice none 0 0, .slice none 0 0, .slice none 0 0, .slice none 0 0], [(0, 1, false), (1, 1, false), (2, 1, false), (3, 1, false)], none, none, 96⟩ := ⟨by kernel_rfl, by kernel_rfl, by kernel_rfl, by kernel_rfl, by kernel_rfl, by kernel_rfl, by rfl, by rfl, by decide⟩
theorem ti135 : TI.ok 135 ⟨false, false, 1, [.nilFunc], [], none, none, 8⟩ := ⟨by kernel_rfl, by kernel_rfl, by kernel_rfl, by kernel_rfl, by kernel_rfl, by kernel_rfl, by rfl, by rfl, by decide⟩
theorem ti142 : TI.ok 142 ⟨false, false, 1, [.slice none 0 0], [], none, some 146, 24⟩ := ⟨by kernel_rfl, by kernel_rfl, by kernel_rfl, by kernel_rfl, by kernel_rfl, by kernel_rfl, by rfl, by rfl, by decide⟩
theorem ti144 : TI.ok 144 ⟨false, false, 1, [.slice none 0 0], [], none, some 149, 24⟩ := ⟨by kernel_rfl, by kernel_rfl, by kernel_rfl, by kernel_rfl, by kernel_rfl, by kernel_rfl, by rfl, by rfl, by decide⟩
theorem ti146 : TI.ok 146 ⟨true, true, 3, [.int .i64 0, .int .i64 0, .slice none 0 0], [(0, 1, false), (1, 1, false), (2, 1, false)], none, none, 40⟩ := ⟨by kernel_rfl, by kernel_rfl, by kernel_rfl, by kernel_rfl, by kernel_rfl, by kernel_rfl, by rfl, by rfl, by decide⟩
theorem ti149 : TI.ok 149 ⟨true, true, 3, [.int .i64 0, .int .i64 0, .int .i64 0], [(0, 1, false), (1, 1, false), (2, 1, false)], none, none, 24⟩ := ⟨by kernel_rfl, by kernel_rfl, by kernel_rfl, by kernel_rfl, by kernel_rfl, by kernel_rfl, by rfl, by rfl, by decide⟩
theorem ti153 : TI.ok 153 ⟨false, false, 1, [.map none], [], none, none, 8⟩ := ⟨by kernel_rfl, by kernel_rfl, by kernel_rfl, by kernel_rfl, by kernel_rfl, by kernel_rfl, by rfl, by rfl, by decide⟩
theorem ti157 : TI.ok 157 ⟨false, false, 1, [.slice none 0 0], [], none, some 67, 24⟩ := ⟨by kernel_rfl, by kernel_rfl, by kernel_rfl, by kernel_rfl, by kernel_rfl, by kernel_rfl, by rfl, by rfl, by decide⟩
theorem ti158 : TI.ok 158 ⟨true, false, 2, [.int .i64 0, .int .i64 0], [(0, 1, false), (1, 1, false)], none, none, 16⟩ := ⟨by kernel_rfl, by kernel_rfl, by kernel_rfl, by kernel_rfl, by kernel_rfl, by kernel_rfl, by rfl, by rfl, by decide⟩
theorem ti159 : TI.ok 159 ⟨false, false, 1, [.map none], [], none, none, 8⟩ := ⟨by kernel_rfl, by kernel_rfl, by kernel_rfl, by kernel_rfl, by kernel_rfl, by kernel_rfl, by rfl, by rfl, by decide⟩
theorem ti161 : TI.ok 161 ⟨true, true, 3, [.int .i64 0, .int .i64 0, .int .i64 0], [(0, 1, false), (1, 1, false), (2, 1, false)], none, none, 24⟩ := ⟨by kernel_rfl, by kernel_rfl, by kernel_rfl, by kernel_rfl, by kernel_rfl, by kernel_rfl, by rfl, by rfl, by decide⟩
theorem ti162 : TI.ok 162 ⟨false, false, 1, [.slice none 0 0], [], none, some 161, 24⟩ := ⟨by kernel_rfl, by kernel_rfl, by kernel_rfl, by kernel_rfl, by kernel_rfl, by kernel_rfl, by rfl, by rfl, by decide⟩
theorem ti177 : TI.ok 177 ⟨true, true, 9, [.int .i64 0, .slice none 0 0, .slice none 0 0, .map none, .slice none 0 0, .slice none 0 0, .bool false, .slice none 0 0, .slice none 0 0], [(0, 3, true), (3, 1, false), (4, 1, false), (5, 1, false), (6, 3, true)], none, none, 168⟩ := ⟨by kernel_rfl, by kernel_rfl, by kernel_rfl, by kernel_rfl, by kernel_rfl, by kernel_rfl, by rfl, by rfl, by decide⟩
theorem ti179 : TI.ok 179 ⟨true, true, 3, [.slice none 0 0, .int .i64 0, .int .i64 0], [(0, 1, false), (1, 1, false), (2, 1, false)], none, none, 40⟩ := ⟨by kernel_rfl, by kernel_rfl, by kernel_rfl, by kernel_rfl, by kernel_rfl, by kernel_rfl, by rfl, by rfl, by decide⟩
theorem ti180 : TI.ok 180 ⟨false, false, 1, [.slice none 0 0], [], none, some 179, 24⟩ := ⟨by kernel_rfl, by kernel_rfl, by kernel_rfl, by kernel_rfl, by kernel_rfl, by kernel_rfl, by rfl, by rfl, by decide⟩
theorem ti191 : TI.ok 191 ⟨false, false, 1, [.nilFunc], [], none, none, 8⟩ := ⟨by kernel_rfl, by kernel_rfl, by kernel_rfl, by kernel_rfl, by kernel_rfl, by kernel_rfl, by rfl, by rfl, by decide⟩
theorem ti192 : TI.ok 192 ⟨false, false, 1, [.slice none 0 0], [], none, some 196, 24⟩ := ⟨by kernel_rfl, by kernel_rfl, by kernel_rfl, by kernel_rfl, by kernel_rfl, by kernel_rfl, by rfl, by rfl, by decide⟩
theorem ti196 : TI.ok 196 ⟨true, true, 3, [.int .i64 0, .int .i64 0, .int .i64 0], [(0, 1, false), (1, 1, false), (2, 1, false)], none, none, 24⟩ := ⟨by kernel_rfl, by kernel_rfl, by kernel_rfl, by kernel_rfl, by kernel_rfl, by kernel_rfl, by rfl, by rfl, by decide⟩
theorem ti198 : TI.ok 198 ⟨false, false, 1, [.nilFunc], [], none, none, 8⟩ := ⟨by kernel_rfl, by kernel_rfl, by kernel_rfl, by kernel_rfl, by kernel_rfl, by kernel_rfl, by rfl, by rfl, by decide⟩
theorem ti201 : TI.ok 201 ⟨false, false, 1, [.map none], [], none, none, 8⟩ := ⟨by kernel_rfl, by kernel_rfl, by kernel_rfl, by kernel_rfl, by kernel_rfl, by kernel_rfl, by rfl, by rfl, by decide⟩
theorem ti204 : TI.ok 204 ⟨true, true, 2, [.int .i64 0, .int .i64 0], [(0, 1, false), (1, 1, false)], none, none, 16⟩ := ⟨by kernel_rfl, by kernel_rfl, by kernel_rfl, by kernel_rfl, by kernel_rfl, by kernel_rfl, by rfl, by rfl, by decide⟩
theorem ti205 : TI.ok 205 ⟨true, false, 2, [.slice none 0 0, .slice none 0 0], [(0, 1, false), (1, 1, false)], none, none, 48⟩ := ⟨by kernel_rfl, by kernel_rfl, by kernel_rfl, by kernel_rfl, by kernel_rfl, by kernel_rfl, by rfl, by rfl, by decide⟩
theorem ti209 : TI.ok 209 ⟨false, false, 1, [.slice none 0 0], [], none, some 134, 24⟩ := ⟨by kernel_rfl, by kernel_rfl, by kernel_rfl, by kernel_rfl, by kernel_rfl, by kernel_rfl, by rfl, by rfl, by decide⟩
theorem ti213 : TI.ok 213 ⟨false, false, 1, [.slice none 0 0], [], none, some 58, 24⟩ := ⟨by kernel_rfl, by kernel_rfl, by kernel_rfl, by kernel_rfl, by kernel_rfl, by kernel_rfl, by rfl, by rfl, by decide⟩
theorem ti214 : TI.ok 214 ⟨false, false, 1, [.map none], [], none, none, 8⟩ := ⟨by kernel_rfl, by kernel_rfl, by kernel_rfl, by kernel_rfl, by kernel_rfl, by kernel_rfl, by rfl, by rfl, by decide⟩
theorem ti216 : TI.ok 216 ⟨true, true, 3, [.int .i64 0, .slice none 0 0, .map none], [(0, 2, true), (2, 1, false)], none, none, 40⟩ := ⟨by kernel_rfl, by kernel_rfl, by kernel_rfl, by kernel_rfl, by kernel_rfl, by kernel_rfl, by rfl, by rfl, by decide⟩
theorem ti218 : TI.ok 218 ⟨true, true, 3, [.int .i64 0, .int .i64 0, .slice none 0 0], [(0, 1, false), (1, 1, false), (2, 1, false)], none, none, 40⟩ := ⟨by kernel_rfl, by kernel_rfl, by kernel_rfl, by kernel_rfl, by kernel_rfl, by kernel_rfl, by rfl, by rfl, by decide⟩
theorem ti220 : TI.ok 220 ⟨false, false, 1, [.map none], [], none, none, 8⟩ := ⟨by kernel_rfl, by kernel_rfl, by kernel_rfl, by kernel_rfl, by kernel_rfl, by kernel_rfl, by rfl, by rfl, by decide⟩
theorem ti225 : TI.ok 225 ⟨false, false, 1, [.slice none 0 0], [], none, some 5, 24⟩ := ⟨by kernel_rfl, by kernel_rfl, by kernel_rfl, by kernel_rfl, by kernel_rfl, by kernel_rfl, by rfl, by rfl, by decide⟩
theorem ti226 : TI.ok 226 ⟨false, false, 1, [.int .u64 0], [], some .u64, none, 8⟩ := ⟨by kernel_rfl, by kernel_rfl, by kernel_rfl, by kernel_rfl, by kernel_rfl, by kernel_rfl, by rfl, by rfl, by decide⟩
theorem ti229 : TI.ok 229 ⟨false, false, 1, [.map none], [], none, none, 8⟩ := ⟨by kernel_rfl, by kernel_rfl, by kernel_rfl, by kernel_rfl, by kernel_rfl, by kernel_rfl, by rfl, by rfl, by decide⟩
theorem ti244 : TI.ok 244 ⟨true, true, 2, [.int .i64 0, .int .i64 0], [(0, 2, true)], none, none, 16⟩ := ⟨by kernel_rfl, by kernel_rfl, by kernel_rfl, by kernel_rfl, by kernel_rfl, by kernel_rfl, by rfl, by rfl, by decide⟩
theorem ti247 : TI.ok 247 ⟨true, true, 6, [.string ByteArray.empty, .int .i64 0, .int .i64 0, .int .i64 0, .int .i64 0, .slice none 0 0], [(0, 1, false), (1, 1, false), (2, 1, false), (3, 1, false), (4, 1, false), (5, 1, false)], none, none, 72⟩ := ⟨by kernel_rfl, by kernel_rfl, by kernel_rfl, by kernel_rfl, by kernel_rfl, by kernel_rfl, by rfl, by rfl, by decide⟩
theorem ti253 : TI.ok 253 ⟨true, true, 2, [.int .i64 0, .int .i64 0], [(0, 1, false), (1, 1, false)], none, none, 16⟩ := ⟨by kernel_rfl, by kernel_rfl, by kernel_rfl, by kernel_rfl, by kernel_rfl, by kernel_rfl, by rfl, by rfl, by decide⟩
theorem ti258 : TI.ok 258 ⟨false, false, 1, [.map none], [], none, none, 8⟩ := ⟨by kernel_rfl, by kernel_rfl, by kernel_rfl, by kernel_rfl, by kernel_rfl, by kernel_rfl, by rfl, by rfl, by decide⟩
theorem ti260 : TI.ok 260 ⟨true, true, 2, [.int .i64 0, .string ByteArray.empty], [(0, 1, false), (1, 1, false)], none, none, 24⟩ := ⟨by kernel_rfl, by kernel_rfl, by kernel_rfl, by kernel_rfl, by kernel_rfl, by kernel_rfl, by rfl, by rfl, by decide⟩
theorem ti264 : TI.ok 264 ⟨false, false, 1, [.int .u32 0], [], some .u32, none, 4⟩ := ⟨by kernel_rfl, by kernel_rfl, by kernel_rfl, by kernel_rfl, by kernel_rfl, by kernel_rfl, by rfl, by rfl, by decide⟩
theorem ti267 : TI.ok 267 ⟨false, false, 1, [.int .u64 0], [], some .u64, none, 8⟩ := ⟨by kernel_rfl, by kernel_rfl, by kernel_rfl, by kernel_rfl, by kernel_rfl, by kernel_rfl, by rfl, by rfl, by decide⟩
theorem tab_ok : tab.ok := tabL_ok fun x hx => by
  simp only [tabs, List.mem_cons, List.not_mem_nil, or_false] at hx
  rcases hx with rfl | rfl | rfl | rfl | rfl | rfl | rfl | rfl | rfl | rfl | rfl | rfl | rfl | rfl | rfl | rfl | rfl | rfl | rfl | rfl | rfl | rfl | rfl | rfl | rfl | rfl | rfl | rfl | rfl | rfl | rfl | rfl | rfl | rfl | rfl | rfl | rfl | rfl | rfl | rfl | rfl | rfl | rfl | rfl | rfl | rfl | rfl | rfl | rfl | rfl | rfl | rfl | rfl | rfl | rfl | rfl | rfl | rfl | rfl | rfl | rfl | rfl | rfl | rfl | rfl | rfl | rfl | rfl | rfl | rfl
  · exact ti3
  · exact ti4
  · exact ti5
  · exact ti22
  · exact ti23
  · exact ti25
  · exact ti27
  · exact ti28
  · exact ti29
  · exact ti34
  · exact ti42
  · exact ti44
  · exact ti56
  · exact ti58
  · exact ti60
  · exact ti67
  · exact ti75
  · exact ti77
  · exact ti78
  · exact ti80
  · exact ti88
  · exact ti90
  · exact ti94
  · exact ti98
  · exact ti101
  · exact ti105
  · exact ti107
  · exact ti110
  · exact ti111
  · exact ti114
  · exact ti118
  · exact ti123
  · exact ti134
  · exact ti135
  · exact ti142
  · exact ti144
  · exact ti146
  · exact ti149
  · exact ti153
  · exact ti157
  · exact ti158
  · exact ti159
  · exact ti161
  · exact ti162
  · exact ti177
  · exact ti179
  · exact ti180
  · exact ti191
  · exact ti192
  · exact ti196
  · exact ti198
  · exact ti201
  · exact ti204
  · exact ti205
  · exact ti209
  · exact ti213
  · exact ti214
  · exact ti216
  · exact ti218
  · exact ti220
  · exact ti225
  · exact ti226
  · exact ti229
  · exact ti244
  · exact ti247
  · exact ti253
  · exact ti258
  · exact ti260
  · exact ti264
  · exact ti267
def St158.enc (k : St158) : Value := .agg #[.int .i64 k.fE0, .int .i64 k.fE1]
def TimedSpot.enc (k : TimedSpot) : Value := .agg #[.int .i64 k.fPlace, .int .i64 k.fClock]
def StackEdge.enc (k : StackEdge) : Value := .agg #[.int .i64 k.fFrom, .int .i64 k.fSign, .int .i64 k.fTo]
def DetSplit.enc (k : DetSplit) : Value := .agg #[.int .i64 k.fOwn, .string k.fNext]
end Go.Proofs.Ytfpdnigihjmohaa

/- The plain law of exploring: automata of keys, numbered as they are found; the one automaton of a language. No condition. -/
namespace Go.Proofs.Ytfpdnigihjmohaa
open Go.RowKit Go.MapKept
set_option linter.unusedSimpArgs false
set_option linter.unusedVariables false
set_option maxRecDepth 100000
set_option linter.unusedSectionVars false

theorem nodup_le {α : Type} : ∀ {l m : List α}, l.Nodup → (∀ x ∈ l, x ∈ m) → l.length ≤ m.length
  | [], _, _, _ => Nat.zero_le _
  | x :: l, m, hn, h => by
    rw [List.nodup_cons] at hn
    obtain ⟨s, t, rfl⟩ := List.append_of_mem (h x List.mem_cons_self)
    have := nodup_le (l := l) (m := s ++ t) hn.2 fun y hy => by
      have h1 := h y (List.mem_cons_of_mem _ hy)
      rw [List.mem_append, List.mem_cons] at h1
      rw [List.mem_append]
      rcases h1 with h1 | rfl | h1
      · exact .inl h1
      · exact absurd hy hn.1
      · exact .inr h1
    simp only [List.length_append, List.length_cons] at this ⊢
    omega
theorem idxOf_left {α : Type} [DecidableEq α] {x : α} : ∀ {l r : List α}, x ∈ l → (l ++ r).idxOf x = l.idxOf x
  | [], _, h => by simp at h
  | y :: l, r, h => by
    rw [List.cons_append, List.idxOf_cons, List.idxOf_cons]
    by_cases e : y = x
    · simp [e]
    · have hm : x ∈ l := by
        rcases List.mem_cons.1 h with h | h
        · exact absurd h.symm e
        · exact h
      simp [e, idxOf_left (r := r) hm]
section
variable {K : Type} [DecidableEq K]
variable {go : K → Nat → K} {mark : K → Int} {L : Nat} {k0 : K} {P : K → Prop}
section
variable {K' : Type} [DecidableEq K'] {go' : K' → Nat → K'} {mark' : K' → Int} {φ : K → K'}
end
end
/-- what is said of words -/
abbrev Lang := List Nat → Int
noncomputable instance langDec : DecidableEq Lang := fun _ _ => Classical.propDecidable _
/-- of words of L letters alone -/
def rs (L : Nat) (r : Lang) : Lang := fun w => if ∀ a ∈ w, a < L then r w else 0
theorem rs_congr {L : Nat} {r s : Lang} (h : ∀ w, (∀ a ∈ w, a < L) → r w = s w) : rs L r = rs L s := by
  funext w
  unfold rs
  split
  · rename_i hw
    exact h w hw
  · rfl
theorem rs_at {L : Nat} {r s : Lang} (h : rs L r = rs L s) {w : List Nat} (hw : ∀ a ∈ w, a < L) : r w = s w := by
  have := congrFun h w
  unfold rs at this
  rw [if_pos hw, if_pos hw] at this
  exact this
section
variable {K : Type} [DecidableEq K] {go : K → Nat → K} {mark : K → Int} {L : Nat} {k0 : K} {P : K → Prop}
end
def stepD (d : ApiDet) (q : Nat) (a : Nat) : Nat := ((d.fNext.getD q []).getD a 0).toNat
/-- what an automaton says of words, from a state on -/
def langD (d : ApiDet) (q : Nat) : Lang := fun w => d.fMark.getD (w.foldl (stepD d) q) 0
section
variable {K : Type} [DecidableEq K] {go : K → Nat → K} {mark : K → Int} {L : Nat} {k0 : K} {P : K → Prop}
end
/-- an automaton that may be, but for its marks -/
structure Wf (d : ApiDet) : Prop where
  letters : 0 ≤ d.fLetters
  rows : ∀ r ∈ d.fNext, r.length = d.fLetters.toNat
  next : ∀ r ∈ d.fNext, ∀ x ∈ r, 0 ≤ x ∧ x < (d.fNext.length : Int)
  start : 0 ≤ d.fStart ∧ d.fStart < (d.fNext.length : Int)
  mark : d.fMark.length = d.fNext.length
section
variable {K : Type} [DecidableEq K] {go : K → Nat → K} {mark : K → Int} {L : Nat} {k0 : K} {P : K → Prop}
end
end Go.Proofs.Ytfpdnigihjmohaa

/- Words put for words: values of words, steps, Newman's lemma. No condition. -/
namespace Go.Proofs.Ytfpdnigihjmohaa

/-- the value of a word over four letters: shorter ones have less, of one length the order is that of words -/
def valW : List Int → Nat
  | [] => 0
  | a :: l => (a.toNat + 1) * 4 ^ l.length + valW l
def ones4 : Nat → Nat
  | 0 => 0
  | n + 1 => 4 ^ n + ones4 n
theorem ones4_up (n : Nat) : 3 * ones4 n + 1 = 4 ^ n := by
  induction n with
  | zero => rfl
  | succ n ih => rw [ones4, Nat.pow_succ]; omega
theorem ones4_mono {m n : Nat} (h : m ≤ n) : ones4 m ≤ ones4 n := by
  have h1 := ones4_up m
  have h2 := ones4_up n
  have := Nat.pow_le_pow_right (show 0 < 4 by decide) h
  omega
def In4 (w : List Int) : Prop := ∀ a ∈ w, 0 ≤ a ∧ a < 4
theorem valW_append (x y : List Int) : valW (x ++ y) = valW x * 4 ^ y.length + valW y := by
  induction x with
  | nil => simp [valW]
  | cons a x ih =>
    rw [List.cons_append, valW, valW, ih, List.length_append, Nat.pow_add, Nat.add_mul _ (valW x), Nat.mul_assoc, Nat.add_assoc]
theorem valW_ge (w : List Int) : ones4 w.length ≤ valW w := by
  induction w with
  | nil => exact Nat.le_refl _
  | cons a w ih =>
    rw [List.length_cons, ones4, valW, Nat.add_mul]
    omega
theorem valW_le {w : List Int} (h : In4 w) : valW w ≤ 4 * ones4 w.length := by
  induction w with
  | nil => exact Nat.le_refl _
  | cons a w ih =>
    have h1 := ih fun b hb => h b (by simp [hb])
    have h2 := h a (by simp)
    have h3 : (a.toNat + 1) * 4 ^ w.length ≤ 4 * 4 ^ w.length := Nat.mul_le_mul_right _ (by omega)
    rw [List.length_cons, ones4, valW]
    omega
theorem valW_short {a b : List Int} (ha : In4 a) (h : a.length < b.length) : valW a < valW b := by
  have h1 := valW_le ha
  have h2 := valW_ge b
  have h3 := ones4_mono (show a.length + 1 ≤ b.length from h)
  rw [ones4] at h3
  have h4 := ones4_up a.length
  omega
def cmpR (x y : Int) : Int := if x < y then -1 else if x > y then 1 else 0
def cmpL : List Int → List Int → Int
  | [], [] => 0
  | [], _ :: _ => -1
  | _ :: _, [] => 1
  | x :: a, y :: b => if cmpR x y ≠ 0 then cmpR x y else cmpL a b
theorem cmpL_drop {a b : List Int} {k : Nat} (ha : k < a.length) (hb : k < b.length) : cmpL (a.drop k) (b.drop k) = if cmpR a[k] b[k] ≠ 0 then cmpR a[k] b[k] else cmpL (a.drop (k + 1)) (b.drop (k + 1)) := by
  rw [List.drop_eq_getElem_cons ha, List.drop_eq_getElem_cons hb]
  rfl
theorem valW_lex : ∀ {a b : List Int}, In4 a → In4 b → a.length = b.length → cmpL a b < 0 → valW a < valW b
  | [], [], _, _, _, h => by cases h
  | [], _ :: _, _, _, h, _ => by cases h
  | _ :: _, [], _, _, h, _ => by cases h
  | x :: a, y :: b, ha, hb, hl, h => by
    have hl : a.length = b.length := by simpa using hl
    have ha' : In4 a := fun c hc => ha c (by simp [hc])
    have hb' : In4 b := fun c hc => hb c (by simp [hc])
    have hx := ha x (by simp)
    have hy := hb y (by simp)
    rw [cmpL] at h
    rw [valW, valW, hl]
    by_cases e : cmpR x y ≠ 0
    · rw [if_pos e] at h
      unfold cmpR at h
      split at h
      · rename_i hlt
        have h1 := valW_le ha'
        have h2 := valW_ge b
        rw [hl] at h1
        have h4 := ones4_up b.length
        have h5 : (x.toNat + 1 + 1) * 4 ^ b.length ≤ (y.toNat + 1) * 4 ^ b.length := Nat.mul_le_mul_right _ (by omega)
        rw [Nat.add_mul (x.toNat + 1)] at h5
        omega
      · split at h <;> cases h
    · rw [if_neg e] at h
      have := valW_lex ha' hb' hl h
      have exy : x = y := by
        simp only [ne_eq, Decidable.not_not] at e
        unfold cmpR at e
        split at e
        · cases e
        · split at e
          · cases e
          · omega
      rw [exy]
      omega
def beforeB (a b : List Int) : Bool := if a.length ≠ b.length then decide (a.length < b.length) else decide (cmpL a b < 0)
theorem before_val {a b : List Int} (ha : In4 a) (hb : In4 b) (h : beforeB a b = true) : valW a < valW b ∧ a.length ≤ b.length := by
  unfold beforeB at h
  split at h
  · have := of_decide_eq_true h
    exact ⟨valW_short ha this, by omega⟩
  · rename_i hl
    have hl : a.length = b.length := by omega
    exact ⟨valW_lex ha hb hl (of_decide_eq_true h), by omega⟩
/-- a rule: the left, the right -/
structure RuleOk (f t : List Int) : Prop where
  pos : 1 ≤ f.length
  inF : In4 f
  inT : In4 t
  val : valW t < valW f
  len : t.length ≤ f.length
abbrev Rules := List (List Int × List Int)
def RulesOk (R : Rules) : Prop := ∀ r ∈ R, RuleOk r.1 r.2
inductive Step1 (R : Rules) : List Int → List Int → Prop
  | mk (x f t y : List Int) (h : (f, t) ∈ R) : Step1 R (x ++ f ++ y) (x ++ t ++ y)
inductive Steps (R : Rules) : List Int → List Int → Prop
  | refl (w) : Steps R w w
  | head {u v w} : Step1 R u v → Steps R v w → Steps R u w
theorem Steps.trans {R : Rules} {u v w : List Int} (h1 : Steps R u v) (h2 : Steps R v w) : Steps R u w := by
  induction h1 with
  | refl => exact h2
  | head s _ ih => exact .head s (ih h2)
theorem Step1.ctx {R : Rules} {u v : List Int} (h : Step1 R u v) (p q : List Int) : Step1 R (p ++ u ++ q) (p ++ v ++ q) := by
  cases h with
  | mk x f t y hm =>
    have := Step1.mk (R := R) (p ++ x) f t (y ++ q) hm
    simpa [List.append_assoc] using this
theorem Steps.ctx {R : Rules} {u v : List Int} (h : Steps R u v) (p q : List Int) : Steps R (p ++ u ++ q) (p ++ v ++ q) := by
  induction h with
  | refl => exact .refl _
  | head s _ ih => exact .head (s.ctx p q) ih
theorem Step1.ok {R : Rules} (hR : RulesOk R) {u v : List Int} (h : Step1 R u v) (hu : In4 u) : In4 v ∧ valW v < valW u ∧ v.length ≤ u.length := by
  cases h with
  | mk x f t y hm =>
    obtain ⟨_, _, h1, h2, h3⟩ := hR _ hm
    refine ⟨fun a ha => ?_, ?_, by simp only [List.length_append]; simp only at h3; omega⟩
    · simp only [List.mem_append] at ha
      rcases ha with (ha | ha) | ha
      · exact hu a (by simp [ha])
      · exact h1 a ha
      · exact hu a (by simp [ha])
    · rw [valW_append, valW_append, valW_append, valW_append]
      have h4 : valW x * 4 ^ t.length ≤ valW x * 4 ^ f.length := Nat.mul_le_mul_left _ (Nat.pow_le_pow_right (by decide) h3)
      have h5 : valW x * 4 ^ t.length + valW t + 1 ≤ valW x * 4 ^ f.length + valW f := by simp only at h2; omega
      have h6 := Nat.mul_le_mul_right (4 ^ y.length) h5
      rw [Nat.add_mul (valW x * 4 ^ t.length + valW t) 1] at h6
      have : 0 < 4 ^ y.length := Nat.pow_pos (by decide)
      omega
theorem Steps.ok {R : Rules} (hR : RulesOk R) {u v : List Int} (h : Steps R u v) : In4 u → In4 v ∧ v.length ≤ u.length := by
  induction h with
  | refl => exact fun h => ⟨h, Nat.le_refl _⟩
  | head s _ ih =>
      intro hu
      obtain ⟨h1, _, h2⟩ := s.ok hR hu
      obtain ⟨h3, h4⟩ := ih h1
      exact ⟨h3, by omega⟩
def Irr (R : Rules) (w : List Int) : Prop := ∀ v, ¬ Step1 R w v
theorem Irr.steps {R : Rules} {w v : List Int} (h : Irr R w) (s : Steps R w v) : v = w := by
  cases s with
  | refl => rfl
  | head s _ => exact absurd s (h _)
/-- does v stand in w at a place? -/
def standsB (w v : List Int) (k : Nat) : Bool := decide (k + v.length ≤ w.length) && decide ((w.drop k).take v.length = v)
def swapF (w f t : List Int) (k : Nat) : List Int := w.take k ++ t ++ w.drop (k + f.length)
theorem stands_split {w v : List Int} {k : Nat} (h : standsB w v k = true) : w = w.take k ++ v ++ w.drop (k + v.length) := by
  unfold standsB at h
  rw [Bool.and_eq_true] at h
  have h1 := of_decide_eq_true h.1
  have h2 := of_decide_eq_true h.2
  conv => lhs; rw [← List.take_append_drop k w, ← List.take_append_drop v.length (w.drop k), h2, List.drop_drop]
  rw [List.append_assoc]
theorem stands_mk (x v y : List Int) : standsB (x ++ v ++ y) v x.length = true := by
  unfold standsB
  simp only [List.append_assoc, List.length_append, List.drop_left, List.take_left, decide_true, Bool.and_true, decide_eq_true_eq]
  omega
theorem stands_step {R : Rules} {w f t : List Int} {k : Nat} (hm : (f, t) ∈ R) (h : standsB w f k = true) : Step1 R w (swapF w f t k) := by
  have := Step1.mk (R := R) (w.take k) f t (w.drop (k + f.length)) hm
  rw [← stands_split h] at this
  exact this
def hitR (R : Rules) (w : List Int) (k : Nat) : Option (List Int) := (R.find? fun r => standsB w r.1 k).map fun r => swapF w r.1 r.2 k
/-- the first place at which there is something to be done -/
def oneR (R : Rules) (w : List Int) : Nat → Nat → Option (List Int)
  | 0, _ => none
  | n + 1, k => match hitR R w k with
    | some v => some v
    | none => oneR R w n (k + 1)
def stepR (R : Rules) (w : List Int) : Option (List Int) := oneR R w w.length 0
theorem hitR_step {R : Rules} {w v : List Int} {k : Nat} (h : hitR R w k = some v) : Step1 R w v := by
  unfold hitR at h
  rw [Option.map_eq_some_iff] at h
  obtain ⟨r, h1, rfl⟩ := h
  have h2 := List.find?_some h1
  exact stands_step (List.mem_of_find?_eq_some h1) h2
theorem hitR_none {R : Rules} {w : List Int} {k : Nat} (h : hitR R w k = none) : ∀ r ∈ R, standsB w r.1 k = false := by
  unfold hitR at h
  rw [Option.map_eq_none_iff, List.find?_eq_none] at h
  intro r hr
  have := h r hr
  simpa using this
theorem oneR_step {R : Rules} {w v : List Int} : ∀ {n k : Nat}, oneR R w n k = some v → Step1 R w v
  | 0, _, h => by cases h
  | n + 1, k, h => by
    unfold oneR at h
    split at h
    · rename_i hh
      cases h
      exact hitR_step hh
    · exact oneR_step h
theorem oneR_none {R : Rules} {w : List Int} : ∀ {n k : Nat}, oneR R w n k = none → ∀ j, k ≤ j → j < k + n → hitR R w j = none
  | 0, _, _, j, h1, h2 => by omega
  | n + 1, k, h, j, h1, h2 => by
    unfold oneR at h
    split at h
    · cases h
    · rename_i hh
      by_cases e : j = k
      · rw [e]; exact hh
      · exact oneR_none h j (by omega) (by omega)
theorem oneR_skip {R : Rules} {w : List Int} : ∀ {k : Nat} {n : Nat}, (∀ j, j < k → hitR R w j = none) → oneR R w (k + n) 0 = oneR R w n k := by
  have key : ∀ {k m n : Nat}, (∀ j, m ≤ j → j < m + k → hitR R w j = none) → oneR R w (k + n) m = oneR R w n (m + k) := by
    intro k
    induction k with
    | zero => intro m n _; simp
    | succ k ih =>
      intro m n h
      rw [show k + 1 + n = (k + n) + 1 by omega, oneR, h m (by omega) (by omega)]
      simp only
      rw [ih fun j h1 h2 => h j (by omega) (by omega), show m + 1 + k = m + (k + 1) by omega]
  intro k n h
  rw [key fun j _ hj => h j (by omega), Nat.zero_add]
theorem stepR_none {R : Rules} (hR : RulesOk R) {w : List Int} (h : stepR R w = none) : Irr R w := by
  intro v hs
  cases hs with
  | mk x f t y hm =>
    have hp := (hR _ hm).pos
    simp only at hp
    have h1 := oneR_none h x.length (Nat.zero_le _) (by simp only [List.length_append]; omega)
    have h2 := hitR_none h1 _ hm
    simp only at h2
    rw [stands_mk] at h2
    cases h2
theorem irr_stepR {R : Rules} {w : List Int} (h : Irr R w) : stepR R w = none := by
  cases hs : stepR R w with
  | none => rfl
  | some v => exact absurd (oneR_step hs) (h v)
def normF (R : Rules) : Nat → List Int → List Int
  | 0, w => w
  | n + 1, w => match stepR R w with
    | none => w
    | some v => normF R n v
def normW (R : Rules) (w : List Int) : List Int := normF R (valW w) w
theorem normF_enough {R : Rules} (hR : RulesOk R) : ∀ {n m : Nat} {w : List Int}, In4 w → valW w ≤ n → valW w ≤ m → normF R n w = normF R m w := by
  intro n
  induction n with
  | zero =>
    intro m w hw h1 h2
    cases m with
    | zero => rfl
    | succ m =>
      rw [normF, normF]
      cases hs : stepR R w with
      | none => rfl
      | some v => have := ((oneR_step hs).ok hR hw).2.1; omega
  | succ n ih =>
    intro m w hw h1 h2
    rw [normF]
    cases hs : stepR R w with
    | none =>
      cases m with
      | zero => rfl
      | succ m => rw [normF, hs]
    | some v =>
      obtain ⟨h3, h4, _⟩ := (oneR_step hs).ok hR hw
      cases m with
      | zero => omega
      | succ m => rw [normF, hs]; exact ih h3 (by omega) (by omega)
theorem normW_some {R : Rules} (hR : RulesOk R) {w v : List Int} (hw : In4 w) (h : stepR R w = some v) : normW R w = normW R v := by
  obtain ⟨h3, h4, _⟩ := (oneR_step h).ok hR hw
  unfold normW
  cases hn : valW w with
  | zero => omega
  | succ n =>
    rw [normF, h]
    exact normF_enough hR h3 (by omega) (Nat.le_refl _)
theorem normW_none {R : Rules} {w : List Int} (h : stepR R w = none) : normW R w = w := by
  unfold normW
  cases valW w with
  | zero => rfl
  | succ n => rw [normF, h]
theorem normW_ok {R : Rules} (hR : RulesOk R) : ∀ {n : Nat} {w : List Int}, valW w ≤ n → In4 w → Steps R w (normW R w) ∧ Irr R (normW R w) := by
  intro n
  induction n with
  | zero =>
    intro w hv hw
    cases hs : stepR R w with
    | none => rw [normW_none hs]; exact ⟨.refl _, stepR_none hR hs⟩
    | some v => have := ((oneR_step hs).ok hR hw).2.1; omega
  | succ n ih =>
    intro w hv hw
    cases hs : stepR R w with
    | none => rw [normW_none hs]; exact ⟨.refl _, stepR_none hR hs⟩
    | some v =>
      obtain ⟨h3, h4, _⟩ := (oneR_step hs).ok hR hw
      rw [normW_some hR hw hs]
      obtain ⟨h5, h6⟩ := ih (w := v) (by omega) h3
      exact ⟨.head (oneR_step hs) h5, h6⟩
/-- where ways part, they meet again: NEWMAN -/
theorem newman {R : Rules} (hR : RulesOk R) (hloc : ∀ u v w, In4 u → Step1 R u v → Step1 R u w → ∃ z, Steps R v z ∧ Steps R w z) : ∀ {n : Nat} {w v : List Int}, valW w ≤ n → In4 w → Steps R w v → Irr R v → v = normW R w := by
  intro n
  induction n with
  | zero =>
    intro w v hv hw hs hi
    cases hs with
    | refl => exact (normW_none (irr_stepR hi)).symm
    | head s _ => have := (s.ok hR hw).2.1; omega
  | succ n ih =>
    intro w v hv hw hs hi
    cases hs with
    | refl => exact (normW_none (irr_stepR hi)).symm
    | @head _ w2 _ s hs2 =>
      cases h1 : stepR R w with
      | none => exact absurd s (stepR_none hR h1 _)
      | some w1 =>
        have s1 := oneR_step h1
        obtain ⟨z, hz1, hz2⟩ := hloc w w1 w2 hw s1 s
        obtain ⟨a1, a2, _⟩ := s1.ok hR hw
        obtain ⟨b1, b2, _⟩ := s.ok hR hw
        obtain ⟨n1, n2⟩ := normW_ok hR (Nat.le_refl _) (hz1.ok hR a1).1
        rw [normW_some hR hw h1, ← ih (by omega) a1 (hz1.trans n1) n2, ih (by omega) b1 (hz2.trans n1) n2]
        exact ih (by omega) b1 hs2 hi
/-- words that overlap: the one's end is the other's beginning, or the other stands within it -/
def overN (f g : List Int) (k : Nat) : Nat := min g.length (f.length - k)
def OverB (f g : List Int) (k : Nat) : Prop := (f.drop k).take (overN f g k) = g.take (overN f g k)
def overW (f g : List Int) (k : Nat) : List Int := f ++ g.drop (overN f g k)
def NoFork (R : Rules) : Prop := ∀ a ∈ R, ∀ b ∈ R, ∀ k, k < a.1.length → OverB a.1 b.1 k → normW R (swapF (overW a.1 b.1 k) a.1 a.2 0) = normW R (swapF (overW a.1 b.1 k) b.1 b.2 k)
theorem over_stands {f g : List Int} {k : Nat} (hk : k < f.length) (h : OverB f g k) : standsB (overW f g k) g k = true ∧ standsB (overW f g k) f 0 = true := by
  unfold standsB overW
  unfold OverB at h
  have hn : overN f g k ≤ g.length ∧ overN f g k ≤ f.length - k ∧ (overN f g k = g.length ∨ overN f g k = f.length - k) := by unfold overN; omega
  refine ⟨?_, ?_⟩
  · rw [Bool.and_eq_true]
    refine ⟨decide_eq_true (by simp only [List.length_append, List.length_drop]; omega), decide_eq_true ?_⟩
    rw [List.drop_append_of_le_length (by omega)]
    rcases hn.2.2 with e | e
    · rw [e, List.take_length] at h
      rw [e, List.drop_length, List.append_nil, h]
    · have h2 : (f.drop k).take (overN f g k) = f.drop k := List.take_of_length_le (by rw [List.length_drop]; omega)
      rw [h2] at h
      rw [h, List.take_append_drop, List.take_length]
  · simp
theorem over_in {f g : List Int} {k : Nat} (hf : In4 f) (hg : In4 g) : In4 (overW f g k) := fun a ha => by
  unfold overW at ha
  rcases List.mem_append.1 ha with ha | ha
  · exact hf a ha
  · exact hg a (List.mem_of_mem_drop ha)
theorem swapF_ctx {w p q f t : List Int} {k : Nat} (hk : k + f.length ≤ w.length) : swapF (p ++ w ++ q) f t (p.length + k) = p ++ swapF w f t k ++ q := by
  unfold swapF
  rw [List.append_assoc p w q, List.take_append, List.take_of_length_le (by omega), Nat.add_sub_cancel_left, List.take_append_of_le_length (by omega), Nat.add_assoc, List.drop_append, List.drop_of_length_le (by omega), Nat.add_sub_cancel_left, List.drop_append_of_le_length (by omega)]
  simp [List.append_assoc]
/-- two steps from one word meet again, the first one further to the left -/
theorem local1 {R : Rules} (hR : RulesOk R) (hF : NoFork R) {x f t y x' f' t' y' : List Int} (hm : (f, t) ∈ R) (hm' : (f', t') ∈ R) (hw : In4 (x ++ f ++ y)) (e : x ++ f ++ y = x' ++ f' ++ y') (hx : x.length ≤ x'.length) :
    ∃ z, Steps R (x ++ t ++ y) z ∧ Steps R (x' ++ t' ++ y') z := by
  obtain ⟨k, hk⟩ : ∃ k, x'.length = x.length + k := ⟨x'.length - x.length, by omega⟩
  have hx' : x' = x ++ (f ++ y).take k := by
    have := congrArg (List.take x'.length) e
    rw [List.append_assoc x', List.take_left, hk, List.append_assoc, List.take_append, List.take_of_length_le (by omega), Nat.add_sub_cancel_left] at this
    exact this.symm
  have hrest : f ++ y = (f ++ y).take k ++ f' ++ y' := by
    rw [hx', List.append_assoc, List.append_assoc, List.append_assoc, List.append_cancel_left_eq] at e
    simpa [List.append_assoc] using e
  by_cases hd : f.length ≤ k
  · -- apart
    have h1 : (f ++ y).take k = f ++ y.take (k - f.length) := by rw [List.take_append, List.take_of_length_le hd]
    have h2 : y = y.take (k - f.length) ++ f' ++ y' := by
      rw [h1] at hrest
      simpa [List.append_assoc] using hrest
    refine ⟨x ++ t ++ (y.take (k - f.length) ++ t' ++ y'), ?_, ?_⟩
    · refine .head ?_ (.refl _)
      conv => lhs; rw [h2]
      have := Step1.mk (R := R) (x ++ t ++ y.take (k - f.length)) f' t' y' hm'
      simpa [List.append_assoc] using this
    · refine .head ?_ (.refl _)
      rw [hx', h1]
      have := Step1.mk (R := R) x f t (y.take (k - f.length) ++ t' ++ y') hm
      simpa [List.append_assoc] using this
  · have hkf : k < f.length := by omega
    have hp1 : (f ++ y).take k = f.take k := List.take_append_of_le_length (by omega)
    rw [hp1] at hx' hrest
    have hin : f.drop k ++ y = f' ++ y' := by
      have := congrArg (List.drop k) hrest
      rw [List.drop_append_of_le_length (by omega), List.append_assoc (f.take k), List.drop_left' (by rw [List.length_take]; omega)] at this
      exact this
    have hn : overN f f' k ≤ f'.length ∧ overN f f' k ≤ f.length - k ∧ (overN f f' k = f'.length ∨ overN f f' k = f.length - k) := by unfold overN; omega
    have hO : OverB f f' k := by
      unfold OverB
      have := congrArg (List.take (overN f f' k)) hin
      rw [List.take_append_of_le_length (by rw [List.length_drop]; omega), List.take_append_of_le_length (by omega)] at this
      exact this
    -- the word of both stands ahead of what is left
    obtain ⟨q, hq⟩ : ∃ q, f ++ y = overW f f' k ++ q := by
      unfold overW
      rcases hn.2.2 with e1 | e1
      · exact ⟨y, by rw [e1, List.drop_length, List.append_nil]⟩
      · refine ⟨y', ?_⟩
        have := congrArg (List.drop (f.length - k)) hin
        rw [List.drop_append, List.drop_of_length_le (by rw [List.length_drop]; omega), List.length_drop, Nat.sub_self, List.drop_append_of_le_length (by omega)] at this
        rw [e1, List.append_assoc, ← this]
        simp
    obtain ⟨s1, s2⟩ := over_stands hkf hO
    have hf := (hR _ hm).inF
    have hf' := (hR _ hm').inF
    simp only at hf hf'
    have hW := over_in (k := k) hf hf'
    have st1 := stands_step hm s2
    have st2 := stands_step hm' s1
    have hb1 : k + f'.length ≤ (overW f f' k).length := by unfold standsB at s1; rw [Bool.and_eq_true] at s1; exact of_decide_eq_true s1.1
    have hb2 : 0 + f.length ≤ (overW f f' k).length := by unfold standsB at s2; rw [Bool.and_eq_true] at s2; exact of_decide_eq_true s2.1
    have hj := hF _ hm _ hm' k hkf hO
    simp only at hj
    have n1 := (normW_ok hR (Nat.le_refl _) (st1.ok hR hW).1).1
    have n2 := (normW_ok hR (Nat.le_refl _) (st2.ok hR hW).1).1
    rw [← hj] at n2
    have e1 : x ++ t ++ y = x ++ swapF (overW f f' k) f t 0 ++ q := by
      have := swapF_ctx (p := x) (q := q) (f := f) (t := t) hb2
      rw [← this, List.append_assoc x (overW f f' k) q, ← hq, Nat.add_zero]
      unfold swapF
      rw [List.take_left, ← List.append_assoc x f y, List.drop_append, List.drop_of_length_le (by simp)]
      simp
    have e2 : x' ++ t' ++ y' = x ++ swapF (overW f f' k) f' t' k ++ q := by
      have := swapF_ctx (p := x) (q := q) (f := f') (t := t') hb1
      rw [← this, List.append_assoc x (overW f f' k) q, ← hq, ← List.append_assoc x f y, e, ← hk]
      unfold swapF
      rw [List.append_assoc x' f' y', List.take_left, ← List.append_assoc x' f' y', List.drop_left' (by simp)]
    rw [e1, e2]
    exact ⟨_, n1.ctx x q, n2.ctx x q⟩
theorem local_all {R : Rules} (hR : RulesOk R) (hF : NoFork R) (u v w : List Int) (hu : In4 u) (h1 : Step1 R u v) (h2 : Step1 R u w) : ∃ z, Steps R v z ∧ Steps R w z := by
  generalize e : u = u' at h2
  cases h1 with
  | mk x f t y hm =>
    cases h2 with
    | mk x' f' t' y' hm' =>
      by_cases hx : x.length ≤ x'.length
      · exact local1 hR hF hm hm' hu e hx
      · obtain ⟨z, z1, z2⟩ := local1 hR hF hm' hm (by rw [← e]; exact hu) e.symm (by omega)
        exact ⟨z, z2, z1⟩
/-- PARTS FIRST -/
theorem parts_first {R : Rules} (hR : RulesOk R) (hF : NoFork R) {u v : List Int} (hu : In4 u) (hv : In4 v) : normW R (normW R u ++ normW R v) = normW R (u ++ v) := by
  obtain ⟨a1, _⟩ := normW_ok hR (Nat.le_refl _) hu
  obtain ⟨b1, _⟩ := normW_ok hR (Nat.le_refl _) hv
  have hin : In4 (u ++ v) := fun a ha => (List.mem_append.1 ha).elim (hu a) (hv a)
  have s1 : Steps R (u ++ v) (normW R u ++ normW R v) := by
    have c1 := a1.ctx [] v
    have c2 := b1.ctx (normW R u) []
    simp only [List.nil_append, List.append_nil] at c1 c2
    exact c1.trans c2
  obtain ⟨n1, n2⟩ := normW_ok hR (Nat.le_refl _) (s1.ok hR hin).1
  exact newman hR (local_all hR hF) (Nat.le_refl _) hin (s1.trans n1) n2
theorem norm_twice {R : Rules} (hR : RulesOk R) {u : List Int} (hu : In4 u) : normW R (normW R u) = normW R u := normW_none (irr_stepR (normW_ok hR (Nat.le_refl _) hu).2)
end Go.Proofs.Ytfpdnigihjmohaa

/- The mirrors of det.Explore and det.Classes. No condition. -/
namespace Go.Proofs.Ytfpdnigihjmohaa
open Go.RowKit Go.MapKept
set_option linter.unusedSimpArgs false
set_option linter.unusedVariables false
set_option maxRecDepth 100000

def cloneInt_vc (l : (List Int)) (Q : (List Int) → Prop) : Prop :=
  l.length ≤ 9223372036854775807 →
  (∀ isnil : Bool, (isnil = true → l = []) →
  (IfP (isnil != false) (Q []) (capOk ([] : (List Int)).length (l : (List Int)).length 8 ∧
  Q (([] : (List Int)) ++ l))))
theorem cloneInt_walk (l : (List Int)) (Q : (List Int) → Prop) (h : cloneInt_vc l Q) : CtJ 47 [.sv (.one (LS intT l))] [] Q (fun (r : (List Int)) => rowI 3 intT r) := by
  have ht := tab_ok
  refine CtJ.body Try.func47 rfl rfl rfl rfl (fun c hn hmay => ?_)
  unfold cloneInt_vc at h
  refine En.lenL 0 (by rfl) (fun hl => ?_)
  replace h := h hl
  clear hl
  refine En.seq ?_
  refine En.region ?_
  refine WL.run ht hn 1 ⟨[(0, .sv (.one (LS intT l)))], []⟩ (by kernel_rfl) ?_
  refine WL.nil ?_
  refine En.seq ?_
  refine En.seq ?_
  refine En.region ?_
  refine WL.run ht hn 1 ⟨[(0, .sv (.one (LS intT l))), (3, .sv (.one (LS intT l)))], []⟩ (by kernel_rfl) ?_
  refine WL.eqNil (T := intT) (l := l) .eql false (by simp) ht hn (by rfl) rfl (by rfl) (by rfl) (by rfl) rfl (by rfl) (fun isnil hisnil => ?_)
  replace h := h isnil hisnil
  clear hisnil
  refine WL.nil ?_
  refine En.cond (b := (isnil != false)) (by kernel_rfl) (fun hb => ?_) (fun hb => ?_)
  · replace h := h.1 hb
    refine En.seq ?_
    refine En.region ?_
    refine WL.run ht hn 1 ⟨[(2, .sv (.one (.v (.slice none 0 0))))], []⟩ (by kernel_rfl) ?_
    refine WL.nil ?_
    refine En.ret ?_
    exact En.backN (by rfl) h
  · replace h := h.2 hb
    refine En.skip ?_
    refine En.seq ?_
    refine En.region ?_
    refine WL.mt0 (K := []) (p := some (0, rowI 3 intT ([] : (List Int)))) hn (by rfl) (mt_empty intT 0 ht rfl (by rfl) (by rfl) (by rfl)) (by rfl) (by rfl) (by rfl) ?_
    refine WL.run ht hn 1 ⟨[(5, .sv (.one (.own 0))), (6, .sv (.one (LS intT l)))], [rowI 3 intT ([] : (List Int))]⟩ (by kernel_rfl) ?_
    have hp := h.1
    replace h := h.2
    refine WL.mt (S2 := ⟨[(6, .sv (.one (LS intT l)))], [rowI 3 intT ([] : (List Int))]⟩) (K := [0]) (p := some (0, rowI 3 intT (([] : (List Int)) ++ l))) hn (by rfl) (mt_append (T := intT) (l := ([] : (List Int))) (es := l) ht rfl (by rfl) (by rfl) (by rfl) (by rfl) (by decide) (by rfl) (by rfl) (srcLS (T := intT) (es := l) (fun _ h => by cases h) (by decide) (by rfl)) (by exact hp) (by exact hp.le (by decide))) (by kernel_rfl) (by rfl) (by rfl) (by rfl) ?_
    refine WL.run ht hn 1 ⟨[(2, .sv (.one (.own 0)))], [rowI 3 intT (([] : (List Int)) ++ l)]⟩ (by kernel_rfl) ?_
    refine WL.nil ?_
    refine En.ret ?_
    exact En.backJ (itf := fun l => rowI 3 intT l) hmay (by rfl) (by rfl) rfl rfl h
theorem en47 : ∀ args w, (callFunc 47 args).run Try.prog w = .ok (.enter 47 args) w := enters_of Try.func47 (by kernel_rfl) rfl
theorem cloneInt_ct (l : List Int) (hp : l.length * 8 ≤ 140737488355328) : CtI 47 [.sv (.one (LS intT l))] [] (rowI 3 intT l) := by
  refine (cloneInt_walk l (fun r => r = l) ?_).fun
  unfold cloneInt_vc
  refine fun _ isnil h => ⟨fun hb => (h (by simpa using hb)).symm, fun _ => ⟨?_, by simp⟩⟩
  unfold capOk
  simpa using hp
end Go.Proofs.Ytfpdnigihjmohaa

/- The plain law of det.Explore's mirror: what it hands back. No condition. -/
namespace Go.Proofs.Ytfpdnigihjmohaa
open Go.RowKit Go.MapKept
set_option linter.unusedSimpArgs false
set_option linter.unusedVariables false
set_option maxRecDepth 100000
set_option linter.unusedSectionVars false

section
variable {K : Type} [DecidableEq K] {go : K → Nat → K} {mark : K → Int} {L : Nat} {k0 : K} {P : K → Prop}
/-- a map that numbers keys as a list does -/
def MapOf (m : List (K × Int)) (l : List K) : Prop := ∀ k, mget k m = if k ∈ l then some (l.idxOf k : Int) else none
theorem MapOf.one : MapOf (mput k0 0 ([] : List (K × Int))) [k0] := fun k => by
  rw [mget_put]
  by_cases h : k = k0
  · subst h; simp
  · simp [h, mget]
theorem idxOf_last {l : List K} {k : K} (h : k ∉ l) : (l ++ [k]).idxOf k = l.length := by
  induction l with
  | nil => simp
  | cons x l ih =>
    have h1 : x ≠ k := fun e => h (e ▸ List.mem_cons_self)
    have h2 : k ∉ l := fun e => h (List.mem_cons_of_mem _ e)
    rw [List.cons_append, List.idxOf_cons, ih h2, show (x == k) = false by simpa using h1]
    simp
theorem MapOf.push {m : List (K × Int)} {l : List K} (h : MapOf m l) {k : K} (hk : k ∉ l) : MapOf (mput k (l.length : Int) m) (l ++ [k]) := fun q => by
  rw [mget_put]
  by_cases e : q = k
  · subst e
    simp [idxOf_last hk]
  · rw [if_neg e, h q]
    by_cases hq : q ∈ l
    · rw [if_pos hq, if_pos (List.mem_append_left _ hq), idxOf_left hq]
    · rw [if_neg hq, if_neg (by simp [hq, e])]
end
end Go.Proofs.Ytfpdnigihjmohaa

/- The plain law of det.Classes' mirror: classes tell apart what words tell apart. No condition. -/
namespace Go.Proofs.Ytfpdnigihjmohaa
open Go.RowKit Go.MapKept
set_option linter.unusedSimpArgs false
set_option linter.unusedVariables false
set_option maxRecDepth 100000
set_option linter.unusedSectionVars false

/-- a function of the first m numbers onto themselves is one to one -/
theorem onto_inj {m : Nat} {f : Nat → Nat} (hon : ∀ j, j < m → ∃ i, i < m ∧ f i = j) {i j : Nat} (hi : i < m) (hj : j < m) (h : f i = f j) : i = j := by
  refine Decidable.byContradiction fun hne => ?_
  have := nodup_le (l := List.range m) (m := ((List.range m).erase i).map f) List.nodup_range fun x hx => by
    obtain ⟨q, hq, rfl⟩ := hon x (List.mem_range.1 hx)
    rw [List.mem_map]
    by_cases e : q = i
    · subst e
      exact ⟨j, (List.mem_erase_of_ne (fun e => hne e.symm)).2 (List.mem_range.2 hj), h.symm⟩
    · exact ⟨q, (List.mem_erase_of_ne e).2 (List.mem_range.2 hq), rfl⟩
  rw [List.length_range, List.length_map, List.length_erase_of_mem (List.mem_range.2 hi), List.length_range] at this
  omega
theorem onto_le {k m : Nat} {f : Nat → Nat} (hon : ∀ j, j < k → ∃ i, i < m ∧ f i = j) : k ≤ m := by
  have := nodup_le (l := List.range k) (m := (List.range m).map f) List.nodup_range fun x hx => by
    obtain ⟨q, hq, rfl⟩ := hon x (List.mem_range.1 hx)
    exact List.mem_map.2 ⟨q, List.mem_range.2 hq, rfl⟩
  simpa using this
/-- two bytes of a number -/
def two8 (c : Int) : List Int := [c % 256, c / 256 % 256]
theorem two8_inj {c d : Int} (hc : 0 ≤ c ∧ c < 65536) (hd : 0 ≤ d ∧ d < 65536) (h : two8 c = two8 d) : c = d := by
  unfold two8 at h
  simp only [List.cons.injEq] at h
  omega
theorem two8_in {c : Int} : ∀ x ∈ two8 c, 0 ≤ x ∧ x < 256 := by
  intro x hx
  unfold two8 at hx
  simp only [List.mem_cons, List.not_mem_nil, or_false] at hx
  omega
theorem two8_eq (c : Int) : [IntKind.wrap .u8 c, IntKind.wrap .u8 (Int.fdiv c (2 ^ (min 8 64)))] = two8 c := by
  have h : ((2 : Int) ^ (min 8 64)) = 256 := by decide
  rw [h, IntKind.wrap_u8, IntKind.wrap_u8, Int.fdiv_eq_ediv_of_nonneg _ (by omega)]
  rfl
theorem twos_inj : ∀ {l m : List Int}, (∀ x ∈ l, 0 ≤ x ∧ x < 65536) → (∀ x ∈ m, 0 ≤ x ∧ x < 65536) → l.flatMap two8 = m.flatMap two8 → l = m
  | [], [], _, _, _ => rfl
  | [], _ :: _, _, _, h => by simp [two8] at h
  | _ :: _, [], _, _, h => by simp [two8] at h
  | x :: l, y :: m, hl, hm, h => by
    rw [List.flatMap_cons, List.flatMap_cons] at h
    have h1 := List.append_inj h (by simp [two8])
    rw [two8_inj (hl x List.mem_cons_self) (hm y List.mem_cons_self) h1.1, twos_inj (fun z hz => hl z (List.mem_cons_of_mem _ hz)) (fun z hz => hm z (List.mem_cons_of_mem _ hz)) h1.2]
theorem twos_in {l : List Int} : ∀ x ∈ l.flatMap two8, 0 ≤ x ∧ x < 256 := fun x hx => by
  obtain ⟨c, _, h⟩ := List.mem_flatMap.1 hx
  exact two8_in x h
/-- the classes of a row -/
def rowCls (cls : List Int) (r : List Int) : List Int := r.map fun t => cls.getD t.toNat 0
def keyOf (cls : List Int) (q : Nat) (r : List Int) : DetSplit := ⟨cls.getD q 0, bytesOf ((rowCls cls r).flatMap two8)⟩
/-- what one round makes: classes next, m of them, as keys are alike -/
structure RoundOf (N : List (List Int)) (cls next : List Int) (m : Nat) : Prop where
  len : next.length = N.length
  range : ∀ x ∈ next, 0 ≤ x ∧ x < (m : Int)
  onto : ∀ j : Nat, j < m → (j : Int) ∈ next
  same : ∀ (p q : Nat) (r s : List Int) (x y : Int), N[p]? = some r → N[q]? = some s → next[p]? = some x → next[q]? = some y → (x = y ↔ keyOf cls p r = keyOf cls q s)
/-- an automaton whose classes may be asked for -/
structure ClsPre (d : ApiDet) : Prop where
  size : d.fNext.length ≤ 65536
  next : ∀ r ∈ d.fNext, ∀ x ∈ r, 0 ≤ x ∧ x < (d.fNext.length : Int)
  wide : ∀ r ∈ d.fNext, r.length ≤ 1000
  marks : d.fMark.length = d.fNext.length
  small : ∀ x ∈ d.fMark, 0 ≤ x ∧ x < 65536
/-- numbers by keys, in the middle of a round: map m2, and next up to q -/
structure Half (N : List (List Int)) (cls : List Int) (q : Nat) (m2 : List (DetSplit × Int)) (next : List Int) : Prop where
  len : next.length = N.length
  get : ∀ (p : Nat) (r : List Int), p < q → N[p]? = some r → ∃ x : Int, next[p]? = some x ∧ mget (keyOf cls p r) m2 = some x
  range : ∀ (k : DetSplit) (x : Int), mget k m2 = some x → 0 ≤ x ∧ x < (m2.length : Int)
  inj : ∀ (k l : DetSplit) (x : Int), mget k m2 = some x → mget l m2 = some x → k = l
  onto : ∀ j : Nat, j < m2.length → ∃ p : Nat, p < q ∧ next[p]? = some (j : Int)
  size : m2.length ≤ q
theorem mput_length {κ : Type} [DecidableEq κ] {a : κ} {v : Int} : ∀ {D : List (κ × Int)}, mget a D = none → (mput a v D).length = D.length + 1
  | [], _ => rfl
  | x :: D, h => by
    rw [mget] at h
    split at h
    · cases h
    · rename_i e
      rw [mput, if_neg e, List.length_cons, mput_length h, List.length_cons]
theorem Half.start {N : List (List Int)} {cls next : List Int} (h : next.length = N.length) : Half N cls 0 [] next :=
  ⟨h, fun p r hp => absurd hp (Nat.not_lt_zero _), fun k x e => by simp [mget] at e, fun k l x e => by simp [mget] at e, fun j hj => by simp at hj, Nat.le_refl _⟩
theorem Half.known {N : List (List Int)} {cls next : List Int} {q : Nat} {m2 : List (DetSplit × Int)} (h : Half N cls q m2 next) {r : List Int} (hr : N[q]? = some r) {x : Int} (hx : mget (keyOf cls q r) m2 = some x) : Half N cls (q + 1) m2 (next.set q x) := by
  have hq : q < next.length := by rw [h.len]; exact (List.getElem?_eq_some_iff.1 hr).1
  refine ⟨by simp [h.len], fun p s hp hs => ?_, h.range, h.inj, fun j hj => ?_, Nat.le_succ_of_le h.size⟩
  · by_cases e : p = q
    · subst e
      rw [hr] at hs
      cases hs
      exact ⟨x, by rw [List.getElem?_set_self hq], hx⟩
    · obtain ⟨y, h1, h2⟩ := h.get p s (by omega) hs
      exact ⟨y, by rw [List.getElem?_set_ne (Ne.symm e)]; exact h1, h2⟩
  · obtain ⟨p, h1, h2⟩ := h.onto j hj
    exact ⟨p, by omega, by rw [List.getElem?_set_ne (by omega)]; exact h2⟩
theorem Half.new {N : List (List Int)} {cls next : List Int} {q : Nat} {m2 : List (DetSplit × Int)} (h : Half N cls q m2 next) {r : List Int} (hr : N[q]? = some r) (hx : mget (keyOf cls q r) m2 = none) : Half N cls (q + 1) (mput (keyOf cls q r) (m2.length : Int) m2) (next.set q (m2.length : Int)) := by
  have hq : q < next.length := by rw [h.len]; exact (List.getElem?_eq_some_iff.1 hr).1
  have hl := mput_length (v := (m2.length : Int)) hx
  refine ⟨by simp [h.len], fun p s hp hs => ?_, fun k x e => ?_, fun k l x e1 e2 => ?_, fun j hj => ?_, by rw [hl]; have := h.size; omega⟩
  · by_cases e : p = q
    · subst e
      rw [hr] at hs
      cases hs
      exact ⟨_, by rw [List.getElem?_set_self hq], by rw [mget_put, if_pos rfl]⟩
    · obtain ⟨y, h1, h2⟩ := h.get p s (by omega) hs
      refine ⟨y, by rw [List.getElem?_set_ne (Ne.symm e)]; exact h1, ?_⟩
      rw [mget_put, if_neg (fun e2 => by rw [e2, hx] at h2; cases h2)]
      exact h2
  · rw [mget_put] at e
    rw [hl]
    split at e
    · cases e; omega
    · have := h.range k x e
      omega
  · rw [mget_put] at e1 e2
    split at e1 <;> split at e2
    · rename_i a b; rw [a, b]
    · cases e1
      have := h.range l _ e2
      omega
    · cases e2
      have := h.range k _ e1
      omega
    · exact h.inj k l x e1 e2
  · rw [hl] at hj
    by_cases e : j = m2.length
    · subst e
      exact ⟨q, by omega, by rw [List.getElem?_set_self hq]⟩
    · obtain ⟨p, h1, h2⟩ := h.onto j (by omega)
      exact ⟨p, by omega, by rw [List.getElem?_set_ne (by omega)]; exact h2⟩
theorem Half.round {N : List (List Int)} {cls next : List Int} {m2 : List (DetSplit × Int)} (h : Half N cls N.length m2 next) : RoundOf N cls next m2.length := by
  have hget : ∀ (p : Nat) (r : List Int) (x : Int), N[p]? = some r → next[p]? = some x → mget (keyOf cls p r) m2 = some x := fun p r x h1 h2 => by
    obtain ⟨y, h3, h4⟩ := h.get p r (List.getElem?_eq_some_iff.1 h1).1 h1
    rw [h2] at h3
    cases h3
    exact h4
  refine ⟨h.len, fun x hx => ?_, fun j hj => ?_, fun p q r s x y h1 h2 h3 h4 => ?_⟩
  · obtain ⟨p, hp⟩ := List.getElem?_of_mem hx
    have hlt := (List.getElem?_eq_some_iff.1 hp).1
    rw [h.len] at hlt
    exact h.range _ x (hget p _ x (List.getElem?_eq_getElem hlt) hp)
  · obtain ⟨p, _, h2⟩ := h.onto j hj
    exact List.mem_of_getElem? h2
  · have k1 := hget p r x h1 h3
    have k2 := hget q s y h2 h4
    constructor
    · rintro rfl
      exact h.inj _ _ x k1 k2
    · intro e
      rw [e, k2] at k1
      cases k1
      rfl
theorem succ_rs {d : ApiDet} {L p q a : Nat} (h : rs L (langD d p) = rs L (langD d q)) (ha : a < L) : rs L (langD d (stepD d p a)) = rs L (langD d (stepD d q a)) :=
  rs_congr fun w hw => rs_at (w := a :: w) h fun b hb => (List.mem_cons.1 hb).elim (fun e => e ▸ ha) (hw b)
/-- what holds of classes between rounds: no two states that words do not tell apart are told apart, and marks are -/
structure ClsInv (d : ApiDet) (L : Nat) (x4 : Int) (cls : List Int) : Prop where
  len : cls.length = d.fNext.length
  range : ∀ x ∈ cls, 0 ≤ x ∧ x < 65536
  sound : ∀ p q, p < d.fNext.length → q < d.fNext.length → rs L (langD d p) = rs L (langD d q) → cls.getD p 0 = cls.getD q 0
  marks : ∀ p q, p < d.fNext.length → q < d.fNext.length → cls.getD p 0 = cls.getD q 0 → d.fMark.getD p 0 = d.fMark.getD q 0
  count : x4 = 0 ∨ ∃ m : Nat, x4 = m ∧ m ≤ d.fNext.length ∧ (∀ x ∈ cls, 0 ≤ x ∧ x < (m : Int)) ∧ ∀ j : Nat, j < m → (j : Int) ∈ cls
theorem getD_mem {α : Type} {l : List α} {i : Nat} {z : α} (h : i < l.length) : l.getD i z ∈ l := by
  rw [List.getD_eq_getElem?_getD, List.getElem?_eq_getElem h]
  exact List.getElem_mem h
theorem getD_some {α : Type} {l : List α} {i : Nat} {z : α} (h : i < l.length) : l[i]? = some (l.getD i z) := by
  rw [List.getD_eq_getElem?_getD, List.getElem?_eq_getElem h]
  rfl
section
variable {d : ApiDet} (hd : ClsPre d) {L : Nat} (hL : ∀ r ∈ d.fNext, r.length = L)
include hd
theorem ClsPre.step {q a : Nat} (hq : q < d.fNext.length) : stepD d q a < d.fNext.length := by
  unfold stepD
  have hr := getD_mem (z := []) hq
  by_cases h : a < (d.fNext.getD q []).length
  · have := hd.next _ hr _ (getD_mem (z := 0) h)
    omega
  · rw [List.getD_eq_getElem?_getD (l := d.fNext.getD q []), List.getElem?_eq_none (by omega)]
    simp only [Option.getD_none]
    omega
theorem keyOf_iff {cls : List Int} (hr : ∀ x ∈ cls, 0 ≤ x ∧ x < 65536) (hlen : cls.length = d.fNext.length) {p q : Nat} (hp : p < d.fNext.length) (hq : q < d.fNext.length) (hrows : (d.fNext.getD p []).length = (d.fNext.getD q []).length) :
    keyOf cls p (d.fNext.getD p []) = keyOf cls q (d.fNext.getD q []) ↔ cls.getD p 0 = cls.getD q 0 ∧ ∀ a, a < (d.fNext.getD p []).length → cls.getD (stepD d p a) 0 = cls.getD (stepD d q a) 0 := by
  have hin : ∀ r ∈ d.fNext, ∀ x ∈ rowCls cls r, 0 ≤ x ∧ x < 65536 := fun r hr2 x hx => by
    obtain ⟨t, ht, rfl⟩ := List.mem_map.1 hx
    have := hd.next r hr2 t ht
    exact hr _ (getD_mem (by omega))
  unfold keyOf
  simp only [DetSplit.mk.injEq]
  refine and_congr Iff.rfl ⟨fun h a ha => ?_, fun h => ?_⟩
  · have h1 := twos_inj (hin _ (getD_mem hp)) (hin _ (getD_mem hq)) (bytesOf_inj twos_in twos_in h)
    have h2 := congrArg (fun l => l[a]?) h1
    simp only [rowCls, List.getElem?_map, getD_some (z := (0 : Int)) ha, getD_some (z := (0 : Int)) (show a < (d.fNext.getD q []).length by omega), Option.map_some, Option.some.injEq] at h2
    exact h2
  · have : rowCls cls (d.fNext.getD p []) = rowCls cls (d.fNext.getD q []) := by
      unfold rowCls
      refine List.ext_getElem? fun a => ?_
      rw [List.getElem?_map, List.getElem?_map]
      by_cases ha : a < (d.fNext.getD p []).length
      · rw [getD_some (z := (0 : Int)) ha, getD_some (z := (0 : Int)) (show a < (d.fNext.getD q []).length by omega), Option.map_some, Option.map_some]
        exact congrArg some (h a ha)
      · rw [List.getElem?_eq_none (by omega), List.getElem?_eq_none (by omega)]
    rw [this]
include hL
theorem ClsInv.next {cls next : List Int} {x4 : Int} {m : Nat} (h : ClsInv d L x4 cls) (hR : RoundOf d.fNext cls next m) (hm : m ≤ d.fNext.length) : ClsInv d L m next := by
  have hrow : ∀ p, p < d.fNext.length → (d.fNext.getD p []).length = L := fun p hp => hL _ (getD_mem hp)
  have key : ∀ p q, p < d.fNext.length → q < d.fNext.length → (next.getD p 0 = next.getD q 0 ↔ cls.getD p 0 = cls.getD q 0 ∧ ∀ a, a < L → cls.getD (stepD d p a) 0 = cls.getD (stepD d q a) 0) := fun p q hp hq => by
    rw [hR.same p q _ _ _ _ (getD_some (z := []) hp) (getD_some (z := []) hq) (getD_some (z := 0) (by rw [hR.len]; exact hp)) (getD_some (z := 0) (by rw [hR.len]; exact hq)), keyOf_iff hd h.range h.len hp hq (by rw [hrow p hp, hrow q hq]), hrow p hp]
  have h65 := hd.size
  refine ⟨hR.len, fun x hx => by have := hR.range x hx; omega, fun p q hp hq hw => ?_, fun p q hp hq e => h.marks p q hp hq ((key p q hp hq).1 e).1, .inr ⟨m, rfl, hm, hR.range, hR.onto⟩⟩
  exact (key p q hp hq).2 ⟨h.sound p q hp hq hw, fun a ha => h.sound _ _ (hd.step hp) (hd.step hq) (succ_rs hw ha)⟩
theorem ClsInv.factor {cls next : List Int} {x4 : Int} {m : Nat} (h : ClsInv d L x4 cls) (hR : RoundOf d.fNext cls next m) : ∃ f : Nat → Nat, ∀ i, i < d.fNext.length → f (next.getD i 0).toNat = (cls.getD i 0).toNat := by
  have hrow : ∀ p, p < d.fNext.length → (d.fNext.getD p []).length = L := fun p hp => hL _ (getD_mem hp)
  have key : ∀ p q, p < d.fNext.length → q < d.fNext.length → next.getD p 0 = next.getD q 0 → cls.getD p 0 = cls.getD q 0 := fun p q hp hq e =>
    ((keyOf_iff hd h.range h.len hp hq (by rw [hrow p hp, hrow q hq])).1 ((hR.same p q _ _ _ _ (getD_some (z := []) hp) (getD_some (z := []) hq) (getD_some (z := 0) (by rw [hR.len]; exact hp)) (getD_some (z := 0) (by rw [hR.len]; exact hq))).1 e)).1
  have hx : ∀ j : Nat, j < m → ∃ i : Nat, i < d.fNext.length ∧ next.getD i 0 = (j : Int) := fun j hj => by
    obtain ⟨i, hi⟩ := List.getElem?_of_mem (hR.onto j hj)
    have hlt := (List.getElem?_eq_some_iff.1 hi).1
    exact ⟨i, by rw [hR.len] at hlt; exact hlt, by simp [hi]⟩
  refine ⟨fun j => if hj : j < m then (cls.getD (hx j hj).choose 0).toNat else 0, fun i hi => ?_⟩
  have hr := hR.range _ (getD_mem (l := next) (z := 0) (by rw [hR.len]; exact hi))
  have hj : (next.getD i 0).toNat < m := by omega
  show (if hj : _ then _ else _) = _
  rw [dif_pos hj]
  obtain ⟨k1, k2⟩ := (hx _ hj).choose_spec
  rw [key _ i k1 hi (by rw [k2]; omega)]
theorem ClsInv.le {cls next : List Int} {x4 : Int} {m : Nat} (h : ClsInv d L x4 cls) (hR : RoundOf d.fNext cls next m) : x4 ≤ m := by
  rcases h.count with h0 | ⟨m', h1, h2, h3, h4⟩
  · omega
  · obtain ⟨f, hf⟩ := h.factor hd hL hR
    have := onto_le (k := m') (m := m) (f := f) fun j hj => by
      obtain ⟨i, hi⟩ := List.getElem?_of_mem (h4 j hj)
      have hlt := (List.getElem?_eq_some_iff.1 hi).1
      rw [h.len] at hlt
      have hr := hR.range _ (getD_mem (l := next) (z := 0) (by rw [hR.len]; exact hlt))
      refine ⟨(next.getD i 0).toNat, by omega, ?_⟩
      rw [hf i hlt]
      simp [hi]
    omega
/-- when the number of classes stays, the classes are right -/
theorem ClsInv.ends {cls next : List Int} {x4 : Int} {m : Nat} (h : ClsInv d L x4 cls) (hR : RoundOf d.fNext cls next m) (hm : m ≤ d.fNext.length) (he : (m : Int) = x4) : ∀ p q, p < d.fNext.length → q < d.fNext.length → (next.getD p 0 = next.getD q 0 ↔ rs L (langD d p) = rs L (langD d q)) := by
  have hrow : ∀ p, p < d.fNext.length → (d.fNext.getD p []).length = L := fun p hp => hL _ (getD_mem hp)
  have key : ∀ p q, p < d.fNext.length → q < d.fNext.length → (next.getD p 0 = next.getD q 0 ↔ cls.getD p 0 = cls.getD q 0 ∧ ∀ a, a < L → cls.getD (stepD d p a) 0 = cls.getD (stepD d q a) 0) := fun p q hp hq => by
    rw [hR.same p q _ _ _ _ (getD_some (z := []) hp) (getD_some (z := []) hq) (getD_some (z := 0) (by rw [hR.len]; exact hp)) (getD_some (z := 0) (by rw [hR.len]; exact hq)), keyOf_iff hd h.range h.len hp hq (by rw [hrow p hp, hrow q hq]), hrow p hp]
  intro p q hp hq
  -- no class was split
  have stay : ∀ p q, p < d.fNext.length → q < d.fNext.length → cls.getD p 0 = cls.getD q 0 → next.getD p 0 = next.getD q 0 := by
    intro p q hp hq e
    have hnp := hR.range _ (getD_mem (l := next) (z := 0) (by rw [hR.len]; exact hp))
    have hnq := hR.range _ (getD_mem (l := next) (z := 0) (by rw [hR.len]; exact hq))
    rcases h.count with h0 | ⟨m', h1, h2, h3, h4⟩
    · omega
    · have hmm : m' = m := by omega
      subst hmm
      obtain ⟨f, hf⟩ := h.factor hd hL hR
      have hon : ∀ j, j < m' → ∃ i, i < m' ∧ f i = j := fun j hj => by
        obtain ⟨i, hi⟩ := List.getElem?_of_mem (h4 j hj)
        have hlt := (List.getElem?_eq_some_iff.1 hi).1
        rw [h.len] at hlt
        have hr := hR.range _ (getD_mem (l := next) (z := 0) (by rw [hR.len]; exact hlt))
        refine ⟨(next.getD i 0).toNat, by omega, ?_⟩
        rw [hf i hlt]
        simp [hi]
      have := onto_inj hon (i := (next.getD p 0).toNat) (j := (next.getD q 0).toNat) (by omega) (by omega) (by rw [hf p hp, hf q hq, e])
      omega
  constructor
  · intro e
    have go : ∀ (w : List Nat) (p q : Nat), p < d.fNext.length → q < d.fNext.length → next.getD p 0 = next.getD q 0 → (∀ a ∈ w, a < L) → langD d p w = langD d q w := by
      intro w
      induction w with
      | nil => exact fun p q hp hq e _ => h.marks p q hp hq ((key p q hp hq).1 e).1
      | cons a w ih =>
        intro p q hp hq e hw
        exact ih (stepD d p a) (stepD d q a) (hd.step hp) (hd.step hq) (stay _ _ (hd.step hp) (hd.step hq) (((key p q hp hq).1 e).2 a (hw a List.mem_cons_self))) fun b hb => hw b (List.mem_cons_of_mem _ hb)
    exact rs_congr fun w hw => go w p q hp hq e hw
  · exact fun e => (key p q hp hq).2 ⟨h.sound p q hp hq e, fun a ha => h.sound _ _ (hd.step hp) (hd.step hq) (succ_rs e ha)⟩
end
end Go.Proofs.Ytfpdnigihjmohaa

/- Contracts of det.Explore and det.Classes. No condition. -/
namespace Go.Proofs.Ytfpdnigihjmohaa
open Go.RowKit Go.MapKept
set_option linter.unusedSimpArgs false
set_option linter.unusedVariables false
set_option maxRecDepth 100000
set_option linter.unusedSectionVars false

/-- an automaton whose classes may be asked for -/
structure ClsOk (d : ApiDet) : Prop where
  wf : Wf d
  size : d.fNext.length ≤ 65536
  wide : d.fLetters ≤ 1000
  small : ∀ x ∈ d.fMark, 0 ≤ x ∧ x < 65536
/-- classes that tell apart what words tell apart -/
structure IsClass (d : ApiDet) (cls : List Int) : Prop where
  len : cls.length = d.fNext.length
  range : ∀ x ∈ cls, 0 ≤ x ∧ x < (d.fNext.length : Int)
  same : ∀ p q, p < d.fNext.length → q < d.fNext.length → (cls.getD p 0 = cls.getD q 0 ↔ rs d.fLetters.toNat (langD d p) = rs d.fLetters.toNat (langD d q))
end Go.Proofs.Ytfpdnigihjmohaa

/- Contracts of det.Explore and det.Smallest. No condition. -/
namespace Go.Proofs.Ytfpdnigihjmohaa
open Go.RowKit Go.MapKept
set_option linter.unusedSimpArgs false
set_option linter.unusedVariables false
set_option maxRecDepth 100000

end Go.Proofs.Ytfpdnigihjmohaa

/- The contract of det.Smallest: it is the one automaton of its language. No condition. -/
namespace Go.Proofs.Ytfpdnigihjmohaa
open Go.RowKit Go.MapKept
set_option linter.unusedSimpArgs false
set_option linter.unusedVariables false
set_option maxRecDepth 100000
set_option linter.unusedSectionVars false

section
variable {d : ApiDet} {cls back : List Int}
end
end Go.Proofs.Ytfpdnigihjmohaa

/- Symbolic states of a walk: cells of arrays of numbers, at places that are told as the program runs. No condition. -/
namespace Go.Proofs.Ytfpdnigihjmohaa
open Go.RowKit Go.MapKept
set_option linter.unusedSimpArgs false
set_option linter.unusedVariables false
set_option maxRecDepth 100000
set_option linter.unusedSectionVars false

section
variable {c : Cfg} {S S1 : St} {o : Oper} {tab : Tab} {n : Nat} {ops : Array Oper} {rest : List Oper} {N : Po}
end
end Go.Proofs.Ytfpdnigihjmohaa

/- Symbolic states of a walk: calls that write variables of the caller's, where the order is drawn; function values lent. No condition. -/
namespace Go.Proofs.Ytfpdnigihjmohaa
open Go.RowKit Go.MapKept
set_option linter.unusedSimpArgs false
set_option linter.unusedVariables false
set_option maxRecDepth 100000

section
variable {c : Cfg} {S S1 : St} {a : Act} {w : World} {g : Gh} {hs : Nat → Value} {tab : Tab} {n : Nat} {o : Oper} {ops : Array Oper} {rest L : List Oper} {N : Po}
/-- the pieces that a call writes, behind it -/
def usOf : List Nat → List Item → List Item → List (Nat × Item)
  | j :: rn, it :: M, it' :: M' => match it.fz with
    | true => usOf rn M M'
    | false => (j, it') :: usOf rn M M'
  | _, _, _ => []
theorem usOf_mem : ∀ {rn : List Nat} {M M' : List Item} {p : Nat × Item}, p ∈ usOf rn M M' → ∃ (i : Nat) (it : Item), rn[i]? = some p.1 ∧ M[i]? = some it ∧ it.fz = false ∧ M'[i]? = some p.2
  | [], _, _, _, h => by simp [usOf] at h
  | _ :: _, [], _, _, h => by simp [usOf] at h
  | _ :: _, _ :: _, [], _, h => by simp [usOf] at h
  | j :: rn, it :: M, it' :: M', p, h => by
    unfold usOf at h
    split at h
    · obtain ⟨i, x, h1, h2, h3⟩ := usOf_mem h
      exact ⟨i + 1, x, by simpa using h1, by simpa using h2, h3.1, by simpa using h3.2⟩
    · rename_i hf
      rcases List.mem_cons.1 h with rfl | h
      · exact ⟨0, it, rfl, rfl, hf, rfl⟩
      · obtain ⟨i, x, h1, h2, h3⟩ := usOf_mem h
        exact ⟨i + 1, x, by simpa using h1, by simpa using h2, h3.1, by simpa using h3.2⟩
theorem usOf_in : ∀ {rn : List Nat} {M M' : List Item} {i j : Nat} {it : Item}, M'.length = M.length → rn[i]? = some j → M[i]? = some it → it.fz = false → j ∈ (usOf rn M M').map (·.1)
  | [], _, _, _, _, _, _, h, _, _ => by simp at h
  | _ :: _, [], _, _, _, _, _, _, h, _ => by simp at h
  | _ :: _, _ :: _, [], _, _, _, h, _, _, _ => by simp at h
  | k :: rn, x :: M, x' :: M', 0, j, it, _, h1, h2, h3 => by
    simp at h1 h2
    subst h1 h2
    unfold usOf
    rw [h3]
    simp
  | k :: rn, x :: M, x' :: M', i + 1, j, it, hl, h1, h2, h3 => by
    have := usOf_in (rn := rn) (M := M) (M' := M') (i := i) (by simpa using hl) (by simpa using h1) (by simpa using h2) h3
    unfold usOf
    split
    · exact this
    · exact List.mem_cons_of_mem _ this
/-- the pieces that a call writes are plain and stand where they stood -/
def plainM (pin : List Nat) (M M' : List Item) : Bool := Nat.beq M'.length M.length && ((List.range M.length).zip (M.zip M')).all fun x => x.2.1.fz || (pin.any (Nat.beq x.1) && x.2.2.refs.isEmpty && !x.2.2.fz)
/-- a call that writes variables of the caller's, where the order is drawn -/
theorem me_call {f : Nat} {ins : List SC} {M : List Item} {pin : List Nat} {x : SC} {M' : List Item} (ct : CtE f ins M pin (fun (_ : Unit) => True) (fun _ => x) (fun _ => M')) (en : ∀ args w, (callFunc f args).run Try.prog w = .ok (.enter f args) w) {caps : List Nat} (rn : List Nat) {fo : Operand} {args : Array Operand} {ats : Array TypeId}
    (ho : o.op = .call ⟨.value fo, args, ats⟩) (hf : evX S.F fo = some (.sv (.one (.fn f caps)))) (ha : ArgsAs c S args caps (ins.map (SC.ren (rnF rn S.M.length))))
    (hM : M.map (fun it => some (it.mv (rnF rn S.M.length))) = rn.map (fun j => S.M[j]?)) (hnd : rn.Nodup) (hpm : plainM pin M M' = true) (hx : x.refs = []) : ME c S o x (usOf rn M M') := fun a w g hs hk N Z hN => by
  unfold Oper.wp
  have hfv : a.eval fo = .func (.func f) #[] (caps.map hs).toArray := (evX_ok hk hf).1
  have hrun : (execOp a.eval o).run Try.prog w = .ok (.enter f ((args.toList.map a.eval) ++ caps.map hs).toArray) w := by
    unfold execOp
    simp only [ho, resolve, hfv, Deferred.ofValue, Sem.run_bind, Sem.run_pure, Result.andThen_ok, invoke]
    rw [show (#[] ++ Array.map a.eval args ++ (List.map hs caps).toArray : Array Value) = (args.toList.map a.eval ++ caps.map hs).toArray by simp]
    exact en _ _
  rw [hrun]
  have hin := items_in hk hM hnd
  obtain ⟨hl0, hpa⟩ := (Bool.and_eq_true _ _).mp hpm
  have hl : M'.length = M.length := Nat.eq_of_beq_eq_true hl0
  have hlr : M.length = rn.length := by have := congrArg List.length hM; simpa using this
  have hrnF : ∀ i j, rn[i]? = some j → rnF rn S.M.length i = j := fun i j hi => by
    have hlt := (List.getElem?_eq_some_iff.1 hi).1
    unfold rnF
    rw [show Nat.blt i rn.length = true from by simpa [Nat.blt_eq] using hlt]
    simp [hi]
  have hpl : ∀ (i : Nat) (it it' : Item), M[i]? = some it → M'[i]? = some it' → it.fz = false → i ∈ pin ∧ it'.refs = [] ∧ it'.fz = false := fun i it it' h1 h2 h3 => by
    have hlt := (List.getElem?_eq_some_iff.1 h1).1
    have := List.all_eq_true.1 hpa (i, it, it') (List.mem_iff_getElem?.2 ⟨i, by
      rw [List.getElem?_zip_eq_some]
      exact ⟨by simp [hlt], by rw [List.getElem?_zip_eq_some]; exact ⟨h1, h2⟩⟩⟩)
    simp only [h3, Bool.false_or, Bool.and_eq_true, List.isEmpty_iff, Bool.not_eq_true'] at this
    exact ⟨any_beq.1 this.1.1, this.1.2, this.2⟩
  refine (ct w g (fun i => hs (rnF rn S.M.length i)) _ hk.base.pers (okArgs_ren (ha a w g hs hk)) hin).mono ?_
  rintro e' w' ⟨v, g', hs', r, rfl, _, h3, h4, h5, h6⟩
  have hpin : ∀ (i : Nat) (it it' : Item), M[i]? = some it → M'[i]? = some it' → it.fz = false → ∀ j, rn[i]? = some j → hs' i = hs j := fun i it it' h1 h2 h7 j hj => by
    have := h4 i (hpl i it it' h1 h2 h7).1
    rw [this]
    show hs (rnF rn S.M.length i) = _
    rw [hrnF i j hj]
  have hmay : ∀ b, mayM M (fun i => hs (rnF rn S.M.length i)) b → ∃ q ∈ (usOf rn M M').map (·.1), blk (hs q) = some b := fun b ⟨i, it, h1, h2, h7⟩ => by
    have hlt := (List.getElem?_eq_some_iff.1 h1).1
    have hi : rn[i]? = some rn[i] := by simp
    refine ⟨rn[i], usOf_in hl hi h1 h2, ?_⟩
    have := hrnF i _ hi
    simp only [this] at h7
    exact h7
  refine hN v w' g' ⟨h5.os, h5.tape, h5.output, h5.grows, fun b hb hk => h5.frame b hb fun hm => ?_, h5.ghle, fun b o e => ?_, h5.pers⟩ (fun q hq b hb => ?_) (SC.ok_hs (fun i hi => by rw [hx] at hi; cases hi) h3) fun p hp => ?_
  · obtain ⟨q, hq, e⟩ := hmay b hm
    exact hk q hq e
  · rcases h5.ghnew b o e with h1 | h1 | h1
    · exact .inl h1
    · exact .inr (.inr (hmay b h1))
    · exact .inr (.inl h1)
  · obtain ⟨p, hp, rfl⟩ := List.mem_map.1 hq
    obtain ⟨i, it, h1, h2, h7, h8⟩ := usOf_mem hp
    obtain ⟨_, _, hf'⟩ := hpl i it p.2 h2 h8 h7
    refine ((h6.mine i p.2 h8 (fz_gone hf') b ?_).2 hf').2
    rw [hpin i it p.2 h2 h8 h7 p.1 h1]
    exact hb
  · obtain ⟨i, it, h1, h2, h7, h8⟩ := usOf_mem hp
    have := h6.items i p.2 h8
    rw [hpin i it p.2 h2 h8 h7 p.1 h1] at this
    exact Item.ok_hs (fun j hj => by rw [(hpl i it p.2 h2 h8 h7).2.1] at hj; cases hj) this
end
end Go.Proofs.Ytfpdnigihjmohaa

/- Plain laws of sets that stand as bits of a number. No condition. -/
namespace Go.Proofs.Ytfpdnigihjmohaa
open Go.RowKit Go.MapKept
set_option linter.unusedSimpArgs false
set_option linter.unusedVariables false
set_option maxRecDepth 100000

theorem dlt {k n : Nat} (h : decide ((k : Int) < (n : Int)) = true) : k < n := by
  have := of_decide_eq_true h
  omega
theorem dge {k n : Nat} (h : decide ((k : Int) < (n : Int)) = false) : n ≤ k := by
  have := of_decide_eq_false h
  omega
theorem wsucc {k : Nat} (h : k < 9223372036854775807) : wr ((k : Int) + 1) = ((k + 1 : Nat) : Int) := by
  rw [wr_in (by omega) (by omega)]
  rfl
theorem mu_up {n k : Nat} (h : k < n) (hk : k < 9223372036854775807) : n - (wr ((k : Int) + 1)).toNat < n - (k : Int).toNat := by
  rw [wsucc hk, Int.toNat_natCast, Int.toNat_natCast]
  omega
theorem idx_at {α : Type} {l : List α} {k : Nat} (h : k < l.length) : idx l (k : Int) = some l[k] := by simp [idx, h]
theorem capOk_of {n m b : Nat} (h : (n + m) * b ≤ 140737488355328) : capOk n m b := h
end Go.Proofs.Ytfpdnigihjmohaa

/- Contracts of package rewrite. No condition. -/
namespace Go.Proofs.Ytfpdnigihjmohaa
open Go.RowKit Go.MapKept
set_option linter.unusedSimpArgs false
set_option linter.unusedVariables false
set_option maxRecDepth 100000

def indexInt_vc (l : (List Int)) (dom : (Int → Prop)) (φ : (Int → Bool)) (Q : Int → Prop) : Prop :=
  l.length ≤ 9223372036854775807 →
  (∃ (Inv : Int → Prop) (mu : Int → Nat), Inv 0 ∧
  ∀ (x8 : Int) , Inv x8 → (IfP (decide (x8 < (l.length : Int))) (∃ e, idx l x8 = some e ∧
  (dom e) ∧
  IfP (φ e) (Q x8) ((Inv (wr (x8 + 1)) ∧ mu (wr (x8 + 1)) < mu x8))) (Q (-1))))
theorem indexInt_walk (l : (List Int)) (dom : (Int → Prop)) (φ : (Int → Bool)) (Q : Int → Prop) (h : indexInt_vc l dom φ Q) : Ct 135 [.sv (.one (LS intT l)), .sv (.one (.rd (fvR (fun x => [.sv (.one (I x))]) (fun b => .sv (.one (B b))) dom φ)))] [] Q (fun (r : Int) => .sv (.one (I r))) := by
  have ht := tab_ok
  refine Ct.body Try.func135 rfl rfl rfl rfl (fun c hn => ?_)
  unfold indexInt_vc at h
  refine En.lenL 0 (by rfl) (fun hl => ?_)
  replace h := h hl
  clear hl
  refine En.seq ?_
  refine En.region ?_
  refine WL.run ht hn 1 ⟨[(0, .sv (.one (LS intT l))), (1, .sv (.one (.rd (fvR (fun x => [.sv (.one (I x))]) (fun b => .sv (.one (B b))) dom φ))))], []⟩ (by kernel_rfl) ?_
  refine WL.nil ?_
  refine En.seq ?_
  refine En.seq ?_
  refine En.region ?_
  refine WL.run ht hn 3 ⟨[(0, .sv (.one (LS intT l))), (1, .sv (.one (.rd (fvR (fun x => [.sv (.one (I x))]) (fun b => .sv (.one (B b))) dom φ)))), (7, .sv (.one (I (l.length : Int)))), (8, .sv (.one (I 0)))], []⟩ (by kernel_rfl) ?_
  refine WL.nil ?_
  refine En.block ?_
  obtain ⟨Inv, mu, h0, hI⟩ := h
  refine En.loop (σ := Int) (fun zz => Inv zz) (fun zz => mu zz) (fun zz => ⟨[(0, .sv (.one (LS intT l))), (1, .sv (.one (.rd (fvR (fun x => [.sv (.one (I x))]) (fun b => .sv (.one (B b))) dom φ)))), (7, .sv (.one (I (l.length : Int)))), (8, .sv (.one (I zz)))], []⟩) 0 h0 (sub_ok (by kernel_rfl)) ?_
  intro x8 h
  replace h := hI _ h
  show En c ⟨[(0, .sv (.one (LS intT l))), (1, .sv (.one (.rd (fvR (fun x => [.sv (.one (I x))]) (fun b => .sv (.one (B b))) dom φ)))), (7, .sv (.one (I (l.length : Int)))), (8, .sv (.one (I x8)))], []⟩ _
  refine En.seq ?_
  refine En.region ?_
  refine WL.run ht hn 1 ⟨[(0, .sv (.one (LS intT l))), (1, .sv (.one (.rd (fvR (fun x => [.sv (.one (I x))]) (fun b => .sv (.one (B b))) dom φ)))), (7, .sv (.one (I (l.length : Int)))), (8, .sv (.one (I x8))), (9, .sv (.one (B (decide (x8 < (l.length : Int))))))], []⟩ (by kernel_rfl) ?_
  refine WL.nil ?_
  refine En.seq ?_
  refine En.cond (b := (decide (x8 < (l.length : Int)))) (by kernel_rfl) (fun hb => ?_) (fun hb => ?_)
  · replace h := h.1 hb
    refine En.skip ?_
    refine En.seq ?_
    refine En.block ?_
    refine En.seq ?_
    refine En.region ?_
    refine WL.run ht hn 2 ⟨[(0, .sv (.one (LS intT l))), (1, .sv (.one (.rd (fvR (fun x => [.sv (.one (I x))]) (fun b => .sv (.one (B b))) dom φ)))), (5, .sv (.one (I x8))), (7, .sv (.one (I (l.length : Int)))), (8, .sv (.one (I x8)))], []⟩ (by kernel_rfl) ?_
    refine WL.nil ?_
    refine En.seq ?_
    refine En.region ?_
    refine WL.run ht hn 3 ⟨[(0, .sv (.one (LS intT l))), (1, .sv (.one (.rd (fvR (fun x => [.sv (.one (I x))]) (fun b => .sv (.one (B b))) dom φ)))), (5, .sv (.one (I x8))), (7, .sv (.one (I (l.length : Int)))), (8, .sv (.one (I x8))), (11, .sv (.one (.rd (fvR (fun x => [.sv (.one (I x))]) (fun b => .sv (.one (B b))) dom φ)))), (12, .sv (.one (LS intT l))), (13, .sv (.one (I x8)))], []⟩ (by kernel_rfl) ?_
    obtain ⟨e, he, h⟩ := h
    refine WL.val hn (by rfl) (val_index (T := intT) (l := l) (i := x8) ht rfl (by rfl) (by rfl) (by rfl) (by rfl) (by rfl) (by rfl) he) (by rfl) ?_
    refine WL.val hn (by rfl) (val_load (s := .one (I e)) ht rfl (by rfl) (by rfl) (by rfl) (by rfl) (by rfl)) (by rfl) ?_
    have hp := h.1
    replace h := h.2
    refine WL.mt0 (K := []) (p := none) hn (by rfl) (mt_callv e hp rfl (by rfl) (by rfl) (by rfl) (by rfl)) (by rfl) (by rfl) (by rfl) ?_
    refine WL.nil ?_
    refine En.cond (b := (φ e)) (by kernel_rfl) (fun hb => ?_) (fun hb => ?_)
    · replace h := h.1 hb
      refine En.seq ?_
      refine En.region ?_
      refine WL.run ht hn 2 ⟨[(4, .sv (.one (I x8)))], []⟩ (by kernel_rfl) ?_
      refine WL.nil ?_
      refine En.ret ?_
      exact En.back ht x8 h (by kernel_rfl) rfl
    · replace h := h.2 hb
      refine En.skip ?_
      refine En.region ?_
      refine WL.run ht hn 2 ⟨[(0, .sv (.one (LS intT l))), (1, .sv (.one (.rd (fvR (fun x => [.sv (.one (I x))]) (fun b => .sv (.one (B b))) dom φ)))), (7, .sv (.one (I (l.length : Int)))), (8, .sv (.one (I (wr (x8 + 1)))))], []⟩ (by kernel_rfl) ?_
      refine WL.nil ?_
      exact En.at (I := fun zz => Inv zz ∧ mu zz < mu x8) (T := fun zz => ⟨[(0, .sv (.one (LS intT l))), (1, .sv (.one (.rd (fvR (fun x => [.sv (.one (I x))]) (fun b => .sv (.one (B b))) dom φ)))), (7, .sv (.one (I (l.length : Int)))), (8, .sv (.one (I zz)))], []⟩) (wr (x8 + 1)) h (by kernel_rfl)
  · replace h := h.2 hb
    refine En.exit rfl ?_
    refine En.seq ?_
    refine En.region ?_
    refine WL.run ht hn 1 ⟨[(4, .sv (.one (I (-1))))], []⟩ (by kernel_rfl) ?_
    refine WL.nil ?_
    refine En.ret ?_
    exact En.back ht (-1) h (by kernel_rfl) rfl
theorem en135 : ∀ args w, (callFunc 135 args).run Try.prog w = .ok (.enter 135 args) w := enters_of Try.func135 (by kernel_rfl) rfl
theorem indexInt_ct (l : List Int) (dom : Int → Prop) (φ : Int → Bool) (hd : ∀ x ∈ l, dom x) : Ct 135 [.sv (.one (LS intT l)), .sv (.one (.rd (fvR (fun x => [.sv (.one (I x))]) (fun b => .sv (.one (B b))) dom φ)))] [] (fun (_ : Unit) => True) (fun _ => .sv (.one (I (idxTo φ l)))) := by
  refine (indexInt_walk l dom φ (fun r => r = idxTo φ l) ?_).fun
  unfold indexInt_vc
  exact index_plain l dom φ hd
def anyInt_vc (l : (List Int)) (dom : (Int → Prop)) (φ : (Int → Bool)) (Q : Bool → Prop) : Prop :=
  l.length ≤ 9223372036854775807 →
  ((∀ x_ ∈ l, dom x_) ∧
  Q (decide ((idxTo φ l) ≥ 0)))
theorem anyInt_walk (l : (List Int)) (dom : (Int → Prop)) (φ : (Int → Bool)) (Q : Bool → Prop) (h : anyInt_vc l dom φ Q) : Ct 79 [.sv (.one (LS intT l)), .sv (.one (.rd (fvR (fun x => [.sv (.one (I x))]) (fun b => .sv (.one (B b))) dom φ)))] [] Q (fun (r : Bool) => .sv (.one (B r))) := by
  have ht := tab_ok
  refine Ct.body Try.func79 rfl rfl rfl rfl (fun c hn => ?_)
  unfold anyInt_vc at h
  refine En.lenL 0 (by rfl) (fun hl => ?_)
  replace h := h hl
  clear hl
  refine En.seq ?_
  refine En.region ?_
  refine WL.run ht hn 1 ⟨[(0, .sv (.one (LS intT l))), (1, .sv (.one (.rd (fvR (fun x => [.sv (.one (I x))]) (fun b => .sv (.one (B b))) dom φ))))], []⟩ (by kernel_rfl) ?_
  refine WL.nil ?_
  refine En.seq ?_
  refine En.region ?_
  refine WL.run ht hn 2 ⟨[(5, .sv (.one (LS intT l))), (6, .sv (.one (.rd (fvR (fun x => [.sv (.one (I x))]) (fun b => .sv (.one (B b))) dom φ))))], []⟩ (by kernel_rfl) ?_
  have hp := h.1
  replace h := h.2
  refine WL.mt0 (K := []) (p := none) hn (by rfl) (mt_call (indexInt_ct l dom φ hp) en135 (caps := []) [] rfl (by rfl) (by kernel_rfl) (by kernel_rfl) (by rfl) (by rfl) (by rfl)) (by rfl) (by rfl) (by rfl) ?_
  refine WL.run ht hn 2 ⟨[(4, .sv (.one (B (decide ((idxTo φ l) ≥ 0)))))], []⟩ (by kernel_rfl) ?_
  refine WL.nil ?_
  refine En.ret ?_
  exact En.back ht (decide ((idxTo φ l) ≥ 0)) h (by kernel_rfl) rfl
theorem en79 : ∀ args w, (callFunc 79 args).run Try.prog w = .ok (.enter 79 args) w := enters_of Try.func79 (by kernel_rfl) rfl
theorem anyInt_ct (l : List Int) (dom : Int → Prop) (φ : Int → Bool) (hd : ∀ x ∈ l, dom x) : Ct 79 [.sv (.one (LS intT l)), .sv (.one (.rd (fvR (fun x => [.sv (.one (I x))]) (fun b => .sv (.one (B b))) dom φ)))] [] (fun (_ : Unit) => True) (fun _ => .sv (.one (B (l.any φ)))) := by
  refine (anyInt_walk l dom φ (fun r => r = l.any φ) ?_).fun
  unfold anyInt_vc
  exact fun _ => ⟨hd, by rw [← idxTo_nonneg φ l]⟩
def equalI_vc (a : (List Int)) (b : (List Int)) (Q : Bool → Prop) : Prop :=
  a.length ≤ 9223372036854775807 →
  b.length ≤ 9223372036854775807 →
  (IfP ((a.length : Int) != (b.length : Int)) (Q false) (∃ (Inv : Int → Prop) (mu : Int → Nat), Inv 0 ∧
  ∀ (x13 : Int) , Inv x13 → (IfP (decide (x13 < (a.length : Int))) (∃ e, idx a x13 = some e ∧
  ∃ e_2, idx b x13 = some e_2 ∧
  IfP (e != e_2) (Q false) ((Inv (wr (x13 + 1)) ∧ mu (wr (x13 + 1)) < mu x13))) (Q true))))
theorem equalI_walk (a : (List Int)) (b : (List Int)) (Q : Bool → Prop) (h : equalI_vc a b Q) : Ct 92 [.sv (.one (LS intT a)), .sv (.one (LS intT b))] [] Q (fun (r : Bool) => .sv (.one (B r))) := by
  have ht := tab_ok
  refine Ct.body Try.func92 rfl rfl rfl rfl (fun c hn => ?_)
  unfold equalI_vc at h
  refine En.lenL 0 (by rfl) (fun hl => ?_)
  replace h := h hl
  clear hl
  refine En.lenL 1 (by rfl) (fun hl => ?_)
  replace h := h hl
  clear hl
  refine En.seq ?_
  refine En.region ?_
  refine WL.run ht hn 1 ⟨[(0, .sv (.one (LS intT a))), (1, .sv (.one (LS intT b)))], []⟩ (by kernel_rfl) ?_
  refine WL.nil ?_
  refine En.seq ?_
  refine En.seq ?_
  refine En.region ?_
  refine WL.run ht hn 5 ⟨[(0, .sv (.one (LS intT a))), (1, .sv (.one (LS intT b))), (10, .sv (.one (B ((a.length : Int) != (b.length : Int)))))], []⟩ (by kernel_rfl) ?_
  refine WL.nil ?_
  refine En.cond (b := ((a.length : Int) != (b.length : Int))) (by kernel_rfl) (fun hb => ?_) (fun hb => ?_)
  · replace h := h.1 hb
    refine En.seq ?_
    refine En.region ?_
    refine WL.run ht hn 1 ⟨[(4, .sv (.one (B false)))], []⟩ (by kernel_rfl) ?_
    refine WL.nil ?_
    refine En.ret ?_
    exact En.back ht false h (by kernel_rfl) rfl
  · replace h := h.2 hb
    refine En.skip ?_
    refine En.seq ?_
    refine En.seq ?_
    refine En.region ?_
    refine WL.run ht hn 3 ⟨[(0, .sv (.one (LS intT a))), (1, .sv (.one (LS intT b))), (12, .sv (.one (I (a.length : Int)))), (13, .sv (.one (I 0)))], []⟩ (by kernel_rfl) ?_
    refine WL.nil ?_
    refine En.block ?_
    obtain ⟨Inv, mu, h0, hI⟩ := h
    refine En.loop (σ := Int) (fun zz => Inv zz) (fun zz => mu zz) (fun zz => ⟨[(0, .sv (.one (LS intT a))), (1, .sv (.one (LS intT b))), (12, .sv (.one (I (a.length : Int)))), (13, .sv (.one (I zz)))], []⟩) 0 h0 (sub_ok (by kernel_rfl)) ?_
    intro x13 h
    replace h := hI _ h
    show En c ⟨[(0, .sv (.one (LS intT a))), (1, .sv (.one (LS intT b))), (12, .sv (.one (I (a.length : Int)))), (13, .sv (.one (I x13)))], []⟩ _
    refine En.seq ?_
    refine En.region ?_
    refine WL.run ht hn 1 ⟨[(0, .sv (.one (LS intT a))), (1, .sv (.one (LS intT b))), (12, .sv (.one (I (a.length : Int)))), (13, .sv (.one (I x13))), (14, .sv (.one (B (decide (x13 < (a.length : Int))))))], []⟩ (by kernel_rfl) ?_
    refine WL.nil ?_
    refine En.seq ?_
    refine En.cond (b := (decide (x13 < (a.length : Int)))) (by kernel_rfl) (fun hb => ?_) (fun hb => ?_)
    · replace h := h.1 hb
      refine En.skip ?_
      refine En.seq ?_
      refine En.block ?_
      refine En.seq ?_
      refine En.region ?_
      refine WL.run ht hn 2 ⟨[(0, .sv (.one (LS intT a))), (1, .sv (.one (LS intT b))), (5, .sv (.one (I x13))), (12, .sv (.one (I (a.length : Int)))), (13, .sv (.one (I x13)))], []⟩ (by kernel_rfl) ?_
      refine WL.nil ?_
      refine En.seq ?_
      refine En.regionS (by kernel_rfl) (by kernel_rfl) ?_
      refine SL.run ht hn 2 ⟨[(0, .sv (.one (LS intT a))), (1, .sv (.one (LS intT b))), (5, .sv (.one (I x13))), (12, .sv (.one (I (a.length : Int)))), (13, .sv (.one (I x13))), (16, .sv (.one (LS intT a))), (17, .sv (.one (I x13)))], []⟩ (by kernel_rfl) ?_
      obtain ⟨e, he, h⟩ := h
      refine SL.val hn (by rfl) (val_index (T := intT) (l := a) (i := x13) ht rfl (by rfl) (by rfl) (by rfl) (by rfl) (by rfl) (by rfl) he) (by rfl) ?_
      refine SL.val hn (by rfl) (val_load (s := .one (I e)) ht rfl (by rfl) (by rfl) (by rfl) (by rfl) (by rfl)) (by rfl) ?_
      refine SL.run ht hn 2 ⟨[(0, .sv (.one (LS intT a))), (1, .sv (.one (LS intT b))), (5, .sv (.one (I x13))), (12, .sv (.one (I (a.length : Int)))), (13, .sv (.one (I x13))), (16, .sv (.one (LS intT a))), (17, .sv (.one (I x13))), (18, .sv (.one (.pe (svR (.one (I e))) 1))), (19, .sv (.one (I e))), (20, .sv (.one (LS intT b))), (21, .sv (.one (I x13)))], []⟩ (by kernel_rfl) ?_
      obtain ⟨e_2, he_2, h⟩ := h
      refine SL.val hn (by rfl) (val_index (T := intT) (l := b) (i := x13) ht rfl (by rfl) (by rfl) (by rfl) (by rfl) (by rfl) (by rfl) he_2) (by rfl) ?_
      refine SL.val hn (by rfl) (val_load (s := .one (I e_2)) ht rfl (by rfl) (by rfl) (by rfl) (by rfl) (by rfl)) (by rfl) ?_
      refine SL.run ht hn 1 ⟨[(0, .sv (.one (LS intT a))), (1, .sv (.one (LS intT b))), (5, .sv (.one (I x13))), (12, .sv (.one (I (a.length : Int)))), (13, .sv (.one (I x13))), (16, .sv (.one (LS intT a))), (17, .sv (.one (I x13))), (18, .sv (.one (.pe (svR (.one (I e))) 1))), (19, .sv (.one (I e))), (20, .sv (.one (LS intT b))), (21, .sv (.one (I x13))), (22, .sv (.one (.pe (svR (.one (I e_2))) 1))), (23, .sv (.one (I e_2))), (24, .sv (.one (B (e != e_2))))], []⟩ (by kernel_rfl) ?_
      refine SL.nil ⟨by kernel_rfl, ?_⟩
      refine En.cond (b := (e != e_2)) (by kernel_rfl) (fun hb => ?_) (fun hb => ?_)
      · replace h := h.1 hb
        refine En.seq ?_
        refine En.region ?_
        refine WL.run ht hn 1 ⟨[(4, .sv (.one (B false)))], []⟩ (by kernel_rfl) ?_
        refine WL.nil ?_
        refine En.ret ?_
        exact En.back ht false h (by kernel_rfl) rfl
      · replace h := h.2 hb
        refine En.skip ?_
        refine En.region ?_
        refine WL.run ht hn 2 ⟨[(0, .sv (.one (LS intT a))), (1, .sv (.one (LS intT b))), (12, .sv (.one (I (a.length : Int)))), (13, .sv (.one (I (wr (x13 + 1)))))], []⟩ (by kernel_rfl) ?_
        refine WL.nil ?_
        exact En.at (I := fun zz => Inv zz ∧ mu zz < mu x13) (T := fun zz => ⟨[(0, .sv (.one (LS intT a))), (1, .sv (.one (LS intT b))), (12, .sv (.one (I (a.length : Int)))), (13, .sv (.one (I zz)))], []⟩) (wr (x13 + 1)) h (by kernel_rfl)
    · replace h := h.2 hb
      refine En.exit rfl ?_
      refine En.seq ?_
      refine En.region ?_
      refine WL.run ht hn 1 ⟨[(4, .sv (.one (B true)))], []⟩ (by kernel_rfl) ?_
      refine WL.nil ?_
      refine En.ret ?_
      exact En.back ht true h (by kernel_rfl) rfl
theorem en92 : ∀ args w, (callFunc 92 args).run Try.prog w = .ok (.enter 92 args) w := enters_of Try.func92 (by kernel_rfl) rfl
theorem equalI_ct (a : (List Int)) (b : (List Int))  : Ct 92 [.sv (.one (LS intT a)), .sv (.one (LS intT b))] [] (fun (_ : Unit) => True) (fun _ => .sv (.one (B (decide (a = b))))) := by
  refine (equalI_walk a b (fun res_ => res_ = (decide (a = b))) ?_).fun
  intro ha hb
  refine ⟨fun h => ?_, fun h => ?_⟩
  · show false = decide (a = b)
    rw [eq_comm, decide_eq_false_iff_not]
    rintro rfl
    simp at h
  have hl : a.length = b.length := by have := h; simp only [bne_eq_false_iff_eq] at this; omega
  refine ⟨fun i => ∃ k : Nat, i = k ∧ k ≤ a.length ∧ a.take k = b.take k, fun i => a.length - i.toNat, ⟨0, rfl, Nat.zero_le _, by simp⟩, ?_⟩
  rintro i ⟨k, rfl, hk, ht⟩
  refine ⟨fun hb1 => ?_, fun hb1 => ?_⟩
  · have hlt := dlt hb1
    have hlt2 : k < b.length := by omega
    refine ⟨_, idx_at hlt, _, idx_at hlt2, fun hne => ?_, fun he => ⟨⟨k + 1, wsucc (by omega), hlt, ?_⟩, mu_up hlt (by omega)⟩⟩
    · show false = decide (a = b)
      rw [eq_comm, decide_eq_false_iff_not]
      rintro rfl
      simp at hne
    · have he : a[k] = b[k] := by simpa using he
      rw [List.take_add_one, List.take_add_one, ht, List.getElem?_eq_getElem hlt, List.getElem?_eq_getElem hlt2, he]
  · have hge := dge hb1
    rw [List.take_of_length_le hge, List.take_of_length_le (by omega)] at ht
    show true = decide (a = b)
    rw [ht]
    simp
def isNaNI_vc (x : Int) (Q : Bool → Prop) : Prop :=
  Q (x != x)
theorem isNaNI_walk (x : Int) (Q : Bool → Prop) (h : isNaNI_vc x Q) : Ct 160 [.sv (.one (I x))] [] Q (fun (r : Bool) => .sv (.one (B r))) := by
  have ht := tab_ok
  refine Ct.body Try.func160 rfl rfl rfl rfl (fun c hn => ?_)
  unfold isNaNI_vc at h
  refine En.seq ?_
  refine En.region ?_
  refine WL.run ht hn 1 ⟨[(0, .sv (.one (I x)))], []⟩ (by kernel_rfl) ?_
  refine WL.nil ?_
  refine En.seq ?_
  refine En.region ?_
  refine WL.run ht hn 4 ⟨[(2, .sv (.one (B (x != x))))], []⟩ (by kernel_rfl) ?_
  refine WL.nil ?_
  refine En.ret ?_
  exact En.back ht (x != x) h (by kernel_rfl) rfl
theorem en160 : ∀ args w, (callFunc 160 args).run Try.prog w = .ok (.enter 160 args) w := enters_of Try.func160 (by kernel_rfl) rfl
theorem isNaNI_ct (x : Int)  : Ct 160 [.sv (.one (I x))] [] (fun (_ : Unit) => True) (fun _ => .sv (.one (B (false)))) := by
  refine (isNaNI_walk x (fun res_ => res_ = (false)) ?_).fun
  show (x != x) = false
  simp
def cmpI_vc (x : Int) (y : Int) (Q : Int → Prop) : Prop :=
  IfP (false) (IfP (false) (Q 0) (Q (-1))) (IfP (false) (Q 1) (IfP (decide (x < y)) (Q (-1)) (IfP (decide (x > y)) (Q 1) (Q 0))))
theorem cmpI_walk (x : Int) (y : Int) (Q : Int → Prop) (h : cmpI_vc x y Q) : Ct 115 [.sv (.one (I x)), .sv (.one (I y))] [] Q (fun (r : Int) => .sv (.one (I r))) := by
  have ht := tab_ok
  refine Ct.body Try.func115 rfl rfl rfl rfl (fun c hn => ?_)
  unfold cmpI_vc at h
  refine En.seq ?_
  refine En.region ?_
  refine WL.run ht hn 1 ⟨[(0, .sv (.one (I x))), (1, .sv (.one (I y)))], []⟩ (by kernel_rfl) ?_
  refine WL.nil ?_
  refine En.seq ?_
  refine En.region ?_
  refine WL.run ht hn 1 ⟨[(0, .sv (.one (I x))), (1, .sv (.one (I y))), (7, .sv (.one (I x)))], []⟩ (by kernel_rfl) ?_
  refine WL.mt0 (K := []) (p := none) hn (by rfl) (mt_call (isNaNI_ct x) en160 (caps := []) [] rfl (by rfl) (by kernel_rfl) (by kernel_rfl) (by rfl) (by rfl) (by rfl)) (by rfl) (by rfl) (by rfl) ?_
  refine WL.run ht hn 1 ⟨[(0, .sv (.one (I x))), (1, .sv (.one (I y))), (5, .sv (.one (B (false))))], []⟩ (by kernel_rfl) ?_
  refine WL.nil ?_
  refine En.seq ?_
  refine En.region ?_
  refine WL.run ht hn 1 ⟨[(0, .sv (.one (I x))), (1, .sv (.one (I y))), (5, .sv (.one (B (false)))), (9, .sv (.one (I y)))], []⟩ (by kernel_rfl) ?_
  refine WL.mt0 (K := []) (p := none) hn (by rfl) (mt_call (isNaNI_ct y) en160 (caps := []) [] rfl (by rfl) (by kernel_rfl) (by kernel_rfl) (by rfl) (by rfl) (by rfl)) (by rfl) (by rfl) (by rfl) ?_
  refine WL.run ht hn 1 ⟨[(0, .sv (.one (I x))), (1, .sv (.one (I y))), (5, .sv (.one (B (false)))), (6, .sv (.one (B (false))))], []⟩ (by kernel_rfl) ?_
  refine WL.nil ?_
  refine En.seq ?_
  refine En.seq ?_
  refine En.region ?_
  refine WL.run ht hn 1 ⟨[(0, .sv (.one (I x))), (1, .sv (.one (I y))), (6, .sv (.one (B (false)))), (11, .sv (.one (B (false))))], []⟩ (by kernel_rfl) ?_
  refine WL.nil ?_
  refine En.cond (b := (false)) (by kernel_rfl) (fun hb => ?_) (fun hb => ?_)
  · replace h := h.1 hb
    refine En.seq ?_
    refine En.seq ?_
    refine En.region ?_
    refine WL.run ht hn 1 ⟨[(12, .sv (.one (B (false))))], []⟩ (by kernel_rfl) ?_
    refine WL.nil ?_
    refine En.cond (b := (false)) (by kernel_rfl) (fun hb => ?_) (fun hb => ?_)
    · replace h := h.1 hb
      refine En.seq ?_
      refine En.region ?_
      refine WL.run ht hn 1 ⟨[(4, .sv (.one (I 0)))], []⟩ (by kernel_rfl) ?_
      refine WL.nil ?_
      refine En.ret ?_
      exact En.back ht 0 h (by kernel_rfl) rfl
    · replace h := h.2 hb
      refine En.skip ?_
      refine En.seq ?_
      refine En.region ?_
      refine WL.run ht hn 1 ⟨[(4, .sv (.one (I (-1))))], []⟩ (by kernel_rfl) ?_
      refine WL.nil ?_
      refine En.ret ?_
      exact En.back ht (-1) h (by kernel_rfl) rfl
  · replace h := h.2 hb
    refine En.skip ?_
    refine En.seq ?_
    refine En.seq ?_
    refine En.region ?_
    refine WL.run ht hn 1 ⟨[(0, .sv (.one (I x))), (1, .sv (.one (I y))), (13, .sv (.one (B (false))))], []⟩ (by kernel_rfl) ?_
    refine WL.nil ?_
    refine En.cond (b := (false)) (by kernel_rfl) (fun hb => ?_) (fun hb => ?_)
    · replace h := h.1 hb
      refine En.seq ?_
      refine En.region ?_
      refine WL.run ht hn 1 ⟨[(4, .sv (.one (I 1)))], []⟩ (by kernel_rfl) ?_
      refine WL.nil ?_
      refine En.ret ?_
      exact En.back ht 1 h (by kernel_rfl) rfl
    · replace h := h.2 hb
      refine En.skip ?_
      refine En.seq ?_
      refine En.seq ?_
      refine En.region ?_
      refine WL.run ht hn 3 ⟨[(0, .sv (.one (I x))), (1, .sv (.one (I y))), (16, .sv (.one (B (decide (x < y)))))], []⟩ (by kernel_rfl) ?_
      refine WL.nil ?_
      refine En.cond (b := (decide (x < y))) (by kernel_rfl) (fun hb => ?_) (fun hb => ?_)
      · replace h := h.1 hb
        refine En.seq ?_
        refine En.region ?_
        refine WL.run ht hn 1 ⟨[(4, .sv (.one (I (-1))))], []⟩ (by kernel_rfl) ?_
        refine WL.nil ?_
        refine En.ret ?_
        exact En.back ht (-1) h (by kernel_rfl) rfl
      · replace h := h.2 hb
        refine En.skip ?_
        refine En.seq ?_
        refine En.seq ?_
        refine En.region ?_
        refine WL.run ht hn 3 ⟨[(19, .sv (.one (B (decide (x > y)))))], []⟩ (by kernel_rfl) ?_
        refine WL.nil ?_
        refine En.cond (b := (decide (x > y))) (by kernel_rfl) (fun hb => ?_) (fun hb => ?_)
        · replace h := h.1 hb
          refine En.seq ?_
          refine En.region ?_
          refine WL.run ht hn 1 ⟨[(4, .sv (.one (I 1)))], []⟩ (by kernel_rfl) ?_
          refine WL.nil ?_
          refine En.ret ?_
          exact En.back ht 1 h (by kernel_rfl) rfl
        · replace h := h.2 hb
          refine En.skip ?_
          refine En.seq ?_
          refine En.region ?_
          refine WL.run ht hn 1 ⟨[(4, .sv (.one (I 0)))], []⟩ (by kernel_rfl) ?_
          refine WL.nil ?_
          refine En.ret ?_
          exact En.back ht 0 h (by kernel_rfl) rfl
theorem en115 : ∀ args w, (callFunc 115 args).run Try.prog w = .ok (.enter 115 args) w := enters_of Try.func115 (by kernel_rfl) rfl
theorem cmpI_ct (x : Int) (y : Int)  : Ct 115 [.sv (.one (I x)), .sv (.one (I y))] [] (fun (_ : Unit) => True) (fun _ => .sv (.one (I (cmpR x y)))) := by
  refine (cmpI_walk x y (fun res_ => res_ = (cmpR x y)) ?_).fun
  refine ⟨fun h => absurd h (by decide), fun _ => ⟨fun h => absurd h (by decide), fun _ => ⟨fun h => ?_, fun h => ⟨fun h2 => ?_, fun h2 => ?_⟩⟩⟩⟩
  · show _ = cmpR x y
    rw [cmpR, if_pos (of_decide_eq_true h)]
  · show _ = cmpR x y
    rw [cmpR, if_neg (of_decide_eq_false h), if_pos (of_decide_eq_true h2)]
  · show _ = cmpR x y
    rw [cmpR, if_neg (of_decide_eq_false h), if_neg (of_decide_eq_false h2)]
def cmpLs_vc (a : (List Int)) (b : (List Int)) (Q : Int → Prop) : Prop :=
  a.length ≤ 9223372036854775807 →
  b.length ≤ 9223372036854775807 →
  (∃ (Inv : Int → Prop) (mu : Int → Nat), Inv 0 ∧
  ∀ (x11 : Int) , Inv x11 → (IfP (decide (x11 < (a.length : Int))) (∃ e, idx a x11 = some e ∧
  IfP (decide (x11 ≥ (b.length : Int))) (Q 1) (∃ e_2, idx b x11 = some e_2 ∧
  IfP ((cmpR e e_2) != 0) (Q (cmpR e e_2)) ((Inv (wr (x11 + 1)) ∧ mu (wr (x11 + 1)) < mu x11)))) (IfP (decide ((a.length : Int) < (b.length : Int))) (Q (-1)) (Q 0))))
theorem cmpLs_walk (a : (List Int)) (b : (List Int)) (Q : Int → Prop) (h : cmpLs_vc a b Q) : Ct 56 [.sv (.one (LS intT a)), .sv (.one (LS intT b))] [] Q (fun (r : Int) => .sv (.one (I r))) := by
  have ht := tab_ok
  refine Ct.body Try.func56 rfl rfl rfl rfl (fun c hn => ?_)
  unfold cmpLs_vc at h
  refine En.lenL 0 (by rfl) (fun hl => ?_)
  replace h := h hl
  clear hl
  refine En.lenL 1 (by rfl) (fun hl => ?_)
  replace h := h hl
  clear hl
  refine En.seq ?_
  refine En.region ?_
  refine WL.run ht hn 1 ⟨[(0, .sv (.one (LS intT a))), (1, .sv (.one (LS intT b)))], []⟩ (by kernel_rfl) ?_
  refine WL.nil ?_
  refine En.seq ?_
  refine En.seq ?_
  refine En.region ?_
  refine WL.run ht hn 3 ⟨[(0, .sv (.one (LS intT a))), (1, .sv (.one (LS intT b))), (9, .sv (.one (LS intT a))), (10, .sv (.one (I (a.length : Int)))), (11, .sv (.one (I 0)))], []⟩ (by kernel_rfl) ?_
  refine WL.nil ?_
  refine En.block ?_
  obtain ⟨Inv, mu, h0, hI⟩ := h
  refine En.loop (σ := Int) (fun zz => Inv zz) (fun zz => mu zz) (fun zz => ⟨[(0, .sv (.one (LS intT a))), (1, .sv (.one (LS intT b))), (9, .sv (.one (LS intT a))), (10, .sv (.one (I (a.length : Int)))), (11, .sv (.one (I zz)))], []⟩) 0 h0 (sub_ok (by kernel_rfl)) ?_
  intro x11 h
  replace h := hI _ h
  show En c ⟨[(0, .sv (.one (LS intT a))), (1, .sv (.one (LS intT b))), (9, .sv (.one (LS intT a))), (10, .sv (.one (I (a.length : Int)))), (11, .sv (.one (I x11)))], []⟩ _
  refine En.seq ?_
  refine En.region ?_
  refine WL.run ht hn 1 ⟨[(0, .sv (.one (LS intT a))), (1, .sv (.one (LS intT b))), (9, .sv (.one (LS intT a))), (10, .sv (.one (I (a.length : Int)))), (11, .sv (.one (I x11))), (12, .sv (.one (B (decide (x11 < (a.length : Int))))))], []⟩ (by kernel_rfl) ?_
  refine WL.nil ?_
  refine En.seq ?_
  refine En.cond (b := (decide (x11 < (a.length : Int)))) (by kernel_rfl) (fun hb => ?_) (fun hb => ?_)
  · replace h := h.1 hb
    refine En.skip ?_
    refine En.seq ?_
    refine En.block ?_
    refine En.seq ?_
    refine En.region ?_
    refine WL.run ht hn 1 ⟨[(0, .sv (.one (LS intT a))), (1, .sv (.one (LS intT b))), (9, .sv (.one (LS intT a))), (10, .sv (.one (I (a.length : Int)))), (11, .sv (.one (I x11))), (13, .sv (.one (I x11)))], []⟩ (by kernel_rfl) ?_
    obtain ⟨e, he, h⟩ := h
    refine WL.val hn (by rfl) (val_index (T := intT) (l := a) (i := x11) ht rfl (by rfl) (by rfl) (by rfl) (by rfl) (by rfl) (by rfl) he) (by rfl) ?_
    refine WL.val hn (by rfl) (val_load (s := .one (I e)) ht rfl (by rfl) (by rfl) (by rfl) (by rfl) (by rfl)) (by rfl) ?_
    refine WL.run ht hn 2 ⟨[(0, .sv (.one (LS intT a))), (1, .sv (.one (LS intT b))), (5, .sv (.one (I x11))), (6, .sv (.one (I e))), (9, .sv (.one (LS intT a))), (10, .sv (.one (I (a.length : Int)))), (11, .sv (.one (I x11)))], []⟩ (by kernel_rfl) ?_
    refine WL.nil ?_
    refine En.seq ?_
    refine En.seq ?_
    refine En.region ?_
    refine WL.run ht hn 4 ⟨[(0, .sv (.one (LS intT a))), (1, .sv (.one (LS intT b))), (5, .sv (.one (I x11))), (6, .sv (.one (I e))), (9, .sv (.one (LS intT a))), (10, .sv (.one (I (a.length : Int)))), (11, .sv (.one (I x11))), (19, .sv (.one (B (decide (x11 ≥ (b.length : Int))))))], []⟩ (by kernel_rfl) ?_
    refine WL.nil ?_
    refine En.cond (b := (decide (x11 ≥ (b.length : Int)))) (by kernel_rfl) (fun hb => ?_) (fun hb => ?_)
    · replace h := h.1 hb
      refine En.seq ?_
      refine En.region ?_
      refine WL.run ht hn 1 ⟨[(4, .sv (.one (I 1)))], []⟩ (by kernel_rfl) ?_
      refine WL.nil ?_
      refine En.ret ?_
      exact En.back ht 1 h (by kernel_rfl) rfl
    · replace h := h.2 hb
      refine En.skip ?_
      refine En.seq ?_
      refine En.region ?_
      refine WL.run ht hn 2 ⟨[(0, .sv (.one (LS intT a))), (1, .sv (.one (LS intT b))), (6, .sv (.one (I e))), (9, .sv (.one (LS intT a))), (10, .sv (.one (I (a.length : Int)))), (11, .sv (.one (I x11))), (20, .sv (.one (LS intT b))), (21, .sv (.one (I x11)))], []⟩ (by kernel_rfl) ?_
      obtain ⟨e_2, he_2, h⟩ := h
      refine WL.val hn (by rfl) (val_index (T := intT) (l := b) (i := x11) ht rfl (by rfl) (by rfl) (by rfl) (by rfl) (by rfl) (by rfl) he_2) (by rfl) ?_
      refine WL.val hn (by rfl) (val_load (s := .one (I e_2)) ht rfl (by rfl) (by rfl) (by rfl) (by rfl) (by rfl)) (by rfl) ?_
      refine WL.run ht hn 1 ⟨[(0, .sv (.one (LS intT a))), (1, .sv (.one (LS intT b))), (6, .sv (.one (I e))), (7, .sv (.one (I e_2))), (9, .sv (.one (LS intT a))), (10, .sv (.one (I (a.length : Int)))), (11, .sv (.one (I x11)))], []⟩ (by kernel_rfl) ?_
      refine WL.nil ?_
      refine En.seq ?_
      refine En.region ?_
      refine WL.run ht hn 2 ⟨[(0, .sv (.one (LS intT a))), (1, .sv (.one (LS intT b))), (9, .sv (.one (LS intT a))), (10, .sv (.one (I (a.length : Int)))), (11, .sv (.one (I x11))), (24, .sv (.one (I e))), (25, .sv (.one (I e_2)))], []⟩ (by kernel_rfl) ?_
      refine WL.mt0 (K := []) (p := none) hn (by rfl) (mt_call (cmpI_ct e e_2) en115 (caps := []) [] rfl (by rfl) (by kernel_rfl) (by kernel_rfl) (by rfl) (by rfl) (by rfl)) (by rfl) (by rfl) (by rfl) ?_
      refine WL.run ht hn 1 ⟨[(0, .sv (.one (LS intT a))), (1, .sv (.one (LS intT b))), (8, .sv (.one (I (cmpR e e_2)))), (9, .sv (.one (LS intT a))), (10, .sv (.one (I (a.length : Int)))), (11, .sv (.one (I x11)))], []⟩ (by kernel_rfl) ?_
      refine WL.nil ?_
      refine En.seq ?_
      refine En.region ?_
      refine WL.run ht hn 2 ⟨[(0, .sv (.one (LS intT a))), (1, .sv (.one (LS intT b))), (8, .sv (.one (I (cmpR e e_2)))), (9, .sv (.one (LS intT a))), (10, .sv (.one (I (a.length : Int)))), (11, .sv (.one (I x11))), (28, .sv (.one (B ((cmpR e e_2) != 0))))], []⟩ (by kernel_rfl) ?_
      refine WL.nil ?_
      refine En.cond (b := ((cmpR e e_2) != 0)) (by kernel_rfl) (fun hb => ?_) (fun hb => ?_)
      · replace h := h.1 hb
        refine En.seq ?_
        refine En.region ?_
        refine WL.run ht hn 2 ⟨[(4, .sv (.one (I (cmpR e e_2))))], []⟩ (by kernel_rfl) ?_
        refine WL.nil ?_
        refine En.ret ?_
        exact En.back ht (cmpR e e_2) h (by kernel_rfl) rfl
      · replace h := h.2 hb
        refine En.skip ?_
        refine En.region ?_
        refine WL.run ht hn 2 ⟨[(0, .sv (.one (LS intT a))), (1, .sv (.one (LS intT b))), (9, .sv (.one (LS intT a))), (10, .sv (.one (I (a.length : Int)))), (11, .sv (.one (I (wr (x11 + 1)))))], []⟩ (by kernel_rfl) ?_
        refine WL.nil ?_
        exact En.at (I := fun zz => Inv zz ∧ mu zz < mu x11) (T := fun zz => ⟨[(0, .sv (.one (LS intT a))), (1, .sv (.one (LS intT b))), (9, .sv (.one (LS intT a))), (10, .sv (.one (I (a.length : Int)))), (11, .sv (.one (I zz)))], []⟩) (wr (x11 + 1)) h (by kernel_rfl)
  · replace h := h.2 hb
    refine En.exit rfl ?_
    refine En.seq ?_
    refine En.seq ?_
    refine En.region ?_
    refine WL.run ht hn 5 ⟨[(35, .sv (.one (B (decide ((a.length : Int) < (b.length : Int))))))], []⟩ (by kernel_rfl) ?_
    refine WL.nil ?_
    refine En.cond (b := (decide ((a.length : Int) < (b.length : Int)))) (by kernel_rfl) (fun hb => ?_) (fun hb => ?_)
    · replace h := h.1 hb
      refine En.seq ?_
      refine En.region ?_
      refine WL.run ht hn 1 ⟨[(4, .sv (.one (I (-1))))], []⟩ (by kernel_rfl) ?_
      refine WL.nil ?_
      refine En.ret ?_
      exact En.back ht (-1) h (by kernel_rfl) rfl
    · replace h := h.2 hb
      refine En.skip ?_
      refine En.seq ?_
      refine En.region ?_
      refine WL.run ht hn 1 ⟨[(4, .sv (.one (I 0)))], []⟩ (by kernel_rfl) ?_
      refine WL.nil ?_
      refine En.ret ?_
      exact En.back ht 0 h (by kernel_rfl) rfl
theorem en56 : ∀ args w, (callFunc 56 args).run Try.prog w = .ok (.enter 56 args) w := enters_of Try.func56 (by kernel_rfl) rfl
theorem cmpLs_ct (a : (List Int)) (b : (List Int))  : Ct 56 [.sv (.one (LS intT a)), .sv (.one (LS intT b))] [] (fun (_ : Unit) => True) (fun _ => .sv (.one (I (cmpL a b)))) := by
  refine (cmpLs_walk a b (fun res_ => res_ = (cmpL a b)) ?_).fun
  intro ha hb
  refine ⟨fun i => ∃ k : Nat, i = k ∧ k ≤ a.length ∧ (k ≤ b.length) ∧ cmpL a b = cmpL (a.drop k) (b.drop k), fun i => a.length - i.toNat, ⟨0, rfl, Nat.zero_le _, Nat.zero_le _, rfl⟩, ?_⟩
  rintro i ⟨k, rfl, hk, hkb, ht⟩
  refine ⟨fun hb1 => ?_, fun hb1 => ?_⟩
  · have hlt := dlt hb1
    refine ⟨_, idx_at hlt, fun h2 => ?_, fun h2 => ?_⟩
    · have h2 : b.length ≤ k := by have := of_decide_eq_true h2; omega
      show 1 = cmpL a b
      rw [ht, List.drop_eq_getElem_cons hlt, List.drop_eq_nil_of_le h2]
      rfl
    · have h2 : k < b.length := by have := of_decide_eq_false h2; omega
      refine ⟨_, idx_at h2, fun h3 => ?_, fun h3 => ⟨⟨k + 1, wsucc (by omega), hlt, h2, ?_⟩, mu_up hlt (by omega)⟩⟩
      · show _ = cmpL a b
        rw [ht, cmpL_drop hlt h2, if_pos (by simpa using h3)]
      · rw [ht, cmpL_drop hlt h2, if_neg (by simpa using h3)]
  · have hk' : k = a.length := by have := dge hb1; omega
    subst hk'
    rw [List.drop_length] at ht
    refine ⟨fun h2 => ?_, fun h2 => ?_⟩
    · have h2 := of_decide_eq_true h2
      show -1 = cmpL a b
      rw [ht, List.drop_eq_getElem_cons (by omega)]
      rfl
    · have h2 := of_decide_eq_false h2
      show 0 = cmpL a b
      rw [ht, List.drop_eq_nil_of_le (by omega)]
      rfl
def growNil_vc (n : Int) (Q : (List Int) → Prop) : Prop :=
  IfP (decide (n < 0)) (False) (∃ J : (List Int) → Prop, (IfP (decide ((wr (n - (wr (0 - ((0 : Nat) : Int))))) > 0)) ((0 < (wr (n - (wr (0 - ((0 : Nat) : Int))))) ∧ (wr (n - (wr (0 - ((0 : Nat) : Int))))) * 8 ≤ 140737488355328 ∧ (wr (n - (wr (0 - ((0 : Nat) : Int))))) ≤ 140737488355328) ∧
  (0 ≤ ((0 : Nat) : Int) ∧ ((0 : Nat) : Int) ≤ ((List.replicate ((wr (n - (wr (0 - ((0 : Nat) : Int)))))).toNat (0 : Int)).length : Int)) ∧
  J ((List.replicate ((wr (n - (wr (0 - ((0 : Nat) : Int)))))).toNat (0 : Int)).take (((0 : Nat) : Int) : Int).toNat)) (J ([] : (List Int)))) ∧
  (∀ (l0 : (List Int)), J l0 → Q l0))
theorem growNil_walk (n : Int) (Q : (List Int) → Prop) (h : growNil_vc n Q) : CtJ 116 [.sv (.one (.v (.slice none 0 0))), .sv (.one (I n))] [] Q (fun (r : (List Int)) => rowI 3 intT r) := by
  have ht := tab_ok
  refine CtJ.body Try.func116 rfl rfl rfl rfl (fun c hn hmay => ?_)
  unfold growNil_vc at h
  refine En.seq ?_
  refine En.region ?_
  refine WL.run ht hn 1 ⟨[(0, .sv (.one (.v (.slice none 0 0)))), (1, .sv (.one (I n)))], []⟩ (by kernel_rfl) ?_
  refine WL.nil ?_
  refine En.seq ?_
  refine En.seq ?_
  refine En.region ?_
  refine WL.run ht hn 2 ⟨[(0, .sv (.one (.v (.slice none 0 0)))), (1, .sv (.one (I n))), (6, .sv (.one (B (decide (n < 0)))))], []⟩ (by kernel_rfl) ?_
  refine WL.nil ?_
  refine En.cond (b := (decide (n < 0))) (by kernel_rfl) (fun hb => ?_) (fun hb => ?_)
  · replace h := h.1 hb
    exact h.elim
  · replace h := h.2 hb
    refine En.skip ?_
    obtain ⟨J, h, hJ⟩ := h
    refine En.seqJ (σ := (List Int)) (fun zz => J zz) (fun zz => ⟨[(0, .sv (.one (.own 0)))], [rowI 3 intT zz]⟩) ?_ ?_
    · refine En.seq ?_
      refine En.region ?_
      refine WL.run ht hn 2 ⟨[(0, .sv (.one (.v (.slice none 0 0)))), (8, .sv (.one (I n))), (9, .sv (.one (.v (.slice none 0 0))))], []⟩ (by kernel_rfl) ?_
      refine WL.val hn (by rfl) (val_capNil ht rfl (by rfl) (by rfl) (by rfl)) (by rfl) ?_
      refine WL.run ht hn 5 ⟨[(0, .sv (.one (.v (.slice none 0 0)))), (1, .sv (.one (I (wr (n - (wr (0 - ((0 : Nat) : Int))))))))], []⟩ (by kernel_rfl) ?_
      refine WL.nil ?_
      refine En.seq ?_
      refine En.region ?_
      refine WL.run ht hn 2 ⟨[(0, .sv (.one (.v (.slice none 0 0)))), (1, .sv (.one (I (wr (n - (wr (0 - ((0 : Nat) : Int)))))))), (16, .sv (.one (B (decide ((wr (n - (wr (0 - ((0 : Nat) : Int))))) > 0)))))], []⟩ (by kernel_rfl) ?_
      refine WL.nil ?_
      refine En.cond (b := (decide ((wr (n - (wr (0 - ((0 : Nat) : Int))))) > 0))) (by kernel_rfl) (fun hb => ?_) (fun hb => ?_)
      · replace h := h.1 hb
        refine En.region ?_
        refine WL.run ht hn 2 ⟨[(0, .sv (.one (.v (.slice none 0 0)))), (1, .sv (.one (I (wr (n - (wr (0 - ((0 : Nat) : Int)))))))), (17, .sv (.one (.v (.slice none 0 0)))), (18, .sv (.one (.v (.slice none 0 0))))], []⟩ (by kernel_rfl) ?_
        refine WL.val hn (by rfl) (val_capNil ht rfl (by rfl) (by rfl) (by rfl)) (by rfl) ?_
        refine WL.val hn (by rfl) (val_sliceNil ht rfl (by rfl) (by rfl) (by rfl) (by rfl) (by rfl)) (by rfl) ?_
        refine WL.run ht hn 1 ⟨[(0, .sv (.one (.v (.slice none 0 0)))), (20, .sv (.one (.v (.slice none 0 0)))), (21, .sv (.one (I (wr (n - (wr (0 - ((0 : Nat) : Int))))))))], []⟩ (by kernel_rfl) ?_
        have hp_2 := h.1
        replace h := h.2
        refine WL.mt0 (K := []) (p := some (0, rowI 3 intT (List.replicate ((wr (n - (wr (0 - ((0 : Nat) : Int)))))).toNat (0 : Int)))) hn (by rfl) (mt_appendZ (T := intT) (0 : Int) (zv := (.int .i64 0)) 0 (l := (wr (n - (wr (0 - ((0 : Nat) : Int)))))) ht rfl (by rfl) (by rfl) (by rfl) (by rfl) (by decide) Try.underlying3 (by rfl) (by rfl) hp_2.1 (by exact hp_2.2.1) hp_2.2.2 rfl (fun _ => ⟨rfl, trivial⟩)) (by rfl) (by rfl) (by rfl) ?_
        refine WL.run ht hn 2 ⟨[(22, .sv (.one (.own 0))), (24, .sv (.one (I ((0 : Nat) : Int))))], [rowI 3 intT (List.replicate ((wr (n - (wr (0 - ((0 : Nat) : Int)))))).toNat (0 : Int))]⟩ (by kernel_rfl) ?_
        have hp_3 := h.1
        replace h := h.2
        refine WL.mt (S2 := ⟨[(24, .sv (.one (I ((0 : Nat) : Int))))], [rowI 3 intT (List.replicate ((wr (n - (wr (0 - ((0 : Nat) : Int)))))).toNat (0 : Int))]⟩) (K := [0]) (p := some (0, rowI 3 intT ((List.replicate ((wr (n - (wr (0 - ((0 : Nat) : Int)))))).toNat (0 : Int)).take (((0 : Nat) : Int) : Int).toNat))) hn (by rfl) (mt_sliceO (T := intT) (l := (List.replicate ((wr (n - (wr (0 - ((0 : Nat) : Int)))))).toNat (0 : Int))) (p := 0) (hv := ((0 : Nat) : Int)) ht rfl (by rfl) (by rfl) (by rfl) (by rfl) (by rfl) (by rfl) (by rfl) hp_3) (by kernel_rfl) (by rfl) (by rfl) (by rfl) ?_
        refine WL.run ht hn 1 ⟨[(0, .sv (.one (.own 0)))], [rowI 3 intT ((List.replicate ((wr (n - (wr (0 - ((0 : Nat) : Int)))))).toNat (0 : Int)).take (((0 : Nat) : Int) : Int).toNat)]⟩ (by kernel_rfl) ?_
        refine WL.nil ?_
        exact En.at (I := fun zz => J zz) (T := fun zz => ⟨[(0, .sv (.one (.own 0)))], [rowI 3 intT zz]⟩) ((List.replicate ((wr (n - (wr (0 - ((0 : Nat) : Int)))))).toNat (0 : Int)).take (((0 : Nat) : Int) : Int).toNat) h (by kernel_rfl)
      · replace h := h.2 hb
        refine En.skip ?_
        refine En.rowNil 0 0 3 intT (by rfl) (by rfl) ?_
        exact En.at (I := fun zz => J zz) (T := fun zz => ⟨[(0, .sv (.one (.own 0)))], [rowI 3 intT zz]⟩) ([] : (List Int)) h (by kernel_rfl)
    · intro l0 h
      replace h := hJ _ h
      show En c ⟨[(0, .sv (.one (.own 0)))], [rowI 3 intT l0]⟩ _
      refine En.seq ?_
      refine En.region ?_
      refine WL.run ht hn 2 ⟨[(4, .sv (.one (.own 0)))], [rowI 3 intT l0]⟩ (by kernel_rfl) ?_
      refine WL.nil ?_
      refine En.ret ?_
      exact En.backJ (itf := fun l => rowI 3 intT l) hmay (by rfl) (by rfl) rfl rfl h
theorem en116 : ∀ args w, (callFunc 116 args).run Try.prog w = .ok (.enter 116 args) w := enters_of Try.func116 (by kernel_rfl) rfl
theorem growNil_ct (n : Int) (hp : 0 ≤ n ∧ n ≤ 4611686018427) : CtI 116 [.sv (.one (.v (.slice none 0 0))), .sv (.one (I n))] [] (rowI 3 intT []) := by
  refine (growNil_walk n (fun r => r = []) ?_).fun
  have h0 : wr (0 - ((0 : Nat) : Int)) = 0 := by decide
  have h1 : wr (n - wr (0 - ((0 : Nat) : Int))) = n := by rw [h0, wr_in (by omega) (by omega)]; omega
  refine ⟨fun h => absurd (of_decide_eq_true h) (by omega), fun _ => ⟨fun l => l = [], ⟨fun h => ?_, fun _ => rfl⟩, fun l h => h⟩⟩
  rw [h1] at h ⊢
  exact ⟨⟨of_decide_eq_true h, by omega, by omega⟩, ⟨by decide, by omega⟩, rfl⟩
def concatI_vc (l : (List (List Int))) (Q : (List Int) → Prop) : Prop :=
  l.length ≤ 9223372036854775807 →
  (∃ (Inv : Int → Int → Prop) (mu : Int → Int → Nat), Inv 0 0 ∧
  ∀ (x3 : Int) (x11 : Int) , Inv x3 x11 → (IfP (decide (x11 < (l.length : Int))) (∃ e, idx l x11 = some e ∧
  IfP (decide ((wr (x3 + (e.length : Int))) < 0)) (False) ((Inv (wr (x3 + (e.length : Int))) (wr (x11 + 1)) ∧ mu (wr (x3 + (e.length : Int))) (wr (x11 + 1)) < mu x3 x11))) ((0 ≤ x3 ∧ x3 ≤ 4611686018427) ∧
  ∃ (Inv_2 : Int → (List Int) → Prop) (mu_2 : Int → (List Int) → Nat), Inv_2 0 (([] : List Int)) ∧
  ∀ (x27 : Int) (l0 : (List Int)) , Inv_2 x27 l0 → (IfP (decide (x27 < (l.length : Int))) (∃ e_2, idx l x27 = some e_2 ∧
  capOk l0.length (e_2 : (List Int)).length 8 ∧
  (Inv_2 (wr (x27 + 1)) (l0 ++ e_2) ∧ mu_2 (wr (x27 + 1)) (l0 ++ e_2) < mu_2 x27 l0)) (Q l0)))))
theorem concatI_walk (l : (List (List Int))) (Q : (List Int) → Prop) (h : concatI_vc l Q) : CtJ 57 [.sv (.one (LS (lsT intT) l))] [] Q (fun (r : (List Int)) => rowI 3 intT r) := by
  have ht := tab_ok
  refine CtJ.body Try.func57 rfl rfl rfl rfl (fun c hn hmay => ?_)
  unfold concatI_vc at h
  refine En.lenL 0 (by rfl) (fun hl => ?_)
  replace h := h hl
  clear hl
  refine En.seq ?_
  refine En.region ?_
  refine WL.run ht hn 1 ⟨[(0, .sv (.one (LS (lsT intT) l)))], []⟩ (by kernel_rfl) ?_
  refine WL.nil ?_
  refine En.seq ?_
  refine En.region ?_
  refine WL.run ht hn 1 ⟨[(0, .sv (.one (LS (lsT intT) l))), (3, .sv (.one (I 0)))], []⟩ (by kernel_rfl) ?_
  refine WL.nil ?_
  refine En.seq ?_
  refine En.seq ?_
  refine En.region ?_
  refine WL.run ht hn 3 ⟨[(0, .sv (.one (LS (lsT intT) l))), (3, .sv (.one (I 0))), (9, .sv (.one (LS (lsT intT) l))), (10, .sv (.one (I (l.length : Int)))), (11, .sv (.one (I 0)))], []⟩ (by kernel_rfl) ?_
  refine WL.nil ?_
  refine En.block ?_
  obtain ⟨Inv, mu, h0_2, hI_2⟩ := h
  refine En.loop (σ := Int × Int) (fun zz => Inv zz.1 zz.2) (fun zz => mu zz.1 zz.2) (fun zz => ⟨[(0, .sv (.one (LS (lsT intT) l))), (3, .sv (.one (I zz.1))), (9, .sv (.one (LS (lsT intT) l))), (10, .sv (.one (I (l.length : Int)))), (11, .sv (.one (I zz.2)))], []⟩) (0, 0) h0_2 (sub_ok (by kernel_rfl)) ?_
  rintro ⟨x3, x11⟩ h
  replace h := hI_2 _ _ h
  show En c ⟨[(0, .sv (.one (LS (lsT intT) l))), (3, .sv (.one (I x3))), (9, .sv (.one (LS (lsT intT) l))), (10, .sv (.one (I (l.length : Int)))), (11, .sv (.one (I x11)))], []⟩ _
  refine En.seq ?_
  refine En.region ?_
  refine WL.run ht hn 1 ⟨[(0, .sv (.one (LS (lsT intT) l))), (3, .sv (.one (I x3))), (9, .sv (.one (LS (lsT intT) l))), (10, .sv (.one (I (l.length : Int)))), (11, .sv (.one (I x11))), (12, .sv (.one (B (decide (x11 < (l.length : Int))))))], []⟩ (by kernel_rfl) ?_
  refine WL.nil ?_
  refine En.seq ?_
  refine En.cond (b := (decide (x11 < (l.length : Int)))) (by kernel_rfl) (fun hb => ?_) (fun hb => ?_)
  · replace h := h.1 hb
    refine En.skip ?_
    refine En.seq ?_
    refine En.block ?_
    refine En.seq ?_
    refine En.region ?_
    obtain ⟨e, he, h⟩ := h
    refine WL.val hn (by rfl) (val_index (T := (lsT intT)) (l := l) (i := x11) ht rfl (by rfl) (by rfl) (by rfl) (by rfl) (by rfl) (by rfl) he) (by rfl) ?_
    refine WL.val hn (by rfl) (val_load (s := .one (LS intT e)) ht rfl (by rfl) (by rfl) (by rfl) (by rfl) (by rfl)) (by rfl) ?_
    refine WL.run ht hn 1 ⟨[(0, .sv (.one (LS (lsT intT) l))), (3, .sv (.one (I x3))), (5, .sv (.one (LS intT e))), (9, .sv (.one (LS (lsT intT) l))), (10, .sv (.one (I (l.length : Int)))), (11, .sv (.one (I x11)))], []⟩ (by kernel_rfl) ?_
    refine WL.nil ?_
    refine En.seq ?_
    refine En.region ?_
    refine WL.run ht hn 5 ⟨[(0, .sv (.one (LS (lsT intT) l))), (3, .sv (.one (I (wr (x3 + (e.length : Int)))))), (9, .sv (.one (LS (lsT intT) l))), (10, .sv (.one (I (l.length : Int)))), (11, .sv (.one (I x11)))], []⟩ (by kernel_rfl) ?_
    refine WL.nil ?_
    refine En.seq ?_
    refine En.region ?_
    refine WL.run ht hn 2 ⟨[(0, .sv (.one (LS (lsT intT) l))), (3, .sv (.one (I (wr (x3 + (e.length : Int)))))), (9, .sv (.one (LS (lsT intT) l))), (10, .sv (.one (I (l.length : Int)))), (11, .sv (.one (I x11))), (20, .sv (.one (B (decide ((wr (x3 + (e.length : Int))) < 0)))))], []⟩ (by kernel_rfl) ?_
    refine WL.nil ?_
    refine En.cond (b := (decide ((wr (x3 + (e.length : Int))) < 0))) (by kernel_rfl) (fun hb => ?_) (fun hb => ?_)
    · replace h := h.1 hb
      exact h.elim
    · replace h := h.2 hb
      refine En.skip ?_
      refine En.region ?_
      refine WL.run ht hn 2 ⟨[(0, .sv (.one (LS (lsT intT) l))), (3, .sv (.one (I (wr (x3 + (e.length : Int)))))), (9, .sv (.one (LS (lsT intT) l))), (10, .sv (.one (I (l.length : Int)))), (11, .sv (.one (I (wr (x11 + 1)))))], []⟩ (by kernel_rfl) ?_
      refine WL.nil ?_
      exact En.at (I := fun zz => Inv zz.1 zz.2 ∧ mu zz.1 zz.2 < mu x3 x11) (T := fun zz => ⟨[(0, .sv (.one (LS (lsT intT) l))), (3, .sv (.one (I zz.1))), (9, .sv (.one (LS (lsT intT) l))), (10, .sv (.one (I (l.length : Int)))), (11, .sv (.one (I zz.2)))], []⟩) ((wr (x3 + (e.length : Int))), (wr (x11 + 1))) h (by kernel_rfl)
  · replace h := h.2 hb
    refine En.exit rfl ?_
    refine En.seq ?_
    refine En.region ?_
    refine WL.run ht hn 1 ⟨[(0, .sv (.one (LS (lsT intT) l))), (23, .sv (.one (I x3)))], []⟩ (by kernel_rfl) ?_
    have hp := h.1
    replace h := h.2
    refine WL.mt0 (K := []) (p := some (0, rowI 3 intT (([] : List Int)))) hn (by rfl) (mt_callI 0 (growNil_ct x3 hp) en116 (caps := []) [] rfl rfl (by rfl) (by kernel_rfl) (by kernel_rfl) (by rfl) (by rfl)) (by rfl) (by rfl) (by rfl) ?_
    refine WL.run ht hn 1 ⟨[(0, .sv (.one (LS (lsT intT) l))), (6, .sv (.one (.own 0)))], [rowI 3 intT (([] : List Int))]⟩ (by kernel_rfl) ?_
    refine WL.nil ?_
    refine En.seq ?_
    refine En.seq ?_
    refine En.region ?_
    refine WL.run ht hn 3 ⟨[(6, .sv (.one (.own 0))), (25, .sv (.one (LS (lsT intT) l))), (26, .sv (.one (I (l.length : Int)))), (27, .sv (.one (I 0)))], [rowI 3 intT (([] : List Int))]⟩ (by kernel_rfl) ?_
    refine WL.nil ?_
    refine En.block ?_
    obtain ⟨Inv_2, mu_2, h0, hI⟩ := h
    refine En.loop (σ := Int × (List Int)) (fun zz => Inv_2 zz.1 zz.2) (fun zz => mu_2 zz.1 zz.2) (fun zz => ⟨[(6, .sv (.one (.own 0))), (25, .sv (.one (LS (lsT intT) l))), (26, .sv (.one (I (l.length : Int)))), (27, .sv (.one (I zz.1)))], [rowI 3 intT zz.2]⟩) (0, (([] : List Int))) h0 (sub_ok (by kernel_rfl)) ?_
    rintro ⟨x27, l0⟩ h
    replace h := hI _ _ h
    show En c ⟨[(6, .sv (.one (.own 0))), (25, .sv (.one (LS (lsT intT) l))), (26, .sv (.one (I (l.length : Int)))), (27, .sv (.one (I x27)))], [rowI 3 intT l0]⟩ _
    refine En.seq ?_
    refine En.region ?_
    refine WL.run ht hn 1 ⟨[(6, .sv (.one (.own 0))), (25, .sv (.one (LS (lsT intT) l))), (26, .sv (.one (I (l.length : Int)))), (27, .sv (.one (I x27))), (28, .sv (.one (B (decide (x27 < (l.length : Int))))))], [rowI 3 intT l0]⟩ (by kernel_rfl) ?_
    refine WL.nil ?_
    refine En.seq ?_
    refine En.cond (b := (decide (x27 < (l.length : Int)))) (by kernel_rfl) (fun hb => ?_) (fun hb => ?_)
    · replace h := h.1 hb
      refine En.skip ?_
      refine En.seq ?_
      refine En.block ?_
      refine En.seq ?_
      refine En.region ?_
      obtain ⟨e_2, he_2, h⟩ := h
      refine WL.val hn (by rfl) (val_index (T := (lsT intT)) (l := l) (i := x27) ht rfl (by rfl) (by rfl) (by rfl) (by rfl) (by rfl) (by rfl) he_2) (by rfl) ?_
      refine WL.val hn (by rfl) (val_load (s := .one (LS intT e_2)) ht rfl (by rfl) (by rfl) (by rfl) (by rfl) (by rfl)) (by rfl) ?_
      refine WL.run ht hn 1 ⟨[(6, .sv (.one (.own 0))), (8, .sv (.one (LS intT e_2))), (25, .sv (.one (LS (lsT intT) l))), (26, .sv (.one (I (l.length : Int)))), (27, .sv (.one (I x27)))], [rowI 3 intT l0]⟩ (by kernel_rfl) ?_
      refine WL.nil ?_
      refine En.region ?_
      refine WL.run ht hn 2 ⟨[(25, .sv (.one (LS (lsT intT) l))), (26, .sv (.one (I (l.length : Int)))), (27, .sv (.one (I x27))), (31, .sv (.one (.own 0))), (32, .sv (.one (LS intT e_2)))], [rowI 3 intT l0]⟩ (by kernel_rfl) ?_
      have hp := h.1
      replace h := h.2
      refine WL.mt (S2 := ⟨[(25, .sv (.one (LS (lsT intT) l))), (26, .sv (.one (I (l.length : Int)))), (27, .sv (.one (I x27))), (32, .sv (.one (LS intT e_2)))], [rowI 3 intT l0]⟩) (K := [0]) (p := some (0, rowI 3 intT (l0 ++ e_2))) hn (by rfl) (mt_append (T := intT) (l := l0) (es := e_2) ht rfl (by rfl) (by rfl) (by rfl) (by rfl) (by decide) (by rfl) (by rfl) (srcLS (T := intT) (es := e_2) (fun _ h => by cases h) (by decide) (by rfl)) (by exact hp) (by exact hp.le (by decide))) (by kernel_rfl) (by rfl) (by rfl) (by rfl) ?_
      refine WL.run ht hn 1 ⟨[(6, .sv (.one (.own 0))), (25, .sv (.one (LS (lsT intT) l))), (26, .sv (.one (I (l.length : Int)))), (27, .sv (.one (I x27)))], [rowI 3 intT (l0 ++ e_2)]⟩ (by kernel_rfl) ?_
      refine WL.nil ?_
      refine En.region ?_
      refine WL.run ht hn 2 ⟨[(6, .sv (.one (.own 0))), (25, .sv (.one (LS (lsT intT) l))), (26, .sv (.one (I (l.length : Int)))), (27, .sv (.one (I (wr (x27 + 1)))))], [rowI 3 intT (l0 ++ e_2)]⟩ (by kernel_rfl) ?_
      refine WL.nil ?_
      exact En.at (I := fun zz => Inv_2 zz.1 zz.2 ∧ mu_2 zz.1 zz.2 < mu_2 x27 l0) (T := fun zz => ⟨[(6, .sv (.one (.own 0))), (25, .sv (.one (LS (lsT intT) l))), (26, .sv (.one (I (l.length : Int)))), (27, .sv (.one (I zz.1)))], [rowI 3 intT zz.2]⟩) ((wr (x27 + 1)), (l0 ++ e_2)) h (by kernel_rfl)
    · replace h := h.2 hb
      refine En.exit rfl ?_
      refine En.seq ?_
      refine En.region ?_
      refine WL.run ht hn 2 ⟨[(2, .sv (.one (.own 0)))], [rowI 3 intT l0]⟩ (by kernel_rfl) ?_
      refine WL.nil ?_
      refine En.ret ?_
      exact En.backJ (itf := fun l => rowI 3 intT l) hmay (by rfl) (by rfl) rfl rfl h
theorem en57 : ∀ args w, (callFunc 57 args).run Try.prog w = .ok (.enter 57 args) w := enters_of Try.func57 (by kernel_rfl) rfl
theorem flat_take {α : Type} {l : List (List α)} {k : Nat} (h : k < l.length) : (l.take (k + 1)).flatten = (l.take k).flatten ++ l[k] := by
  rw [List.take_add_one, List.flatten_append, List.getElem?_eq_getElem h]
  simp
theorem flat_le {α : Type} (l : List (List α)) (k : Nat) : (l.take k).flatten.length ≤ l.flatten.length := by
  rw [← List.take_append_drop k l, List.flatten_append, List.length_append]
  rw [List.take_append_drop]
  omega
theorem concatI_ct (l : (List (List Int))) (hp : l.length ≤ 1000000 ∧ l.flatten.length ≤ 1000000)  : CtI 57 [.sv (.one (LS (lsT intT) l))] [] (rowI 3 intT (l.flatten)) := by
  refine (concatI_walk l (fun res_ => res_ = (l.flatten)) ?_).fun
  intro _
  refine ⟨fun s i => ∃ k : Nat, i = k ∧ k ≤ l.length ∧ s = (((l.take k).flatten.length : Nat) : Int), fun _ i => l.length - i.toNat, ⟨0, rfl, Nat.zero_le _, by simp⟩, ?_⟩
  rintro s i ⟨k, rfl, hk, rfl⟩
  refine ⟨fun hb => ?_, fun hb => ?_⟩
  · have hlt := dlt hb
    have h1 := flat_le l (k + 1)
    have h2 := flat_take hlt
    have h3 : wr ((((l.take k).flatten.length : Nat) : Int) + (l[k].length : Int)) = (((l.take (k + 1)).flatten.length : Nat) : Int) := by
      rw [h2, List.length_append] at h1 ⊢
      rw [wr_in (by omega) (by omega)]
      omega
    refine ⟨_, idx_at hlt, fun h => ?_, fun _ => ⟨⟨k + 1, wsucc (by omega), hlt, h3⟩, mu_up hlt (by omega)⟩⟩
    have := of_decide_eq_true h
    omega
  have hk' : k = l.length := by have := dge hb; omega
  subst hk'
  rw [List.take_length]
  refine ⟨⟨by omega, by omega⟩, ?_⟩
  refine ⟨fun i r => ∃ k : Nat, i = k ∧ k ≤ l.length ∧ r = (l.take k).flatten, fun i _ => l.length - i.toNat, ⟨0, rfl, Nat.zero_le _, by simp⟩, ?_⟩
  rintro i r ⟨k, rfl, hk, rfl⟩
  refine ⟨fun hb => ?_, fun hb => ?_⟩
  · have hlt := dlt hb
    have h1 := flat_le l (k + 1)
    have h2 := flat_take hlt
    refine ⟨_, idx_at hlt, capOk_of ?_, ⟨k + 1, wsucc (by omega), hlt, h2.symm⟩, mu_up hlt (by omega)⟩
    rw [h2, List.length_append] at h1
    omega
  · rw [List.take_of_length_le (dge hb)]
def rewBefore_vc (a : (List Int)) (b : (List Int)) (Q : Bool → Prop) : Prop :=
  a.length ≤ 9223372036854775807 →
  b.length ≤ 9223372036854775807 →
  (IfP ((a.length : Int) != (b.length : Int)) (Q (decide ((a.length : Int) < (b.length : Int)))) (Q (decide ((cmpL a b) < 0))))
theorem rewBefore_walk (a : (List Int)) (b : (List Int)) (Q : Bool → Prop) (h : rewBefore_vc a b Q) : Ct 141 [.sv (.one (LS intT a)), .sv (.one (LS intT b))] [] Q (fun (r : Bool) => .sv (.one (B r))) := by
  have ht := tab_ok
  refine Ct.body Try.func141 rfl rfl rfl rfl (fun c hn => ?_)
  unfold rewBefore_vc at h
  refine En.lenL 0 (by rfl) (fun hl => ?_)
  replace h := h hl
  clear hl
  refine En.lenL 1 (by rfl) (fun hl => ?_)
  replace h := h hl
  clear hl
  refine En.seq ?_
  refine En.region ?_
  refine WL.run ht hn 1 ⟨[(0, .sv (.one (LS intT a))), (1, .sv (.one (LS intT b)))], []⟩ (by kernel_rfl) ?_
  refine WL.nil ?_
  refine En.seq ?_
  refine En.seq ?_
  refine En.region ?_
  refine WL.run ht hn 5 ⟨[(0, .sv (.one (LS intT a))), (1, .sv (.one (LS intT b))), (9, .sv (.one (B ((a.length : Int) != (b.length : Int)))))], []⟩ (by kernel_rfl) ?_
  refine WL.nil ?_
  refine En.cond (b := ((a.length : Int) != (b.length : Int))) (by kernel_rfl) (fun hb => ?_) (fun hb => ?_)
  · replace h := h.1 hb
    refine En.seq ?_
    refine En.region ?_
    refine WL.run ht hn 6 ⟨[(4, .sv (.one (B (decide ((a.length : Int) < (b.length : Int))))))], []⟩ (by kernel_rfl) ?_
    refine WL.nil ?_
    refine En.ret ?_
    exact En.back ht (decide ((a.length : Int) < (b.length : Int))) h (by kernel_rfl) rfl
  · replace h := h.2 hb
    refine En.skip ?_
    refine En.seq ?_
    refine En.region ?_
    refine WL.run ht hn 2 ⟨[(15, .sv (.one (LS intT a))), (16, .sv (.one (LS intT b)))], []⟩ (by kernel_rfl) ?_
    refine WL.mt0 (K := []) (p := none) hn (by rfl) (mt_call (cmpLs_ct a b) en56 (caps := []) [] rfl (by rfl) (by kernel_rfl) (by kernel_rfl) (by rfl) (by rfl) (by rfl)) (by rfl) (by rfl) (by rfl) ?_
    refine WL.run ht hn 2 ⟨[(4, .sv (.one (B (decide ((cmpL a b) < 0)))))], []⟩ (by kernel_rfl) ?_
    refine WL.nil ?_
    refine En.ret ?_
    exact En.back ht (decide ((cmpL a b) < 0)) h (by kernel_rfl) rfl
theorem en141 : ∀ args w, (callFunc 141 args).run Try.prog w = .ok (.enter 141 args) w := enters_of Try.func141 (by kernel_rfl) rfl
theorem rewBefore_ct (a : (List Int)) (b : (List Int))  : Ct 141 [.sv (.one (LS intT a)), .sv (.one (LS intT b))] [] (fun (_ : Unit) => True) (fun _ => .sv (.one (B (beforeB a b)))) := by
  refine (rewBefore_walk a b (fun res_ => res_ = (beforeB a b)) ?_).fun
  intro _ _
  refine ⟨fun h => ?_, fun h => ?_⟩
  · show _ = beforeB a b
    have h : a.length ≠ b.length := by have : (a.length : Int) ≠ b.length := by simpa using h
                                       omega
    rw [beforeB, if_pos h]
    simp
  · show _ = beforeB a b
    have h : a.length = b.length := by have : (a.length : Int) = b.length := by simpa using h
                                       omega
    rw [beforeB, if_neg (fun c => c h)]
def rewC1_vc (a : Int) (n : Int) (Q : Bool → Prop) : Prop :=
  Q ((decide (a < 0)) || (decide (a ≥ n)))
theorem rewC1_walk (a : Int) (n : Int) (Q : Bool → Prop) (h : rewC1_vc a n Q) : Ct 140 [.sv (.one (I a)), .sv (.one (.ptr 0 0))] [.box [I n] 3 true] Q (fun (r : Bool) => .sv (.one (B r))) := by
  have ht := tab_ok
  refine Ct.body Try.func140 rfl rfl rfl rfl (fun c hn => ?_)
  unfold rewC1_vc at h
  refine En.seq ?_
  refine En.region ?_
  refine WL.run ht hn 1 ⟨[(0, .sv (.one (I a))), (1, .sv (.one (.ptr 0 0)))], [.box [I n] 3 true]⟩ (by kernel_rfl) ?_
  refine WL.nil ?_
  refine En.seq ?_
  refine En.region ?_
  refine WL.run ht hn 3 ⟨[(0, .sv (.one (I a))), (1, .sv (.one (.ptr 0 0))), (6, .sv (.one (B (decide (a < 0)))))], [.box [I n] 3 true]⟩ (by kernel_rfl) ?_
  refine WL.thru ⟨[(3, .sv (.one (B ((decide (a < 0)) || (decide (a ≥ n))))))], [.gone]⟩ ?_ ?_
  · refine splitB (decide (a < 0)) (fun hb0 => ?_) (fun hb0 => ?_)
    · refine WL.setB 6 hb0 (by kernel_rfl) ?_
      refine WL.run ht hn 5 ⟨[(3, .sv (.one (B true)))], [.gone]⟩ (by kernel_rfl) ?_
      exact WL.nil (sub_ok (by simp only [hb0]; kernel_rfl))
    · refine WL.setB 6 hb0 (by kernel_rfl) ?_
      refine WL.run ht hn 5 ⟨[(3, .sv (.one (B (decide (a ≥ n)))))], [.gone]⟩ (by kernel_rfl) ?_
      exact WL.nil (sub_ok (by simp only [hb0]; kernel_rfl))
  · refine En.ret ?_
    exact En.back ht ((decide (a < 0)) || (decide (a ≥ n))) h (by kernel_rfl) rfl
theorem en140 : ∀ args w, (callFunc 140 args).run Try.prog w = .ok (.enter 140 args) w := enters_of Try.func140 (by kernel_rfl) rfl
def offB (n a : Int) : Bool := (decide (a < 0)) || (decide (a ≥ n))
theorem rewC1_ct (a : Int) (n : Int)  : Ct 140 [.sv (.one (I a)), .sv (.one (.ptr 0 0))] [.box [I n] 3 true] (fun (_ : Unit) => True) (fun _ => .sv (.one (B (offB n a)))) := by
  refine (rewC1_walk a n (fun res_ => res_ = (offB n a)) ?_).fun
  rfl
def rewBad (n : Int) (s : ApiSwap) : Int :=
  if ((decide ((s.fFrom.length : Int) < 1)) || (decide ((s.fFrom.length : Int) > 5))) || (decide ((s.fTo.length : Int) > 5)) then 1 else
  if s.fFrom.any (offB n) || s.fTo.any (offB n) then 2 else
  if !(beforeB s.fTo s.fFrom) then 3 else 0
def firstE (n : Int) : List ApiSwap → Int
  | [] => 0
  | s :: l => if rewBad n s ≠ 0 then rewBad n s else firstE n l
def rewErr (n : Int) (l : List ApiSwap) : Int :=
  if (decide (n < 1)) || (decide (n > 4)) then 2 else
  if decide ((l.length : Int) > 8) then 1 else firstE n l
def rulesOf (l : List ApiSwap) : Rules := l.map fun s => (s.fFrom, s.fTo)
theorem offB_in {n a : Int} (hn : n ≤ 4) (h : offB n a = false) : 0 ≤ a ∧ a < 4 := by
  unfold offB at h
  simp only [Bool.or_eq_false_iff, decide_eq_false_iff_not] at h
  omega
theorem anyOff_in {n : Int} {w : List Int} (hn : n ≤ 4) (h : w.any (offB n) = false) : In4 w := fun a ha => by
  rw [List.any_eq_false] at h
  have := h a ha
  exact offB_in hn (by simpa using this)
theorem rewBad_ok {n : Int} {s : ApiSwap} (hn : n ≤ 4) (h : rewBad n s = 0) : RuleOk s.fFrom s.fTo ∧ s.fFrom.length ≤ 5 := by
  unfold rewBad at h
  by_cases h1 : (((decide ((s.fFrom.length : Int) < 1)) || (decide ((s.fFrom.length : Int) > 5))) || (decide ((s.fTo.length : Int) > 5))) = true
  · rw [if_pos h1] at h; cases h
  rw [if_neg h1] at h
  by_cases h2 : (s.fFrom.any (offB n) || s.fTo.any (offB n)) = true
  · rw [if_pos h2] at h; cases h
  rw [if_neg h2] at h
  by_cases h3 : (!(beforeB s.fTo s.fFrom)) = true
  · rw [if_pos h3] at h; cases h
  simp only [Bool.not_eq_true, Bool.or_eq_false_iff, decide_eq_false_iff_not, Bool.not_eq_false'] at h1 h2 h3
  have hf := anyOff_in hn h2.1
  have ht := anyOff_in hn h2.2
  have := before_val ht hf h3
  exact ⟨⟨by omega, hf, ht, this.1, this.2⟩, by omega⟩
theorem firstE_ok {n : Int} : ∀ {l : List ApiSwap}, firstE n l = 0 → ∀ s ∈ l, rewBad n s = 0
  | [], _, s, hs => by cases hs
  | a :: l, h, s, hs => by
    rw [firstE] at h
    by_cases e : rewBad n a ≠ 0
    · rw [if_pos e] at h; exact absurd h e
    · rw [if_neg e] at h
      rcases List.mem_cons.1 hs with rfl | hs
      · exact Decidable.not_not.1 e
      · exact firstE_ok h s hs
structure RewOk (n : Int) (l : List ApiSwap) : Prop where
  n1 : 1 ≤ n
  n4 : n ≤ 4
  len : l.length ≤ 8
  rules : RulesOk (rulesOf l)
  from5 : ∀ s ∈ l, s.fFrom.length ≤ 5
theorem rewErr_ok {n : Int} {l : List ApiSwap} (h : rewErr n l = 0) : RewOk n l := by
  unfold rewErr at h
  by_cases h1 : ((decide (n < 1)) || (decide (n > 4))) = true
  · rw [if_pos h1] at h; cases h
  rw [if_neg h1] at h
  by_cases h2 : (decide ((l.length : Int) > 8)) = true
  · rw [if_pos h2] at h; cases h
  rw [if_neg h2] at h
  simp only [Bool.not_eq_true, Bool.or_eq_false_iff, decide_eq_false_iff_not] at h1 h2
  have hb := firstE_ok h
  refine ⟨by omega, by omega, by omega, fun r hr => ?_, fun s hs => (rewBad_ok (by omega) (hb s hs)).2⟩
  obtain ⟨s, hs, rfl⟩ := List.mem_map.1 hr
  exact (rewBad_ok (by omega) (hb s hs)).1
theorem firstE_drop {n : Int} {l : List ApiSwap} {k : Nat} (h : k < l.length) : firstE n (l.drop k) = if rewBad n l[k] ≠ 0 then rewBad n l[k] else firstE n (l.drop (k + 1)) := by
  rw [List.drop_eq_getElem_cons h, firstE]
def rewCheck_vc (n : Int) (l : (List ApiSwap)) (Q : Int → Prop) : Prop :=
  l.length ≤ 9223372036854775807 →
  (IfP ((decide (n < 1)) || (decide (n > 4))) (Q 2) (IfP (decide ((l.length : Int) > 8)) (Q 1) (∃ (Inv : Int → Prop) (mu : Int → Nat), Inv 0 ∧
  ∀ (x20 : Int) , Inv x20 → (IfP (decide (x20 < (l.length : Int))) (∃ e, idx l x20 = some e ∧
  IfP (((decide ((e.fFrom.length : Int) < 1)) || (decide ((e.fFrom.length : Int) > 5))) || (decide ((e.fTo.length : Int) > 5))) (Q 1) (∃ J : Bool → Prop, ((∀ x_ ∈ e.fFrom, (fun _ => True) x_) ∧
  IfP (e.fFrom.any (offB n)) (J true) ((∀ x_ ∈ e.fTo, (fun _ => True) x_) ∧
  J (e.fTo.any (offB n)))) ∧
  (∀ (x41 : Bool), J x41 → IfP x41 (Q 2) (IfP (!(beforeB e.fTo e.fFrom)) (Q 3) ((Inv (wr (x20 + 1)) ∧ mu (wr (x20 + 1)) < mu x20)))))) (Q 0)))))
theorem rewCheck_walk (n : Int) (l : (List ApiSwap)) (Q : Int → Prop) (h : rewCheck_vc n l Q) : Ct 87 [.sv (.one (I n)), .sv (.one (LS ApiSwap.ty l))] [] Q (fun (r : Int) => .sv (.one (I r))) := by
  have ht := tab_ok
  refine Ct.body Try.func87 rfl rfl rfl rfl (fun c hn => ?_)
  unfold rewCheck_vc at h
  refine En.lenL 1 (by rfl) (fun hl => ?_)
  replace h := h hl
  clear hl
  refine En.seq ?_
  refine En.region ?_
  refine WL.run ht hn 2 ⟨[(1, .sv (.one (LS ApiSwap.ty l))), (2, .sv (.one (.ptr 0 0)))], [.box [I n] 3 false]⟩ (by kernel_rfl) ?_
  refine WL.nil ?_
  refine En.seq ?_
  refine En.seq ?_
  refine En.region ?_
  refine WL.run ht hn 3 ⟨[(1, .sv (.one (LS ApiSwap.ty l))), (2, .sv (.one (.ptr 0 0))), (10, .sv (.one (B (decide (n < 1)))))], [.box [I n] 3 false]⟩ (by kernel_rfl) ?_
  refine WL.thru ⟨[(1, .sv (.one (LS ApiSwap.ty l))), (2, .sv (.one (.ptr 0 0))), (13, .sv (.one (B ((decide (n < 1)) || (decide (n > 4))))))], [.box [I n] 3 false]⟩ ?_ ?_
  · refine splitB (decide (n < 1)) (fun hb0 => ?_) (fun hb0 => ?_)
    · refine WL.setB 10 hb0 (by kernel_rfl) ?_
      refine WL.run ht hn 3 ⟨[(1, .sv (.one (LS ApiSwap.ty l))), (2, .sv (.one (.ptr 0 0))), (13, .sv (.one (B true)))], [.box [I n] 3 false]⟩ (by kernel_rfl) ?_
      exact WL.nil (sub_ok (by simp only [hb0]; kernel_rfl))
    · refine WL.setB 10 hb0 (by kernel_rfl) ?_
      refine WL.run ht hn 3 ⟨[(1, .sv (.one (LS ApiSwap.ty l))), (2, .sv (.one (.ptr 0 0))), (13, .sv (.one (B (decide (n > 4)))))], [.box [I n] 3 false]⟩ (by kernel_rfl) ?_
      exact WL.nil (sub_ok (by simp only [hb0]; kernel_rfl))
  · refine En.cond (b := ((decide (n < 1)) || (decide (n > 4)))) (by kernel_rfl) (fun hb => ?_) (fun hb => ?_)
    · replace h := h.1 hb
      refine En.seq ?_
      refine En.region ?_
      refine WL.run ht hn 1 ⟨[(4, .sv (.one (I 2)))], [.gone]⟩ (by kernel_rfl) ?_
      refine WL.nil ?_
      refine En.ret ?_
      exact En.back ht 2 h (by kernel_rfl) rfl
    · replace h := h.2 hb
      refine En.skip ?_
      refine En.seq ?_
      refine En.seq ?_
      refine En.region ?_
      refine WL.run ht hn 3 ⟨[(1, .sv (.one (LS ApiSwap.ty l))), (2, .sv (.one (.ptr 0 0))), (16, .sv (.one (B (decide ((l.length : Int) > 8)))))], [.box [I n] 3 false]⟩ (by kernel_rfl) ?_
      refine WL.nil ?_
      refine En.cond (b := (decide ((l.length : Int) > 8))) (by kernel_rfl) (fun hb => ?_) (fun hb => ?_)
      · replace h := h.1 hb
        refine En.seq ?_
        refine En.region ?_
        refine WL.run ht hn 1 ⟨[(4, .sv (.one (I 1)))], [.gone]⟩ (by kernel_rfl) ?_
        refine WL.nil ?_
        refine En.ret ?_
        exact En.back ht 1 h (by kernel_rfl) rfl
      · replace h := h.2 hb
        refine En.skip ?_
        refine En.seq ?_
        refine En.region ?_
        refine WL.run ht hn 2 ⟨[(1, .sv (.one (LS ApiSwap.ty l))), (5, .sv (.one (.fn 140 [0])))], [.box [I n] 3 false]⟩ (by kernel_rfl) ?_
        refine WL.nil ?_
        refine En.seq ?_
        refine En.seq ?_
        refine En.region ?_
        refine WL.run ht hn 3 ⟨[(5, .sv (.one (.fn 140 [0]))), (18, .sv (.one (LS ApiSwap.ty l))), (19, .sv (.one (I (l.length : Int)))), (20, .sv (.one (I 0)))], [.box [I n] 3 false]⟩ (by kernel_rfl) ?_
        refine WL.nil ?_
        refine En.block ?_
        obtain ⟨Inv, mu, h0, hI⟩ := h
        refine En.loop (σ := Int) (fun zz => Inv zz) (fun zz => mu zz) (fun zz => ⟨[(5, .sv (.one (.fn 140 [0]))), (18, .sv (.one (LS ApiSwap.ty l))), (19, .sv (.one (I (l.length : Int)))), (20, .sv (.one (I zz)))], [.box [I n] 3 false]⟩) 0 h0 (sub_ok (by kernel_rfl)) ?_
        intro x20 h
        replace h := hI _ h
        show En c ⟨[(5, .sv (.one (.fn 140 [0]))), (18, .sv (.one (LS ApiSwap.ty l))), (19, .sv (.one (I (l.length : Int)))), (20, .sv (.one (I x20)))], [.box [I n] 3 false]⟩ _
        refine En.seq ?_
        refine En.region ?_
        refine WL.run ht hn 1 ⟨[(5, .sv (.one (.fn 140 [0]))), (18, .sv (.one (LS ApiSwap.ty l))), (19, .sv (.one (I (l.length : Int)))), (20, .sv (.one (I x20))), (21, .sv (.one (B (decide (x20 < (l.length : Int))))))], [.box [I n] 3 false]⟩ (by kernel_rfl) ?_
        refine WL.nil ?_
        refine En.seq ?_
        refine En.cond (b := (decide (x20 < (l.length : Int)))) (by kernel_rfl) (fun hb => ?_) (fun hb => ?_)
        · replace h := h.1 hb
          refine En.skip ?_
          refine En.seq ?_
          refine En.block ?_
          refine En.seq ?_
          refine En.region ?_
          obtain ⟨e, he, h⟩ := h
          refine WL.val hn (by rfl) (val_index (T := ApiSwap.ty) (l := l) (i := x20) ht rfl (by rfl) (by rfl) (by rfl) (by rfl) (by rfl) (by rfl) he) (by rfl) ?_
          refine WL.val hn (by rfl) (val_load (s := .agg [LS intT e.fFrom, LS intT e.fTo]) ht rfl (by rfl) (by rfl) (by rfl) (by rfl) (by rfl)) (by rfl) ?_
          refine WL.run ht hn 2 ⟨[(5, .sv (.one (.fn 140 [0]))), (7, .sv (.one (.ptr 1 0))), (18, .sv (.one (LS ApiSwap.ty l))), (19, .sv (.one (I (l.length : Int)))), (20, .sv (.one (I x20)))], [.box [I n] 3 false, .box [LS intT e.fFrom, LS intT e.fTo] 101 false]⟩ (by kernel_rfl) ?_
          refine WL.nil ?_
          refine En.block ?_
          refine En.seq ?_
          refine En.region ?_
          refine WL.run ht hn 5 ⟨[(5, .sv (.one (.fn 140 [0]))), (7, .sv (.one (.ptr 1 0))), (18, .sv (.one (LS ApiSwap.ty l))), (19, .sv (.one (I (l.length : Int)))), (20, .sv (.one (I x20))), (29, .sv (.one (B (decide ((e.fFrom.length : Int) < 1)))))], [.box [I n] 3 false, .box [LS intT e.fFrom, LS intT e.fTo] 101 false]⟩ (by kernel_rfl) ?_
          refine WL.thru ⟨[(5, .sv (.one (.fn 140 [0]))), (7, .sv (.one (.ptr 1 0))), (18, .sv (.one (LS ApiSwap.ty l))), (19, .sv (.one (I (l.length : Int)))), (20, .sv (.one (I x20))), (24, .sv (.one (B (((decide ((e.fFrom.length : Int) < 1)) || (decide ((e.fFrom.length : Int) > 5))) || (decide ((e.fTo.length : Int) > 5))))))], [.box [I n] 3 false, .box [LS intT e.fFrom, LS intT e.fTo] 101 false]⟩ ?_ ?_
          · refine splitB (decide ((e.fFrom.length : Int) < 1)) (fun hb0 => ?_) (fun hb0 => ?_)
            · refine WL.setB 29 hb0 (by kernel_rfl) ?_
              refine WL.run ht hn 12 ⟨[(5, .sv (.one (.fn 140 [0]))), (7, .sv (.one (.ptr 1 0))), (18, .sv (.one (LS ApiSwap.ty l))), (19, .sv (.one (I (l.length : Int)))), (20, .sv (.one (I x20))), (24, .sv (.one (B true)))], [.box [I n] 3 false, .box [LS intT e.fFrom, LS intT e.fTo] 101 false]⟩ (by kernel_rfl) ?_
              exact WL.nil (sub_ok (by simp only [hb0]; kernel_rfl))
            · refine WL.setB 29 hb0 (by kernel_rfl) ?_
              refine WL.run ht hn 6 ⟨[(5, .sv (.one (.fn 140 [0]))), (7, .sv (.one (.ptr 1 0))), (18, .sv (.one (LS ApiSwap.ty l))), (19, .sv (.one (I (l.length : Int)))), (20, .sv (.one (I x20))), (35, .sv (.one (B (decide ((e.fFrom.length : Int) > 5)))))], [.box [I n] 3 false, .box [LS intT e.fFrom, LS intT e.fTo] 101 false]⟩ (by kernel_rfl) ?_
              refine splitB (decide ((e.fFrom.length : Int) > 5)) (fun hb1 => ?_) (fun hb1 => ?_)
              · refine WL.setB 35 hb1 (by kernel_rfl) ?_
                refine WL.run ht hn 6 ⟨[(5, .sv (.one (.fn 140 [0]))), (7, .sv (.one (.ptr 1 0))), (18, .sv (.one (LS ApiSwap.ty l))), (19, .sv (.one (I (l.length : Int)))), (20, .sv (.one (I x20))), (24, .sv (.one (B true)))], [.box [I n] 3 false, .box [LS intT e.fFrom, LS intT e.fTo] 101 false]⟩ (by kernel_rfl) ?_
                exact WL.nil (sub_ok (by simp only [hb0, hb1]; kernel_rfl))
              · refine WL.setB 35 hb1 (by kernel_rfl) ?_
                refine WL.run ht hn 6 ⟨[(5, .sv (.one (.fn 140 [0]))), (7, .sv (.one (.ptr 1 0))), (18, .sv (.one (LS ApiSwap.ty l))), (19, .sv (.one (I (l.length : Int)))), (20, .sv (.one (I x20))), (24, .sv (.one (B (decide ((e.fTo.length : Int) > 5)))))], [.box [I n] 3 false, .box [LS intT e.fFrom, LS intT e.fTo] 101 false]⟩ (by kernel_rfl) ?_
                exact WL.nil (sub_ok (by simp only [hb0, hb1]; kernel_rfl))
          · refine En.cond (b := (((decide ((e.fFrom.length : Int) < 1)) || (decide ((e.fFrom.length : Int) > 5))) || (decide ((e.fTo.length : Int) > 5)))) (by kernel_rfl) (fun hb => ?_) (fun hb => ?_)
            · replace h := h.1 hb
              refine En.seq ?_
              refine En.region ?_
              refine WL.run ht hn 1 ⟨[(4, .sv (.one (I 1)))], [.gone, .gone]⟩ (by kernel_rfl) ?_
              refine WL.nil ?_
              refine En.ret ?_
              exact En.back ht 1 h (by kernel_rfl) rfl
            · replace h := h.2 hb
              obtain ⟨J, h, hJ⟩ := h
              refine En.seqJ (σ := Bool) (fun zz => J zz) (fun zz => ⟨[(5, .sv (.one (.fn 140 [0]))), (7, .sv (.one (.ptr 1 0))), (18, .sv (.one (LS ApiSwap.ty l))), (19, .sv (.one (I (l.length : Int)))), (20, .sv (.one (I x20))), (41, .sv (.one (B zz)))], [.box [I n] 3 false, .box [LS intT e.fFrom, LS intT e.fTo] 101 false]⟩) ?_ ?_
              · refine En.region ?_
                refine WL.run ht hn 3 ⟨[(5, .sv (.one (.fn 140 [0]))), (7, .sv (.one (.ptr 1 0))), (18, .sv (.one (LS ApiSwap.ty l))), (19, .sv (.one (I (l.length : Int)))), (20, .sv (.one (I x20))), (43, .sv (.one (LS intT e.fFrom))), (44, .sv (.one (.fn 140 [0])))], [.box [I n] 3 false, .box [LS intT e.fFrom, LS intT e.fTo] 101 false]⟩ (by kernel_rfl) ?_
                have hp := h.1
                replace h := h.2
                refine WL.mt0 (K := []) (p := none) hn (by rfl) (mt_lendF [0] (by rfl) (by rfl) (mt_ghost 44 (.sv (.one (.rd (fvR (fun (x_ : Int) => [.sv (.one (I x_))]) (fun (r : Bool) => .sv (.one (B r))) (fun _ => True) (offB n))))) (by rfl) (fv_of (M := [.box [I n] 3 true]) (caps := [0]) (fun x_ _ => rewC1_ct x_ n) en140 rfl (by kernel_rfl) (by rfl) (fun _ => rfl)) (mt_call (anyInt_ct e.fFrom (fun _ => True) (offB n) hp) en79 (caps := []) [] rfl (by rfl) (by kernel_rfl) (by kernel_rfl) (by rfl) (by rfl) (by rfl)))) (by rfl) (by rfl) (by rfl) ?_
                refine WL.run ht hn 1 ⟨[(5, .sv (.one (.fn 140 [0]))), (7, .sv (.one (.ptr 1 0))), (18, .sv (.one (LS ApiSwap.ty l))), (19, .sv (.one (I (l.length : Int)))), (20, .sv (.one (I x20))), (46, .sv (.one (B (e.fFrom.any (offB n)))))], [.box [I n] 3 false, .box [LS intT e.fFrom, LS intT e.fTo] 101 false]⟩ (by kernel_rfl) ?_
                refine splitB (e.fFrom.any (offB n)) (fun hb => ?_) (fun hb => ?_)
                · replace h := h.1 hb
                  refine WL.setB 46 hb (by kernel_rfl) ?_
                  refine WL.run ht hn 6 ⟨[(5, .sv (.one (.fn 140 [0]))), (7, .sv (.one (.ptr 1 0))), (18, .sv (.one (LS ApiSwap.ty l))), (19, .sv (.one (I (l.length : Int)))), (20, .sv (.one (I x20))), (41, .sv (.one (B true)))], [.box [I n] 3 false, .box [LS intT e.fFrom, LS intT e.fTo] 101 false]⟩ (by kernel_rfl) ?_
                  refine WL.nil ?_
                  exact En.at (I := fun zz => J zz) (T := fun zz => ⟨[(5, .sv (.one (.fn 140 [0]))), (7, .sv (.one (.ptr 1 0))), (18, .sv (.one (LS ApiSwap.ty l))), (19, .sv (.one (I (l.length : Int)))), (20, .sv (.one (I x20))), (41, .sv (.one (B zz)))], [.box [I n] 3 false, .box [LS intT e.fFrom, LS intT e.fTo] 101 false]⟩) true h (by kernel_rfl)
                · replace h := h.2 hb
                  refine WL.setB 46 hb (by kernel_rfl) ?_
                  refine WL.run ht hn 3 ⟨[(5, .sv (.one (.fn 140 [0]))), (7, .sv (.one (.ptr 1 0))), (18, .sv (.one (LS ApiSwap.ty l))), (19, .sv (.one (I (l.length : Int)))), (20, .sv (.one (I x20))), (46, .sv (.one (B false))), (48, .sv (.one (LS intT e.fTo))), (49, .sv (.one (.fn 140 [0])))], [.box [I n] 3 false, .box [LS intT e.fFrom, LS intT e.fTo] 101 false]⟩ (by kernel_rfl) ?_
                  have hp := h.1
                  replace h := h.2
                  refine WL.mt0 (K := []) (p := none) hn (by rfl) (mt_lendF [0] (by rfl) (by rfl) (mt_ghost 49 (.sv (.one (.rd (fvR (fun (x_ : Int) => [.sv (.one (I x_))]) (fun (r : Bool) => .sv (.one (B r))) (fun _ => True) (offB n))))) (by rfl) (fv_of (M := [.box [I n] 3 true]) (caps := [0]) (fun x_ _ => rewC1_ct x_ n) en140 rfl (by kernel_rfl) (by rfl) (fun _ => rfl)) (mt_call (anyInt_ct e.fTo (fun _ => True) (offB n) hp) en79 (caps := []) [] rfl (by rfl) (by kernel_rfl) (by kernel_rfl) (by rfl) (by rfl) (by rfl)))) (by rfl) (by rfl) (by rfl) ?_
                  refine WL.run ht hn 2 ⟨[(5, .sv (.one (.fn 140 [0]))), (7, .sv (.one (.ptr 1 0))), (18, .sv (.one (LS ApiSwap.ty l))), (19, .sv (.one (I (l.length : Int)))), (20, .sv (.one (I x20))), (41, .sv (.one (B (e.fTo.any (offB n)))))], [.box [I n] 3 false, .box [LS intT e.fFrom, LS intT e.fTo] 101 false]⟩ (by kernel_rfl) ?_
                  refine WL.nil ?_
                  exact En.at (I := fun zz => J zz) (T := fun zz => ⟨[(5, .sv (.one (.fn 140 [0]))), (7, .sv (.one (.ptr 1 0))), (18, .sv (.one (LS ApiSwap.ty l))), (19, .sv (.one (I (l.length : Int)))), (20, .sv (.one (I x20))), (41, .sv (.one (B zz)))], [.box [I n] 3 false, .box [LS intT e.fFrom, LS intT e.fTo] 101 false]⟩) (e.fTo.any (offB n)) h (by kernel_rfl)
              · intro x41 h
                replace h := hJ _ h
                show En c ⟨[(5, .sv (.one (.fn 140 [0]))), (7, .sv (.one (.ptr 1 0))), (18, .sv (.one (LS ApiSwap.ty l))), (19, .sv (.one (I (l.length : Int)))), (20, .sv (.one (I x20))), (41, .sv (.one (B x41)))], [.box [I n] 3 false, .box [LS intT e.fFrom, LS intT e.fTo] 101 false]⟩ _
                refine En.cond (b := x41) (by kernel_rfl) (fun hb => ?_) (fun hb => ?_)
                · replace h := h.1 hb
                  refine En.seq ?_
                  refine En.region ?_
                  refine WL.run ht hn 1 ⟨[(4, .sv (.one (I 2)))], [.gone, .gone]⟩ (by kernel_rfl) ?_
                  refine WL.nil ?_
                  refine En.ret ?_
                  exact En.back ht 2 h (by kernel_rfl) rfl
                · replace h := h.2 hb
                  refine En.seq ?_
                  refine En.region ?_
                  refine WL.run ht hn 4 ⟨[(5, .sv (.one (.fn 140 [0]))), (18, .sv (.one (LS ApiSwap.ty l))), (19, .sv (.one (I (l.length : Int)))), (20, .sv (.one (I x20))), (54, .sv (.one (LS intT e.fTo))), (56, .sv (.one (LS intT e.fFrom)))], [.box [I n] 3 false, .gone]⟩ (by kernel_rfl) ?_
                  refine WL.mt0 (K := []) (p := none) hn (by rfl) (mt_call (rewBefore_ct e.fTo e.fFrom) en141 (caps := []) [] rfl (by rfl) (by kernel_rfl) (by kernel_rfl) (by rfl) (by rfl) (by rfl)) (by rfl) (by rfl) (by rfl) ?_
                  refine WL.run ht hn 2 ⟨[(5, .sv (.one (.fn 140 [0]))), (18, .sv (.one (LS ApiSwap.ty l))), (19, .sv (.one (I (l.length : Int)))), (20, .sv (.one (I x20))), (52, .sv (.one (B (!(beforeB e.fTo e.fFrom)))))], [.box [I n] 3 false, .gone]⟩ (by kernel_rfl) ?_
                  refine WL.nil ?_
                  refine En.cond (b := (!(beforeB e.fTo e.fFrom))) (by kernel_rfl) (fun hb => ?_) (fun hb => ?_)
                  · replace h := h.1 hb
                    refine En.seq ?_
                    refine En.region ?_
                    refine WL.run ht hn 1 ⟨[(4, .sv (.one (I 3)))], [.gone, .gone]⟩ (by kernel_rfl) ?_
                    refine WL.nil ?_
                    refine En.ret ?_
                    exact En.back ht 3 h (by kernel_rfl) rfl
                  · replace h := h.2 hb
                    refine En.skip ?_
                    refine En.region ?_
                    refine WL.run ht hn 2 ⟨[(5, .sv (.one (.fn 140 [0]))), (18, .sv (.one (LS ApiSwap.ty l))), (19, .sv (.one (I (l.length : Int)))), (20, .sv (.one (I (wr (x20 + 1)))))], [.box [I n] 3 false, .gone]⟩ (by kernel_rfl) ?_
                    refine WL.nil ?_
                    exact En.at (I := fun zz => Inv zz ∧ mu zz < mu x20) (T := fun zz => ⟨[(5, .sv (.one (.fn 140 [0]))), (18, .sv (.one (LS ApiSwap.ty l))), (19, .sv (.one (I (l.length : Int)))), (20, .sv (.one (I zz)))], [.box [I n] 3 false]⟩) (wr (x20 + 1)) h (by kernel_rfl)
        · replace h := h.2 hb
          refine En.exit rfl ?_
          refine En.seq ?_
          refine En.region ?_
          refine WL.run ht hn 1 ⟨[(4, .sv (.one (I 0)))], [.gone]⟩ (by kernel_rfl) ?_
          refine WL.nil ?_
          refine En.ret ?_
          exact En.back ht 0 h (by kernel_rfl) rfl
theorem en87 : ∀ args w, (callFunc 87 args).run Try.prog w = .ok (.enter 87 args) w := enters_of Try.func87 (by kernel_rfl) rfl
theorem rewCheck_ct (n : Int) (l : (List ApiSwap))  : Ct 87 [.sv (.one (I n)), .sv (.one (LS ApiSwap.ty l))] [] (fun (_ : Unit) => True) (fun _ => .sv (.one (I (rewErr n l)))) := by
  refine (rewCheck_walk n l (fun res_ => res_ = (rewErr n l)) ?_).fun
  intro _
  refine ⟨fun h1 => ?_, fun h1 => ⟨fun h2 => ?_, fun h2 => ?_⟩⟩
  · show _ = rewErr n l
    unfold rewErr; rw [if_pos h1]
  · show _ = rewErr n l
    unfold rewErr; rw [if_neg (by rw [h1]; decide), if_pos h2]
  have hE : rewErr n l = firstE n l := by
    unfold rewErr; rw [if_neg (by rw [h1]; decide), if_neg (by rw [h2]; decide)]
  refine ⟨fun i => ∃ k : Nat, i = k ∧ k ≤ l.length ∧ firstE n l = firstE n (l.drop k), fun i => l.length - i.toNat, ⟨0, rfl, Nat.zero_le _, rfl⟩, ?_⟩
  rintro i ⟨k, rfl, hk, ht⟩
  refine ⟨fun hb => ?_, fun hb => ?_⟩
  · have hlt := dlt hb
    rw [firstE_drop hlt] at ht
    refine ⟨_, idx_at hlt, fun h3 => ?_, fun h3 => ⟨fun b => b = (l[k].fFrom.any (offB n) || l[k].fTo.any (offB n)), ⟨fun _ _ => trivial, fun h => ?_, fun h => ⟨fun _ _ => trivial, ?_⟩⟩, ?_⟩⟩
    · show 1 = rewErr n l
      have : rewBad n l[k] = 1 := by unfold rewBad; rw [if_pos h3]
      rw [hE, ht, this]; rfl
    · show true = _
      rw [h]; rfl
    · show _ = _
      rw [h]; rfl
    rintro b rfl
    refine ⟨fun h4 => ?_, fun h4 => ⟨fun h5 => ?_, fun h5 => ⟨⟨k + 1, wsucc (by omega), hlt, ?_⟩, mu_up hlt (by omega)⟩⟩⟩
    · show 2 = rewErr n l
      have : rewBad n l[k] = 2 := by unfold rewBad; rw [if_neg (by rw [h3]; decide), if_pos h4]
      rw [hE, ht, this]; rfl
    · show 3 = rewErr n l
      have : rewBad n l[k] = 3 := by unfold rewBad; rw [if_neg (by rw [h3]; decide), if_neg (by rw [h4]; decide), if_pos h5]
      rw [hE, ht, this]; rfl
    · have : rewBad n l[k] = 0 := by unfold rewBad; rw [if_neg (by rw [h3]; decide), if_neg (by rw [h4]; decide), if_neg (by rw [h5]; decide)]
      rw [this] at ht
      exact ht
  · have hge := dge hb
    show 0 = rewErr n l
    rw [hE, ht, List.drop_eq_nil_of_le hge]
    rfl
def rewStands_vc (w : (List Int)) (v : (List Int)) (at_ : Int) (Q : Bool → Prop) : Prop :=
  w.length ≤ 9223372036854775807 →
  v.length ≤ 9223372036854775807 →
  (∃ J : Bool → Prop, (IfP (decide ((wr (at_ + (v.length : Int))) ≤ (w.length : Int))) (partOk at_ (wr (at_ + (v.length : Int))) w.length ∧
  J (decide (((w.take ((wr (at_ + (v.length : Int))) : Int).toNat).drop (at_ : Int).toNat) = v))) (J false)) ∧
  (∀ (x6 : Bool), J x6 → Q x6))
theorem rewStands_walk (w : (List Int)) (v : (List Int)) (at_ : Int) (Q : Bool → Prop) (h : rewStands_vc w v at_ Q) : Ct 142 [.sv (.one (LS intT w)), .sv (.one (LS intT v)), .sv (.one (I at_))] [] Q (fun (r : Bool) => .sv (.one (B r))) := by
  have ht := tab_ok
  refine Ct.body Try.func142 rfl rfl rfl rfl (fun c hn => ?_)
  unfold rewStands_vc at h
  refine En.lenL 0 (by rfl) (fun hl => ?_)
  replace h := h hl
  clear hl
  refine En.lenL 1 (by rfl) (fun hl => ?_)
  replace h := h hl
  clear hl
  refine En.seq ?_
  refine En.region ?_
  refine WL.run ht hn 1 ⟨[(0, .sv (.one (LS intT w))), (1, .sv (.one (LS intT v))), (2, .sv (.one (I at_)))], []⟩ (by kernel_rfl) ?_
  refine WL.nil ?_
  obtain ⟨J, h, hJ⟩ := h
  refine En.seqJ (σ := Bool) (fun zz => J zz) (fun zz => ⟨[(6, .sv (.one (B zz)))], []⟩) ?_ ?_
  · refine En.region ?_
    refine WL.run ht hn 8 ⟨[(0, .sv (.one (LS intT w))), (1, .sv (.one (LS intT v))), (2, .sv (.one (I at_))), (14, .sv (.one (B (decide ((wr (at_ + (v.length : Int))) ≤ (w.length : Int))))))], []⟩ (by kernel_rfl) ?_
    refine splitB (decide ((wr (at_ + (v.length : Int))) ≤ (w.length : Int))) (fun hb => ?_) (fun hb => ?_)
    · replace h := h.1 hb
      refine WL.setB 14 hb (by kernel_rfl) ?_
      refine WL.run ht hn 6 ⟨[(1, .sv (.one (LS intT v))), (14, .sv (.one (B true))), (15, .sv (.one (LS intT w))), (16, .sv (.one (I at_))), (20, .sv (.one (I (wr (at_ + (v.length : Int))))))], []⟩ (by kernel_rfl) ?_
      have hp := h.1
      replace h := h.2
      refine WL.val hn (by rfl) (val_slice (T := intT) (l := w) (lv := at_) (hv := (wr (at_ + (v.length : Int)))) ht rfl (by rfl) (by rfl) (by rfl) (by rfl) (by rfl) (by rfl) (by rfl) hp) (by rfl) ?_
      refine WL.run ht hn 1 ⟨[(14, .sv (.one (B true))), (21, .sv (.one (LS intT ((w.take ((wr (at_ + (v.length : Int))) : Int).toNat).drop (at_ : Int).toNat)))), (22, .sv (.one (LS intT v)))], []⟩ (by kernel_rfl) ?_
      refine WL.mt0 (K := []) (p := none) hn (by rfl) (mt_call (equalI_ct ((w.take ((wr (at_ + (v.length : Int))) : Int).toNat).drop (at_ : Int).toNat) v) en92 (caps := []) [] rfl (by rfl) (by kernel_rfl) (by kernel_rfl) (by rfl) (by rfl) (by rfl)) (by rfl) (by rfl) (by rfl) ?_
      refine WL.run ht hn 2 ⟨[(6, .sv (.one (B (decide (((w.take ((wr (at_ + (v.length : Int))) : Int).toNat).drop (at_ : Int).toNat) = v)))))], []⟩ (by kernel_rfl) ?_
      refine WL.nil ?_
      exact En.at (I := fun zz => J zz) (T := fun zz => ⟨[(6, .sv (.one (B zz)))], []⟩) (decide (((w.take ((wr (at_ + (v.length : Int))) : Int).toNat).drop (at_ : Int).toNat) = v)) h (by kernel_rfl)
    · replace h := h.2 hb
      refine WL.setB 14 hb (by kernel_rfl) ?_
      refine WL.run ht hn 11 ⟨[(6, .sv (.one (B false)))], []⟩ (by kernel_rfl) ?_
      refine WL.nil ?_
      exact En.at (I := fun zz => J zz) (T := fun zz => ⟨[(6, .sv (.one (B zz)))], []⟩) false h (by kernel_rfl)
  · intro x6 h
    replace h := hJ _ h
    show En c ⟨[(6, .sv (.one (B x6)))], []⟩ _
    refine En.ret ?_
    exact En.back ht x6 h (by kernel_rfl) rfl
theorem en142 : ∀ args w, (callFunc 142 args).run Try.prog w = .ok (.enter 142 args) w := enters_of Try.func142 (by kernel_rfl) rfl
def StandPre (w v : List Int) (k : Int) : Prop := 0 ≤ k ∧ k ≤ 1000 ∧ v.length ≤ 1000
def standsI (w v : List Int) (k : Int) : Bool := standsB w v k.toNat
theorem rewStands_ct (w : (List Int)) (v : (List Int)) (at_ : Int) (hp : StandPre w v at_)  : Ct 142 [.sv (.one (LS intT w)), .sv (.one (LS intT v)), .sv (.one (I at_))] [] (fun (_ : Unit) => True) (fun _ => .sv (.one (B (standsI w v at_)))) := by
  refine (rewStands_walk w v at_ (fun res_ => res_ = (standsI w v at_)) ?_).fun
  intro _ _
  obtain ⟨h0, h1, h2⟩ := hp
  obtain ⟨k, rfl⟩ := Int.eq_ofNat_of_zero_le h0
  have hw : wr ((k : Int) + (v.length : Int)) = ((k + v.length : Nat) : Int) := wr_in (by omega) (by omega)
  rw [hw]
  refine ⟨fun b => b = standsI w v (k : Int), ⟨fun h => ⟨⟨by omega, by omega, by have := of_decide_eq_true h; omega⟩, ?_⟩, fun h => ?_⟩, fun b hb => hb⟩
  · have h := of_decide_eq_true h
    show _ = standsB w v k
    unfold standsB
    rw [decide_eq_true (show k + v.length ≤ w.length by omega), Bool.true_and, Int.toNat_natCast, Int.toNat_natCast, List.drop_take, Nat.add_sub_cancel_left]
  · have h := of_decide_eq_false h
    show false = standsB w v k
    unfold standsB
    rw [decide_eq_false (show ¬ k + v.length ≤ w.length by omega), Bool.false_and]
def rewSwapped_vc (w : (List Int)) (s : ApiSwap) (at_ : Int) (Q : (List Int) → Prop) : Prop :=
  w.length ≤ 9223372036854775807 →
  s.fFrom.length ≤ 9223372036854775807 →
  s.fTo.length ≤ 9223372036854775807 →
  (partOk 0 at_ w.length ∧
  partOk (wr (at_ + (s.fFrom.length : Int))) (w.length : Int) w.length ∧
  (([((w.take (at_ : Int).toNat).drop (0 : Int).toNat), s.fTo, ((w.take ((w.length : Int) : Int).toNat).drop ((wr (at_ + (s.fFrom.length : Int))) : Int).toNat)] : (List (List Int))).length ≤ 1000000 ∧ ([((w.take (at_ : Int).toNat).drop (0 : Int).toNat), s.fTo, ((w.take ((w.length : Int) : Int).toNat).drop ((wr (at_ + (s.fFrom.length : Int))) : Int).toNat)] : (List (List Int))).flatten.length ≤ 1000000) ∧
  Q (([((w.take (at_ : Int).toNat).drop (0 : Int).toNat), s.fTo, ((w.take ((w.length : Int) : Int).toNat).drop ((wr (at_ + (s.fFrom.length : Int))) : Int).toNat)] : (List (List Int))).flatten))
theorem rewSwapped_walk (w : (List Int)) (s : ApiSwap) (at_ : Int) (Q : (List Int) → Prop) (h : rewSwapped_vc w s at_ Q) : Ct 91 [.sv (.one (LS intT w)), .sv (.agg [LS intT s.fFrom, LS intT s.fTo]), .sv (.one (I at_))] [] Q (fun (r : (List Int)) => .sv (.one (LS intT r))) := by
  have ht := tab_ok
  refine Ct.body Try.func91 rfl rfl rfl rfl (fun c hn => ?_)
  unfold rewSwapped_vc at h
  refine En.lenL 0 (by rfl) (fun hl => ?_)
  replace h := h hl
  clear hl
  refine En.lenA 1 0 (by rfl) (by rfl) (fun hl => ?_)
  replace h := h hl
  clear hl
  refine En.lenA 1 1 (by rfl) (by rfl) (fun hl => ?_)
  replace h := h hl
  clear hl
  refine En.seq ?_
  refine En.region ?_
  refine WL.run ht hn 2 ⟨[(0, .sv (.one (LS intT w))), (2, .sv (.one (I at_))), (4, .sv (.one (.ptr 0 0)))], [.box [LS intT s.fFrom, LS intT s.fTo] 101 false]⟩ (by kernel_rfl) ?_
  refine WL.nil ?_
  refine En.seq ?_
  have hp_2 := h.1
  replace h := h.2
  have hp_3 := h.1
  replace h := h.2
  have hp_4 := h.1
  replace h := h.2
  refine En.regionA ⟨[(0, .sv (.one (LS intT w))), (2, .sv (.one (I at_))), (4, .sv (.one (.ptr 0 0)))], [.sv (.one (LS intT w)), .sv (.one (I at_)), .sv (.one (LS intT ((w.take (at_ : Int).toNat).drop (0 : Int).toNat))), .sv (.one (.ptr 0 1)), .sv (.one (LS intT s.fTo)), .sv (.one (LS intT w)), .sv (.one (I at_)), .sv (.one (.ptr 0 0)), .sv (.one (LS intT s.fFrom)), .sv (.one (I (s.fFrom.length : Int))), .sv (.one (I (wr (at_ + (s.fFrom.length : Int))))), .sv (.one (LS intT ((w.take ((w.length : Int) : Int).toNat).drop ((wr (at_ + (s.fFrom.length : Int))) : Int).toNat))), .sv (.one (.own 1)), .sv (.one (.own 2)), .sv (.one (.own 2))], [⟨.box [LS intT s.fFrom, LS intT s.fTo] 101 false, none, none, none⟩, ⟨rowI 22 (lsT intT) ([((w.take (at_ : Int).toNat).drop (0 : Int).toNat), s.fTo, ((w.take ((w.length : Int) : Int).toNat).drop ((wr (at_ + (s.fFrom.length : Int))) : Int).toNat)] : (List (List Int))), some 12, none, none⟩, ⟨rowI 3 intT (([((w.take (at_ : Int).toNat).drop (0 : Int).toNat), s.fTo, ((w.take ((w.length : Int) : Int).toNat).drop ((wr (at_ + (s.fFrom.length : Int))) : Int).toNat)] : (List (List Int))).flatten), some 13, none, none⟩]⟩ ⟨[(6, .sv (.one (.own 2)))], [.gone, .gone, rowI 3 intT (([((w.take (at_ : Int).toNat).drop (0 : Int).toNat), s.fTo, ((w.take ((w.length : Int) : Int).toNat).drop ((wr (at_ + (s.fFrom.length : Int))) : Int).toNat)] : (List (List Int))).flatten)]⟩ (by kernel_rfl) hn (by kernel_rfl) (by rfl) (by kernel_rfl) ?_ (by kernel_rfl) ?_
  · exact ⟨.mt ⟨[(0, .sv (.one (LS intT w)))], []⟩ [] none (by kernel_rfl) (by rfl) (mt_ev ht (by kernel_rfl)) rfl rfl rfl rfl,
    .mt ⟨[(2, .sv (.one (I at_)))], []⟩ [] none (by kernel_rfl) (by rfl) (mt_ev ht (by kernel_rfl)) rfl rfl rfl rfl,
    .mt ⟨[(7, .sv (.one (LS intT w))), (8, .sv (.one (I at_)))], []⟩ [] none (by kernel_rfl) (by rfl) (mt_val (val_slice (T := intT) (l := w) (lv := 0) (hv := at_) ht rfl (by rfl) (by rfl) (by rfl) (by rfl) (by rfl) (by rfl) (by rfl) hp_2)) rfl rfl rfl rfl,
    .mt ⟨[(4, .sv (.one (.ptr 0 0)))], []⟩ [] none (by kernel_rfl) (by rfl) (mt_ev ht (by kernel_rfl)) rfl rfl rfl rfl,
    .mt ⟨[(10, .sv (.one (.ptr 0 1)))], [.box [LS intT s.fFrom, LS intT s.fTo] 101 false]⟩ [] none (by kernel_rfl) (by rfl) (mt_ev ht (by kernel_rfl)) rfl rfl rfl rfl,
    .mt ⟨[(0, .sv (.one (LS intT w)))], []⟩ [] none (by kernel_rfl) (by rfl) (mt_ev ht (by kernel_rfl)) rfl rfl rfl rfl,
    .mt ⟨[(2, .sv (.one (I at_)))], []⟩ [] none (by kernel_rfl) (by rfl) (mt_ev ht (by kernel_rfl)) rfl rfl rfl rfl,
    .mt ⟨[(4, .sv (.one (.ptr 0 0)))], []⟩ [] none (by kernel_rfl) (by rfl) (mt_ev ht (by kernel_rfl)) rfl rfl rfl rfl,
    .mt ⟨[(14, .sv (.one (.ptr 0 0)))], [.box [LS intT s.fFrom, LS intT s.fTo] 101 false]⟩ [] none (by kernel_rfl) (by rfl) (mt_ev ht (by kernel_rfl)) rfl rfl rfl rfl,
    .mt ⟨[(15, .sv (.one (LS intT s.fFrom)))], []⟩ [] none (by kernel_rfl) (by rfl) (mt_ev ht (by kernel_rfl)) rfl rfl rfl rfl,
    .mt ⟨[(13, .sv (.one (I at_))), (16, .sv (.one (I (s.fFrom.length : Int))))], []⟩ [] none (by kernel_rfl) (by rfl) (mt_ev ht (by kernel_rfl)) rfl rfl rfl rfl,
    .mt ⟨[(12, .sv (.one (LS intT w))), (17, .sv (.one (I (wr (at_ + (s.fFrom.length : Int))))))], []⟩ [] none (by kernel_rfl) (by rfl) (mt_val (val_slice (T := intT) (l := w) (lv := (wr (at_ + (s.fFrom.length : Int)))) (hv := (w.length : Int)) ht rfl (by rfl) (by rfl) (by rfl) (by rfl) (by rfl) (by rfl) (by rfl) hp_3)) rfl rfl rfl rfl,
    .mt ⟨[(9, .sv (.one (LS intT ((w.take (at_ : Int).toNat).drop (0 : Int).toNat)))), (11, .sv (.one (LS intT s.fTo))), (18, .sv (.one (LS intT ((w.take ((w.length : Int) : Int).toNat).drop ((wr (at_ + (s.fFrom.length : Int))) : Int).toNat))))], []⟩ [] (some 1) (by kernel_rfl) (by rfl) (mt_lit (T := (lsT intT)) ([((w.take (at_ : Int).toNat).drop (0 : Int).toNat), s.fTo, ((w.take ((w.length : Int) : Int).toNat).drop ((wr (at_ + (s.fFrom.length : Int))) : Int).toNat)] : (List (List Int))) (mt_bsl 1 (r := cellsOf (lsT intT) ([((w.take (at_ : Int).toNat).drop (0 : Int).toNat), s.fTo, ((w.take ((w.length : Int) : Int).toNat).drop ((wr (at_ + (s.fFrom.length : Int))) : Int).toNat)] : (List (List Int)))) ht rfl (by rfl) (by rfl) (by rfl) (by kernel_rfl) (by rfl)) (fun _ h => by cases h) (fun _ => rfl) (fun _ => rfl) (by rfl) (Nat.le_of_ble_eq_true rfl)) rfl rfl rfl rfl,
    .mt ⟨[(19, .sv (.one (.own 1)))], [.gone, rowI 22 (lsT intT) ([((w.take (at_ : Int).toNat).drop (0 : Int).toNat), s.fTo, ((w.take ((w.length : Int) : Int).toNat).drop ((wr (at_ + (s.fFrom.length : Int))) : Int).toNat)] : (List (List Int)))]⟩ [] (some 2) (by kernel_rfl) (by rfl) (mt_lendI (T := (lsT intT)) (l := ([((w.take (at_ : Int).toNat).drop (0 : Int).toNat), s.fTo, ((w.take ((w.length : Int) : Int).toNat).drop ((wr (at_ + (s.fFrom.length : Int))) : Int).toNat)] : (List (List Int)))) 1 (by rfl) (plain_row fun _ => rfl) (mt_callI 2 (concatI_ct ([((w.take (at_ : Int).toNat).drop (0 : Int).toNat), s.fTo, ((w.take ((w.length : Int) : Int).toNat).drop ((wr (at_ + (s.fFrom.length : Int))) : Int).toNat)] : (List (List Int))) hp_4) en57 (caps := []) [] rfl rfl (by rfl) (by kernel_rfl) (by kernel_rfl) (by rfl) (by rfl))) rfl rfl rfl rfl,
    .mt ⟨[(20, .sv (.one (.own 2)))], []⟩ [] none (by kernel_rfl) (by rfl) (mt_ev ht (by kernel_rfl)) rfl rfl rfl rfl,
    trivial⟩
  · refine En.ret ?_
    refine En.seal (T := intT) (l := (([((w.take (at_ : Int).toNat).drop (0 : Int).toNat), s.fTo, ((w.take ((w.length : Int) : Int).toNat).drop ((wr (at_ + (s.fFrom.length : Int))) : Int).toNat)] : (List (List Int))).flatten)) (e := 3) 2 rfl ?_
    exact En.back ht (([((w.take (at_ : Int).toNat).drop (0 : Int).toNat), s.fTo, ((w.take ((w.length : Int) : Int).toNat).drop ((wr (at_ + (s.fFrom.length : Int))) : Int).toNat)] : (List (List Int))).flatten) h (by kernel_rfl) rfl
theorem en91 : ∀ args w, (callFunc 91 args).run Try.prog w = .ok (.enter 91 args) w := enters_of Try.func91 (by kernel_rfl) rfl
def SwapPre (w : List Int) (s : ApiSwap) (k : Int) : Prop := 0 ≤ k ∧ k.toNat + s.fFrom.length ≤ w.length ∧ w.length ≤ 1000 ∧ s.fTo.length ≤ 1000
def swapL (w : List Int) (s : ApiSwap) (k : Int) : List Int := swapF w s.fFrom s.fTo k.toNat
theorem rewSwapped_ct (w : (List Int)) (s : ApiSwap) (at_ : Int) (hp : SwapPre w s at_)  : Ct 91 [.sv (.one (LS intT w)), .sv (.agg [LS intT s.fFrom, LS intT s.fTo]), .sv (.one (I at_))] [] (fun (_ : Unit) => True) (fun _ => .sv (.one (LS intT (swapL w s at_)))) := by
  refine (rewSwapped_walk w s at_ (fun res_ => res_ = (swapL w s at_)) ?_).fun
  intro _ _ _
  obtain ⟨h0, h1, h2, h3⟩ := hp
  obtain ⟨k, rfl⟩ := Int.eq_ofNat_of_zero_le h0
  rw [Int.toNat_natCast] at h1
  have hw : wr ((k : Int) + (s.fFrom.length : Int)) = ((k + s.fFrom.length : Nat) : Int) := wr_in (by omega) (by omega)
  rw [hw]
  have e1 : (w.take ((k : Int)).toNat).drop ((0 : Int)).toNat = w.take k := by simp
  have e2 : (w.take ((w.length : Int) : Int).toNat).drop (((k + s.fFrom.length : Nat) : Int)).toNat = w.drop (k + s.fFrom.length) := by rw [Int.toNat_natCast, Int.toNat_natCast, List.take_length]
  have e3 : [(w.take ((k : Int)).toNat).drop ((0 : Int)).toNat, s.fTo, (w.take ((w.length : Int) : Int).toNat).drop (((k + s.fFrom.length : Nat) : Int)).toNat].flatten = swapL w s (k : Int) := by
    rw [e1, e2]
    show _ = swapF w s.fFrom s.fTo k
    simp [swapF]
  refine ⟨⟨by omega, by omega, by omega⟩, ⟨by omega, by omega, by omega⟩, ⟨by simp, ?_⟩, e3⟩
  rw [e3]
  show (swapF w s.fFrom s.fTo k).length ≤ _
  unfold swapF
  simp only [List.length_append, List.length_take, List.length_drop]
  omega
def rewNormal_vc (l : (List ApiSwap)) (w0 : (List Int)) (Q : (List Int) → Prop) : Prop :=
  l.length ≤ 9223372036854775807 →
  w0.length ≤ 9223372036854775807 →
  (∃ (Inv : (List Int) → Int → Prop) (mu : (List Int) → Int → Nat), Inv w0 0 ∧
  ∀ (x1 : (List Int)) (x5 : Int) , Inv x1 x5 → (IfP (decide (x5 < (x1.length : Int))) (∃ J : (List Int) → Int → Prop, (∃ (Inv_2 : Int → Prop) (mu_2 : Int → Nat), Inv_2 0 ∧
  ∀ (x16 : Int) , Inv_2 x16 → (IfP (decide (x16 < (l.length : Int))) (∃ e, idx l x16 = some e ∧
  (StandPre x1 e.fFrom x5) ∧
  IfP (standsI x1 e.fFrom x5) ((SwapPre x1 e x5) ∧
  J (swapL x1 e x5) (-1)) ((Inv_2 (wr (x16 + 1)) ∧ mu_2 (wr (x16 + 1)) < mu_2 x16))) (J x1 x5))) ∧
  (∀ (x1_2 : (List Int)) (x5_2 : Int), J x1_2 x5_2 → (Inv x1_2 (wr (x5_2 + 1)) ∧ mu x1_2 (wr (x5_2 + 1)) < mu x1 x5))) (Q x1)))
theorem rewNormal_walk (l : (List ApiSwap)) (w0 : (List Int)) (Q : (List Int) → Prop) (h : rewNormal_vc l w0 Q) : Ct 89 [.sv (.one (LS ApiSwap.ty l)), .sv (.one (LS intT w0))] [] Q (fun (r : (List Int)) => .sv (.one (LS intT r))) := by
  have ht := tab_ok
  refine Ct.body Try.func89 rfl rfl rfl rfl (fun c hn => ?_)
  unfold rewNormal_vc at h
  refine En.lenL 0 (by rfl) (fun hl => ?_)
  replace h := h hl
  clear hl
  refine En.lenL 1 (by rfl) (fun hl => ?_)
  replace h := h hl
  clear hl
  refine En.seq ?_
  refine En.region ?_
  refine WL.run ht hn 1 ⟨[(0, .sv (.one (LS ApiSwap.ty l))), (1, .sv (.one (LS intT w0)))], []⟩ (by kernel_rfl) ?_
  refine WL.nil ?_
  refine En.scope ?_
  refine En.seq ?_
  refine En.label ?_
  refine En.seq ?_
  refine En.seq ?_
  refine En.region ?_
  refine WL.run ht hn 1 ⟨[(0, .sv (.one (LS ApiSwap.ty l))), (1, .sv (.one (LS intT w0))), (5, .sv (.one (I 0)))], []⟩ (by kernel_rfl) ?_
  refine WL.nil ?_
  refine En.block ?_
  obtain ⟨Inv, mu, h0_2, hI_2⟩ := h
  refine En.loop (σ := (List Int) × Int) (fun zz => Inv zz.1 zz.2) (fun zz => mu zz.1 zz.2) (fun zz => ⟨[(0, .sv (.one (LS ApiSwap.ty l))), (1, .sv (.one (LS intT zz.1))), (5, .sv (.one (I zz.2)))], []⟩) (w0, 0) h0_2 (sub_ok (by kernel_rfl)) ?_
  rintro ⟨x1, x5⟩ h
  replace h := hI_2 _ _ h
  show En c ⟨[(0, .sv (.one (LS ApiSwap.ty l))), (1, .sv (.one (LS intT x1))), (5, .sv (.one (I x5)))], []⟩ _
  refine En.seq ?_
  refine En.seq ?_
  refine En.region ?_
  refine WL.run ht hn 4 ⟨[(0, .sv (.one (LS ApiSwap.ty l))), (1, .sv (.one (LS intT x1))), (5, .sv (.one (I x5))), (11, .sv (.one (B (decide (x5 < (x1.length : Int))))))], []⟩ (by kernel_rfl) ?_
  refine WL.nil ?_
  refine En.cond (b := (decide (x5 < (x1.length : Int)))) (by kernel_rfl) (fun hb => ?_) (fun hb => ?_)
  · replace h := h.1 hb
    refine En.skip ?_
    obtain ⟨J, h, hJ⟩ := h
    refine En.seqJ (σ := (List Int) × Int) (fun zz => J zz.1 zz.2) (fun zz => ⟨[(0, .sv (.one (LS ApiSwap.ty l))), (1, .sv (.one (LS intT zz.1))), (5, .sv (.one (I zz.2)))], []⟩) ?_ ?_
    · refine En.block ?_
      refine En.seq ?_
      refine En.region ?_
      refine WL.run ht hn 3 ⟨[(0, .sv (.one (LS ApiSwap.ty l))), (1, .sv (.one (LS intT x1))), (5, .sv (.one (I x5))), (14, .sv (.one (LS ApiSwap.ty l))), (15, .sv (.one (I (l.length : Int)))), (16, .sv (.one (I 0)))], []⟩ (by kernel_rfl) ?_
      refine WL.nil ?_
      refine En.block ?_
      obtain ⟨Inv_2, mu_2, h0, hI⟩ := h
      refine En.loop (σ := Int) (fun zz => Inv_2 zz) (fun zz => mu_2 zz) (fun zz => ⟨[(0, .sv (.one (LS ApiSwap.ty l))), (1, .sv (.one (LS intT x1))), (5, .sv (.one (I x5))), (14, .sv (.one (LS ApiSwap.ty l))), (15, .sv (.one (I (l.length : Int)))), (16, .sv (.one (I zz)))], []⟩) 0 h0 (sub_ok (by kernel_rfl)) ?_
      intro x16 h
      replace h := hI _ h
      show En c ⟨[(0, .sv (.one (LS ApiSwap.ty l))), (1, .sv (.one (LS intT x1))), (5, .sv (.one (I x5))), (14, .sv (.one (LS ApiSwap.ty l))), (15, .sv (.one (I (l.length : Int)))), (16, .sv (.one (I x16)))], []⟩ _
      refine En.seq ?_
      refine En.region ?_
      refine WL.run ht hn 1 ⟨[(0, .sv (.one (LS ApiSwap.ty l))), (1, .sv (.one (LS intT x1))), (5, .sv (.one (I x5))), (14, .sv (.one (LS ApiSwap.ty l))), (15, .sv (.one (I (l.length : Int)))), (16, .sv (.one (I x16))), (17, .sv (.one (B (decide (x16 < (l.length : Int))))))], []⟩ (by kernel_rfl) ?_
      refine WL.nil ?_
      refine En.seq ?_
      refine En.cond (b := (decide (x16 < (l.length : Int)))) (by kernel_rfl) (fun hb => ?_) (fun hb => ?_)
      · replace h := h.1 hb
        refine En.skip ?_
        refine En.seq ?_
        refine En.block ?_
        refine En.seq ?_
        refine En.region ?_
        obtain ⟨e, he, h⟩ := h
        refine WL.val hn (by rfl) (val_index (T := ApiSwap.ty) (l := l) (i := x16) ht rfl (by rfl) (by rfl) (by rfl) (by rfl) (by rfl) (by rfl) he) (by rfl) ?_
        refine WL.val hn (by rfl) (val_load (s := .agg [LS intT e.fFrom, LS intT e.fTo]) ht rfl (by rfl) (by rfl) (by rfl) (by rfl) (by rfl)) (by rfl) ?_
        refine WL.run ht hn 2 ⟨[(0, .sv (.one (LS ApiSwap.ty l))), (1, .sv (.one (LS intT x1))), (5, .sv (.one (I x5))), (7, .sv (.one (.ptr 0 0))), (14, .sv (.one (LS ApiSwap.ty l))), (15, .sv (.one (I (l.length : Int)))), (16, .sv (.one (I x16)))], [.box [LS intT e.fFrom, LS intT e.fTo] 101 false]⟩ (by kernel_rfl) ?_
        refine WL.nil ?_
        refine En.seq ?_
        refine En.region ?_
        refine WL.run ht hn 4 ⟨[(0, .sv (.one (LS ApiSwap.ty l))), (1, .sv (.one (LS intT x1))), (5, .sv (.one (I x5))), (7, .sv (.one (.ptr 0 0))), (14, .sv (.one (LS ApiSwap.ty l))), (15, .sv (.one (I (l.length : Int)))), (16, .sv (.one (I x16))), (20, .sv (.one (LS intT x1))), (22, .sv (.one (LS intT e.fFrom))), (23, .sv (.one (I x5)))], [.box [LS intT e.fFrom, LS intT e.fTo] 101 false]⟩ (by kernel_rfl) ?_
        have hp := h.1
        replace h := h.2
        refine WL.mt0 (K := []) (p := none) hn (by rfl) (mt_call (rewStands_ct x1 e.fFrom x5 hp) en142 (caps := []) [] rfl (by rfl) (by kernel_rfl) (by kernel_rfl) (by rfl) (by rfl) (by rfl)) (by rfl) (by rfl) (by rfl) ?_
        refine WL.nil ?_
        refine En.cond (b := (standsI x1 e.fFrom x5)) (by kernel_rfl) (fun hb => ?_) (fun hb => ?_)
        · replace h := h.1 hb
          refine En.seq ?_
          refine En.region ?_
          refine WL.run ht hn 3 ⟨[(0, .sv (.one (LS ApiSwap.ty l))), (25, .sv (.one (LS intT x1))), (26, .sv (.agg [LS intT e.fFrom, LS intT e.fTo])), (27, .sv (.one (I x5)))], [.gone]⟩ (by kernel_rfl) ?_
          have hp := h.1
          replace h := h.2
          refine WL.mt0 (K := []) (p := none) hn (by rfl) (mt_call (rewSwapped_ct x1 e x5 hp) en91 (caps := []) [] rfl (by rfl) (by kernel_rfl) (by kernel_rfl) (by rfl) (by rfl) (by rfl)) (by rfl) (by rfl) (by rfl) ?_
          refine WL.run ht hn 1 ⟨[(0, .sv (.one (LS ApiSwap.ty l))), (1, .sv (.one (LS intT (swapL x1 e x5))))], [.gone]⟩ (by kernel_rfl) ?_
          refine WL.nil ?_
          refine En.seq ?_
          refine En.region ?_
          refine WL.run ht hn 1 ⟨[(0, .sv (.one (LS ApiSwap.ty l))), (1, .sv (.one (LS intT (swapL x1 e x5)))), (5, .sv (.one (I (-1))))], [.gone]⟩ (by kernel_rfl) ?_
          refine WL.nil ?_
          refine En.exit rfl ?_
          exact En.at (I := fun zz => J zz.1 zz.2) (T := fun zz => ⟨[(0, .sv (.one (LS ApiSwap.ty l))), (1, .sv (.one (LS intT zz.1))), (5, .sv (.one (I zz.2)))], []⟩) ((swapL x1 e x5), (-1)) h (by kernel_rfl)
        · replace h := h.2 hb
          refine En.skip ?_
          refine En.region ?_
          refine WL.run ht hn 2 ⟨[(0, .sv (.one (LS ApiSwap.ty l))), (1, .sv (.one (LS intT x1))), (5, .sv (.one (I x5))), (14, .sv (.one (LS ApiSwap.ty l))), (15, .sv (.one (I (l.length : Int)))), (16, .sv (.one (I (wr (x16 + 1)))))], [.gone]⟩ (by kernel_rfl) ?_
          refine WL.nil ?_
          exact En.at (I := fun zz => Inv_2 zz ∧ mu_2 zz < mu_2 x16) (T := fun zz => ⟨[(0, .sv (.one (LS ApiSwap.ty l))), (1, .sv (.one (LS intT x1))), (5, .sv (.one (I x5))), (14, .sv (.one (LS ApiSwap.ty l))), (15, .sv (.one (I (l.length : Int)))), (16, .sv (.one (I zz)))], []⟩) (wr (x16 + 1)) h (by kernel_rfl)
      · replace h := h.2 hb
        refine En.exit rfl ?_
        exact En.at (I := fun zz => J zz.1 zz.2) (T := fun zz => ⟨[(0, .sv (.one (LS ApiSwap.ty l))), (1, .sv (.one (LS intT zz.1))), (5, .sv (.one (I zz.2)))], []⟩) (x1, x5) h (by kernel_rfl)
    · rintro ⟨x1_2, x5_2⟩ h
      replace h := hJ _ _ h
      show En c ⟨[(0, .sv (.one (LS ApiSwap.ty l))), (1, .sv (.one (LS intT x1_2))), (5, .sv (.one (I x5_2)))], []⟩ _
      refine En.region ?_
      refine WL.run ht hn 3 ⟨[(0, .sv (.one (LS ApiSwap.ty l))), (1, .sv (.one (LS intT x1_2))), (5, .sv (.one (I (wr (x5_2 + 1)))))], []⟩ (by kernel_rfl) ?_
      refine WL.nil ?_
      exact En.at (I := fun zz => Inv zz.1 zz.2 ∧ mu zz.1 zz.2 < mu x1 x5) (T := fun zz => ⟨[(0, .sv (.one (LS ApiSwap.ty l))), (1, .sv (.one (LS intT zz.1))), (5, .sv (.one (I zz.2)))], []⟩) (x1_2, (wr (x5_2 + 1))) h (by kernel_rfl)
  · replace h := h.2 hb
    refine En.exit rfl ?_
    refine En.seq ?_
    refine En.region ?_
    refine WL.run ht hn 2 ⟨[(4, .sv (.one (LS intT x1)))], []⟩ (by kernel_rfl) ?_
    refine WL.nil ?_
    refine En.ret ?_
    exact En.back ht x1 h (by kernel_rfl) rfl
theorem en89 : ∀ args w, (callFunc 89 args).run Try.prog w = .ok (.enter 89 args) w := enters_of Try.func89 (by kernel_rfl) rfl
def NormPre (l : List ApiSwap) (w : List Int) : Prop := RulesOk (rulesOf l) ∧ (∀ s ∈ l, s.fFrom.length ≤ 5) ∧ In4 w ∧ w.length ≤ 100
def normalR (l : List ApiSwap) (w : List Int) : List Int := normW (rulesOf l) w
theorem hitR_none_mk {l : List ApiSwap} {x : List Int} {k : Nat} (h : ∀ s ∈ l, standsB x s.fFrom k = false) : hitR (rulesOf l) x k = none := by
  unfold hitR rulesOf
  rw [Option.map_eq_none_iff, List.find?_eq_none]
  intro r hr
  obtain ⟨s, hs, rfl⟩ := List.mem_map.1 hr
  rw [h s hs]
  decide
theorem hitR_some_mk {l : List ApiSwap} {x : List Int} {k m : Nat} (hm : m < l.length) (h : ∀ s ∈ l.take m, standsB x s.fFrom k = false) (h1 : standsB x l[m].fFrom k = true) : hitR (rulesOf l) x k = some (swapF x l[m].fFrom l[m].fTo k) := by
  have e : l = l.take m ++ l[m] :: l.drop (m + 1) := by rw [← List.drop_eq_getElem_cons hm, List.take_append_drop]
  unfold hitR rulesOf
  conv => lhs; rw [e]
  rw [List.map_append, List.find?_append]
  have h2 : ((l.take m).map fun s => (s.fFrom, s.fTo)).find? (fun r => standsB x r.1 k) = none := by
    rw [List.find?_eq_none]
    intro r hr
    obtain ⟨s, hs, rfl⟩ := List.mem_map.1 hr
    rw [h s hs]
    decide
  rw [h2, List.map_cons, List.find?_cons_of_pos (p := fun r : List Int × List Int => standsB x r.1 k) h1]
  rfl
theorem stepR_hit {R : Rules} {x v : List Int} {k : Nat} (hk : k < x.length) (h : ∀ j, j < k → hitR R x j = none) (h1 : hitR R x k = some v) : stepR R x = some v := by
  unfold stepR
  obtain ⟨n, hn⟩ : ∃ n, x.length = k + (n + 1) := ⟨x.length - k - 1, by omega⟩
  rw [hn, oneR_skip h, oneR, h1]
theorem stepR_end {R : Rules} {x : List Int} (h : ∀ j, j < x.length → hitR R x j = none) : stepR R x = none := by
  unfold stepR
  have := oneR_skip (n := 0) h
  rw [Nat.add_zero] at this
  rw [this, oneR]
theorem rewNormal_ct (l : (List ApiSwap)) (w0 : (List Int)) (hp : NormPre l w0)  : Ct 89 [.sv (.one (LS ApiSwap.ty l)), .sv (.one (LS intT w0))] [] (fun (_ : Unit) => True) (fun _ => .sv (.one (LS intT (normalR l w0)))) := by
  refine (rewNormal_walk l w0 (fun res_ => res_ = (normalR l w0)) ?_).fun
  obtain ⟨hR, h5, hin, hlen⟩ := hp
  intro _ _
  refine ⟨fun x i => ∃ k : Nat, i = k ∧ In4 x ∧ x.length ≤ 100 ∧ k ≤ x.length ∧ normW (rulesOf l) x = normW (rulesOf l) w0 ∧ ∀ j, j < k → hitR (rulesOf l) x j = none, fun x i => valW x * 200 + (100 - i.toNat), ⟨0, rfl, hin, hlen, Nat.zero_le _, rfl, fun j hj => absurd hj (Nat.not_lt_zero _)⟩, ?_⟩
  rintro x i ⟨k, rfl, hx, hxl, hk, hn, hno⟩
  refine ⟨fun hb => ?_, fun hb => ?_⟩
  · have hlt := dlt hb
    refine ⟨fun y j => (y = x ∧ j = (k : Int) ∧ hitR (rulesOf l) x k = none) ∨ (j = -1 ∧ stepR (rulesOf l) x = some y), ⟨fun i => ∃ m : Nat, i = m ∧ m ≤ l.length ∧ ∀ s ∈ l.take m, standsB x s.fFrom k = false, fun i => l.length - i.toNat, ⟨0, rfl, Nat.zero_le _, fun s hs => by cases hs⟩, ?_⟩, ?_⟩
    · rintro i ⟨m, rfl, hm, hbef⟩
      refine ⟨fun hb2 => ?_, fun hb2 => .inl ⟨rfl, rfl, ?_⟩⟩
      · have hml := dlt hb2
        have hmem := List.getElem_mem hml
        have hs5 := h5 _ hmem
        have hro := hR (l[m].fFrom, l[m].fTo) (List.mem_map.2 ⟨_, hmem, rfl⟩)
        have hle := hro.len
        simp only at hle
        refine ⟨_, idx_at hml, ⟨by omega, by omega, by omega⟩, fun hs => ⟨?_, .inr ⟨rfl, ?_⟩⟩, fun hs => ⟨⟨m + 1, wsucc (by omega), hml, ?_⟩, mu_up hml (by omega)⟩⟩
        · have hs : standsB x l[m].fFrom k = true := hs
          unfold standsB at hs
          rw [Bool.and_eq_true] at hs
          have := of_decide_eq_true hs.1
          exact ⟨by omega, by rw [Int.toNat_natCast]; exact this, by omega, by omega⟩
        · exact stepR_hit hlt hno (hitR_some_mk hml hbef hs)
        · rw [List.take_add_one, List.getElem?_eq_getElem hml]
          intro s hs2
          rcases List.mem_append.1 hs2 with h | h
          · exact hbef s h
          · simp only [Option.toList_some, List.mem_singleton] at h
            subst h
            exact hs
      · rw [List.take_of_length_le (dge hb2)] at hbef
        exact hitR_none_mk hbef
    · rintro y j (⟨rfl, rfl, hh⟩ | ⟨rfl, hs⟩)
      · refine ⟨⟨k + 1, wsucc (by omega), hx, hxl, hlt, hn, fun j hj => ?_⟩, ?_⟩
        · by_cases e : j = k
          · rw [e]; exact hh
          · exact hno j (by omega)
        · show valW y * 200 + (100 - (wr ((k : Int) + 1)).toNat) < valW y * 200 + (100 - ((k : Nat) : Int).toNat)
          rw [show wr ((k : Int) + 1) = ((k + 1 : Nat) : Int) from wsucc (by omega)]
          omega
      · obtain ⟨y1, y2, y3⟩ := (oneR_step hs).ok hR hx
        refine ⟨⟨0, rfl, y1, by omega, Nat.zero_le _, by rw [← normW_some hR hx hs]; exact hn, fun j hj => absurd hj (Nat.not_lt_zero _)⟩, ?_⟩
        show valW y * 200 + (100 - (0 : Int).toNat) < valW x * 200 + (100 - ((k : Nat) : Int).toNat)
        omega
  · have hge := dge hb
    show x = normW (rulesOf l) w0
    have hk' : k = x.length := by omega
    subst hk'
    rw [← hn, normW_none (stepR_end hno)]
end Go.Proofs.Ytfpdnigihjmohaa

/- Symbolic states of a walk: nil slices among the cells of a variable, said as rows that are read, within a region. No condition. -/
namespace Go.Proofs.Ytfpdnigihjmohaa
open Go.RowKit Go.MapKept
set_option linter.unusedSimpArgs false
set_option linter.unusedVariables false
set_option maxRecDepth 100000

section
variable {c : Cfg} {S S1 : St} {a : Act} {w : World} {g : Gh} {hs : Nat → Value} {tab : Tab} {n : Nat} {o : Oper} {ops : Array Oper} {rest L : List Oper} {N : Po}
theorem nilBox_ok {α : Type} {T : Ty α} {cells : List At} {ty : Nat} {fz : Bool} (i j : Nat) (hm : S.M[i]? = some (.box cells ty fz)) (hj : cells[j]? = some (.v (.slice none 0 0))) (hk : Ok' c S a w g hs) : Ok' c ⟨S.F, S.M.set i (.box (cells.set j (LS T ([] : List α))) ty fz)⟩ a w g hs := by
  have hset : ∀ (k : Nat) (jt : Item), (S.M.set i (.box (cells.set j (LS T ([] : List α))) ty fz))[k]? = some jt → (k = i ∧ jt = .box (cells.set j (LS T ([] : List α))) ty fz) ∨ (k ≠ i ∧ S.M[k]? = some jt) := fun k jt hk => by
    rw [List.getElem?_set] at hk
    by_cases e : i = k
    · rw [if_pos e] at hk
      split at hk
      · simp at hk; exact .inl ⟨e.symm, hk.symm⟩
      · cases hk
    · rw [if_neg e] at hk; exact .inr ⟨Ne.symm e, hk⟩
  have old : ∀ (k : Nat) (jt : Item), (S.M.set i (.box (cells.set j (LS T ([] : List α))) ty fz))[k]? = some jt → jt ≠ .gone → ∃ kt, S.M[k]? = some kt ∧ kt.fz = jt.fz ∧ kt ≠ .gone := fun k jt hk hn => by
    rcases hset k jt hk with ⟨rfl, rfl⟩ | ⟨_, h⟩
    · exact ⟨_, hm, rfl, by simp⟩
    · exact ⟨jt, h, rfl, hn⟩
  refine ⟨hk.size, hk.defers, hk.base, hk.slots, fun k jt hj' => ?_, fun k l jt lt hkl h1 h2 hf hn => ?_, fun k jt h1 hn => ?_⟩
  · rcases hset k jt hj' with ⟨rfl, rfl⟩ | ⟨_, h⟩
    · obtain ⟨b, cs, h1, h2, h3⟩ := hk.items k _ hm
      exact ⟨b, cs, h1, oks_nil j hj h2, h3⟩
    · exact hk.items k jt h
  · obtain ⟨kt, a1, a2, a3⟩ := old k jt h1 (fz_gone hf)
    obtain ⟨kt', b1, b2, b3⟩ := old l lt h2 hn
    exact hk.sep k l kt kt' hkl a1 b1 (a2.trans hf) b3
  · obtain ⟨kt, a1, a2, a3⟩ := old k jt h1 hn
    rw [← a2]
    exact hk.mine k kt a1 a3
theorem WL.nilBox {α : Type} {T : Ty α} {cells : List At} {ty : Nat} {fz : Bool} (i j : Nat) (hm : S.M[i]? = some (.box cells ty fz)) (hj : cells[j]? = some (.v (.slice none 0 0))) (h : WL c ops L ⟨S.F, S.M.set i (.box (cells.set j (LS T ([] : List α))) ty fz)⟩ N) : WL c ops L S N := fun a w ⟨g, hs, hk⟩ =>
  h a w ⟨g, hs, nilBox_ok i j hm hj hk⟩
end
end Go.Proofs.Ytfpdnigihjmohaa

