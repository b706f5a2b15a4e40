/- Symbolic states of a walk: operations by themselves, for regions that draw their order. No condition. -/
import Derived.Test.YtfpdnigihjmohaaMirS
namespace Go.Proofs.Ytfpdnigihjmohaa
open Go.RowKit Go.MapKept
set_option linter.unusedSimpArgs false
set_option linter.unusedVariables false
set_option maxRecDepth 100000

section
variable {c : Cfg} {S : St} {tab : Tab} {o : Oper}
theorem mt_val {x : SC} (h : Val c S o x) : MT c S o x [] none := fun a w g hs hk N Z hN => by
  obtain ⟨v, h1, h2⟩ := h a w g hs hk
  unfold Oper.wp
  rw [h1]
  exact hN v w g undef (Eff.refl hk.base) h2 trivial
theorem mt_ev {x : SC} (ht : tab.ok) (e : evV tab S o = some x) : MT c S o x [] none := mt_val fun a w g hs hk => evV_ok ht hk e
theorem mt_newbox {p t : Nat} {cells : List At} {x : SC} (hr : ((cells.flatMap At.refs).all fun i => !(Nat.beq i p)) = true)
    (H : ∀ a w g hs, Ok' c S a w g hs → ∃ cs v, oks g hs cells cs ∧ (execOp a.eval o).run Try.prog w = .ok (.value v) (w.alloc (.cells cs.toArray t)) ∧ ∀ hs' : Nat → Value, hs' p = .pointer (some ⟨w.heap.size, 0, none⟩) → x.ok g hs' v) : MT c S o x [] (some (p, .box cells t false)) := fun a w g hs h N Z hN => by
  obtain ⟨cs, v, h1, h2, h3⟩ := H a w g hs h
  unfold Oper.wp
  rw [h2]
  refine hN v _ g (.pointer (some ⟨w.heap.size, 0, none⟩)) ⟨rfl, rfl, rfl, by simp, fun b hb _ => (World.grownBy_alloc w _ none).block b hb (by simp), Gh.le.refl g, fun b o e => .inl e, fun b o e => ?_⟩ (h3 _ (if_pos rfl)) ⟨⟨w.heap.size, cs, rfl, oks_hs (fun i hi => ?_) h1, heap_alloc_new w _, fun h => by cases h⟩, fun b hb => ?_⟩
  · exact ((World.grownBy_alloc w _ none).block b (h.base.pers.lt e) (by simp)).trans (h.base.pers b o e)
  · have := List.all_eq_true.1 hr i hi
    have hne : i ≠ p := fun e => by subst e; simp at this
    rw [if_neg hne]
  · cases hb
    refine ⟨by simp, fun _ => ?_, .inl (Nat.le_refl _)⟩
    cases hgb : g w.heap.size with
    | none => rfl
    | some o => have := h.base.pers.lt hgb; omega
theorem mt_alloc (p : Nat) {t : Nat} {ti : TI} (ht : tab.ok) (ho : o.op = .alloc t) (h1 : tab t = some ti) : MT c S o (.sv (.one (.ptr p 0))) [] (some (p, .box (ti.zero.map .v) t false)) := by
  have htk := ht t ti h1
  refine mt_newbox ?_ fun a w g hs h => ?_
  · rw [List.all_eq_true]
    intro i hi
    obtain ⟨x, hx, hi⟩ := List.mem_flatMap.1 hi
    obtain ⟨v, _, rfl⟩ := List.mem_map.1 hx
    cases hi
  · obtain ⟨z, hz1, hz2⟩ := htk.run_zero
    have hzc : z.cells = ti.zero.toArray := by simp [← hz1]
    refine ⟨ti.zero, .pointer (some ⟨w.heap.size, 0, none⟩), oks_v htk.zc, ?_, fun hs' e => ptr_new e⟩
    have : execOp a.eval o = (do pure (.value (← Instr.alloc t true (.tuple #[]))) : Sem Next) := by unfold execOp; rw [ho]
    rw [this]
    refine run_valW ?_
    simp only [Instr.alloc, Sem.run_bind, hz2, Result.andThen_ok, newVar, newRow, newObj, Sem.run, Sem.run_pure, hzc]
    rfl
theorem mt_box (p : Nat) {t : Nat} {x : Operand} {s : SV} (ho : o.op = .box t x) (h1 : evX S.F x = some (.sv s)) (hj : s ≠ .one .junk) (hr : (((svCells s).flatMap At.refs).all fun i => !(Nat.beq i p)) = true) : MT c S o (.sv (.one (.ptr p 0))) [] (some (p, .box (svCells s) t false)) := by
  refine mt_newbox hr fun a w g hs h => ?_
  have hv := evX_ok h h1
  refine ⟨(a.eval x).cells.toList, .pointer (some ⟨w.heap.size, 0, none⟩), sv_cells hj hv, ?_, fun hs' e => ptr_new e⟩
  have : execOp a.eval o = (do pure (.value (← Instr.box t (a.eval x))) : Sem Next) := by unfold execOp; rw [ho]
  rw [this]
  refine run_valW ?_
  simp [Instr.box, newVar, newRow, newObj, Sem.run]
def bslE (te : TI) (len : Nat) (F : List (Nat × SC)) (parts : List (Nat × Operand)) : Option (List At) := match Nat.ble (len * te.size) 16777216 && Nat.blt 0 (len * te.size) with
  | true => match evP F parts with
    | some ps => fillE ((List.range len).map fun i => (i * te.size, te.size, te.agg)) ((List.range (len * te.size)).map fun j => .v (te.zero.getD (j % te.size) undef)) ps
    | none => none
  | false => none
theorem mt_bsl (p : Nat) {t len el : Nat} {parts : Array (Nat × Operand)} {ti te : TI} {r : List At} (ht : tab.ok) (ho : o.op = .buildSlice t len parts) (h1 : tab t = some ti) (h2 : ti.sl = some el) (h3 : tab el = some te) (e : bslE te len S.F parts.toList = some r) (hr : ((r.flatMap At.refs).all fun i => !(Nat.beq i p)) = true) : MT c S o (.sv (.one (.bsl p len))) [] (some (p, .box r el false)) := by
  refine mt_newbox hr fun a w g hs h => ?_
  unfold bslE at e
  split at e
  case h_2 => cases e
  rename_i hb
  obtain ⟨b1, b2⟩ := (Bool.and_eq_true _ _).mp hb
  replace b1 := Nat.le_of_ble_eq_true b1
  replace b2 := Nat.le_of_ble_eq_true b2
  split at e
  case h_2 => cases e
  rename_i ps hps
  have hu := slT_some ((ht t ti h1).sl.trans h2)
  have htk := ht el te h3
  obtain ⟨z, hz1, hz2⟩ := htk.run_zero
  have hzc : z.cells = te.zero.toArray := by simp [← hz1]
  have hp := evP_ok h hps
  have hs0 : 0 < te.size := by
    rcases Nat.eq_zero_or_pos te.size with h0 | h0
    · rw [h0] at b2; omega
    · exact h0
  have hz0 : oks g hs ((List.range (len * te.size)).map fun j => .v (te.zero.getD (j % te.size) undef)) ((List.range (len * te.size)).map fun j => te.zero.getD (j % te.size) undef) := by
    have := oks_v (g := g) (hs := hs) (l := (List.range (len * te.size)).map fun j => te.zero.getD (j % te.size) undef) (by
      rw [List.all_eq_true]
      intro x hx
      obtain ⟨j, hj, rfl⟩ := List.mem_map.1 hx
      have hlt : j % te.size < te.zero.length := by rw [htk.zs]; exact Nat.mod_lt _ hs0
      have := List.all_eq_true.1 htk.zc (te.zero[j % te.size]) (by simp)
      simpa [List.getD, hlt] using this)
    rw [List.map_map] at this
    exact this
  obtain ⟨us', k1, k2⟩ := fill_ok (place := fun i => some (i * te.size, te.size)) (fun i off sz ag hi => by
    rw [List.getElem?_map] at hi
    cases h3 : (List.range len)[i]? with
    | none => rw [h3] at hi; cases hi
    | some j =>
      have hj : j = i := by
        have := (List.getElem?_eq_some_iff.1 h3).2
        simpa using this.symm
      subst hj
      rw [h3] at hi
      simp at hi
      obtain ⟨e1, e2, _⟩ := hi
      subst e1 e2
      rfl) hp hz0 e
  refine ⟨us', .slice (some ⟨w.heap.size, 0, none⟩) len len, k2, ?_, fun hs' e => ⟨⟨w.heap.size, e, rfl⟩, trivial⟩⟩
  have : execOp a.eval o = (do pure (.value (← Instr.buildSlice t len (parts.map fun (i, x) => (i, a.eval x)))) : Sem Next) := by unfold execOp; rw [ho]
  rw [this]
  refine run_valW ?_
  have hpl : (Array.map (fun (x : Nat × Operand) => (x.1, a.eval x.2)) parts).toList = parts.toList.map fun x => (x.1, a.eval x.2) := by simp
  have hza : (Array.range (len * te.size)).map (fun j => te.zero.toArray[j % te.zero.toArray.size]!) = ((List.range (len * te.size)).map fun j => te.zero.getD (j % te.size) undef).toArray := by
    apply Array.toList_inj.1
    simp only [Array.toList_map, Array.toList_range]
    refine List.map_congr_left fun j _ => ?_
    have hlt : j % te.size < te.zero.length := by rw [htk.zs]; exact Nat.mod_lt _ hs0
    have hlt2 : j % te.zero.length < te.zero.length := by rw [htk.zs] at hlt ⊢; exact hlt
    simp only [List.size_toArray, htk.zs]
    simp [List.getD, hlt]
  simp only [Instr.buildSlice, Sem.run_bind, run_underlying hu, Result.andThen_ok, htk.run_size]
  rw [if_neg (by omega)]
  rw [if_neg (show ¬ len * te.size = 0 by omega)]
  simp only [Sem.run_bind, Sem.run_pure, Result.andThen_ok, hz2, hzc, hza, hpl, k1, newRow, newObj, Sem.run]
  rfl
/-- a store into a variable -/
theorem mu_store {t i off ty : Nat} {ti : TI} {x y : Operand} {s : SV} {cells : List At} (ht : tab.ok) (ho : o.op = .store t x y) (h1 : tab t = some ti) (hx : evX S.F x = some (.sv (.one (.ptr i off)))) (hm : S.M[i]? = some (.box cells ty false)) (hy : evX S.F y = some (.sv s)) (hj : s ≠ .one .junk)
    (hb : (Nat.beq (svCells s).length ti.size && Nat.ble (off + (svCells s).length) cells.length) = true) : MU c S o i (.box (cells.take off ++ svCells s ++ cells.drop (off + (svCells s).length)) ty false) := fun a w g hs h N Z hN => by
  obtain ⟨b1, b2⟩ := (Bool.and_eq_true _ _).mp hb
  replace b1 := Nat.eq_of_beq_eq_true b1
  replace b2 := Nat.le_of_ble_eq_true b2
  have hv := evX_ok h hy
  have hc := sv_cells hj hv
  have htk := ht t ti h1
  obtain ⟨⟨b, hb1, hv1⟩, _⟩ := evX_ok h hx
  obtain ⟨b', cs, k1, k2, k3, k4⟩ := h.items i _ hm
  rw [hb1] at k1
  simp at k1
  subst k1
  have l1 := oks_length hc
  have l2 := oks_length k2
  have hst := run_storeCells_at (P := Try.prog) b off ty (a.eval y).cells.toList 0 cs.toArray w k3 (by simp at l1 ⊢; omega) (fun v hv => (oks_cells hc v hv).one)
  simp only [Nat.add_zero] at hst
  unfold Oper.wp
  have hrun : (execOp a.eval o).run Try.prog w = .ok .skip (w.setRow b (cs.take off ++ (a.eval y).cells.toList ++ cs.drop (off + (a.eval y).cells.toList.length)).toArray) := by
    have : execOp a.eval o = (do Instr.storeAt t (a.eval x) (a.eval y); pure .skip : Sem Next) := by unfold execOp; rw [ho]
    rw [this]
    simp only [Instr.storeAt, hv1, Instr.sureAddr, storeVar, Sem.run_bind, Sem.run_pure, Result.andThen_ok, htk.run_size]
    rw [if_neg (by simp at l1; simp; omega)]
    simp only [hst, Result.andThen_ok, Sem.run_pure]
  rw [hrun]
  refine hN undef _ ?_ ?_
  · rw [hb1]
    exact ⟨rfl, rfl, rfl, by simp, fun k hk hne => setRow_other w b k _ (fun e => hne (by rw [e]; rfl))⟩
  · refine ⟨b, _, hb1, ?_, setRow_heap w b _ _ _ _ k3, fun h => by cases h⟩
    have e1 : (a.eval y).cells.toList.length = (svCells s).length := l1.symm
    rw [e1]
    exact oks_append (oks_append (oks_take off k2) hc) (oks_drop _ k2)
/-- a store into a map -/
theorem mu_mapPut {κ α : Type} [DecidableEq κ] {enc : κ → Value} {T : Ty α} {D : List (κ × α)} {kt e t i : Nat} (K : KeyLaw kt enc) {k : κ} {y : α} {m x v : Operand} (ho : o.op = .mapUpdate t m x v ∨ o.op = .insert t m x v) (ht : Try.prog.underlying t = some (.map kt e))
    (hm : evX S.F m = some (.sv (.one (.own i)))) (hi : S.M[i]? = some (mapI enc T D)) (hx : evKV S.F x = some (enc k)) (hv : evX S.F v = some (.sv (T.sv y))) (hc : (T.sv y).refs = []) : MU c S o i (mapI enc T (mput k y D)) := fun a w g hs hk N Z hN => by
  unfold Oper.wp
  obtain ⟨b, D0, h1, h2, h3, h4, h5⟩ := map_own hk hi
  have hmv : a.eval m = .map (some b) := (evX_ok hk hm).1.trans h1
  have hval : (T.sv y).ok g hs0 (a.eval v) := SV.ok_hs (fun i hi => by rw [hc] at hi; cases hi) (evX_ok hk hv)
  obtain ⟨w', r1, ⟨es, clock, r2, r3, _, r4, r5⟩, rg⟩ := h2.put K ht k (a.eval v)
  have hrun : (execOp a.eval o).run Try.prog w = .ok .skip w' := by
    have e : execOp a.eval o = (do Instr.mapUpdate t (a.eval m) (a.eval x) (a.eval v); pure .skip : Sem Next) := by
      unfold execOp
      rcases ho with ho | ho <;> rw [ho]
    rw [e, hmv, evKV_ok hk hx, Sem.run_bind, r1]
    simp
  rw [hrun]
  obtain ⟨p1, p2⟩ := pairs_put (k := k) hval h3 h5
  exact hN undef w' (by rw [h1]; exact rg) ⟨b, es, clock, h1, r2, putD k (a.eval v) D0, ⟨r3, r4, r5⟩, p1, mput_nodup h4, p2⟩
theorem mt_weaken {x x' : SC} {K : List Nat} {p : Option (Nat × Item)} (h : MT c S o x K p) (hx : ∀ g hs u, x.ok g hs u → x'.ok g hs u) : MT c S o x' K p := fun a w g hs hk N Z hN =>
  h a w g hs hk N Z fun v w' g' h' h1 h2 h3 => hN v w' g' h' h1 (hx _ _ _ h2) h3
theorem mt_castB {b b' : Bool} (e : b = b') (h : MT c S o (.sv (.one (.v (.bool b)))) [] none) : MT c S o (.sv (.one (.v (.bool b')))) [] none := e ▸ h
theorem nil_LS {α : Type} {T : Ty α} (g : Gh) (hs : Nat → Value) (u : Value) (h : SC.ok g hs (.sv (.one (.v (.slice none 0 0)))) u) : SC.ok g hs (.sv (.one (LS T ([] : List α)))) u := by
  have : u = .slice none 0 0 := h.1
  subst this
  exact ls_nil
/-- a row that is only read from the first -/
theorem mt_seal {α : Type} {T : Ty α} {l : List α} {K : List Nat} {q e : Nat} (h : MT c S o (.sv (.one (.own q))) K (some (q, rowI e T l))) : MT c S o (.sv (.one (LS T l))) K none := fun a w g hs hk N Z hN => by
  classical
  refine h a w g hs hk N Z fun v w' g' h' h1 h2 h3 => ?_
  obtain ⟨⟨cs, r1, r2⟩, hb⟩ := h3
  have hv : v = h' := by
    have := h2.1
    have e : v = (if q = q then h' else hs q) := this
    rwa [if_pos rfl] at e
  subst hv
  have hbk : blk v = v.ownBlock := blk_slice (ownsRow_slice r1)
  let g2 : Gh := fun x => if v.ownBlock = some x then w'.heap[x]? else g' x
  have hle : Gh.le g' g2 := fun x o e => by
    show (if v.ownBlock = some x then _ else g' x) = some o
    by_cases hx : v.ownBlock = some x
    · have := (hb x (by rw [hbk]; exact hx)).2.1 rfl
      rw [this] at e
      cases e
    · rw [if_neg hx]; exact e
  refine hN v w' g2 undef ⟨h1.os, h1.tape, h1.output, h1.size, h1.block, h1.ghle.trans hle, fun b o e => ?_, fun b o e => ?_⟩ (row_LS r1 r2 hle (fun b hb => if_pos hb)) trivial
  · by_cases hx : v.ownBlock = some b
    · exact .inr ((hb b (by rw [hbk]; exact hx)).2.2)
    · rw [show g2 b = g' b from if_neg hx] at e
      exact h1.ghnew b o e
  · by_cases hx : v.ownBlock = some b
    · rw [show g2 b = w'.heap[b]? from if_pos hx] at e
      exact e
    · rw [show g2 b = g' b from if_neg hx] at e
      exact h1.pers b o e
/-- a contract whose result is a new piece of memory, the caller's own -/
def CtI (f : Nat) (ins : List SC) (M : List Item) (it : Item) : Prop := ∀ (w : World) (g : Gh) (hs : Nat → Value) (args : List Value), Pers g w → okArgs g hs ins args → (∀ (i : Nat) (it : Item), M[i]? = some it → fzOk g hs (hs i) it) →
  Calls Try.prog f args.toArray w (fun en w' => ∃ v g', en = .returned v ∧ Base (cfg0 0 w g) w' g' ∧ cellV v ∧ it.ok g' hs0 w' v ∧ ∀ b, blk v = some b → b < w'.heap.size ∧ w.heap.size ≤ b ∧ g' b = none)
theorem mt_callI {it : Item} (p : Nat) {f : Nat} {ins : List SC} {M : List Item} (ct : CtI f ins M it) (en : ∀ args w, (callFunc f args).run Try.prog w = .ok (.enter f args) w) {caps : List Nat} (rn : List Nat) {fo : Operand} {args : Array Operand} {ats : Array TypeId} (hir : it.refs = [])
    (ho : o.op = .call ⟨.value fo, args, ats⟩) (hf : evX S.F fo = some (.sv (.one (.fn f caps)))) (ha : (match evXs S.F args.toList with | some l => some (l ++ caps.map fun i => .sv (.one (.ptr i 0))) | none => none) = some (ins.map (SC.ren fun i => rn.getD i 0)))
    (hM : fzE S.M (fun i => rn.getD i 0) 0 M = M.map fun it => some (it.ren fun i => rn.getD i 0)) (hz : M.all fzB = true) (hcb : caps.all (boxB S) = true) : MT c S o (.sv (.one (.own p))) [] (some (p, it)) := fun a w g hs h N Z hN => by
  unfold Oper.wp
  have hfv : a.eval fo = .func (.func f) #[] (caps.map hs).toArray := (evX_ok h hf).1
  split at ha
  case h_2 => cases ha
  rename_i l' hl
  simp only [Option.some.injEq] at ha
  have h1 := evXs_ok h hl
  have hcp : ∀ i ∈ caps, ∃ b, hs i = .pointer (some ⟨b, 0, none⟩) := fun i hi => by
    have := List.all_eq_true.1 hcb i hi
    unfold boxB at this
    cases hm : S.M[i]? with
    | none => rw [hm] at this; cases this
    | some it =>
      rw [hm] at this
      cases it <;> try (cases this; done)
      obtain ⟨b, cs, h1, _⟩ := h.items i _ hm
      exact ⟨b, h1⟩
  have h2 : okArgs g hs (caps.map fun i => SC.sv (.one (.ptr i 0))) (caps.map hs) := by
    clear ha hf hfv hcb
    induction caps with
    | nil => trivial
    | cons i caps ih =>
      refine ⟨?_, ih (fun j hj => hcp j (List.mem_cons_of_mem _ hj))⟩
      obtain ⟨b, hb⟩ := hcp i (by simp)
      exact ⟨⟨b, hb, hb⟩, by rw [hb]; trivial⟩
  have h3 := okArgs_append h1 h2
  rw [ha] at h3
  have h4 := okArgs_ren h3
  have hrun : (execOp a.eval o).run Try.prog w = .ok (.enter f ((args.toList.map a.eval) ++ caps.map hs).toArray) w := by
    unfold execOp
    simp only [ho, resolve, hfv, Deferred.ofValue, Sem.run_bind, Sem.run_pure, Result.andThen_ok, invoke]
    rw [show (#[] ++ Array.map a.eval args ++ (List.map hs caps).toArray : Array Value) = (args.toList.map a.eval ++ caps.map hs).toArray by simp]
    exact en _ _
  rw [hrun]
  refine (ct w g (fun i => hs (rn.getD i 0)) _ h.base.pers h4 (fun i it hi => ?_)).mono ?_
  · have h5 := fzE_ok hM i it hi
    rw [Nat.zero_add] at h5
    exact fz_of (f := fun i => rn.getD i 0) (i := i) h5 (List.all_eq_true.1 hz it (List.mem_of_getElem? hi)) h
  · rintro e' w' ⟨v, g', rfl, h5, hcv, h6, h8⟩
    refine hN v w' g' v (Eff.of_base h5) ⟨?_, ?_⟩ ⟨Item.ok_hs (fun j hj => by rw [hir] at hj; cases hj) h6, fun b hb => ?_⟩
    · show v = (if p = p then v else hs p)
      rw [if_pos rfl]
    · exact hcv
    · exact ⟨(h8 b hb).1, fun _ => (h8 b hb).2.2, .inl (h8 b hb).2.1⟩
variable {rest : List Oper} {ops : Array Oper} {N : Po} {n : Nat}
/-- is it nil? -/
theorem WL.eqNil {α : Type} {T : Ty α} {l : List α} {m t e d : Nat} {yt : Nat} {x : Operand} {ti : TI} (op : BinOp) (neg : Bool) (hop : (op = .eql ∧ neg = false) ∨ (op = .neq ∧ neg = true)) (ht : tab.ok) (hn : c.n = n) (hw : wantE ops S.F o = some true) (ho : o.op = .binOp op t x (.const (.slice none 0 0)) yt) (h1 : tab t = some ti) (h2 : ti.sl = some e)
    (hx : evX S.F x = some (.sv (.one (.sl (slR T l) m)))) (hdst : o.dst = some d) (hd : Nat.blt d n = true) (h : ∀ b : Bool, (b = true → l = []) → WL c ops rest (S.put (some d) (.sv (.one (.v (.bool (b != neg)))))) N) : WL c ops (o :: rest) S N := fun a w ⟨g, hs, hk⟩ => by
  unfold wpList
  rw [if_pos (wantE_ok hk hw)]
  refine .inl ?_
  unfold Oper.wp
  have hu := slT_some ((ht t ti h1).sl.trans h2)
  obtain ⟨⟨⟨ao, n', cap, e1, e2, e3, e4, e5, _⟩, _⟩, _⟩ := evX_ok hk hx
  have hd' : d < c.n := by rw [hn]; exact Nat.le_of_ble_eq_true hd
  have hrun : (execOp a.eval o).run Try.prog w = .ok (.value (.bool (ao.isNone != neg))) w := by
    obtain ⟨X, hX⟩ : ∃ X : Sem Value, X = (do eqGuard op t x (.const (.slice none 0 0)) (a.eval x) (.slice none 0 0); binOp op t (a.eval x) (.slice none 0 0)) := ⟨_, rfl⟩
    have e : execOp a.eval o = (do pure (.value (← X)) : Sem Next) := by rw [hX]; unfold execOp; rw [ho]; rfl
    rw [e]
    refine run_val ?_
    rw [hX, e1]
    have heq : (Op.equal t (.slice ao n' cap) (.slice none 0 0)).run Try.prog w = .ok ao.isNone w := by
      show (Op.equalIn (9999 + 1) _ _ _).run _ _ = _
      rw [Op.equalIn]
      simp only [Sem.run_bind, run_underlying hu, Result.andThen_ok]
      cases ao <;> simp
    rcases hop with ⟨rfl, rfl⟩ | ⟨rfl, rfl⟩
    · have hg : (eqGuard .eql t x (.const (.slice none 0 0)) (.slice ao n' cap) (.slice none 0 0)).run Try.prog w = .ok () w := by simp [eqGuard]
      rw [Sem.run_bind, hg, Result.andThen_ok]
      simp only [binOp, Sem.run_bind, heq, Result.andThen_ok]
      cases ao <;> simp
    · have hg : (eqGuard .neq t x (.const (.slice none 0 0)) (.slice ao n' cap) (.slice none 0 0)).run Try.prog w = .ok () w := by simp [eqGuard]
      rw [Sem.run_bind, hg, Result.andThen_ok]
      simp only [binOp, Sem.run_bind, heq, Result.andThen_ok]
      cases ao <;> simp
  rw [hrun]
  have := h ao.isNone (fun hb => by
    have : ao = none := by cases ao <;> simp at hb ⊢
    have := e5 this
    exact List.eq_nil_of_length_eq_zero (by omega))
  refine this _ _ ⟨g, hs, ?_⟩
  rw [hdst]
  exact hk.put (fun d2 e => by cases e; exact hd') (fun _ _ => ⟨rfl, trivial⟩)
/-- a contract whose result is one of several new pieces of memory, the caller's own -/
def CtJ {β : Type} (f : Nat) (ins : List SC) (M : List Item) (post : β → Prop) (itf : β → Item) : Prop := ∀ (w : World) (g : Gh) (hs : Nat → Value) (args : List Value), Pers g w → okArgs g hs ins args → (∀ (i : Nat) (it : Item), M[i]? = some it → fzOk g hs (hs i) it) →
  Calls Try.prog f args.toArray w (fun en w' => ∃ v g' r, en = .returned v ∧ post r ∧ Base (cfg0 0 w g) w' g' ∧ cellV v ∧ (itf r).ok g' hs0 w' v ∧ ∀ b, blk v = some b → b < w'.heap.size ∧ w.heap.size ≤ b ∧ g' b = none)
theorem CtJ.fun {β : Type} {f : Nat} {ins : List SC} {M : List Item} {r : β} {itf : β → Item} (h : CtJ f ins M (fun x => x = r) itf) : CtI f ins M (itf r) := fun w g hs args h1 h2 h3 =>
  (h w g hs args h1 h2 h3).mono fun e w' ⟨v, g', r', e1, e2, e3⟩ => ⟨v, g', e1, by subst e2; exact e3⟩
def RetJ {β : Type} (c : Cfg) (rs : Array ResultVar) (post : β → Prop) (itf : β → Item) : Po := fun a w => a.defers = [] ∧ ∃ v g' r, (resR rs a.tmps).run Try.prog w = .ok v w ∧ post r ∧ Base c w g' ∧ cellV v ∧ (itf r).ok g' hs0 w v ∧ ∀ b, blk v = some b → b < w.heap.size ∧ c.w0.heap.size ≤ b ∧ g' b = none
theorem CtJ.body {β : Type} {post : β → Prop} {itf : β → Item} {f : Nat} {fn : Func} {code : Code} {n : Nat} {rs : Array ResultVar} {ins : List SC} {M : List Item} (hf : Try.prog.funcs[f]? = some fn) (hb : fn.body = some code) (hn : fn.ntmps = n) (hr : fn.results = rs)
    (hl : Nat.ble ins.length n = true) (h : ∀ c : Cfg, c.n = n → c.may = (fun _ => False) → En c ⟨enumF 0 ins, M⟩ (cwp code (PQ (RetJ c rs post itf) [] (RetJ c rs post itf)))) : CtJ f ins M post itf := fun w g hs args hp ha hm => by
  have hl := Nat.le_of_ble_eq_true hl
  have hla := okArgs_length ha
  refine calls_of_wp hf hb (Code.wp_mono (fun ex a w' q => ?_) (h (cfg0 n w g) rfl rfl { tmps := args.toArray ++ Array.replicate (fn.ntmps - args.toArray.size) undef, defers := [] } w ⟨g, hs, ?_⟩))
  · have key : RetJ (cfg0 n w g) rs post itf a w' → a.defers = [] ∧ ∃ v, (results fn a.tmps).run Try.prog w' = .ok v w' ∧ ∃ v' g' r', Ending.returned v = .returned v' ∧ post r' ∧ Base (cfg0 0 w g) w' g' ∧ cellV v' ∧ (itf r').ok g' hs0 w' v' ∧ ∀ b, blk v' = some b → b < w'.heap.size ∧ w.heap.size ≤ b ∧ g' b = none := fun ⟨h1, v, g', r', h2, h4, h5, h6, h7, h8⟩ => by
      refine ⟨h1, v, ?_, v, g', r', rfl, h4, ⟨h5.os, h5.tape, h5.output, h5.grows, h5.frame, h5.ghle, h5.ghnew, h5.pers⟩, h6, h7, h8⟩
      subst hr
      exact h2
    cases ex <;> first | exact key q | exact (q : False).elim
  · refine ⟨?_, rfl, ⟨rfl, rfl, rfl, Nat.le_refl _, fun _ _ _ => rfl, Gh.le.refl g, fun b o e => .inl e, hp⟩, fun t x hx => ?_, fun i it hi => ?_, ?_, ?_⟩
    · simp [cfg0, hn]
      omega
    · obtain ⟨u, h1, _, h3⟩ := enumF_ok ha hx
      simp only [Nat.sub_zero] at h1
      have hlt := (List.getElem?_eq_some_iff.1 h1).1
      have : (args.toArray ++ Array.replicate (fn.ntmps - args.toArray.size) undef).getD t undef = u := by
        rw [Array.getD_eq_getD_getElem?, Array.getElem?_append_left (by simpa using hlt)]
        simp [h1]
      rw [this]
      exact h3
    · have := hm i it hi
      cases it <;> try exact this.elim
      rename_i cells ty fz
      cases fz
      · exact this.elim
      · obtain ⟨b, cs, h1, h2, h3⟩ := this
        exact ⟨b, cs, h1, h2, hp _ _ h3, fun _ => h3⟩
    · intro i j it jt _ hi _ hfi
      have := hm i it hi
      cases it <;> try exact this.elim
      rename_i cells ty fz
      cases fz
      · exact this.elim
      · cases hfi
    · intro i it hi hnn b hb
      clear hnn
      have := hm i it hi
      cases it <;> try exact this.elim
      rename_i cells ty fz
      cases fz
      · exact this.elim
      · obtain ⟨b', cs, h1, h2, h3⟩ := this
        rw [h1] at hb
        cases hb
        exact ⟨hp.lt h3, fun h => by cases h⟩
theorem res_one {tmps : Array Value} {t : Nat} {w : World} : (resR #[.tmp t] tmps).run Try.prog w = .ok (tmps.getD t undef) w := by
  simp [resR]
theorem En.backJ {β : Type} {post : β → Prop} {itf : β → Item} {t i : Nat} {l : β} (hmay : c.may = fun _ => False) (hl : look t S.F = some (.sv (.one (.own i)))) (hm : S.M[i]? = some (itf l)) (hz : (itf l).fz = false) (hr : (itf l).refs = []) (hp : post l) : En c S (RetJ c #[.tmp t] post itf) := fun a w ⟨g, hs, h⟩ => by
  have hv := h.slots t _ (look_mem hl)
  have hv1 : a.tmps.getD t undef = hs i := hv.1
  refine ⟨h.defers, hs i, g, l, by rw [res_one, hv1], hp, h.base, hv1 ▸ hv.2, Item.ok_hs (fun j hj => by rw [hr] at hj; cases hj) (h.items i _ hm), fun b hb => ?_⟩
  obtain ⟨m1, m2⟩ := h.mine i _ hm (fz_gone hz) b hb
  obtain ⟨m3, m4⟩ := m2 hz
  rw [hmay] at m3
  exact ⟨m1, m3.resolve_left (fun h => h), m4⟩
theorem En.backN {α : Type} {T : Ty α} {post : List α → Prop} {e t : Nat} (hl : look t S.F = some (.sv (.one (.v (.slice none 0 0))))) (hp : post []) : En c S (RetJ c #[.tmp t] post (fun l => rowI e T l)) := fun a w ⟨g, hs, h⟩ => by
  have hv : a.tmps.getD t undef = .slice none 0 0 := (h.slots t _ (look_mem hl)).1
  exact ⟨h.defers, .slice none 0 0, g, [], by rw [res_one, hv], hp, h.base, trivial, ⟨[], World.ownsRow_nil _ _ _ _, rowRead.nil⟩, fun b hb => by cases hb⟩
theorem En.freeze (l : List Nat) {M' : List Item} (e : fzSets S.M l = some M') (h : En c ⟨S.F, M'⟩ N) : En c S N := fun a w ⟨g, hs, hk⟩ => by
  obtain ⟨g', hk'⟩ := freezes (F := S.F) e hk
  exact h a w ⟨g', hs, hk'⟩
theorem mt_fv {x x' : SC} (ht : tab.ok) (e : evV tab S o = some x) (hx : ∀ a w g hs, Ok' c S a w g hs → ∀ u, SC.ok g hs x u → SC.ok g hs x' u) : MT c S o x' [] none := mt_val fun a w g hs hk => by
  obtain ⟨v, h1, h2⟩ := evV_ok ht hk e
  exact ⟨v, h1, hx a w g hs hk v h2⟩
theorem oks_nil {α : Type} {T : Ty α} {g : Gh} {hs : Nat → Value} : ∀ {l : List At} {us : List Value} (j : Nat), l[j]? = some (.v (.slice none 0 0)) → oks g hs l us → oks g hs (l.set j (LS T ([] : List α))) us
  | [], _, _, e, _ => by simp at e
  | _ :: _, [], _, _, h => h.elim
  | a :: _, u :: _, 0, e, h => by
    simp at e
    subst e
    have : u = .slice none 0 0 := h.1.1
    subst this
    exact ⟨ls_nil, h.2.1, h.2.2⟩
  | _ :: _, _ :: _, j + 1, e, h => ⟨h.1, h.2.1, oks_nil j (by simpa using e) h.2.2⟩
theorem WL.nilAgg {α : Type} {T : Ty α} {L : List Oper} {cells : List At} (t j : Nat) (hl : look t S.F = some (.sv (.agg cells))) (hj : cells[j]? = some (.v (.slice none 0 0))) (h : WL c ops L ⟨(t, .sv (.agg (cells.set j (LS T ([] : List α))))) :: S.F, S.M⟩ N) : WL c ops L S N :=
  WL.ghost t (x' := .sv (.agg (cells.set j (LS T ([] : List α))))) hl (fun a w g hs _ u hu => by
    obtain ⟨us, h1, h2⟩ := hu
    exact ⟨us, h1, oks_nil j hj h2⟩) h
end
end Go.Proofs.Ytfpdnigihjmohaa
