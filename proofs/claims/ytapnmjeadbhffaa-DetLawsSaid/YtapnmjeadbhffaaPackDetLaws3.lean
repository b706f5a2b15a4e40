/- Lemmas towards the statement: mirrors of functions, and plain laws. No condition. -/
import Derived.Laws.BytesString
import Derived.Shelf.Abstract
import Derived.Test.YtapnmjeadbhffaaPackDetLaws2


namespace Go.Proofs.Ytapnmjeadbhffaa
open Go.RowKit Go.MapKept
set_option linter.unusedSimpArgs false
set_option linter.unusedVariables false
set_option maxRecDepth 100000
set_option linter.unusedSectionVars false
def bytesOf (l : List Int) : ByteArray := l.foldl (fun r n => r.push (UInt8.ofNat n.toNat)) ByteArray.empty
theorem push_toList (l : List Int) : ∀ s : ByteArray, (l.foldl (fun r n => r.push (UInt8.ofNat n.toNat)) s).data.toList = s.data.toList ++ l.map fun n => UInt8.ofNat n.toNat := by
  induction l with
  | nil => intro s; simp
  | cons n l ih => intro s; rw [List.foldl_cons, ih]; simp [ByteArray.push]
theorem bytesOf_inj {l m : List Int} (hl : ∀ x ∈ l, 0 ≤ x ∧ x < 256) (hm : ∀ x ∈ m, 0 ≤ x ∧ x < 256) (h : bytesOf l = bytesOf m) : l = m := by
  have e := congrArg (fun s : ByteArray => s.data.toList) h
  simp only [bytesOf, push_toList] at e
  have e0 : ByteArray.empty.data.toList = [] := rfl
  rw [e0, List.nil_append, List.nil_append] at e
  clear h e0
  induction l generalizing m with
  | nil =>
    cases m with
    | nil => rfl
    | cons y m => simp at e
  | cons x l ih =>
    cases m with
    | nil => simp at e
    | cons y m =>
      simp only [List.map_cons, List.cons.injEq] at e
      have h1 := hl x List.mem_cons_self
      have h2 := hm y List.mem_cons_self
      have h3 : x.toNat = y.toNat := by
        have := congrArg UInt8.toNat e.1
        simp only [UInt8.toNat_ofNat'] at this
        omega
      rw [ih (fun z hz => hl z (List.mem_cons_of_mem _ hz)) (fun z hz => hm z (List.mem_cons_of_mem _ hz)) e.2, show x = y by omega]
theorem rowRead.bytes {l : List Int} {g : Gh} {cs : List Value} {k : IntKind} (h : rowRead (intKT k) l g cs) : cs = l.map (Value.int k) := by
  obtain ⟨us, rfl, h2, h3⟩ := h
  have : us = l.map (Value.int k) := by
    refine List.ext_getElem? fun q => ?_
    rw [List.getElem?_map]
    cases hu : us[q]? with
    | none =>
      have := List.getElem?_eq_none_iff.1 hu
      rw [List.getElem?_eq_none (by omega)]
      rfl
    | some u =>
      have hq := (List.getElem?_eq_some_iff.1 hu).1
      have ha : l[q]? = some (l[q]'(by omega)) := List.getElem?_eq_getElem (by omega)
      rw [ha]
      have := (h3 q u _ hu ha).1.1
      show some u = some _
      rw [show u = _ from this]
  rw [this]
  clear this h2 h3
  induction l with
  | nil => rfl
  | cons x l ih => simp only [List.map_cons, List.flatMap_cons, ih]; rfl
theorem flat_drop {s : Nat} : ∀ {us : List Value} (k : Nat), (∀ u ∈ us, u.cells.size = s) → (us.flatMap (·.cells.toList)).drop (k * s) = (us.drop k).flatMap (·.cells.toList)
  | us, 0, _ => by simp
  | [], k + 1, _ => by simp
  | u :: us, k + 1, h => by
    have hu : u.cells.toList.length = s := by simpa using h u List.mem_cons_self
    have ih := flat_drop (us := us) k fun x hx => h x (List.mem_cons_of_mem _ hx)
    rw [List.flatMap_cons, List.drop_succ_cons, Nat.succ_mul, Nat.add_comm, ← hu, ← List.drop_drop, List.drop_left, hu]
    exact ih
theorem rowRead.drop {α : Type} {T : Ty α} {l : List α} {g : Gh} {cs : List Value} (h : rowRead T l g cs) (k : Nat) : rowRead T (l.drop k) g (cs.drop (k * T.s)) := by
  obtain ⟨us, rfl, h2, h3⟩ := h
  refine ⟨us.drop k, flat_drop k (rowRead.sizes h2 h3), by simp [h2], fun q u a hu ha => ?_⟩
  rw [List.getElem?_drop] at hu ha
  exact h3 _ u a hu ha
section
variable {c : Cfg} {S S1 : St} {a : Act} {w : World} {g : Gh} {hs : Nat → Value} {tab : Tab} {n : Nat} {o : Oper} {ops : Array Oper} {rest L : List Oper} {N : Po}
theorem srcOwn {α : Type} {T : Ty α} {es : List α} {y : Operand} {i e : Nat} (hT : T.solid) (hy : evX S.F y = some (.sv (.one (.own i)))) (hm : S.M[i]? = some (rowI e T es)) : SrcOk c S y T es := fun a w g hs h => by
  have hv : a.eval y = hs i := (evX_ok h hy).1
  obtain ⟨cs, ⟨hl0, r1⟩, r2⟩ := h.items i _ hm
  refine ⟨cs, ?_, r2⟩
  rw [hv]
  rcases r1 with ⟨e1, e2⟩ | ⟨gb, of, cap, cur, e1, e4, _, _, _, e5⟩
  · refine ⟨none, 0, by rw [e1, e2], fun _ => ⟨rfl, e2⟩, hl0, fun j u hj => ?_, fun u hu => (r2.cells hT u hu).one⟩
    have := (List.getElem?_eq_some_iff.1 hj).1
    rw [hl0, e2] at this
    omega
  · refine ⟨some ⟨gb, of, none⟩, cap, e1, (fun h => by cases h), hl0, fun j u hj => ⟨gb, of, rfl, ?_⟩, fun u hu => (r2.cells hT u hu).one⟩
    unfold World.cell?
    rw [← e5, List.getElem?_take] at hj
    split at hj
    · rw [List.getElem?_drop] at hj
      simp only [e4]
      simpa using hj
    · cases hj
theorem val_str {l : List Int} {src t e : Nat} {x : Operand} (ho : o.op = .convert src t x) (h1 : Try.prog.underlying src = some (.slice e)) (h2 : Try.prog.underlying e = some (.int .u8)) (h3 : Try.prog.underlying t = some .string) (hx : SrcOk c S x (intKT .u8) l) : Val c S o (.sv (.one (.v (.string (bytesOf l))))) := fun a w g hs h => by
  obtain ⟨cs, ⟨ao, cp, e1, e2, e3, e4, e5⟩, r⟩ := hx a w g hs h
  obtain rfl := r.bytes
  refine ⟨.string (bytesOf l), ?_, rfl, trivial⟩
  have : (execOp a.eval o) = (do pure (.value (← convert src t (a.eval x))) : Sem Next) := by unfold execOp; rw [ho]
  rw [this]
  refine run_val ?_
  rw [e1, run_convert_bytes_string w src t e ao _ cp h1 h2 h3]
  cases ao with
  | none =>
    obtain ⟨_, h0⟩ := e2 rfl
    obtain rfl := List.eq_nil_of_length_eq_zero h0
    rfl
  | some ad =>
    refine run_bytesToString w ad _ cp l ?_
    have := run_loadCells_list (P := Try.prog) (w := w) ad (l.map (Value.int .u8)) fun j v hj => by
      obtain ⟨b, of, h4, h5⟩ := e4 j v hj
      cases h4
      rw [svs_add]
      exact h5
    rw [List.length_map] at this
    exact this
theorem beq_bytes (u v : ByteArray) : (u == v) = decide (u = v) := by
  cases u with
  | mk a =>
    cases v with
    | mk b =>
      show (a == b) = _
      by_cases e : a = b
      · subst e; simp
      · rw [show (a == b) = false from beq_eq_false_iff_ne.2 e]
        simp [e]
theorem val_lenM {κ α : Type} [DecidableEq κ] {enc : κ → Value} {T : Ty α} {D : List (κ × α)} {x : Operand} {t i kt e : Nat} {r : Rl (Array MapEntry × Nat)} (ho : o.op = .call ⟨.builtin .len, #[x], #[t]⟩) (ht : Try.prog.underlying t = some (.map kt e)) (hx : evX S.F x = some (.sv (.one (.own i)))) (hm : S.M[i]? = some (.map r)) (hr : MapAs enc T D r) : Val c S o (.sv (.one (I (D.length : Int)))) := fun a w g hs h => by
  obtain ⟨m, D0, h1, ⟨es, clock, h2, h3, _⟩, h4, _⟩ := map_ownR h hm hr
  have hv : a.eval x = .map (some m) := (evX_ok h hx).1.trans h1
  have hl : es.size = D.length := by
    have e1 := congrArg List.length h3
    have e2 := congrArg List.length h4
    simp only [List.length_map, Array.length_toList] at e1 e2
    omega
  have hrun : (execOp a.eval o).run Try.prog w = .ok (.value (.int .i64 (D.length : Int))) w := by
    have : execOp a.eval o = (do pure (.value (← Builtin.len_ #[t] o.type #[a.eval x])) : Sem Next) := by
      unfold execOp
      rw [ho]
      simp [resolve, invoke, builtin]
    rw [this, hv]
    refine run_val ?_
    simp [Builtin.len_, run_underlying ht, MapKept.run_getObj_map h2, hl, goInt, Result.andThen]
  exact ⟨_, hrun, rfl, trivial⟩
theorem mt_alloc2 (p : Nat) (t : Nat) {ti : TI} {cells : List At} (ht : tab.ok) (ho : o.op = .alloc t) (h1 : tab t = some ti) (hz : ti.zero.map .v = cells) : MT c S o (.sv (.one (.ptr p 0))) [] (some (p, .box cells t false)) := hz ▸ mt_alloc p ht ho h1
theorem mt_sliceF {α : Type} {T : Ty α} {l : List α} {i p t el : Nat} {ti te : TI} {x q : Operand} {lv : Int} (ht : tab.ok) (ho : o.op = .slice t x (some q) none none) (h1 : tab t = some ti) (h2 : ti.sl = some el) (h3 : tab el = some te) (h4 : te.size = T.s)
    (hx : evX S.F x = some (.sv (.one (.own i)))) (hm : S.M[i]? = some (rowI el T l)) (hlo : evK S.F q = some (.int .i64 lv)) (h5 : 0 ≤ lv ∧ lv ≤ (l.length : Int)) : MT c S o (.sv (.one (.own p))) [i] (some (p, rowI el T (l.drop lv.toNat))) := fun a w g hs h N Z hN => by
  obtain ⟨h6, h7⟩ := h5
  have hu := slT_some ((ht t ti h1).sl.trans h2)
  have hv0 : a.eval x = hs i := (evX_ok h hx).1
  obtain ⟨cs, ⟨hl0, r1⟩, r2⟩ := h.items i _ hm
  have hmine := h.mine i _ hm (by simp)
  have hlen : (l.drop lv.toNat).length = l.length - lv.toNat := by simp
  obtain ⟨ao, cap, e1, hcap, hao⟩ : ∃ ao cap, hs i = .slice ao l.length cap ∧ (l.length : Int) ≤ cap ∧ (∀ b, ao = some b → ∃ gb of, b = ⟨gb, of, none⟩) := by
    rcases r1 with ⟨e3, e4⟩ | ⟨gb, of, cap, cur, e3, e4, e5, _⟩
    · exact ⟨none, 0, by rw [e3, e4], by rw [e4]; simp, fun b hb => by cases hb⟩
    · exact ⟨_, cap, e3, by omega, fun b hb => ⟨gb, of, by cases hb; rfl⟩⟩
  have hb : (Instr.sliceBounds true l.length cap (some (a.eval q)) none none).run Try.prog w = .ok (lv.toNat, l.length, cap) w := by
    unfold Instr.sliceBounds
    simp only [Sem.run_bind, Sem.run_pure, Result.andThen_ok, Instr.sliceBound, evK_ok h hlo, asIntOf]
    rw [if_pos (by omega)]
    simp
  have hrun : (execOp a.eval o).run Try.prog w = .ok (.value (.slice (if cap = lv.toNat then ao else ao.map (·.add (lv.toNat * T.s))) (l.length - lv.toNat) (cap - lv.toNat))) w := by
    have : execOp a.eval o = (do pure (.value (← Instr.sliceAt t (a.eval x) (some (a.eval q)) none none)) : Sem Next) := by unfold execOp; rw [ho]; rfl
    rw [this]
    refine run_val ?_
    simp only [Instr.sliceAt, Instr.slice, Sem.run_bind, run_underlying hu, Result.andThen_ok, hv0, e1, hb, (ht el te h3).run_size, Sem.run_pure, h4]
  unfold Oper.wp
  rw [hrun]
  refine hN _ _ g (.slice (if cap = lv.toNat then ao else ao.map (·.add (lv.toNat * T.s))) (l.length - lv.toNat) (cap - lv.toNat)) ⟨rfl, rfl, rfl, Nat.le_refl _, fun _ _ _ => rfl, Gh.le.refl g, fun _ _ e => .inl e, h.base.pers⟩ ⟨?_, trivial⟩ ⟨⟨cs.drop (lv.toNat * T.s), ⟨?_, ?_⟩, r2.drop lv.toNat⟩, fun b hb => ?_⟩
  · show _ = (if p = p then _ else hs p)
    rw [if_pos rfl]
  · rw [hlen, List.length_drop, hl0, Nat.sub_mul]
  · rw [hlen]
    rcases r1 with ⟨e3, e4⟩ | ⟨gb, of, cap', cur, e3, e4, e5, e6, e7, e8⟩
    · rw [e3] at e1
      simp only [Value.slice.injEq] at e1
      obtain ⟨rfl, _, rfl⟩ := e1
      left
      rw [if_pos (by omega)]
      exact ⟨by congr 1 <;> omega, by omega⟩
    · rw [e3] at e1
      simp only [Value.slice.injEq] at e1
      obtain ⟨rfl, _, rfl⟩ := e1
      by_cases hc : cap' = lv.toNat
      · rw [if_pos hc]
        refine .inr ⟨gb, of, cap' - lv.toNat, cur, rfl, e4, by omega, by omega, ?_, ?_⟩
        · rw [hc, Nat.sub_self, Nat.zero_mul]
          omega
        · rw [show l.length - lv.toNat = 0 by omega, Nat.zero_mul, List.take_zero]
          symm
          rw [List.drop_eq_nil_iff, hl0]
          exact Nat.mul_le_mul_right _ (by omega)
      · rw [if_neg hc]
        refine .inr ⟨gb, of + lv.toNat * T.s, cap' - lv.toNat, cur, by simp [Addr.add_lit], e4, by omega, by omega, ?_, ?_⟩
        · rw [Nat.sub_mul]
          have : lv.toNat * T.s ≤ cap' * T.s := Nat.mul_le_mul_right _ (by omega)
          omega
        · rw [← e8, List.drop_take, List.drop_drop, Nat.sub_mul]
  · have hb' : Blk (hs i) b := by
      rw [e1]
      cases ao with
      | none => split at hb <;> cases hb
      | some q =>
        split at hb
        · exact hb
        · have : (q.add (lv.toNat * T.s)).block = b := Option.some.inj hb
          obtain ⟨gb, of, rfl⟩ := hao _ rfl
          rw [Addr.add_lit] at this
          exact congrArg some this
    obtain ⟨m1, m2⟩ := hmine b hb'
    exact ⟨m1, fun _ => (m2 rfl).2, .inr ⟨i, by simp, hb'⟩⟩
end
end Go.Proofs.Ytapnmjeadbhffaa


namespace Go.Proofs.Ytapnmjeadbhffaa
open Go.RowKit
set_option linter.unusedSimpArgs false
set_option linter.unusedVariables false
set_option maxRecDepth 100000
def idxTo {α : Type} (p : α → Bool) (l : List α) : Int := match l.findIdx? p with | some k => k | none => -1
theorem idxTo_nonneg {α : Type} (p : α → Bool) (l : List α) : decide (0 ≤ idxTo p l) = l.any p := by
  unfold idxTo
  cases h : l.findIdx? p with
  | none =>
    rw [List.findIdx?_eq_none_iff] at h
    have : l.any p = false := by
      rw [List.any_eq_false]
      intro x hx
      simp [h x hx]
    rw [this]
    rfl
  | some k =>
    obtain ⟨hk, hp, _⟩ := List.findIdx?_eq_some_iff_getElem.1 h
    have : l.any p = true := List.any_eq_true.2 ⟨_, List.getElem_mem hk, hp⟩
    rw [this]
    simp
theorem idxTo_hit {α : Type} [Inhabited α] {p : α → Bool} {l : List α} {k : Nat} (d : α) (hk : k < l.length) (hp : p (l.getD k d) = true) (hn : ∀ j, j < k → p (l.getD j d) = false) : idxTo p l = k := by
  unfold idxTo
  have : l.findIdx? p = some k := by
    rw [List.findIdx?_eq_some_iff_getElem]
    refine ⟨hk, by simpa [hk] using hp, fun j hj => ?_⟩
    have := hn j hj
    simp [show j < l.length by omega] at this
    simp [this]
  rw [this]
theorem idxTo_miss {α : Type} {p : α → Bool} {l : List α} (d : α) (hn : ∀ j, j < l.length → p (l.getD j d) = false) : idxTo p l = -1 := by
  unfold idxTo
  have : l.findIdx? p = none := by
    rw [List.findIdx?_eq_none_iff]
    intro x hx
    obtain ⟨j, hj, rfl⟩ := List.mem_iff_getElem.1 hx
    have := hn j hj
    simpa [hj] using this
  rw [this]
end Go.Proofs.Ytapnmjeadbhffaa


namespace Go.Proofs.Ytapnmjeadbhffaa
open Go.RowKit Go.MapKept
set_option linter.unusedSimpArgs false
set_option linter.unusedVariables false
set_option maxRecDepth 100000
theorem index_plain {α : Type} [Inhabited α] (l : List α) (dom : α → Prop) (φ : α → Bool) (hd : ∀ x ∈ l, dom x) : l.length ≤ 9223372036854775807 → (∃ (Inv : Int → Prop) (mu : Int → Nat), Inv 0 ∧
  ∀ (x8 : Int), Inv x8 → (IfP (decide (x8 < (l.length : Int))) (∃ e, idx l x8 = some e ∧ dom e ∧ IfP (φ e) (x8 = idxTo φ l) (Inv (wr (x8 + 1)) ∧ mu (wr (x8 + 1)) < mu x8)) (-1 = idxTo φ l))) := by
  intro hl
  refine ⟨fun x => ∃ k : Nat, x = k ∧ k ≤ l.length ∧ ∀ j e, j < k → l[j]? = some e → φ e = false, fun x => l.length - x.toNat, ⟨0, rfl, Nat.zero_le _, fun j e hj => absurd hj (Nat.not_lt_zero _)⟩, ?_⟩
  rintro x ⟨k, rfl, hk, hp⟩
  refine ⟨fun hb => ?_, fun hb => ?_⟩
  · have hlt : k < l.length := by simpa using hb
    refine ⟨l[k], by simp [idx, hlt], hd _ (List.getElem_mem hlt), fun h1 => ?_, fun h1 => ?_⟩
    · exact (idxTo_hit l[k] hlt (by simpa [hlt] using h1) (fun j hj => by
        have hjl : j < l.length := by omega
        simpa [hjl] using hp j _ hj (List.getElem?_eq_getElem hjl))).symm
    · rw [wr_in (by omega) (by omega)]
      refine ⟨⟨k + 1, by omega, by omega, fun j e hj he => ?_⟩, by simp only; omega⟩
      by_cases ej : j = k
      · subst ej
        simp [hlt] at he
        subst he
        exact h1
      · exact hp j e (by omega) he
  · have e : k = l.length := by simp at hb; omega
    by_cases h0 : l = []
    · subst h0; rfl
    · have h1 : 0 < l.length := List.length_pos_iff.2 h0
      exact (idxTo_miss (l[0]) fun j hj => by simpa [hj] using hp j _ (by omega) (List.getElem?_eq_getElem hj)).symm
end Go.Proofs.Ytapnmjeadbhffaa


namespace Go.Proofs.Ytapnmjeadbhffaa
open Go.RowKit Go.MapKept
set_option linter.unusedSimpArgs false
set_option linter.unusedVariables false
set_option maxRecDepth 100000
set_option linter.unusedSectionVars false
def CtS {β : Type} (f : Nat) (ins : List SC) (M : List Item) (post : β → Prop) (out : β → SC) (itf : β → Item) : Prop := ∀ (w : World) (g : Gh) (hs : Nat → Value) (args : List Value), Pers g w → okArgs g hs ins args → (∀ (i : Nat) (it : Item), M[i]? = some it → fzOk g hs (hs i) it) →
  Calls Try.prog f args.toArray w (fun en w' => ∃ v g' r h', en = .returned v ∧ post r ∧ Base (cfg0 0 w g) w' g' ∧ (out r).ok g' (fun _ => h') v ∧ (itf r).ok g' hs0 w' h' ∧ ∀ b, Blk h' b → b < w'.heap.size ∧ w.heap.size ≤ b ∧ g' b = none)
theorem CtS.fun {β : Type} {f : Nat} {ins : List SC} {M : List Item} {r : β} {out : β → SC} {itf : β → Item} (h : CtS f ins M (fun x => x = r) out itf) : CtS f ins M (fun (_ : Unit) => True) (fun _ => out r) (fun _ => itf r) := fun w g hs args h1 h2 h3 =>
  (h w g hs args h1 h2 h3).mono fun e w' ⟨v, g', r', h', e1, e2, e3⟩ => ⟨v, g', (), h', e1, trivial, by subst e2; exact e3⟩
def RetS {β : Type} (c : Cfg) (rs : Array ResultVar) (post : β → Prop) (out : β → SC) (itf : β → Item) : Po := fun a w => a.defers = c.dfr ∧ ∃ v g' r h', (resR rs a.tmps).run Try.prog w = .ok v w ∧ post r ∧ Base c w g' ∧ (out r).ok g' (fun _ => h') v ∧ (itf r).ok g' hs0 w h' ∧ ∀ b, Blk h' b → b < w.heap.size ∧ c.w0.heap.size ≤ b ∧ g' b = none
section
variable {c : Cfg} {S S1 : St} {a : Act} {w : World} {g : Gh} {hs : Nat → Value} {tab : Tab} {o : Oper}
theorem CtS.body {β : Type} {post : β → Prop} {out : β → SC} {itf : β → Item} {f : Nat} {fn : Func} {code : Code} {n : Nat} {rs : Array ResultVar} {ins : List SC} {M : List Item} (hf : Try.prog.funcs[f]? = some fn) (hb : fn.body = some code) (hn : fn.ntmps = n) (hr : fn.results = rs)
    (hl : Nat.ble ins.length n = true) (h : ∀ c : Cfg, c.n = n → c.may = (fun _ => False) → En c ⟨enumF 0 ins, M⟩ (cwp code (PQ c (RetS c rs post out itf) [] (RetS c rs post out itf)))) : CtS f ins M post out itf := fun w g hs args hp ha hm => by
  have hl := Nat.le_of_ble_eq_true hl
  have hla := okArgs_length ha
  refine calls_of_wp hf hb (Code.wp_mono (fun ex a w' q => ?_) (h (cfg0 n w g) rfl rfl { tmps := args.toArray ++ Array.replicate (fn.ntmps - args.toArray.size) undef, defers := [] } w ⟨g, hs, ?_⟩))
  · have key : RetS (cfg0 n w g) rs post out itf a w' → a.defers = [] ∧ ∃ v, (results fn a.tmps).run Try.prog w' = .ok v w' ∧ ∃ v' g' r' h', Ending.returned v = .returned v' ∧ post r' ∧ Base (cfg0 0 w g) w' g' ∧ (out r').ok g' (fun _ => h') v' ∧ (itf r').ok g' hs0 w' h' ∧ ∀ b, Blk h' b → b < w'.heap.size ∧ w.heap.size ≤ b ∧ g' b = none := fun ⟨h1, v, g', r', h', h2, h4, h5, h6, h7, h8⟩ => by
      refine ⟨h1, v, ?_, v, g', r', h', rfl, h4, ⟨h5.os, h5.tape, h5.output, h5.grows, h5.frame, h5.ghle, h5.ghnew, h5.pers⟩, h6, h7, h8⟩
      subst hr
      exact h2
    cases ex <;> first | exact key q | exact (q : False).elim | exact (q.2 : False).elim
  · refine ⟨?_, rfl, ⟨rfl, rfl, rfl, Nat.le_refl _, fun _ _ _ => rfl, Gh.le.refl g, fun b o e => .inl e, hp⟩, fun t x hx => ?_, fun i it hi => ?_, ?_, ?_⟩
    · simp [cfg0, hn]
      omega
    · obtain ⟨u, h1, _, h3⟩ := enumF_ok ha hx
      simp only [Nat.sub_zero] at h1
      have hlt := (List.getElem?_eq_some_iff.1 h1).1
      have : (args.toArray ++ Array.replicate (fn.ntmps - args.toArray.size) undef).getD t undef = u := by
        rw [Array.getD_eq_getD_getElem?, Array.getElem?_append_left (by simpa using hlt)]
        simp [h1]
      rw [this]
      exact h3
    · have := hm i it hi
      cases it <;> try exact this.elim
      rename_i cells ty fz
      cases fz
      · exact this.elim
      · obtain ⟨b, cs, h1, h2, h3⟩ := this
        exact ⟨b, cs, h1, h2, hp _ _ h3, fun _ => h3⟩
    · intro i j it jt _ hi _ hfi
      have := hm i it hi
      cases it <;> try exact this.elim
      rename_i cells ty fz
      cases fz
      · exact this.elim
      · cases hfi
    · intro i it hi hnn b hb
      clear hnn
      have := hm i it hi
      cases it <;> try exact this.elim
      rename_i cells ty fz
      cases fz
      · exact this.elim
      · obtain ⟨b', cs, h1, h2, h3⟩ := this
        rw [h1] at hb
        cases hb
        exact ⟨hp.lt h3, fun h => by cases h⟩
theorem En.backS {β : Type} {post : β → Prop} {out : β → SC} {itf : β → Item} {rs : Array ResultVar} (ht : tab.ok) (p : Nat) (r : β) (hmay : c.may = fun _ => False) (hp : post r) (e : evR tab S rs = some ((out r).ren fun _ => p)) (hm : S.M[p]? = some (itf r)) (hz : (itf r).fz = false) (hr : (itf r).refs = []) : En c S (RetS c rs post out itf) := fun a w ⟨g, hs, h⟩ => by
  obtain ⟨v, h1, h2⟩ := evR_ok ht h e
  refine ⟨h.defers, v, g, r, hs p, h1, hp, h.base, SC.ok_ren h2, Item.ok_hs (fun j hj => by rw [hr] at hj; cases hj) (h.items p _ hm), fun b hb => ?_⟩
  obtain ⟨m1, m2⟩ := h.mine p _ hm (fz_gone hz) b hb
  obtain ⟨m3, m4⟩ := m2 hz
  rw [hmay] at m3
  exact ⟨m1, m3.resolve_left (fun h => h), m4⟩
theorem Ok'.boxTurn {i j ty : Nat} {cells : List At} {fz : Bool} {x y : At} (hk : Ok' c S a w g hs) (hm : S.M[i]? = some (.box cells ty fz)) (hj : cells[j]? = some x) (hx : ∀ u, x.ok g hs u → y.ok g hs u) : Ok' c ⟨S.F, S.M.set i (.box (cells.set j y) ty fz)⟩ a w g hs := by
  have hlt := (List.getElem?_eq_some_iff.1 hm).1
  have hold : ∀ (k : Nat) (it : Item), (S.M.set i (.box (cells.set j y) ty fz))[k]? = some it → ∃ jt, S.M[k]? = some jt ∧ jt.fz = it.fz ∧ (it ≠ .gone → jt ≠ .gone) := fun k it h => by
    rw [List.getElem?_set] at h
    by_cases e : i = k
    · subst e
      rw [if_pos rfl, if_pos hlt] at h
      cases h
      exact ⟨_, hm, rfl, fun _ h => by cases h⟩
    · rw [if_neg e] at h
      exact ⟨it, h, rfl, fun h => h⟩
  refine ⟨hk.size, hk.defers, hk.base, hk.slots, fun k it h => ?_, fun k l it jt hkl h1 h2 h3 h4 => ?_, fun k it h hn => ?_⟩
  · rw [List.getElem?_set] at h
    by_cases e : i = k
    · subst e
      rw [if_pos rfl, if_pos hlt] at h
      cases h
      obtain ⟨b, cs, e1, e2, e3, e4⟩ := hk.items i _ hm
      exact ⟨b, cs, e1, oks_turn hx j hj e2, e3, e4⟩
    · rw [if_neg e] at h
      exact hk.items k it h
  · obtain ⟨kt, k1, k2, _⟩ := hold k it h1
    obtain ⟨lt, l1, _, l3⟩ := hold l jt h2
    exact hk.sep k l kt lt hkl k1 l1 (k2.trans h3) (l3 h4)
  · obtain ⟨kt, k1, k2, k3⟩ := hold k it h
    intro b hb
    obtain ⟨m1, m2⟩ := hk.mine k kt k1 (k3 hn) b hb
    exact ⟨m1, fun hf => m2 (k2.trans hf)⟩
theorem En.boxTurn {N : Po} {ty : Nat} {cells : List At} {fz : Bool} {x : At} (y : At) (i j : Nat) (hm : S.M[i]? = some (.box cells ty fz)) (hj : cells[j]? = some x) (hx : ∀ a w g hs, Ok' c S a w g hs → ∀ u, x.ok g hs u → y.ok g hs u) (h : En c ⟨S.F, S.M.set i (.box (cells.set j y) ty fz)⟩ N) : En c S N := fun a w ⟨g, hs, hk⟩ =>
  h a w ⟨g, hs, hk.boxTurn hm hj (hx a w g hs hk)⟩
theorem WL.boxTurn {N : Po} {ops : Array Oper} {L : List Oper} {ty : Nat} {cells : List At} {fz : Bool} {x : At} (y : At) (i j : Nat) (hm : S.M[i]? = some (.box cells ty fz)) (hj : cells[j]? = some x) (hx : ∀ a w g hs, Ok' c S a w g hs → ∀ u, x.ok g hs u → y.ok g hs u) (h : WL c ops L ⟨S.F, S.M.set i (.box (cells.set j y) ty fz)⟩ N) : WL c ops L S N := fun a w ⟨g, hs, hk⟩ =>
  h a w ⟨g, hs, hk.boxTurn hm hj (hx a w g hs hk)⟩
theorem fv_at {r : Rd} {x : At} (h : ∀ a w g hs, Ok' c S a w g hs → ∀ u, SC.ok g hs (.sv (.one x)) u → SC.ok g hs (.sv (.one (.rd r))) u) : ∀ a w g hs, Ok' c S a w g hs → ∀ u, x.ok g hs u → At.ok g hs (.rd r) u := h
theorem val_indexP (i off q : Nat) {t m el sz : Nat} {te : TI} {x ix : Operand} {ik : IntKind} {k : Int} (ht : tab.ok) (ho : o.op = .indexAddr t x ix) (hu : Try.prog.underlying t = some (.array m el)) (h3 : tab el = some te) (h4 : te.size = sz) (hx : evX S.F x = some (.sv (.one (.ptr i off)))) (hi : evK S.F ix = some (.int ik k)) (h0 : 0 ≤ k ∧ k < (m : Int)) (hq : off + k.toNat * sz = q) : Val c S o (.sv (.one (.ptr i q))) := fun a w g hs h => by
  subst hq
  obtain ⟨⟨b, hb, hv⟩, _⟩ := evX_ok h hx
  refine ⟨.pointer (some ⟨b, off + k.toNat * sz, none⟩), ?_, ⟨b, hb, rfl⟩, trivial⟩
  have : (execOp a.eval o) = (do pure (.value (← Instr.indexAt t (a.eval x) (a.eval ix))) : Sem Next) := by unfold execOp; rw [ho]
  rw [this]
  refine run_val ?_
  have hv' : a.eval x = .pointer (some ⟨b, off, none⟩) := hv
  simp only [Instr.indexAt, evK_ok h hi, asIntOf, hv', Instr.sureAddr, Sem.run_bind, Sem.run_pure, Result.andThen_ok, run_underlying hu, if_pos h0, (ht el te h3).run_size, h4, svs_add]
end
end Go.Proofs.Ytapnmjeadbhffaa


namespace Go.Proofs.Ytapnmjeadbhffaa
open Go.RowKit Go.MapKept
set_option linter.unusedSimpArgs false
set_option linter.unusedVariables false
set_option maxRecDepth 100000
structure ApiPush where
  fFrom : Int
  fTop : Int
  fTo : Int
  fPut : (List Int)
deriving DecidableEq, Inhabited
abbrev ApiPush.sv (x : ApiPush) : SV := .agg [I x.fFrom, I x.fTop, I x.fTo, LS intT x.fPut]
abbrev ApiPush.ty : Ty ApiPush := ⟨4, ApiPush.sv⟩
structure ApiConfig where
  fControl : Int
  fStack : (List Int)
deriving DecidableEq, Inhabited
abbrev ApiConfig.sv (x : ApiConfig) : SV := .agg [I x.fControl, LS intT x.fStack]
abbrev ApiConfig.ty : Ty ApiConfig := ⟨2, ApiConfig.sv⟩
structure ApiHeaps where
  fPlaces : Int
  fTakes : (List (List Int))
  fGives : (List (List Int))
deriving DecidableEq, Inhabited
abbrev ApiHeaps.sv (x : ApiHeaps) : SV := .agg [I x.fPlaces, LS (lsT intT) x.fTakes, LS (lsT intT) x.fGives]
abbrev ApiHeaps.ty : Ty ApiHeaps := ⟨3, ApiHeaps.sv⟩
structure ApiPump where
  fBounded : Bool
  fFirst : (List Int)
  fAgain : (List Int)
deriving DecidableEq, Inhabited
abbrev ApiPump.sv (x : ApiPump) : SV := .agg [B x.fBounded, LS intT x.fFirst, LS intT x.fAgain]
abbrev ApiPump.ty : Ty ApiPump := ⟨3, ApiPump.sv⟩
structure ApiCover where
  fCan : Bool
  fSteps : (List Int)
  fBars : (List (List Int))
deriving DecidableEq, Inhabited
abbrev ApiCover.sv (x : ApiCover) : SV := .agg [B x.fCan, LS intT x.fSteps, LS (lsT intT) x.fBars]
abbrev ApiCover.ty : Ty ApiCover := ⟨3, ApiCover.sv⟩
structure ApiArrow where
  fFrom : Int
  fLetter : Int
  fTo : Int
deriving DecidableEq, Inhabited
abbrev ApiArrow.sv (x : ApiArrow) : SV := .agg [I x.fFrom, I x.fLetter, I x.fTo]
abbrev ApiArrow.ty : Ty ApiArrow := ⟨3, ApiArrow.sv⟩
structure ApiGraph where
  fLetters : Int
  fPlaces : Int
  fArrows : (List ApiArrow)
deriving DecidableEq, Inhabited
abbrev ApiGraph.sv (x : ApiGraph) : SV := .agg [I x.fLetters, I x.fPlaces, LS ApiArrow.ty x.fArrows]
abbrev ApiGraph.ty : Ty ApiGraph := ⟨3, ApiGraph.sv⟩
structure ApiLasso where
  fHead : (List Int)
  fLoop : (List Int)
deriving DecidableEq, Inhabited
abbrev ApiLasso.sv (x : ApiLasso) : SV := .agg [LS intT x.fHead, LS intT x.fLoop]
abbrev ApiLasso.ty : Ty ApiLasso := ⟨2, ApiLasso.sv⟩
structure ApiFault where
  fCode : Int
  fAt : Int
deriving DecidableEq, Inhabited
abbrev ApiFault.sv (x : ApiFault) : SV := .agg [I x.fCode, I x.fAt]
abbrev ApiFault.cl (x : ApiFault) : List At := [I x.fCode, I x.fAt]
abbrev ApiFault.ty : Ty ApiFault := ⟨2, ApiFault.sv⟩
structure ApiDet where
  fLetters : Int
  fStart : Int
  fNext : (List (List Int))
  fMark : (List Int)
deriving DecidableEq, Inhabited
abbrev ApiDet.sv (x : ApiDet) : SV := .agg [I x.fLetters, I x.fStart, LS (lsT intT) x.fNext, LS intT x.fMark]
abbrev ApiDet.cl (x : ApiDet) : List At := [I x.fLetters, I x.fStart, LS (lsT intT) x.fNext, LS intT x.fMark]
abbrev ApiDet.ty : Ty ApiDet := ⟨4, ApiDet.sv⟩
structure ApiQuery where
  fGuessed : Bool
  fWord : (List Int)
  fYes : Bool
  fGuess : ApiDet
  fRight : Bool
deriving DecidableEq, Inhabited
abbrev ApiQuery.sv (x : ApiQuery) : SV := .agg [B x.fGuessed, LS intT x.fWord, B x.fYes, I x.fGuess.fLetters, I x.fGuess.fStart, LS (lsT intT) x.fGuess.fNext, LS intT x.fGuess.fMark, B x.fRight]
abbrev ApiQuery.ty : Ty ApiQuery := ⟨8, ApiQuery.sv⟩
structure ApiMake where
  fFrom : Int
  fTo : (List Int)
deriving DecidableEq, Inhabited
abbrev ApiMake.sv (x : ApiMake) : SV := .agg [I x.fFrom, LS intT x.fTo]
abbrev ApiMake.ty : Ty ApiMake := ⟨2, ApiMake.sv⟩
structure ApiGrammar where
  fLetters : Int
  fNames : Int
  fMakes : (List ApiMake)
deriving DecidableEq, Inhabited
abbrev ApiGrammar.sv (x : ApiGrammar) : SV := .agg [I x.fLetters, I x.fNames, LS ApiMake.ty x.fMakes]
abbrev ApiGrammar.ty : Ty ApiGrammar := ⟨3, ApiGrammar.sv⟩
structure StackEdge where
  fFrom : Int
  fSign : Int
  fTo : Int
deriving DecidableEq, Inhabited
abbrev StackEdge.sv (x : StackEdge) : SV := .agg [I x.fFrom, I x.fSign, I x.fTo]
abbrev StackEdge.ty : Ty StackEdge := ⟨3, StackEdge.sv⟩
structure StackWay where
  fTo : Int
  fCost : Int
  fOver : (List StackEdge)
deriving DecidableEq, Inhabited
abbrev StackWay.sv (x : StackWay) : SV := .agg [I x.fTo, I x.fCost, LS StackEdge.ty x.fOver]
abbrev StackWay.ty : Ty StackWay := ⟨3, StackWay.sv⟩
structure CoverBar where
  fState : (List Int)
  fStep : Int
  fThen : Int
deriving DecidableEq, Inhabited
abbrev CoverBar.sv (x : CoverBar) : SV := .agg [LS intT x.fState, I x.fStep, I x.fThen]
abbrev CoverBar.ty : Ty CoverBar := ⟨3, CoverBar.sv⟩
structure TimeNode where
  fKind : Int
  fA : Int
  fB : Int
deriving DecidableEq, Inhabited
abbrev TimeNode.sv (x : TimeNode) : SV := .agg [I x.fKind, I x.fA, I x.fB]
abbrev TimeNode.ty : Ty TimeNode := ⟨3, TimeNode.sv⟩
structure RegularPlaces where
  fLetters : (List Int)
  fNext : (List (List Int))
deriving DecidableEq, Inhabited
abbrev RegularPlaces.sv (x : RegularPlaces) : SV := .agg [LS intT x.fLetters, LS (lsT intT) x.fNext]
abbrev RegularPlaces.cl (x : RegularPlaces) : List At := [LS intT x.fLetters, LS (lsT intT) x.fNext]
abbrev RegularPlaces.ty : Ty RegularPlaces := ⟨2, RegularPlaces.sv⟩
structure DetCouple where
  fE0 : Int
  fE1 : Int
deriving DecidableEq, Inhabited
abbrev DetCouple.sv (x : DetCouple) : SV := .agg [I x.fE0, I x.fE1]
abbrev DetCouple.cl (x : DetCouple) : List At := [I x.fE0, I x.fE1]
abbrev DetCouple.ty : Ty DetCouple := ⟨2, DetCouple.sv⟩
structure MonoidElement where
  fDoes : (List Int)
  fWord : (List Int)
deriving DecidableEq, Inhabited
abbrev MonoidElement.sv (x : MonoidElement) : SV := .agg [LS intT x.fDoes, LS intT x.fWord]
abbrev MonoidElement.ty : Ty MonoidElement := ⟨2, MonoidElement.sv⟩
structure LearnTeacher where
  fD : ApiDet
  fLog : (List ApiQuery)
deriving DecidableEq, Inhabited
abbrev LearnTeacher.sv (x : LearnTeacher) : SV := .agg [I x.fD.fLetters, I x.fD.fStart, LS (lsT intT) x.fD.fNext, LS intT x.fD.fMark, LS ApiQuery.ty x.fLog]
abbrev LearnTeacher.ty : Ty LearnTeacher := ⟨5, LearnTeacher.sv⟩
structure StackKnown where
  fRule : Int
  fCost : Int
  fOver : (List StackEdge)
deriving DecidableEq, Inhabited
abbrev StackKnown.sv (x : StackKnown) : SV := .agg [I x.fRule, I x.fCost, LS StackEdge.ty x.fOver]
abbrev StackKnown.ty : Ty StackKnown := ⟨3, StackKnown.sv⟩
structure TimeStop where
  fFault : ApiFault
deriving DecidableEq, Inhabited
abbrev TimeStop.sv (x : TimeStop) : SV := .agg [I x.fFault.fCode, I x.fFault.fAt]
abbrev TimeStop.ty : Ty TimeStop := ⟨2, TimeStop.sv⟩
structure TimeReader where
  fText : ByteArray
  fI : Int
  fNodes : Int
  fTimes : Int
  fNest : Int
  fL : (List TimeNode)
deriving DecidableEq, Inhabited
abbrev TimeReader.sv (x : TimeReader) : SV := .agg [.v (.string x.fText), I x.fI, I x.fNodes, I x.fTimes, I x.fNest, LS TimeNode.ty x.fL]
abbrev TimeReader.ty : Ty TimeReader := ⟨6, TimeReader.sv⟩
structure St238 where
  fE0 : (List Int)
  fE1 : (List Int)
deriving DecidableEq, Inhabited
abbrev St238.sv (x : St238) : SV := .agg [LS intT x.fE0, LS intT x.fE1]
abbrev St238.ty : Ty St238 := ⟨2, St238.sv⟩
structure FixWrong where
  fFault : ApiFault
deriving DecidableEq, Inhabited
abbrev FixWrong.sv (x : FixWrong) : SV := .agg [I x.fFault.fCode, I x.fFault.fAt]
abbrev FixWrong.ty : Ty FixWrong := ⟨2, FixWrong.sv⟩
structure FixName where
  fSign : Int
  fTurned : Bool
deriving DecidableEq, Inhabited
abbrev FixName.sv (x : FixName) : SV := .agg [.v (.int .u8 x.fSign), B x.fTurned]
abbrev FixName.ty : Ty FixName := ⟨2, FixName.sv⟩
structure FixReader where
  fText : ByteArray
  fI : Int
  fDeep : Int
  fCount : Int
  fAround : (List FixName)
deriving DecidableEq, Inhabited
abbrev FixReader.sv (x : FixReader) : SV := .agg [.v (.string x.fText), I x.fI, I x.fDeep, I x.fCount, LS FixName.ty x.fAround]
abbrev FixReader.ty : Ty FixReader := ⟨5, FixReader.sv⟩
structure BranchWrong where
  fFault : ApiFault
deriving DecidableEq, Inhabited
abbrev BranchWrong.sv (x : BranchWrong) : SV := .agg [I x.fFault.fCode, I x.fFault.fAt]
abbrev BranchWrong.ty : Ty BranchWrong := ⟨2, BranchWrong.sv⟩
structure BranchReader where
  fText : ByteArray
  fI : Int
  fDeep : Int
  fCount : Int
deriving DecidableEq, Inhabited
abbrev BranchReader.sv (x : BranchReader) : SV := .agg [.v (.string x.fText), I x.fI, I x.fDeep, I x.fCount]
abbrev BranchReader.ty : Ty BranchReader := ⟨4, BranchReader.sv⟩
structure BranchWalker where
  fGraph : ApiGraph
  fNext : (List (List Int))
deriving DecidableEq, Inhabited
abbrev BranchWalker.sv (x : BranchWalker) : SV := .agg [I x.fGraph.fLetters, I x.fGraph.fPlaces, LS ApiArrow.ty x.fGraph.fArrows, LS (lsT intT) x.fNext]
abbrev BranchWalker.ty : Ty BranchWalker := ⟨4, BranchWalker.sv⟩
structure RegularStop where
  fFault : ApiFault
deriving DecidableEq, Inhabited
abbrev RegularStop.sv (x : RegularStop) : SV := .agg [I x.fFault.fCode, I x.fFault.fAt]
abbrev RegularStop.ty : Ty RegularStop := ⟨2, RegularStop.sv⟩
structure RegularReader where
  fText : ByteArray
  fI : Int
  fDeep : Int
deriving DecidableEq, Inhabited
abbrev RegularReader.sv (x : RegularReader) : SV := .agg [.v (.string x.fText), I x.fI, I x.fDeep]
abbrev RegularReader.ty : Ty RegularReader := ⟨3, RegularReader.sv⟩
structure RegularEnds where
  fEmpty : Bool
  fFirst : (List Int)
  fLast : (List Int)
deriving DecidableEq, Inhabited
abbrev RegularEnds.sv (x : RegularEnds) : SV := .agg [B x.fEmpty, LS intT x.fFirst, LS intT x.fLast]
abbrev RegularEnds.cl (x : RegularEnds) : List At := [B x.fEmpty, LS intT x.fFirst, LS intT x.fLast]
abbrev RegularEnds.ty : Ty RegularEnds := ⟨3, RegularEnds.sv⟩
structure St291 where
  fE0 : Int
  fE1 : Int
  fE2 : Int
deriving DecidableEq, Inhabited
abbrev St291.sv (x : St291) : SV := .agg [I x.fE0, I x.fE1, I x.fE2]
abbrev St291.ty : Ty St291 := ⟨3, St291.sv⟩
structure GramChoice where
  fMake : Int
  fEnds : (List Int)
deriving DecidableEq, Inhabited
abbrev GramChoice.sv (x : GramChoice) : SV := .agg [I x.fMake, LS intT x.fEnds]
abbrev GramChoice.ty : Ty GramChoice := ⟨2, GramChoice.sv⟩
structure DetSplit where
  fOwn : Int
  fNext : ByteArray
deriving DecidableEq, Inhabited
abbrev DetSplit.sv (x : DetSplit) : SV := .agg [I x.fOwn, .v (.string x.fNext)]
abbrev DetSplit.ty : Ty DetSplit := ⟨2, DetSplit.sv⟩
def tabs : List (Nat × TI) := [
  (3, ⟨false, false, 1, [.int .i64 0], [], some .i64, none, 8⟩),
  (4, ⟨false, false, 1, [.bool false], [], none, none, 1⟩),
  (5, ⟨false, false, 1, [.int .u8 0], [], some .u8, none, 1⟩),
  (9, ⟨false, false, 1, [.string ByteArray.empty], [], none, none, 16⟩),
  (21, ⟨false, false, 1, [.int .i32 0], [], some .i32, none, 4⟩),
  (22, ⟨false, false, 1, [.slice none 0 0], [], none, some 27, 24⟩),
  (23, ⟨false, false, 1, [.slice none 0 0], [], none, some 3, 24⟩),
  (25, ⟨true, true, 2, [.int .i64 0, .slice none 0 0], [(0, 1, false), (1, 1, false)], none, none, 32⟩),
  (27, ⟨true, true, 4, [.int .i64 0, .int .i64 0, .int .i64 0, .slice none 0 0], [(0, 1, false), (1, 1, false), (2, 1, false), (3, 1, false)], none, none, 48⟩),
  (28, ⟨false, false, 1, [.int .i64 0], [], some .i64, none, 8⟩),
  (34, ⟨false, false, 1, [.slice none 0 0], [], none, some 23, 24⟩),
  (36, ⟨true, true, 3, [.int .i64 0, .slice none 0 0, .slice none 0 0], [(0, 1, false), (1, 1, false), (2, 1, false)], none, none, 56⟩),
  (38, ⟨true, true, 3, [.bool false, .slice none 0 0, .slice none 0 0], [(0, 1, false), (1, 1, false), (2, 1, false)], none, none, 56⟩),
  (42, ⟨true, true, 3, [.bool false, .slice none 0 0, .slice none 0 0], [(0, 1, false), (1, 1, false), (2, 1, false)], none, none, 56⟩),
  (46, ⟨false, false, 1, [.slice none 0 0], [], none, some 52, 24⟩),
  (48, ⟨true, true, 3, [.int .i64 0, .int .i64 0, .slice none 0 0], [(0, 1, false), (1, 1, false), (2, 1, false)], none, none, 40⟩),
  (52, ⟨true, true, 3, [.int .i64 0, .int .i64 0, .int .i64 0], [(0, 1, false), (1, 1, false), (2, 1, false)], none, none, 24⟩),
  (53, ⟨false, false, 1, [.slice none 0 0], [], none, some 56, 24⟩),
  (56, ⟨false, false, 1, [.slice none 0 0], [], none, some 4, 24⟩),
  (59, ⟨true, true, 2, [.slice none 0 0, .slice none 0 0], [(0, 1, false), (1, 1, false)], none, none, 48⟩),
  (63, ⟨true, true, 2, [.int .i64 0, .int .i64 0], [(0, 1, false), (1, 1, false)], none, none, 16⟩),
  (69, ⟨false, false, 1, [.slice none 0 0], [], none, some 9, 24⟩),
  (73, ⟨true, true, 4, [.int .i64 0, .int .i64 0, .slice none 0 0, .slice none 0 0], [(0, 1, false), (1, 1, false), (2, 1, false), (3, 1, false)], none, none, 64⟩),
  (86, ⟨false, false, 1, [.slice none 0 0], [], none, some 90, 24⟩),
  (90, ⟨true, true, 8, [.bool false, .slice none 0 0, .bool false, .int .i64 0, .int .i64 0, .slice none 0 0, .slice none 0 0, .bool false], [(0, 1, false), (1, 1, false), (2, 1, false), (3, 4, true), (7, 1, false)], none, none, 112⟩),
  (92, ⟨false, false, 1, [.slice none 0 0], [], none, some 96, 24⟩),
  (94, ⟨true, true, 3, [.int .i64 0, .int .i64 0, .slice none 0 0], [(0, 1, false), (1, 1, false), (2, 1, false)], none, none, 40⟩),
  (96, ⟨true, true, 2, [.int .i64 0, .slice none 0 0], [(0, 1, false), (1, 1, false)], none, none, 32⟩),
  (107, ⟨false, false, 1, [.slice none 0 0], [], none, some 111, 24⟩),
  (109, ⟨false, false, 1, [.slice none 0 0], [], none, some 114, 24⟩),
  (111, ⟨true, true, 3, [.int .i64 0, .int .i64 0, .slice none 0 0], [(0, 1, false), (1, 1, false), (2, 1, false)], none, none, 40⟩),
  (114, ⟨true, true, 3, [.int .i64 0, .int .i64 0, .int .i64 0], [(0, 1, false), (1, 1, false), (2, 1, false)], none, none, 24⟩),
  (119, ⟨false, false, 1, [.map none], [], none, none, 8⟩),
  (121, ⟨true, true, 9, [.int .i64 0, .slice none 0 0, .slice none 0 0, .map none, .slice none 0 0, .slice none 0 0, .bool false, .slice none 0 0, .slice none 0 0], [(0, 3, true), (3, 1, false), (4, 1, false), (5, 1, false), (6, 3, true)], none, none, 168⟩),
  (124, ⟨true, true, 3, [.slice none 0 0, .int .i64 0, .int .i64 0], [(0, 1, false), (1, 1, false), (2, 1, false)], none, none, 40⟩),
  (125, ⟨false, false, 1, [.slice none 0 0], [], none, some 124, 24⟩),
  (132, ⟨false, false, 1, [.nilFunc], [], none, none, 8⟩),
  (133, ⟨false, false, 1, [.slice none 0 0], [], none, some 139, 24⟩),
  (139, ⟨true, true, 3, [.int .i64 0, .int .i64 0, .int .i64 0], [(0, 1, false), (1, 1, false), (2, 1, false)], none, none, 24⟩),
  (141, ⟨false, false, 1, [.pointer none], [], none, none, 8⟩),
  (146, ⟨false, false, 1, [.pointer none], [], none, none, 8⟩),
  (149, ⟨false, false, 1, [.pointer none], [], none, none, 8⟩),
  (152, ⟨false, false, 1, [.pointer none], [], none, none, 8⟩),
  (157, ⟨false, false, 1, [.pointer none], [], none, none, 8⟩),
  (161, ⟨true, true, 2, [.slice none 0 0, .slice none 0 0], [(0, 1, false), (1, 1, false)], none, none, 48⟩),
  (169, ⟨true, false, 2, [.int .i64 0, .int .i64 0], [(0, 1, false), (1, 1, false)], none, none, 16⟩),
  (176, ⟨false, false, 1, [.slice none 0 0], [], none, some 179, 24⟩),
  (179, ⟨true, true, 2, [.slice none 0 0, .slice none 0 0], [(0, 1, false), (1, 1, false)], none, none, 48⟩),
  (184, ⟨false, false, 1, [.pointer none], [], none, none, 8⟩),
  (186, ⟨true, true, 5, [.int .i64 0, .int .i64 0, .slice none 0 0, .slice none 0 0, .slice none 0 0], [(0, 4, true), (4, 1, false)], none, none, 88⟩),
  (188, ⟨true, true, 5, [.pointer none, .int .i64 0, .slice none 0 0, .slice none 0 0, .map none], [(0, 1, false), (1, 1, false), (2, 1, false), (3, 1, false), (4, 1, false)], none, none, 72⟩),
  (195, ⟨false, false, 1, [.nilFunc], [], none, none, 8⟩),
  (202, ⟨false, false, 1, [.slice none 0 0], [], none, some 203, 24⟩),
  (203, ⟨false, false, 1, [.slice none 0 0], [], none, some 119, 24⟩),
  (204, ⟨false, false, 1, [.nilFunc], [], none, none, 8⟩),
  (208, ⟨false, false, 1, [.slice none 0 0], [], none, some 25, 24⟩),
  (209, ⟨false, false, 1, [.map none], [], none, none, 8⟩),
  (211, ⟨true, true, 3, [.int .i64 0, .slice none 0 0, .map none], [(0, 2, true), (2, 1, false)], none, none, 40⟩),
  (213, ⟨true, true, 3, [.int .i64 0, .int .i64 0, .slice none 0 0], [(0, 1, false), (1, 1, false), (2, 1, false)], none, none, 40⟩),
  (215, ⟨false, false, 1, [.map none], [], none, none, 8⟩),
  (229, ⟨false, false, 1, [.int .u64 0], [], some .u64, none, 8⟩),
  (233, ⟨true, true, 2, [.int .i64 0, .int .i64 0], [(0, 2, true)], none, none, 16⟩),
  (236, ⟨true, true, 6, [.string ByteArray.empty, .int .i64 0, .int .i64 0, .int .i64 0, .int .i64 0, .slice none 0 0], [(0, 1, false), (1, 1, false), (2, 1, false), (3, 1, false), (4, 1, false), (5, 1, false)], none, none, 72⟩),
  (238, ⟨true, false, 2, [.slice none 0 0, .slice none 0 0], [(0, 1, false), (1, 1, false)], none, none, 48⟩),
  (240, ⟨true, true, 2, [.int .i64 0, .int .i64 0], [(0, 2, true)], none, none, 16⟩),
  (241, ⟨false, false, 1, [.pointer none], [], none, none, 8⟩),
  (242, ⟨false, false, 1, [.slice none 0 0], [], none, some 346, 24⟩),
  (244, ⟨true, true, 5, [.string ByteArray.empty, .int .i64 0, .int .i64 0, .int .i64 0, .slice none 0 0], [(0, 1, false), (1, 1, false), (2, 1, false), (3, 1, false), (4, 1, false)], none, none, 64⟩),
  (246, ⟨false, false, 1, [.slice none 0 0], [], none, some 141, 24⟩),
  (248, ⟨true, true, 3, [.int .u8 0, .int .i64 0, .slice none 0 0], [(0, 1, false), (1, 1, false), (2, 1, false)], none, none, 40⟩),
  (251, ⟨true, true, 2, [.int .i64 0, .int .i64 0], [(0, 2, true)], none, none, 16⟩),
  (254, ⟨true, true, 4, [.string ByteArray.empty, .int .i64 0, .int .i64 0, .int .i64 0], [(0, 1, false), (1, 1, false), (2, 1, false), (3, 1, false)], none, none, 40⟩),
  (257, ⟨true, true, 4, [.int .i64 0, .int .i64 0, .slice none 0 0, .slice none 0 0], [(0, 3, true), (3, 1, false)], none, none, 64⟩),
  (258, ⟨false, false, 1, [.slice none 0 0], [], none, some 146, 24⟩),
  (260, ⟨true, true, 4, [.int .u8 0, .bool false, .int .i64 0, .slice none 0 0], [(0, 1, false), (1, 1, false), (2, 1, false), (3, 1, false)], none, none, 40⟩),
  (265, ⟨true, true, 2, [.int .i64 0, .int .i64 0], [(0, 2, true)], none, none, 16⟩),
  (268, ⟨true, true, 3, [.string ByteArray.empty, .int .i64 0, .int .i64 0], [(0, 1, false), (1, 1, false), (2, 1, false)], none, none, 32⟩),
  (272, ⟨true, true, 3, [.bool false, .slice none 0 0, .slice none 0 0], [(0, 1, false), (1, 1, false), (2, 1, false)], none, none, 56⟩),
  (274, ⟨false, false, 1, [.map none], [], none, none, 8⟩),
  (277, ⟨false, false, 1, [.slice none 0 0], [], none, some 73, 24⟩),
  (278, ⟨false, false, 1, [.map none], [], none, none, 8⟩),
  (279, ⟨false, false, 1, [.slice none 0 0], [], none, some 169, 24⟩),
  (280, ⟨false, false, 1, [.map none], [], none, none, 8⟩),
  (286, ⟨false, false, 1, [.pointer none], [], none, none, 8⟩),
  (287, ⟨false, false, 1, [.map none], [], none, none, 8⟩),
  (288, ⟨false, false, 1, [.map none], [], none, none, 8⟩),
  (290, ⟨true, true, 9, [.int .i64 0, .int .i64 0, .slice none 0 0, .int .i64 0, .int .i64 0, .slice none 0 0, .slice none 0 0, .map none, .map none], [(0, 3, true), (3, 4, true), (7, 1, false), (8, 1, false)], none, none, 120⟩),
  (291, ⟨true, false, 3, [.int .i64 0, .int .i64 0, .int .i64 0], [(0, 1, false), (1, 1, false), (2, 1, false)], none, none, 24⟩),
  (292, ⟨false, false, 1, [.map none], [], none, none, 8⟩),
  (294, ⟨true, true, 6, [.int .i64 0, .int .i64 0, .slice none 0 0, .slice none 0 0, .map none, .map none], [(0, 3, true), (3, 1, false), (4, 1, false), (5, 1, false)], none, none, 80⟩),
  (298, ⟨true, true, 2, [.int .i64 0, .slice none 0 0], [(0, 1, false), (1, 1, false)], none, none, 32⟩),
  (299, ⟨false, false, 1, [.slice none 0 0], [], none, some 5, 24⟩),
  (305, ⟨false, false, 1, [.int .u32 0], [], some .u32, none, 4⟩),
  (308, ⟨false, false, 1, [.int .u64 0], [], some .u64, none, 8⟩),
  (314, ⟨false, false, 1, [.slice none 0 0], [], none, some 152, 24⟩),
  (316, ⟨true, true, 3, [.int .i64 0, .int .i64 0, .slice none 0 0], [(0, 1, false), (1, 1, false), (2, 1, false)], none, none, 40⟩),
  (320, ⟨false, false, 1, [.map none], [], none, none, 8⟩),
  (322, ⟨true, true, 2, [.int .i64 0, .string ByteArray.empty], [(0, 1, false), (1, 1, false)], none, none, 24⟩),
  (323, ⟨false, false, 1, [.pointer none], [], none, none, 8⟩),
  (325, ⟨true, true, 2, [.pointer none, .slice none 0 0], [(0, 1, false), (1, 1, false)], none, none, 32⟩),
  (335, ⟨false, false, 1, [.slice none 0 0], [], none, some 34, 24⟩),
  (338, ⟨false, false, 1, [.pointer none], [], none, none, 8⟩),
  (346, ⟨true, true, 2, [.int .u8 0, .bool false], [(0, 1, false), (1, 1, false)], none, none, 2⟩)]
def tab : Tab := tabL tabs
theorem ti3 : TI.ok 3 ⟨false, false, 1, [.int .i64 0], [], some .i64, none, 8⟩ := ⟨by kernel_rfl, by kernel_rfl, by kernel_rfl, by kernel_rfl, by kernel_rfl, by kernel_rfl, by rfl, by rfl, by decide⟩
theorem ti4 : TI.ok 4 ⟨false, false, 1, [.bool false], [], none, none, 1⟩ := ⟨by kernel_rfl, by kernel_rfl, by kernel_rfl, by kernel_rfl, by kernel_rfl, by kernel_rfl, by rfl, by rfl, by decide⟩
theorem ti5 : TI.ok 5 ⟨false, false, 1, [.int .u8 0], [], some .u8, none, 1⟩ := ⟨by kernel_rfl, by kernel_rfl, by kernel_rfl, by kernel_rfl, by kernel_rfl, by kernel_rfl, by rfl, by rfl, by decide⟩
theorem ti9 : TI.ok 9 ⟨false, false, 1, [.string ByteArray.empty], [], none, none, 16⟩ := ⟨by kernel_rfl, by kernel_rfl, by kernel_rfl, by kernel_rfl, by kernel_rfl, by kernel_rfl, by rfl, by rfl, by decide⟩
theorem ti21 : TI.ok 21 ⟨false, false, 1, [.int .i32 0], [], some .i32, none, 4⟩ := ⟨by kernel_rfl, by kernel_rfl, by kernel_rfl, by kernel_rfl, by kernel_rfl, by kernel_rfl, by rfl, by rfl, by decide⟩
theorem ti22 : TI.ok 22 ⟨false, false, 1, [.slice none 0 0], [], none, some 27, 24⟩ := ⟨by kernel_rfl, by kernel_rfl, by kernel_rfl, by kernel_rfl, by kernel_rfl, by kernel_rfl, by rfl, by rfl, by decide⟩
theorem ti23 : TI.ok 23 ⟨false, false, 1, [.slice none 0 0], [], none, some 3, 24⟩ := ⟨by kernel_rfl, by kernel_rfl, by kernel_rfl, by kernel_rfl, by kernel_rfl, by kernel_rfl, by rfl, by rfl, by decide⟩
theorem ti25 : TI.ok 25 ⟨true, true, 2, [.int .i64 0, .slice none 0 0], [(0, 1, false), (1, 1, false)], none, none, 32⟩ := ⟨by kernel_rfl, by kernel_rfl, by kernel_rfl, by kernel_rfl, by kernel_rfl, by kernel_rfl, by rfl, by rfl, by decide⟩
theorem ti27 : TI.ok 27 ⟨true, true, 4, [.int .i64 0, .int .i64 0, .int .i64 0, .slice none 0 0], [(0, 1, false), (1, 1, false), (2, 1, false), (3, 1, false)], none, none, 48⟩ := ⟨by kernel_rfl, by kernel_rfl, by kernel_rfl, by kernel_rfl, by kernel_rfl, by kernel_rfl, by rfl, by rfl, by decide⟩
theorem ti28 : TI.ok 28 ⟨false, false, 1, [.int .i64 0], [], some .i64, none, 8⟩ := ⟨by kernel_rfl, by kernel_rfl, by kernel_rfl, by kernel_rfl, by kernel_rfl, by kernel_rfl, by rfl, by rfl, by decide⟩
theorem ti34 : TI.ok 34 ⟨false, false, 1, [.slice none 0 0], [], none, some 23, 24⟩ := ⟨by kernel_rfl, by kernel_rfl, by kernel_rfl, by kernel_rfl, by kernel_rfl, by kernel_rfl, by rfl, by rfl, by decide⟩
theorem ti36 : TI.ok 36 ⟨true, true, 3, [.int .i64 0, .slice none 0 0, .slice none 0 0], [(0, 1, false), (1, 1, false), (2, 1, false)], none, none, 56⟩ := ⟨by kernel_rfl, by kernel_rfl, by kernel_rfl, by kernel_rfl, by kernel_rfl, by kernel_rfl, by rfl, by rfl, by decide⟩
theorem ti38 : TI.ok 38 ⟨true, true, 3, [.bool false, .slice none 0 0, .slice none 0 0], [(0, 1, false), (1, 1, false), (2, 1, false)], none, none, 56⟩ := ⟨by kernel_rfl, by kernel_rfl, by kernel_rfl, by kernel_rfl, by kernel_rfl, by kernel_rfl, by rfl, by rfl, by decide⟩
theorem ti42 : TI.ok 42 ⟨true, true, 3, [.bool false, .slice none 0 0, .slice none 0 0], [(0, 1, false), (1, 1, false), (2, 1, false)], none, none, 56⟩ := ⟨by kernel_rfl, by kernel_rfl, by kernel_rfl, by kernel_rfl, by kernel_rfl, by kernel_rfl, by rfl, by rfl, by decide⟩
theorem ti46 : TI.ok 46 ⟨false, false, 1, [.slice none 0 0], [], none, some 52, 24⟩ := ⟨by kernel_rfl, by kernel_rfl, by kernel_rfl, by kernel_rfl, by kernel_rfl, by kernel_rfl, by rfl, by rfl, by decide⟩
theorem ti48 : TI.ok 48 ⟨true, true, 3, [.int .i64 0, .int .i64 0, .slice none 0 0], [(0, 1, false), (1, 1, false), (2, 1, false)], none, none, 40⟩ := ⟨by kernel_rfl, by kernel_rfl, by kernel_rfl, by kernel_rfl, by kernel_rfl, by kernel_rfl, by rfl, by rfl, by decide⟩
theorem ti52 : TI.ok 52 ⟨true, true, 3, [.int .i64 0, .int .i64 0, .int .i64 0], [(0, 1, false), (1, 1, false), (2, 1, false)], none, none, 24⟩ := ⟨by kernel_rfl, by kernel_rfl, by kernel_rfl, by kernel_rfl, by kernel_rfl, by kernel_rfl, by rfl, by rfl, by decide⟩
theorem ti53 : TI.ok 53 ⟨false, false, 1, [.slice none 0 0], [], none, some 56, 24⟩ := ⟨by kernel_rfl, by kernel_rfl, by kernel_rfl, by kernel_rfl, by kernel_rfl, by kernel_rfl, by rfl, by rfl, by decide⟩
theorem ti56 : TI.ok 56 ⟨false, false, 1, [.slice none 0 0], [], none, some 4, 24⟩ := ⟨by kernel_rfl, by kernel_rfl, by kernel_rfl, by kernel_rfl, by kernel_rfl, by kernel_rfl, by rfl, by rfl, by decide⟩
theorem ti59 : TI.ok 59 ⟨true, true, 2, [.slice none 0 0, .slice none 0 0], [(0, 1, false), (1, 1, false)], none, none, 48⟩ := ⟨by kernel_rfl, by kernel_rfl, by kernel_rfl, by kernel_rfl, by kernel_rfl, by kernel_rfl, by rfl, by rfl, by decide⟩
theorem ti63 : TI.ok 63 ⟨true, true, 2, [.int .i64 0, .int .i64 0], [(0, 1, false), (1, 1, false)], none, none, 16⟩ := ⟨by kernel_rfl, by kernel_rfl, by kernel_rfl, by kernel_rfl, by kernel_rfl, by kernel_rfl, by rfl, by rfl, by decide⟩
theorem ti69 : TI.ok 69 ⟨false, false, 1, [.slice none 0 0], [], none, some 9, 24⟩ := ⟨by kernel_rfl, by kernel_rfl, by kernel_rfl, by kernel_rfl, by kernel_rfl, by kernel_rfl, by rfl, by rfl, by decide⟩
theorem ti73 : TI.ok 73 ⟨true, true, 4, [.int .i64 0, .int .i64 0, .slice none 0 0, .slice none 0 0], [(0, 1, false), (1, 1, false), (2, 1, false), (3, 1, false)], none, none, 64⟩ := ⟨by kernel_rfl, by kernel_rfl, by kernel_rfl, by kernel_rfl, by kernel_rfl, by kernel_rfl, by rfl, by rfl, by decide⟩
theorem ti86 : TI.ok 86 ⟨false, false, 1, [.slice none 0 0], [], none, some 90, 24⟩ := ⟨by kernel_rfl, by kernel_rfl, by kernel_rfl, by kernel_rfl, by kernel_rfl, by kernel_rfl, by rfl, by rfl, by decide⟩
theorem ti90 : TI.ok 90 ⟨true, true, 8, [.bool false, .slice none 0 0, .bool false, .int .i64 0, .int .i64 0, .slice none 0 0, .slice none 0 0, .bool false], [(0, 1, false), (1, 1, false), (2, 1, false), (3, 4, true), (7, 1, false)], none, none, 112⟩ := ⟨by kernel_rfl, by kernel_rfl, by kernel_rfl, by kernel_rfl, by kernel_rfl, by kernel_rfl, by rfl, by rfl, by decide⟩
theorem ti92 : TI.ok 92 ⟨false, false, 1, [.slice none 0 0], [], none, some 96, 24⟩ := ⟨by kernel_rfl, by kernel_rfl, by kernel_rfl, by kernel_rfl, by kernel_rfl, by kernel_rfl, by rfl, by rfl, by decide⟩
theorem ti94 : TI.ok 94 ⟨true, true, 3, [.int .i64 0, .int .i64 0, .slice none 0 0], [(0, 1, false), (1, 1, false), (2, 1, false)], none, none, 40⟩ := ⟨by kernel_rfl, by kernel_rfl, by kernel_rfl, by kernel_rfl, by kernel_rfl, by kernel_rfl, by rfl, by rfl, by decide⟩
theorem ti96 : TI.ok 96 ⟨true, true, 2, [.int .i64 0, .slice none 0 0], [(0, 1, false), (1, 1, false)], none, none, 32⟩ := ⟨by kernel_rfl, by kernel_rfl, by kernel_rfl, by kernel_rfl, by kernel_rfl, by kernel_rfl, by rfl, by rfl, by decide⟩
theorem ti107 : TI.ok 107 ⟨false, false, 1, [.slice none 0 0], [], none, some 111, 24⟩ := ⟨by kernel_rfl, by kernel_rfl, by kernel_rfl, by kernel_rfl, by kernel_rfl, by kernel_rfl, by rfl, by rfl, by decide⟩
theorem ti109 : TI.ok 109 ⟨false, false, 1, [.slice none 0 0], [], none, some 114, 24⟩ := ⟨by kernel_rfl, by kernel_rfl, by kernel_rfl, by kernel_rfl, by kernel_rfl, by kernel_rfl, by rfl, by rfl, by decide⟩
theorem ti111 : TI.ok 111 ⟨true, true, 3, [.int .i64 0, .int .i64 0, .slice none 0 0], [(0, 1, false), (1, 1, false), (2, 1, false)], none, none, 40⟩ := ⟨by kernel_rfl, by kernel_rfl, by kernel_rfl, by kernel_rfl, by kernel_rfl, by kernel_rfl, by rfl, by rfl, by decide⟩
theorem ti114 : TI.ok 114 ⟨true, true, 3, [.int .i64 0, .int .i64 0, .int .i64 0], [(0, 1, false), (1, 1, false), (2, 1, false)], none, none, 24⟩ := ⟨by kernel_rfl, by kernel_rfl, by kernel_rfl, by kernel_rfl, by kernel_rfl, by kernel_rfl, by rfl, by rfl, by decide⟩
theorem ti119 : TI.ok 119 ⟨false, false, 1, [.map none], [], none, none, 8⟩ := ⟨by kernel_rfl, by kernel_rfl, by kernel_rfl, by kernel_rfl, by kernel_rfl, by kernel_rfl, by rfl, by rfl, by decide⟩
theorem ti121 : TI.ok 121 ⟨true, true, 9, [.int .i64 0, .slice none 0 0, .slice none 0 0, .map none, .slice none 0 0, .slice none 0 0, .bool false, .slice none 0 0, .slice none 0 0], [(0, 3, true), (3, 1, false), (4, 1, false), (5, 1, false), (6, 3, true)], none, none, 168⟩ := ⟨by kernel_rfl, by kernel_rfl, by kernel_rfl, by kernel_rfl, by kernel_rfl, by kernel_rfl, by rfl, by rfl, by decide⟩
theorem ti124 : TI.ok 124 ⟨true, true, 3, [.slice none 0 0, .int .i64 0, .int .i64 0], [(0, 1, false), (1, 1, false), (2, 1, false)], none, none, 40⟩ := ⟨by kernel_rfl, by kernel_rfl, by kernel_rfl, by kernel_rfl, by kernel_rfl, by kernel_rfl, by rfl, by rfl, by decide⟩
theorem ti125 : TI.ok 125 ⟨false, false, 1, [.slice none 0 0], [], none, some 124, 24⟩ := ⟨by kernel_rfl, by kernel_rfl, by kernel_rfl, by kernel_rfl, by kernel_rfl, by kernel_rfl, by rfl, by rfl, by decide⟩
theorem ti132 : TI.ok 132 ⟨false, false, 1, [.nilFunc], [], none, none, 8⟩ := ⟨by kernel_rfl, by kernel_rfl, by kernel_rfl, by kernel_rfl, by kernel_rfl, by kernel_rfl, by rfl, by rfl, by decide⟩
theorem ti133 : TI.ok 133 ⟨false, false, 1, [.slice none 0 0], [], none, some 139, 24⟩ := ⟨by kernel_rfl, by kernel_rfl, by kernel_rfl, by kernel_rfl, by kernel_rfl, by kernel_rfl, by rfl, by rfl, by decide⟩
theorem ti139 : TI.ok 139 ⟨true, true, 3, [.int .i64 0, .int .i64 0, .int .i64 0], [(0, 1, false), (1, 1, false), (2, 1, false)], none, none, 24⟩ := ⟨by kernel_rfl, by kernel_rfl, by kernel_rfl, by kernel_rfl, by kernel_rfl, by kernel_rfl, by rfl, by rfl, by decide⟩
theorem ti141 : TI.ok 141 ⟨false, false, 1, [.pointer none], [], none, none, 8⟩ := ⟨by kernel_rfl, by kernel_rfl, by kernel_rfl, by kernel_rfl, by kernel_rfl, by kernel_rfl, by rfl, by rfl, by decide⟩
theorem ti146 : TI.ok 146 ⟨false, false, 1, [.pointer none], [], none, none, 8⟩ := ⟨by kernel_rfl, by kernel_rfl, by kernel_rfl, by kernel_rfl, by kernel_rfl, by kernel_rfl, by rfl, by rfl, by decide⟩
theorem ti149 : TI.ok 149 ⟨false, false, 1, [.pointer none], [], none, none, 8⟩ := ⟨by kernel_rfl, by kernel_rfl, by kernel_rfl, by kernel_rfl, by kernel_rfl, by kernel_rfl, by rfl, by rfl, by decide⟩
theorem ti152 : TI.ok 152 ⟨false, false, 1, [.pointer none], [], none, none, 8⟩ := ⟨by kernel_rfl, by kernel_rfl, by kernel_rfl, by kernel_rfl, by kernel_rfl, by kernel_rfl, by rfl, by rfl, by decide⟩
theorem ti157 : TI.ok 157 ⟨false, false, 1, [.pointer none], [], none, none, 8⟩ := ⟨by kernel_rfl, by kernel_rfl, by kernel_rfl, by kernel_rfl, by kernel_rfl, by kernel_rfl, by rfl, by rfl, by decide⟩
theorem ti161 : TI.ok 161 ⟨true, true, 2, [.slice none 0 0, .slice none 0 0], [(0, 1, false), (1, 1, false)], none, none, 48⟩ := ⟨by kernel_rfl, by kernel_rfl, by kernel_rfl, by kernel_rfl, by kernel_rfl, by kernel_rfl, by rfl, by rfl, by decide⟩
theorem ti169 : TI.ok 169 ⟨true, false, 2, [.int .i64 0, .int .i64 0], [(0, 1, false), (1, 1, false)], none, none, 16⟩ := ⟨by kernel_rfl, by kernel_rfl, by kernel_rfl, by kernel_rfl, by kernel_rfl, by kernel_rfl, by rfl, by rfl, by decide⟩
theorem ti176 : TI.ok 176 ⟨false, false, 1, [.slice none 0 0], [], none, some 179, 24⟩ := ⟨by kernel_rfl, by kernel_rfl, by kernel_rfl, by kernel_rfl, by kernel_rfl, by kernel_rfl, by rfl, by rfl, by decide⟩
theorem ti179 : TI.ok 179 ⟨true, true, 2, [.slice none 0 0, .slice none 0 0], [(0, 1, false), (1, 1, false)], none, none, 48⟩ := ⟨by kernel_rfl, by kernel_rfl, by kernel_rfl, by kernel_rfl, by kernel_rfl, by kernel_rfl, by rfl, by rfl, by decide⟩
theorem ti184 : TI.ok 184 ⟨false, false, 1, [.pointer none], [], none, none, 8⟩ := ⟨by kernel_rfl, by kernel_rfl, by kernel_rfl, by kernel_rfl, by kernel_rfl, by kernel_rfl, by rfl, by rfl, by decide⟩
theorem ti186 : TI.ok 186 ⟨true, true, 5, [.int .i64 0, .int .i64 0, .slice none 0 0, .slice none 0 0, .slice none 0 0], [(0, 4, true), (4, 1, false)], none, none, 88⟩ := ⟨by kernel_rfl, by kernel_rfl, by kernel_rfl, by kernel_rfl, by kernel_rfl, by kernel_rfl, by rfl, by rfl, by decide⟩
theorem ti188 : TI.ok 188 ⟨true, true, 5, [.pointer none, .int .i64 0, .slice none 0 0, .slice none 0 0, .map none], [(0, 1, false), (1, 1, false), (2, 1, false), (3, 1, false), (4, 1, false)], none, none, 72⟩ := ⟨by kernel_rfl, by kernel_rfl, by kernel_rfl, by kernel_rfl, by kernel_rfl, by kernel_rfl, by rfl, by rfl, by decide⟩
theorem ti195 : TI.ok 195 ⟨false, false, 1, [.nilFunc], [], none, none, 8⟩ := ⟨by kernel_rfl, by kernel_rfl, by kernel_rfl, by kernel_rfl, by kernel_rfl, by kernel_rfl, by rfl, by rfl, by decide⟩
theorem ti202 : TI.ok 202 ⟨false, false, 1, [.slice none 0 0], [], none, some 203, 24⟩ := ⟨by kernel_rfl, by kernel_rfl, by kernel_rfl, by kernel_rfl, by kernel_rfl, by kernel_rfl, by rfl, by rfl, by decide⟩
theorem ti203 : TI.ok 203 ⟨false, false, 1, [.slice none 0 0], [], none, some 119, 24⟩ := ⟨by kernel_rfl, by kernel_rfl, by kernel_rfl, by kernel_rfl, by kernel_rfl, by kernel_rfl, by rfl, by rfl, by decide⟩
theorem ti204 : TI.ok 204 ⟨false, false, 1, [.nilFunc], [], none, none, 8⟩ := ⟨by kernel_rfl, by kernel_rfl, by kernel_rfl, by kernel_rfl, by kernel_rfl, by kernel_rfl, by rfl, by rfl, by decide⟩
theorem ti208 : TI.ok 208 ⟨false, false, 1, [.slice none 0 0], [], none, some 25, 24⟩ := ⟨by kernel_rfl, by kernel_rfl, by kernel_rfl, by kernel_rfl, by kernel_rfl, by kernel_rfl, by rfl, by rfl, by decide⟩
theorem ti209 : TI.ok 209 ⟨false, false, 1, [.map none], [], none, none, 8⟩ := ⟨by kernel_rfl, by kernel_rfl, by kernel_rfl, by kernel_rfl, by kernel_rfl, by kernel_rfl, by rfl, by rfl, by decide⟩
theorem ti211 : TI.ok 211 ⟨true, true, 3, [.int .i64 0, .slice none 0 0, .map none], [(0, 2, true), (2, 1, false)], none, none, 40⟩ := ⟨by kernel_rfl, by kernel_rfl, by kernel_rfl, by kernel_rfl, by kernel_rfl, by kernel_rfl, by rfl, by rfl, by decide⟩
theorem ti213 : TI.ok 213 ⟨true, true, 3, [.int .i64 0, .int .i64 0, .slice none 0 0], [(0, 1, false), (1, 1, false), (2, 1, false)], none, none, 40⟩ := ⟨by kernel_rfl, by kernel_rfl, by kernel_rfl, by kernel_rfl, by kernel_rfl, by kernel_rfl, by rfl, by rfl, by decide⟩
theorem ti215 : TI.ok 215 ⟨false, false, 1, [.map none], [], none, none, 8⟩ := ⟨by kernel_rfl, by kernel_rfl, by kernel_rfl, by kernel_rfl, by kernel_rfl, by kernel_rfl, by rfl, by rfl, by decide⟩
theorem ti229 : TI.ok 229 ⟨false, false, 1, [.int .u64 0], [], some .u64, none, 8⟩ := ⟨by kernel_rfl, by kernel_rfl, by kernel_rfl, by kernel_rfl, by kernel_rfl, by kernel_rfl, by rfl, by rfl, by decide⟩
theorem ti233 : TI.ok 233 ⟨true, true, 2, [.int .i64 0, .int .i64 0], [(0, 2, true)], none, none, 16⟩ := ⟨by kernel_rfl, by kernel_rfl, by kernel_rfl, by kernel_rfl, by kernel_rfl, by kernel_rfl, by rfl, by rfl, by decide⟩
theorem ti236 : TI.ok 236 ⟨true, true, 6, [.string ByteArray.empty, .int .i64 0, .int .i64 0, .int .i64 0, .int .i64 0, .slice none 0 0], [(0, 1, false), (1, 1, false), (2, 1, false), (3, 1, false), (4, 1, false), (5, 1, false)], none, none, 72⟩ := ⟨by kernel_rfl, by kernel_rfl, by kernel_rfl, by kernel_rfl, by kernel_rfl, by kernel_rfl, by rfl, by rfl, by decide⟩
theorem ti238 : TI.ok 238 ⟨true, false, 2, [.slice none 0 0, .slice none 0 0], [(0, 1, false), (1, 1, false)], none, none, 48⟩ := ⟨by kernel_rfl, by kernel_rfl, by kernel_rfl, by kernel_rfl, by kernel_rfl, by kernel_rfl, by rfl, by rfl, by decide⟩
theorem ti240 : TI.ok 240 ⟨true, true, 2, [.int .i64 0, .int .i64 0], [(0, 2, true)], none, none, 16⟩ := ⟨by kernel_rfl, by kernel_rfl, by kernel_rfl, by kernel_rfl, by kernel_rfl, by kernel_rfl, by rfl, by rfl, by decide⟩
theorem ti241 : TI.ok 241 ⟨false, false, 1, [.pointer none], [], none, none, 8⟩ := ⟨by kernel_rfl, by kernel_rfl, by kernel_rfl, by kernel_rfl, by kernel_rfl, by kernel_rfl, by rfl, by rfl, by decide⟩
theorem ti242 : TI.ok 242 ⟨false, false, 1, [.slice none 0 0], [], none, some 346, 24⟩ := ⟨by kernel_rfl, by kernel_rfl, by kernel_rfl, by kernel_rfl, by kernel_rfl, by kernel_rfl, by rfl, by rfl, by decide⟩
theorem ti244 : TI.ok 244 ⟨true, true, 5, [.string ByteArray.empty, .int .i64 0, .int .i64 0, .int .i64 0, .slice none 0 0], [(0, 1, false), (1, 1, false), (2, 1, false), (3, 1, false), (4, 1, false)], none, none, 64⟩ := ⟨by kernel_rfl, by kernel_rfl, by kernel_rfl, by kernel_rfl, by kernel_rfl, by kernel_rfl, by rfl, by rfl, by decide⟩
theorem ti246 : TI.ok 246 ⟨false, false, 1, [.slice none 0 0], [], none, some 141, 24⟩ := ⟨by kernel_rfl, by kernel_rfl, by kernel_rfl, by kernel_rfl, by kernel_rfl, by kernel_rfl, by rfl, by rfl, by decide⟩
theorem ti248 : TI.ok 248 ⟨true, true, 3, [.int .u8 0, .int .i64 0, .slice none 0 0], [(0, 1, false), (1, 1, false), (2, 1, false)], none, none, 40⟩ := ⟨by kernel_rfl, by kernel_rfl, by kernel_rfl, by kernel_rfl, by kernel_rfl, by kernel_rfl, by rfl, by rfl, by decide⟩
theorem ti251 : TI.ok 251 ⟨true, true, 2, [.int .i64 0, .int .i64 0], [(0, 2, true)], none, none, 16⟩ := ⟨by kernel_rfl, by kernel_rfl, by kernel_rfl, by kernel_rfl, by kernel_rfl, by kernel_rfl, by rfl, by rfl, by decide⟩
theorem ti254 : TI.ok 254 ⟨true, true, 4, [.string ByteArray.empty, .int .i64 0, .int .i64 0, .int .i64 0], [(0, 1, false), (1, 1, false), (2, 1, false), (3, 1, false)], none, none, 40⟩ := ⟨by kernel_rfl, by kernel_rfl, by kernel_rfl, by kernel_rfl, by kernel_rfl, by kernel_rfl, by rfl, by rfl, by decide⟩
theorem ti257 : TI.ok 257 ⟨true, true, 4, [.int .i64 0, .int .i64 0, .slice none 0 0, .slice none 0 0], [(0, 3, true), (3, 1, false)], none, none, 64⟩ := ⟨by kernel_rfl, by kernel_rfl, by kernel_rfl, by kernel_rfl, by kernel_rfl, by kernel_rfl, by rfl, by rfl, by decide⟩
theorem ti258 : TI.ok 258 ⟨false, false, 1, [.slice none 0 0], [], none, some 146, 24⟩ := ⟨by kernel_rfl, by kernel_rfl, by kernel_rfl, by kernel_rfl, by kernel_rfl, by kernel_rfl, by rfl, by rfl, by decide⟩
theorem ti260 : TI.ok 260 ⟨true, true, 4, [.int .u8 0, .bool false, .int .i64 0, .slice none 0 0], [(0, 1, false), (1, 1, false), (2, 1, false), (3, 1, false)], none, none, 40⟩ := ⟨by kernel_rfl, by kernel_rfl, by kernel_rfl, by kernel_rfl, by kernel_rfl, by kernel_rfl, by rfl, by rfl, by decide⟩
theorem ti265 : TI.ok 265 ⟨true, true, 2, [.int .i64 0, .int .i64 0], [(0, 2, true)], none, none, 16⟩ := ⟨by kernel_rfl, by kernel_rfl, by kernel_rfl, by kernel_rfl, by kernel_rfl, by kernel_rfl, by rfl, by rfl, by decide⟩
theorem ti268 : TI.ok 268 ⟨true, true, 3, [.string ByteArray.empty, .int .i64 0, .int .i64 0], [(0, 1, false), (1, 1, false), (2, 1, false)], none, none, 32⟩ := ⟨by kernel_rfl, by kernel_rfl, by kernel_rfl, by kernel_rfl, by kernel_rfl, by kernel_rfl, by rfl, by rfl, by decide⟩
theorem ti272 : TI.ok 272 ⟨true, true, 3, [.bool false, .slice none 0 0, .slice none 0 0], [(0, 1, false), (1, 1, false), (2, 1, false)], none, none, 56⟩ := ⟨by kernel_rfl, by kernel_rfl, by kernel_rfl, by kernel_rfl, by kernel_rfl, by kernel_rfl, by rfl, by rfl, by decide⟩
theorem ti274 : TI.ok 274 ⟨false, false, 1, [.map none], [], none, none, 8⟩ := ⟨by kernel_rfl, by kernel_rfl, by kernel_rfl, by kernel_rfl, by kernel_rfl, by kernel_rfl, by rfl, by rfl, by decide⟩
theorem ti277 : TI.ok 277 ⟨false, false, 1, [.slice none 0 0], [], none, some 73, 24⟩ := ⟨by kernel_rfl, by kernel_rfl, by kernel_rfl, by kernel_rfl, by kernel_rfl, by kernel_rfl, by rfl, by rfl, by decide⟩
theorem ti278 : TI.ok 278 ⟨false, false, 1, [.map none], [], none, none, 8⟩ := ⟨by kernel_rfl, by kernel_rfl, by kernel_rfl, by kernel_rfl, by kernel_rfl, by kernel_rfl, by rfl, by rfl, by decide⟩
theorem ti279 : TI.ok 279 ⟨false, false, 1, [.slice none 0 0], [], none, some 169, 24⟩ := ⟨by kernel_rfl, by kernel_rfl, by kernel_rfl, by kernel_rfl, by kernel_rfl, by kernel_rfl, by rfl, by rfl, by decide⟩
theorem ti280 : TI.ok 280 ⟨false, false, 1, [.map none], [], none, none, 8⟩ := ⟨by kernel_rfl, by kernel_rfl, by kernel_rfl, by kernel_rfl, by kernel_rfl, by kernel_rfl, by rfl, by rfl, by decide⟩
theorem ti286 : TI.ok 286 ⟨false, false, 1, [.pointer none], [], none, none, 8⟩ := ⟨by kernel_rfl, by kernel_rfl, by kernel_rfl, by kernel_rfl, by kernel_rfl, by kernel_rfl, by rfl, by rfl, by decide⟩
theorem ti287 : TI.ok 287 ⟨false, false, 1, [.map none], [], none, none, 8⟩ := ⟨by kernel_rfl, by kernel_rfl, by kernel_rfl, by kernel_rfl, by kernel_rfl, by kernel_rfl, by rfl, by rfl, by decide⟩
theorem ti288 : TI.ok 288 ⟨false, false, 1, [.map none], [], none, none, 8⟩ := ⟨by kernel_rfl, by kernel_rfl, by kernel_rfl, by kernel_rfl, by kernel_rfl, by kernel_rfl, by rfl, by rfl, by decide⟩
theorem ti290 : TI.ok 290 ⟨true, true, 9, [.int .i64 0, .int .i64 0, .slice none 0 0, .int .i64 0, .int .i64 0, .slice none 0 0, .slice none 0 0, .map none, .map none], [(0, 3, true), (3, 4, true), (7, 1, false), (8, 1, false)], none, none, 120⟩ := ⟨by kernel_rfl, by kernel_rfl, by kernel_rfl, by kernel_rfl, by kernel_rfl, by kernel_rfl, by rfl, by rfl, by decide⟩
theorem ti291 : TI.ok 291 ⟨true, false, 3, [.int .i64 0, .int .i64 0, .int .i64 0], [(0, 1, false), (1, 1, false), (2, 1, false)], none, none, 24⟩ := ⟨by kernel_rfl, by kernel_rfl, by kernel_rfl, by kernel_rfl, by kernel_rfl, by kernel_rfl, by rfl, by rfl, by decide⟩
theorem ti292 : TI.ok 292 ⟨false, false, 1, [.map none], [], none, none, 8⟩ := ⟨by kernel_rfl, by kernel_rfl, by kernel_rfl, by kernel_rfl, by kernel_rfl, by kernel_rfl, by rfl, by rfl, by decide⟩
theorem ti294 : TI.ok 294 ⟨true, true, 6, [.int .i64 0, .int .i64 0, .slice none 0 0, .slice none 0 0, .map none, .map none], [(0, 3, true), (3, 1, false), (4, 1, false), (5, 1, false)], none, none, 80⟩ := ⟨by kernel_rfl, by kernel_rfl, by kernel_rfl, by kernel_rfl, by kernel_rfl, by kernel_rfl, by rfl, by rfl, by decide⟩
theorem ti298 : TI.ok 298 ⟨true, true, 2, [.int .i64 0, .slice none 0 0], [(0, 1, false), (1, 1, false)], none, none, 32⟩ := ⟨by kernel_rfl, by kernel_rfl, by kernel_rfl, by kernel_rfl, by kernel_rfl, by kernel_rfl, by rfl, by rfl, by decide⟩
theorem ti299 : TI.ok 299 ⟨false, false, 1, [.slice none 0 0], [], none, some 5, 24⟩ := ⟨by kernel_rfl, by kernel_rfl, by kernel_rfl, by kernel_rfl, by kernel_rfl, by kernel_rfl, by rfl, by rfl, by decide⟩
theorem ti305 : TI.ok 305 ⟨false, false, 1, [.int .u32 0], [], some .u32, none, 4⟩ := ⟨by kernel_rfl, by kernel_rfl, by kernel_rfl, by kernel_rfl, by kernel_rfl, by kernel_rfl, by rfl, by rfl, by decide⟩
theorem ti308 : TI.ok 308 ⟨false, false, 1, [.int .u64 0], [], some .u64, none, 8⟩ := ⟨by kernel_rfl, by kernel_rfl, by kernel_rfl, by kernel_rfl, by kernel_rfl, by kernel_rfl, by rfl, by rfl, by decide⟩
theorem ti314 : TI.ok 314 ⟨false, false, 1, [.slice none 0 0], [], none, some 152, 24⟩ := ⟨by kernel_rfl, by kernel_rfl, by kernel_rfl, by kernel_rfl, by kernel_rfl, by kernel_rfl, by rfl, by rfl, by decide⟩
theorem ti316 : TI.ok 316 ⟨true, true, 3, [.int .i64 0, .int .i64 0, .slice none 0 0], [(0, 1, false), (1, 1, false), (2, 1, false)], none, none, 40⟩ := ⟨by kernel_rfl, by kernel_rfl, by kernel_rfl, by kernel_rfl, by kernel_rfl, by kernel_rfl, by rfl, by rfl, by decide⟩
theorem ti320 : TI.ok 320 ⟨false, false, 1, [.map none], [], none, none, 8⟩ := ⟨by kernel_rfl, by kernel_rfl, by kernel_rfl, by kernel_rfl, by kernel_rfl, by kernel_rfl, by rfl, by rfl, by decide⟩
theorem ti322 : TI.ok 322 ⟨true, true, 2, [.int .i64 0, .string ByteArray.empty], [(0, 1, false), (1, 1, false)], none, none, 24⟩ := ⟨by kernel_rfl, by kernel_rfl, by kernel_rfl, by kernel_rfl, by kernel_rfl, by kernel_rfl, by rfl, by rfl, by decide⟩
theorem ti323 : TI.ok 323 ⟨false, false, 1, [.pointer none], [], none, none, 8⟩ := ⟨by kernel_rfl, by kernel_rfl, by kernel_rfl, by kernel_rfl, by kernel_rfl, by kernel_rfl, by rfl, by rfl, by decide⟩
theorem ti325 : TI.ok 325 ⟨true, true, 2, [.pointer none, .slice none 0 0], [(0, 1, false), (1, 1, false)], none, none, 32⟩ := ⟨by kernel_rfl, by kernel_rfl, by kernel_rfl, by kernel_rfl, by kernel_rfl, by kernel_rfl, by rfl, by rfl, by decide⟩
theorem ti335 : TI.ok 335 ⟨false, false, 1, [.slice none 0 0], [], none, some 34, 24⟩ := ⟨by kernel_rfl, by kernel_rfl, by kernel_rfl, by kernel_rfl, by kernel_rfl, by kernel_rfl, by rfl, by rfl, by decide⟩
theorem ti338 : TI.ok 338 ⟨false, false, 1, [.pointer none], [], none, none, 8⟩ := ⟨by kernel_rfl, by kernel_rfl, by kernel_rfl, by kernel_rfl, by kernel_rfl, by kernel_rfl, by rfl, by rfl, by decide⟩
theorem ti346 : TI.ok 346 ⟨true, true, 2, [.int .u8 0, .bool false], [(0, 1, false), (1, 1, false)], none, none, 2⟩ := ⟨by kernel_rfl, by kernel_rfl, by kernel_rfl, by kernel_rfl, by kernel_rfl, by kernel_rfl, by rfl, by rfl, by decide⟩
theorem tab_ok : tab.ok := tabL_ok fun x hx => by
  simp only [tabs, List.mem_cons, List.not_mem_nil, or_false] at hx
  rcases hx with rfl | rfl | rfl | rfl | rfl | rfl | rfl | rfl | rfl | rfl | rfl | rfl | rfl | rfl | rfl | rfl | rfl | rfl | rfl | rfl | rfl | rfl | rfl | rfl | rfl | rfl | rfl | rfl | rfl | rfl | rfl | rfl | rfl | rfl | rfl | rfl | rfl | rfl | rfl | rfl | rfl | rfl | rfl | rfl | rfl | rfl | rfl | rfl | rfl | rfl | rfl | rfl | rfl | rfl | rfl | rfl | rfl | rfl | rfl | rfl | rfl | rfl | rfl | rfl | rfl | rfl | rfl | rfl | rfl | rfl | rfl | rfl | rfl | rfl | rfl | rfl | rfl | rfl | rfl | rfl | rfl | rfl | rfl | rfl | rfl | rfl | rfl | rfl | rfl | rfl | rfl | rfl | rfl | rfl | rfl | rfl | rfl | rfl | rfl | rfl | rfl | rfl | rfl
  · exact ti3
  · exact ti4
  · exact ti5
  · exact ti9
  · exact ti21
  · exact ti22
  · exact ti23
  · exact ti25
  · exact ti27
  · exact ti28
  · exact ti34
  · exact ti36
  · exact ti38
  · exact ti42
  · exact ti46
  · exact ti48
  · exact ti52
  · exact ti53
  · exact ti56
  · exact ti59
  · exact ti63
  · exact ti69
  · exact ti73
  · exact ti86
  · exact ti90
  · exact ti92
  · exact ti94
  · exact ti96
  · exact ti107
  · exact ti109
  · exact ti111
  · exact ti114
  · exact ti119
  · exact ti121
  · exact ti124
  · exact ti125
  · exact ti132
  · exact ti133
  · exact ti139
  · exact ti141
  · exact ti146
  · exact ti149
  · exact ti152
  · exact ti157
  · exact ti161
  · exact ti169
  · exact ti176
  · exact ti179
  · exact ti184
  · exact ti186
  · exact ti188
  · exact ti195
  · exact ti202
  · exact ti203
  · exact ti204
  · exact ti208
  · exact ti209
  · exact ti211
  · exact ti213
  · exact ti215
  · exact ti229
  · exact ti233
  · exact ti236
  · exact ti238
  · exact ti240
  · exact ti241
  · exact ti242
  · exact ti244
  · exact ti246
  · exact ti248
  · exact ti251
  · exact ti254
  · exact ti257
  · exact ti258
  · exact ti260
  · exact ti265
  · exact ti268
  · exact ti272
  · exact ti274
  · exact ti277
  · exact ti278
  · exact ti279
  · exact ti280
  · exact ti286
  · exact ti287
  · exact ti288
  · exact ti290
  · exact ti291
  · exact ti292
  · exact ti294
  · exact ti298
  · exact ti299
  · exact ti305
  · exact ti308
  · exact ti314
  · exact ti316
  · exact ti320
  · exact ti322
  · exact ti323
  · exact ti325
  · exact ti335
  · exact ti338
  · exact ti346
def StackEdge.enc (k : StackEdge) : Value := .agg #[.int .i64 k.fFrom, .int .i64 k.fSign, .int .i64 k.fTo]
theorem StackEdge.part0 (x0 : Int) (x1 : Int) (x2 : Int) (w : World) : (Go.part 3 #[.int .i64 x0, .int .i64 x1, .int .i64 x2] 0).run Try.prog w = .ok (.int .i64 x0) w := by kernel_rfl
theorem StackEdge.part1 (x0 : Int) (x1 : Int) (x2 : Int) (w : World) : (Go.part 3 #[.int .i64 x0, .int .i64 x1, .int .i64 x2] 1).run Try.prog w = .ok (.int .i64 x1) w := by kernel_rfl
theorem StackEdge.part2 (x0 : Int) (x1 : Int) (x2 : Int) (w : World) : (Go.part 3 #[.int .i64 x0, .int .i64 x1, .int .i64 x2] 2).run Try.prog w = .ok (.int .i64 x2) w := by kernel_rfl
theorem StackEdge.eq3 (x y : Int) (n : Nat) (w : World) : (Op.equalIn (n + 1) 3 (.int .i64 x) (.int .i64 y)).run Try.prog w = .ok (x == y) w := by
  have hu := run_underlying Try.underlying3 w
  simp only [Op.equalIn, Sem.run_bind, hu, Result.andThen_ok, if_true, Sem.run_pure]
theorem StackEdge.keyLaw : KeyLaw 114 StackEdge.enc where
  check := fun b a w => by unfold StackEdge.enc; kernel_rfl
  bits := fun a => by unfold StackEdge.enc; simp [Instr.sameBits, beq_bytes]
  now := ⟨_, Try.underlying114, .inl fun a b => rfl⟩
  equal := fun a b w => by
    unfold StackEdge.enc
    have hu := run_underlying Try.underlying114 w
    have hst : Try.prog.stoodInHeld 114 = false := by kernel_rfl
    show (Op.equalIn (9999 + 1) _ _ _).run _ _ = _
    rw [Op.equalIn]
    simp only [Sem.run_bind, hu, Result.andThen_ok]
    simp [Go.program, Sem.run, hst, StackEdge.part0, StackEdge.part1, StackEdge.part2, StackEdge.eq3]
    rcases a with ⟨a0, a1, a2⟩
    rcases b with ⟨b0, b1, b2⟩
    by_cases h0 : a0 = b0 <;> by_cases h1 : a1 = b1 <;> by_cases h2 : a2 = b2 <;> simp [h0, h1, h2]
def encI3 (k : Int) : Value := .int .i64 k
theorem keyI3 : KeyLaw 3 encI3 where
  check := fun b a w => by unfold encI3; kernel_rfl
  bits := fun a => by unfold encI3; simp [Instr.sameBits]
  now := ⟨_, Try.underlying3, .inr fun a b => by by_cases h : a = b <;> simp [Instr.sameNow, encI3, h]⟩
  equal := fun a b w => by
    unfold encI3
    have hu := run_underlying Try.underlying3 w
    show (Op.equalIn (9999 + 1) _ _ _).run _ _ = _
    rw [Op.equalIn]
    simp only [Sem.run_bind, hu, Result.andThen_ok, if_true, Sem.run_pure]
    congr 1
def DetCouple.enc (k : DetCouple) : Value := .agg #[.int .i64 k.fE0, .int .i64 k.fE1]
theorem DetCouple.part0 (x0 : Int) (x1 : Int) (w : World) : (Go.part 3 #[.int .i64 x0, .int .i64 x1] 0).run Try.prog w = .ok (.int .i64 x0) w := by kernel_rfl
theorem DetCouple.part1 (x0 : Int) (x1 : Int) (w : World) : (Go.part 3 #[.int .i64 x0, .int .i64 x1] 1).run Try.prog w = .ok (.int .i64 x1) w := by kernel_rfl
theorem DetCouple.eq3 (x y : Int) (n : Nat) (w : World) : (Op.equalIn (n + 1) 3 (.int .i64 x) (.int .i64 y)).run Try.prog w = .ok (x == y) w := by
  have hu := run_underlying Try.underlying3 w
  simp only [Op.equalIn, Sem.run_bind, hu, Result.andThen_ok, if_true, Sem.run_pure]
theorem DetCouple.keyLaw : KeyLaw 169 DetCouple.enc where
  check := fun b a w => by unfold DetCouple.enc; kernel_rfl
  bits := fun a => by unfold DetCouple.enc; simp [Instr.sameBits, beq_bytes]
  now := ⟨_, Try.underlying169, .inl fun a b => rfl⟩
  equal := fun a b w => by
    unfold DetCouple.enc
    have hu := run_underlying Try.underlying169 w
    have hsz : ∀ w, (sizeOf 3).run Try.prog w = .ok 1 w := fun w => by kernel_rfl
    have hr : List.range' 0 2 = [0, 1] := rfl
    show (Op.equalIn (9999 + 1) _ _ _).run _ _ = _
    rw [Op.equalIn]
    simp only [Sem.run_bind, hu, Result.andThen_ok]
    simp [Go.program, Sem.run, hsz, hr, DetCouple.part0, DetCouple.part1, DetCouple.eq3]
    rcases a with ⟨a0, a1⟩
    rcases b with ⟨b0, b1⟩
    by_cases h0 : a0 = b0 <;> by_cases h1 : a1 = b1 <;> simp [h0, h1]
def St291.enc (k : St291) : Value := .agg #[.int .i64 k.fE0, .int .i64 k.fE1, .int .i64 k.fE2]
theorem St291.part0 (x0 : Int) (x1 : Int) (x2 : Int) (w : World) : (Go.part 3 #[.int .i64 x0, .int .i64 x1, .int .i64 x2] 0).run Try.prog w = .ok (.int .i64 x0) w := by kernel_rfl
theorem St291.part1 (x0 : Int) (x1 : Int) (x2 : Int) (w : World) : (Go.part 3 #[.int .i64 x0, .int .i64 x1, .int .i64 x2] 1).run Try.prog w = .ok (.int .i64 x1) w := by kernel_rfl
theorem St291.part2 (x0 : Int) (x1 : Int) (x2 : Int) (w : World) : (Go.part 3 #[.int .i64 x0, .int .i64 x1, .int .i64 x2] 2).run Try.prog w = .ok (.int .i64 x2) w := by kernel_rfl
theorem St291.eq3 (x y : Int) (n : Nat) (w : World) : (Op.equalIn (n + 1) 3 (.int .i64 x) (.int .i64 y)).run Try.prog w = .ok (x == y) w := by
  have hu := run_underlying Try.underlying3 w
  simp only [Op.equalIn, Sem.run_bind, hu, Result.andThen_ok, if_true, Sem.run_pure]
theorem St291.keyLaw : KeyLaw 291 St291.enc where
  check := fun b a w => by unfold St291.enc; kernel_rfl
  bits := fun a => by unfold St291.enc; simp [Instr.sameBits, beq_bytes]
  now := ⟨_, Try.underlying291, .inl fun a b => rfl⟩
  equal := fun a b w => by
    unfold St291.enc
    have hu := run_underlying Try.underlying291 w
    have hsz : ∀ w, (sizeOf 3).run Try.prog w = .ok 1 w := fun w => by kernel_rfl
    have hr : List.range' 0 3 = [0, 1, 2] := rfl
    show (Op.equalIn (9999 + 1) _ _ _).run _ _ = _
    rw [Op.equalIn]
    simp only [Sem.run_bind, hu, Result.andThen_ok]
    simp [Go.program, Sem.run, hsz, hr, St291.part0, St291.part1, St291.part2, St291.eq3]
    rcases a with ⟨a0, a1, a2⟩
    rcases b with ⟨b0, b1, b2⟩
    by_cases h0 : a0 = b0 <;> by_cases h1 : a1 = b1 <;> by_cases h2 : a2 = b2 <;> simp [h0, h1, h2]
def DetSplit.enc (k : DetSplit) : Value := .agg #[.int .i64 k.fOwn, .string k.fNext]
theorem DetSplit.part0 (x0 : Int) (x1 : ByteArray) (w : World) : (Go.part 3 #[.int .i64 x0, .string x1] 0).run Try.prog w = .ok (.int .i64 x0) w := by kernel_rfl
theorem DetSplit.part1 (x0 : Int) (x1 : ByteArray) (w : World) : (Go.part 9 #[.int .i64 x0, .string x1] 1).run Try.prog w = .ok (.string x1) w := by kernel_rfl
theorem DetSplit.eq3 (x y : Int) (n : Nat) (w : World) : (Op.equalIn (n + 1) 3 (.int .i64 x) (.int .i64 y)).run Try.prog w = .ok (x == y) w := by
  have hu := run_underlying Try.underlying3 w
  simp only [Op.equalIn, Sem.run_bind, hu, Result.andThen_ok, if_true, Sem.run_pure]
theorem DetSplit.eq9 (x y : ByteArray) (n : Nat) (w : World) : (Op.equalIn (n + 1) 9 (.string x) (.string y)).run Try.prog w = .ok (decide (x = y)) w := by
  have hu := run_underlying Try.underlying9 w
  simp only [Op.equalIn, Sem.run_bind, hu, Result.andThen_ok, Sem.run_pure, beq_bytes]
theorem DetSplit.keyLaw : KeyLaw 322 DetSplit.enc where
  check := fun b a w => by unfold DetSplit.enc; kernel_rfl
  bits := fun a => by unfold DetSplit.enc; simp [Instr.sameBits, beq_bytes]
  now := ⟨_, Try.underlying322, .inl fun a b => rfl⟩
  equal := fun a b w => by
    unfold DetSplit.enc
    have hu := run_underlying Try.underlying322 w
    have hst : Try.prog.stoodInHeld 322 = false := by kernel_rfl
    show (Op.equalIn (9999 + 1) _ _ _).run _ _ = _
    rw [Op.equalIn]
    simp only [Sem.run_bind, hu, Result.andThen_ok]
    simp [Go.program, Sem.run, hst, DetSplit.part0, DetSplit.part1, DetSplit.eq3, DetSplit.eq9]
    rcases a with ⟨a0, a1⟩
    rcases b with ⟨b0, b1⟩
    by_cases h0 : a0 = b0 <;> by_cases h1 : a1 = b1 <;> simp [h0, h1]
end Go.Proofs.Ytapnmjeadbhffaa


namespace Go.Proofs.Ytapnmjeadbhffaa
open Go.RowKit Go.MapKept
set_option linter.unusedSimpArgs false
set_option linter.unusedVariables false
set_option maxRecDepth 100000
def cloneInt_vc (l : (List Int)) (Q : (List Int) → Prop) : Prop :=
  l.length ≤ 9223372036854775807 →
  (∀ isnil : Bool, (isnil = true → l = []) →
  (IfP (isnil != false) (Q []) (capOk ([] : (List Int)).length (l : (List Int)).length 8 ∧
  Q (([] : (List Int)) ++ l))))
theorem cloneInt_walk (l : (List Int)) (Q : (List Int) → Prop) (h : cloneInt_vc l Q) : CtJ 49 [.sv (.one (LS intT l))] [] Q (fun (r : (List Int)) => rowI 3 intT r) := by
 have ht := tab_ok
 refine CtJ.body Try.func49 rfl rfl rfl rfl (fun c hn hmay => ?_)
 unfold cloneInt_vc at h
 refine En.lenL 0 (by rfl) (fun hl => ?_)
 replace h := h hl
 clear hl
 refine En.seq ?_
 refine En.region ?_
 refine WL.run ht hn 1 ⟨[sl 0 (LS intT l)], []⟩ (by kernel_rfl) ?_
 refine WL.nil ?_
 refine En.seq ?_
 refine En.seq ?_
 refine En.region ?_
 refine WL.run ht hn 1 ⟨[sl 0 (LS intT l), sl 3 (LS intT l)], []⟩ (by kernel_rfl) ?_
 refine WL.eqNil (T := intT) (l := l) .eql false (by simp) ht hn (by rfl) rfl (by rfl) (by rfl) (by rfl) rfl (by rfl) (fun isnil hisnil => ?_)
 replace h := h isnil hisnil
 clear hisnil
 refine WL.nil ?_
 refine En.cond (b := (isnil != false)) (by kernel_rfl) (fun hb => ?_) (fun hb => ?_)
 replace h := h.1 hb
 refine En.seq ?_
 refine En.region ?_
 refine WL.run ht hn 1 ⟨[sl 2 (.v (.slice none 0 0))], []⟩ (by kernel_rfl) ?_
 refine WL.nil ?_
 refine En.ret ?_
 exact En.backN (by rfl) h
 replace h := h.2 hb
 refine En.skip ?_
 refine En.seq ?_
 refine En.region ?_
 refine WL.mt0 (K := []) (p := some (0, rowI 3 intT ([] : (List Int)))) hn (by rfl) (mt_empty intT 0 ht rfl (by rfl) (by rfl) (by rfl)) (by rfl) (by rfl) (by rfl) ?_
 refine WL.run ht hn 1 ⟨[sl 5 (.own 0), sl 6 (LS intT l)], [rowI 3 intT ([] : (List Int))]⟩ (by kernel_rfl) ?_
 have hp := h.1
 replace h := h.2
 refine WL.mt (S2 := ⟨[sl 6 (LS intT l)], [rowI 3 intT ([] : (List Int))]⟩) (K := [0]) (p := some (0, rowI 3 intT (([] : (List Int)) ++ l))) hn (by rfl) (mt_append (T := intT) (l := ([] : (List Int))) (es := l) ht rfl (by rfl) (by rfl) (by rfl) (by rfl) (by decide) (by rfl) (by rfl) (srcLS (T := intT) (es := l) (fun _ h => by cases h) (by decide) (by rfl)) (by exact hp) (by exact hp.le (by decide))) (by kernel_rfl) (by rfl) (by rfl) (by rfl) ?_
 refine WL.run ht hn 1 ⟨[sl 2 (.own 0)], [rowI 3 intT (([] : (List Int)) ++ l)]⟩ (by kernel_rfl) ?_
 refine WL.nil ?_
 refine En.ret ?_
 exact En.backJ (itf := fun l => rowI 3 intT l) hmay (by rfl) (by rfl) rfl rfl h
theorem en49 : ∀ args w, (callFunc 49 args).run Try.prog w = .ok (.enter 49 args) w := enters_of Try.func49 (by kernel_rfl) rfl
theorem cloneInt_ct (l : List Int) (hp : l.length * 8 ≤ 140737488355328) : CtI 49 [.sv (.one (LS intT l))] [] (rowI 3 intT l) := by
  refine (cloneInt_walk l (fun r => r = l) ?_).fun
  unfold cloneInt_vc
  refine fun _ isnil h => ⟨fun hb => (h (by simpa using hb)).symm, fun _ => ⟨?_, by simp⟩⟩
  unfold capOk
  simpa using hp
def exploreInt_vc (letters : Int) (start : Int) (domgo : ((Int × Int) → Prop)) (go : ((Int × Int) → Int)) (dommark : (Int → Prop)) (mark : (Int → Int)) (limit : Int) (Q : (ApiDet × Bool) → Prop) : Prop :=
  ∃ (Inv : (List (Int × Int)) → (List Int) → (List (List Int)) → (List Int) → Prop) (mu : (List (Int × Int)) → (List Int) → (List (List Int)) → (List Int) → Nat), Inv (mput start 0 ([] : List (Int × Int))) ([start] : (List Int)) ([] : (List (List Int))) ([] : (List Int)) ∧
  ∀ (m2 : (List (Int × Int))) (l3 : (List Int)) (l6 : (List (List Int))) (l7 : (List Int)) , Inv m2 l3 l6 l7 → (IfP (decide ((l6.length : Int) < (l3.length : Int))) (∃ e, idx l3 (l6.length : Int) = some e ∧
  makeOk letters letters 8 ∧
  ∃ (Inv_2 : Int → (List (Int × Int)) → (List Int) → (List Int) → Prop) (mu_2 : Int → (List (Int × Int)) → (List Int) → (List Int) → Nat), Inv_2 0 m2 l3 (List.replicate (letters).toNat (0 : Int)) ∧
  ∀ (x43 : Int) (m2_2 : (List (Int × Int))) (l3_2 : (List Int)) (l8 : (List Int)) , Inv_2 x43 m2_2 l3_2 l8 → (IfP (decide (x43 < letters)) ((domgo (e, x43)) ∧
  ∃ J : Int → (List (Int × Int)) → (List Int) → Prop, (IfP (!(mget (go (e, x43)) m2_2).isSome) (IfP ((l3_2.length : Int) == limit) (Q ((ApiDet.mk 0 0 [] []), false)) (capOk l3_2.length (([(go (e, x43))] : (List Int)) : (List Int)).length 8 ∧
  J (l3_2.length : Int) (mput (go (e, x43)) (l3_2.length : Int) m2_2) (l3_2 ++ ([(go (e, x43))] : (List Int))))) (J ((mget (go (e, x43)) m2_2).getD (0 : Int)) m2_2 l3_2)) ∧
  (∀ (x19 : Int) (m2_3 : (List (Int × Int))) (l3_3 : (List Int)), J x19 m2_3 l3_3 → ∃ e_2, idx l8 x43 = some e_2 ∧
  (Inv_2 (wr (x43 + 1)) m2_3 l3_3 (l8.set (x43).toNat x19) ∧ mu_2 (wr (x43 + 1)) m2_3 l3_3 (l8.set (x43).toNat x19) < mu_2 x43 m2_2 l3_2 l8))) (capOk l6.length (([l8] : (List (List Int))) : (List (List Int))).length 24 ∧
  (dommark e) ∧
  capOk l7.length (([(mark e)] : (List Int)) : (List Int)).length 8 ∧
  (Inv m2_2 l3_2 (l6 ++ ([l8] : (List (List Int)))) (l7 ++ ([(mark e)] : (List Int))) ∧ mu m2_2 l3_2 (l6 ++ ([l8] : (List (List Int)))) (l7 ++ ([(mark e)] : (List Int))) < mu m2 l3 l6 l7)))) (Q ((ApiDet.mk letters 0 l6 l7), true)))
set_option maxHeartbeats 2000000 in
theorem exploreInt_walk (letters : Int) (start : Int) (domgo : ((Int × Int) → Prop)) (go : ((Int × Int) → Int)) (dommark : (Int → Prop)) (mark : (Int → Int)) (limit : Int) (Q : (ApiDet × Bool) → Prop) (h : exploreInt_vc letters start domgo go dommark mark limit Q) : Ct 74 [.sv (.one (I letters)), .sv (.one (I start)), .sv (.one (.rd (fvR (fun (x : (Int × Int)) => [.sv (.one (I x.1)), .sv (.one (I x.2))]) (fun (r : Int) => .sv (.one (I r))) domgo go))), .sv (.one (.rd (fvR (fun (x : Int) => [.sv (.one (I x))]) (fun (r : Int) => .sv (.one (I r))) dommark mark))), .sv (.one (I limit))] [] Q (fun (r : (ApiDet × Bool)) => .tup [.agg [I r.1.fLetters, I r.1.fStart, LS (lsT intT) r.1.fNext, LS intT r.1.fMark], .one (B r.2)]) := by
 have ht := tab_ok
 refine Ct.body Try.func74 rfl rfl rfl rfl (fun c hn => ?_)
 unfold exploreInt_vc at h
 refine En.seq ?_
 refine En.region ?_
 refine WL.run ht hn 2 ⟨[sl 0 (I letters), sl 1 (I start), sl 2 (.rd (fvR (fun (x : (Int × Int)) => [.sv (.one (I x.1)), .sv (.one (I x.2))]) (fun (r : Int) => .sv (.one (I r))) domgo go)), sl 3 (.rd (fvR (fun (x : Int) => [.sv (.one (I x))]) (fun (r : Int) => .sv (.one (I r))) dommark mark)), sl 4 (I limit), sl 10 (.ptr 0 0)], [.box [I 0, I 0, .v (.slice none 0 0), .v (.slice none 0 0)] 73 false]⟩ (by kernel_rfl) ?_
 refine WL.nil ?_
 refine En.seq ?_
 refine En.region ?_
 refine WL.run ht hn 4 ⟨[sl 0 (I letters), sl 1 (I start), sl 2 (.rd (fvR (fun (x : (Int × Int)) => [.sv (.one (I x.1)), .sv (.one (I x.2))]) (fun (r : Int) => .sv (.one (I r))) domgo go)), sl 3 (.rd (fvR (fun (x : Int) => [.sv (.one (I x))]) (fun (r : Int) => .sv (.one (I r))) dommark mark)), sl 4 (I limit), sl 10 (.ptr 0 0), sl 12 (.ptr 1 0)], [.box [I 0, I 0, .v (.slice none 0 0), .v (.slice none 0 0)] 73 false, .box [I letters, I 0, .v (.slice none 0 0), .v (.slice none 0 0)] 73 false]⟩ (by kernel_rfl) ?_
 refine WL.nil ?_
 refine En.seq ?_
 refine En.region ?_
 refine WL.mt0 (K := []) (p := some (2, mapI encI3 intT ([] : List (Int × Int)))) hn (by rfl) (mt_makeMap encI3 intT 2 rfl) (by rfl) (by rfl) (by rfl) ?_
 refine WL.run ht hn 1 ⟨[sl 0 (I letters), sl 1 (I start), sl 2 (.rd (fvR (fun (x : (Int × Int)) => [.sv (.one (I x.1)), .sv (.one (I x.2))]) (fun (r : Int) => .sv (.one (I r))) domgo go)), sl 3 (.rd (fvR (fun (x : Int) => [.sv (.one (I x))]) (fun (r : Int) => .sv (.one (I r))) dommark mark)), sl 4 (I limit), sl 10 (.ptr 0 0), sl 12 (.ptr 1 0), sl 23 (.own 2), sl 24 (I start)], [.box [I 0, I 0, .v (.slice none 0 0), .v (.slice none 0 0)] 73 false, .box [I letters, I 0, .v (.slice none 0 0), .v (.slice none 0 0)] 73 false, mapI encI3 intT ([] : List (Int × Int))]⟩ (by kernel_rfl) ?_
 refine WL.mapPut (T := intT) keyI3 (k := start) (y := 0) hn (by rfl) (.inr rfl) Try.underlying274 (by rfl) (by rfl) (by rfl) (by rfl) (by rfl) (by rfl) ?_
 refine WL.run ht hn 2 ⟨[sl 0 (I letters), sl 1 (I start), sl 2 (.rd (fvR (fun (x : (Int × Int)) => [.sv (.one (I x.1)), .sv (.one (I x.2))]) (fun (r : Int) => .sv (.one (I r))) domgo go)), sl 3 (.rd (fvR (fun (x : Int) => [.sv (.one (I x))]) (fun (r : Int) => .sv (.one (I r))) dommark mark)), sl 4 (I limit), sl 10 (.ptr 0 0), sl 12 (.ptr 1 0), sl 13 (.own 2)], [.box [I 0, I 0, .v (.slice none 0 0), .v (.slice none 0 0)] 73 false, .box [I letters, I 0, .v (.slice none 0 0), .v (.slice none 0 0)] 73 false, mapI encI3 intT (mput start 0 ([] : List (Int × Int)))]⟩ (by kernel_rfl) ?_
 refine WL.nil ?_
 refine En.seq ?_
 refine En.seq ?_
 refine En.region ?_
 refine WL.run ht hn 1 ⟨[sl 0 (I letters), sl 2 (.rd (fvR (fun (x : (Int × Int)) => [.sv (.one (I x.1)), .sv (.one (I x.2))]) (fun (r : Int) => .sv (.one (I r))) domgo go)), sl 3 (.rd (fvR (fun (x : Int) => [.sv (.one (I x))]) (fun (r : Int) => .sv (.one (I r))) dommark mark)), sl 4 (I limit), sl 10 (.ptr 0 0), sl 12 (.ptr 1 0), sl 13 (.own 2), sl 26 (I start)], [.box [I 0, I 0, .v (.slice none 0 0), .v (.slice none 0 0)] 73 false, .box [I letters, I 0, .v (.slice none 0 0), .v (.slice none 0 0)] 73 false, mapI encI3 intT (mput start 0 ([] : List (Int × Int)))]⟩ (by kernel_rfl) ?_
 refine WL.mt0 (K := []) (p := some (3, rowI 3 intT ([start] : (List Int)))) hn (by rfl) (mt_lit (T := intT) ([start] : (List Int)) (mt_bsl 3 (r := cellsOf intT ([start] : (List Int))) ht rfl (by rfl) (by rfl) (by rfl) (by kernel_rfl) (by rfl)) (fun _ h => by cases h) (fun _ => rfl) (fun _ => rfl) (by rfl) (Nat.le_of_ble_eq_true rfl)) (by rfl) (by rfl) (by rfl) ?_
 refine WL.run ht hn 1 ⟨[sl 0 (I letters), sl 2 (.rd (fvR (fun (x : (Int × Int)) => [.sv (.one (I x.1)), .sv (.one (I x.2))]) (fun (r : Int) => .sv (.one (I r))) domgo go)), sl 3 (.rd (fvR (fun (x : Int) => [.sv (.one (I x))]) (fun (r : Int) => .sv (.one (I r))) dommark mark)), sl 4 (I limit), sl 10 (.ptr 0 0), sl 12 (.ptr 1 0), sl 13 (.own 2), sl 14 (.own 3)], [.box [I 0, I 0, .v (.slice none 0 0), .v (.slice none 0 0)] 73 false, .box [I letters, I 0, .v (.slice none 0 0), .v (.slice none 0 0)] 73 false, mapI encI3 intT (mput start 0 ([] : List (Int × Int))), rowI 3 intT ([start] : (List Int))]⟩ (by kernel_rfl) ?_
 refine WL.nil ?_
 refine En.block ?_
 refine En.nilBoxO (T := (lsT intT)) 1 2 6 23 (by rfl) (by rfl) (by rfl) (by rfl) ?_
 refine En.nilBoxO (T := intT) 1 3 7 3 (by rfl) (by rfl) (by rfl) (by rfl) ?_
 obtain ⟨Inv, mu, h0_2, hI_2⟩ := h
 refine En.loop (σ := (List (Int × Int)) × (List Int) × (List (List Int)) × (List Int)) (fun zz => Inv zz.1 zz.2.1 zz.2.2.1 zz.2.2.2) (fun zz => mu zz.1 zz.2.1 zz.2.2.1 zz.2.2.2) (fun zz => ⟨[sl 0 (I letters), sl 2 (.rd (fvR (fun (x : (Int × Int)) => [.sv (.one (I x.1)), .sv (.one (I x.2))]) (fun (r : Int) => .sv (.one (I r))) domgo go)), sl 3 (.rd (fvR (fun (x : Int) => [.sv (.one (I x))]) (fun (r : Int) => .sv (.one (I r))) dommark mark)), sl 4 (I limit), sl 10 (.ptr 0 0), sl 12 (.ptr 1 0), sl 13 (.own 2), sl 14 (.own 3)], [.box [I 0, I 0, .v (.slice none 0 0), .v (.slice none 0 0)] 73 false, .box [I letters, I 0, .own 6, .own 7] 73 false, mapI encI3 intT zz.1, rowI 3 intT zz.2.1, .gone, .gone, rowI 23 (lsT intT) zz.2.2.1, rowI 3 intT zz.2.2.2]⟩) ((mput start 0 ([] : List (Int × Int))), ([start] : (List Int)), ([] : (List (List Int))), ([] : (List Int))) h0_2 (sub_ok (by kernel_rfl)) ?_
 rintro ⟨m2, l3, l6, l7⟩ h
 replace h := hI_2 _ _ _ _ h
 show En c ⟨[sl 0 (I letters), sl 2 (.rd (fvR (fun (x : (Int × Int)) => [.sv (.one (I x.1)), .sv (.one (I x.2))]) (fun (r : Int) => .sv (.one (I r))) domgo go)), sl 3 (.rd (fvR (fun (x : Int) => [.sv (.one (I x))]) (fun (r : Int) => .sv (.one (I r))) dommark mark)), sl 4 (I limit), sl 10 (.ptr 0 0), sl 12 (.ptr 1 0), sl 13 (.own 2), sl 14 (.own 3)], [.box [I 0, I 0, .v (.slice none 0 0), .v (.slice none 0 0)] 73 false, .box [I letters, I 0, .own 6, .own 7] 73 false, mapI encI3 intT m2, rowI 3 intT l3, .gone, .gone, rowI 23 (lsT intT) l6, rowI 3 intT l7]⟩ _
 refine En.seq ?_
 refine En.seq ?_
 refine En.region ?_
 refine WL.run ht hn 6 ⟨[sl 0 (I letters), sl 2 (.rd (fvR (fun (x : (Int × Int)) => [.sv (.one (I x.1)), .sv (.one (I x.2))]) (fun (r : Int) => .sv (.one (I r))) domgo go)), sl 3 (.rd (fvR (fun (x : Int) => [.sv (.one (I x))]) (fun (r : Int) => .sv (.one (I r))) dommark mark)), sl 4 (I limit), sl 10 (.ptr 0 0), sl 12 (.ptr 1 0), sl 13 (.own 2), sl 14 (.own 3), sl 33 (B (decide ((l6.length : Int) < (l3.length : Int))))], [.box [I 0, I 0, .v (.slice none 0 0), .v (.slice none 0 0)] 73 false, .box [I letters, I 0, .own 6, .own 7] 73 false, mapI encI3 intT m2, rowI 3 intT l3, .gone, .gone, rowI 23 (lsT intT) l6, rowI 3 intT l7]⟩ (by kernel_rfl) ?_
 refine WL.nil ?_
 refine En.cond (b := (decide ((l6.length : Int) < (l3.length : Int)))) (by kernel_rfl) (fun hb => ?_) (fun hb => ?_)
 replace h := h.1 hb
 refine En.skip ?_
 refine En.block ?_
 refine En.seq ?_
 refine En.region ?_
 refine WL.run ht hn 4 ⟨[sl 0 (I letters), sl 2 (.rd (fvR (fun (x : (Int × Int)) => [.sv (.one (I x.1)), .sv (.one (I x.2))]) (fun (r : Int) => .sv (.one (I r))) domgo go)), sl 3 (.rd (fvR (fun (x : Int) => [.sv (.one (I x))]) (fun (r : Int) => .sv (.one (I r))) dommark mark)), sl 4 (I limit), sl 10 (.ptr 0 0), sl 12 (.ptr 1 0), sl 13 (.own 2), sl 14 (.own 3), sl 34 (.own 3), sl 37 (I (l6.length : Int))], [.box [I 0, I 0, .v (.slice none 0 0), .v (.slice none 0 0)] 73 false, .box [I letters, I 0, .own 6, .own 7] 73 false, mapI encI3 intT m2, rowI 3 intT l3, .gone, .gone, rowI 23 (lsT intT) l6, rowI 3 intT l7]⟩ (by kernel_rfl) ?_
 obtain ⟨e, he, h⟩ := h
 refine WL.val hn (by rfl) (val_indexO (T := intT) (l := l3) (k := (l6.length : Int)) ht rfl (by rfl) (by rfl) (by rfl) (by rfl) (by decide) (by rfl) (by rfl) (by rfl) he) (by rfl) ?_
 refine WL.val hn (by rfl) (val_loadO (T := intT) (l := l3) (y := e) ht rfl (by rfl) (by rfl) (by rfl) (by rfl) (by rfl) (idx_some he).2.2 (by rfl)) (by rfl) ?_
 refine WL.run ht hn 1 ⟨[sl 0 (I letters), sl 2 (.rd (fvR (fun (x : (Int × Int)) => [.sv (.one (I x.1)), .sv (.one (I x.2))]) (fun (r : Int) => .sv (.one (I r))) domgo go)), sl 3 (.rd (fvR (fun (x : Int) => [.sv (.one (I x))]) (fun (r : Int) => .sv (.one (I r))) dommark mark)), sl 4 (I limit), sl 10 (.ptr 0 0), sl 12 (.ptr 1 0), sl 13 (.own 2), sl 14 (.own 3), sl 15 (I e)], [.box [I 0, I 0, .v (.slice none 0 0), .v (.slice none 0 0)] 73 false, .box [I letters, I 0, .own 6, .own 7] 73 false, mapI encI3 intT m2, rowI 3 intT l3, .gone, .gone, rowI 23 (lsT intT) l6, rowI 3 intT l7]⟩ (by kernel_rfl) ?_
 refine WL.nil ?_
 refine En.seq ?_
 refine En.region ?_
 refine WL.run ht hn 1 ⟨[sl 0 (I letters), sl 2 (.rd (fvR (fun (x : (Int × Int)) => [.sv (.one (I x.1)), .sv (.one (I x.2))]) (fun (r : Int) => .sv (.one (I r))) domgo go)), sl 3 (.rd (fvR (fun (x : Int) => [.sv (.one (I x))]) (fun (r : Int) => .sv (.one (I r))) dommark mark)), sl 4 (I limit), sl 10 (.ptr 0 0), sl 12 (.ptr 1 0), sl 13 (.own 2), sl 14 (.own 3), sl 15 (I e), sl 40 (I letters)], [.box [I 0, I 0, .v (.slice none 0 0), .v (.slice none 0 0)] 73 false, .box [I letters, I 0, .own 6, .own 7] 73 false, mapI encI3 intT m2, rowI 3 intT l3, .gone, .gone, rowI 23 (lsT intT) l6, rowI 3 intT l7]⟩ (by kernel_rfl) ?_
 have hp := h.1
 replace h := h.2
 refine WL.mt0 (K := []) (p := some (8, rowI 3 intT (List.replicate (letters).toNat (0 : Int)))) hn (by rfl) (mt_make (T := intT) (0 : Int) (zv := (.int .i64 0)) 8 (l := letters) (cp := letters) ht rfl (by rfl) (by rfl) (by rfl) (by rfl) (by decide) (by rfl) (by rfl) hp.1 hp.2.1 hp.2.2 (hp.le (by decide)) rfl (fun _ => ⟨rfl, trivial⟩)) (by rfl) (by rfl) (by rfl) ?_
 refine WL.run ht hn 1 ⟨[sl 0 (I letters), sl 2 (.rd (fvR (fun (x : (Int × Int)) => [.sv (.one (I x.1)), .sv (.one (I x.2))]) (fun (r : Int) => .sv (.one (I r))) domgo go)), sl 3 (.rd (fvR (fun (x : Int) => [.sv (.one (I x))]) (fun (r : Int) => .sv (.one (I r))) dommark mark)), sl 4 (I limit), sl 10 (.ptr 0 0), sl 12 (.ptr 1 0), sl 13 (.own 2), sl 14 (.own 3), sl 15 (I e), sl 16 (.own 8)], [.box [I 0, I 0, .v (.slice none 0 0), .v (.slice none 0 0)] 73 false, .box [I letters, I 0, .own 6, .own 7] 73 false, mapI encI3 intT m2, rowI 3 intT l3, .gone, .gone, rowI 23 (lsT intT) l6, rowI 3 intT l7, rowI 3 intT (List.replicate (letters).toNat (0 : Int))]⟩ (by kernel_rfl) ?_
 refine WL.nil ?_
 refine En.seq ?_
 refine En.seq ?_
 refine En.region ?_
 refine WL.run ht hn 2 ⟨[sl 0 (I letters), sl 2 (.rd (fvR (fun (x : (Int × Int)) => [.sv (.one (I x.1)), .sv (.one (I x.2))]) (fun (r : Int) => .sv (.one (I r))) domgo go)), sl 3 (.rd (fvR (fun (x : Int) => [.sv (.one (I x))]) (fun (r : Int) => .sv (.one (I r))) dommark mark)), sl 4 (I limit), sl 10 (.ptr 0 0), sl 12 (.ptr 1 0), sl 13 (.own 2), sl 14 (.own 3), sl 15 (I e), sl 16 (.own 8), sl 42 (I letters), sl 43 (I 0)], [.box [I 0, I 0, .v (.slice none 0 0), .v (.slice none 0 0)] 73 false, .box [I letters, I 0, .own 6, .own 7] 73 false, mapI encI3 intT m2, rowI 3 intT l3, .gone, .gone, rowI 23 (lsT intT) l6, rowI 3 intT l7, rowI 3 intT (List.replicate (letters).toNat (0 : Int))]⟩ (by kernel_rfl) ?_
 refine WL.nil ?_
 refine En.block ?_
 obtain ⟨Inv_2, mu_2, h0, hI⟩ := h
 refine En.loop (σ := Int × (List (Int × Int)) × (List Int) × (List Int)) (fun zz => Inv_2 zz.1 zz.2.1 zz.2.2.1 zz.2.2.2) (fun zz => mu_2 zz.1 zz.2.1 zz.2.2.1 zz.2.2.2) (fun zz => ⟨[sl 0 (I letters), sl 2 (.rd (fvR (fun (x : (Int × Int)) => [.sv (.one (I x.1)), .sv (.one (I x.2))]) (fun (r : Int) => .sv (.one (I r))) domgo go)), sl 3 (.rd (fvR (fun (x : Int) => [.sv (.one (I x))]) (fun (r : Int) => .sv (.one (I r))) dommark mark)), sl 4 (I limit), sl 10 (.ptr 0 0), sl 12 (.ptr 1 0), sl 13 (.own 2), sl 14 (.own 3), sl 15 (I e), sl 16 (.own 8), sl 42 (I letters), sl 43 (I zz.1)], [.box [I 0, I 0, .v (.slice none 0 0), .v (.slice none 0 0)] 73 false, .box [I letters, I 0, .own 6, .own 7] 73 false, mapI encI3 intT zz.2.1, rowI 3 intT zz.2.2.1, .gone, .gone, rowI 23 (lsT intT) l6, rowI 3 intT l7, rowI 3 intT zz.2.2.2]⟩) (0, m2, l3, (List.replicate (letters).toNat (0 : Int))) h0 (sub_ok (by kernel_rfl)) ?_
 rintro ⟨x43, m2_2, l3_2, l8⟩ h
 replace h := hI _ _ _ _ h
 show En c ⟨[sl 0 (I letters), sl 2 (.rd (fvR (fun (x : (Int × Int)) => [.sv (.one (I x.1)), .sv (.one (I x.2))]) (fun (r : Int) => .sv (.one (I r))) domgo go)), sl 3 (.rd (fvR (fun (x : Int) => [.sv (.one (I x))]) (fun (r : Int) => .sv (.one (I r))) dommark mark)), sl 4 (I limit), sl 10 (.ptr 0 0), sl 12 (.ptr 1 0), sl 13 (.own 2), sl 14 (.own 3), sl 15 (I e), sl 16 (.own 8), sl 42 (I letters), sl 43 (I x43)], [.box [I 0, I 0, .v (.slice none 0 0), .v (.slice none 0 0)] 73 false, .box [I letters, I 0, .own 6, .own 7] 73 false, mapI encI3 intT m2_2, rowI 3 intT l3_2, .gone, .gone, rowI 23 (lsT intT) l6, rowI 3 intT l7, rowI 3 intT l8]⟩ _
 refine En.seq ?_
 refine En.region ?_
 refine WL.run ht hn 1 ⟨[sl 0 (I letters), sl 2 (.rd (fvR (fun (x : (Int × Int)) => [.sv (.one (I x.1)), .sv (.one (I x.2))]) (fun (r : Int) => .sv (.one (I r))) domgo go)), sl 3 (.rd (fvR (fun (x : Int) => [.sv (.one (I x))]) (fun (r : Int) => .sv (.one (I r))) dommark mark)), sl 4 (I limit), sl 10 (.ptr 0 0), sl 12 (.ptr 1 0), sl 13 (.own 2), sl 14 (.own 3), sl 15 (I e), sl 16 (.own 8), sl 42 (I letters), sl 43 (I x43), sl 44 (B (decide (x43 < letters)))], [.box [I 0, I 0, .v (.slice none 0 0), .v (.slice none 0 0)] 73 false, .box [I letters, I 0, .own 6, .own 7] 73 false, mapI encI3 intT m2_2, rowI 3 intT l3_2, .gone, .gone, rowI 23 (lsT intT) l6, rowI 3 intT l7, rowI 3 intT l8]⟩ (by kernel_rfl) ?_
 refine WL.nil ?_
 refine En.seq ?_
 refine En.cond (b := (decide (x43 < letters))) (by kernel_rfl) (fun hb => ?_) (fun hb => ?_)
 replace h := h.1 hb
 refine En.skip ?_
 refine En.seq ?_
 refine En.block ?_
 refine En.seq ?_
 refine En.region ?_
 refine WL.run ht hn 2 ⟨[sl 0 (I letters), sl 2 (.rd (fvR (fun (x : (Int × Int)) => [.sv (.one (I x.1)), .sv (.one (I x.2))]) (fun (r : Int) => .sv (.one (I r))) domgo go)), sl 3 (.rd (fvR (fun (x : Int) => [.sv (.one (I x))]) (fun (r : Int) => .sv (.one (I r))) dommark mark)), sl 4 (I limit), sl 10 (.ptr 0 0), sl 12 (.ptr 1 0), sl 13 (.own 2), sl 14 (.own 3), sl 15 (I e), sl 16 (.own 8), sl 17 (I x43), sl 42 (I letters), sl 43 (I x43)], [.box [I 0, I 0, .v (.slice none 0 0), .v (.slice none 0 0)] 73 false, .box [I letters, I 0, .own 6, .own 7] 73 false, mapI encI3 intT m2_2, rowI 3 intT l3_2, .gone, .gone, rowI 23 (lsT intT) l6, rowI 3 intT l7, rowI 3 intT l8]⟩ (by kernel_rfl) ?_
 refine WL.nil ?_
 refine En.seq ?_
 refine En.region ?_
 refine WL.run ht hn 3 ⟨[sl 0 (I letters), sl 2 (.rd (fvR (fun (x : (Int × Int)) => [.sv (.one (I x.1)), .sv (.one (I x.2))]) (fun (r : Int) => .sv (.one (I r))) domgo go)), sl 3 (.rd (fvR (fun (x : Int) => [.sv (.one (I x))]) (fun (r : Int) => .sv (.one (I r))) dommark mark)), sl 4 (I limit), sl 10 (.ptr 0 0), sl 12 (.ptr 1 0), sl 13 (.own 2), sl 14 (.own 3), sl 15 (I e), sl 16 (.own 8), sl 17 (I x43), sl 42 (I letters), sl 43 (I x43), sl 46 (.rd (fvR (fun (x : (Int × Int)) => [.sv (.one (I x.1)), .sv (.one (I x.2))]) (fun (r : Int) => .sv (.one (I r))) domgo go)), sl 47 (I e), sl 48 (I x43)], [.box [I 0, I 0, .v (.slice none 0 0), .v (.slice none 0 0)] 73 false, .box [I letters, I 0, .own 6, .own 7] 73 false, mapI encI3 intT m2_2, rowI 3 intT l3_2, .gone, .gone, rowI 23 (lsT intT) l6, rowI 3 intT l7, rowI 3 intT l8]⟩ (by kernel_rfl) ?_
 have hp := h.1
 replace h := h.2
 refine WL.mt0 (K := []) (p := none) hn (by rfl) (mt_callv (e, x43) hp rfl (by rfl) (by rfl) (by rfl) (by rfl)) (by rfl) (by rfl) (by rfl) ?_
 refine WL.run ht hn 1 ⟨[sl 0 (I letters), sl 2 (.rd (fvR (fun (x : (Int × Int)) => [.sv (.one (I x.1)), .sv (.one (I x.2))]) (fun (r : Int) => .sv (.one (I r))) domgo go)), sl 3 (.rd (fvR (fun (x : Int) => [.sv (.one (I x))]) (fun (r : Int) => .sv (.one (I r))) dommark mark)), sl 4 (I limit), sl 10 (.ptr 0 0), sl 12 (.ptr 1 0), sl 13 (.own 2), sl 14 (.own 3), sl 15 (I e), sl 16 (.own 8), sl 17 (I x43), sl 18 (I (go (e, x43))), sl 42 (I letters), sl 43 (I x43)], [.box [I 0, I 0, .v (.slice none 0 0), .v (.slice none 0 0)] 73 false, .box [I letters, I 0, .own 6, .own 7] 73 false, mapI encI3 intT m2_2, rowI 3 intT l3_2, .gone, .gone, rowI 23 (lsT intT) l6, rowI 3 intT l7, rowI 3 intT l8]⟩ (by kernel_rfl) ?_
 refine WL.nil ?_
 refine En.seq ?_
 refine En.region ?_
 refine WL.run ht hn 2 ⟨[sl 0 (I letters), sl 2 (.rd (fvR (fun (x : (Int × Int)) => [.sv (.one (I x.1)), .sv (.one (I x.2))]) (fun (r : Int) => .sv (.one (I r))) domgo go)), sl 3 (.rd (fvR (fun (x : Int) => [.sv (.one (I x))]) (fun (r : Int) => .sv (.one (I r))) dommark mark)), sl 4 (I limit), sl 10 (.ptr 0 0), sl 12 (.ptr 1 0), sl 13 (.own 2), sl 14 (.own 3), sl 15 (I e), sl 16 (.own 8), sl 17 (I x43), sl 18 (I (go (e, x43))), sl 42 (I letters), sl 43 (I x43), sl 51 (.own 2), sl 52 (I (go (e, x43)))], [.box [I 0, I 0, .v (.slice none 0 0), .v (.slice none 0 0)] 73 false, .box [I letters, I 0, .own 6, .own 7] 73 false, mapI encI3 intT m2_2, rowI 3 intT l3_2, .gone, .gone, rowI 23 (lsT intT) l6, rowI 3 intT l7, rowI 3 intT l8]⟩ (by kernel_rfl) ?_
 refine WL.val hn (by rfl) (val_lookup (T := intT) (D := m2_2) keyI3 (k := (go (e, x43))) (ok := true) (0 : Int) (zv := (.int .i64 0)) rfl Try.underlying274 (fun _ => by kernel_rfl) (fun _ => ⟨rfl, trivial⟩) (mapAs encI3 intT m2_2) (by rfl) (by rfl) (by rfl) (fun _ => rfl)) (by rfl) ?_
 refine WL.run ht hn 5 ⟨[sl 0 (I letters), sl 2 (.rd (fvR (fun (x : (Int × Int)) => [.sv (.one (I x.1)), .sv (.one (I x.2))]) (fun (r : Int) => .sv (.one (I r))) domgo go)), sl 3 (.rd (fvR (fun (x : Int) => [.sv (.one (I x))]) (fun (r : Int) => .sv (.one (I r))) dommark mark)), sl 4 (I limit), sl 10 (.ptr 0 0), sl 12 (.ptr 1 0), sl 13 (.own 2), sl 14 (.own 3), sl 15 (I e), sl 16 (.own 8), sl 17 (I x43), sl 18 (I (go (e, x43))), sl 19 (I ((mget (go (e, x43)) m2_2).getD (0 : Int))), sl 20 (B (mget (go (e, x43)) m2_2).isSome), sl 42 (I letters), sl 43 (I x43)], [.box [I 0, I 0, .v (.slice none 0 0), .v (.slice none 0 0)] 73 false, .box [I letters, I 0, .own 6, .own 7] 73 false, mapI encI3 intT m2_2, rowI 3 intT l3_2, .gone, .gone, rowI 23 (lsT intT) l6, rowI 3 intT l7, rowI 3 intT l8]⟩ (by kernel_rfl) ?_
 refine WL.nil ?_
 obtain ⟨J, h, hJ⟩ := h
 refine En.seqJ (σ := Int × (List (Int × Int)) × (List Int)) (fun zz => J zz.1 zz.2.1 zz.2.2) (fun zz => ⟨[sl 0 (I letters), sl 2 (.rd (fvR (fun (x : (Int × Int)) => [.sv (.one (I x.1)), .sv (.one (I x.2))]) (fun (r : Int) => .sv (.one (I r))) domgo go)), sl 3 (.rd (fvR (fun (x : Int) => [.sv (.one (I x))]) (fun (r : Int) => .sv (.one (I r))) dommark mark)), sl 4 (I limit), sl 10 (.ptr 0 0), sl 12 (.ptr 1 0), sl 13 (.own 2), sl 14 (.own 3), sl 15 (I e), sl 16 (.own 8), sl 17 (I x43), sl 19 (I zz.1), sl 42 (I letters), sl 43 (I x43)], [.box [I 0, I 0, .v (.slice none 0 0), .v (.slice none 0 0)] 73 false, .box [I letters, I 0, .own 6, .own 7] 73 false, mapI encI3 intT zz.2.1, rowI 3 intT zz.2.2, .gone, .gone, rowI 23 (lsT intT) l6, rowI 3 intT l7, rowI 3 intT l8]⟩) ?_ ?_
 refine En.seq ?_
 refine En.region ?_
 refine WL.run ht hn 2 ⟨[sl 0 (I letters), sl 2 (.rd (fvR (fun (x : (Int × Int)) => [.sv (.one (I x.1)), .sv (.one (I x.2))]) (fun (r : Int) => .sv (.one (I r))) domgo go)), sl 3 (.rd (fvR (fun (x : Int) => [.sv (.one (I x))]) (fun (r : Int) => .sv (.one (I r))) dommark mark)), sl 4 (I limit), sl 10 (.ptr 0 0), sl 12 (.ptr 1 0), sl 13 (.own 2), sl 14 (.own 3), sl 15 (I e), sl 16 (.own 8), sl 17 (I x43), sl 18 (I (go (e, x43))), sl 19 (I ((mget (go (e, x43)) m2_2).getD (0 : Int))), sl 42 (I letters), sl 43 (I x43), sl 57 (B (!(mget (go (e, x43)) m2_2).isSome))], [.box [I 0, I 0, .v (.slice none 0 0), .v (.slice none 0 0)] 73 false, .box [I letters, I 0, .own 6, .own 7] 73 false, mapI encI3 intT m2_2, rowI 3 intT l3_2, .gone, .gone, rowI 23 (lsT intT) l6, rowI 3 intT l7, rowI 3 intT l8]⟩ (by kernel_rfl) ?_
 refine WL.nil ?_
 refine En.cond (b := (!(mget (go (e, x43)) m2_2).isSome)) (by kernel_rfl) (fun hb => ?_) (fun hb => ?_)
 replace h := h.1 hb
 refine En.seq ?_
 refine En.region ?_
 refine WL.run ht hn 3 ⟨[sl 0 (I letters), sl 2 (.rd (fvR (fun (x : (Int × Int)) => [.sv (.one (I x.1)), .sv (.one (I x.2))]) (fun (r : Int) => .sv (.one (I r))) domgo go)), sl 3 (.rd (fvR (fun (x : Int) => [.sv (.one (I x))]) (fun (r : Int) => .sv (.one (I r))) dommark mark)), sl 4 (I limit), sl 10 (.ptr 0 0), sl 12 (.ptr 1 0), sl 13 (.own 2), sl 14 (.own 3), sl 15 (I e), sl 16 (.own 8), sl 17 (I x43), sl 18 (I (go (e, x43))), sl 19 (I (l3_2.length : Int)), sl 42 (I letters), sl 43 (I x43)], [.box [I 0, I 0, .v (.slice none 0 0), .v (.slice none 0 0)] 73 false, .box [I letters, I 0, .own 6, .own 7] 73 false, mapI encI3 intT m2_2, rowI 3 intT l3_2, .gone, .gone, rowI 23 (lsT intT) l6, rowI 3 intT l7, rowI 3 intT l8]⟩ (by kernel_rfl) ?_
 refine WL.nil ?_
 refine En.seq ?_
 refine En.seq ?_
 refine En.region ?_
 refine WL.run ht hn 3 ⟨[sl 0 (I letters), sl 2 (.rd (fvR (fun (x : (Int × Int)) => [.sv (.one (I x.1)), .sv (.one (I x.2))]) (fun (r : Int) => .sv (.one (I r))) domgo go)), sl 3 (.rd (fvR (fun (x : Int) => [.sv (.one (I x))]) (fun (r : Int) => .sv (.one (I r))) dommark mark)), sl 4 (I limit), sl 10 (.ptr 0 0), sl 12 (.ptr 1 0), sl 13 (.own 2), sl 14 (.own 3), sl 15 (I e), sl 16 (.own 8), sl 17 (I x43), sl 18 (I (go (e, x43))), sl 19 (I (l3_2.length : Int)), sl 42 (I letters), sl 43 (I x43), sl 62 (B ((l3_2.length : Int) == limit))], [.box [I 0, I 0, .v (.slice none 0 0), .v (.slice none 0 0)] 73 false, .box [I letters, I 0, .own 6, .own 7] 73 false, mapI encI3 intT m2_2, rowI 3 intT l3_2, .gone, .gone, rowI 23 (lsT intT) l6, rowI 3 intT l7, rowI 3 intT l8]⟩ (by kernel_rfl) ?_
 refine WL.nil ?_
 refine En.cond (b := ((l3_2.length : Int) == limit)) (by kernel_rfl) (fun hb => ?_) (fun hb => ?_)
 replace h := h.1 hb
 refine En.seq ?_
 refine En.region ?_
 refine WL.run ht hn 3 ⟨[sl 10 (.ptr 0 0), sl 11 (B false)], [.box [I 0, I 0, .v (.slice none 0 0), .v (.slice none 0 0)] 73 false, .gone, .gone, .gone, .gone, .gone, .gone, .gone, .gone]⟩ (by kernel_rfl) ?_
 refine WL.nil ?_
 refine En.ret ?_
 refine En.nilBox (T := (lsT intT)) 0 2 (by rfl) (by rfl) ?_
 refine En.nilBox (T := intT) 0 3 (by rfl) (by rfl) ?_
 exact En.back ht ((ApiDet.mk 0 0 [] []), false) h (by kernel_rfl) rfl
 replace h := h.2 hb
 refine En.skip ?_
 refine En.seq ?_
 refine En.region ?_
 refine WL.run ht hn 3 ⟨[sl 0 (I letters), sl 2 (.rd (fvR (fun (x : (Int × Int)) => [.sv (.one (I x.1)), .sv (.one (I x.2))]) (fun (r : Int) => .sv (.one (I r))) domgo go)), sl 3 (.rd (fvR (fun (x : Int) => [.sv (.one (I x))]) (fun (r : Int) => .sv (.one (I r))) dommark mark)), sl 4 (I limit), sl 10 (.ptr 0 0), sl 12 (.ptr 1 0), sl 13 (.own 2), sl 14 (.own 3), sl 15 (I e), sl 16 (.own 8), sl 17 (I x43), sl 18 (I (go (e, x43))), sl 19 (I (l3_2.length : Int)), sl 42 (I letters), sl 43 (I x43), sl 64 (.own 2), sl 65 (I (go (e, x43))), sl 66 (I (l3_2.length : Int))], [.box [I 0, I 0, .v (.slice none 0 0), .v (.slice none 0 0)] 73 false, .box [I letters, I 0, .own 6, .own 7] 73 false, mapI encI3 intT m2_2, rowI 3 intT l3_2, .gone, .gone, rowI 23 (lsT intT) l6, rowI 3 intT l7, rowI 3 intT l8]⟩ (by kernel_rfl) ?_
 refine WL.mapPut (T := intT) keyI3 (k := (go (e, x43))) (y := (l3_2.length : Int)) hn (by rfl) (.inl rfl) Try.underlying274 (by rfl) (by rfl) (by rfl) (by rfl) (by rfl) (by rfl) ?_
 refine WL.nil ?_
 refine En.region ?_
 refine WL.run ht hn 2 ⟨[sl 0 (I letters), sl 2 (.rd (fvR (fun (x : (Int × Int)) => [.sv (.one (I x.1)), .sv (.one (I x.2))]) (fun (r : Int) => .sv (.one (I r))) domgo go)), sl 3 (.rd (fvR (fun (x : Int) => [.sv (.one (I x))]) (fun (r : Int) => .sv (.one (I r))) dommark mark)), sl 4 (I limit), sl 10 (.ptr 0 0), sl 12 (.ptr 1 0), sl 13 (.own 2), sl 15 (I e), sl 16 (.own 8), sl 17 (I x43), sl 19 (I (l3_2.length : Int)), sl 42 (I letters), sl 43 (I x43), sl 67 (.own 3), sl 68 (I (go (e, x43)))], [.box [I 0, I 0, .v (.slice none 0 0), .v (.slice none 0 0)] 73 false, .box [I letters, I 0, .own 6, .own 7] 73 false, mapI encI3 intT (mput (go (e, x43)) (l3_2.length : Int) m2_2), rowI 3 intT l3_2, .gone, .gone, rowI 23 (lsT intT) l6, rowI 3 intT l7, rowI 3 intT l8]⟩ (by kernel_rfl) ?_
 refine WL.mt0 (K := []) (p := some (9, rowI 3 intT ([(go (e, x43))] : (List Int)))) hn (by rfl) (mt_lit (T := intT) ([(go (e, x43))] : (List Int)) (mt_bsl 9 (r := cellsOf intT ([(go (e, x43))] : (List Int))) ht rfl (by rfl) (by rfl) (by rfl) (by kernel_rfl) (by rfl)) (fun _ h => by cases h) (fun _ => rfl) (fun _ => rfl) (by rfl) (Nat.le_of_ble_eq_true rfl)) (by rfl) (by rfl) (by rfl) ?_
 refine WL.seal (T := intT) (l := ([(go (e, x43))] : (List Int))) (e := 3) 9 rfl ?_
 refine WL.run ht hn 0 ⟨[sl 0 (I letters), sl 2 (.rd (fvR (fun (x : (Int × Int)) => [.sv (.one (I x.1)), .sv (.one (I x.2))]) (fun (r : Int) => .sv (.one (I r))) domgo go)), sl 3 (.rd (fvR (fun (x : Int) => [.sv (.one (I x))]) (fun (r : Int) => .sv (.one (I r))) dommark mark)), sl 4 (I limit), sl 10 (.ptr 0 0), sl 12 (.ptr 1 0), sl 13 (.own 2), sl 15 (I e), sl 16 (.own 8), sl 17 (I x43), sl 19 (I (l3_2.length : Int)), sl 42 (I letters), sl 43 (I x43), sl 67 (.own 3), sl 68 (I (go (e, x43))), sl 69 (LS intT ([(go (e, x43))] : (List Int)))], [.box [I 0, I 0, .v (.slice none 0 0), .v (.slice none 0 0)] 73 false, .box [I letters, I 0, .own 6, .own 7] 73 false, mapI encI3 intT (mput (go (e, x43)) (l3_2.length : Int) m2_2), rowI 3 intT l3_2, .gone, .gone, rowI 23 (lsT intT) l6, rowI 3 intT l7, rowI 3 intT l8, .gone]⟩ (by kernel_rfl) ?_
 have hp := h.1
 replace h := h.2
 refine WL.mt (S2 := ⟨[sl 0 (I letters), sl 2 (.rd (fvR (fun (x : (Int × Int)) => [.sv (.one (I x.1)), .sv (.one (I x.2))]) (fun (r : Int) => .sv (.one (I r))) domgo go)), sl 3 (.rd (fvR (fun (x : Int) => [.sv (.one (I x))]) (fun (r : Int) => .sv (.one (I r))) dommark mark)), sl 4 (I limit), sl 10 (.ptr 0 0), sl 12 (.ptr 1 0), sl 13 (.own 2), sl 15 (I e), sl 16 (.own 8), sl 17 (I x43), sl 19 (I (l3_2.length : Int)), sl 42 (I letters), sl 43 (I x43), sl 68 (I (go (e, x43))), sl 69 (LS intT ([(go (e, x43))] : (List Int)))], [.box [I 0, I 0, .v (.slice none 0 0), .v (.slice none 0 0)] 73 false, .box [I letters, I 0, .own 6, .own 7] 73 false, mapI encI3 intT (mput (go (e, x43)) (l3_2.length : Int) m2_2), rowI 3 intT l3_2, .gone, .gone, rowI 23 (lsT intT) l6, rowI 3 intT l7, rowI 3 intT l8, .gone]⟩) (K := [3]) (p := some (3, rowI 3 intT (l3_2 ++ ([(go (e, x43))] : (List Int))))) hn (by rfl) (mt_append (T := intT) (l := l3_2) (es := ([(go (e, x43))] : (List Int))) ht rfl (by rfl) (by rfl) (by rfl) (by rfl) (by decide) (by rfl) (by rfl) (srcLS (T := intT) (es := ([(go (e, x43))] : (List Int))) (fun _ h => by cases h) (by decide) (by rfl)) (by exact hp) (by exact hp.le (by decide))) (by kernel_rfl) (by rfl) (by rfl) (by rfl) ?_
 refine WL.run ht hn 1 ⟨[sl 0 (I letters), sl 2 (.rd (fvR (fun (x : (Int × Int)) => [.sv (.one (I x.1)), .sv (.one (I x.2))]) (fun (r : Int) => .sv (.one (I r))) domgo go)), sl 3 (.rd (fvR (fun (x : Int) => [.sv (.one (I x))]) (fun (r : Int) => .sv (.one (I r))) dommark mark)), sl 4 (I limit), sl 10 (.ptr 0 0), sl 12 (.ptr 1 0), sl 13 (.own 2), sl 14 (.own 3), sl 15 (I e), sl 16 (.own 8), sl 17 (I x43), sl 19 (I (l3_2.length : Int)), sl 42 (I letters), sl 43 (I x43)], [.box [I 0, I 0, .v (.slice none 0 0), .v (.slice none 0 0)] 73 false, .box [I letters, I 0, .own 6, .own 7] 73 false, mapI encI3 intT (mput (go (e, x43)) (l3_2.length : Int) m2_2), rowI 3 intT (l3_2 ++ ([(go (e, x43))] : (List Int))), .gone, .gone, rowI 23 (lsT intT) l6, rowI 3 intT l7, rowI 3 intT l8, .gone]⟩ (by kernel_rfl) ?_
 refine WL.nil ?_
 exact En.at (I := fun zz => J zz.1 zz.2.1 zz.2.2) (T := fun zz => ⟨[sl 0 (I letters), sl 2 (.rd (fvR (fun (x : (Int × Int)) => [.sv (.one (I x.1)), .sv (.one (I x.2))]) (fun (r : Int) => .sv (.one (I r))) domgo go)), sl 3 (.rd (fvR (fun (x : Int) => [.sv (.one (I x))]) (fun (r : Int) => .sv (.one (I r))) dommark mark)), sl 4 (I limit), sl 10 (.ptr 0 0), sl 12 (.ptr 1 0), sl 13 (.own 2), sl 14 (.own 3), sl 15 (I e), sl 16 (.own 8), sl 17 (I x43), sl 19 (I zz.1), sl 42 (I letters), sl 43 (I x43)], [.box [I 0, I 0, .v (.slice none 0 0), .v (.slice none 0 0)] 73 false, .box [I letters, I 0, .own 6, .own 7] 73 false, mapI encI3 intT zz.2.1, rowI 3 intT zz.2.2, .gone, .gone, rowI 23 (lsT intT) l6, rowI 3 intT l7, rowI 3 intT l8]⟩) ((l3_2.length : Int), (mput (go (e, x43)) (l3_2.length : Int) m2_2), (l3_2 ++ ([(go (e, x43))] : (List Int)))) h (by kernel_rfl)
 replace h := h.2 hb
 refine En.skip ?_
 exact En.at (I := fun zz => J zz.1 zz.2.1 zz.2.2) (T := fun zz => ⟨[sl 0 (I letters), sl 2 (.rd (fvR (fun (x : (Int × Int)) => [.sv (.one (I x.1)), .sv (.one (I x.2))]) (fun (r : Int) => .sv (.one (I r))) domgo go)), sl 3 (.rd (fvR (fun (x : Int) => [.sv (.one (I x))]) (fun (r : Int) => .sv (.one (I r))) dommark mark)), sl 4 (I limit), sl 10 (.ptr 0 0), sl 12 (.ptr 1 0), sl 13 (.own 2), sl 14 (.own 3), sl 15 (I e), sl 16 (.own 8), sl 17 (I x43), sl 19 (I zz.1), sl 42 (I letters), sl 43 (I x43)], [.box [I 0, I 0, .v (.slice none 0 0), .v (.slice none 0 0)] 73 false, .box [I letters, I 0, .own 6, .own 7] 73 false, mapI encI3 intT zz.2.1, rowI 3 intT zz.2.2, .gone, .gone, rowI 23 (lsT intT) l6, rowI 3 intT l7, rowI 3 intT l8]⟩) (((mget (go (e, x43)) m2_2).getD (0 : Int)), m2_2, l3_2) h (by kernel_rfl)
 rintro ⟨x19, m2_3, l3_3⟩ h
 replace h := hJ _ _ _ h
 show En c ⟨[sl 0 (I letters), sl 2 (.rd (fvR (fun (x : (Int × Int)) => [.sv (.one (I x.1)), .sv (.one (I x.2))]) (fun (r : Int) => .sv (.one (I r))) domgo go)), sl 3 (.rd (fvR (fun (x : Int) => [.sv (.one (I x))]) (fun (r : Int) => .sv (.one (I r))) dommark mark)), sl 4 (I limit), sl 10 (.ptr 0 0), sl 12 (.ptr 1 0), sl 13 (.own 2), sl 14 (.own 3), sl 15 (I e), sl 16 (.own 8), sl 17 (I x43), sl 19 (I x19), sl 42 (I letters), sl 43 (I x43)], [.box [I 0, I 0, .v (.slice none 0 0), .v (.slice none 0 0)] 73 false, .box [I letters, I 0, .own 6, .own 7] 73 false, mapI encI3 intT m2_3, rowI 3 intT l3_3, .gone, .gone, rowI 23 (lsT intT) l6, rowI 3 intT l7, rowI 3 intT l8]⟩ _
 refine En.region ?_
 refine WL.run ht hn 3 ⟨[sl 0 (I letters), sl 2 (.rd (fvR (fun (x : (Int × Int)) => [.sv (.one (I x.1)), .sv (.one (I x.2))]) (fun (r : Int) => .sv (.one (I r))) domgo go)), sl 3 (.rd (fvR (fun (x : Int) => [.sv (.one (I x))]) (fun (r : Int) => .sv (.one (I r))) dommark mark)), sl 4 (I limit), sl 10 (.ptr 0 0), sl 12 (.ptr 1 0), sl 13 (.own 2), sl 14 (.own 3), sl 15 (I e), sl 16 (.own 8), sl 42 (I letters), sl 43 (I x43), sl 71 (.own 8), sl 72 (I x43), sl 73 (I x19)], [.box [I 0, I 0, .v (.slice none 0 0), .v (.slice none 0 0)] 73 false, .box [I letters, I 0, .own 6, .own 7] 73 false, mapI encI3 intT m2_3, rowI 3 intT l3_3, .gone, .gone, rowI 23 (lsT intT) l6, rowI 3 intT l7, rowI 3 intT l8]⟩ (by kernel_rfl) ?_
 obtain ⟨e_2, he_2, h⟩ := h
 refine WL.val hn (by rfl) (val_indexO (T := intT) (l := l8) (k := x43) ht rfl (by rfl) (by rfl) (by rfl) (by rfl) (by decide) (by rfl) (by rfl) (by rfl) he_2) (by rfl) ?_
 refine WL.storeO (T := intT) (l := l8) (y := x19) ht hn (by rfl) rfl (by rfl) (by rfl) (fun _ h => by cases h) (by rfl) (by rfl) (idx_lt he_2) (by rfl) (by rfl) (by rfl) (by rfl) ?_
 refine WL.nil ?_
 refine En.region ?_
 refine WL.run ht hn 2 ⟨[sl 0 (I letters), sl 2 (.rd (fvR (fun (x : (Int × Int)) => [.sv (.one (I x.1)), .sv (.one (I x.2))]) (fun (r : Int) => .sv (.one (I r))) domgo go)), sl 3 (.rd (fvR (fun (x : Int) => [.sv (.one (I x))]) (fun (r : Int) => .sv (.one (I r))) dommark mark)), sl 4 (I limit), sl 10 (.ptr 0 0), sl 12 (.ptr 1 0), sl 13 (.own 2), sl 14 (.own 3), sl 15 (I e), sl 16 (.own 8), sl 42 (I letters), sl 43 (I (wr (x43 + 1)))], [.box [I 0, I 0, .v (.slice none 0 0), .v (.slice none 0 0)] 73 false, .box [I letters, I 0, .own 6, .own 7] 73 false, mapI encI3 intT m2_3, rowI 3 intT l3_3, .gone, .gone, rowI 23 (lsT intT) l6, rowI 3 intT l7, rowI 3 intT (l8.set (x43).toNat x19)]⟩ (by kernel_rfl) ?_
 refine WL.nil ?_
 exact En.at (I := fun zz => Inv_2 zz.1 zz.2.1 zz.2.2.1 zz.2.2.2 ∧ mu_2 zz.1 zz.2.1 zz.2.2.1 zz.2.2.2 < mu_2 x43 m2_2 l3_2 l8) (T := fun zz => ⟨[sl 0 (I letters), sl 2 (.rd (fvR (fun (x : (Int × Int)) => [.sv (.one (I x.1)), .sv (.one (I x.2))]) (fun (r : Int) => .sv (.one (I r))) domgo go)), sl 3 (.rd (fvR (fun (x : Int) => [.sv (.one (I x))]) (fun (r : Int) => .sv (.one (I r))) dommark mark)), sl 4 (I limit), sl 10 (.ptr 0 0), sl 12 (.ptr 1 0), sl 13 (.own 2), sl 14 (.own 3), sl 15 (I e), sl 16 (.own 8), sl 42 (I letters), sl 43 (I zz.1)], [.box [I 0, I 0, .v (.slice none 0 0), .v (.slice none 0 0)] 73 false, .box [I letters, I 0, .own 6, .own 7] 73 false, mapI encI3 intT zz.2.1, rowI 3 intT zz.2.2.1, .gone, .gone, rowI 23 (lsT intT) l6, rowI 3 intT l7, rowI 3 intT zz.2.2.2]⟩) ((wr (x43 + 1)), m2_3, l3_3, (l8.set (x43).toNat x19)) h (by kernel_rfl)
 replace h := h.2 hb
 refine En.exit rfl ?_
 refine En.seq ?_
 refine En.region ?_
 refine WL.run ht hn 3 ⟨[sl 0 (I letters), sl 2 (.rd (fvR (fun (x : (Int × Int)) => [.sv (.one (I x.1)), .sv (.one (I x.2))]) (fun (r : Int) => .sv (.one (I r))) domgo go)), sl 3 (.rd (fvR (fun (x : Int) => [.sv (.one (I x))]) (fun (r : Int) => .sv (.one (I r))) dommark mark)), sl 4 (I limit), sl 10 (.ptr 0 0), sl 12 (.ptr 1 0), sl 13 (.own 2), sl 14 (.own 3), sl 15 (I e), sl 77 (.own 6), sl 78 (.own 8)], [.box [I 0, I 0, .v (.slice none 0 0), .v (.slice none 0 0)] 73 false, .box [I letters, I 0, .own 6, .own 7] 73 false, mapI encI3 intT m2_2, rowI 3 intT l3_2, .gone, .gone, rowI 23 (lsT intT) l6, rowI 3 intT l7, rowI 3 intT l8]⟩ (by kernel_rfl) ?_
 refine WL.seal (T := intT) (l := l8) (e := 3) 8 rfl ?_
 refine WL.run ht hn 0 ⟨[sl 0 (I letters), sl 2 (.rd (fvR (fun (x : (Int × Int)) => [.sv (.one (I x.1)), .sv (.one (I x.2))]) (fun (r : Int) => .sv (.one (I r))) domgo go)), sl 3 (.rd (fvR (fun (x : Int) => [.sv (.one (I x))]) (fun (r : Int) => .sv (.one (I r))) dommark mark)), sl 4 (I limit), sl 10 (.ptr 0 0), sl 12 (.ptr 1 0), sl 13 (.own 2), sl 14 (.own 3), sl 15 (I e), sl 77 (.own 6), sl 78 (LS intT l8)], [.box [I 0, I 0, .v (.slice none 0 0), .v (.slice none 0 0)] 73 false, .box [I letters, I 0, .own 6, .own 7] 73 false, mapI encI3 intT m2_2, rowI 3 intT l3_2, .gone, .gone, rowI 23 (lsT intT) l6, rowI 3 intT l7, .gone]⟩ (by kernel_rfl) ?_
 refine WL.mt0 (K := []) (p := some (9, rowI 23 (lsT intT) ([l8] : (List (List Int))))) hn (by rfl) (mt_lit (T := (lsT intT)) ([l8] : (List (List Int))) (mt_bsl 9 (r := cellsOf (lsT intT) ([l8] : (List (List Int)))) ht rfl (by rfl) (by rfl) (by rfl) (by kernel_rfl) (by rfl)) (fun _ h => by cases h) (fun _ => rfl) (fun _ => rfl) (by rfl) (Nat.le_of_ble_eq_true rfl)) (by rfl) (by rfl) (by rfl) ?_
 refine WL.seal (T := (lsT intT)) (l := ([l8] : (List (List Int)))) (e := 23) 9 rfl ?_
 refine WL.run ht hn 0 ⟨[sl 0 (I letters), sl 2 (.rd (fvR (fun (x : (Int × Int)) => [.sv (.one (I x.1)), .sv (.one (I x.2))]) (fun (r : Int) => .sv (.one (I r))) domgo go)), sl 3 (.rd (fvR (fun (x : Int) => [.sv (.one (I x))]) (fun (r : Int) => .sv (.one (I r))) dommark mark)), sl 4 (I limit), sl 10 (.ptr 0 0), sl 12 (.ptr 1 0), sl 13 (.own 2), sl 14 (.own 3), sl 15 (I e), sl 77 (.own 6), sl 78 (LS intT l8), sl 79 (LS (lsT intT) ([l8] : (List (List Int))))], [.box [I 0, I 0, .v (.slice none 0 0), .v (.slice none 0 0)] 73 false, .box [I letters, I 0, .own 6, .own 7] 73 false, mapI encI3 intT m2_2, rowI 3 intT l3_2, .gone, .gone, rowI 23 (lsT intT) l6, rowI 3 intT l7, .gone, .gone]⟩ (by kernel_rfl) ?_
 refine WL.junk 1 2 (by rfl) ?_
 have hp := h.1
 replace h := h.2
 refine WL.mt (S2 := ⟨[sl 0 (I letters), sl 2 (.rd (fvR (fun (x : (Int × Int)) => [.sv (.one (I x.1)), .sv (.one (I x.2))]) (fun (r : Int) => .sv (.one (I r))) domgo go)), sl 3 (.rd (fvR (fun (x : Int) => [.sv (.one (I x))]) (fun (r : Int) => .sv (.one (I r))) dommark mark)), sl 4 (I limit), sl 10 (.ptr 0 0), sl 12 (.ptr 1 0), sl 13 (.own 2), sl 14 (.own 3), sl 15 (I e), sl 78 (LS intT l8), sl 79 (LS (lsT intT) ([l8] : (List (List Int))))], [.box [I 0, I 0, .v (.slice none 0 0), .v (.slice none 0 0)] 73 false, .box [I letters, I 0, .junk, .own 7] 73 false, mapI encI3 intT m2_2, rowI 3 intT l3_2, .gone, .gone, rowI 23 (lsT intT) l6, rowI 3 intT l7, .gone, .gone]⟩) (K := [6]) (p := some (6, rowI 23 (lsT intT) (l6 ++ ([l8] : (List (List Int)))))) hn (by rfl) (mt_append (T := (lsT intT)) (l := l6) (es := ([l8] : (List (List Int)))) ht rfl (by rfl) (by rfl) (by rfl) (by rfl) (by decide) (by rfl) (by rfl) (srcLS (T := (lsT intT)) (es := ([l8] : (List (List Int)))) (fun _ h => by cases h) (by decide) (by rfl)) (by exact hp) (by exact hp.le (by decide))) (by kernel_rfl) (by rfl) (by rfl) (by rfl) ?_
 refine WL.run ht hn 2 ⟨[sl 0 (I letters), sl 2 (.rd (fvR (fun (x : (Int × Int)) => [.sv (.one (I x.1)), .sv (.one (I x.2))]) (fun (r : Int) => .sv (.one (I r))) domgo go)), sl 3 (.rd (fvR (fun (x : Int) => [.sv (.one (I x))]) (fun (r : Int) => .sv (.one (I r))) dommark mark)), sl 4 (I limit), sl 10 (.ptr 0 0), sl 12 (.ptr 1 0), sl 13 (.own 2), sl 14 (.own 3), sl 15 (I e)], [.box [I 0, I 0, .v (.slice none 0 0), .v (.slice none 0 0)] 73 false, .box [I letters, I 0, .own 6, .own 7] 73 false, mapI encI3 intT m2_2, rowI 3 intT l3_2, .gone, .gone, rowI 23 (lsT intT) (l6 ++ ([l8] : (List (List Int)))), rowI 3 intT l7, .gone, .gone]⟩ (by kernel_rfl) ?_
 refine WL.nil ?_
 have hp_2 := h.1
 replace h := h.2
 have hp_3 := h.1
 replace h := h.2
 refine En.regionA ⟨[sl 0 (I letters), sl 2 (.rd (fvR (fun (x : (Int × Int)) => [.sv (.one (I x.1)), .sv (.one (I x.2))]) (fun (r : Int) => .sv (.one (I r))) domgo go)), sl 3 (.rd (fvR (fun (x : Int) => [.sv (.one (I x))]) (fun (r : Int) => .sv (.one (I r))) dommark mark)), sl 4 (I limit), sl 10 (.ptr 0 0), sl 12 (.ptr 1 0), sl 13 (.own 2), sl 14 (.own 3), sl 15 (I e)], [.sv (.one (.ptr 1 3)), .sv (.one (.own 7)), .sv (.one (.rd (fvR (fun (x : Int) => [.sv (.one (I x))]) (fun (r : Int) => .sv (.one (I r))) dommark mark))), .sv (.one (I e)), .sv (.one (I (mark e))), .sv (.one (LS intT ([(mark e)] : (List Int)))), .sv (.one (.own 10)), .sv (.one (.ptr 1 3)), .tup []], [⟨.box [I 0, I 0, .v (.slice none 0 0), .v (.slice none 0 0)] 73 false, none, none, none⟩, ⟨.box [I letters, I 0, .own 6, .own 7] 73 false, none, none, some (8, .box [I letters, I 0, .own 6, .own 10] 73 false)⟩, ⟨mapI encI3 intT m2_2, none, none, none⟩, ⟨rowI 3 intT l3_2, none, none, none⟩, ⟨.gone, none, none, none⟩, ⟨.gone, none, none, none⟩, ⟨rowI 23 (lsT intT) (l6 ++ ([l8] : (List (List Int)))), none, none, none⟩, ⟨rowI 3 intT l7, none, some 6, none⟩, ⟨.gone, none, none, none⟩, ⟨.gone, none, none, none⟩, ⟨rowI 3 intT (l7 ++ ([(mark e)] : (List Int))), some 6, none, none⟩]⟩ ⟨[sl 0 (I letters), sl 2 (.rd (fvR (fun (x : (Int × Int)) => [.sv (.one (I x.1)), .sv (.one (I x.2))]) (fun (r : Int) => .sv (.one (I r))) domgo go)), sl 3 (.rd (fvR (fun (x : Int) => [.sv (.one (I x))]) (fun (r : Int) => .sv (.one (I r))) dommark mark)), sl 4 (I limit), sl 10 (.ptr 0 0), sl 12 (.ptr 1 0), sl 13 (.own 2), sl 14 (.own 3)], [.box [I 0, I 0, .v (.slice none 0 0), .v (.slice none 0 0)] 73 false, .box [I letters, I 0, .own 6, .own 10] 73 false, mapI encI3 intT m2_2, rowI 3 intT l3_2, .gone, .gone, rowI 23 (lsT intT) (l6 ++ ([l8] : (List (List Int)))), .gone, .gone, .gone, rowI 3 intT (l7 ++ ([(mark e)] : (List Int)))]⟩ (by kernel_rfl) hn (by kernel_rfl) (by rfl) (by kernel_rfl) ?_ (by kernel_rfl) ?_
 exact ⟨.mt ⟨[sl 12 (.ptr 1 0)], []⟩ [] none (by kernel_rfl) (by rfl) (mt_ev ht (by kernel_rfl)) rfl rfl rfl rfl,
  .mt ⟨[sl 82 (.ptr 1 3)], [.gone, .box [I letters, I 0, .own 6, .own 7] 73 false]⟩ [] none (by kernel_rfl) (by rfl) (mt_ev ht (by kernel_rfl)) rfl rfl rfl rfl,
  .mt ⟨[sl 3 (.rd (fvR (fun (x : Int) => [.sv (.one (I x))]) (fun (r : Int) => .sv (.one (I r))) dommark mark))], []⟩ [] none (by kernel_rfl) (by rfl) (mt_ev ht (by kernel_rfl)) rfl rfl rfl rfl,
  .mt ⟨[sl 15 (I e)], []⟩ [] none (by kernel_rfl) (by rfl) (mt_ev ht (by kernel_rfl)) rfl rfl rfl rfl,
  .mt ⟨[sl 84 (.rd (fvR (fun (x : Int) => [.sv (.one (I x))]) (fun (r : Int) => .sv (.one (I r))) dommark mark)), sl 85 (I e)], []⟩ [] none (by kernel_rfl) (by rfl) (mt_callv (ins := (fun (x : Int) => [.sv (.one (I x))])) (out := (fun (r : Int) => .sv (.one (I r)))) (dom := dommark) (φ := mark) e hp_2 rfl (by rfl) (by rfl) (by rfl) (by rfl)) rfl rfl rfl rfl,
  .mt ⟨[sl 86 (I (mark e))], []⟩ [] none (by kernel_rfl) (by rfl) (mt_seal (q := 10) (e := 3) (mt_lit (T := intT) ([(mark e)] : (List Int)) (mt_bsl 10 (r := cellsOf intT ([(mark e)] : (List Int))) ht rfl (by rfl) (by rfl) (by rfl) (by kernel_rfl) (by rfl)) (fun _ h => by cases h) (fun _ => rfl) (fun _ => rfl) (by rfl) (Nat.le_of_ble_eq_true rfl))) rfl rfl rfl rfl,
  .mt ⟨[sl 83 (.own 7), sl 87 (LS intT ([(mark e)] : (List Int)))], [.gone, .gone, .gone, .gone, .gone, .gone, .gone, rowI 3 intT l7]⟩ [7] (some 10) (by kernel_rfl) (by rfl) (mt_append (T := intT) (l := l7) (es := ([(mark e)] : (List Int))) (p := 10) ht rfl (by rfl) (by rfl) (by rfl) (by rfl) (by decide) (by rfl) (by rfl) (srcLS (T := intT) (es := ([(mark e)] : (List Int))) (fun _ h => by cases h) (by decide) (by rfl)) (by exact hp_3) (by exact hp_3.le (by decide))) rfl rfl rfl rfl,
  .mt ⟨[sl 12 (.ptr 1 0)], []⟩ [] none (by kernel_rfl) (by rfl) (mt_ev ht (by kernel_rfl)) rfl rfl rfl rfl,
  .mu ⟨[sl 88 (.own 10), sl 89 (.ptr 1 3)], [.gone, .box [I letters, I 0, .own 6, .own 7] 73 false]⟩ 1 _ _ rfl rfl (by kernel_rfl) (by rfl) (mu_store2 ht rfl (by rfl) (by rfl) (by rfl) (by rfl) (fun h => by cases h) (by rfl) (by rfl)) rfl rfl rfl rfl rfl rfl rfl,
  trivial⟩
 refine En.move 10 7 (by rfl) (by rfl) ?_
 exact En.at (I := fun zz => Inv zz.1 zz.2.1 zz.2.2.1 zz.2.2.2 ∧ mu zz.1 zz.2.1 zz.2.2.1 zz.2.2.2 < mu m2 l3 l6 l7) (T := fun zz => ⟨[sl 0 (I letters), sl 2 (.rd (fvR (fun (x : (Int × Int)) => [.sv (.one (I x.1)), .sv (.one (I x.2))]) (fun (r : Int) => .sv (.one (I r))) domgo go)), sl 3 (.rd (fvR (fun (x : Int) => [.sv (.one (I x))]) (fun (r : Int) => .sv (.one (I r))) dommark mark)), sl 4 (I limit), sl 10 (.ptr 0 0), sl 12 (.ptr 1 0), sl 13 (.own 2), sl 14 (.own 3)], [.box [I 0, I 0, .v (.slice none 0 0), .v (.slice none 0 0)] 73 false, .box [I letters, I 0, .own 6, .own 7] 73 false, mapI encI3 intT zz.1, rowI 3 intT zz.2.1, .gone, .gone, rowI 23 (lsT intT) zz.2.2.1, rowI 3 intT zz.2.2.2]⟩) (m2_2, l3_2, (l6 ++ ([l8] : (List (List Int)))), (l7 ++ ([(mark e)] : (List Int)))) h (by kernel_rfl)
 replace h := h.2 hb
 refine En.exit rfl ?_
 refine En.seq ?_
 refine En.region ?_
 refine WL.run ht hn 3 ⟨[sl 10 (.ptr 0 0), sl 11 (B true)], [.box [I letters, I 0, .own 6, .own 7] 73 false, .gone, .gone, .gone, .gone, .gone, rowI 23 (lsT intT) l6, rowI 3 intT l7]⟩ (by kernel_rfl) ?_
 refine WL.nil ?_
 refine En.ret ?_
 refine En.seal (T := (lsT intT)) (l := l6) (e := 23) 6 rfl ?_
 refine En.seal (T := intT) (l := l7) (e := 3) 7 rfl ?_
 exact En.back ht ((ApiDet.mk letters 0 l6 l7), true) h (by kernel_rfl) rfl
theorem en74 : ∀ args w, (callFunc 74 args).run Try.prog w = .ok (.enter 74 args) w := enters_of Try.func74 (by kernel_rfl) rfl
def exploreDetCouple_vc (letters : Int) (start : DetCouple) (domgo : ((DetCouple × Int) → Prop)) (go : ((DetCouple × Int) → DetCouple)) (dommark : (DetCouple → Prop)) (mark : (DetCouple → Int)) (limit : Int) (Q : (ApiDet × Bool) → Prop) : Prop :=
  ∃ (Inv : (List (DetCouple × Int)) → (List DetCouple) → (List (List Int)) → (List Int) → Prop) (mu : (List (DetCouple × Int)) → (List DetCouple) → (List (List Int)) → (List Int) → Nat), Inv (mput start 0 ([] : List (DetCouple × Int))) ([start] : (List DetCouple)) ([] : (List (List Int))) ([] : (List Int)) ∧
  ∀ (m3 : (List (DetCouple × Int))) (l4 : (List DetCouple)) (l8 : (List (List Int))) (l9 : (List Int)) , Inv m3 l4 l8 l9 → (IfP (decide ((l8.length : Int) < (l4.length : Int))) (∃ e, idx l4 (l8.length : Int) = some e ∧
  makeOk letters letters 8 ∧
  ∃ (Inv_2 : Int → (List (DetCouple × Int)) → (List DetCouple) → (List Int) → Prop) (mu_2 : Int → (List (DetCouple × Int)) → (List DetCouple) → (List Int) → Nat), Inv_2 0 m3 l4 (List.replicate (letters).toNat (0 : Int)) ∧
  ∀ (x43 : Int) (m3_2 : (List (DetCouple × Int))) (l4_2 : (List DetCouple)) (l11 : (List Int)) , Inv_2 x43 m3_2 l4_2 l11 → (IfP (decide (x43 < letters)) ((domgo (e, x43)) ∧
  ∃ J : Int → (List (DetCouple × Int)) → (List DetCouple) → Prop, (IfP (!(mget (go (e, x43)) m3_2).isSome) (IfP ((l4_2.length : Int) == limit) (Q ((ApiDet.mk 0 0 [] []), false)) (capOk l4_2.length (([(go (e, x43))] : (List DetCouple)) : (List DetCouple)).length 16 ∧
  J (l4_2.length : Int) (mput (go (e, x43)) (l4_2.length : Int) m3_2) (l4_2 ++ ([(go (e, x43))] : (List DetCouple))))) (J ((mget (go (e, x43)) m3_2).getD (0 : Int)) m3_2 l4_2)) ∧
  (∀ (x19 : Int) (m3_3 : (List (DetCouple × Int))) (l4_3 : (List DetCouple)), J x19 m3_3 l4_3 → ∃ e_2, idx l11 x43 = some e_2 ∧
  (Inv_2 (wr (x43 + 1)) m3_3 l4_3 (l11.set (x43).toNat x19) ∧ mu_2 (wr (x43 + 1)) m3_3 l4_3 (l11.set (x43).toNat x19) < mu_2 x43 m3_2 l4_2 l11))) (capOk l8.length (([l11] : (List (List Int))) : (List (List Int))).length 24 ∧
  (dommark e) ∧
  capOk l9.length (([(mark e)] : (List Int)) : (List Int)).length 8 ∧
  (Inv m3_2 l4_2 (l8 ++ ([l11] : (List (List Int)))) (l9 ++ ([(mark e)] : (List Int))) ∧ mu m3_2 l4_2 (l8 ++ ([l11] : (List (List Int)))) (l9 ++ ([(mark e)] : (List Int))) < mu m3 l4 l8 l9)))) (Q ((ApiDet.mk letters 0 l8 l9), true)))
set_option maxHeartbeats 2000000 in
theorem exploreDetCouple_walk (letters : Int) (start : DetCouple) (domgo : ((DetCouple × Int) → Prop)) (go : ((DetCouple × Int) → DetCouple)) (dommark : (DetCouple → Prop)) (mark : (DetCouple → Int)) (limit : Int) (Q : (ApiDet × Bool) → Prop) (h : exploreDetCouple_vc letters start domgo go dommark mark limit Q) : Ct 79 [.sv (.one (I letters)), .sv (.agg [I start.fE0, I start.fE1]), .sv (.one (.rd (fvR (fun (x : (DetCouple × Int)) => [.sv (.agg [I x.1.fE0, I x.1.fE1]), .sv (.one (I x.2))]) (fun (r : DetCouple) => .sv (.agg [I r.fE0, I r.fE1])) domgo go))), .sv (.one (.rd (fvR (fun (x : DetCouple) => [.sv (.agg [I x.fE0, I x.fE1])]) (fun (r : Int) => .sv (.one (I r))) dommark mark))), .sv (.one (I limit))] [] Q (fun (r : (ApiDet × Bool)) => .tup [.agg [I r.1.fLetters, I r.1.fStart, LS (lsT intT) r.1.fNext, LS intT r.1.fMark], .one (B r.2)]) := by
 have ht := tab_ok
 refine Ct.body Try.func79 rfl rfl rfl rfl (fun c hn => ?_)
 unfold exploreDetCouple_vc at h
 refine En.seq ?_
 refine En.region ?_
 refine WL.run ht hn 3 ⟨[sl 0 (I letters), sl 2 (.rd (fvR (fun (x : (DetCouple × Int)) => [.sv (.agg (DetCouple.cl x.1)), .sv (.one (I x.2))]) (fun (r : DetCouple) => .sv (.agg (DetCouple.cl r))) domgo go)), sl 3 (.rd (fvR (fun (x : DetCouple) => [.sv (.agg (DetCouple.cl x))]) (fun (r : Int) => .sv (.one (I r))) dommark mark)), sl 4 (I limit), sl 6 (.ptr 0 0), sl 10 (.ptr 1 0)], [.box (DetCouple.cl start) 169 false, .box [I 0, I 0, .v (.slice none 0 0), .v (.slice none 0 0)] 73 false]⟩ (by kernel_rfl) ?_
 refine WL.nil ?_
 refine En.seq ?_
 refine En.region ?_
 refine WL.run ht hn 4 ⟨[sl 0 (I letters), sl 2 (.rd (fvR (fun (x : (DetCouple × Int)) => [.sv (.agg (DetCouple.cl x.1)), .sv (.one (I x.2))]) (fun (r : DetCouple) => .sv (.agg (DetCouple.cl r))) domgo go)), sl 3 (.rd (fvR (fun (x : DetCouple) => [.sv (.agg (DetCouple.cl x))]) (fun (r : Int) => .sv (.one (I r))) dommark mark)), sl 4 (I limit), sl 6 (.ptr 0 0), sl 10 (.ptr 1 0), sl 12 (.ptr 2 0)], [.box (DetCouple.cl start) 169 false, .box [I 0, I 0, .v (.slice none 0 0), .v (.slice none 0 0)] 73 false, .box [I letters, I 0, .v (.slice none 0 0), .v (.slice none 0 0)] 73 false]⟩ (by kernel_rfl) ?_
 refine WL.nil ?_
 refine En.seq ?_
 refine En.region ?_
 refine WL.mt0 (K := []) (p := some (3, mapI DetCouple.enc intT ([] : List (DetCouple × Int)))) hn (by rfl) (mt_makeMap DetCouple.enc intT 3 rfl) (by rfl) (by rfl) (by rfl) ?_
 refine WL.run ht hn 1 ⟨[sl 0 (I letters), sl 2 (.rd (fvR (fun (x : (DetCouple × Int)) => [.sv (.agg (DetCouple.cl x.1)), .sv (.one (I x.2))]) (fun (r : DetCouple) => .sv (.agg (DetCouple.cl r))) domgo go)), sl 3 (.rd (fvR (fun (x : DetCouple) => [.sv (.agg (DetCouple.cl x))]) (fun (r : Int) => .sv (.one (I r))) dommark mark)), sl 4 (I limit), sl 6 (.ptr 0 0), sl 10 (.ptr 1 0), sl 12 (.ptr 2 0), sl 23 (.own 3), (24, .sv (.agg (DetCouple.cl start)))], [.box (DetCouple.cl start) 169 false, .box [I 0, I 0, .v (.slice none 0 0), .v (.slice none 0 0)] 73 false, .box [I letters, I 0, .v (.slice none 0 0), .v (.slice none 0 0)] 73 false, mapI DetCouple.enc intT ([] : List (DetCouple × Int))]⟩ (by kernel_rfl) ?_
 refine WL.mapPut (T := intT) DetCouple.keyLaw (k := start) (y := 0) hn (by rfl) (.inr rfl) Try.underlying278 (by rfl) (by rfl) (by rfl) (by rfl) (by rfl) (by rfl) ?_
 refine WL.run ht hn 2 ⟨[sl 0 (I letters), sl 2 (.rd (fvR (fun (x : (DetCouple × Int)) => [.sv (.agg (DetCouple.cl x.1)), .sv (.one (I x.2))]) (fun (r : DetCouple) => .sv (.agg (DetCouple.cl r))) domgo go)), sl 3 (.rd (fvR (fun (x : DetCouple) => [.sv (.agg (DetCouple.cl x))]) (fun (r : Int) => .sv (.one (I r))) dommark mark)), sl 4 (I limit), sl 6 (.ptr 0 0), sl 10 (.ptr 1 0), sl 12 (.ptr 2 0), sl 13 (.own 3)], [.box (DetCouple.cl start) 169 false, .box [I 0, I 0, .v (.slice none 0 0), .v (.slice none 0 0)] 73 false, .box [I letters, I 0, .v (.slice none 0 0), .v (.slice none 0 0)] 73 false, mapI DetCouple.enc intT (mput start 0 ([] : List (DetCouple × Int)))]⟩ (by kernel_rfl) ?_
 refine WL.nil ?_
 refine En.seq ?_
 refine En.seq ?_
 refine En.region ?_
 refine WL.run ht hn 1 ⟨[sl 0 (I letters), sl 2 (.rd (fvR (fun (x : (DetCouple × Int)) => [.sv (.agg (DetCouple.cl x.1)), .sv (.one (I x.2))]) (fun (r : DetCouple) => .sv (.agg (DetCouple.cl r))) domgo go)), sl 3 (.rd (fvR (fun (x : DetCouple) => [.sv (.agg (DetCouple.cl x))]) (fun (r : Int) => .sv (.one (I r))) dommark mark)), sl 4 (I limit), sl 10 (.ptr 1 0), sl 12 (.ptr 2 0), sl 13 (.own 3), (26, .sv (.agg (DetCouple.cl start)))], [.gone, .box [I 0, I 0, .v (.slice none 0 0), .v (.slice none 0 0)] 73 false, .box [I letters, I 0, .v (.slice none 0 0), .v (.slice none 0 0)] 73 false, mapI DetCouple.enc intT (mput start 0 ([] : List (DetCouple × Int)))]⟩ (by kernel_rfl) ?_
 refine WL.mt0 (K := []) (p := some (4, rowI 169 DetCouple.ty ([start] : (List DetCouple)))) hn (by rfl) (mt_lit (T := DetCouple.ty) ([start] : (List DetCouple)) (mt_bsl 4 (r := cellsOf DetCouple.ty ([start] : (List DetCouple))) ht rfl (by rfl) (by rfl) (by rfl) (by kernel_rfl) (by rfl)) (fun _ h => by cases h) (fun _ => rfl) (fun _ => rfl) (by rfl) (Nat.le_of_ble_eq_true rfl)) (by rfl) (by rfl) (by rfl) ?_
 refine WL.run ht hn 1 ⟨[sl 0 (I letters), sl 2 (.rd (fvR (fun (x : (DetCouple × Int)) => [.sv (.agg (DetCouple.cl x.1)), .sv (.one (I x.2))]) (fun (r : DetCouple) => .sv (.agg (DetCouple.cl r))) domgo go)), sl 3 (.rd (fvR (fun (x : DetCouple) => [.sv (.agg (DetCouple.cl x))]) (fun (r : Int) => .sv (.one (I r))) dommark mark)), sl 4 (I limit), sl 10 (.ptr 1 0), sl 12 (.ptr 2 0), sl 13 (.own 3), sl 14 (.own 4)], [.gone, .box [I 0, I 0, .v (.slice none 0 0), .v (.slice none 0 0)] 73 false, .box [I letters, I 0, .v (.slice none 0 0), .v (.slice none 0 0)] 73 false, mapI DetCouple.enc intT (mput start 0 ([] : List (DetCouple × Int))), rowI 169 DetCouple.ty ([start] : (List DetCouple))]⟩ (by kernel_rfl) ?_
 refine WL.nil ?_
 refine En.block ?_
 refine En.nilBoxO (T := (lsT intT)) 2 2 8 23 (by rfl) (by rfl) (by rfl) (by rfl) ?_
 refine En.nilBoxO (T := intT) 2 3 9 3 (by rfl) (by rfl) (by rfl) (by rfl) ?_
 obtain ⟨Inv, mu, h0_2, hI_2⟩ := h
 refine En.loop (σ := (List (DetCouple × Int)) × (List DetCouple) × (List (List Int)) × (List Int)) (fun zz => Inv zz.1 zz.2.1 zz.2.2.1 zz.2.2.2) (fun zz => mu zz.1 zz.2.1 zz.2.2.1 zz.2.2.2) (fun zz => ⟨[sl 0 (I letters), sl 2 (.rd (fvR (fun (x : (DetCouple × Int)) => [.sv (.agg (DetCouple.cl x.1)), .sv (.one (I x.2))]) (fun (r : DetCouple) => .sv (.agg (DetCouple.cl r))) domgo go)), sl 3 (.rd (fvR (fun (x : DetCouple) => [.sv (.agg (DetCouple.cl x))]) (fun (r : Int) => .sv (.one (I r))) dommark mark)), sl 4 (I limit), sl 10 (.ptr 1 0), sl 12 (.ptr 2 0), sl 13 (.own 3), sl 14 (.own 4)], [.gone, .box [I 0, I 0, .v (.slice none 0 0), .v (.slice none 0 0)] 73 false, .box [I letters, I 0, .own 8, .own 9] 73 false, mapI DetCouple.enc intT zz.1, rowI 169 DetCouple.ty zz.2.1, .gone, .gone, .gone, rowI 23 (lsT intT) zz.2.2.1, rowI 3 intT zz.2.2.2]⟩) ((mput start 0 ([] : List (DetCouple × Int))), ([start] : (List DetCouple)), ([] : (List (List Int))), ([] : (List Int))) h0_2 (sub_ok (by kernel_rfl)) ?_
 rintro ⟨m3, l4, l8, l9⟩ h
 replace h := hI_2 _ _ _ _ h
 show En c ⟨[sl 0 (I letters), sl 2 (.rd (fvR (fun (x : (DetCouple × Int)) => [.sv (.agg (DetCouple.cl x.1)), .sv (.one (I x.2))]) (fun (r : DetCouple) => .sv (.agg (DetCouple.cl r))) domgo go)), sl 3 (.rd (fvR (fun (x : DetCouple) => [.sv (.agg (DetCouple.cl x))]) (fun (r : Int) => .sv (.one (I r))) dommark mark)), sl 4 (I limit), sl 10 (.ptr 1 0), sl 12 (.ptr 2 0), sl 13 (.own 3), sl 14 (.own 4)], [.gone, .box [I 0, I 0, .v (.slice none 0 0), .v (.slice none 0 0)] 73 false, .box [I letters, I 0, .own 8, .own 9] 73 false, mapI DetCouple.enc intT m3, rowI 169 DetCouple.ty l4, .gone, .gone, .gone, rowI 23 (lsT intT) l8, rowI 3 intT l9]⟩ _
 refine En.seq ?_
 refine En.seq ?_
 refine En.region ?_
 refine WL.run ht hn 6 ⟨[sl 0 (I letters), sl 2 (.rd (fvR (fun (x : (DetCouple × Int)) => [.sv (.agg (DetCouple.cl x.1)), .sv (.one (I x.2))]) (fun (r : DetCouple) => .sv (.agg (DetCouple.cl r))) domgo go)), sl 3 (.rd (fvR (fun (x : DetCouple) => [.sv (.agg (DetCouple.cl x))]) (fun (r : Int) => .sv (.one (I r))) dommark mark)), sl 4 (I limit), sl 10 (.ptr 1 0), sl 12 (.ptr 2 0), sl 13 (.own 3), sl 14 (.own 4), sl 33 (B (decide ((l8.length : Int) < (l4.length : Int))))], [.gone, .box [I 0, I 0, .v (.slice none 0 0), .v (.slice none 0 0)] 73 false, .box [I letters, I 0, .own 8, .own 9] 73 false, mapI DetCouple.enc intT m3, rowI 169 DetCouple.ty l4, .gone, .gone, .gone, rowI 23 (lsT intT) l8, rowI 3 intT l9]⟩ (by kernel_rfl) ?_
 refine WL.nil ?_
 refine En.cond (b := (decide ((l8.length : Int) < (l4.length : Int)))) (by kernel_rfl) (fun hb => ?_) (fun hb => ?_)
 replace h := h.1 hb
 refine En.skip ?_
 refine En.block ?_
 refine En.seq ?_
 refine En.region ?_
 refine WL.run ht hn 4 ⟨[sl 0 (I letters), sl 2 (.rd (fvR (fun (x : (DetCouple × Int)) => [.sv (.agg (DetCouple.cl x.1)), .sv (.one (I x.2))]) (fun (r : DetCouple) => .sv (.agg (DetCouple.cl r))) domgo go)), sl 3 (.rd (fvR (fun (x : DetCouple) => [.sv (.agg (DetCouple.cl x))]) (fun (r : Int) => .sv (.one (I r))) dommark mark)), sl 4 (I limit), sl 10 (.ptr 1 0), sl 12 (.ptr 2 0), sl 13 (.own 3), sl 14 (.own 4), sl 34 (.own 4), sl 37 (I (l8.length : Int))], [.gone, .box [I 0, I 0, .v (.slice none 0 0), .v (.slice none 0 0)] 73 false, .box [I letters, I 0, .own 8, .own 9] 73 false, mapI DetCouple.enc intT m3, rowI 169 DetCouple.ty l4, .gone, .gone, .gone, rowI 23 (lsT intT) l8, rowI 3 intT l9]⟩ (by kernel_rfl) ?_
 obtain ⟨e, he, h⟩ := h
 refine WL.val hn (by rfl) (val_indexO (T := DetCouple.ty) (l := l4) (k := (l8.length : Int)) ht rfl (by rfl) (by rfl) (by rfl) (by rfl) (by decide) (by rfl) (by rfl) (by rfl) he) (by rfl) ?_
 refine WL.val hn (by rfl) (val_loadO (T := DetCouple.ty) (l := l4) (y := e) ht rfl (by rfl) (by rfl) (by rfl) (by rfl) (by rfl) (idx_some he).2.2 (by rfl)) (by rfl) ?_
 refine WL.run ht hn 2 ⟨[sl 0 (I letters), sl 2 (.rd (fvR (fun (x : (DetCouple × Int)) => [.sv (.agg (DetCouple.cl x.1)), .sv (.one (I x.2))]) (fun (r : DetCouple) => .sv (.agg (DetCouple.cl r))) domgo go)), sl 3 (.rd (fvR (fun (x : DetCouple) => [.sv (.agg (DetCouple.cl x))]) (fun (r : Int) => .sv (.one (I r))) dommark mark)), sl 4 (I limit), sl 10 (.ptr 1 0), sl 12 (.ptr 2 0), sl 13 (.own 3), sl 14 (.own 4), sl 15 (.ptr 10 0)], [.gone, .box [I 0, I 0, .v (.slice none 0 0), .v (.slice none 0 0)] 73 false, .box [I letters, I 0, .own 8, .own 9] 73 false, mapI DetCouple.enc intT m3, rowI 169 DetCouple.ty l4, .gone, .gone, .gone, rowI 23 (lsT intT) l8, rowI 3 intT l9, .box (DetCouple.cl e) 169 false]⟩ (by kernel_rfl) ?_
 refine WL.nil ?_
 refine En.seq ?_
 refine En.region ?_
 refine WL.run ht hn 1 ⟨[sl 0 (I letters), sl 2 (.rd (fvR (fun (x : (DetCouple × Int)) => [.sv (.agg (DetCouple.cl x.1)), .sv (.one (I x.2))]) (fun (r : DetCouple) => .sv (.agg (DetCouple.cl r))) domgo go)), sl 3 (.rd (fvR (fun (x : DetCouple) => [.sv (.agg (DetCouple.cl x))]) (fun (r : Int) => .sv (.one (I r))) dommark mark)), sl 4 (I limit), sl 10 (.ptr 1 0), sl 12 (.ptr 2 0), sl 13 (.own 3), sl 14 (.own 4), sl 15 (.ptr 10 0), sl 40 (I letters)], [.gone, .box [I 0, I 0, .v (.slice none 0 0), .v (.slice none 0 0)] 73 false, .box [I letters, I 0, .own 8, .own 9] 73 false, mapI DetCouple.enc intT m3, rowI 169 DetCouple.ty l4, .gone, .gone, .gone, rowI 23 (lsT intT) l8, rowI 3 intT l9, .box (DetCouple.cl e) 169 false]⟩ (by kernel_rfl) ?_
 have hp := h.1
 replace h := h.2
 refine WL.mt0 (K := []) (p := some (11, rowI 3 intT (List.replicate (letters).toNat (0 : Int)))) hn (by rfl) (mt_make (T := intT) (0 : Int) (zv := (.int .i64 0)) 11 (l := letters) (cp := letters) ht rfl (by rfl) (by rfl) (by rfl) (by rfl) (by decide) (by rfl) (by rfl) hp.1 hp.2.1 hp.2.2 (hp.le (by decide)) rfl (fun _ => ⟨rfl, trivial⟩)) (by rfl) (by rfl) (by rfl) ?_
 refine WL.run ht hn 1 ⟨[sl 0 (I letters), sl 2 (.rd (fvR (fun (x : (DetCouple × Int)) => [.sv (.agg (DetCouple.cl x.1)), .sv (.one (I x.2))]) (fun (r : DetCouple) => .sv (.agg (DetCouple.cl r))) domgo go)), sl 3 (.rd (fvR (fun (x : DetCouple) => [.sv (.agg (DetCouple.cl x))]) (fun (r : Int) => .sv (.one (I r))) dommark mark)), sl 4 (I limit), sl 10 (.ptr 1 0), sl 12 (.ptr 2 0), sl 13 (.own 3), sl 14 (.own 4), sl 15 (.ptr 10 0), sl 16 (.own 11)], [.gone, .box [I 0, I 0, .v (.slice none 0 0), .v (.slice none 0 0)] 73 false, .box [I letters, I 0, .own 8, .own 9] 73 false, mapI DetCouple.enc intT m3, rowI 169 DetCouple.ty l4, .gone, .gone, .gone, rowI 23 (lsT intT) l8, rowI 3 intT l9, .box (DetCouple.cl e) 169 false, rowI 3 intT (List.replicate (letters).toNat (0 : Int))]⟩ (by kernel_rfl) ?_
 refine WL.nil ?_
 refine En.seq ?_
 refine En.seq ?_
 refine En.region ?_
 refine WL.run ht hn 2 ⟨[sl 0 (I letters), sl 2 (.rd (fvR (fun (x : (DetCouple × Int)) => [.sv (.agg (DetCouple.cl x.1)), .sv (.one (I x.2))]) (fun (r : DetCouple) => .sv (.agg (DetCouple.cl r))) domgo go)), sl 3 (.rd (fvR (fun (x : DetCouple) => [.sv (.agg (DetCouple.cl x))]) (fun (r : Int) => .sv (.one (I r))) dommark mark)), sl 4 (I limit), sl 10 (.ptr 1 0), sl 12 (.ptr 2 0), sl 13 (.own 3), sl 14 (.own 4), sl 15 (.ptr 10 0), sl 16 (.own 11), sl 42 (I letters), sl 43 (I 0)], [.gone, .box [I 0, I 0, .v (.slice none 0 0), .v (.slice none 0 0)] 73 false, .box [I letters, I 0, .own 8, .own 9] 73 false, mapI DetCouple.enc intT m3, rowI 169 DetCouple.ty l4, .gone, .gone, .gone, rowI 23 (lsT intT) l8, rowI 3 intT l9, .box (DetCouple.cl e) 169 false, rowI 3 intT (List.replicate (letters).toNat (0 : Int))]⟩ (by kernel_rfl) ?_
 refine WL.nil ?_
 refine En.block ?_
 obtain ⟨Inv_2, mu_2, h0, hI⟩ := h
 refine En.loop (σ := Int × (List (DetCouple × Int)) × (List DetCouple) × (List Int)) (fun zz => Inv_2 zz.1 zz.2.1 zz.2.2.1 zz.2.2.2) (fun zz => mu_2 zz.1 zz.2.1 zz.2.2.1 zz.2.2.2) (fun zz => ⟨[sl 0 (I letters), sl 2 (.rd (fvR (fun (x : (DetCouple × Int)) => [.sv (.agg (DetCouple.cl x.1)), .sv (.one (I x.2))]) (fun (r : DetCouple) => .sv (.agg (DetCouple.cl r))) domgo go)), sl 3 (.rd (fvR (fun (x : DetCouple) => [.sv (.agg (DetCouple.cl x))]) (fun (r : Int) => .sv (.one (I r))) dommark mark)), sl 4 (I limit), sl 10 (.ptr 1 0), sl 12 (.ptr 2 0), sl 13 (.own 3), sl 14 (.own 4), sl 15 (.ptr 10 0), sl 16 (.own 11), sl 42 (I letters), sl 43 (I zz.1)], [.gone, .box [I 0, I 0, .v (.slice none 0 0), .v (.slice none 0 0)] 73 false, .box [I letters, I 0, .own 8, .own 9] 73 false, mapI DetCouple.enc intT zz.2.1, rowI 169 DetCouple.ty zz.2.2.1, .gone, .gone, .gone, rowI 23 (lsT intT) l8, rowI 3 intT l9, .box (DetCouple.cl e) 169 false, rowI 3 intT zz.2.2.2]⟩) (0, m3, l4, (List.replicate (letters).toNat (0 : Int))) h0 (sub_ok (by kernel_rfl)) ?_
 rintro ⟨x43, m3_2, l4_2, l11⟩ h
 replace h := hI _ _ _ _ h
 show En c ⟨[sl 0 (I letters), sl 2 (.rd (fvR (fun (x : (DetCouple × Int)) => [.sv (.agg (DetCouple.cl x.1)), .sv (.one (I x.2))]) (fun (r : DetCouple) => .sv (.agg (DetCouple.cl r))) domgo go)), sl 3 (.rd (fvR (fun (x : DetCouple) => [.sv (.agg (DetCouple.cl x))]) (fun (r : Int) => .sv (.one (I r))) dommark mark)), sl 4 (I limit), sl 10 (.ptr 1 0), sl 12 (.ptr 2 0), sl 13 (.own 3), sl 14 (.own 4), sl 15 (.ptr 10 0), sl 16 (.own 11), sl 42 (I letters), sl 43 (I x43)], [.gone, .box [I 0, I 0, .v (.slice none 0 0), .v (.slice none 0 0)] 73 false, .box [I letters, I 0, .own 8, .own 9] 73 false, mapI DetCouple.enc intT m3_2, rowI 169 DetCouple.ty l4_2, .gone, .gone, .gone, rowI 23 (lsT intT) l8, rowI 3 intT l9, .box (DetCouple.cl e) 169 false, rowI 3 intT l11]⟩ _
 refine En.seq ?_
 refine En.region ?_
 refine WL.run ht hn 1 ⟨[sl 0 (I letters), sl 2 (.rd (fvR (fun (x : (DetCouple × Int)) => [.sv (.agg (DetCouple.cl x.1)), .sv (.one (I x.2))]) (fun (r : DetCouple) => .sv (.agg (DetCouple.cl r))) domgo go)), sl 3 (.rd (fvR (fun (x : DetCouple) => [.sv (.agg (DetCouple.cl x))]) (fun (r : Int) => .sv (.one (I r))) dommark mark)), sl 4 (I limit), sl 10 (.ptr 1 0), sl 12 (.ptr 2 0), sl 13 (.own 3), sl 14 (.own 4), sl 15 (.ptr 10 0), sl 16 (.own 11), sl 42 (I letters), sl 43 (I x43), sl 44 (B (decide (x43 < letters)))], [.gone, .box [I 0, I 0, .v (.slice none 0 0), .v (.slice none 0 0)] 73 false, .box [I letters, I 0, .own 8, .own 9] 73 false, mapI DetCouple.enc intT m3_2, rowI 169 DetCouple.ty l4_2, .gone, .gone, .gone, rowI 23 (lsT intT) l8, rowI 3 intT l9, .box (DetCouple.cl e) 169 false, rowI 3 intT l11]⟩ (by kernel_rfl) ?_
 refine WL.nil ?_
 refine En.seq ?_
 refine En.cond (b := (decide (x43 < letters))) (by kernel_rfl) (fun hb => ?_) (fun hb => ?_)
 replace h := h.1 hb
 refine En.skip ?_
 refine En.seq ?_
 refine En.block ?_
 refine En.seq ?_
 refine En.region ?_
 refine WL.run ht hn 2 ⟨[sl 0 (I letters), sl 2 (.rd (fvR (fun (x : (DetCouple × Int)) => [.sv (.agg (DetCouple.cl x.1)), .sv (.one (I x.2))]) (fun (r : DetCouple) => .sv (.agg (DetCouple.cl r))) domgo go)), sl 3 (.rd (fvR (fun (x : DetCouple) => [.sv (.agg (DetCouple.cl x))]) (fun (r : Int) => .sv (.one (I r))) dommark mark)), sl 4 (I limit), sl 10 (.ptr 1 0), sl 12 (.ptr 2 0), sl 13 (.own 3), sl 14 (.own 4), sl 15 (.ptr 10 0), sl 16 (.own 11), sl 17 (I x43), sl 42 (I letters), sl 43 (I x43)], [.gone, .box [I 0, I 0, .v (.slice none 0 0), .v (.slice none 0 0)] 73 false, .box [I letters, I 0, .own 8, .own 9] 73 false, mapI DetCouple.enc intT m3_2, rowI 169 DetCouple.ty l4_2, .gone, .gone, .gone, rowI 23 (lsT intT) l8, rowI 3 intT l9, .box (DetCouple.cl e) 169 false, rowI 3 intT l11]⟩ (by kernel_rfl) ?_
 refine WL.nil ?_
 refine En.seq ?_
 refine En.region ?_
 refine WL.run ht hn 3 ⟨[sl 0 (I letters), sl 2 (.rd (fvR (fun (x : (DetCouple × Int)) => [.sv (.agg (DetCouple.cl x.1)), .sv (.one (I x.2))]) (fun (r : DetCouple) => .sv (.agg (DetCouple.cl r))) domgo go)), sl 3 (.rd (fvR (fun (x : DetCouple) => [.sv (.agg (DetCouple.cl x))]) (fun (r : Int) => .sv (.one (I r))) dommark mark)), sl 4 (I limit), sl 10 (.ptr 1 0), sl 12 (.ptr 2 0), sl 13 (.own 3), sl 14 (.own 4), sl 15 (.ptr 10 0), sl 16 (.own 11), sl 17 (I x43), sl 42 (I letters), sl 43 (I x43), sl 46 (.rd (fvR (fun (x : (DetCouple × Int)) => [.sv (.agg (DetCouple.cl x.1)), .sv (.one (I x.2))]) (fun (r : DetCouple) => .sv (.agg (DetCouple.cl r))) domgo go)), (47, .sv (.agg (DetCouple.cl e))), sl 48 (I x43)], [.gone, .box [I 0, I 0, .v (.slice none 0 0), .v (.slice none 0 0)] 73 false, .box [I letters, I 0, .own 8, .own 9] 73 false, mapI DetCouple.enc intT m3_2, rowI 169 DetCouple.ty l4_2, .gone, .gone, .gone, rowI 23 (lsT intT) l8, rowI 3 intT l9, .box (DetCouple.cl e) 169 false, rowI 3 intT l11]⟩ (by kernel_rfl) ?_
 have hp := h.1
 replace h := h.2
 refine WL.mt0 (K := []) (p := none) hn (by rfl) (mt_callv (e, x43) hp rfl (by rfl) (by rfl) (by rfl) (by rfl)) (by rfl) (by rfl) (by rfl) ?_
 refine WL.run ht hn 2 ⟨[sl 0 (I letters), sl 2 (.rd (fvR (fun (x : (DetCouple × Int)) => [.sv (.agg (DetCouple.cl x.1)), .sv (.one (I x.2))]) (fun (r : DetCouple) => .sv (.agg (DetCouple.cl r))) domgo go)), sl 3 (.rd (fvR (fun (x : DetCouple) => [.sv (.agg (DetCouple.cl x))]) (fun (r : Int) => .sv (.one (I r))) dommark mark)), sl 4 (I limit), sl 10 (.ptr 1 0), sl 12 (.ptr 2 0), sl 13 (.own 3), sl 14 (.own 4), sl 15 (.ptr 10 0), sl 16 (.own 11), sl 17 (I x43), sl 18 (.ptr 12 0), sl 42 (I letters), sl 43 (I x43)], [.gone, .box [I 0, I 0, .v (.slice none 0 0), .v (.slice none 0 0)] 73 false, .box [I letters, I 0, .own 8, .own 9] 73 false, mapI DetCouple.enc intT m3_2, rowI 169 DetCouple.ty l4_2, .gone, .gone, .gone, rowI 23 (lsT intT) l8, rowI 3 intT l9, .box (DetCouple.cl e) 169 false, rowI 3 intT l11, .box (DetCouple.cl (go (e, x43))) 169 false]⟩ (by kernel_rfl) ?_
 refine WL.nil ?_
 refine En.seq ?_
 refine En.region ?_
 refine WL.run ht hn 2 ⟨[sl 0 (I letters), sl 2 (.rd (fvR (fun (x : (DetCouple × Int)) => [.sv (.agg (DetCouple.cl x.1)), .sv (.one (I x.2))]) (fun (r : DetCouple) => .sv (.agg (DetCouple.cl r))) domgo go)), sl 3 (.rd (fvR (fun (x : DetCouple) => [.sv (.agg (DetCouple.cl x))]) (fun (r : Int) => .sv (.one (I r))) dommark mark)), sl 4 (I limit), sl 10 (.ptr 1 0), sl 12 (.ptr 2 0), sl 13 (.own 3), sl 14 (.own 4), sl 15 (.ptr 10 0), sl 16 (.own 11), sl 17 (I x43), sl 18 (.ptr 12 0), sl 42 (I letters), sl 43 (I x43), sl 51 (.own 3), (52, .sv (.agg (DetCouple.cl (go (e, x43)))))], [.gone, .box [I 0, I 0, .v (.slice none 0 0), .v (.slice none 0 0)] 73 false, .box [I letters, I 0, .own 8, .own 9] 73 false, mapI DetCouple.enc intT m3_2, rowI 169 DetCouple.ty l4_2, .gone, .gone, .gone, rowI 23 (lsT intT) l8, rowI 3 intT l9, .box (DetCouple.cl e) 169 false, rowI 3 intT l11, .box (DetCouple.cl (go (e, x43))) 169 false]⟩ (by kernel_rfl) ?_
 refine WL.val hn (by rfl) (val_lookup (T := intT) (D := m3_2) DetCouple.keyLaw (k := (go (e, x43))) (ok := true) (0 : Int) (zv := (.int .i64 0)) rfl Try.underlying278 (fun _ => by kernel_rfl) (fun _ => ⟨rfl, trivial⟩) (mapAs DetCouple.enc intT m3_2) (by rfl) (by rfl) (by rfl) (fun _ => rfl)) (by rfl) ?_
 refine WL.run ht hn 5 ⟨[sl 0 (I letters), sl 2 (.rd (fvR (fun (x : (DetCouple × Int)) => [.sv (.agg (DetCouple.cl x.1)), .sv (.one (I x.2))]) (fun (r : DetCouple) => .sv (.agg (DetCouple.cl r))) domgo go)), sl 3 (.rd (fvR (fun (x : DetCouple) => [.sv (.agg (DetCouple.cl x))]) (fun (r : Int) => .sv (.one (I r))) dommark mark)), sl 4 (I limit), sl 10 (.ptr 1 0), sl 12 (.ptr 2 0), sl 13 (.own 3), sl 14 (.own 4), sl 15 (.ptr 10 0), sl 16 (.own 11), sl 17 (I x43), sl 18 (.ptr 12 0), sl 19 (I ((mget (go (e, x43)) m3_2).getD (0 : Int))), sl 20 (B (mget (go (e, x43)) m3_2).isSome), sl 42 (I letters), sl 43 (I x43)], [.gone, .box [I 0, I 0, .v (.slice none 0 0), .v (.slice none 0 0)] 73 false, .box [I letters, I 0, .own 8, .own 9] 73 false, mapI DetCouple.enc intT m3_2, rowI 169 DetCouple.ty l4_2, .gone, .gone, .gone, rowI 23 (lsT intT) l8, rowI 3 intT l9, .box (DetCouple.cl e) 169 false, rowI 3 intT l11, .box (DetCouple.cl (go (e, x43))) 169 false]⟩ (by kernel_rfl) ?_
 refine WL.nil ?_
 obtain ⟨J, h, hJ⟩ := h
 refine En.seqJ (σ := Int × (List (DetCouple × Int)) × (List DetCouple)) (fun zz => J zz.1 zz.2.1 zz.2.2) (fun zz => ⟨[sl 0 (I letters), sl 2 (.rd (fvR (fun (x : (DetCouple × Int)) => [.sv (.agg (DetCouple.cl x.1)), .sv (.one (I x.2))]) (fun (r : DetCouple) => .sv (.agg (DetCouple.cl r))) domgo go)), sl 3 (.rd (fvR (fun (x : DetCouple) => [.sv (.agg (DetCouple.cl x))]) (fun (r : Int) => .sv (.one (I r))) dommark mark)), sl 4 (I limit), sl 10 (.ptr 1 0), sl 12 (.ptr 2 0), sl 13 (.own 3), sl 14 (.own 4), sl 15 (.ptr 10 0), sl 16 (.own 11), sl 17 (I x43), sl 19 (I zz.1), sl 42 (I letters), sl 43 (I x43)], [.gone, .box [I 0, I 0, .v (.slice none 0 0), .v (.slice none 0 0)] 73 false, .box [I letters, I 0, .own 8, .own 9] 73 false, mapI DetCouple.enc intT zz.2.1, rowI 169 DetCouple.ty zz.2.2, .gone, .gone, .gone, rowI 23 (lsT intT) l8, rowI 3 intT l9, .box (DetCouple.cl e) 169 false, rowI 3 intT l11, .gone]⟩) ?_ ?_
 refine En.seq ?_
 refine En.region ?_
 refine WL.run ht hn 2 ⟨[sl 0 (I letters), sl 2 (.rd (fvR (fun (x : (DetCouple × Int)) => [.sv (.agg (DetCouple.cl x.1)), .sv (.one (I x.2))]) (fun (r : DetCouple) => .sv (.agg (DetCouple.cl r))) domgo go)), sl 3 (.rd (fvR (fun (x : DetCouple) => [.sv (.agg (DetCouple.cl x))]) (fun (r : Int) => .sv (.one (I r))) dommark mark)), sl 4 (I limit), sl 10 (.ptr 1 0), sl 12 (.ptr 2 0), sl 13 (.own 3), sl 14 (.own 4), sl 15 (.ptr 10 0), sl 16 (.own 11), sl 17 (I x43), sl 18 (.ptr 12 0), sl 19 (I ((mget (go (e, x43)) m3_2).getD (0 : Int))), sl 42 (I letters), sl 43 (I x43), sl 57 (B (!(mget (go (e, x43)) m3_2).isSome))], [.gone, .box [I 0, I 0, .v (.slice none 0 0), .v (.slice none 0 0)] 73 false, .box [I letters, I 0, .own 8, .own 9] 73 false, mapI DetCouple.enc intT m3_2, rowI 169 DetCouple.ty l4_2, .gone, .gone, .gone, rowI 23 (lsT intT) l8, rowI 3 intT l9, .box (DetCouple.cl e) 169 false, rowI 3 intT l11, .box (DetCouple.cl (go (e, x43))) 169 false]⟩ (by kernel_rfl) ?_
 refine WL.nil ?_
 refine En.cond (b := (!(mget (go (e, x43)) m3_2).isSome)) (by kernel_rfl) (fun hb => ?_) (fun hb => ?_)
 replace h := h.1 hb
 refine En.seq ?_
 refine En.region ?_
 refine WL.run ht hn 3 ⟨[sl 0 (I letters), sl 2 (.rd (fvR (fun (x : (DetCouple × Int)) => [.sv (.agg (DetCouple.cl x.1)), .sv (.one (I x.2))]) (fun (r : DetCouple) => .sv (.agg (DetCouple.cl r))) domgo go)), sl 3 (.rd (fvR (fun (x : DetCouple) => [.sv (.agg (DetCouple.cl x))]) (fun (r : Int) => .sv (.one (I r))) dommark mark)), sl 4 (I limit), sl 10 (.ptr 1 0), sl 12 (.ptr 2 0), sl 13 (.own 3), sl 14 (.own 4), sl 15 (.ptr 10 0), sl 16 (.own 11), sl 17 (I x43), sl 18 (.ptr 12 0), sl 19 (I (l4_2.length : Int)), sl 42 (I letters), sl 43 (I x43)], [.gone, .box [I 0, I 0, .v (.slice none 0 0), .v (.slice none 0 0)] 73 false, .box [I letters, I 0, .own 8, .own 9] 73 false, mapI DetCouple.enc intT m3_2, rowI 169 DetCouple.ty l4_2, .gone, .gone, .gone, rowI 23 (lsT intT) l8, rowI 3 intT l9, .box (DetCouple.cl e) 169 false, rowI 3 intT l11, .box (DetCouple.cl (go (e, x43))) 169 false]⟩ (by kernel_rfl) ?_
 refine WL.nil ?_
 refine En.seq ?_
 refine En.seq ?_
 refine En.region ?_
 refine WL.run ht hn 3 ⟨[sl 0 (I letters), sl 2 (.rd (fvR (fun (x : (DetCouple × Int)) => [.sv (.agg (DetCouple.cl x.1)), .sv (.one (I x.2))]) (fun (r : DetCouple) => .sv (.agg (DetCouple.cl r))) domgo go)), sl 3 (.rd (fvR (fun (x : DetCouple) => [.sv (.agg (DetCouple.cl x))]) (fun (r : Int) => .sv (.one (I r))) dommark mark)), sl 4 (I limit), sl 10 (.ptr 1 0), sl 12 (.ptr 2 0), sl 13 (.own 3), sl 14 (.own 4), sl 15 (.ptr 10 0), sl 16 (.own 11), sl 17 (I x43), sl 18 (.ptr 12 0), sl 19 (I (l4_2.length : Int)), sl 42 (I letters), sl 43 (I x43), sl 62 (B ((l4_2.length : Int) == limit))], [.gone, .box [I 0, I 0, .v (.slice none 0 0), .v (.slice none 0 0)] 73 false, .box [I letters, I 0, .own 8, .own 9] 73 false, mapI DetCouple.enc intT m3_2, rowI 169 DetCouple.ty l4_2, .gone, .gone, .gone, rowI 23 (lsT intT) l8, rowI 3 intT l9, .box (DetCouple.cl e) 169 false, rowI 3 intT l11, .box (DetCouple.cl (go (e, x43))) 169 false]⟩ (by kernel_rfl) ?_
 refine WL.nil ?_
 refine En.cond (b := ((l4_2.length : Int) == limit)) (by kernel_rfl) (fun hb => ?_) (fun hb => ?_)
 replace h := h.1 hb
 refine En.seq ?_
 refine En.region ?_
 refine WL.run ht hn 3 ⟨[sl 10 (.ptr 1 0), sl 11 (B false)], [.gone, .box [I 0, I 0, .v (.slice none 0 0), .v (.slice none 0 0)] 73 false, .gone, .gone, .gone, .gone, .gone, .gone, .gone, .gone, .gone, .gone, .gone]⟩ (by kernel_rfl) ?_
 refine WL.nil ?_
 refine En.ret ?_
 refine En.nilBox (T := (lsT intT)) 1 2 (by rfl) (by rfl) ?_
 refine En.nilBox (T := intT) 1 3 (by rfl) (by rfl) ?_
 exact En.back ht ((ApiDet.mk 0 0 [] []), false) h (by kernel_rfl) rfl
 replace h := h.2 hb
 refine En.skip ?_
 refine En.seq ?_
 refine En.region ?_
 refine WL.run ht hn 3 ⟨[sl 0 (I letters), sl 2 (.rd (fvR (fun (x : (DetCouple × Int)) => [.sv (.agg (DetCouple.cl x.1)), .sv (.one (I x.2))]) (fun (r : DetCouple) => .sv (.agg (DetCouple.cl r))) domgo go)), sl 3 (.rd (fvR (fun (x : DetCouple) => [.sv (.agg (DetCouple.cl x))]) (fun (r : Int) => .sv (.one (I r))) dommark mark)), sl 4 (I limit), sl 10 (.ptr 1 0), sl 12 (.ptr 2 0), sl 13 (.own 3), sl 14 (.own 4), sl 15 (.ptr 10 0), sl 16 (.own 11), sl 17 (I x43), sl 18 (.ptr 12 0), sl 19 (I (l4_2.length : Int)), sl 42 (I letters), sl 43 (I x43), sl 64 (.own 3), (65, .sv (.agg (DetCouple.cl (go (e, x43))))), sl 66 (I (l4_2.length : Int))], [.gone, .box [I 0, I 0, .v (.slice none 0 0), .v (.slice none 0 0)] 73 false, .box [I letters, I 0, .own 8, .own 9] 73 false, mapI DetCouple.enc intT m3_2, rowI 169 DetCouple.ty l4_2, .gone, .gone, .gone, rowI 23 (lsT intT) l8, rowI 3 intT l9, .box (DetCouple.cl e) 169 false, rowI 3 intT l11, .box (DetCouple.cl (go (e, x43))) 169 false]⟩ (by kernel_rfl) ?_
 refine WL.mapPut (T := intT) DetCouple.keyLaw (k := (go (e, x43))) (y := (l4_2.length : Int)) hn (by rfl) (.inl rfl) Try.underlying278 (by rfl) (by rfl) (by rfl) (by rfl) (by rfl) (by rfl) ?_
 refine WL.nil ?_
 refine En.region ?_
 refine WL.run ht hn 2 ⟨[sl 0 (I letters), sl 2 (.rd (fvR (fun (x : (DetCouple × Int)) => [.sv (.agg (DetCouple.cl x.1)), .sv (.one (I x.2))]) (fun (r : DetCouple) => .sv (.agg (DetCouple.cl r))) domgo go)), sl 3 (.rd (fvR (fun (x : DetCouple) => [.sv (.agg (DetCouple.cl x))]) (fun (r : Int) => .sv (.one (I r))) dommark mark)), sl 4 (I limit), sl 10 (.ptr 1 0), sl 12 (.ptr 2 0), sl 13 (.own 3), sl 15 (.ptr 10 0), sl 16 (.own 11), sl 17 (I x43), sl 19 (I (l4_2.length : Int)), sl 42 (I letters), sl 43 (I x43), sl 67 (.own 4), (68, .sv (.agg (DetCouple.cl (go (e, x43)))))], [.gone, .box [I 0, I 0, .v (.slice none 0 0), .v (.slice none 0 0)] 73 false, .box [I letters, I 0, .own 8, .own 9] 73 false, mapI DetCouple.enc intT (mput (go (e, x43)) (l4_2.length : Int) m3_2), rowI 169 DetCouple.ty l4_2, .gone, .gone, .gone, rowI 23 (lsT intT) l8, rowI 3 intT l9, .box (DetCouple.cl e) 169 false, rowI 3 intT l11, .gone]⟩ (by kernel_rfl) ?_
 refine WL.mt0 (K := []) (p := some (13, rowI 169 DetCouple.ty ([(go (e, x43))] : (List DetCouple)))) hn (by rfl) (mt_lit (T := DetCouple.ty) ([(go (e, x43))] : (List DetCouple)) (mt_bsl 13 (r := cellsOf DetCouple.ty ([(go (e, x43))] : (List DetCouple))) ht rfl (by rfl) (by rfl) (by rfl) (by kernel_rfl) (by rfl)) (fun _ h => by cases h) (fun _ => rfl) (fun _ => rfl) (by rfl) (Nat.le_of_ble_eq_true rfl)) (by rfl) (by rfl) (by rfl) ?_
 refine WL.seal (T := DetCouple.ty) (l := ([(go (e, x43))] : (List DetCouple))) (e := 169) 13 rfl ?_
 refine WL.run ht hn 0 ⟨[sl 0 (I letters), sl 2 (.rd (fvR (fun (x : (DetCouple × Int)) => [.sv (.agg (DetCouple.cl x.1)), .sv (.one (I x.2))]) (fun (r : DetCouple) => .sv (.agg (DetCouple.cl r))) domgo go)), sl 3 (.rd (fvR (fun (x : DetCouple) => [.sv (.agg (DetCouple.cl x))]) (fun (r : Int) => .sv (.one (I r))) dommark mark)), sl 4 (I limit), sl 10 (.ptr 1 0), sl 12 (.ptr 2 0), sl 13 (.own 3), sl 15 (.ptr 10 0), sl 16 (.own 11), sl 17 (I x43), sl 19 (I (l4_2.length : Int)), sl 42 (I letters), sl 43 (I x43), sl 67 (.own 4), (68, .sv (.agg (DetCouple.cl (go (e, x43))))), sl 69 (LS DetCouple.ty ([(go (e, x43))] : (List DetCouple)))], [.gone, .box [I 0, I 0, .v (.slice none 0 0), .v (.slice none 0 0)] 73 false, .box [I letters, I 0, .own 8, .own 9] 73 false, mapI DetCouple.enc intT (mput (go (e, x43)) (l4_2.length : Int) m3_2), rowI 169 DetCouple.ty l4_2, .gone, .gone, .gone, rowI 23 (lsT intT) l8, rowI 3 intT l9, .box (DetCouple.cl e) 169 false, rowI 3 intT l11, .gone, .gone]⟩ (by kernel_rfl) ?_
 have hp := h.1
 replace h := h.2
 refine WL.mt (S2 := ⟨[sl 0 (I letters), sl 2 (.rd (fvR (fun (x : (DetCouple × Int)) => [.sv (.agg (DetCouple.cl x.1)), .sv (.one (I x.2))]) (fun (r : DetCouple) => .sv (.agg (DetCouple.cl r))) domgo go)), sl 3 (.rd (fvR (fun (x : DetCouple) => [.sv (.agg (DetCouple.cl x))]) (fun (r : Int) => .sv (.one (I r))) dommark mark)), sl 4 (I limit), sl 10 (.ptr 1 0), sl 12 (.ptr 2 0), sl 13 (.own 3), sl 15 (.ptr 10 0), sl 16 (.own 11), sl 17 (I x43), sl 19 (I (l4_2.length : Int)), sl 42 (I letters), sl 43 (I x43), (68, .sv (.agg (DetCouple.cl (go (e, x43))))), sl 69 (LS DetCouple.ty ([(go (e, x43))] : (List DetCouple)))], [.gone, .box [I 0, I 0, .v (.slice none 0 0), .v (.slice none 0 0)] 73 false, .box [I letters, I 0, .own 8, .own 9] 73 false, mapI DetCouple.enc intT (mput (go (e, x43)) (l4_2.length : Int) m3_2), rowI 169 DetCouple.ty l4_2, .gone, .gone, .gone, rowI 23 (lsT intT) l8, rowI 3 intT l9, .box (DetCouple.cl e) 169 false, rowI 3 intT l11, .gone, .gone]⟩) (K := [4]) (p := some (4, rowI 169 DetCouple.ty (l4_2 ++ ([(go (e, x43))] : (List DetCouple))))) hn (by rfl) (mt_append (T := DetCouple.ty) (l := l4_2) (es := ([(go (e, x43))] : (List DetCouple))) ht rfl (by rfl) (by rfl) (by rfl) (by rfl) (by decide) (by rfl) (by rfl) (srcLS (T := DetCouple.ty) (es := ([(go (e, x43))] : (List DetCouple))) (fun _ h => by cases h) (by decide) (by rfl)) (by exact hp) (by exact hp.le (by decide))) (by kernel_rfl) (by rfl) (by rfl) (by rfl) ?_
 refine WL.run ht hn 1 ⟨[sl 0 (I letters), sl 2 (.rd (fvR (fun (x : (DetCouple × Int)) => [.sv (.agg (DetCouple.cl x.1)), .sv (.one (I x.2))]) (fun (r : DetCouple) => .sv (.agg (DetCouple.cl r))) domgo go)), sl 3 (.rd (fvR (fun (x : DetCouple) => [.sv (.agg (DetCouple.cl x))]) (fun (r : Int) => .sv (.one (I r))) dommark mark)), sl 4 (I limit), sl 10 (.ptr 1 0), sl 12 (.ptr 2 0), sl 13 (.own 3), sl 14 (.own 4), sl 15 (.ptr 10 0), sl 16 (.own 11), sl 17 (I x43), sl 19 (I (l4_2.length : Int)), sl 42 (I letters), sl 43 (I x43)], [.gone, .box [I 0, I 0, .v (.slice none 0 0), .v (.slice none 0 0)] 73 false, .box [I letters, I 0, .own 8, .own 9] 73 false, mapI DetCouple.enc intT (mput (go (e, x43)) (l4_2.length : Int) m3_2), rowI 169 DetCouple.ty (l4_2 ++ ([(go (e, x43))] : (List DetCouple))), .gone, .gone, .gone, rowI 23 (lsT intT) l8, rowI 3 intT l9, .box (DetCouple.cl e) 169 false, rowI 3 intT l11, .gone, .gone]⟩ (by kernel_rfl) ?_
 refine WL.nil ?_
 exact En.at (I := fun zz => J zz.1 zz.2.1 zz.2.2) (T := fun zz => ⟨[sl 0 (I letters), sl 2 (.rd (fvR (fun (x : (DetCouple × Int)) => [.sv (.agg (DetCouple.cl x.1)), .sv (.one (I x.2))]) (fun (r : DetCouple) => .sv (.agg (DetCouple.cl r))) domgo go)), sl 3 (.rd (fvR (fun (x : DetCouple) => [.sv (.agg (DetCouple.cl x))]) (fun (r : Int) => .sv (.one (I r))) dommark mark)), sl 4 (I limit), sl 10 (.ptr 1 0), sl 12 (.ptr 2 0), sl 13 (.own 3), sl 14 (.own 4), sl 15 (.ptr 10 0), sl 16 (.own 11), sl 17 (I x43), sl 19 (I zz.1), sl 42 (I letters), sl 43 (I x43)], [.gone, .box [I 0, I 0, .v (.slice none 0 0), .v (.slice none 0 0)] 73 false, .box [I letters, I 0, .own 8, .own 9] 73 false, mapI DetCouple.enc intT zz.2.1, rowI 169 DetCouple.ty zz.2.2, .gone, .gone, .gone, rowI 23 (lsT intT) l8, rowI 3 intT l9, .box (DetCouple.cl e) 169 false, rowI 3 intT l11, .gone]⟩) ((l4_2.length : Int), (mput (go (e, x43)) (l4_2.length : Int) m3_2), (l4_2 ++ ([(go (e, x43))] : (List DetCouple)))) h (by kernel_rfl)
 replace h := h.2 hb
 refine En.skip ?_
 exact En.at (I := fun zz => J zz.1 zz.2.1 zz.2.2) (T := fun zz => ⟨[sl 0 (I letters), sl 2 (.rd (fvR (fun (x : (DetCouple × Int)) => [.sv (.agg (DetCouple.cl x.1)), .sv (.one (I x.2))]) (fun (r : DetCouple) => .sv (.agg (DetCouple.cl r))) domgo go)), sl 3 (.rd (fvR (fun (x : DetCouple) => [.sv (.agg (DetCouple.cl x))]) (fun (r : Int) => .sv (.one (I r))) dommark mark)), sl 4 (I limit), sl 10 (.ptr 1 0), sl 12 (.ptr 2 0), sl 13 (.own 3), sl 14 (.own 4), sl 15 (.ptr 10 0), sl 16 (.own 11), sl 17 (I x43), sl 19 (I zz.1), sl 42 (I letters), sl 43 (I x43)], [.gone, .box [I 0, I 0, .v (.slice none 0 0), .v (.slice none 0 0)] 73 false, .box [I letters, I 0, .own 8, .own 9] 73 false, mapI DetCouple.enc intT zz.2.1, rowI 169 DetCouple.ty zz.2.2, .gone, .gone, .gone, rowI 23 (lsT intT) l8, rowI 3 intT l9, .box (DetCouple.cl e) 169 false, rowI 3 intT l11, .gone]⟩) (((mget (go (e, x43)) m3_2).getD (0 : Int)), m3_2, l4_2) h (by kernel_rfl)
 rintro ⟨x19, m3_3, l4_3⟩ h
 replace h := hJ _ _ _ h
 show En c ⟨[sl 0 (I letters), sl 2 (.rd (fvR (fun (x : (DetCouple × Int)) => [.sv (.agg (DetCouple.cl x.1)), .sv (.one (I x.2))]) (fun (r : DetCouple) => .sv (.agg (DetCouple.cl r))) domgo go)), sl 3 (.rd (fvR (fun (x : DetCouple) => [.sv (.agg (DetCouple.cl x))]) (fun (r : Int) => .sv (.one (I r))) dommark mark)), sl 4 (I limit), sl 10 (.ptr 1 0), sl 12 (.ptr 2 0), sl 13 (.own 3), sl 14 (.own 4), sl 15 (.ptr 10 0), sl 16 (.own 11), sl 17 (I x43), sl 19 (I x19), sl 42 (I letters), sl 43 (I x43)], [.gone, .box [I 0, I 0, .v (.slice none 0 0), .v (.slice none 0 0)] 73 false, .box [I letters, I 0, .own 8, .own 9] 73 false, mapI DetCouple.enc intT m3_3, rowI 169 DetCouple.ty l4_3, .gone, .gone, .gone, rowI 23 (lsT intT) l8, rowI 3 intT l9, .box (DetCouple.cl e) 169 false, rowI 3 intT l11, .gone]⟩ _
 refine En.region ?_
 refine WL.run ht hn 3 ⟨[sl 0 (I letters), sl 2 (.rd (fvR (fun (x : (DetCouple × Int)) => [.sv (.agg (DetCouple.cl x.1)), .sv (.one (I x.2))]) (fun (r : DetCouple) => .sv (.agg (DetCouple.cl r))) domgo go)), sl 3 (.rd (fvR (fun (x : DetCouple) => [.sv (.agg (DetCouple.cl x))]) (fun (r : Int) => .sv (.one (I r))) dommark mark)), sl 4 (I limit), sl 10 (.ptr 1 0), sl 12 (.ptr 2 0), sl 13 (.own 3), sl 14 (.own 4), sl 15 (.ptr 10 0), sl 16 (.own 11), sl 42 (I letters), sl 43 (I x43), sl 71 (.own 11), sl 72 (I x43), sl 73 (I x19)], [.gone, .box [I 0, I 0, .v (.slice none 0 0), .v (.slice none 0 0)] 73 false, .box [I letters, I 0, .own 8, .own 9] 73 false, mapI DetCouple.enc intT m3_3, rowI 169 DetCouple.ty l4_3, .gone, .gone, .gone, rowI 23 (lsT intT) l8, rowI 3 intT l9, .box (DetCouple.cl e) 169 false, rowI 3 intT l11, .gone]⟩ (by kernel_rfl) ?_
 obtain ⟨e_2, he_2, h⟩ := h
 refine WL.val hn (by rfl) (val_indexO (T := intT) (l := l11) (k := x43) ht rfl (by rfl) (by rfl) (by rfl) (by rfl) (by decide) (by rfl) (by rfl) (by rfl) he_2) (by rfl) ?_
 refine WL.storeO (T := intT) (l := l11) (y := x19) ht hn (by rfl) rfl (by rfl) (by rfl) (fun _ h => by cases h) (by rfl) (by rfl) (idx_lt he_2) (by rfl) (by rfl) (by rfl) (by rfl) ?_
 refine WL.nil ?_
 refine En.region ?_
 refine WL.run ht hn 2 ⟨[sl 0 (I letters), sl 2 (.rd (fvR (fun (x : (DetCouple × Int)) => [.sv (.agg (DetCouple.cl x.1)), .sv (.one (I x.2))]) (fun (r : DetCouple) => .sv (.agg (DetCouple.cl r))) domgo go)), sl 3 (.rd (fvR (fun (x : DetCouple) => [.sv (.agg (DetCouple.cl x))]) (fun (r : Int) => .sv (.one (I r))) dommark mark)), sl 4 (I limit), sl 10 (.ptr 1 0), sl 12 (.ptr 2 0), sl 13 (.own 3), sl 14 (.own 4), sl 15 (.ptr 10 0), sl 16 (.own 11), sl 42 (I letters), sl 43 (I (wr (x43 + 1)))], [.gone, .box [I 0, I 0, .v (.slice none 0 0), .v (.slice none 0 0)] 73 false, .box [I letters, I 0, .own 8, .own 9] 73 false, mapI DetCouple.enc intT m3_3, rowI 169 DetCouple.ty l4_3, .gone, .gone, .gone, rowI 23 (lsT intT) l8, rowI 3 intT l9, .box (DetCouple.cl e) 169 false, rowI 3 intT (l11.set (x43).toNat x19), .gone]⟩ (by kernel_rfl) ?_
 refine WL.nil ?_
 exact En.at (I := fun zz => Inv_2 zz.1 zz.2.1 zz.2.2.1 zz.2.2.2 ∧ mu_2 zz.1 zz.2.1 zz.2.2.1 zz.2.2.2 < mu_2 x43 m3_2 l4_2 l11) (T := fun zz => ⟨[sl 0 (I letters), sl 2 (.rd (fvR (fun (x : (DetCouple × Int)) => [.sv (.agg (DetCouple.cl x.1)), .sv (.one (I x.2))]) (fun (r : DetCouple) => .sv (.agg (DetCouple.cl r))) domgo go)), sl 3 (.rd (fvR (fun (x : DetCouple) => [.sv (.agg (DetCouple.cl x))]) (fun (r : Int) => .sv (.one (I r))) dommark mark)), sl 4 (I limit), sl 10 (.ptr 1 0), sl 12 (.ptr 2 0), sl 13 (.own 3), sl 14 (.own 4), sl 15 (.ptr 10 0), sl 16 (.own 11), sl 42 (I letters), sl 43 (I zz.1)], [.gone, .box [I 0, I 0, .v (.slice none 0 0), .v (.slice none 0 0)] 73 false, .box [I letters, I 0, .own 8, .own 9] 73 false, mapI DetCouple.enc intT zz.2.1, rowI 169 DetCouple.ty zz.2.2.1, .gone, .gone, .gone, rowI 23 (lsT intT) l8, rowI 3 intT l9, .box (DetCouple.cl e) 169 false, rowI 3 intT zz.2.2.2]⟩) ((wr (x43 + 1)), m3_3, l4_3, (l11.set (x43).toNat x19)) h (by kernel_rfl)
 replace h := h.2 hb
 refine En.exit rfl ?_
 refine En.seq ?_
 refine En.region ?_
 refine WL.run ht hn 3 ⟨[sl 0 (I letters), sl 2 (.rd (fvR (fun (x : (DetCouple × Int)) => [.sv (.agg (DetCouple.cl x.1)), .sv (.one (I x.2))]) (fun (r : DetCouple) => .sv (.agg (DetCouple.cl r))) domgo go)), sl 3 (.rd (fvR (fun (x : DetCouple) => [.sv (.agg (DetCouple.cl x))]) (fun (r : Int) => .sv (.one (I r))) dommark mark)), sl 4 (I limit), sl 10 (.ptr 1 0), sl 12 (.ptr 2 0), sl 13 (.own 3), sl 14 (.own 4), sl 15 (.ptr 10 0), sl 77 (.own 8), sl 78 (.own 11)], [.gone, .box [I 0, I 0, .v (.slice none 0 0), .v (.slice none 0 0)] 73 false, .box [I letters, I 0, .own 8, .own 9] 73 false, mapI DetCouple.enc intT m3_2, rowI 169 DetCouple.ty l4_2, .gone, .gone, .gone, rowI 23 (lsT intT) l8, rowI 3 intT l9, .box (DetCouple.cl e) 169 false, rowI 3 intT l11]⟩ (by kernel_rfl) ?_
 refine WL.seal (T := intT) (l := l11) (e := 3) 11 rfl ?_
 refine WL.run ht hn 0 ⟨[sl 0 (I letters), sl 2 (.rd (fvR (fun (x : (DetCouple × Int)) => [.sv (.agg (DetCouple.cl x.1)), .sv (.one (I x.2))]) (fun (r : DetCouple) => .sv (.agg (DetCouple.cl r))) domgo go)), sl 3 (.rd (fvR (fun (x : DetCouple) => [.sv (.agg (DetCouple.cl x))]) (fun (r : Int) => .sv (.one (I r))) dommark mark)), sl 4 (I limit), sl 10 (.ptr 1 0), sl 12 (.ptr 2 0), sl 13 (.own 3), sl 14 (.own 4), sl 15 (.ptr 10 0), sl 77 (.own 8), sl 78 (LS intT l11)], [.gone, .box [I 0, I 0, .v (.slice none 0 0), .v (.slice none 0 0)] 73 false, .box [I letters, I 0, .own 8, .own 9] 73 false, mapI DetCouple.enc intT m3_2, rowI 169 DetCouple.ty l4_2, .gone, .gone, .gone, rowI 23 (lsT intT) l8, rowI 3 intT l9, .box (DetCouple.cl e) 169 false, .gone]⟩ (by kernel_rfl) ?_
 refine WL.mt0 (K := []) (p := some (12, rowI 23 (lsT intT) ([l11] : (List (List Int))))) hn (by rfl) (mt_lit (T := (lsT intT)) ([l11] : (List (List Int))) (mt_bsl 12 (r := cellsOf (lsT intT) ([l11] : (List (List Int)))) ht rfl (by rfl) (by rfl) (by rfl) (by kernel_rfl) (by rfl)) (fun _ h => by cases h) (fun _ => rfl) (fun _ => rfl) (by rfl) (Nat.le_of_ble_eq_true rfl)) (by rfl) (by rfl) (by rfl) ?_
 refine WL.seal (T := (lsT intT)) (l := ([l11] : (List (List Int)))) (e := 23) 12 rfl ?_
 refine WL.run ht hn 0 ⟨[sl 0 (I letters), sl 2 (.rd (fvR (fun (x : (DetCouple × Int)) => [.sv (.agg (DetCouple.cl x.1)), .sv (.one (I x.2))]) (fun (r : DetCouple) => .sv (.agg (DetCouple.cl r))) domgo go)), sl 3 (.rd (fvR (fun (x : DetCouple) => [.sv (.agg (DetCouple.cl x))]) (fun (r : Int) => .sv (.one (I r))) dommark mark)), sl 4 (I limit), sl 10 (.ptr 1 0), sl 12 (.ptr 2 0), sl 13 (.own 3), sl 14 (.own 4), sl 15 (.ptr 10 0), sl 77 (.own 8), sl 78 (LS intT l11), sl 79 (LS (lsT intT) ([l11] : (List (List Int))))], [.gone, .box [I 0, I 0, .v (.slice none 0 0), .v (.slice none 0 0)] 73 false, .box [I letters, I 0, .own 8, .own 9] 73 false, mapI DetCouple.enc intT m3_2, rowI 169 DetCouple.ty l4_2, .gone, .gone, .gone, rowI 23 (lsT intT) l8, rowI 3 intT l9, .box (DetCouple.cl e) 169 false, .gone, .gone]⟩ (by kernel_rfl) ?_
 refine WL.junk 2 2 (by rfl) ?_
 have hp := h.1
 replace h := h.2
 refine WL.mt (S2 := ⟨[sl 0 (I letters), sl 2 (.rd (fvR (fun (x : (DetCouple × Int)) => [.sv (.agg (DetCouple.cl x.1)), .sv (.one (I x.2))]) (fun (r : DetCouple) => .sv (.agg (DetCouple.cl r))) domgo go)), sl 3 (.rd (fvR (fun (x : DetCouple) => [.sv (.agg (DetCouple.cl x))]) (fun (r : Int) => .sv (.one (I r))) dommark mark)), sl 4 (I limit), sl 10 (.ptr 1 0), sl 12 (.ptr 2 0), sl 13 (.own 3), sl 14 (.own 4), sl 15 (.ptr 10 0), sl 78 (LS intT l11), sl 79 (LS (lsT intT) ([l11] : (List (List Int))))], [.gone, .box [I 0, I 0, .v (.slice none 0 0), .v (.slice none 0 0)] 73 false, .box [I letters, I 0, .junk, .own 9] 73 false, mapI DetCouple.enc intT m3_2, rowI 169 DetCouple.ty l4_2, .gone, .gone, .gone, rowI 23 (lsT intT) l8, rowI 3 intT l9, .box (DetCouple.cl e) 169 false, .gone, .gone]⟩) (K := [8]) (p := some (8, rowI 23 (lsT intT) (l8 ++ ([l11] : (List (List Int)))))) hn (by rfl) (mt_append (T := (lsT intT)) (l := l8) (es := ([l11] : (List (List Int)))) ht rfl (by rfl) (by rfl) (by rfl) (by rfl) (by decide) (by rfl) (by rfl) (srcLS (T := (lsT intT)) (es := ([l11] : (List (List Int)))) (fun _ h => by cases h) (by decide) (by rfl)) (by exact hp) (by exact hp.le (by decide))) (by kernel_rfl) (by rfl) (by rfl) (by rfl) ?_
 refine WL.run ht hn 2 ⟨[sl 0 (I letters), sl 2 (.rd (fvR (fun (x : (DetCouple × Int)) => [.sv (.agg (DetCouple.cl x.1)), .sv (.one (I x.2))]) (fun (r : DetCouple) => .sv (.agg (DetCouple.cl r))) domgo go)), sl 3 (.rd (fvR (fun (x : DetCouple) => [.sv (.agg (DetCouple.cl x))]) (fun (r : Int) => .sv (.one (I r))) dommark mark)), sl 4 (I limit), sl 10 (.ptr 1 0), sl 12 (.ptr 2 0), sl 13 (.own 3), sl 14 (.own 4), sl 15 (.ptr 10 0)], [.gone, .box [I 0, I 0, .v (.slice none 0 0), .v (.slice none 0 0)] 73 false, .box [I letters, I 0, .own 8, .own 9] 73 false, mapI DetCouple.enc intT m3_2, rowI 169 DetCouple.ty l4_2, .gone, .gone, .gone, rowI 23 (lsT intT) (l8 ++ ([l11] : (List (List Int)))), rowI 3 intT l9, .box (DetCouple.cl e) 169 false, .gone, .gone]⟩ (by kernel_rfl) ?_
 refine WL.nil ?_
 have hp_2 := h.1
 replace h := h.2
 have hp_3 := h.1
 replace h := h.2
 refine En.regionA ⟨[sl 0 (I letters), sl 2 (.rd (fvR (fun (x : (DetCouple × Int)) => [.sv (.agg (DetCouple.cl x.1)), .sv (.one (I x.2))]) (fun (r : DetCouple) => .sv (.agg (DetCouple.cl r))) domgo go)), sl 3 (.rd (fvR (fun (x : DetCouple) => [.sv (.agg (DetCouple.cl x))]) (fun (r : Int) => .sv (.one (I r))) dommark mark)), sl 4 (I limit), sl 10 (.ptr 1 0), sl 12 (.ptr 2 0), sl 13 (.own 3), sl 14 (.own 4), sl 15 (.ptr 10 0)], [.sv (.one (.ptr 2 3)), .sv (.one (.own 9)), .sv (.one (.rd (fvR (fun (x : DetCouple) => [.sv (.agg (DetCouple.cl x))]) (fun (r : Int) => .sv (.one (I r))) dommark mark))), .sv (.agg (DetCouple.cl e)), .sv (.one (I (mark e))), .sv (.one (LS intT ([(mark e)] : (List Int)))), .sv (.one (.own 13)), .sv (.one (.ptr 2 3)), .tup []], [⟨.gone, none, none, none⟩, ⟨.box [I 0, I 0, .v (.slice none 0 0), .v (.slice none 0 0)] 73 false, none, none, none⟩, ⟨.box [I letters, I 0, .own 8, .own 9] 73 false, none, none, some (8, .box [I letters, I 0, .own 8, .own 13] 73 false)⟩, ⟨mapI DetCouple.enc intT m3_2, none, none, none⟩, ⟨rowI 169 DetCouple.ty l4_2, none, none, none⟩, ⟨.gone, none, none, none⟩, ⟨.gone, none, none, none⟩, ⟨.gone, none, none, none⟩, ⟨rowI 23 (lsT intT) (l8 ++ ([l11] : (List (List Int)))), none, none, none⟩, ⟨rowI 3 intT l9, none, some 6, none⟩, ⟨.box (DetCouple.cl e) 169 false, none, none, none⟩, ⟨.gone, none, none, none⟩, ⟨.gone, none, none, none⟩, ⟨rowI 3 intT (l9 ++ ([(mark e)] : (List Int))), some 6, none, none⟩]⟩ ⟨[sl 0 (I letters), sl 2 (.rd (fvR (fun (x : (DetCouple × Int)) => [.sv (.agg (DetCouple.cl x.1)), .sv (.one (I x.2))]) (fun (r : DetCouple) => .sv (.agg (DetCouple.cl r))) domgo go)), sl 3 (.rd (fvR (fun (x : DetCouple) => [.sv (.agg (DetCouple.cl x))]) (fun (r : Int) => .sv (.one (I r))) dommark mark)), sl 4 (I limit), sl 10 (.ptr 1 0), sl 12 (.ptr 2 0), sl 13 (.own 3), sl 14 (.own 4)], [.gone, .box [I 0, I 0, .v (.slice none 0 0), .v (.slice none 0 0)] 73 false, .box [I letters, I 0, .own 8, .own 13] 73 false, mapI DetCouple.enc intT m3_2, rowI 169 DetCouple.ty l4_2, .gone, .gone, .gone, rowI 23 (lsT intT) (l8 ++ ([l11] : (List (List Int)))), .gone, .gone, .gone, .gone, rowI 3 intT (l9 ++ ([(mark e)] : (List Int)))]⟩ (by kernel_rfl) hn (by kernel_rfl) (by rfl) (by kernel_rfl) ?_ (by kernel_rfl) ?_
 exact ⟨.mt ⟨[sl 12 (.ptr 2 0)], []⟩ [] none (by kernel_rfl) (by rfl) (mt_ev ht (by kernel_rfl)) rfl rfl rfl rfl,
  .mt ⟨[sl 82 (.ptr 2 3)], [.gone, .gone, .box [I letters, I 0, .own 8, .own 9] 73 false]⟩ [] none (by kernel_rfl) (by rfl) (mt_ev ht (by kernel_rfl)) rfl rfl rfl rfl,
  .mt ⟨[sl 3 (.rd (fvR (fun (x : DetCouple) => [.sv (.agg (DetCouple.cl x))]) (fun (r : Int) => .sv (.one (I r))) dommark mark))], []⟩ [] none (by kernel_rfl) (by rfl) (mt_ev ht (by kernel_rfl)) rfl rfl rfl rfl,
  .mt ⟨[sl 15 (.ptr 10 0)], [.gone, .gone, .gone, .gone, .gone, .gone, .gone, .gone, .gone, .gone, .box (DetCouple.cl e) 169 false]⟩ [] none (by kernel_rfl) (by rfl) (mt_ev ht (by kernel_rfl)) rfl rfl rfl rfl,
  .mt ⟨[sl 84 (.rd (fvR (fun (x : DetCouple) => [.sv (.agg (DetCouple.cl x))]) (fun (r : Int) => .sv (.one (I r))) dommark mark)), (85, .sv (.agg (DetCouple.cl e)))], []⟩ [] none (by kernel_rfl) (by rfl) (mt_callv (ins := (fun (x : DetCouple) => [.sv (.agg (DetCouple.cl x))])) (out := (fun (r : Int) => .sv (.one (I r)))) (dom := dommark) (φ := mark) e hp_2 rfl (by rfl) (by rfl) (by rfl) (by rfl)) rfl rfl rfl rfl,
  .mt ⟨[sl 86 (I (mark e))], []⟩ [] none (by kernel_rfl) (by rfl) (mt_seal (q := 13) (e := 3) (mt_lit (T := intT) ([(mark e)] : (List Int)) (mt_bsl 13 (r := cellsOf intT ([(mark e)] : (List Int))) ht rfl (by rfl) (by rfl) (by rfl) (by kernel_rfl) (by rfl)) (fun _ h => by cases h) (fun _ => rfl) (fun _ => rfl) (by rfl) (Nat.le_of_ble_eq_true rfl))) rfl rfl rfl rfl,
  .mt ⟨[sl 83 (.own 9), sl 87 (LS intT ([(mark e)] : (List Int)))], [.gone, .gone, .gone, .gone, .gone, .gone, .gone, .gone, .gone, rowI 3 intT l9]⟩ [9] (some 13) (by kernel_rfl) (by rfl) (mt_append (T := intT) (l := l9) (es := ([(mark e)] : (List Int))) (p := 13) ht rfl (by rfl) (by rfl) (by rfl) (by rfl) (by decide) (by rfl) (by rfl) (srcLS (T := intT) (es := ([(mark e)] : (List Int))) (fun _ h => by cases h) (by decide) (by rfl)) (by exact hp_3) (by exact hp_3.le (by decide))) rfl rfl rfl rfl,
  .mt ⟨[sl 12 (.ptr 2 0)], []⟩ [] none (by kernel_rfl) (by rfl) (mt_ev ht (by kernel_rfl)) rfl rfl rfl rfl,
  .mu ⟨[sl 88 (.own 13), sl 89 (.ptr 2 3)], [.gone, .gone, .box [I letters, I 0, .own 8, .own 9] 73 false]⟩ 2 _ _ rfl rfl (by kernel_rfl) (by rfl) (mu_store2 ht rfl (by rfl) (by rfl) (by rfl) (by rfl) (fun h => by cases h) (by rfl) (by rfl)) rfl rfl rfl rfl rfl rfl rfl,
  trivial⟩
 refine En.move 13 9 (by rfl) (by rfl) ?_
 exact En.at (I := fun zz => Inv zz.1 zz.2.1 zz.2.2.1 zz.2.2.2 ∧ mu zz.1 zz.2.1 zz.2.2.1 zz.2.2.2 < mu m3 l4 l8 l9) (T := fun zz => ⟨[sl 0 (I letters), sl 2 (.rd (fvR (fun (x : (DetCouple × Int)) => [.sv (.agg (DetCouple.cl x.1)), .sv (.one (I x.2))]) (fun (r : DetCouple) => .sv (.agg (DetCouple.cl r))) domgo go)), sl 3 (.rd (fvR (fun (x : DetCouple) => [.sv (.agg (DetCouple.cl x))]) (fun (r : Int) => .sv (.one (I r))) dommark mark)), sl 4 (I limit), sl 10 (.ptr 1 0), sl 12 (.ptr 2 0), sl 13 (.own 3), sl 14 (.own 4)], [.gone, .box [I 0, I 0, .v (.slice none 0 0), .v (.slice none 0 0)] 73 false, .box [I letters, I 0, .own 8, .own 9] 73 false, mapI DetCouple.enc intT zz.1, rowI 169 DetCouple.ty zz.2.1, .gone, .gone, .gone, rowI 23 (lsT intT) zz.2.2.1, rowI 3 intT zz.2.2.2]⟩) (m3_2, l4_2, (l8 ++ ([l11] : (List (List Int)))), (l9 ++ ([(mark e)] : (List Int)))) h (by kernel_rfl)
 replace h := h.2 hb
 refine En.exit rfl ?_
 refine En.seq ?_
 refine En.region ?_
 refine WL.run ht hn 3 ⟨[sl 10 (.ptr 1 0), sl 11 (B true)], [.gone, .box [I letters, I 0, .own 8, .own 9] 73 false, .gone, .gone, .gone, .gone, .gone, .gone, rowI 23 (lsT intT) l8, rowI 3 intT l9]⟩ (by kernel_rfl) ?_
 refine WL.nil ?_
 refine En.ret ?_
 refine En.seal (T := (lsT intT)) (l := l8) (e := 23) 8 rfl ?_
 refine En.seal (T := intT) (l := l9) (e := 3) 9 rfl ?_
 exact En.back ht ((ApiDet.mk letters 0 l8 l9), true) h (by kernel_rfl) rfl
theorem en79 : ∀ args w, (callFunc 79 args).run Try.prog w = .ok (.enter 79 args) w := enters_of Try.func79 (by kernel_rfl) rfl
def classes_vc (d : ApiDet) (Q : (List Int) → Prop) : Prop :=
  d.fNext.length ≤ 9223372036854775807 →
  d.fMark.length ≤ 9223372036854775807 →
  ((d.fMark.length * 8 ≤ 140737488355328) ∧
  ∃ (Inv : Int → (List Int) → Prop) (mu : Int → (List Int) → Nat), Inv 0 (d.fMark) ∧
  ∀ (x4 : Int) (l1 : (List Int)) , Inv x4 l1 → (makeOk (l1.length : Int) (l1.length : Int) 8 ∧
  ∃ (Inv_2 : Int → (List (DetSplit × Int)) → (List Int) → Prop) (mu_2 : Int → (List (DetSplit × Int)) → (List Int) → Nat), Inv_2 0 ([] : List (DetSplit × Int)) (List.replicate ((l1.length : Int)).toNat (0 : Int)) ∧
  ∀ (x25 : Int) (m2 : (List (DetSplit × Int))) (l3 : (List Int)) , Inv_2 x25 m2 l3 → (IfP (decide (x25 < (d.fNext.length : Int))) (∃ e, idx d.fNext x25 = some e ∧
  ∃ (Inv_3 : Int → (List Int) → Prop) (mu_3 : Int → (List Int) → Nat), Inv_3 0 ([] : (List Int)) ∧
  ∀ (x32 : Int) (l4 : (List Int)) , Inv_3 x32 l4 → (IfP (decide (x32 < (e.length : Int))) (∃ e_2, idx e x32 = some e_2 ∧
  ∃ e_3, idx l1 e_2 = some e_3 ∧
  ∃ e_4, idx l1 e_2 = some e_4 ∧
  capOk l4.length (([(IntKind.wrap .u8 e_3), (IntKind.wrap .u8 (Int.fdiv e_4 (2 ^ (min 8 64))))] : (List Int)) : (List Int)).length 1 ∧
  (Inv_3 (wr (x32 + 1)) (l4 ++ ([(IntKind.wrap .u8 e_3), (IntKind.wrap .u8 (Int.fdiv e_4 (2 ^ (min 8 64))))] : (List Int))) ∧ mu_3 (wr (x32 + 1)) (l4 ++ ([(IntKind.wrap .u8 e_3), (IntKind.wrap .u8 (Int.fdiv e_4 (2 ^ (min 8 64))))] : (List Int))) < mu_3 x32 l4)) (∃ e_5, idx l1 x25 = some e_5 ∧
  ∃ J : (List (DetSplit × Int)) → Prop, (IfP (!(mget (DetSplit.mk e_5 (bytesOf l4)) m2).isSome) (J (mput (DetSplit.mk e_5 (bytesOf l4)) (m2.length : Int) m2)) (J m2)) ∧
  (∀ (m2_2 : (List (DetSplit × Int))), J m2_2 → ∃ e_6, idx l3 x25 = some e_6 ∧
  (Inv_2 (wr (x25 + 1)) m2_2 (l3.set (x25).toNat ((mget (DetSplit.mk e_5 (bytesOf l4)) m2_2).getD (0 : Int))) ∧ mu_2 (wr (x25 + 1)) m2_2 (l3.set (x25).toNat ((mget (DetSplit.mk e_5 (bytesOf l4)) m2_2).getD (0 : Int))) < mu_2 x25 m2 l3))))) (IfP ((m2.length : Int) == x4) (Q l3) ((Inv (m2.length : Int) l3 ∧ mu (m2.length : Int) l3 < mu x4 l1))))))
noncomputable abbrev qclasses0 (d : ApiDet) := (I (d.fNext.length : Int))
noncomputable abbrev qclasses1 (d : ApiDet) := (LS (lsT intT) d.fNext)
set_option maxHeartbeats 2000000 in
theorem classes_walk (d : ApiDet) (Q : (List Int) → Prop) (h : classes_vc d Q) : Ct 159 [.sv (.agg [I d.fLetters, I d.fStart, LS (lsT intT) d.fNext, LS intT d.fMark])] [] Q (fun (r : (List Int)) => .sv (.one (LS intT r))) := by
 have ht := tab_ok
 refine Ct.body Try.func159 rfl rfl rfl rfl (fun c hn => ?_)
 unfold classes_vc at h
 refine En.lenA 0 2 (by rfl) (by rfl) (fun hl => ?_)
 replace h := h hl
 clear hl
 refine En.lenA 0 3 (by rfl) (by rfl) (fun hl => ?_)
 replace h := h hl
 clear hl
 refine En.seq ?_
 refine En.region ?_
 refine WL.run ht hn 2 ⟨[sl 1 (.ptr 0 0)], [.box (ApiDet.cl d) 73 false]⟩ (by kernel_rfl) ?_
 refine WL.nil ?_
 refine En.seq ?_
 refine En.region ?_
 refine WL.run ht hn 2 ⟨[sl 1 (.ptr 0 0), sl 16 (LS intT d.fMark)], [.box (ApiDet.cl d) 73 false]⟩ (by kernel_rfl) ?_
 have hp := h.1
 replace h := h.2
 refine WL.mt0 (K := []) (p := some (1, rowI 3 intT (d.fMark))) hn (by rfl) (mt_callI 1 (cloneInt_ct d.fMark hp) en49 (caps := []) [] rfl rfl (by rfl) (by kernel_rfl) (by kernel_rfl) (by rfl) (by rfl)) (by rfl) (by rfl) (by rfl) ?_
 refine WL.run ht hn 1 ⟨[sl 1 (.ptr 0 0), sl 3 (.own 1)], [.box (ApiDet.cl d) 73 false, rowI 3 intT (d.fMark)]⟩ (by kernel_rfl) ?_
 refine WL.nil ?_
 refine En.seq ?_
 refine En.region ?_
 refine WL.run ht hn 1 ⟨[sl 1 (.ptr 0 0), sl 3 (.own 1), sl 4 (I 0)], [.box (ApiDet.cl d) 73 false, rowI 3 intT (d.fMark)]⟩ (by kernel_rfl) ?_
 refine WL.nil ?_
 refine En.block ?_
 obtain ⟨Inv, mu, h0_3, hI_3⟩ := h
 refine En.loop (σ := Int × (List Int)) (fun zz => Inv zz.1 zz.2) (fun zz => mu zz.1 zz.2) (fun zz => ⟨[sl 1 (.ptr 0 0), sl 3 (.own 1), sl 4 (I zz.1)], [.box (ApiDet.cl d) 73 false, rowI 3 intT zz.2]⟩) (0, (d.fMark)) h0_3 (sub_ok (by kernel_rfl)) ?_
 rintro ⟨x4, l1⟩ h
 replace h := hI_3 _ _ h
 show En c ⟨[sl 1 (.ptr 0 0), sl 3 (.own 1), sl 4 (I x4)], [.box (ApiDet.cl d) 73 false, rowI 3 intT l1]⟩ _
 refine En.block ?_
 refine En.seq ?_
 refine En.region ?_
 refine WL.mt0 (K := []) (p := some (2, mapI DetSplit.enc intT ([] : List (DetSplit × Int)))) hn (by rfl) (mt_makeMap DetSplit.enc intT 2 rfl) (by rfl) (by rfl) (by rfl) ?_
 refine WL.run ht hn 1 ⟨[sl 1 (.ptr 0 0), sl 3 (.own 1), sl 4 (I x4), sl 5 (.own 2)], [.box (ApiDet.cl d) 73 false, rowI 3 intT l1, mapI DetSplit.enc intT ([] : List (DetSplit × Int))]⟩ (by kernel_rfl) ?_
 refine WL.nil ?_
 refine En.seq ?_
 refine En.region ?_
 refine WL.run ht hn 2 ⟨[sl 1 (.ptr 0 0), sl 3 (.own 1), sl 4 (I x4), sl 5 (.own 2), sl 20 (I (l1.length : Int))], [.box (ApiDet.cl d) 73 false, rowI 3 intT l1, mapI DetSplit.enc intT ([] : List (DetSplit × Int))]⟩ (by kernel_rfl) ?_
 have hp := h.1
 replace h := h.2
 refine WL.mt0 (K := []) (p := some (3, rowI 3 intT (List.replicate ((l1.length : Int)).toNat (0 : Int)))) hn (by rfl) (mt_make (T := intT) (0 : Int) (zv := (.int .i64 0)) 3 (l := (l1.length : Int)) (cp := (l1.length : Int)) ht rfl (by rfl) (by rfl) (by rfl) (by rfl) (by decide) (by rfl) (by rfl) hp.1 hp.2.1 hp.2.2 (hp.le (by decide)) rfl (fun _ => ⟨rfl, trivial⟩)) (by rfl) (by rfl) (by rfl) ?_
 refine WL.run ht hn 1 ⟨[sl 1 (.ptr 0 0), sl 3 (.own 1), sl 4 (I x4), sl 5 (.own 2), sl 6 (.own 3)], [.box (ApiDet.cl d) 73 false, rowI 3 intT l1, mapI DetSplit.enc intT ([] : List (DetSplit × Int)), rowI 3 intT (List.replicate ((l1.length : Int)).toNat (0 : Int))]⟩ (by kernel_rfl) ?_
 refine WL.nil ?_
 refine En.seq ?_
 refine En.seq ?_
 refine En.region ?_
 refine WL.run ht hn 4 ⟨[sl 1 (.ptr 0 0), sl 3 (.own 1), sl 4 (I x4), sl 5 (.own 2), sl 6 (.own 3), sl 23 (qclasses1 d), sl 24 (qclasses0 d), sl 25 (I 0)], [.box (ApiDet.cl d) 73 false, rowI 3 intT l1, mapI DetSplit.enc intT ([] : List (DetSplit × Int)), rowI 3 intT (List.replicate ((l1.length : Int)).toNat (0 : Int))]⟩ (by kernel_rfl) ?_
 refine WL.nil ?_
 refine En.block ?_
 obtain ⟨Inv_2, mu_2, h0_2, hI_2⟩ := h
 refine En.loop (σ := Int × (List (DetSplit × Int)) × (List Int)) (fun zz => Inv_2 zz.1 zz.2.1 zz.2.2) (fun zz => mu_2 zz.1 zz.2.1 zz.2.2) (fun zz => ⟨[sl 1 (.ptr 0 0), sl 3 (.own 1), sl 4 (I x4), sl 5 (.own 2), sl 6 (.own 3), sl 23 (qclasses1 d), sl 24 (qclasses0 d), sl 25 (I zz.1)], [.box (ApiDet.cl d) 73 false, rowI 3 intT l1, mapI DetSplit.enc intT zz.2.1, rowI 3 intT zz.2.2]⟩) (0, ([] : List (DetSplit × Int)), (List.replicate ((l1.length : Int)).toNat (0 : Int))) h0_2 (sub_ok (by kernel_rfl)) ?_
 rintro ⟨x25, m2, l3⟩ h
 replace h := hI_2 _ _ _ h
 show En c ⟨[sl 1 (.ptr 0 0), sl 3 (.own 1), sl 4 (I x4), sl 5 (.own 2), sl 6 (.own 3), sl 23 (qclasses1 d), sl 24 (qclasses0 d), sl 25 (I x25)], [.box (ApiDet.cl d) 73 false, rowI 3 intT l1, mapI DetSplit.enc intT m2, rowI 3 intT l3]⟩ _
 refine En.seq ?_
 refine En.region ?_
 refine WL.run ht hn 1 ⟨[sl 1 (.ptr 0 0), sl 3 (.own 1), sl 4 (I x4), sl 5 (.own 2), sl 6 (.own 3), sl 23 (qclasses1 d), sl 24 (qclasses0 d), sl 25 (I x25), sl 26 (B (decide (x25 < (d.fNext.length : Int))))], [.box (ApiDet.cl d) 73 false, rowI 3 intT l1, mapI DetSplit.enc intT m2, rowI 3 intT l3]⟩ (by kernel_rfl) ?_
 refine WL.nil ?_
 refine En.seq ?_
 refine En.cond (b := (decide (x25 < (d.fNext.length : Int)))) (by kernel_rfl) (fun hb => ?_) (fun hb => ?_)
 replace h := h.1 hb
 refine En.skip ?_
 refine En.seq ?_
 refine En.block ?_
 refine En.seq ?_
 refine En.region ?_
 refine WL.run ht hn 1 ⟨[sl 1 (.ptr 0 0), sl 3 (.own 1), sl 4 (I x4), sl 5 (.own 2), sl 6 (.own 3), sl 23 (qclasses1 d), sl 24 (qclasses0 d), sl 25 (I x25), sl 27 (I x25)], [.box (ApiDet.cl d) 73 false, rowI 3 intT l1, mapI DetSplit.enc intT m2, rowI 3 intT l3]⟩ (by kernel_rfl) ?_
 obtain ⟨e, he, h⟩ := h
 refine WL.val hn (by rfl) (val_index (T := (lsT intT)) (l := d.fNext) (i := x25) ht rfl (by rfl) (by rfl) (by rfl) (by rfl) (by rfl) (by rfl) he) (by rfl) ?_
 refine WL.val hn (by rfl) (val_load (s := .one (LS intT e)) ht rfl (by rfl) (by rfl) (by rfl) (by rfl) (by rfl)) (by rfl) ?_
 refine WL.run ht hn 2 ⟨[sl 1 (.ptr 0 0), sl 3 (.own 1), sl 4 (I x4), sl 5 (.own 2), sl 6 (.own 3), sl 7 (I x25), sl 8 (LS intT e), sl 23 (qclasses1 d), sl 24 (qclasses0 d), sl 25 (I x25)], [.box (ApiDet.cl d) 73 false, rowI 3 intT l1, mapI DetSplit.enc intT m2, rowI 3 intT l3]⟩ (by kernel_rfl) ?_
 refine WL.nil ?_
 refine En.seq ?_
 refine En.region ?_
 refine WL.run ht hn 1 ⟨[sl 1 (.ptr 0 0), sl 3 (.own 1), sl 4 (I x4), sl 5 (.own 2), sl 6 (.own 3), sl 7 (I x25), sl 8 (LS intT e), sl 9 (.v (.slice none 0 0)), sl 23 (qclasses1 d), sl 24 (qclasses0 d), sl 25 (I x25)], [.box (ApiDet.cl d) 73 false, rowI 3 intT l1, mapI DetSplit.enc intT m2, rowI 3 intT l3]⟩ (by kernel_rfl) ?_
 refine WL.nil ?_
 refine En.seq ?_
 refine En.seq ?_
 refine En.region ?_
 refine WL.run ht hn 3 ⟨[sl 1 (.ptr 0 0), sl 3 (.own 1), sl 4 (I x4), sl 5 (.own 2), sl 6 (.own 3), sl 7 (I x25), sl 9 (.v (.slice none 0 0)), sl 23 (qclasses1 d), sl 24 (qclasses0 d), sl 25 (I x25), sl 30 (LS intT e), sl 31 (I (e.length : Int)), sl 32 (I 0)], [.box (ApiDet.cl d) 73 false, rowI 3 intT l1, mapI DetSplit.enc intT m2, rowI 3 intT l3]⟩ (by kernel_rfl) ?_
 refine WL.nil ?_
 refine En.block ?_
 refine En.rowNil 9 4 5 (intKT .u8) (by rfl) (by rfl) ?_
 obtain ⟨Inv_3, mu_3, h0, hI⟩ := h
 refine En.loop (σ := Int × (List Int)) (fun zz => Inv_3 zz.1 zz.2) (fun zz => mu_3 zz.1 zz.2) (fun zz => ⟨[sl 1 (.ptr 0 0), sl 3 (.own 1), sl 4 (I x4), sl 5 (.own 2), sl 6 (.own 3), sl 7 (I x25), sl 9 (.own 4), sl 23 (qclasses1 d), sl 24 (qclasses0 d), sl 25 (I x25), sl 30 (LS intT e), sl 31 (I (e.length : Int)), sl 32 (I zz.1)], [.box (ApiDet.cl d) 73 false, rowI 3 intT l1, mapI DetSplit.enc intT m2, rowI 3 intT l3, rowI 5 (intKT .u8) zz.2]⟩) (0, ([] : (List Int))) h0 (sub_ok (by kernel_rfl)) ?_
 rintro ⟨x32, l4⟩ h
 replace h := hI _ _ h
 show En c ⟨[sl 1 (.ptr 0 0), sl 3 (.own 1), sl 4 (I x4), sl 5 (.own 2), sl 6 (.own 3), sl 7 (I x25), sl 9 (.own 4), sl 23 (qclasses1 d), sl 24 (qclasses0 d), sl 25 (I x25), sl 30 (LS intT e), sl 31 (I (e.length : Int)), sl 32 (I x32)], [.box (ApiDet.cl d) 73 false, rowI 3 intT l1, mapI DetSplit.enc intT m2, rowI 3 intT l3, rowI 5 (intKT .u8) l4]⟩ _
 refine En.seq ?_
 refine En.region ?_
 refine WL.run ht hn 1 ⟨[sl 1 (.ptr 0 0), sl 3 (.own 1), sl 4 (I x4), sl 5 (.own 2), sl 6 (.own 3), sl 7 (I x25), sl 9 (.own 4), sl 23 (qclasses1 d), sl 24 (qclasses0 d), sl 25 (I x25), sl 30 (LS intT e), sl 31 (I (e.length : Int)), sl 32 (I x32), sl 33 (B (decide (x32 < (e.length : Int))))], [.box (ApiDet.cl d) 73 false, rowI 3 intT l1, mapI DetSplit.enc intT m2, rowI 3 intT l3, rowI 5 (intKT .u8) l4]⟩ (by kernel_rfl) ?_
 refine WL.nil ?_
 refine En.seq ?_
 refine En.cond (b := (decide (x32 < (e.length : Int)))) (by kernel_rfl) (fun hb => ?_) (fun hb => ?_)
 replace h := h.1 hb
 refine En.skip ?_
 refine En.seq ?_
 refine En.block ?_
 refine En.seq ?_
 refine En.region ?_
 obtain ⟨e_2, he_2, h⟩ := h
 refine WL.val hn (by rfl) (val_index (T := intT) (l := e) (i := x32) ht rfl (by rfl) (by rfl) (by rfl) (by rfl) (by rfl) (by rfl) he_2) (by rfl) ?_
 refine WL.val hn (by rfl) (val_load (s := .one (I e_2)) ht rfl (by rfl) (by rfl) (by rfl) (by rfl) (by rfl)) (by rfl) ?_
 refine WL.run ht hn 1 ⟨[sl 1 (.ptr 0 0), sl 3 (.own 1), sl 4 (I x4), sl 5 (.own 2), sl 6 (.own 3), sl 7 (I x25), sl 9 (.own 4), sl 11 (I e_2), sl 23 (qclasses1 d), sl 24 (qclasses0 d), sl 25 (I x25), sl 30 (LS intT e), sl 31 (I (e.length : Int)), sl 32 (I x32)], [.box (ApiDet.cl d) 73 false, rowI 3 intT l1, mapI DetSplit.enc intT m2, rowI 3 intT l3, rowI 5 (intKT .u8) l4]⟩ (by kernel_rfl) ?_
 refine WL.nil ?_
 obtain ⟨e_3, he_3, h⟩ := h
 obtain ⟨e_4, he_4, h⟩ := h
 have hp_2 := h.1
 replace h := h.2
 refine En.regionA ⟨[sl 1 (.ptr 0 0), sl 3 (.own 1), sl 4 (I x4), sl 5 (.own 2), sl 6 (.own 3), sl 7 (I x25), sl 9 (.own 4), sl 11 (I e_2), sl 23 (qclasses1 d), sl 24 (qclasses0 d), sl 25 (I x25), sl 30 (LS intT e), sl 31 (I (e.length : Int)), sl 32 (I x32)], [.sv (.one (.own 4)), .sv (.one (.own 1)), .sv (.one (I e_2)), .sv (.one (.oe 1 ((e_2).toNat) 1)), .sv (.one (I e_3)), .sv (.one (.v (.int .u8 (IntKind.wrap .u8 e_3)))), .sv (.one (.own 1)), .sv (.one (I e_2)), .sv (.one (.oe 1 ((e_2).toNat) 1)), .sv (.one (I e_4)), .sv (.one (I (Int.fdiv e_4 (2 ^ (min 8 64))))), .sv (.one (.v (.int .u8 (IntKind.wrap .u8 (Int.fdiv e_4 (2 ^ (min 8 64))))))), .sv (.one (LS (intKT .u8) ([(IntKind.wrap .u8 e_3), (IntKind.wrap .u8 (Int.fdiv e_4 (2 ^ (min 8 64))))] : (List Int)))), .sv (.one (.own 5)), .sv (.one (.own 5))], [⟨.box (ApiDet.cl d) 73 false, none, none, none⟩, ⟨rowI 3 intT l1, none, none, none⟩, ⟨mapI DetSplit.enc intT m2, none, none, none⟩, ⟨rowI 3 intT l3, none, none, none⟩, ⟨rowI 5 (intKT .u8) l4, none, some 13, none⟩, ⟨rowI 5 (intKT .u8) (l4 ++ ([(IntKind.wrap .u8 e_3), (IntKind.wrap .u8 (Int.fdiv e_4 (2 ^ (min 8 64))))] : (List Int))), some 13, none, none⟩]⟩ ⟨[sl 1 (.ptr 0 0), sl 3 (.own 1), sl 4 (I x4), sl 5 (.own 2), sl 6 (.own 3), sl 7 (I x25), sl 9 (.own 5), sl 23 (qclasses1 d), sl 24 (qclasses0 d), sl 25 (I x25), sl 30 (LS intT e), sl 31 (I (e.length : Int)), sl 32 (I x32)], [.box (ApiDet.cl d) 73 false, rowI 3 intT l1, mapI DetSplit.enc intT m2, rowI 3 intT l3, .gone, rowI 5 (intKT .u8) (l4 ++ ([(IntKind.wrap .u8 e_3), (IntKind.wrap .u8 (Int.fdiv e_4 (2 ^ (min 8 64))))] : (List Int)))]⟩ (by kernel_rfl) hn (by kernel_rfl) (by rfl) (by kernel_rfl) ?_ (by kernel_rfl) ?_
 exact ⟨.mt ⟨[sl 9 (.own 4)], []⟩ [] none (by kernel_rfl) (by rfl) (mt_ev ht (by kernel_rfl)) rfl rfl rfl rfl,
  .mt ⟨[sl 3 (.own 1)], []⟩ [] none (by kernel_rfl) (by rfl) (mt_ev ht (by kernel_rfl)) rfl rfl rfl rfl,
  .mt ⟨[sl 11 (I e_2)], []⟩ [] none (by kernel_rfl) (by rfl) (mt_ev ht (by kernel_rfl)) rfl rfl rfl rfl,
  .mt ⟨[sl 37 (.own 1), sl 38 (I e_2)], [.gone, rowI 3 intT l1]⟩ [] none (by kernel_rfl) (by rfl) (mt_val (val_indexO (T := intT) (l := l1) (k := e_2) ht rfl (by rfl) (by rfl) (by rfl) (by rfl) (by decide) (by rfl) (by rfl) (by rfl) he_3)) rfl rfl rfl rfl,
  .mt ⟨[sl 39 (.oe 1 ((e_2).toNat) 1)], [.gone, rowI 3 intT l1]⟩ [] none (by kernel_rfl) (by rfl) (mt_val (val_loadO (T := intT) (l := l1) (y := e_3) ht rfl (by rfl) (by rfl) (by rfl) (by rfl) (by rfl) (idx_some he_3).2.2 (by rfl))) rfl rfl rfl rfl,
  .mt ⟨[sl 40 (I e_3)], []⟩ [] none (by kernel_rfl) (by rfl) (mt_ev ht (by kernel_rfl)) rfl rfl rfl rfl,
  .mt ⟨[sl 3 (.own 1)], []⟩ [] none (by kernel_rfl) (by rfl) (mt_ev ht (by kernel_rfl)) rfl rfl rfl rfl,
  .mt ⟨[sl 11 (I e_2)], []⟩ [] none (by kernel_rfl) (by rfl) (mt_ev ht (by kernel_rfl)) rfl rfl rfl rfl,
  .mt ⟨[sl 42 (.own 1), sl 43 (I e_2)], [.gone, rowI 3 intT l1]⟩ [] none (by kernel_rfl) (by rfl) (mt_val (val_indexO (T := intT) (l := l1) (k := e_2) ht rfl (by rfl) (by rfl) (by rfl) (by rfl) (by decide) (by rfl) (by rfl) (by rfl) he_4)) rfl rfl rfl rfl,
  .mt ⟨[sl 44 (.oe 1 ((e_2).toNat) 1)], [.gone, rowI 3 intT l1]⟩ [] none (by kernel_rfl) (by rfl) (mt_val (val_loadO (T := intT) (l := l1) (y := e_4) ht rfl (by rfl) (by rfl) (by rfl) (by rfl) (by rfl) (idx_some he_4).2.2 (by rfl))) rfl rfl rfl rfl,
  .mt ⟨[sl 45 (I e_4)], []⟩ [] none (by kernel_rfl) (by rfl) (mt_ev ht (by kernel_rfl)) rfl rfl rfl rfl,
  .mt ⟨[sl 46 (I (Int.fdiv e_4 (2 ^ (min 8 64))))], []⟩ [] none (by kernel_rfl) (by rfl) (mt_ev ht (by kernel_rfl)) rfl rfl rfl rfl,
  .mt ⟨[sl 41 (.v (.int .u8 (IntKind.wrap .u8 e_3))), sl 47 (.v (.int .u8 (IntKind.wrap .u8 (Int.fdiv e_4 (2 ^ (min 8 64))))))], []⟩ [] none (by kernel_rfl) (by rfl) (mt_seal (q := 5) (e := 5) (mt_lit (T := (intKT .u8)) ([(IntKind.wrap .u8 e_3), (IntKind.wrap .u8 (Int.fdiv e_4 (2 ^ (min 8 64))))] : (List Int)) (mt_bsl 5 (r := cellsOf (intKT .u8) ([(IntKind.wrap .u8 e_3), (IntKind.wrap .u8 (Int.fdiv e_4 (2 ^ (min 8 64))))] : (List Int))) ht rfl (by rfl) (by rfl) (by rfl) (by kernel_rfl) (by rfl)) (fun _ h => by cases h) (fun _ => rfl) (fun _ => rfl) (by rfl) (Nat.le_of_ble_eq_true rfl))) rfl rfl rfl rfl,
  .mt ⟨[sl 36 (.own 4), sl 48 (LS (intKT .u8) ([(IntKind.wrap .u8 e_3), (IntKind.wrap .u8 (Int.fdiv e_4 (2 ^ (min 8 64))))] : (List Int)))], [.gone, .gone, .gone, .gone, rowI 5 (intKT .u8) l4]⟩ [4] (some 5) (by kernel_rfl) (by rfl) (mt_append (T := (intKT .u8)) (l := l4) (es := ([(IntKind.wrap .u8 e_3), (IntKind.wrap .u8 (Int.fdiv e_4 (2 ^ (min 8 64))))] : (List Int))) (p := 5) ht rfl (by rfl) (by rfl) (by rfl) (by rfl) (by decide) (by rfl) (by rfl) (srcLS (T := (intKT .u8)) (es := ([(IntKind.wrap .u8 e_3), (IntKind.wrap .u8 (Int.fdiv e_4 (2 ^ (min 8 64))))] : (List Int))) (fun _ h => by cases h) (by decide) (by rfl)) (by exact hp_2) (by exact hp_2.le (by decide))) rfl rfl rfl rfl,
  .mt ⟨[sl 49 (.own 5)], []⟩ [] none (by kernel_rfl) (by rfl) (mt_ev ht (by kernel_rfl)) rfl rfl rfl rfl,
  trivial⟩
 refine En.region ?_
 refine WL.run ht hn 2 ⟨[sl 1 (.ptr 0 0), sl 3 (.own 1), sl 4 (I x4), sl 5 (.own 2), sl 6 (.own 3), sl 7 (I x25), sl 9 (.own 5), sl 23 (qclasses1 d), sl 24 (qclasses0 d), sl 25 (I x25), sl 30 (LS intT e), sl 31 (I (e.length : Int)), sl 32 (I (wr (x32 + 1)))], [.box (ApiDet.cl d) 73 false, rowI 3 intT l1, mapI DetSplit.enc intT m2, rowI 3 intT l3, .gone, rowI 5 (intKT .u8) (l4 ++ ([(IntKind.wrap .u8 e_3), (IntKind.wrap .u8 (Int.fdiv e_4 (2 ^ (min 8 64))))] : (List Int)))]⟩ (by kernel_rfl) ?_
 refine WL.nil ?_
 refine En.move 5 4 (by rfl) (by rfl) ?_
 exact En.at (I := fun zz => Inv_3 zz.1 zz.2 ∧ mu_3 zz.1 zz.2 < mu_3 x32 l4) (T := fun zz => ⟨[sl 1 (.ptr 0 0), sl 3 (.own 1), sl 4 (I x4), sl 5 (.own 2), sl 6 (.own 3), sl 7 (I x25), sl 9 (.own 4), sl 23 (qclasses1 d), sl 24 (qclasses0 d), sl 25 (I x25), sl 30 (LS intT e), sl 31 (I (e.length : Int)), sl 32 (I zz.1)], [.box (ApiDet.cl d) 73 false, rowI 3 intT l1, mapI DetSplit.enc intT m2, rowI 3 intT l3, rowI 5 (intKT .u8) zz.2]⟩) ((wr (x32 + 1)), (l4 ++ ([(IntKind.wrap .u8 e_3), (IntKind.wrap .u8 (Int.fdiv e_4 (2 ^ (min 8 64))))] : (List Int)))) h (by kernel_rfl)
 replace h := h.2 hb
 refine En.exit rfl ?_
 refine En.seq ?_
 obtain ⟨e_5, he_5, h⟩ := h
 refine En.regionA ⟨[sl 1 (.ptr 0 0), sl 3 (.own 1), sl 4 (I x4), sl 5 (.own 2), sl 6 (.own 3), sl 7 (I x25), sl 9 (.own 4), sl 23 (qclasses1 d), sl 24 (qclasses0 d), sl 25 (I x25)], [.sv (.one (.own 1)), .sv (.one (I x25)), .sv (.one (.oe 1 ((x25).toNat) 1)), .sv (.one (I e_5)), .sv (.one (.own 4)), .sv (.one (.v (.string (bytesOf l4)))), .sv (.agg [I e_5, .v (.string (bytesOf l4))]), .sv (.one (.ptr 5 0)), .tup []], [⟨.box (ApiDet.cl d) 73 false, none, none, none⟩, ⟨rowI 3 intT l1, none, none, none⟩, ⟨mapI DetSplit.enc intT m2, none, none, none⟩, ⟨rowI 3 intT l3, none, none, none⟩, ⟨rowI 5 (intKT .u8) l4, none, none, none⟩, ⟨.box [I 0, .v (.string ByteArray.empty)] 322 false, some 7, none, some (8, .box [I e_5, .v (.string (bytesOf l4))] 322 false)⟩]⟩ ⟨[sl 1 (.ptr 0 0), sl 3 (.own 1), sl 4 (I x4), sl 5 (.own 2), sl 6 (.own 3), sl 7 (I x25), sl 12 (.ptr 5 0), sl 23 (qclasses1 d), sl 24 (qclasses0 d), sl 25 (I x25)], [.box (ApiDet.cl d) 73 false, rowI 3 intT l1, mapI DetSplit.enc intT m2, rowI 3 intT l3, .gone, .box [I e_5, .v (.string (bytesOf l4))] 322 false]⟩ (by kernel_rfl) hn (by kernel_rfl) (by rfl) (by kernel_rfl) ?_ (by kernel_rfl) ?_
 exact ⟨.mt ⟨[sl 3 (.own 1)], []⟩ [] none (by kernel_rfl) (by rfl) (mt_ev ht (by kernel_rfl)) rfl rfl rfl rfl,
  .mt ⟨[sl 7 (I x25)], []⟩ [] none (by kernel_rfl) (by rfl) (mt_ev ht (by kernel_rfl)) rfl rfl rfl rfl,
  .mt ⟨[sl 51 (.own 1), sl 52 (I x25)], [.gone, rowI 3 intT l1]⟩ [] none (by kernel_rfl) (by rfl) (mt_val (val_indexO (T := intT) (l := l1) (k := x25) ht rfl (by rfl) (by rfl) (by rfl) (by rfl) (by decide) (by rfl) (by rfl) (by rfl) he_5)) rfl rfl rfl rfl,
  .mt ⟨[sl 53 (.oe 1 ((x25).toNat) 1)], [.gone, rowI 3 intT l1]⟩ [] none (by kernel_rfl) (by rfl) (mt_val (val_loadO (T := intT) (l := l1) (y := e_5) ht rfl (by rfl) (by rfl) (by rfl) (by rfl) (by rfl) (idx_some he_5).2.2 (by rfl))) rfl rfl rfl rfl,
  .mt ⟨[sl 9 (.own 4)], []⟩ [] none (by kernel_rfl) (by rfl) (mt_ev ht (by kernel_rfl)) rfl rfl rfl rfl,
  .mt ⟨[sl 55 (.own 4)], [.gone, .gone, .gone, .gone, rowI 5 (intKT .u8) l4]⟩ [] none (by kernel_rfl) (by rfl) (mt_val (val_str rfl Try.underlying299 Try.underlying5 Try.underlying9 (srcOwn (T := intKT .u8) (es := l4) (fun _ h => by cases h) (by rfl) (by rfl)))) rfl rfl rfl rfl,
  .mt ⟨[sl 54 (I e_5), sl 56 (.v (.string (bytesOf l4)))], []⟩ [] none (by kernel_rfl) (by rfl) (mt_ev ht (by kernel_rfl)) rfl rfl rfl rfl,
  .mt ⟨[], []⟩ [] (some 5) (by kernel_rfl) (by rfl) (mt_alloc2 5 322 ht rfl (by rfl) (by rfl)) rfl rfl rfl rfl,
  .mu ⟨[sl 12 (.ptr 5 0), (57, .sv (.agg [I e_5, .v (.string (bytesOf l4))]))], [.gone, .gone, .gone, .gone, .gone, .box [I 0, .v (.string ByteArray.empty)] 322 false]⟩ 5 _ _ rfl rfl (by kernel_rfl) (by rfl) (mu_store2 ht rfl (by rfl) (by rfl) (by rfl) (by rfl) (fun h => by cases h) (by rfl) (by rfl)) rfl rfl rfl rfl rfl rfl rfl,
  trivial⟩
 obtain ⟨J, h, hJ⟩ := h
 refine En.seqJ (σ := (List (DetSplit × Int))) (fun zz => J zz) (fun zz => ⟨[sl 1 (.ptr 0 0), sl 3 (.own 1), sl 4 (I x4), sl 5 (.own 2), sl 6 (.own 3), sl 7 (I x25), sl 12 (.ptr 5 0), sl 23 (qclasses1 d), sl 24 (qclasses0 d), sl 25 (I x25)], [.box (ApiDet.cl d) 73 false, rowI 3 intT l1, mapI DetSplit.enc intT zz, rowI 3 intT l3, .gone, .box [I e_5, .v (.string (bytesOf l4))] 322 false]⟩) ?_ ?_
 refine En.seq ?_
 refine En.region ?_
 refine WL.run ht hn 2 ⟨[sl 1 (.ptr 0 0), sl 3 (.own 1), sl 4 (I x4), sl 5 (.own 2), sl 6 (.own 3), sl 7 (I x25), sl 12 (.ptr 5 0), sl 23 (qclasses1 d), sl 24 (qclasses0 d), sl 25 (I x25), sl 59 (.own 2), (60, .sv (.agg [I e_5, .v (.string (bytesOf l4))]))], [.box (ApiDet.cl d) 73 false, rowI 3 intT l1, mapI DetSplit.enc intT m2, rowI 3 intT l3, .gone, .box [I e_5, .v (.string (bytesOf l4))] 322 false]⟩ (by kernel_rfl) ?_
 refine WL.val hn (by rfl) (val_lookup (T := intT) (D := m2) DetSplit.keyLaw (k := (DetSplit.mk e_5 (bytesOf l4))) (ok := true) (0 : Int) (zv := (.int .i64 0)) rfl Try.underlying320 (fun _ => by kernel_rfl) (fun _ => ⟨rfl, trivial⟩) (mapAs DetSplit.enc intT m2) (by rfl) (by rfl) (by rfl) (fun _ => rfl)) (by rfl) ?_
 refine WL.run ht hn 5 ⟨[sl 1 (.ptr 0 0), sl 3 (.own 1), sl 4 (I x4), sl 5 (.own 2), sl 6 (.own 3), sl 7 (I x25), sl 12 (.ptr 5 0), sl 14 (B (mget (DetSplit.mk e_5 (bytesOf l4)) m2).isSome), sl 23 (qclasses1 d), sl 24 (qclasses0 d), sl 25 (I x25)], [.box (ApiDet.cl d) 73 false, rowI 3 intT l1, mapI DetSplit.enc intT m2, rowI 3 intT l3, .gone, .box [I e_5, .v (.string (bytesOf l4))] 322 false]⟩ (by kernel_rfl) ?_
 refine WL.nil ?_
 refine En.seq ?_
 refine En.region ?_
 refine WL.run ht hn 2 ⟨[sl 1 (.ptr 0 0), sl 3 (.own 1), sl 4 (I x4), sl 5 (.own 2), sl 6 (.own 3), sl 7 (I x25), sl 12 (.ptr 5 0), sl 23 (qclasses1 d), sl 24 (qclasses0 d), sl 25 (I x25), sl 65 (B (!(mget (DetSplit.mk e_5 (bytesOf l4)) m2).isSome))], [.box (ApiDet.cl d) 73 false, rowI 3 intT l1, mapI DetSplit.enc intT m2, rowI 3 intT l3, .gone, .box [I e_5, .v (.string (bytesOf l4))] 322 false]⟩ (by kernel_rfl) ?_
 refine WL.nil ?_
 refine En.cond (b := (!(mget (DetSplit.mk e_5 (bytesOf l4)) m2).isSome)) (by kernel_rfl) (fun hb => ?_) (fun hb => ?_)
 replace h := h.1 hb
 refine En.region ?_
 refine WL.run ht hn 3 ⟨[sl 1 (.ptr 0 0), sl 3 (.own 1), sl 4 (I x4), sl 5 (.own 2), sl 6 (.own 3), sl 7 (I x25), sl 12 (.ptr 5 0), sl 23 (qclasses1 d), sl 24 (qclasses0 d), sl 25 (I x25), sl 66 (.own 2), (67, .sv (.agg [I e_5, .v (.string (bytesOf l4))])), sl 68 (.own 2)], [.box (ApiDet.cl d) 73 false, rowI 3 intT l1, mapI DetSplit.enc intT m2, rowI 3 intT l3, .gone, .box [I e_5, .v (.string (bytesOf l4))] 322 false]⟩ (by kernel_rfl) ?_
 refine WL.val hn (by rfl) (val_lenM (enc := DetSplit.enc) (T := intT) (D := m2) rfl Try.underlying320 (by rfl) (by rfl) (mapAs _ _ _)) (by rfl) ?_
 refine WL.mapPut (T := intT) DetSplit.keyLaw (k := (DetSplit.mk e_5 (bytesOf l4))) (y := (m2.length : Int)) hn (by rfl) (.inl rfl) Try.underlying320 (by rfl) (by rfl) (by rfl) (by rfl) (by rfl) (by rfl) ?_
 refine WL.nil ?_
 exact En.at (I := fun zz => J zz) (T := fun zz => ⟨[sl 1 (.ptr 0 0), sl 3 (.own 1), sl 4 (I x4), sl 5 (.own 2), sl 6 (.own 3), sl 7 (I x25), sl 12 (.ptr 5 0), sl 23 (qclasses1 d), sl 24 (qclasses0 d), sl 25 (I x25)], [.box (ApiDet.cl d) 73 false, rowI 3 intT l1, mapI DetSplit.enc intT zz, rowI 3 intT l3, .gone, .box [I e_5, .v (.string (bytesOf l4))] 322 false]⟩) (mput (DetSplit.mk e_5 (bytesOf l4)) (m2.length : Int) m2) h (by kernel_rfl)
 replace h := h.2 hb
 refine En.skip ?_
 exact En.at (I := fun zz => J zz) (T := fun zz => ⟨[sl 1 (.ptr 0 0), sl 3 (.own 1), sl 4 (I x4), sl 5 (.own 2), sl 6 (.own 3), sl 7 (I x25), sl 12 (.ptr 5 0), sl 23 (qclasses1 d), sl 24 (qclasses0 d), sl 25 (I x25)], [.box (ApiDet.cl d) 73 false, rowI 3 intT l1, mapI DetSplit.enc intT zz, rowI 3 intT l3, .gone, .box [I e_5, .v (.string (bytesOf l4))] 322 false]⟩) m2 h (by kernel_rfl)
 intro m2_2 h
 replace h := hJ _ h
 show En c ⟨[sl 1 (.ptr 0 0), sl 3 (.own 1), sl 4 (I x4), sl 5 (.own 2), sl 6 (.own 3), sl 7 (I x25), sl 12 (.ptr 5 0), sl 23 (qclasses1 d), sl 24 (qclasses0 d), sl 25 (I x25)], [.box (ApiDet.cl d) 73 false, rowI 3 intT l1, mapI DetSplit.enc intT m2_2, rowI 3 intT l3, .gone, .box [I e_5, .v (.string (bytesOf l4))] 322 false]⟩ _
 refine En.region ?_
 refine WL.run ht hn 4 ⟨[sl 1 (.ptr 0 0), sl 3 (.own 1), sl 4 (I x4), sl 5 (.own 2), sl 6 (.own 3), sl 23 (qclasses1 d), sl 24 (qclasses0 d), sl 25 (I x25), sl 70 (.own 3), sl 71 (I x25), sl 72 (.own 2), (73, .sv (.agg [I e_5, .v (.string (bytesOf l4))]))], [.box (ApiDet.cl d) 73 false, rowI 3 intT l1, mapI DetSplit.enc intT m2_2, rowI 3 intT l3, .gone, .gone]⟩ (by kernel_rfl) ?_
 refine WL.val hn (by rfl) (val_lookup (T := intT) (D := m2_2) DetSplit.keyLaw (k := (DetSplit.mk e_5 (bytesOf l4))) (ok := false) (0 : Int) (zv := (.int .i64 0)) rfl Try.underlying320 (fun _ => by kernel_rfl) (fun _ => ⟨rfl, trivial⟩) (mapAs DetSplit.enc intT m2_2) (by rfl) (by rfl) (by rfl) (fun _ => rfl)) (by rfl) ?_
 obtain ⟨e_6, he_6, h⟩ := h
 refine WL.val hn (by rfl) (val_indexO (T := intT) (l := l3) (k := x25) ht rfl (by rfl) (by rfl) (by rfl) (by rfl) (by decide) (by rfl) (by rfl) (by rfl) he_6) (by rfl) ?_
 refine WL.storeO (T := intT) (l := l3) (y := ((mget (DetSplit.mk e_5 (bytesOf l4)) m2_2).getD (0 : Int))) ht hn (by rfl) rfl (by rfl) (by rfl) (fun _ h => by cases h) (by rfl) (by rfl) (idx_lt he_6) (by rfl) (by rfl) (by rfl) (by rfl) ?_
 refine WL.nil ?_
 refine En.region ?_
 refine WL.run ht hn 2 ⟨[sl 1 (.ptr 0 0), sl 3 (.own 1), sl 4 (I x4), sl 5 (.own 2), sl 6 (.own 3), sl 23 (qclasses1 d), sl 24 (qclasses0 d), sl 25 (I (wr (x25 + 1)))], [.box (ApiDet.cl d) 73 false, rowI 3 intT l1, mapI DetSplit.enc intT m2_2, rowI 3 intT (l3.set (x25).toNat ((mget (DetSplit.mk e_5 (bytesOf l4)) m2_2).getD (0 : Int))), .gone, .gone]⟩ (by kernel_rfl) ?_
 refine WL.nil ?_
 exact En.at (I := fun zz => Inv_2 zz.1 zz.2.1 zz.2.2 ∧ mu_2 zz.1 zz.2.1 zz.2.2 < mu_2 x25 m2 l3) (T := fun zz => ⟨[sl 1 (.ptr 0 0), sl 3 (.own 1), sl 4 (I x4), sl 5 (.own 2), sl 6 (.own 3), sl 23 (qclasses1 d), sl 24 (qclasses0 d), sl 25 (I zz.1)], [.box (ApiDet.cl d) 73 false, rowI 3 intT l1, mapI DetSplit.enc intT zz.2.1, rowI 3 intT zz.2.2]⟩) ((wr (x25 + 1)), m2_2, (l3.set (x25).toNat ((mget (DetSplit.mk e_5 (bytesOf l4)) m2_2).getD (0 : Int)))) h (by kernel_rfl)
 replace h := h.2 hb
 refine En.exit rfl ?_
 refine En.seq ?_
 refine En.region ?_
 refine WL.run ht hn 2 ⟨[sl 1 (.ptr 0 0), sl 3 (.own 3), sl 4 (I x4), sl 5 (.own 2)], [.box (ApiDet.cl d) 73 false, .gone, mapI DetSplit.enc intT m2, rowI 3 intT l3]⟩ (by kernel_rfl) ?_
 refine WL.nil ?_
 refine En.seq ?_
 refine En.seq ?_
 refine En.region ?_
 refine WL.run ht hn 1 ⟨[sl 1 (.ptr 0 0), sl 3 (.own 3), sl 4 (I x4), sl 5 (.own 2), sl 78 (.own 2)], [.box (ApiDet.cl d) 73 false, .gone, mapI DetSplit.enc intT m2, rowI 3 intT l3]⟩ (by kernel_rfl) ?_
 refine WL.val hn (by rfl) (val_lenM (enc := DetSplit.enc) (T := intT) (D := m2) rfl Try.underlying320 (by rfl) (by rfl) (mapAs _ _ _)) (by rfl) ?_
 refine WL.run ht hn 2 ⟨[sl 1 (.ptr 0 0), sl 3 (.own 3), sl 5 (.own 2), sl 81 (B ((m2.length : Int) == x4))], [.box (ApiDet.cl d) 73 false, .gone, mapI DetSplit.enc intT m2, rowI 3 intT l3]⟩ (by kernel_rfl) ?_
 refine WL.nil ?_
 refine En.cond (b := ((m2.length : Int) == x4)) (by kernel_rfl) (fun hb => ?_) (fun hb => ?_)
 replace h := h.1 hb
 refine En.seq ?_
 refine En.region ?_
 refine WL.run ht hn 2 ⟨[sl 2 (.own 3)], [.gone, .gone, .gone, rowI 3 intT l3]⟩ (by kernel_rfl) ?_
 refine WL.nil ?_
 refine En.ret ?_
 refine En.seal (T := intT) (l := l3) (e := 3) 3 rfl ?_
 exact En.back ht l3 h (by kernel_rfl) rfl
 replace h := h.2 hb
 refine En.skip ?_
 refine En.region ?_
 refine WL.run ht hn 1 ⟨[sl 1 (.ptr 0 0), sl 3 (.own 3), sl 83 (.own 2)], [.box (ApiDet.cl d) 73 false, .gone, mapI DetSplit.enc intT m2, rowI 3 intT l3]⟩ (by kernel_rfl) ?_
 refine WL.val hn (by rfl) (val_lenM (enc := DetSplit.enc) (T := intT) (D := m2) rfl Try.underlying320 (by rfl) (by rfl) (mapAs _ _ _)) (by rfl) ?_
 refine WL.run ht hn 1 ⟨[sl 1 (.ptr 0 0), sl 3 (.own 3), sl 4 (I (m2.length : Int))], [.box (ApiDet.cl d) 73 false, .gone, .gone, rowI 3 intT l3]⟩ (by kernel_rfl) ?_
 refine WL.nil ?_
 refine En.move 3 1 (by rfl) (by rfl) ?_
 exact En.at (I := fun zz => Inv zz.1 zz.2 ∧ mu zz.1 zz.2 < mu x4 l1) (T := fun zz => ⟨[sl 1 (.ptr 0 0), sl 3 (.own 1), sl 4 (I zz.1)], [.box (ApiDet.cl d) 73 false, rowI 3 intT zz.2]⟩) ((m2.length : Int), l3) h (by kernel_rfl)
theorem en159 : ∀ args w, (callFunc 159 args).run Try.prog w = .ok (.enter 159 args) w := enters_of Try.func159 (by kernel_rfl) rfl
end Go.Proofs.Ytapnmjeadbhffaa


namespace Go.Proofs.Ytapnmjeadbhffaa
open Go.RowKit Go.MapKept
set_option linter.unusedSimpArgs false
set_option linter.unusedVariables false
set_option maxRecDepth 100000
set_option linter.unusedSectionVars false
theorem nodup_le {α : Type} : ∀ {l m : List α}, l.Nodup → (∀ x ∈ l, x ∈ m) → l.length ≤ m.length
  | [], _, _, _ => Nat.zero_le _
  | x :: l, m, hn, h => by
    rw [List.nodup_cons] at hn
    obtain ⟨s, t, rfl⟩ := List.append_of_mem (h x List.mem_cons_self)
    have := nodup_le (l := l) (m := s ++ t) hn.2 fun y hy => by
      have h1 := h y (List.mem_cons_of_mem _ hy)
      rw [List.mem_append, List.mem_cons] at h1
      rw [List.mem_append]
      rcases h1 with h1 | rfl | h1
      · exact .inl h1
      · exact absurd hy hn.1
      · exact .inr h1
    simp only [List.length_append, List.length_cons] at this ⊢
    omega
theorem idxOf_left {α : Type} [DecidableEq α] {x : α} : ∀ {l r : List α}, x ∈ l → (l ++ r).idxOf x = l.idxOf x
  | [], _, h => by simp at h
  | y :: l, r, h => by
    rw [List.cons_append, List.idxOf_cons, List.idxOf_cons]
    by_cases e : y = x
    · simp [e]
    · have hm : x ∈ l := by
        rcases List.mem_cons.1 h with h | h
        · exact absurd h.symm e
        · exact h
      simp [e, idxOf_left (r := r) hm]
theorem idxOf_map {α β : Type} [DecidableEq α] [DecidableEq β] {φ : α → β} {x : α} : ∀ {l : List α}, (∀ y ∈ l, φ y = φ x → y = x) → (l.map φ).idxOf (φ x) = l.idxOf x
  | [], _ => rfl
  | y :: l, h => by
    rw [List.map_cons, List.idxOf_cons, List.idxOf_cons]
    have ih := idxOf_map (l := l) fun z hz => h z (List.mem_cons_of_mem _ hz)
    by_cases e : y = x
    · simp [e]
    · have : φ y ≠ φ x := fun e2 => e (h y List.mem_cons_self e2)
      rw [show (φ y == φ x) = false by simpa using this, show (y == x) = false by simpa using e]
      simp [ih]
section
variable {K : Type} [DecidableEq K]
def growTo (go : K → Nat → K) (k : K) : Nat → List K → List K
  | 0, l => l
  | n + 1, l => if go k n ∈ growTo go k n l then growTo go k n l else growTo go k n l ++ [go k n]
def expl (go : K → Nat → K) (L : Nat) (k0 : K) : Nat → List K
  | 0 => [k0]
  | i + 1 => match (expl go L k0 i)[i]? with
    | some k => growTo go k L (expl go L k0 i)
    | none => expl go L k0 i
variable {go : K → Nat → K} {mark : K → Int} {L : Nat} {k0 : K} {P : K → Prop}
theorem growTo_app (k : K) : ∀ (n : Nat) (l : List K), ∃ r, growTo go k n l = l ++ r
  | 0, l => ⟨[], by simp [growTo]⟩
  | n + 1, l => by
    obtain ⟨r, hr⟩ := growTo_app k n l
    rw [growTo]
    split
    · exact ⟨r, hr⟩
    · exact ⟨r ++ [go k n], by rw [hr, List.append_assoc]⟩
theorem growTo_nodup {k : K} : ∀ {n : Nat} {l : List K}, l.Nodup → (growTo go k n l).Nodup
  | 0, _, h => h
  | n + 1, l, h => by
    have ih := growTo_nodup (k := k) (n := n) h
    rw [growTo]
    split
    · exact ih
    · rename_i hm
      rw [List.nodup_append]
      exact ⟨ih, by simp, fun x hx y hy => by simp at hy; subst hy; exact fun e => hm (e ▸ hx)⟩
theorem growTo_mem {k x : K} : ∀ {n : Nat} {l : List K}, x ∈ growTo go k n l ↔ x ∈ l ∨ ∃ a, a < n ∧ go k a = x
  | 0, l => by simp [growTo]
  | n + 1, l => by
    have ih := growTo_mem (k := k) (x := x) (n := n) (l := l)
    have key : x ∈ growTo go k (n + 1) l ↔ x ∈ growTo go k n l ∨ go k n = x := by
      rw [growTo]
      split
      · rename_i hm
        constructor
        · exact .inl
        · rintro (h | rfl)
          · exact h
          · exact hm
      · rw [List.mem_append, List.mem_singleton]
        constructor
        · rintro (h | rfl)
          · exact .inl h
          · exact .inr rfl
        · rintro (h | rfl)
          · exact .inl h
          · exact .inr rfl
    rw [key, ih]
    constructor
    · rintro ((h | ⟨a, h1, h2⟩) | h)
      · exact .inl h
      · exact .inr ⟨a, by omega, h2⟩
      · exact .inr ⟨n, by omega, h⟩
    · rintro (h | ⟨a, h1, h2⟩)
      · exact .inl (.inl h)
      · by_cases e : a = n
        · subst e; exact .inr h2
        · exact .inl (.inr ⟨a, by omega, h2⟩)
theorem expl_step (i : Nat) : ∃ r, expl go L k0 (i + 1) = expl go L k0 i ++ r := by
  rw [expl]
  split
  · exact growTo_app _ _ _
  · exact ⟨[], by simp⟩
theorem expl_app {i : Nat} : ∀ {j : Nat}, i ≤ j → ∃ r, expl go L k0 j = expl go L k0 i ++ r
  | 0, h => by
    obtain rfl : i = 0 := by omega
    exact ⟨[], by simp⟩
  | j + 1, h => by
    by_cases e : i = j + 1
    · subst e; exact ⟨[], by simp⟩
    · obtain ⟨r, hr⟩ := expl_app (i := i) (j := j) (by omega)
      obtain ⟨r2, hr2⟩ := expl_step (go := go) (L := L) (k0 := k0) j
      exact ⟨r ++ r2, by rw [hr2, hr, List.append_assoc]⟩
theorem expl_nodup : ∀ {i : Nat}, (expl go L k0 i).Nodup
  | 0 => by simp [expl]
  | i + 1 => by
    rw [expl]
    split
    · exact growTo_nodup expl_nodup
    · exact expl_nodup
theorem expl_stop {i : Nat} (h : (expl go L k0 i).length ≤ i) : ∀ {j : Nat}, i ≤ j → expl go L k0 j = expl go L k0 i
  | 0, hj => by
    obtain rfl : i = 0 := by omega
    rfl
  | j + 1, hj => by
    by_cases e : i = j + 1
    · subst e; rfl
    · have ih := expl_stop h (j := j) (by omega)
      rw [expl, ih, List.getElem?_eq_none (by omega)]
theorem expl_one {n m : Nat} (hn : (expl go L k0 n).length = n) (hm : (expl go L k0 m).length = m) : expl go L k0 n = expl go L k0 m := by
  rcases Nat.le_total n m with h | h
  · exact (expl_stop (by omega) h).symm
  · exact expl_stop (by omega) h
theorem expl_mono {i j : Nat} (h : i ≤ j) : (expl go L k0 i).length ≤ (expl go L k0 j).length := by
  obtain ⟨r, hr⟩ := expl_app (go := go) (L := L) (k0 := k0) h
  rw [hr, List.length_append]
  omega
theorem expl_in (h0 : P k0) (hP : ∀ k a, P k → a < L → P (go k a)) : ∀ {i : Nat} {k : K}, k ∈ expl go L k0 i → P k
  | 0, k, h => by
    simp [expl] at h
    exact h ▸ h0
  | i + 1, k, h => by
    rw [expl] at h
    split at h
    · rename_i q hq
      rcases growTo_mem.1 h with h | ⟨a, ha, rfl⟩
      · exact expl_in h0 hP h
      · exact hP _ _ (expl_in h0 hP (List.mem_of_getElem? hq)) ha
    · exact expl_in h0 hP h
theorem expl_first (i : Nat) : (expl go L k0 i)[0]? = some k0 := by
  obtain ⟨r, hr⟩ := expl_app (go := go) (L := L) (k0 := k0) (Nat.zero_le i)
  rw [hr]
  simp [expl]
theorem expl_get {n j : Nat} {k : K} (hj : j < n) (hk : (expl go L k0 n)[j]? = some k) : (expl go L k0 j)[j]? = some k := by
  obtain ⟨r, hr⟩ := expl_app (go := go) (L := L) (k0 := k0) (Nat.le_of_lt hj)
  by_cases h : j < (expl go L k0 j).length
  · rw [hr, List.getElem?_append_left h] at hk
    exact hk
  · have e := expl_stop (go := go) (L := L) (k0 := k0) (i := j) (by omega) (j := n) (by omega)
    rw [e, List.getElem?_eq_none (by omega)] at hk
    cases hk
theorem expl_closed {n : Nat} (hn : (expl go L k0 n).length = n) {k : K} (hk : k ∈ expl go L k0 n) {a : Nat} (ha : a < L) : go k a ∈ expl go L k0 n := by
  obtain ⟨j, hj⟩ := List.getElem?_of_mem hk
  have hlt : j < n := by
    have := (List.getElem?_eq_some_iff.1 hj).1
    omega
  have h1 := expl_get hlt hj
  obtain ⟨r, hr⟩ := expl_app (go := go) (L := L) (k0 := k0) (show j + 1 ≤ n from hlt)
  rw [hr]
  refine List.mem_append_left _ ?_
  rw [expl, h1]
  exact growTo_mem.2 (.inr ⟨a, ha, rfl⟩)
theorem expl_ends {m : List K} (h0 : k0 ∈ m) (hP : ∀ k a, k ∈ m → a < L → go k a ∈ m) : ∃ n, (expl go L k0 n).length = n ∧ n ≤ m.length := by
  have hall : ∀ i, (expl go L k0 i).length ≤ m.length := fun i => nodup_le expl_nodup fun x hx => expl_in (P := fun k => k ∈ m) h0 hP hx
  by_cases h : ∃ n, n ≤ m.length ∧ (expl go L k0 n).length ≤ n
  · obtain ⟨n, h1, h2⟩ := h
    have h3 : (expl go L k0 (expl go L k0 n).length).length ≤ (expl go L k0 n).length := expl_mono h2
    have h4 := expl_stop h3 h2
    exact ⟨(expl go L k0 n).length, by rw [← h4], hall n⟩
  · exfalso
    have := hall m.length
    exact h ⟨m.length, Nat.le_refl _, this⟩
def rowOf (go : K → Nat → K) (L : Nat) (l : List K) (k : K) : List Int := (List.range L).map fun a => (l.idxOf (go k a) : Int)
def detOf (go : K → Nat → K) (mark : K → Int) (L : Nat) (l : List K) : ApiDet := ⟨L, 0, l.map (rowOf go L l), l.map mark⟩
open Classical in
noncomputable def explL (go : K → Nat → K) (L : Nat) (k0 : K) : List K := if h : ∃ n, (expl go L k0 n).length = n then expl go L k0 h.choose else [k0]
theorem explL_eq {n : Nat} (h : (expl go L k0 n).length = n) : explL go L k0 = expl go L k0 n := by
  unfold explL
  have hx : ∃ n, (expl go L k0 n).length = n := ⟨n, h⟩
  rw [dif_pos hx]
  exact expl_one hx.choose_spec h
noncomputable def explD (go : K → Nat → K) (mark : K → Int) (L : Nat) (k0 : K) : ApiDet := detOf go mark L (explL go L k0)
open Classical in
noncomputable def explR (go : K → Nat → K) (mark : K → Int) (L : Nat) (k0 : K) (limit : Int) : ApiDet × Bool :=
  if ∃ n : Nat, (expl go L k0 n).length = n ∧ (n : Int) ≤ limit then (explD go mark L k0, true) else (⟨0, 0, [], []⟩, false)
theorem explR_ends {limit : Int} {m : List K} (h0 : k0 ∈ m) (hP : ∀ k a, k ∈ m → a < L → go k a ∈ m) (hl : (m.length : Int) ≤ limit) : explR go mark L k0 limit = (explD go mark L k0, true) := by
  obtain ⟨n, h1, h2⟩ := expl_ends (L := L) h0 hP
  unfold explR
  rw [if_pos ⟨n, h1, by omega⟩]
section
variable {K' : Type} [DecidableEq K'] {go' : K' → Nat → K'} {mark' : K' → Int} {φ : K → K'}
theorem growTo_map (inj : ∀ x y, P x → P y → φ x = φ y → x = y) (hg : ∀ k a, P k → a < L → φ (go k a) = go' (φ k) a) (hP : ∀ k a, P k → a < L → P (go k a)) {k : K} (hk : P k) : ∀ {n : Nat} {l : List K}, n ≤ L → (∀ x ∈ l, P x) → growTo go' (φ k) n (l.map φ) = (growTo go k n l).map φ
  | 0, l, _, _ => rfl
  | n + 1, l, hn, hl => by
    have ih := growTo_map inj hg hP hk (n := n) (l := l) (by omega) hl
    have hin : ∀ x ∈ growTo go k n l, P x := fun x hx => by
      rcases growTo_mem.1 hx with h | ⟨a, ha, rfl⟩
      · exact hl x h
      · exact hP k a hk (by omega)
    have hmem : go' (φ k) n ∈ (growTo go k n l).map φ ↔ go k n ∈ growTo go k n l := by
      rw [← hg k n hk (by omega), List.mem_map]
      constructor
      · rintro ⟨x, hx, e⟩
        exact inj _ _ (hin x hx) (hP k n hk (by omega)) e ▸ hx
      · exact fun h => ⟨_, h, rfl⟩
    rw [growTo, growTo, ih]
    by_cases h : go k n ∈ growTo go k n l
    · rw [if_pos h, if_pos (hmem.2 h)]
    · rw [if_neg h, if_neg (fun e => h (hmem.1 e)), List.map_append, List.map_cons, List.map_nil, hg k n hk (by omega)]
theorem expl_map (h0 : P k0) (inj : ∀ x y, P x → P y → φ x = φ y → x = y) (hg : ∀ k a, P k → a < L → φ (go k a) = go' (φ k) a) (hP : ∀ k a, P k → a < L → P (go k a)) : ∀ {i : Nat}, expl go' L (φ k0) i = (expl go L k0 i).map φ
  | 0 => rfl
  | i + 1 => by
    rw [expl, expl, expl_map h0 inj hg hP, List.getElem?_map]
    cases hk : (expl go L k0 i)[i]? with
    | none => rfl
    | some k =>
      show growTo go' (φ k) L _ = _
      exact growTo_map inj hg hP (expl_in h0 hP (List.mem_of_getElem? hk)) (Nat.le_refl _) fun x hx => expl_in h0 hP hx
theorem explL_map (h0 : P k0) (inj : ∀ x y, P x → P y → φ x = φ y → x = y) (hg : ∀ k a, P k → a < L → φ (go k a) = go' (φ k) a) (hP : ∀ k a, P k → a < L → P (go k a)) : explL go' L (φ k0) = (explL go L k0).map φ := by
  by_cases h : ∃ n, (expl go L k0 n).length = n
  · obtain ⟨n, hn⟩ := h
    rw [explL_eq hn, explL_eq (n := n) (by rw [expl_map h0 inj hg hP, List.length_map]; exact hn), expl_map h0 inj hg hP]
  · have h' : ¬ ∃ n, (expl go' L (φ k0) n).length = n := fun ⟨n, hn⟩ => h ⟨n, by rw [expl_map h0 inj hg hP, List.length_map] at hn; exact hn⟩
    unfold explL
    rw [dif_neg h, dif_neg h']
    rfl
theorem explL_in (h0 : P k0) (hP : ∀ k a, P k → a < L → P (go k a)) {k : K} (hk : k ∈ explL go L k0) : P k := by
  unfold explL at hk
  split at hk
  · exact expl_in h0 hP hk
  · simp at hk
    exact hk ▸ h0
theorem explD_map (h0 : P k0) (inj : ∀ x y, P x → P y → φ x = φ y → x = y) (hg : ∀ k a, P k → a < L → φ (go k a) = go' (φ k) a) (hP : ∀ k a, P k → a < L → P (go k a)) (hm : ∀ k, P k → mark' (φ k) = mark k) : explD go' mark' L (φ k0) = explD go mark L k0 := by
  unfold explD detOf
  rw [explL_map h0 inj hg hP, List.map_map, List.map_map]
  have hin : ∀ k ∈ explL go L k0, P k := fun k hk => explL_in h0 hP hk
  refine congr (congrArg _ (List.map_congr_left fun k hk => ?_)) (List.map_congr_left fun k hk => hm k (hin k hk))
  show rowOf go' L _ (φ k) = rowOf go L _ k
  unfold rowOf
  refine List.map_congr_left fun a ha => ?_
  have ha : a < L := List.mem_range.1 ha
  have hk := hin k hk
  rw [← hg k a hk ha, idxOf_map fun y hy e => inj _ _ (hin y hy) (hP k a hk ha) e]
end
end
abbrev Lang := List Nat → Int
noncomputable instance langDec : DecidableEq Lang := fun _ _ => Classical.propDecidable _
def rs (L : Nat) (r : Lang) : Lang := fun w => if ∀ a ∈ w, a < L then r w else 0
theorem rs_congr {L : Nat} {r s : Lang} (h : ∀ w, (∀ a ∈ w, a < L) → r w = s w) : rs L r = rs L s := by
  funext w
  unfold rs
  split
  · rename_i hw
    exact h w hw
  · rfl
def der (r : Lang) (a : Nat) : Lang := fun w => r (a :: w)
theorem rs_cons {L : Nat} {r : Lang} {a : Nat} (ha : a < L) {w : List Nat} : rs L r (a :: w) = rs L (der r a) w := by
  unfold rs
  by_cases h : ∀ b ∈ w, b < L
  · rw [if_pos h, if_pos (show ∀ b ∈ a :: w, b < L from fun b hb => (List.mem_cons.1 hb).elim (fun e => e ▸ ha) (h b))]
    rfl
  · rw [if_neg h, if_neg (fun e => h fun b hb => e b (List.mem_cons_of_mem _ hb))]
theorem der_rs {L : Nat} {r : Lang} {a : Nat} (ha : a < L) : der (rs L r) a = rs L (der r a) := funext fun _ => rs_cons ha
theorem rs_at {L : Nat} {r s : Lang} (h : rs L r = rs L s) {w : List Nat} (hw : ∀ a ∈ w, a < L) : r w = s w := by
  have := congrFun h w
  unfold rs at this
  rw [if_pos hw, if_pos hw] at this
  exact this
noncomputable def canon (L : Nat) (r : Lang) : ApiDet := explD der (fun r => r []) L (rs L r)
theorem canon_congr {L : Nat} {r s : Lang} (h : ∀ w, (∀ a ∈ w, a < L) → r w = s w) : canon L r = canon L s := by
  unfold canon
  rw [rs_congr h]
section
variable {K : Type} [DecidableEq K] {go : K → Nat → K} {mark : K → Int} {L : Nat} {k0 : K} {P : K → Prop}
def langK (go : K → Nat → K) (mark : K → Int) (k : K) : Lang := fun w => mark (w.foldl go k)
theorem der_lang {k : K} {a : Nat} (ha : a < L) : rs L (langK go mark (go k a)) = der (rs L (langK go mark k)) a := by
  rw [der_rs ha]
  rfl
theorem canon_of (h0 : P k0) (hP : ∀ k a, P k → a < L → P (go k a)) (inj : ∀ x y, P x → P y → rs L (langK go mark x) = rs L (langK go mark y) → x = y) : explD go mark L k0 = canon L (langK go mark k0) := by
  unfold canon
  refine (explD_map (φ := fun k => rs L (langK go mark k)) h0 inj (fun k a _ ha => der_lang ha) hP fun k _ => ?_).symm
  show rs L (langK go mark k) [] = _
  unfold rs
  rw [if_pos (fun b hb => by simp at hb)]
  rfl
end
def stepD (d : ApiDet) (q : Nat) (a : Nat) : Nat := ((d.fNext.getD q []).getD a 0).toNat
def langD (d : ApiDet) (q : Nat) : Lang := fun w => d.fMark.getD (w.foldl (stepD d) q) 0
section
variable {K : Type} [DecidableEq K] {go : K → Nat → K} {mark : K → Int} {L : Nat} {k0 : K} {P : K → Prop}
theorem getD_of {α : Type} {l : List α} {i : Nat} {d x : α} (h : l[i]? = some x) : l.getD i d = x := by simp [h]
theorem idxOf_get {l : List K} {k : K} (h : k ∈ l) : l[l.idxOf k]? = some k := by
  rw [List.getElem?_eq_getElem (List.idxOf_lt_length_of_mem h)]
  simp
theorem detOf_step {l : List K} {k : K} (hk : k ∈ l) {a : Nat} (ha : a < L) : stepD (detOf go mark L l) (l.idxOf k) a = l.idxOf (go k a) := by
  unfold stepD detOf
  have h1 : (l.map (rowOf go L l)).getD (l.idxOf k) [] = rowOf go L l k := getD_of (by rw [List.getElem?_map, idxOf_get hk]; rfl)
  have h2 : (rowOf go L l k).getD a 0 = (l.idxOf (go k a) : Int) := getD_of (by unfold rowOf; rw [List.getElem?_map, List.getElem?_range ha]; rfl)
  show (((l.map (rowOf go L l)).getD (l.idxOf k) []).getD a 0).toNat = _
  rw [h1, h2]
  simp
theorem detOf_run {l : List K} (hcl : ∀ k ∈ l, ∀ a, a < L → go k a ∈ l) : ∀ {w : List Nat} {k : K}, k ∈ l → (∀ a ∈ w, a < L) → w.foldl (stepD (detOf go mark L l)) (l.idxOf k) = l.idxOf (w.foldl go k)
  | [], k, hk, _ => rfl
  | a :: w, k, hk, hw => by
    have ha := hw a List.mem_cons_self
    rw [List.foldl_cons, List.foldl_cons, detOf_step hk ha, detOf_run hcl (hcl k hk a ha) fun b hb => hw b (List.mem_cons_of_mem _ hb)]
theorem foldl_in {l : List K} (hcl : ∀ k ∈ l, ∀ a, a < L → go k a ∈ l) : ∀ {w : List Nat} {k : K}, k ∈ l → (∀ a ∈ w, a < L) → w.foldl go k ∈ l
  | [], k, hk, _ => hk
  | a :: w, k, hk, hw => foldl_in (w := w) (k := go k a) hcl (hcl k hk a (hw a List.mem_cons_self)) fun b hb => hw b (List.mem_cons_of_mem _ hb)
theorem detOf_lang {l : List K} (hcl : ∀ k ∈ l, ∀ a, a < L → go k a ∈ l) {k : K} (hk : k ∈ l) {w : List Nat} (hw : ∀ a ∈ w, a < L) : langD (detOf go mark L l) (l.idxOf k) w = langK go mark k w := by
  unfold langD langK
  rw [detOf_run hcl hk hw]
  refine getD_of ?_
  show (l.map mark)[_]? = _
  rw [List.getElem?_map, idxOf_get (foldl_in hcl hk hw)]
  rfl
theorem explD_facts {m : List K} (h0 : k0 ∈ m) (hP : ∀ k a, k ∈ m → a < L → go k a ∈ m) : ∃ l : List K, explL go L k0 = l ∧ l.Nodup ∧ (∀ k ∈ l, k ∈ m) ∧ l.length ≤ m.length ∧ l[0]? = some k0 ∧ ∀ k ∈ l, ∀ a, a < L → go k a ∈ l := by
  obtain ⟨n, h1, h2⟩ := expl_ends (L := L) h0 hP
  exact ⟨_, explL_eq h1, expl_nodup, fun k hk => expl_in (P := fun k => k ∈ m) h0 hP hk, by omega, expl_first n, fun k hk a ha => expl_closed h1 hk ha⟩
theorem idxOf_first {l : List K} (h : l[0]? = some k0) : l.idxOf k0 = 0 := by
  cases l with
  | nil => simp at h
  | cons x l => simp at h; simp [h]
theorem explD_lang {m : List K} (h0 : k0 ∈ m) (hP : ∀ k a, k ∈ m → a < L → go k a ∈ m) {w : List Nat} (hw : ∀ a ∈ w, a < L) : langD (explD go mark L k0) 0 w = langK go mark k0 w := by
  obtain ⟨l, e, _, _, _, h1, h2⟩ := explD_facts (L := L) h0 hP
  unfold explD
  rw [e]
  have := detOf_lang (mark := mark) h2 (List.mem_of_getElem? h1) hw
  rw [idxOf_first h1] at this
  exact this
end
structure Wf (d : ApiDet) : Prop where
  letters : 0 ≤ d.fLetters
  rows : ∀ r ∈ d.fNext, r.length = d.fLetters.toNat
  next : ∀ r ∈ d.fNext, ∀ x ∈ r, 0 ≤ x ∧ x < (d.fNext.length : Int)
  start : 0 ≤ d.fStart ∧ d.fStart < (d.fNext.length : Int)
  mark : d.fMark.length = d.fNext.length
section
variable {K : Type} [DecidableEq K] {go : K → Nat → K} {mark : K → Int} {L : Nat} {k0 : K} {P : K → Prop}
theorem explD_wf {m : List K} (h0 : k0 ∈ m) (hP : ∀ k a, k ∈ m → a < L → go k a ∈ m) : Wf (explD go mark L k0) := by
  obtain ⟨l, e, _, _, _, h1, h2⟩ := explD_facts (L := L) h0 hP
  unfold explD
  rw [e]
  refine ⟨by simp [detOf], ?_, ?_, ?_, by simp [detOf]⟩
  · intro r hr
    obtain ⟨k, _, rfl⟩ := List.mem_map.1 hr
    simp [rowOf, detOf]
  · intro r hr x hx
    obtain ⟨k, hk, rfl⟩ := List.mem_map.1 hr
    obtain ⟨a, ha, rfl⟩ := List.mem_map.1 hx
    have := List.idxOf_lt_length_of_mem (h2 k hk a (List.mem_range.1 ha))
    simp only [detOf, List.length_map]
    omega
  · have : 0 < l.length := (List.getElem?_eq_some_iff.1 h1).1
    simp only [detOf, List.length_map]
    omega
theorem explD_count {m : List K} (h0 : k0 ∈ m) (hP : ∀ k a, k ∈ m → a < L → go k a ∈ m) : (explD go mark L k0).fNext.length ≤ m.length := by
  obtain ⟨l, e, _, _, h3, _⟩ := explD_facts (L := L) h0 hP
  unfold explD
  rw [e]
  simpa [detOf] using h3
theorem explD_marks {Q : Int → Prop} {m : List K} (h0 : k0 ∈ m) (hP : ∀ k a, k ∈ m → a < L → go k a ∈ m) (hQ : ∀ k ∈ m, Q (mark k)) : ∀ x ∈ (explD go mark L k0).fMark, Q x := fun x hx => by
  obtain ⟨l, e, _, h4, _⟩ := explD_facts (L := L) h0 hP
  unfold explD at hx
  rw [e] at hx
  obtain ⟨k, hk, rfl⟩ := List.mem_map.1 hx
  exact hQ k (h4 k hk)
end
end Go.Proofs.Ytapnmjeadbhffaa

