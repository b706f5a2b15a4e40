/- Lemmas towards the statement: mirrors of functions, and plain laws. No condition. -/
import Derived.Laws.BytesString
import Derived.Shelf.Abstract
import Derived.Test.YtiinkohfldopbaaPackTwoOne2

/- Symbolic states of a walk: strings made of bytes, strings compared, strings as keys. No condition. -/
namespace Go.Proofs.Ytiinkohfldopbaa
open Go.RowKit Go.MapKept
set_option linter.unusedSimpArgs false
set_option linter.unusedVariables false
set_option maxRecDepth 100000
set_option linter.unusedSectionVars false

/-- a string of bytes -/
def bytesOf (l : List Int) : ByteArray := l.foldl (fun r n => r.push (UInt8.ofNat n.toNat)) ByteArray.empty
theorem push_toList (l : List Int) : ∀ s : ByteArray, (l.foldl (fun r n => r.push (UInt8.ofNat n.toNat)) s).data.toList = s.data.toList ++ l.map fun n => UInt8.ofNat n.toNat := by
  induction l with
  | nil => intro s; simp
  | cons n l ih => intro s; rw [List.foldl_cons, ih]; simp [ByteArray.push]
theorem bytesOf_inj {l m : List Int} (hl : ∀ x ∈ l, 0 ≤ x ∧ x < 256) (hm : ∀ x ∈ m, 0 ≤ x ∧ x < 256) (h : bytesOf l = bytesOf m) : l = m := by
  have e := congrArg (fun s : ByteArray => s.data.toList) h
  simp only [bytesOf, push_toList] at e
  have e0 : ByteArray.empty.data.toList = [] := rfl
  rw [e0, List.nil_append, List.nil_append] at e
  clear h e0
  induction l generalizing m with
  | nil =>
    cases m with
    | nil => rfl
    | cons y m => simp at e
  | cons x l ih =>
    cases m with
    | nil => simp at e
    | cons y m =>
      simp only [List.map_cons, List.cons.injEq] at e
      have h1 := hl x List.mem_cons_self
      have h2 := hm y List.mem_cons_self
      have h3 : x.toNat = y.toNat := by
        have := congrArg UInt8.toNat e.1
        simp only [UInt8.toNat_ofNat'] at this
        omega
      rw [ih (fun z hz => hl z (List.mem_cons_of_mem _ hz)) (fun z hz => hm z (List.mem_cons_of_mem _ hz)) e.2, show x = y by omega]
theorem rowRead.bytes {l : List Int} {g : Gh} {cs : List Value} {k : IntKind} (h : rowRead (intKT k) l g cs) : cs = l.map (Value.int k) := by
  obtain ⟨us, rfl, h2, h3⟩ := h
  have : us = l.map (Value.int k) := by
    refine List.ext_getElem? fun q => ?_
    rw [List.getElem?_map]
    cases hu : us[q]? with
    | none =>
      have := List.getElem?_eq_none_iff.1 hu
      rw [List.getElem?_eq_none (by omega)]
      rfl
    | some u =>
      have hq := (List.getElem?_eq_some_iff.1 hu).1
      have ha : l[q]? = some (l[q]'(by omega)) := List.getElem?_eq_getElem (by omega)
      rw [ha]
      have := (h3 q u _ hu ha).1.1
      show some u = some _
      rw [show u = _ from this]
  rw [this]
  clear this h2 h3
  induction l with
  | nil => rfl
  | cons x l ih => simp only [List.map_cons, List.flatMap_cons, ih]; rfl
theorem flat_drop {s : Nat} : ∀ {us : List Value} (k : Nat), (∀ u ∈ us, u.cells.size = s) → (us.flatMap (·.cells.toList)).drop (k * s) = (us.drop k).flatMap (·.cells.toList)
  | us, 0, _ => by simp
  | [], k + 1, _ => by simp
  | u :: us, k + 1, h => by
    have hu : u.cells.toList.length = s := by simpa using h u List.mem_cons_self
    have ih := flat_drop (us := us) k fun x hx => h x (List.mem_cons_of_mem _ hx)
    rw [List.flatMap_cons, List.drop_succ_cons, Nat.succ_mul, Nat.add_comm, ← hu, ← List.drop_drop, List.drop_left, hu]
    exact ih
theorem rowRead.drop {α : Type} {T : Ty α} {l : List α} {g : Gh} {cs : List Value} (h : rowRead T l g cs) (k : Nat) : rowRead T (l.drop k) g (cs.drop (k * T.s)) := by
  obtain ⟨us, rfl, h2, h3⟩ := h
  refine ⟨us.drop k, flat_drop k (rowRead.sizes h2 h3), by simp [h2], fun q u a hu ha => ?_⟩
  rw [List.getElem?_drop] at hu ha
  exact h3 _ u a hu ha
section
variable {c : Cfg} {S S1 : St} {a : Act} {w : World} {g : Gh} {hs : Nat → Value} {tab : Tab} {n : Nat} {o : Oper} {ops : Array Oper} {rest L : List Oper} {N : Po}
/-- a row of the call's own, as what is read -/
theorem srcOwn {α : Type} {T : Ty α} {es : List α} {y : Operand} {i e : Nat} (hT : T.solid) (hy : evX S.F y = some (.sv (.one (.own i)))) (hm : S.M[i]? = some (rowI e T es)) : SrcOk c S y T es := fun a w g hs h => by
  have hv : a.eval y = hs i := (evX_ok h hy).1
  obtain ⟨cs, ⟨hl0, r1⟩, r2⟩ := h.items i _ hm
  refine ⟨cs, ?_, r2⟩
  rw [hv]
  rcases r1 with ⟨e1, e2⟩ | ⟨gb, of, cap, cur, e1, e4, _, _, _, e5⟩
  · refine ⟨none, 0, by rw [e1, e2], fun _ => ⟨rfl, e2⟩, hl0, fun j u hj => ?_, fun u hu => (r2.cells hT u hu).one⟩
    have := (List.getElem?_eq_some_iff.1 hj).1
    rw [hl0, e2] at this
    omega
  · refine ⟨some ⟨gb, of, none⟩, cap, e1, (fun h => by cases h), hl0, fun j u hj => ⟨gb, of, rfl, ?_⟩, fun u hu => (r2.cells hT u hu).one⟩
    unfold World.cell?
    rw [← e5, List.getElem?_take] at hj
    split at hj
    · rw [List.getElem?_drop] at hj
      simp only [e4]
      simpa using hj
    · cases hj
/-- a string of bytes -/
theorem val_str {l : List Int} {src t e : Nat} {x : Operand} (ho : o.op = .convert src t x) (h1 : Try.prog.underlying src = some (.slice e)) (h2 : Try.prog.underlying e = some (.int .u8)) (h3 : Try.prog.underlying t = some .string) (hx : SrcOk c S x (intKT .u8) l) : Val c S o (.sv (.one (.v (.string (bytesOf l))))) := fun a w g hs h => by
  obtain ⟨cs, ⟨ao, cp, e1, e2, e3, e4, e5⟩, r⟩ := hx a w g hs h
  obtain rfl := r.bytes
  refine ⟨.string (bytesOf l), ?_, rfl, trivial⟩
  have : (execOp a.eval o) = (do pure (.value (← convert src t (a.eval x))) : Sem Next) := by unfold execOp; rw [ho]
  rw [this]
  refine run_val ?_
  rw [e1, run_convert_bytes_string w src t e ao _ cp h1 h2 h3]
  cases ao with
  | none =>
    obtain ⟨_, h0⟩ := e2 rfl
    obtain rfl := List.eq_nil_of_length_eq_zero h0
    rfl
  | some ad =>
    refine run_bytesToString w ad _ cp l ?_
    have := run_loadCells_list (P := Try.prog) (w := w) ad (l.map (Value.int .u8)) fun j v hj => by
      obtain ⟨b, of, h4, h5⟩ := e4 j v hj
      cases h4
      rw [svs_add]
      exact h5
    rw [List.length_map] at this
    exact this
theorem beq_bytes (u v : ByteArray) : (u == v) = decide (u = v) := by
  cases u with
  | mk a =>
    cases v with
    | mk b =>
      show (a == b) = _
      by_cases e : a = b
      · subst e; simp
      · rw [show (a == b) = false from beq_eq_false_iff_ne.2 e]
        simp [e]
/-- how many entries a map has -/
theorem val_lenM {κ α : Type} [DecidableEq κ] {enc : κ → Value} {T : Ty α} {D : List (κ × α)} {x : Operand} {t i kt e : Nat} {r : Rl (Array MapEntry × Nat)} (ho : o.op = .call ⟨.builtin .len, #[x], #[t]⟩) (ht : Try.prog.underlying t = some (.map kt e)) (hx : evX S.F x = some (.sv (.one (.own i)))) (hm : S.M[i]? = some (.map r)) (hr : MapAs enc T D r) : Val c S o (.sv (.one (I (D.length : Int)))) := fun a w g hs h => by
  obtain ⟨m, D0, h1, ⟨es, clock, h2, h3, _⟩, h4, _⟩ := map_ownR h hm hr
  have hv : a.eval x = .map (some m) := (evX_ok h hx).1.trans h1
  have hl : es.size = D.length := by
    have e1 := congrArg List.length h3
    have e2 := congrArg List.length h4
    simp only [List.length_map, Array.length_toList] at e1 e2
    omega
  have hrun : (execOp a.eval o).run Try.prog w = .ok (.value (.int .i64 (D.length : Int))) w := by
    have : execOp a.eval o = (do pure (.value (← Builtin.len_ #[t] o.type #[a.eval x])) : Sem Next) := by
      unfold execOp
      rw [ho]
      simp [resolve, invoke, builtin]
    rw [this, hv]
    refine run_val ?_
    simp [Builtin.len_, run_underlying ht, MapKept.run_getObj_map h2, hl, goInt, Result.andThen]
  exact ⟨_, hrun, rfl, trivial⟩
theorem mt_alloc2 (p : Nat) (t : Nat) {ti : TI} {cells : List At} (ht : tab.ok) (ho : o.op = .alloc t) (h1 : tab t = some ti) (hz : ti.zero.map .v = cells) : MT c S o (.sv (.one (.ptr p 0))) [] (some (p, .box cells t false)) := hz ▸ mt_alloc p ht ho h1
end
end Go.Proofs.Ytiinkohfldopbaa

/- Where the first element stands that is so. No condition. -/
namespace Go.Proofs.Ytiinkohfldopbaa
open Go.RowKit
set_option linter.unusedSimpArgs false
set_option linter.unusedVariables false
set_option maxRecDepth 100000

def idxTo {α : Type} (p : α → Bool) (l : List α) : Int := match l.findIdx? p with | some k => k | none => -1
theorem idxTo_nonneg {α : Type} (p : α → Bool) (l : List α) : decide (0 ≤ idxTo p l) = l.any p := by
  unfold idxTo
  cases h : l.findIdx? p with
  | none =>
    rw [List.findIdx?_eq_none_iff] at h
    have : l.any p = false := by
      rw [List.any_eq_false]
      intro x hx
      simp [h x hx]
    rw [this]
    rfl
  | some k =>
    obtain ⟨hk, hp, _⟩ := List.findIdx?_eq_some_iff_getElem.1 h
    have : l.any p = true := List.any_eq_true.2 ⟨_, List.getElem_mem hk, hp⟩
    rw [this]
    simp
theorem idxTo_hit {α : Type} [Inhabited α] {p : α → Bool} {l : List α} {k : Nat} (d : α) (hk : k < l.length) (hp : p (l.getD k d) = true) (hn : ∀ j, j < k → p (l.getD j d) = false) : idxTo p l = k := by
  unfold idxTo
  have : l.findIdx? p = some k := by
    rw [List.findIdx?_eq_some_iff_getElem]
    refine ⟨hk, by simpa [hk] using hp, fun j hj => ?_⟩
    have := hn j hj
    simp [show j < l.length by omega] at this
    simp [this]
  rw [this]
theorem idxTo_miss {α : Type} {p : α → Bool} {l : List α} (d : α) (hn : ∀ j, j < l.length → p (l.getD j d) = false) : idxTo p l = -1 := by
  unfold idxTo
  have : l.findIdx? p = none := by
    rw [List.findIdx?_eq_none_iff]
    intro x hx
    obtain ⟨j, hj, rfl⟩ := List.mem_iff_getElem.1 hx
    have := hn j hj
    simpa [hj] using this
  rw [this]
end Go.Proofs.Ytiinkohfldopbaa

/- Plain laws of library functions that are used again and again. No condition. -/
namespace Go.Proofs.Ytiinkohfldopbaa
open Go.RowKit Go.MapKept
set_option linter.unusedSimpArgs false
set_option linter.unusedVariables false
set_option maxRecDepth 100000

theorem index_plain {α : Type} [Inhabited α] (l : List α) (dom : α → Prop) (φ : α → Bool) (hd : ∀ x ∈ l, dom x) : l.length ≤ 9223372036854775807 → (∃ (Inv : Int → Prop) (mu : Int → Nat), Inv 0 ∧
  ∀ (x8 : Int), Inv x8 → (IfP (decide (x8 < (l.length : Int))) (∃ e, idx l x8 = some e ∧ dom e ∧ IfP (φ e) (x8 = idxTo φ l) (Inv (wr (x8 + 1)) ∧ mu (wr (x8 + 1)) < mu x8)) (-1 = idxTo φ l))) := by
  intro hl
  refine ⟨fun x => ∃ k : Nat, x = k ∧ k ≤ l.length ∧ ∀ j e, j < k → l[j]? = some e → φ e = false, fun x => l.length - x.toNat, ⟨0, rfl, Nat.zero_le _, fun j e hj => absurd hj (Nat.not_lt_zero _)⟩, ?_⟩
  rintro x ⟨k, rfl, hk, hp⟩
  refine ⟨fun hb => ?_, fun hb => ?_⟩
  · have hlt : k < l.length := by simpa using hb
    refine ⟨l[k], by simp [idx, hlt], hd _ (List.getElem_mem hlt), fun h1 => ?_, fun h1 => ?_⟩
    · exact (idxTo_hit l[k] hlt (by simpa [hlt] using h1) (fun j hj => by
        have hjl : j < l.length := by omega
        simpa [hjl] using hp j _ hj (List.getElem?_eq_getElem hjl))).symm
    · rw [wr_in (by omega) (by omega)]
      refine ⟨⟨k + 1, by omega, by omega, fun j e hj he => ?_⟩, by simp only; omega⟩
      by_cases ej : j = k
      · subst ej
        simp [hlt] at he
        subst he
        exact h1
      · exact hp j e (by omega) he
  · have e : k = l.length := by simp at hb; omega
    by_cases h0 : l = []
    · subst h0; rfl
    · have h1 : 0 < l.length := List.length_pos_iff.2 h0
      exact (idxTo_miss (l[0]) fun j hj => by simpa [hj] using hp j _ (by omega) (List.getElem?_eq_getElem hj)).symm
end Go.Proofs.Ytiinkohfldopbaa

/- Symbolic states of a walk: contracts whose result holds a new piece of memory, the caller's own. No condition. -/
namespace Go.Proofs.Ytiinkohfldopbaa
open Go.RowKit Go.MapKept
set_option linter.unusedSimpArgs false
set_option linter.unusedVariables false
set_option maxRecDepth 100000
set_option linter.unusedSectionVars false

/-- a contract: a result that is so, within which .own 0 is a new piece of memory, the caller's own -/
def CtS {β : Type} (f : Nat) (ins : List SC) (M : List Item) (post : β → Prop) (out : β → SC) (itf : β → Item) : Prop := ∀ (w : World) (g : Gh) (hs : Nat → Value) (args : List Value), Pers g w → okArgs g hs ins args → (∀ (i : Nat) (it : Item), M[i]? = some it → fzOk g hs (hs i) it) →
  Calls Try.prog f args.toArray w (fun en w' => ∃ v g' r h', en = .returned v ∧ post r ∧ Base (cfg0 0 w g) w' g' ∧ (out r).ok g' (fun _ => h') v ∧ (itf r).ok g' hs0 w' h' ∧ ∀ b, blk h' = some b → b < w'.heap.size ∧ w.heap.size ≤ b ∧ g' b = none)
theorem CtS.fun {β : Type} {f : Nat} {ins : List SC} {M : List Item} {r : β} {out : β → SC} {itf : β → Item} (h : CtS f ins M (fun x => x = r) out itf) : CtS f ins M (fun (_ : Unit) => True) (fun _ => out r) (fun _ => itf r) := fun w g hs args h1 h2 h3 =>
  (h w g hs args h1 h2 h3).mono fun e w' ⟨v, g', r', h', e1, e2, e3⟩ => ⟨v, g', (), h', e1, trivial, by subst e2; exact e3⟩
def RetS {β : Type} (c : Cfg) (rs : Array ResultVar) (post : β → Prop) (out : β → SC) (itf : β → Item) : Po := fun a w => a.defers = [] ∧ ∃ v g' r h', (resR rs a.tmps).run Try.prog w = .ok v w ∧ post r ∧ Base c w g' ∧ (out r).ok g' (fun _ => h') v ∧ (itf r).ok g' hs0 w h' ∧ ∀ b, blk h' = some b → b < w.heap.size ∧ c.w0.heap.size ≤ b ∧ g' b = none
section
variable {c : Cfg} {S S1 : St} {a : Act} {w : World} {g : Gh} {hs : Nat → Value} {tab : Tab} {o : Oper}
theorem CtS.body {β : Type} {post : β → Prop} {out : β → SC} {itf : β → Item} {f : Nat} {fn : Func} {code : Code} {n : Nat} {rs : Array ResultVar} {ins : List SC} {M : List Item} (hf : Try.prog.funcs[f]? = some fn) (hb : fn.body = some code) (hn : fn.ntmps = n) (hr : fn.results = rs)
    (hl : Nat.ble ins.length n = true) (h : ∀ c : Cfg, c.n = n → c.may = (fun _ => False) → En c ⟨enumF 0 ins, M⟩ (cwp code (PQ (RetS c rs post out itf) [] (RetS c rs post out itf)))) : CtS f ins M post out itf := fun w g hs args hp ha hm => by
  have hl := Nat.le_of_ble_eq_true hl
  have hla := okArgs_length ha
  refine calls_of_wp hf hb (Code.wp_mono (fun ex a w' q => ?_) (h (cfg0 n w g) rfl rfl { tmps := args.toArray ++ Array.replicate (fn.ntmps - args.toArray.size) undef, defers := [] } w ⟨g, hs, ?_⟩))
  · have key : RetS (cfg0 n w g) rs post out itf a w' → a.defers = [] ∧ ∃ v, (results fn a.tmps).run Try.prog w' = .ok v w' ∧ ∃ v' g' r' h', Ending.returned v = .returned v' ∧ post r' ∧ Base (cfg0 0 w g) w' g' ∧ (out r').ok g' (fun _ => h') v' ∧ (itf r').ok g' hs0 w' h' ∧ ∀ b, blk h' = some b → b < w'.heap.size ∧ w.heap.size ≤ b ∧ g' b = none := fun ⟨h1, v, g', r', h', h2, h4, h5, h6, h7, h8⟩ => by
      refine ⟨h1, v, ?_, v, g', r', h', rfl, h4, ⟨h5.os, h5.tape, h5.output, h5.grows, h5.frame, h5.ghle, h5.ghnew, h5.pers⟩, h6, h7, h8⟩
      subst hr
      exact h2
    cases ex <;> first | exact key q | exact (q : False).elim
  · refine ⟨?_, rfl, ⟨rfl, rfl, rfl, Nat.le_refl _, fun _ _ _ => rfl, Gh.le.refl g, fun b o e => .inl e, hp⟩, fun t x hx => ?_, fun i it hi => ?_, ?_, ?_⟩
    · simp [cfg0, hn]
      omega
    · obtain ⟨u, h1, _, h3⟩ := enumF_ok ha hx
      simp only [Nat.sub_zero] at h1
      have hlt := (List.getElem?_eq_some_iff.1 h1).1
      have : (args.toArray ++ Array.replicate (fn.ntmps - args.toArray.size) undef).getD t undef = u := by
        rw [Array.getD_eq_getD_getElem?, Array.getElem?_append_left (by simpa using hlt)]
        simp [h1]
      rw [this]
      exact h3
    · have := hm i it hi
      cases it <;> try exact this.elim
      rename_i cells ty fz
      cases fz
      · exact this.elim
      · obtain ⟨b, cs, h1, h2, h3⟩ := this
        exact ⟨b, cs, h1, h2, hp _ _ h3, fun _ => h3⟩
    · intro i j it jt _ hi _ hfi
      have := hm i it hi
      cases it <;> try exact this.elim
      rename_i cells ty fz
      cases fz
      · exact this.elim
      · cases hfi
    · intro i it hi hnn b hb
      clear hnn
      have := hm i it hi
      cases it <;> try exact this.elim
      rename_i cells ty fz
      cases fz
      · exact this.elim
      · obtain ⟨b', cs, h1, h2, h3⟩ := this
        rw [h1] at hb
        cases hb
        exact ⟨hp.lt h3, fun h => by cases h⟩
theorem Ok'.boxTurn {i j ty : Nat} {cells : List At} {fz : Bool} {x y : At} (hk : Ok' c S a w g hs) (hm : S.M[i]? = some (.box cells ty fz)) (hj : cells[j]? = some x) (hx : ∀ u, x.ok g hs u → y.ok g hs u) : Ok' c ⟨S.F, S.M.set i (.box (cells.set j y) ty fz)⟩ a w g hs := by
  have hlt := (List.getElem?_eq_some_iff.1 hm).1
  have hold : ∀ (k : Nat) (it : Item), (S.M.set i (.box (cells.set j y) ty fz))[k]? = some it → ∃ jt, S.M[k]? = some jt ∧ jt.fz = it.fz ∧ (it ≠ .gone → jt ≠ .gone) := fun k it h => by
    rw [List.getElem?_set] at h
    by_cases e : i = k
    · subst e
      rw [if_pos rfl, if_pos hlt] at h
      cases h
      exact ⟨_, hm, rfl, fun _ h => by cases h⟩
    · rw [if_neg e] at h
      exact ⟨it, h, rfl, fun h => h⟩
  refine ⟨hk.size, hk.defers, hk.base, hk.slots, fun k it h => ?_, fun k l it jt hkl h1 h2 h3 h4 => ?_, fun k it h hn => ?_⟩
  · rw [List.getElem?_set] at h
    by_cases e : i = k
    · subst e
      rw [if_pos rfl, if_pos hlt] at h
      cases h
      obtain ⟨b, cs, e1, e2, e3, e4⟩ := hk.items i _ hm
      exact ⟨b, cs, e1, oks_turn hx j hj e2, e3, e4⟩
    · rw [if_neg e] at h
      exact hk.items k it h
  · obtain ⟨kt, k1, k2, _⟩ := hold k it h1
    obtain ⟨lt, l1, _, l3⟩ := hold l jt h2
    exact hk.sep k l kt lt hkl k1 l1 (k2.trans h3) (l3 h4)
  · obtain ⟨kt, k1, k2, k3⟩ := hold k it h
    intro b hb
    obtain ⟨m1, m2⟩ := hk.mine k kt k1 (k3 hn) b hb
    exact ⟨m1, fun hf => m2 (k2.trans hf)⟩
/-- a function value in a variable, as what it tells -/
theorem En.boxTurn {N : Po} {ty : Nat} {cells : List At} {fz : Bool} {x : At} (y : At) (i j : Nat) (hm : S.M[i]? = some (.box cells ty fz)) (hj : cells[j]? = some x) (hx : ∀ a w g hs, Ok' c S a w g hs → ∀ u, x.ok g hs u → y.ok g hs u) (h : En c ⟨S.F, S.M.set i (.box (cells.set j y) ty fz)⟩ N) : En c S N := fun a w ⟨g, hs, hk⟩ =>
  h a w ⟨g, hs, hk.boxTurn hm hj (hx a w g hs hk)⟩
theorem WL.boxTurn {N : Po} {ops : Array Oper} {L : List Oper} {ty : Nat} {cells : List At} {fz : Bool} {x : At} (y : At) (i j : Nat) (hm : S.M[i]? = some (.box cells ty fz)) (hj : cells[j]? = some x) (hx : ∀ a w g hs, Ok' c S a w g hs → ∀ u, x.ok g hs u → y.ok g hs u) (h : WL c ops L ⟨S.F, S.M.set i (.box (cells.set j y) ty fz)⟩ N) : WL c ops L S N := fun a w ⟨g, hs, hk⟩ =>
  h a w ⟨g, hs, hk.boxTurn hm hj (hx a w g hs hk)⟩
theorem fv_at {r : Rd} {x : At} (h : ∀ a w g hs, Ok' c S a w g hs → ∀ u, SC.ok g hs (.sv (.one x)) u → SC.ok g hs (.sv (.one (.rd r))) u) : ∀ a w g hs, Ok' c S a w g hs → ∀ u, x.ok g hs u → At.ok g hs (.rd r) u := h
/-- the address of an element of an array -/
theorem val_indexP (i off q : Nat) {t m el sz : Nat} {te : TI} {x ix : Operand} {ik : IntKind} {k : Int} (ht : tab.ok) (ho : o.op = .indexAddr t x ix) (hu : Try.prog.underlying t = some (.array m el)) (h3 : tab el = some te) (h4 : te.size = sz) (hx : evX S.F x = some (.sv (.one (.ptr i off)))) (hi : evK S.F ix = some (.int ik k)) (h0 : 0 ≤ k ∧ k < (m : Int)) (hq : off + k.toNat * sz = q) : Val c S o (.sv (.one (.ptr i q))) := fun a w g hs h => by
  subst hq
  obtain ⟨⟨b, hb, hv⟩, _⟩ := evX_ok h hx
  refine ⟨.pointer (some ⟨b, off + k.toNat * sz, none⟩), ?_, ⟨b, hb, rfl⟩, trivial⟩
  have : (execOp a.eval o) = (do pure (.value (← Instr.indexAt t (a.eval x) (a.eval ix))) : Sem Next) := by unfold execOp; rw [ho]
  rw [this]
  refine run_val ?_
  have hv' : a.eval x = .pointer (some ⟨b, off, none⟩) := hv
  simp only [Instr.indexAt, evK_ok h hi, asIntOf, hv', Instr.sureAddr, Sem.run_bind, Sem.run_pure, Result.andThen_ok, run_underlying hu, if_pos h0, (ht el te h3).run_size, h4, svs_add]
end
end Go.Proofs.Ytiinkohfldopbaa

/- What is to be known of types; structs as plain data. No condition. -/
namespace Go.Proofs.Ytiinkohfldopbaa
open Go.RowKit Go.MapKept
set_option linter.unusedSimpArgs false
set_option linter.unusedVariables false
set_option maxRecDepth 100000

structure ApiDet where
  fLetters : Int
  fStart : Int
  fNext : (List (List Int))
  fMark : (List Int)
deriving DecidableEq, Inhabited
abbrev ApiDet.sv (x : ApiDet) : SV := .agg [I x.fLetters, I x.fStart, LS (lsT intT) x.fNext, LS intT x.fMark]
abbrev ApiDet.ty : Ty ApiDet := ⟨4, ApiDet.sv⟩
structure ApiTrans where
  fIn : Int
  fOut : Int
  fStart : Int
  fFirst : (List Int)
  fNext : (List (List Int))
  fSays : (List (List (List Int)))
  fLast : (List (List Int))
deriving DecidableEq, Inhabited
abbrev ApiTrans.sv (x : ApiTrans) : SV := .agg [I x.fIn, I x.fOut, I x.fStart, LS intT x.fFirst, LS (lsT intT) x.fNext, LS (lsT (lsT intT)) x.fSays, LS (lsT intT) x.fLast]
abbrev ApiTrans.ty : Ty ApiTrans := ⟨7, ApiTrans.sv⟩
structure St46 where
  fE0 : Int
  fE1 : Int
deriving DecidableEq, Inhabited
abbrev St46.sv (x : St46) : SV := .agg [I x.fE0, I x.fE1]
abbrev St46.ty : Ty St46 := ⟨2, St46.sv⟩
structure ApiTwoWay where
  fLetters : Int
  fStart : Int
  fNext : (List (List St46))
  fMark : (List Int)
deriving DecidableEq, Inhabited
abbrev ApiTwoWay.sv (x : ApiTwoWay) : SV := .agg [I x.fLetters, I x.fStart, LS (lsT St46.ty) x.fNext, LS intT x.fMark]
abbrev ApiTwoWay.ty : Ty ApiTwoWay := ⟨4, ApiTwoWay.sv⟩
structure ApiArrow where
  fFrom : Int
  fLetter : Int
  fTo : Int
deriving DecidableEq, Inhabited
abbrev ApiArrow.sv (x : ApiArrow) : SV := .agg [I x.fFrom, I x.fLetter, I x.fTo]
abbrev ApiArrow.ty : Ty ApiArrow := ⟨3, ApiArrow.sv⟩
structure ApiGraph where
  fLetters : Int
  fPlaces : Int
  fArrows : (List ApiArrow)
deriving DecidableEq, Inhabited
abbrev ApiGraph.sv (x : ApiGraph) : SV := .agg [I x.fLetters, I x.fPlaces, LS ApiArrow.ty x.fArrows]
abbrev ApiGraph.ty : Ty ApiGraph := ⟨3, ApiGraph.sv⟩
structure ApiFault where
  fCode : Int
  fAt : Int
deriving DecidableEq, Inhabited
abbrev ApiFault.sv (x : ApiFault) : SV := .agg [I x.fCode, I x.fAt]
abbrev ApiFault.ty : Ty ApiFault := ⟨2, ApiFault.sv⟩
structure ApiMake where
  fFrom : Int
  fTo : (List Int)
deriving DecidableEq, Inhabited
abbrev ApiMake.sv (x : ApiMake) : SV := .agg [I x.fFrom, LS intT x.fTo]
abbrev ApiMake.ty : Ty ApiMake := ⟨2, ApiMake.sv⟩
structure ApiGrammar where
  fLetters : Int
  fNames : Int
  fMakes : (List ApiMake)
deriving DecidableEq, Inhabited
abbrev ApiGrammar.sv (x : ApiGrammar) : SV := .agg [I x.fLetters, I x.fNames, LS ApiMake.ty x.fMakes]
abbrev ApiGrammar.ty : Ty ApiGrammar := ⟨3, ApiGrammar.sv⟩
structure DetCouple where
  fE0 : Int
  fE1 : Int
deriving DecidableEq, Inhabited
abbrev DetCouple.sv (x : DetCouple) : SV := .agg [I x.fE0, I x.fE1]
abbrev DetCouple.ty : Ty DetCouple := ⟨2, DetCouple.sv⟩
structure TransPair where
  fE0 : Int
  fE1 : Int
deriving DecidableEq, Inhabited
abbrev TransPair.sv (x : TransPair) : SV := .agg [I x.fE0, I x.fE1]
abbrev TransPair.ty : Ty TransPair := ⟨2, TransPair.sv⟩
structure TwoTable where
  fE0 : Int
  fE1 : Int
  fE2 : Int
  fE3 : Int
  fE4 : Int
deriving DecidableEq, Inhabited
abbrev TwoTable.sv (x : TwoTable) : SV := .agg [I x.fE0, I x.fE1, I x.fE2, I x.fE3, I x.fE4]
abbrev TwoTable.ty : Ty TwoTable := ⟨5, TwoTable.sv⟩
structure CodeRest where
  fW : (List Int)
  fA : (List Int)
  fB : (List Int)
deriving DecidableEq, Inhabited
abbrev CodeRest.sv (x : CodeRest) : SV := .agg [LS intT x.fW, LS intT x.fA, LS intT x.fB]
abbrev CodeRest.ty : Ty CodeRest := ⟨3, CodeRest.sv⟩
structure RegularPlaces where
  fLetters : (List Int)
  fNext : (List (List Int))
deriving DecidableEq, Inhabited
abbrev RegularPlaces.sv (x : RegularPlaces) : SV := .agg [LS intT x.fLetters, LS (lsT intT) x.fNext]
abbrev RegularPlaces.ty : Ty RegularPlaces := ⟨2, RegularPlaces.sv⟩
structure FixWrong where
  fFault : ApiFault
deriving DecidableEq, Inhabited
abbrev FixWrong.sv (x : FixWrong) : SV := .agg [I x.fFault.fCode, I x.fFault.fAt]
abbrev FixWrong.ty : Ty FixWrong := ⟨2, FixWrong.sv⟩
structure FixName where
  fSign : Int
  fTurned : Bool
deriving DecidableEq, Inhabited
abbrev FixName.sv (x : FixName) : SV := .agg [.v (.int .u8 x.fSign), B x.fTurned]
abbrev FixName.ty : Ty FixName := ⟨2, FixName.sv⟩
structure FixReader where
  fText : ByteArray
  fI : Int
  fDeep : Int
  fCount : Int
  fAround : (List FixName)
deriving DecidableEq, Inhabited
abbrev FixReader.sv (x : FixReader) : SV := .agg [.v (.string x.fText), I x.fI, I x.fDeep, I x.fCount, LS FixName.ty x.fAround]
abbrev FixReader.ty : Ty FixReader := ⟨5, FixReader.sv⟩
structure BranchWrong where
  fFault : ApiFault
deriving DecidableEq, Inhabited
abbrev BranchWrong.sv (x : BranchWrong) : SV := .agg [I x.fFault.fCode, I x.fFault.fAt]
abbrev BranchWrong.ty : Ty BranchWrong := ⟨2, BranchWrong.sv⟩
structure BranchReader where
  fText : ByteArray
  fI : Int
  fDeep : Int
  fCount : Int
deriving DecidableEq, Inhabited
abbrev BranchReader.sv (x : BranchReader) : SV := .agg [.v (.string x.fText), I x.fI, I x.fDeep, I x.fCount]
abbrev BranchReader.ty : Ty BranchReader := ⟨4, BranchReader.sv⟩
structure BranchWalker where
  fGraph : ApiGraph
  fNext : (List (List Int))
deriving DecidableEq, Inhabited
abbrev BranchWalker.sv (x : BranchWalker) : SV := .agg [I x.fGraph.fLetters, I x.fGraph.fPlaces, LS ApiArrow.ty x.fGraph.fArrows, LS (lsT intT) x.fNext]
abbrev BranchWalker.ty : Ty BranchWalker := ⟨4, BranchWalker.sv⟩
structure RegularStop where
  fFault : ApiFault
deriving DecidableEq, Inhabited
abbrev RegularStop.sv (x : RegularStop) : SV := .agg [I x.fFault.fCode, I x.fFault.fAt]
abbrev RegularStop.ty : Ty RegularStop := ⟨2, RegularStop.sv⟩
structure RegularReader where
  fText : ByteArray
  fI : Int
  fDeep : Int
deriving DecidableEq, Inhabited
abbrev RegularReader.sv (x : RegularReader) : SV := .agg [.v (.string x.fText), I x.fI, I x.fDeep]
abbrev RegularReader.ty : Ty RegularReader := ⟨3, RegularReader.sv⟩
structure RegularEnds where
  fEmpty : Bool
  fFirst : (List Int)
  fLast : (List Int)
deriving DecidableEq, Inhabited
abbrev RegularEnds.sv (x : RegularEnds) : SV := .agg [B x.fEmpty, LS intT x.fFirst, LS intT x.fLast]
abbrev RegularEnds.ty : Ty RegularEnds := ⟨3, RegularEnds.sv⟩
structure St252 where
  fE0 : Int
  fE1 : Int
  fE2 : Int
deriving DecidableEq, Inhabited
abbrev St252.sv (x : St252) : SV := .agg [I x.fE0, I x.fE1, I x.fE2]
abbrev St252.ty : Ty St252 := ⟨3, St252.sv⟩
structure GramChoice where
  fMake : Int
  fEnds : (List Int)
deriving DecidableEq, Inhabited
abbrev GramChoice.sv (x : GramChoice) : SV := .agg [I x.fMake, LS intT x.fEnds]
abbrev GramChoice.ty : Ty GramChoice := ⟨2, GramChoice.sv⟩
structure DetSplit where
  fOwn : Int
  fNext : ByteArray
deriving DecidableEq, Inhabited
abbrev DetSplit.sv (x : DetSplit) : SV := .agg [I x.fOwn, .v (.string x.fNext)]
abbrev DetSplit.ty : Ty DetSplit := ⟨2, DetSplit.sv⟩
def tabs : List (Nat × TI) := [
  (3, ⟨false, false, 1, [.int .i64 0], [], some .i64, none, 8⟩),
  (4, ⟨false, false, 1, [.bool false], [], none, none, 1⟩),
  (5, ⟨false, false, 1, [.int .u8 0], [], some .u8, none, 1⟩),
  (21, ⟨false, false, 1, [.int .i32 0], [], some .i32, none, 4⟩),
  (22, ⟨false, false, 1, [.slice none 0 0], [], none, some 23, 24⟩),
  (23, ⟨false, false, 1, [.slice none 0 0], [], none, some 3, 24⟩),
  (25, ⟨true, true, 4, [.int .i64 0, .int .i64 0, .slice none 0 0, .slice none 0 0], [(0, 1, false), (1, 1, false), (2, 1, false), (3, 1, false)], none, none, 64⟩),
  (26, ⟨false, false, 1, [.int .i64 0], [], some .i64, none, 8⟩),
  (31, ⟨false, false, 1, [.slice none 0 0], [], none, some 22, 24⟩),
  (33, ⟨true, true, 7, [.int .i64 0, .int .i64 0, .int .i64 0, .slice none 0 0, .slice none 0 0, .slice none 0 0, .slice none 0 0], [(0, 1, false), (1, 1, false), (2, 1, false), (3, 1, false), (4, 1, false), (5, 1, false), (6, 1, false)], none, none, 120⟩),
  (43, ⟨false, false, 1, [.slice none 0 0], [], none, some 47, 24⟩),
  (45, ⟨true, true, 4, [.int .i64 0, .int .i64 0, .slice none 0 0, .slice none 0 0], [(0, 1, false), (1, 1, false), (2, 1, false), (3, 1, false)], none, none, 64⟩),
  (46, ⟨true, false, 2, [.int .i64 0, .int .i64 0], [(0, 1, false), (1, 1, false)], none, none, 16⟩),
  (47, ⟨false, false, 1, [.slice none 0 0], [], none, some 46, 24⟩),
  (61, ⟨false, false, 1, [.slice none 0 0], [], none, some 67, 24⟩),
  (63, ⟨true, true, 3, [.int .i64 0, .int .i64 0, .slice none 0 0], [(0, 1, false), (1, 1, false), (2, 1, false)], none, none, 40⟩),
  (67, ⟨true, true, 3, [.int .i64 0, .int .i64 0, .int .i64 0], [(0, 1, false), (1, 1, false), (2, 1, false)], none, none, 24⟩),
  (68, ⟨false, false, 1, [.slice none 0 0], [], none, some 4, 24⟩),
  (73, ⟨true, true, 2, [.int .i64 0, .int .i64 0], [(0, 1, false), (1, 1, false)], none, none, 16⟩),
  (75, ⟨false, false, 1, [.slice none 0 0], [], none, some 9, 24⟩),
  (81, ⟨false, false, 1, [.slice none 0 0], [], none, some 85, 24⟩),
  (83, ⟨true, true, 3, [.int .i64 0, .int .i64 0, .slice none 0 0], [(0, 1, false), (1, 1, false), (2, 1, false)], none, none, 40⟩),
  (85, ⟨true, true, 2, [.int .i64 0, .slice none 0 0], [(0, 1, false), (1, 1, false)], none, none, 32⟩),
  (97, ⟨false, false, 1, [.nilFunc], [], none, none, 8⟩),
  (102, ⟨true, false, 2, [.int .i64 0, .int .i64 0], [(0, 1, false), (1, 1, false)], none, none, 16⟩),
  (107, ⟨false, false, 1, [.slice none 0 0], [], none, some 33, 24⟩),
  (111, ⟨false, false, 1, [.map none], [], none, none, 8⟩),
  (113, ⟨true, false, 2, [.int .i64 0, .int .i64 0], [(0, 1, false), (1, 1, false)], none, none, 16⟩),
  (120, ⟨true, false, 5, [.int .i64 0, .int .i64 0, .int .i64 0, .int .i64 0, .int .i64 0], [(0, 1, false), (1, 1, false), (2, 1, false), (3, 1, false), (4, 1, false)], none, none, 40⟩),
  (121, ⟨false, false, 1, [.nilFunc], [], none, none, 8⟩),
  (127, ⟨false, false, 1, [.map none], [], none, none, 8⟩),
  (128, ⟨false, false, 1, [.slice none 0 0], [], none, some 130, 24⟩),
  (130, ⟨true, true, 3, [.slice none 0 0, .slice none 0 0, .slice none 0 0], [(0, 1, false), (1, 1, false), (2, 1, false)], none, none, 72⟩),
  (134, ⟨false, false, 1, [.nilFunc], [], none, none, 8⟩),
  (138, ⟨false, false, 1, [.pointer none], [], none, none, 8⟩),
  (143, ⟨false, false, 1, [.pointer none], [], none, none, 8⟩),
  (146, ⟨false, false, 1, [.pointer none], [], none, none, 8⟩),
  (149, ⟨false, false, 1, [.pointer none], [], none, none, 8⟩),
  (154, ⟨false, false, 1, [.pointer none], [], none, none, 8⟩),
  (158, ⟨true, true, 2, [.slice none 0 0, .slice none 0 0], [(0, 1, false), (1, 1, false)], none, none, 48⟩),
  (171, ⟨false, false, 1, [.slice none 0 0], [], none, some 172, 24⟩),
  (172, ⟨false, false, 1, [.slice none 0 0], [], none, some 127, 24⟩),
  (173, ⟨false, false, 1, [.nilFunc], [], none, none, 8⟩),
  (177, ⟨false, false, 1, [.slice none 0 0], [], none, some 25, 24⟩),
  (178, ⟨false, false, 1, [.map none], [], none, none, 8⟩),
  (179, ⟨false, false, 1, [.slice none 0 0], [], none, some 102, 24⟩),
  (183, ⟨false, false, 1, [.map none], [], none, none, 8⟩),
  (191, ⟨false, false, 1, [.map none], [], none, none, 8⟩),
  (192, ⟨false, false, 1, [.slice none 0 0], [], none, some 120, 24⟩),
  (193, ⟨false, false, 1, [.slice none 0 0], [], none, some 5, 24⟩),
  (194, ⟨false, false, 1, [.int .u64 0], [], some .u64, none, 8⟩),
  (200, ⟨false, false, 1, [.nilFunc], [], none, none, 8⟩),
  (204, ⟨true, true, 2, [.int .i64 0, .int .i64 0], [(0, 2, true)], none, none, 16⟩),
  (205, ⟨false, false, 1, [.pointer none], [], none, none, 8⟩),
  (206, ⟨false, false, 1, [.slice none 0 0], [], none, some 296, 24⟩),
  (208, ⟨true, true, 5, [.string ByteArray.empty, .int .i64 0, .int .i64 0, .int .i64 0, .slice none 0 0], [(0, 1, false), (1, 1, false), (2, 1, false), (3, 1, false), (4, 1, false)], none, none, 64⟩),
  (211, ⟨false, false, 1, [.slice none 0 0], [], none, some 68, 24⟩),
  (212, ⟨false, false, 1, [.slice none 0 0], [], none, some 138, 24⟩),
  (214, ⟨true, true, 3, [.int .u8 0, .int .i64 0, .slice none 0 0], [(0, 1, false), (1, 1, false), (2, 1, false)], none, none, 40⟩),
  (218, ⟨true, true, 2, [.int .i64 0, .int .i64 0], [(0, 2, true)], none, none, 16⟩),
  (221, ⟨true, true, 4, [.string ByteArray.empty, .int .i64 0, .int .i64 0, .int .i64 0], [(0, 1, false), (1, 1, false), (2, 1, false), (3, 1, false)], none, none, 40⟩),
  (224, ⟨true, true, 4, [.int .i64 0, .int .i64 0, .slice none 0 0, .slice none 0 0], [(0, 3, true), (3, 1, false)], none, none, 64⟩),
  (226, ⟨false, false, 1, [.slice none 0 0], [], none, some 143, 24⟩),
  (228, ⟨true, true, 4, [.int .u8 0, .bool false, .int .i64 0, .slice none 0 0], [(0, 1, false), (1, 1, false), (2, 1, false), (3, 1, false)], none, none, 40⟩),
  (234, ⟨true, true, 2, [.int .i64 0, .int .i64 0], [(0, 2, true)], none, none, 16⟩),
  (237, ⟨true, true, 3, [.string ByteArray.empty, .int .i64 0, .int .i64 0], [(0, 1, false), (1, 1, false), (2, 1, false)], none, none, 32⟩),
  (241, ⟨true, true, 3, [.bool false, .slice none 0 0, .slice none 0 0], [(0, 1, false), (1, 1, false), (2, 1, false)], none, none, 56⟩),
  (243, ⟨false, false, 1, [.map none], [], none, none, 8⟩),
  (247, ⟨false, false, 1, [.pointer none], [], none, none, 8⟩),
  (248, ⟨false, false, 1, [.map none], [], none, none, 8⟩),
  (249, ⟨false, false, 1, [.map none], [], none, none, 8⟩),
  (251, ⟨true, true, 9, [.int .i64 0, .int .i64 0, .slice none 0 0, .int .i64 0, .int .i64 0, .slice none 0 0, .slice none 0 0, .map none, .map none], [(0, 3, true), (3, 4, true), (7, 1, false), (8, 1, false)], none, none, 120⟩),
  (252, ⟨true, false, 3, [.int .i64 0, .int .i64 0, .int .i64 0], [(0, 1, false), (1, 1, false), (2, 1, false)], none, none, 24⟩),
  (253, ⟨false, false, 1, [.map none], [], none, none, 8⟩),
  (255, ⟨true, true, 6, [.int .i64 0, .int .i64 0, .slice none 0 0, .slice none 0 0, .map none, .map none], [(0, 3, true), (3, 1, false), (4, 1, false), (5, 1, false)], none, none, 80⟩),
  (259, ⟨true, true, 2, [.int .i64 0, .slice none 0 0], [(0, 1, false), (1, 1, false)], none, none, 32⟩),
  (260, ⟨false, false, 1, [.map none], [], none, none, 8⟩),
  (262, ⟨true, true, 2, [.int .i64 0, .string ByteArray.empty], [(0, 1, false), (1, 1, false)], none, none, 24⟩),
  (275, ⟨false, false, 1, [.slice none 0 0], [], none, some 149, 24⟩),
  (277, ⟨true, true, 3, [.int .i64 0, .int .i64 0, .slice none 0 0], [(0, 1, false), (1, 1, false), (2, 1, false)], none, none, 40⟩),
  (285, ⟨false, false, 1, [.int .u32 0], [], some .u32, none, 4⟩),
  (288, ⟨false, false, 1, [.int .u64 0], [], some .u64, none, 8⟩),
  (296, ⟨true, true, 2, [.int .u8 0, .bool false], [(0, 1, false), (1, 1, false)], none, none, 2⟩)]
def tab : Tab := tabL tabs
theorem ti3 : TI.ok 3 ⟨false, false, 1, [.int .i64 0], [], some .i64, none, 8⟩ := ⟨by kernel_rfl, by kernel_rfl, by kernel_rfl, by kernel_rfl, by kernel_rfl, by kernel_rfl, by rfl, by rfl, by decide⟩
theorem ti4 : TI.ok 4 ⟨false, false, 1, [.bool false], [], none, none, 1⟩ := ⟨by kernel_rfl, by kernel_rfl, by kernel_rfl, by kernel_rfl, by kernel_rfl, by kernel_rfl, by rfl, by rfl, by decide⟩
theorem ti5 : TI.ok 5 ⟨false, false, 1, [.int .u8 0], [], some .u8, none, 1⟩ := ⟨by kernel_rfl, by kernel_rfl, by kernel_rfl, by kernel_rfl, by kernel_rfl, by kernel_rfl, by rfl, by rfl, by decide⟩
theorem ti21 : TI.ok 21 ⟨false, false, 1, [.int .i32 0], [], some .i32, none, 4⟩ := ⟨by kernel_rfl, by kernel_rfl, by kernel_rfl, by kernel_rfl, by kernel_rfl, by kernel_rfl, by rfl, by rfl, by decide⟩
theorem ti22 : TI.ok 22 ⟨false, false, 1, [.slice none 0 0], [], none, some 23, 24⟩ := ⟨by kernel_rfl, by kernel_rfl, by kernel_rfl, by kernel_rfl, by kernel_rfl, by kernel_rfl, by rfl, by rfl, by decide⟩
theorem ti23 : TI.ok 23 ⟨false, false, 1, [.slice none 0 0], [], none, some 3, 24⟩ := ⟨by kernel_rfl, by kernel_rfl, by kernel_rfl, by kernel_rfl, by kernel_rfl, by kernel_rfl, by rfl, by rfl, by decide⟩
theorem ti25 : TI.ok 25 ⟨true, true, 4, [.int .i64 0, .int .i64 0, .slice none 0 0, .slice none 0 0], [(0, 1, false), (1, 1, false), (2, 1, false), (3, 1, false)], none, none, 64⟩ := ⟨by kernel_rfl, by kernel_rfl, by kernel_rfl, by kernel_rfl, by kernel_rfl, by kernel_rfl, by rfl, by rfl, by decide⟩
theorem ti26 : TI.ok 26 ⟨false, false, 1, [.int .i64 0], [], some .i64, none, 8⟩ := ⟨by kernel_rfl, by kernel_rfl, by kernel_rfl, by kernel_rfl, by kernel_rfl, by kernel_rfl, by rfl, by rfl, by decide⟩
theorem ti31 : TI.ok 31 ⟨false, false, 1, [.slice none 0 0], [], none, some 22, 24⟩ := ⟨by kernel_rfl, by kernel_rfl, by kernel_rfl, by kernel_rfl, by kernel_rfl, by kernel_rfl, by rfl, by rfl, by decide⟩
theorem ti33 : TI.ok 33 ⟨true, true, 7, [.int .i64 0, .int .i64 0, .int .i64 0, .slice none 0 0, .slice none 0 0, .slice none 0 0, .slice none 0 0], [(0, 1, false), (1, 1, false), (2, 1, false), (3, 1, false), (4, 1, false), (5, 1, false), (6, 1, false)], none, none, 120⟩ := ⟨by kernel_rfl, by kernel_rfl, by kernel_rfl, by kernel_rfl, by kernel_rfl, by kernel_rfl, by rfl, by rfl, by decide⟩
theorem ti43 : TI.ok 43 ⟨false, false, 1, [.slice none 0 0], [], none, some 47, 24⟩ := ⟨by kernel_rfl, by kernel_rfl, by kernel_rfl, by kernel_rfl, by kernel_rfl, by kernel_rfl, by rfl, by rfl, by decide⟩
theorem ti45 : TI.ok 45 ⟨true, true, 4, [.int .i64 0, .int .i64 0, .slice none 0 0, .slice none 0 0], [(0, 1, false), (1, 1, false), (2, 1, false), (3, 1, false)], none, none, 64⟩ := ⟨by kernel_rfl, by kernel_rfl, by kernel_rfl, by kernel_rfl, by kernel_rfl, by kernel_rfl, by rfl, by rfl, by decide⟩
theorem ti46 : TI.ok 46 ⟨true, false, 2, [.int .i64 0, .int .i64 0], [(0, 1, false), (1, 1, false)], none, none, 16⟩ := ⟨by kernel_rfl, by kernel_rfl, by kernel_rfl, by kernel_rfl, by kernel_rfl, by kernel_rfl, by rfl, by rfl, by decide⟩
theorem ti47 : TI.ok 47 ⟨false, false, 1, [.slice none 0 0], [], none, some 46, 24⟩ := ⟨by kernel_rfl, by kernel_rfl, by kernel_rfl, by kernel_rfl, by kernel_rfl, by kernel_rfl, by rfl, by rfl, by decide⟩
theorem ti61 : TI.ok 61 ⟨false, false, 1, [.slice none 0 0], [], none, some 67, 24⟩ := ⟨by kernel_rfl, by kernel_rfl, by kernel_rfl, by kernel_rfl, by kernel_rfl, by kernel_rfl, by rfl, by rfl, by decide⟩
theorem ti63 : TI.ok 63 ⟨true, true, 3, [.int .i64 0, .int .i64 0, .slice none 0 0], [(0, 1, false), (1, 1, false), (2, 1, false)], none, none, 40⟩ := ⟨by kernel_rfl, by kernel_rfl, by kernel_rfl, by kernel_rfl, by kernel_rfl, by kernel_rfl, by rfl, by rfl, by decide⟩
theorem ti67 : TI.ok 67 ⟨true, true, 3, [.int .i64 0, .int .i64 0, .int .i64 0], [(0, 1, false), (1, 1, false), (2, 1, false)], none, none, 24⟩ := ⟨by kernel_rfl, by kernel_rfl, by kernel_rfl, by kernel_rfl, by kernel_rfl, by kernel_rfl, by rfl, by rfl, by decide⟩
theorem ti68 : TI.ok 68 ⟨false, false, 1, [.slice none 0 0], [], none, some 4, 24⟩ := ⟨by kernel_rfl, by kernel_rfl, by kernel_rfl, by kernel_rfl, by kernel_rfl, by kernel_rfl, by rfl, by rfl, by decide⟩
theorem ti73 : TI.ok 73 ⟨true, true, 2, [.int .i64 0, .int .i64 0], [(0, 1, false), (1, 1, false)], none, none, 16⟩ := ⟨by kernel_rfl, by kernel_rfl, by kernel_rfl, by kernel_rfl, by kernel_rfl, by kernel_rfl, by rfl, by rfl, by decide⟩
theorem ti75 : TI.ok 75 ⟨false, false, 1, [.slice none 0 0], [], none, some 9, 24⟩ := ⟨by kernel_rfl, by kernel_rfl, by kernel_rfl, by kernel_rfl, by kernel_rfl, by kernel_rfl, by rfl, by rfl, by decide⟩
theorem ti81 : TI.ok 81 ⟨false, false, 1, [.slice none 0 0], [], none, some 85, 24⟩ := ⟨by kernel_rfl, by kernel_rfl, by kernel_rfl, by kernel_rfl, by kernel_rfl, by kernel_rfl, by rfl, by rfl, by decide⟩
theorem ti83 : TI.ok 83 ⟨true, true, 3, [.int .i64 0, .int .i64 0, .slice none 0 0], [(0, 1, false), (1, 1, false), (2, 1, false)], none, none, 40⟩ := ⟨by kernel_rfl, by kernel_rfl, by kernel_rfl, by kernel_rfl, by kernel_rfl, by kernel_rfl, by rfl, by rfl, by decide⟩
theorem ti85 : TI.ok 85 ⟨true, true, 2, [.int .i64 0, .slice none 0 0], [(0, 1, false), (1, 1, false)], none, none, 32⟩ := ⟨by kernel_rfl, by kernel_rfl, by kernel_rfl, by kernel_rfl, by kernel_rfl, by kernel_rfl, by rfl, by rfl, by decide⟩
theorem ti97 : TI.ok 97 ⟨false, false, 1, [.nilFunc], [], none, none, 8⟩ := ⟨by kernel_rfl, by kernel_rfl, by kernel_rfl, by kernel_rfl, by kernel_rfl, by kernel_rfl, by rfl, by rfl, by decide⟩
theorem ti102 : TI.ok 102 ⟨true, false, 2, [.int .i64 0, .int .i64 0], [(0, 1, false), (1, 1, false)], none, none, 16⟩ := ⟨by kernel_rfl, by kernel_rfl, by kernel_rfl, by kernel_rfl, by kernel_rfl, by kernel_rfl, by rfl, by rfl, by decide⟩
theorem ti107 : TI.ok 107 ⟨false, false, 1, [.slice none 0 0], [], none, some 33, 24⟩ := ⟨by kernel_rfl, by kernel_rfl, by kernel_rfl, by kernel_rfl, by kernel_rfl, by kernel_rfl, by rfl, by rfl, by decide⟩
theorem ti111 : TI.ok 111 ⟨false, false, 1, [.map none], [], none, none, 8⟩ := ⟨by kernel_rfl, by kernel_rfl, by kernel_rfl, by kernel_rfl, by kernel_rfl, by kernel_rfl, by rfl, by rfl, by decide⟩
theorem ti113 : TI.ok 113 ⟨true, false, 2, [.int .i64 0, .int .i64 0], [(0, 1, false), (1, 1, false)], none, none, 16⟩ := ⟨by kernel_rfl, by kernel_rfl, by kernel_rfl, by kernel_rfl, by kernel_rfl, by kernel_rfl, by rfl, by rfl, by decide⟩
theorem ti120 : TI.ok 120 ⟨true, false, 5, [.int .i64 0, .int .i64 0, .int .i64 0, .int .i64 0, .int .i64 0], [(0, 1, false), (1, 1, false), (2, 1, false), (3, 1, false), (4, 1, false)], none, none, 40⟩ := ⟨by kernel_rfl, by kernel_rfl, by kernel_rfl, by kernel_rfl, by kernel_rfl, by kernel_rfl, by rfl, by rfl, by decide⟩
theorem ti121 : TI.ok 121 ⟨false, false, 1, [.nilFunc], [], none, none, 8⟩ := ⟨by kernel_rfl, by kernel_rfl, by kernel_rfl, by kernel_rfl, by kernel_rfl, by kernel_rfl, by rfl, by rfl, by decide⟩
theorem ti127 : TI.ok 127 ⟨false, false, 1, [.map none], [], none, none, 8⟩ := ⟨by kernel_rfl, by kernel_rfl, by kernel_rfl, by kernel_rfl, by kernel_rfl, by kernel_rfl, by rfl, by rfl, by decide⟩
theorem ti128 : TI.ok 128 ⟨false, false, 1, [.slice none 0 0], [], none, some 130, 24⟩ := ⟨by kernel_rfl, by kernel_rfl, by kernel_rfl, by kernel_rfl, by kernel_rfl, by kernel_rfl, by rfl, by rfl, by decide⟩
theorem ti130 : TI.ok 130 ⟨true, true, 3, [.slice none 0 0, .slice none 0 0, .slice none 0 0], [(0, 1, false), (1, 1, false), (2, 1, false)], none, none, 72⟩ := ⟨by kernel_rfl, by kernel_rfl, by kernel_rfl, by kernel_rfl, by kernel_rfl, by kernel_rfl, by rfl, by rfl, by decide⟩
theorem ti134 : TI.ok 134 ⟨false, false, 1, [.nilFunc], [], none, none, 8⟩ := ⟨by kernel_rfl, by kernel_rfl, by kernel_rfl, by kernel_rfl, by kernel_rfl, by kernel_rfl, by rfl, by rfl, by decide⟩
theorem ti138 : TI.ok 138 ⟨false, false, 1, [.pointer none], [], none, none, 8⟩ := ⟨by kernel_rfl, by kernel_rfl, by kernel_rfl, by kernel_rfl, by kernel_rfl, by kernel_rfl, by rfl, by rfl, by decide⟩
theorem ti143 : TI.ok 143 ⟨false, false, 1, [.pointer none], [], none, none, 8⟩ := ⟨by kernel_rfl, by kernel_rfl, by kernel_rfl, by kernel_rfl, by kernel_rfl, by kernel_rfl, by rfl, by rfl, by decide⟩
theorem ti146 : TI.ok 146 ⟨false, false, 1, [.pointer none], [], none, none, 8⟩ := ⟨by kernel_rfl, by kernel_rfl, by kernel_rfl, by kernel_rfl, by kernel_rfl, by kernel_rfl, by rfl, by rfl, by decide⟩
theorem ti149 : TI.ok 149 ⟨false, false, 1, [.pointer none], [], none, none, 8⟩ := ⟨by kernel_rfl, by kernel_rfl, by kernel_rfl, by kernel_rfl, by kernel_rfl, by kernel_rfl, by rfl, by rfl, by decide⟩
theorem ti154 : TI.ok 154 ⟨false, false, 1, [.pointer none], [], none, none, 8⟩ := ⟨by kernel_rfl, by kernel_rfl, by kernel_rfl, by kernel_rfl, by kernel_rfl, by kernel_rfl, by rfl, by rfl, by decide⟩
theorem ti158 : TI.ok 158 ⟨true, true, 2, [.slice none 0 0, .slice none 0 0], [(0, 1, false), (1, 1, false)], none, none, 48⟩ := ⟨by kernel_rfl, by kernel_rfl, by kernel_rfl, by kernel_rfl, by kernel_rfl, by kernel_rfl, by rfl, by rfl, by decide⟩
theorem ti171 : TI.ok 171 ⟨false, false, 1, [.slice none 0 0], [], none, some 172, 24⟩ := ⟨by kernel_rfl, by kernel_rfl, by kernel_rfl, by kernel_rfl, by kernel_rfl, by kernel_rfl, by rfl, by rfl, by decide⟩
theorem ti172 : TI.ok 172 ⟨false, false, 1, [.slice none 0 0], [], none, some 127, 24⟩ := ⟨by kernel_rfl, by kernel_rfl, by kernel_rfl, by kernel_rfl, by kernel_rfl, by kernel_rfl, by rfl, by rfl, by decide⟩
theorem ti173 : TI.ok 173 ⟨false, false, 1, [.nilFunc], [], none, none, 8⟩ := ⟨by kernel_rfl, by kernel_rfl, by kernel_rfl, by kernel_rfl, by kernel_rfl, by kernel_rfl, by rfl, by rfl, by decide⟩
theorem ti177 : TI.ok 177 ⟨false, false, 1, [.slice none 0 0], [], none, some 25, 24⟩ := ⟨by kernel_rfl, by kernel_rfl, by kernel_rfl, by kernel_rfl, by kernel_rfl, by kernel_rfl, by rfl, by rfl, by decide⟩
theorem ti178 : TI.ok 178 ⟨false, false, 1, [.map none], [], none, none, 8⟩ := ⟨by kernel_rfl, by kernel_rfl, by kernel_rfl, by kernel_rfl, by kernel_rfl, by kernel_rfl, by rfl, by rfl, by decide⟩
theorem ti179 : TI.ok 179 ⟨false, false, 1, [.slice none 0 0], [], none, some 102, 24⟩ := ⟨by kernel_rfl, by kernel_rfl, by kernel_rfl, by kernel_rfl, by kernel_rfl, by kernel_rfl, by rfl, by rfl, by decide⟩
theorem ti183 : TI.ok 183 ⟨false, false, 1, [.map none], [], none, none, 8⟩ := ⟨by kernel_rfl, by kernel_rfl, by kernel_rfl, by kernel_rfl, by kernel_rfl, by kernel_rfl, by rfl, by rfl, by decide⟩
theorem ti191 : TI.ok 191 ⟨false, false, 1, [.map none], [], none, none, 8⟩ := ⟨by kernel_rfl, by kernel_rfl, by kernel_rfl, by kernel_rfl, by kernel_rfl, by kernel_rfl, by rfl, by rfl, by decide⟩
theorem ti192 : TI.ok 192 ⟨false, false, 1, [.slice none 0 0], [], none, some 120, 24⟩ := ⟨by kernel_rfl, by kernel_rfl, by kernel_rfl, by kernel_rfl, by kernel_rfl, by kernel_rfl, by rfl, by rfl, by decide⟩
theorem ti193 : TI.ok 193 ⟨false, false, 1, [.slice none 0 0], [], none, some 5, 24⟩ := ⟨by kernel_rfl, by kernel_rfl, by kernel_rfl, by kernel_rfl, by kernel_rfl, by kernel_rfl, by rfl, by rfl, by decide⟩
theorem ti194 : TI.ok 194 ⟨false, false, 1, [.int .u64 0], [], some .u64, none, 8⟩ := ⟨by kernel_rfl, by kernel_rfl, by kernel_rfl, by kernel_rfl, by kernel_rfl, by kernel_rfl, by rfl, by rfl, by decide⟩
theorem ti200 : TI.ok 200 ⟨false, false, 1, [.nilFunc], [], none, none, 8⟩ := ⟨by kernel_rfl, by kernel_rfl, by kernel_rfl, by kernel_rfl, by kernel_rfl, by kernel_rfl, by rfl, by rfl, by decide⟩
theorem ti204 : TI.ok 204 ⟨true, true, 2, [.int .i64 0, .int .i64 0], [(0, 2, true)], none, none, 16⟩ := ⟨by kernel_rfl, by kernel_rfl, by kernel_rfl, by kernel_rfl, by kernel_rfl, by kernel_rfl, by rfl, by rfl, by decide⟩
theorem ti205 : TI.ok 205 ⟨false, false, 1, [.pointer none], [], none, none, 8⟩ := ⟨by kernel_rfl, by kernel_rfl, by kernel_rfl, by kernel_rfl, by kernel_rfl, by kernel_rfl, by rfl, by rfl, by decide⟩
theorem ti206 : TI.ok 206 ⟨false, false, 1, [.slice none 0 0], [], none, some 296, 24⟩ := ⟨by kernel_rfl, by kernel_rfl, by kernel_rfl, by kernel_rfl, by kernel_rfl, by kernel_rfl, by rfl, by rfl, by decide⟩
theorem ti208 : TI.ok 208 ⟨true, true, 5, [.string ByteArray.empty, .int .i64 0, .int .i64 0, .int .i64 0, .slice none 0 0], [(0, 1, false), (1, 1, false), (2, 1, false), (3, 1, false), (4, 1, false)], none, none, 64⟩ := ⟨by kernel_rfl, by kernel_rfl, by kernel_rfl, by kernel_rfl, by kernel_rfl, by kernel_rfl, by rfl, by rfl, by decide⟩
theorem ti211 : TI.ok 211 ⟨false, false, 1, [.slice none 0 0], [], none, some 68, 24⟩ := ⟨by kernel_rfl, by kernel_rfl, by kernel_rfl, by kernel_rfl, by kernel_rfl, by kernel_rfl, by rfl, by rfl, by decide⟩
theorem ti212 : TI.ok 212 ⟨false, false, 1, [.slice none 0 0], [], none, some 138, 24⟩ := ⟨by kernel_rfl, by kernel_rfl, by kernel_rfl, by kernel_rfl, by kernel_rfl, by kernel_rfl, by rfl, by rfl, by decide⟩
theorem ti214 : TI.ok 214 ⟨true, true, 3, [.int .u8 0, .int .i64 0, .slice none 0 0], [(0, 1, false), (1, 1, false), (2, 1, false)], none, none, 40⟩ := ⟨by kernel_rfl, by kernel_rfl, by kernel_rfl, by kernel_rfl, by kernel_rfl, by kernel_rfl, by rfl, by rfl, by decide⟩
theorem ti218 : TI.ok 218 ⟨true, true, 2, [.int .i64 0, .int .i64 0], [(0, 2, true)], none, none, 16⟩ := ⟨by kernel_rfl, by kernel_rfl, by kernel_rfl, by kernel_rfl, by kernel_rfl, by kernel_rfl, by rfl, by rfl, by decide⟩
theorem ti221 : TI.ok 221 ⟨true, true, 4, [.string ByteArray.empty, .int .i64 0, .int .i64 0, .int .i64 0], [(0, 1, false), (1, 1, false), (2, 1, false), (3, 1, false)], none, none, 40⟩ := ⟨by kernel_rfl, by kernel_rfl, by kernel_rfl, by kernel_rfl, by kernel_rfl, by kernel_rfl, by rfl, by rfl, by decide⟩
theorem ti224 : TI.ok 224 ⟨true, true, 4, [.int .i64 0, .int .i64 0, .slice none 0 0, .slice none 0 0], [(0, 3, true), (3, 1, false)], none, none, 64⟩ := ⟨by kernel_rfl, by kernel_rfl, by kernel_rfl, by kernel_rfl, by kernel_rfl, by kernel_rfl, by rfl, by rfl, by decide⟩
theorem ti226 : TI.ok 226 ⟨false, false, 1, [.slice none 0 0], [], none, some 143, 24⟩ := ⟨by kernel_rfl, by kernel_rfl, by kernel_rfl, by kernel_rfl, by kernel_rfl, by kernel_rfl, by rfl, by rfl, by decide⟩
theorem ti228 : TI.ok 228 ⟨true, true, 4, [.int .u8 0, .bool false, .int .i64 0, .slice none 0 0], [(0, 1, false), (1, 1, false), (2, 1, false), (3, 1, false)], none, none, 40⟩ := ⟨by kernel_rfl, by kernel_rfl, by kernel_rfl, by kernel_rfl, by kernel_rfl, by kernel_rfl, by rfl, by rfl, by decide⟩
theorem ti234 : TI.ok 234 ⟨true, true, 2, [.int .i64 0, .int .i64 0], [(0, 2, true)], none, none, 16⟩ := ⟨by kernel_rfl, by kernel_rfl, by kernel_rfl, by kernel_rfl, by kernel_rfl, by kernel_rfl, by rfl, by rfl, by decide⟩
theorem ti237 : TI.ok 237 ⟨true, true, 3, [.string ByteArray.empty, .int .i64 0, .int .i64 0], [(0, 1, false), (1, 1, false), (2, 1, false)], none, none, 32⟩ := ⟨by kernel_rfl, by kernel_rfl, by kernel_rfl, by kernel_rfl, by kernel_rfl, by kernel_rfl, by rfl, by rfl, by decide⟩
theorem ti241 : TI.ok 241 ⟨true, true, 3, [.bool false, .slice none 0 0, .slice none 0 0], [(0, 1, false), (1, 1, false), (2, 1, false)], none, none, 56⟩ := ⟨by kernel_rfl, by kernel_rfl, by kernel_rfl, by kernel_rfl, by kernel_rfl, by kernel_rfl, by rfl, by rfl, by decide⟩
theorem ti243 : TI.ok 243 ⟨false, false, 1, [.map none], [], none, none, 8⟩ := ⟨by kernel_rfl, by kernel_rfl, by kernel_rfl, by kernel_rfl, by kernel_rfl, by kernel_rfl, by rfl, by rfl, by decide⟩
theorem ti247 : TI.ok 247 ⟨false, false, 1, [.pointer none], [], none, none, 8⟩ := ⟨by kernel_rfl, by kernel_rfl, by kernel_rfl, by kernel_rfl, by kernel_rfl, by kernel_rfl, by rfl, by rfl, by decide⟩
theorem ti248 : TI.ok 248 ⟨false, false, 1, [.map none], [], none, none, 8⟩ := ⟨by kernel_rfl, by kernel_rfl, by kernel_rfl, by kernel_rfl, by kernel_rfl, by kernel_rfl, by rfl, by rfl, by decide⟩
theorem ti249 : TI.ok 249 ⟨false, false, 1, [.map none], [], none, none, 8⟩ := ⟨by kernel_rfl, by kernel_rfl, by kernel_rfl, by kernel_rfl, by kernel_rfl, by kernel_rfl, by rfl, by rfl, by decide⟩
theorem ti251 : TI.ok 251 ⟨true, true, 9, [.int .i64 0, .int .i64 0, .slice none 0 0, .int .i64 0, .int .i64 0, .slice none 0 0, .slice none 0 0, .map none, .map none], [(0, 3, true), (3, 4, true), (7, 1, false), (8, 1, false)], none, none, 120⟩ := ⟨by kernel_rfl, by kernel_rfl, by kernel_rfl, by kernel_rfl, by kernel_rfl, by kernel_rfl, by rfl, by rfl, by decide⟩
theorem ti252 : TI.ok 252 ⟨true, false, 3, [.int .i64 0, .int .i64 0, .int .i64 0], [(0, 1, false), (1, 1, false), (2, 1, false)], none, none, 24⟩ := ⟨by kernel_rfl, by kernel_rfl, by kernel_rfl, by kernel_rfl, by kernel_rfl, by kernel_rfl, by rfl, by rfl, by decide⟩
theorem ti253 : TI.ok 253 ⟨false, false, 1, [.map none], [], none, none, 8⟩ := ⟨by kernel_rfl, by kernel_rfl, by kernel_rfl, by kernel_rfl, by kernel_rfl, by kernel_rfl, by rfl, by rfl, by decide⟩
theorem ti255 : TI.ok 255 ⟨true, true, 6, [.int .i64 0, .int .i64 0, .slice none 0 0, .slice none 0 0, .map none, .map none], [(0, 3, true), (3, 1, false), (4, 1, false), (5, 1, false)], none, none, 80⟩ := ⟨by kernel_rfl, by kernel_rfl, by kernel_rfl, by kernel_rfl, by kernel_rfl, by kernel_rfl, by rfl, by rfl, by decide⟩
theorem ti259 : TI.ok 259 ⟨true, true, 2, [.int .i64 0, .slice none 0 0], [(0, 1, false), (1, 1, false)], none, none, 32⟩ := ⟨by kernel_rfl, by kernel_rfl, by kernel_rfl, by kernel_rfl, by kernel_rfl, by kernel_rfl, by rfl, by rfl, by decide⟩
theorem ti260 : TI.ok 260 ⟨false, false, 1, [.map none], [], none, none, 8⟩ := ⟨by kernel_rfl, by kernel_rfl, by kernel_rfl, by kernel_rfl, by kernel_rfl, by kernel_rfl, by rfl, by rfl, by decide⟩
theorem ti262 : TI.ok 262 ⟨true, true, 2, [.int .i64 0, .string ByteArray.empty], [(0, 1, false), (1, 1, false)], none, none, 24⟩ := ⟨by kernel_rfl, by kernel_rfl, by kernel_rfl, by kernel_rfl, by kernel_rfl, by kernel_rfl, by rfl, by rfl, by decide⟩
theorem ti275 : TI.ok 275 ⟨false, false, 1, [.slice none 0 0], [], none, some 149, 24⟩ := ⟨by kernel_rfl, by kernel_rfl, by kernel_rfl, by kernel_rfl, by kernel_rfl, by kernel_rfl, by rfl, by rfl, by decide⟩
theorem ti277 : TI.ok 277 ⟨true, true, 3, [.int .i64 0, .int .i64 0, .slice none 0 0], [(0, 1, false), (1, 1, false), (2, 1, false)], none, none, 40⟩ := ⟨by kernel_rfl, by kernel_rfl, by kernel_rfl, by kernel_rfl, by kernel_rfl, by kernel_rfl, by rfl, by rfl, by decide⟩
theorem ti285 : TI.ok 285 ⟨false, false, 1, [.int .u32 0], [], some .u32, none, 4⟩ := ⟨by kernel_rfl, by kernel_rfl, by kernel_rfl, by kernel_rfl, by kernel_rfl, by kernel_rfl, by rfl, by rfl, by decide⟩
theorem ti288 : TI.ok 288 ⟨false, false, 1, [.int .u64 0], [], some .u64, none, 8⟩ := ⟨by kernel_rfl, by kernel_rfl, by kernel_rfl, by kernel_rfl, by kernel_rfl, by kernel_rfl, by rfl, by rfl, by decide⟩
theorem ti296 : TI.ok 296 ⟨true, true, 2, [.int .u8 0, .bool false], [(0, 1, false), (1, 1, false)], none, none, 2⟩ := ⟨by kernel_rfl, by kernel_rfl, by kernel_rfl, by kernel_rfl, by kernel_rfl, by kernel_rfl, by rfl, by rfl, by decide⟩
theorem tab_ok : tab.ok := tabL_ok fun x hx => by
  simp only [tabs, List.mem_cons, List.not_mem_nil, or_false] at hx
  rcases hx with rfl | rfl | rfl | rfl | rfl | rfl | rfl | rfl | rfl | rfl | rfl | rfl | rfl | rfl | rfl | rfl | rfl | rfl | rfl | rfl | rfl | rfl | rfl | rfl | rfl | rfl | rfl | rfl | rfl | rfl | rfl | rfl | rfl | rfl | rfl | rfl | rfl | rfl | rfl | rfl | rfl | rfl | rfl | rfl | rfl | rfl | rfl | rfl | rfl | rfl | rfl | rfl | rfl | rfl | rfl | rfl | rfl | rfl | rfl | rfl | rfl | rfl | rfl | rfl | rfl | rfl | rfl | rfl | rfl | rfl | rfl | rfl | rfl | rfl | rfl | rfl | rfl | rfl | rfl | rfl | rfl | rfl | rfl
  · exact ti3
  · exact ti4
  · exact ti5
  · exact ti21
  · exact ti22
  · exact ti23
  · exact ti25
  · exact ti26
  · exact ti31
  · exact ti33
  · exact ti43
  · exact ti45
  · exact ti46
  · exact ti47
  · exact ti61
  · exact ti63
  · exact ti67
  · exact ti68
  · exact ti73
  · exact ti75
  · exact ti81
  · exact ti83
  · exact ti85
  · exact ti97
  · exact ti102
  · exact ti107
  · exact ti111
  · exact ti113
  · exact ti120
  · exact ti121
  · exact ti127
  · exact ti128
  · exact ti130
  · exact ti134
  · exact ti138
  · exact ti143
  · exact ti146
  · exact ti149
  · exact ti154
  · exact ti158
  · exact ti171
  · exact ti172
  · exact ti173
  · exact ti177
  · exact ti178
  · exact ti179
  · exact ti183
  · exact ti191
  · exact ti192
  · exact ti193
  · exact ti194
  · exact ti200
  · exact ti204
  · exact ti205
  · exact ti206
  · exact ti208
  · exact ti211
  · exact ti212
  · exact ti214
  · exact ti218
  · exact ti221
  · exact ti224
  · exact ti226
  · exact ti228
  · exact ti234
  · exact ti237
  · exact ti241
  · exact ti243
  · exact ti247
  · exact ti248
  · exact ti249
  · exact ti251
  · exact ti252
  · exact ti253
  · exact ti255
  · exact ti259
  · exact ti260
  · exact ti262
  · exact ti275
  · exact ti277
  · exact ti285
  · exact ti288
  · exact ti296
def TransPair.enc (k : TransPair) : Value := .agg #[.int .i64 k.fE0, .int .i64 k.fE1]
theorem TransPair.part0 (x0 : Int) (x1 : Int) (w : World) : (Go.part 3 #[.int .i64 x0, .int .i64 x1] 0).run Try.prog w = .ok (.int .i64 x0) w := by kernel_rfl
theorem TransPair.part1 (x0 : Int) (x1 : Int) (w : World) : (Go.part 3 #[.int .i64 x0, .int .i64 x1] 1).run Try.prog w = .ok (.int .i64 x1) w := by kernel_rfl
theorem TransPair.eq3 (x y : Int) (n : Nat) (w : World) : (Op.equalIn (n + 1) 3 (.int .i64 x) (.int .i64 y)).run Try.prog w = .ok (x == y) w := by
  have hu := run_underlying Try.underlying3 w
  simp only [Op.equalIn, Sem.run_bind, hu, Result.andThen_ok, if_true, Sem.run_pure]
theorem TransPair.keyLaw : KeyLaw 113 TransPair.enc where
  check := fun b a w => by unfold TransPair.enc; kernel_rfl
  bits := fun a => by unfold TransPair.enc; simp [Instr.sameBits, beq_bytes]
  now := ⟨_, Try.underlying113, .inl fun a b => rfl⟩
  equal := fun a b w => by
    unfold TransPair.enc
    have hu := run_underlying Try.underlying113 w
    have hsz : ∀ w, (sizeOf 3).run Try.prog w = .ok 1 w := fun w => by kernel_rfl
    have hr : List.range' 0 2 = [0, 1] := rfl
    show (Op.equalIn (9999 + 1) _ _ _).run _ _ = _
    rw [Op.equalIn]
    simp only [Sem.run_bind, hu, Result.andThen_ok]
    simp [Go.program, Sem.run, hsz, hr, TransPair.part0, TransPair.part1, TransPair.eq3]
    rcases a with ⟨a0, a1⟩
    rcases b with ⟨b0, b1⟩
    by_cases h0 : a0 = b0 <;> by_cases h1 : a1 = b1 <;> simp [h0, h1]
def DetCouple.enc (k : DetCouple) : Value := .agg #[.int .i64 k.fE0, .int .i64 k.fE1]
theorem DetCouple.part0 (x0 : Int) (x1 : Int) (w : World) : (Go.part 3 #[.int .i64 x0, .int .i64 x1] 0).run Try.prog w = .ok (.int .i64 x0) w := by kernel_rfl
theorem DetCouple.part1 (x0 : Int) (x1 : Int) (w : World) : (Go.part 3 #[.int .i64 x0, .int .i64 x1] 1).run Try.prog w = .ok (.int .i64 x1) w := by kernel_rfl
theorem DetCouple.eq3 (x y : Int) (n : Nat) (w : World) : (Op.equalIn (n + 1) 3 (.int .i64 x) (.int .i64 y)).run Try.prog w = .ok (x == y) w := by
  have hu := run_underlying Try.underlying3 w
  simp only [Op.equalIn, Sem.run_bind, hu, Result.andThen_ok, if_true, Sem.run_pure]
theorem DetCouple.keyLaw : KeyLaw 102 DetCouple.enc where
  check := fun b a w => by unfold DetCouple.enc; kernel_rfl
  bits := fun a => by unfold DetCouple.enc; simp [Instr.sameBits, beq_bytes]
  now := ⟨_, Try.underlying102, .inl fun a b => rfl⟩
  equal := fun a b w => by
    unfold DetCouple.enc
    have hu := run_underlying Try.underlying102 w
    have hsz : ∀ w, (sizeOf 3).run Try.prog w = .ok 1 w := fun w => by kernel_rfl
    have hr : List.range' 0 2 = [0, 1] := rfl
    show (Op.equalIn (9999 + 1) _ _ _).run _ _ = _
    rw [Op.equalIn]
    simp only [Sem.run_bind, hu, Result.andThen_ok]
    simp [Go.program, Sem.run, hsz, hr, DetCouple.part0, DetCouple.part1, DetCouple.eq3]
    rcases a with ⟨a0, a1⟩
    rcases b with ⟨b0, b1⟩
    by_cases h0 : a0 = b0 <;> by_cases h1 : a1 = b1 <;> simp [h0, h1]
def encI3 (k : Int) : Value := .int .i64 k
theorem keyI3 : KeyLaw 3 encI3 where
  check := fun b a w => by unfold encI3; kernel_rfl
  bits := fun a => by unfold encI3; simp [Instr.sameBits]
  now := ⟨_, Try.underlying3, .inr fun a b => by by_cases h : a = b <;> simp [Instr.sameNow, encI3, h]⟩
  equal := fun a b w => by
    unfold encI3
    have hu := run_underlying Try.underlying3 w
    show (Op.equalIn (9999 + 1) _ _ _).run _ _ = _
    rw [Op.equalIn]
    simp only [Sem.run_bind, hu, Result.andThen_ok, if_true, Sem.run_pure]
    congr 1
def TwoTable.enc (k : TwoTable) : Value := .agg #[.int .i64 k.fE0, .int .i64 k.fE1, .int .i64 k.fE2, .int .i64 k.fE3, .int .i64 k.fE4]
theorem TwoTable.part0 (x0 : Int) (x1 : Int) (x2 : Int) (x3 : Int) (x4 : Int) (w : World) : (Go.part 3 #[.int .i64 x0, .int .i64 x1, .int .i64 x2, .int .i64 x3, .int .i64 x4] 0).run Try.prog w = .ok (.int .i64 x0) w := by kernel_rfl
theorem TwoTable.part1 (x0 : Int) (x1 : Int) (x2 : Int) (x3 : Int) (x4 : Int) (w : World) : (Go.part 3 #[.int .i64 x0, .int .i64 x1, .int .i64 x2, .int .i64 x3, .int .i64 x4] 1).run Try.prog w = .ok (.int .i64 x1) w := by kernel_rfl
theorem TwoTable.part2 (x0 : Int) (x1 : Int) (x2 : Int) (x3 : Int) (x4 : Int) (w : World) : (Go.part 3 #[.int .i64 x0, .int .i64 x1, .int .i64 x2, .int .i64 x3, .int .i64 x4] 2).run Try.prog w = .ok (.int .i64 x2) w := by kernel_rfl
theorem TwoTable.part3 (x0 : Int) (x1 : Int) (x2 : Int) (x3 : Int) (x4 : Int) (w : World) : (Go.part 3 #[.int .i64 x0, .int .i64 x1, .int .i64 x2, .int .i64 x3, .int .i64 x4] 3).run Try.prog w = .ok (.int .i64 x3) w := by kernel_rfl
theorem TwoTable.part4 (x0 : Int) (x1 : Int) (x2 : Int) (x3 : Int) (x4 : Int) (w : World) : (Go.part 3 #[.int .i64 x0, .int .i64 x1, .int .i64 x2, .int .i64 x3, .int .i64 x4] 4).run Try.prog w = .ok (.int .i64 x4) w := by kernel_rfl
theorem TwoTable.eq3 (x y : Int) (n : Nat) (w : World) : (Op.equalIn (n + 1) 3 (.int .i64 x) (.int .i64 y)).run Try.prog w = .ok (x == y) w := by
  have hu := run_underlying Try.underlying3 w
  simp only [Op.equalIn, Sem.run_bind, hu, Result.andThen_ok, if_true, Sem.run_pure]
theorem TwoTable.keyLaw : KeyLaw 120 TwoTable.enc where
  check := fun b a w => by unfold TwoTable.enc; kernel_rfl
  bits := fun a => by unfold TwoTable.enc; simp [Instr.sameBits, beq_bytes]
  now := ⟨_, Try.underlying120, .inl fun a b => rfl⟩
  equal := fun a b w => by
    unfold TwoTable.enc
    have hu := run_underlying Try.underlying120 w
    have hsz : ∀ w, (sizeOf 3).run Try.prog w = .ok 1 w := fun w => by kernel_rfl
    have hr : List.range' 0 5 = [0, 1, 2, 3, 4] := rfl
    show (Op.equalIn (9999 + 1) _ _ _).run _ _ = _
    rw [Op.equalIn]
    simp only [Sem.run_bind, hu, Result.andThen_ok]
    simp [Go.program, Sem.run, hsz, hr, TwoTable.part0, TwoTable.part1, TwoTable.part2, TwoTable.part3, TwoTable.part4, TwoTable.eq3]
    rcases a with ⟨a0, a1, a2, a3, a4⟩
    rcases b with ⟨b0, b1, b2, b3, b4⟩
    by_cases h0 : a0 = b0 <;> by_cases h1 : a1 = b1 <;> by_cases h2 : a2 = b2 <;> by_cases h3 : a3 = b3 <;> by_cases h4 : a4 = b4 <;> simp [h0, h1, h2, h3, h4]
def St252.enc (k : St252) : Value := .agg #[.int .i64 k.fE0, .int .i64 k.fE1, .int .i64 k.fE2]
theorem St252.part0 (x0 : Int) (x1 : Int) (x2 : Int) (w : World) : (Go.part 3 #[.int .i64 x0, .int .i64 x1, .int .i64 x2] 0).run Try.prog w = .ok (.int .i64 x0) w := by kernel_rfl
theorem St252.part1 (x0 : Int) (x1 : Int) (x2 : Int) (w : World) : (Go.part 3 #[.int .i64 x0, .int .i64 x1, .int .i64 x2] 1).run Try.prog w = .ok (.int .i64 x1) w := by kernel_rfl
theorem St252.part2 (x0 : Int) (x1 : Int) (x2 : Int) (w : World) : (Go.part 3 #[.int .i64 x0, .int .i64 x1, .int .i64 x2] 2).run Try.prog w = .ok (.int .i64 x2) w := by kernel_rfl
theorem St252.eq3 (x y : Int) (n : Nat) (w : World) : (Op.equalIn (n + 1) 3 (.int .i64 x) (.int .i64 y)).run Try.prog w = .ok (x == y) w := by
  have hu := run_underlying Try.underlying3 w
  simp only [Op.equalIn, Sem.run_bind, hu, Result.andThen_ok, if_true, Sem.run_pure]
theorem St252.keyLaw : KeyLaw 252 St252.enc where
  check := fun b a w => by unfold St252.enc; kernel_rfl
  bits := fun a => by unfold St252.enc; simp [Instr.sameBits, beq_bytes]
  now := ⟨_, Try.underlying252, .inl fun a b => rfl⟩
  equal := fun a b w => by
    unfold St252.enc
    have hu := run_underlying Try.underlying252 w
    have hsz : ∀ w, (sizeOf 3).run Try.prog w = .ok 1 w := fun w => by kernel_rfl
    have hr : List.range' 0 3 = [0, 1, 2] := rfl
    show (Op.equalIn (9999 + 1) _ _ _).run _ _ = _
    rw [Op.equalIn]
    simp only [Sem.run_bind, hu, Result.andThen_ok]
    simp [Go.program, Sem.run, hsz, hr, St252.part0, St252.part1, St252.part2, St252.eq3]
    rcases a with ⟨a0, a1, a2⟩
    rcases b with ⟨b0, b1, b2⟩
    by_cases h0 : a0 = b0 <;> by_cases h1 : a1 = b1 <;> by_cases h2 : a2 = b2 <;> simp [h0, h1, h2]
def DetSplit.enc (k : DetSplit) : Value := .agg #[.int .i64 k.fOwn, .string k.fNext]
theorem DetSplit.part0 (x0 : Int) (x1 : ByteArray) (w : World) : (Go.part 3 #[.int .i64 x0, .string x1] 0).run Try.prog w = .ok (.int .i64 x0) w := by kernel_rfl
theorem DetSplit.part1 (x0 : Int) (x1 : ByteArray) (w : World) : (Go.part 9 #[.int .i64 x0, .string x1] 1).run Try.prog w = .ok (.string x1) w := by kernel_rfl
theorem DetSplit.eq3 (x y : Int) (n : Nat) (w : World) : (Op.equalIn (n + 1) 3 (.int .i64 x) (.int .i64 y)).run Try.prog w = .ok (x == y) w := by
  have hu := run_underlying Try.underlying3 w
  simp only [Op.equalIn, Sem.run_bind, hu, Result.andThen_ok, if_true, Sem.run_pure]
theorem DetSplit.eq9 (x y : ByteArray) (n : Nat) (w : World) : (Op.equalIn (n + 1) 9 (.string x) (.string y)).run Try.prog w = .ok (decide (x = y)) w := by
  have hu := run_underlying Try.underlying9 w
  simp only [Op.equalIn, Sem.run_bind, hu, Result.andThen_ok, Sem.run_pure, beq_bytes]
theorem DetSplit.keyLaw : KeyLaw 262 DetSplit.enc where
  check := fun b a w => by unfold DetSplit.enc; kernel_rfl
  bits := fun a => by unfold DetSplit.enc; simp [Instr.sameBits, beq_bytes]
  now := ⟨_, Try.underlying262, .inl fun a b => rfl⟩
  equal := fun a b w => by
    unfold DetSplit.enc
    have hu := run_underlying Try.underlying262 w
    have hst : Try.prog.stoodInHeld 262 = false := by kernel_rfl
    show (Op.equalIn (9999 + 1) _ _ _).run _ _ = _
    rw [Op.equalIn]
    simp only [Sem.run_bind, hu, Result.andThen_ok]
    simp [Go.program, Sem.run, hst, DetSplit.part0, DetSplit.part1, DetSplit.eq3, DetSplit.eq9]
    rcases a with ⟨a0, a1⟩
    rcases b with ⟨b0, b1⟩
    by_cases h0 : a0 = b0 <;> by_cases h1 : a1 = b1 <;> simp [h0, h1]
end Go.Proofs.Ytiinkohfldopbaa

/- The mirrors of det.Explore and det.Classes. No condition. -/
namespace Go.Proofs.Ytiinkohfldopbaa
open Go.RowKit Go.MapKept
set_option linter.unusedSimpArgs false
set_option linter.unusedVariables false
set_option maxRecDepth 100000

def cloneInt_vc (l : (List Int)) (Q : (List Int) → Prop) : Prop :=
  l.length ≤ 9223372036854775807 →
  (∀ isnil : Bool, (isnil = true → l = []) →
  (IfP (isnil != false) (Q []) (capOk ([] : (List Int)).length (l : (List Int)).length 8 ∧
  Q (([] : (List Int)) ++ l))))
theorem cloneInt_walk (l : (List Int)) (Q : (List Int) → Prop) (h : cloneInt_vc l Q) : CtJ 62 [.sv (.one (LS intT l))] [] Q (fun (r : (List Int)) => rowI 3 intT r) := by
  have ht := tab_ok
  refine CtJ.body Try.func62 rfl rfl rfl rfl (fun c hn hmay => ?_)
  unfold cloneInt_vc at h
  refine En.lenL 0 (by rfl) (fun hl => ?_)
  replace h := h hl
  clear hl
  refine En.seq ?_
  refine En.region ?_
  refine WL.run ht hn 1 ⟨[(0, .sv (.one (LS intT l)))], []⟩ (by kernel_rfl) ?_
  refine WL.nil ?_
  refine En.seq ?_
  refine En.seq ?_
  refine En.region ?_
  refine WL.run ht hn 1 ⟨[(0, .sv (.one (LS intT l))), (3, .sv (.one (LS intT l)))], []⟩ (by kernel_rfl) ?_
  refine WL.eqNil (T := intT) (l := l) .eql false (by simp) ht hn (by rfl) rfl (by rfl) (by rfl) (by rfl) rfl (by rfl) (fun isnil hisnil => ?_)
  replace h := h isnil hisnil
  clear hisnil
  refine WL.nil ?_
  refine En.cond (b := (isnil != false)) (by kernel_rfl) (fun hb => ?_) (fun hb => ?_)
  · replace h := h.1 hb
    refine En.seq ?_
    refine En.region ?_
    refine WL.run ht hn 1 ⟨[(2, .sv (.one (.v (.slice none 0 0))))], []⟩ (by kernel_rfl) ?_
    refine WL.nil ?_
    refine En.ret ?_
    exact En.backN (by rfl) h
  · replace h := h.2 hb
    refine En.skip ?_
    refine En.seq ?_
    refine En.region ?_
    refine WL.mt0 (K := []) (p := some (0, rowI 3 intT ([] : (List Int)))) hn (by rfl) (mt_empty intT 0 ht rfl (by rfl) (by rfl) (by rfl)) (by rfl) (by rfl) (by rfl) ?_
    refine WL.run ht hn 1 ⟨[(5, .sv (.one (.own 0))), (6, .sv (.one (LS intT l)))], [rowI 3 intT ([] : (List Int))]⟩ (by kernel_rfl) ?_
    have hp := h.1
    replace h := h.2
    refine WL.mt (S2 := ⟨[(6, .sv (.one (LS intT l)))], [rowI 3 intT ([] : (List Int))]⟩) (K := [0]) (p := some (0, rowI 3 intT (([] : (List Int)) ++ l))) hn (by rfl) (mt_append (T := intT) (l := ([] : (List Int))) (es := l) ht rfl (by rfl) (by rfl) (by rfl) (by rfl) (by decide) (by rfl) (by rfl) (srcLS (T := intT) (es := l) (fun _ h => by cases h) (by decide) (by rfl)) (by exact hp) (by exact hp.le (by decide))) (by kernel_rfl) (by rfl) (by rfl) (by rfl) ?_
    refine WL.run ht hn 1 ⟨[(2, .sv (.one (.own 0)))], [rowI 3 intT (([] : (List Int)) ++ l)]⟩ (by kernel_rfl) ?_
    refine WL.nil ?_
    refine En.ret ?_
    exact En.backJ (itf := fun l => rowI 3 intT l) hmay (by rfl) (by rfl) rfl rfl h
theorem en62 : ∀ args w, (callFunc 62 args).run Try.prog w = .ok (.enter 62 args) w := enters_of Try.func62 (by kernel_rfl) rfl
theorem cloneInt_ct (l : List Int) (hp : l.length * 8 ≤ 140737488355328) : CtI 62 [.sv (.one (LS intT l))] [] (rowI 3 intT l) := by
  refine (cloneInt_walk l (fun r => r = l) ?_).fun
  unfold cloneInt_vc
  refine fun _ isnil h => ⟨fun hb => (h (by simpa using hb)).symm, fun _ => ⟨?_, by simp⟩⟩
  unfold capOk
  simpa using hp
def exploreTwoTable_vc (letters : Int) (start : TwoTable) (domgo : ((TwoTable × Int) → Prop)) (go : ((TwoTable × Int) → TwoTable)) (dommark : (TwoTable → Prop)) (mark : (TwoTable → Int)) (limit : Int) (Q : (ApiDet × Bool) → Prop) : Prop :=
  ∃ (Inv : (List (TwoTable × Int)) → (List TwoTable) → (List (List Int)) → (List Int) → Prop) (mu : (List (TwoTable × Int)) → (List TwoTable) → (List (List Int)) → (List Int) → Nat), Inv (mput start 0 ([] : List (TwoTable × Int))) ([start] : (List TwoTable)) ([] : (List (List Int))) ([] : (List Int)) ∧
  ∀ (m3 : (List (TwoTable × Int))) (l4 : (List TwoTable)) (l8 : (List (List Int))) (l9 : (List Int)) , Inv m3 l4 l8 l9 → (IfP (decide ((l8.length : Int) < (l4.length : Int))) (∃ e, idx l4 (l8.length : Int) = some e ∧
  makeOk letters letters 8 ∧
  ∃ (Inv_2 : Int → (List (TwoTable × Int)) → (List TwoTable) → (List Int) → Prop) (mu_2 : Int → (List (TwoTable × Int)) → (List TwoTable) → (List Int) → Nat), Inv_2 0 m3 l4 (List.replicate (letters).toNat (0 : Int)) ∧
  ∀ (x43 : Int) (m3_2 : (List (TwoTable × Int))) (l4_2 : (List TwoTable)) (l11 : (List Int)) , Inv_2 x43 m3_2 l4_2 l11 → (IfP (decide (x43 < letters)) ((domgo (e, x43)) ∧
  ∃ J : Int → (List (TwoTable × Int)) → (List TwoTable) → Prop, (IfP (!(mget (go (e, x43)) m3_2).isSome) (IfP ((l4_2.length : Int) == limit) (Q ((ApiDet.mk 0 0 [] []), false)) (capOk l4_2.length (([(go (e, x43))] : (List TwoTable)) : (List TwoTable)).length 40 ∧
  J (l4_2.length : Int) (mput (go (e, x43)) (l4_2.length : Int) m3_2) (l4_2 ++ ([(go (e, x43))] : (List TwoTable))))) (J ((mget (go (e, x43)) m3_2).getD (0 : Int)) m3_2 l4_2)) ∧
  (∀ (x19 : Int) (m3_3 : (List (TwoTable × Int))) (l4_3 : (List TwoTable)), J x19 m3_3 l4_3 → ∃ e_2, idx l11 x43 = some e_2 ∧
  (Inv_2 (wr (x43 + 1)) m3_3 l4_3 (l11.set (x43).toNat x19) ∧ mu_2 (wr (x43 + 1)) m3_3 l4_3 (l11.set (x43).toNat x19) < mu_2 x43 m3_2 l4_2 l11))) (capOk l8.length (([l11] : (List (List Int))) : (List (List Int))).length 24 ∧
  (dommark e) ∧
  capOk l9.length (([(mark e)] : (List Int)) : (List Int)).length 8 ∧
  (Inv m3_2 l4_2 (l8 ++ ([l11] : (List (List Int)))) (l9 ++ ([(mark e)] : (List Int))) ∧ mu m3_2 l4_2 (l8 ++ ([l11] : (List (List Int)))) (l9 ++ ([(mark e)] : (List Int))) < mu m3 l4 l8 l9)))) (Q ((ApiDet.mk letters 0 l8 l9), true)))
set_option maxHeartbeats 2000000 in
theorem exploreTwoTable_walk (letters : Int) (start : TwoTable) (domgo : ((TwoTable × Int) → Prop)) (go : ((TwoTable × Int) → TwoTable)) (dommark : (TwoTable → Prop)) (mark : (TwoTable → Int)) (limit : Int) (Q : (ApiDet × Bool) → Prop) (h : exploreTwoTable_vc letters start domgo go dommark mark limit Q) : Ct 70 [.sv (.one (I letters)), .sv (.agg [I start.fE0, I start.fE1, I start.fE2, I start.fE3, I start.fE4]), .sv (.one (.rd (fvR (fun (x : (TwoTable × Int)) => [.sv (.agg [I x.1.fE0, I x.1.fE1, I x.1.fE2, I x.1.fE3, I x.1.fE4]), .sv (.one (I x.2))]) (fun (r : TwoTable) => .sv (.agg [I r.fE0, I r.fE1, I r.fE2, I r.fE3, I r.fE4])) domgo go))), .sv (.one (.rd (fvR (fun (x : TwoTable) => [.sv (.agg [I x.fE0, I x.fE1, I x.fE2, I x.fE3, I x.fE4])]) (fun (r : Int) => .sv (.one (I r))) dommark mark))), .sv (.one (I limit))] [] Q (fun (r : (ApiDet × Bool)) => .tup [.agg [I r.1.fLetters, I r.1.fStart, LS (lsT intT) r.1.fNext, LS intT r.1.fMark], .one (B r.2)]) := by
  have ht := tab_ok
  refine Ct.body Try.func70 rfl rfl rfl rfl (fun c hn => ?_)
  unfold exploreTwoTable_vc at h
  refine En.seq ?_
  refine En.region ?_
  refine WL.run ht hn 3 ⟨[(0, .sv (.one (I letters))), (2, .sv (.one (.rd (fvR (fun (x : (TwoTable × Int)) => [.sv (.agg [I x.1.fE0, I x.1.fE1, I x.1.fE2, I x.1.fE3, I x.1.fE4]), .sv (.one (I x.2))]) (fun (r : TwoTable) => .sv (.agg [I r.fE0, I r.fE1, I r.fE2, I r.fE3, I r.fE4])) domgo go)))), (3, .sv (.one (.rd (fvR (fun (x : TwoTable) => [.sv (.agg [I x.fE0, I x.fE1, I x.fE2, I x.fE3, I x.fE4])]) (fun (r : Int) => .sv (.one (I r))) dommark mark)))), (4, .sv (.one (I limit))), (6, .sv (.one (.ptr 0 0))), (10, .sv (.one (.ptr 1 0)))], [.box [I start.fE0, I start.fE1, I start.fE2, I start.fE3, I start.fE4] 120 false, .box [I 0, I 0, .v (.slice none 0 0), .v (.slice none 0 0)] 25 false]⟩ (by kernel_rfl) ?_
  refine WL.nil ?_
  refine En.seq ?_
  refine En.region ?_
  refine WL.run ht hn 4 ⟨[(0, .sv (.one (I letters))), (2, .sv (.one (.rd (fvR (fun (x : (TwoTable × Int)) => [.sv (.agg [I x.1.fE0, I x.1.fE1, I x.1.fE2, I x.1.fE3, I x.1.fE4]), .sv (.one (I x.2))]) (fun (r : TwoTable) => .sv (.agg [I r.fE0, I r.fE1, I r.fE2, I r.fE3, I r.fE4])) domgo go)))), (3, .sv (.one (.rd (fvR (fun (x : TwoTable) => [.sv (.agg [I x.fE0, I x.fE1, I x.fE2, I x.fE3, I x.fE4])]) (fun (r : Int) => .sv (.one (I r))) dommark mark)))), (4, .sv (.one (I limit))), (6, .sv (.one (.ptr 0 0))), (10, .sv (.one (.ptr 1 0))), (12, .sv (.one (.ptr 2 0)))], [.box [I start.fE0, I start.fE1, I start.fE2, I start.fE3, I start.fE4] 120 false, .box [I 0, I 0, .v (.slice none 0 0), .v (.slice none 0 0)] 25 false, .box [I letters, I 0, .v (.slice none 0 0), .v (.slice none 0 0)] 25 false]⟩ (by kernel_rfl) ?_
  refine WL.nil ?_
  refine En.seq ?_
  refine En.region ?_
  refine WL.mt0 (K := []) (p := some (3, mapI TwoTable.enc intT ([] : List (TwoTable × Int)))) hn (by rfl) (mt_makeMap TwoTable.enc intT 3 rfl) (by rfl) (by rfl) (by rfl) ?_
  refine WL.run ht hn 1 ⟨[(0, .sv (.one (I letters))), (2, .sv (.one (.rd (fvR (fun (x : (TwoTable × Int)) => [.sv (.agg [I x.1.fE0, I x.1.fE1, I x.1.fE2, I x.1.fE3, I x.1.fE4]), .sv (.one (I x.2))]) (fun (r : TwoTable) => .sv (.agg [I r.fE0, I r.fE1, I r.fE2, I r.fE3, I r.fE4])) domgo go)))), (3, .sv (.one (.rd (fvR (fun (x : TwoTable) => [.sv (.agg [I x.fE0, I x.fE1, I x.fE2, I x.fE3, I x.fE4])]) (fun (r : Int) => .sv (.one (I r))) dommark mark)))), (4, .sv (.one (I limit))), (6, .sv (.one (.ptr 0 0))), (10, .sv (.one (.ptr 1 0))), (12, .sv (.one (.ptr 2 0))), (23, .sv (.one (.own 3))), (24, .sv (.agg [I start.fE0, I start.fE1, I start.fE2, I start.fE3, I start.fE4]))], [.box [I start.fE0, I start.fE1, I start.fE2, I start.fE3, I start.fE4] 120 false, .box [I 0, I 0, .v (.slice none 0 0), .v (.slice none 0 0)] 25 false, .box [I letters, I 0, .v (.slice none 0 0), .v (.slice none 0 0)] 25 false, mapI TwoTable.enc intT ([] : List (TwoTable × Int))]⟩ (by kernel_rfl) ?_
  refine WL.mapPut (T := intT) TwoTable.keyLaw (k := start) (y := 0) hn (by rfl) (.inr rfl) Try.underlying191 (by rfl) (by rfl) (by rfl) (by rfl) (by rfl) (by rfl) ?_
  refine WL.run ht hn 2 ⟨[(0, .sv (.one (I letters))), (2, .sv (.one (.rd (fvR (fun (x : (TwoTable × Int)) => [.sv (.agg [I x.1.fE0, I x.1.fE1, I x.1.fE2, I x.1.fE3, I x.1.fE4]), .sv (.one (I x.2))]) (fun (r : TwoTable) => .sv (.agg [I r.fE0, I r.fE1, I r.fE2, I r.fE3, I r.fE4])) domgo go)))), (3, .sv (.one (.rd (fvR (fun (x : TwoTable) => [.sv (.agg [I x.fE0, I x.fE1, I x.fE2, I x.fE3, I x.fE4])]) (fun (r : Int) => .sv (.one (I r))) dommark mark)))), (4, .sv (.one (I limit))), (6, .sv (.one (.ptr 0 0))), (10, .sv (.one (.ptr 1 0))), (12, .sv (.one (.ptr 2 0))), (13, .sv (.one (.own 3)))], [.box [I start.fE0, I start.fE1, I start.fE2, I start.fE3, I start.fE4] 120 false, .box [I 0, I 0, .v (.slice none 0 0), .v (.slice none 0 0)] 25 false, .box [I letters, I 0, .v (.slice none 0 0), .v (.slice none 0 0)] 25 false, mapI TwoTable.enc intT (mput start 0 ([] : List (TwoTable × Int)))]⟩ (by kernel_rfl) ?_
  refine WL.nil ?_
  refine En.seq ?_
  refine En.seq ?_
  refine En.region ?_
  refine WL.run ht hn 1 ⟨[(0, .sv (.one (I letters))), (2, .sv (.one (.rd (fvR (fun (x : (TwoTable × Int)) => [.sv (.agg [I x.1.fE0, I x.1.fE1, I x.1.fE2, I x.1.fE3, I x.1.fE4]), .sv (.one (I x.2))]) (fun (r : TwoTable) => .sv (.agg [I r.fE0, I r.fE1, I r.fE2, I r.fE3, I r.fE4])) domgo go)))), (3, .sv (.one (.rd (fvR (fun (x : TwoTable) => [.sv (.agg [I x.fE0, I x.fE1, I x.fE2, I x.fE3, I x.fE4])]) (fun (r : Int) => .sv (.one (I r))) dommark mark)))), (4, .sv (.one (I limit))), (10, .sv (.one (.ptr 1 0))), (12, .sv (.one (.ptr 2 0))), (13, .sv (.one (.own 3))), (26, .sv (.agg [I start.fE0, I start.fE1, I start.fE2, I start.fE3, I start.fE4]))], [.gone, .box [I 0, I 0, .v (.slice none 0 0), .v (.slice none 0 0)] 25 false, .box [I letters, I 0, .v (.slice none 0 0), .v (.slice none 0 0)] 25 false, mapI TwoTable.enc intT (mput start 0 ([] : List (TwoTable × Int)))]⟩ (by kernel_rfl) ?_
  refine WL.mt0 (K := []) (p := some (4, rowI 120 TwoTable.ty ([start] : (List TwoTable)))) hn (by rfl) (mt_lit (T := TwoTable.ty) ([start] : (List TwoTable)) (mt_bsl 4 (r := cellsOf TwoTable.ty ([start] : (List TwoTable))) ht rfl (by rfl) (by rfl) (by rfl) (by kernel_rfl) (by rfl)) (fun _ h => by cases h) (fun _ => rfl) (fun _ => rfl) (by rfl) (Nat.le_of_ble_eq_true rfl)) (by rfl) (by rfl) (by rfl) ?_
  refine WL.run ht hn 1 ⟨[(0, .sv (.one (I letters))), (2, .sv (.one (.rd (fvR (fun (x : (TwoTable × Int)) => [.sv (.agg [I x.1.fE0, I x.1.fE1, I x.1.fE2, I x.1.fE3, I x.1.fE4]), .sv (.one (I x.2))]) (fun (r : TwoTable) => .sv (.agg [I r.fE0, I r.fE1, I r.fE2, I r.fE3, I r.fE4])) domgo go)))), (3, .sv (.one (.rd (fvR (fun (x : TwoTable) => [.sv (.agg [I x.fE0, I x.fE1, I x.fE2, I x.fE3, I x.fE4])]) (fun (r : Int) => .sv (.one (I r))) dommark mark)))), (4, .sv (.one (I limit))), (10, .sv (.one (.ptr 1 0))), (12, .sv (.one (.ptr 2 0))), (13, .sv (.one (.own 3))), (14, .sv (.one (.own 4)))], [.gone, .box [I 0, I 0, .v (.slice none 0 0), .v (.slice none 0 0)] 25 false, .box [I letters, I 0, .v (.slice none 0 0), .v (.slice none 0 0)] 25 false, mapI TwoTable.enc intT (mput start 0 ([] : List (TwoTable × Int))), rowI 120 TwoTable.ty ([start] : (List TwoTable))]⟩ (by kernel_rfl) ?_
  refine WL.nil ?_
  refine En.block ?_
  refine En.nilBoxO (T := (lsT intT)) 2 2 8 23 (by rfl) (by rfl) (by rfl) (by rfl) ?_
  refine En.nilBoxO (T := intT) 2 3 9 3 (by rfl) (by rfl) (by rfl) (by rfl) ?_
  obtain ⟨Inv, mu, h0_2, hI_2⟩ := h
  refine En.loop (σ := (List (TwoTable × Int)) × (List TwoTable) × (List (List Int)) × (List Int)) (fun zz => Inv zz.1 zz.2.1 zz.2.2.1 zz.2.2.2) (fun zz => mu zz.1 zz.2.1 zz.2.2.1 zz.2.2.2) (fun zz => ⟨[(0, .sv (.one (I letters))), (2, .sv (.one (.rd (fvR (fun (x : (TwoTable × Int)) => [.sv (.agg [I x.1.fE0, I x.1.fE1, I x.1.fE2, I x.1.fE3, I x.1.fE4]), .sv (.one (I x.2))]) (fun (r : TwoTable) => .sv (.agg [I r.fE0, I r.fE1, I r.fE2, I r.fE3, I r.fE4])) domgo go)))), (3, .sv (.one (.rd (fvR (fun (x : TwoTable) => [.sv (.agg [I x.fE0, I x.fE1, I x.fE2, I x.fE3, I x.fE4])]) (fun (r : Int) => .sv (.one (I r))) dommark mark)))), (4, .sv (.one (I limit))), (10, .sv (.one (.ptr 1 0))), (12, .sv (.one (.ptr 2 0))), (13, .sv (.one (.own 3))), (14, .sv (.one (.own 4)))], [.gone, .box [I 0, I 0, .v (.slice none 0 0), .v (.slice none 0 0)] 25 false, .box [I letters, I 0, .own 8, .own 9] 25 false, mapI TwoTable.enc intT zz.1, rowI 120 TwoTable.ty zz.2.1, .gone, .gone, .gone, rowI 23 (lsT intT) zz.2.2.1, rowI 3 intT zz.2.2.2]⟩) ((mput start 0 ([] : List (TwoTable × Int))), ([start] : (List TwoTable)), ([] : (List (List Int))), ([] : (List Int))) h0_2 (sub_ok (by kernel_rfl)) ?_
  rintro ⟨m3, l4, l8, l9⟩ h
  replace h := hI_2 _ _ _ _ h
  show En c ⟨[(0, .sv (.one (I letters))), (2, .sv (.one (.rd (fvR (fun (x : (TwoTable × Int)) => [.sv (.agg [I x.1.fE0, I x.1.fE1, I x.1.fE2, I x.1.fE3, I x.1.fE4]), .sv (.one (I x.2))]) (fun (r : TwoTable) => .sv (.agg [I r.fE0, I r.fE1, I r.fE2, I r.fE3, I r.fE4])) domgo go)))), (3, .sv (.one (.rd (fvR (fun (x : TwoTable) => [.sv (.agg [I x.fE0, I x.fE1, I x.fE2, I x.fE3, I x.fE4])]) (fun (r : Int) => .sv (.one (I r))) dommark mark)))), (4, .sv (.one (I limit))), (10, .sv (.one (.ptr 1 0))), (12, .sv (.one (.ptr 2 0))), (13, .sv (.one (.own 3))), (14, .sv (.one (.own 4)))], [.gone, .box [I 0, I 0, .v (.slice none 0 0), .v (.slice none 0 0)] 25 false, .box [I letters, I 0, .own 8, .own 9] 25 false, mapI TwoTable.enc intT m3, rowI 120 TwoTable.ty l4, .gone, .gone, .gone, rowI 23 (lsT intT) l8, rowI 3 intT l9]⟩ _
  refine En.seq ?_
  refine En.seq ?_
  refine En.region ?_
  refine WL.run ht hn 6 ⟨[(0, .sv (.one (I letters))), (2, .sv (.one (.rd (fvR (fun (x : (TwoTable × Int)) => [.sv (.agg [I x.1.fE0, I x.1.fE1, I x.1.fE2, I x.1.fE3, I x.1.fE4]), .sv (.one (I x.2))]) (fun (r : TwoTable) => .sv (.agg [I r.fE0, I r.fE1, I r.fE2, I r.fE3, I r.fE4])) domgo go)))), (3, .sv (.one (.rd (fvR (fun (x : TwoTable) => [.sv (.agg [I x.fE0, I x.fE1, I x.fE2, I x.fE3, I x.fE4])]) (fun (r : Int) => .sv (.one (I r))) dommark mark)))), (4, .sv (.one (I limit))), (10, .sv (.one (.ptr 1 0))), (12, .sv (.one (.ptr 2 0))), (13, .sv (.one (.own 3))), (14, .sv (.one (.own 4))), (33, .sv (.one (B (decide ((l8.length : Int) < (l4.length : Int))))))], [.gone, .box [I 0, I 0, .v (.slice none 0 0), .v (.slice none 0 0)] 25 false, .box [I letters, I 0, .own 8, .own 9] 25 false, mapI TwoTable.enc intT m3, rowI 120 TwoTable.ty l4, .gone, .gone, .gone, rowI 23 (lsT intT) l8, rowI 3 intT l9]⟩ (by kernel_rfl) ?_
  refine WL.nil ?_
  refine En.cond (b := (decide ((l8.length : Int) < (l4.length : Int)))) (by kernel_rfl) (fun hb => ?_) (fun hb => ?_)
  · replace h := h.1 hb
    refine En.skip ?_
    refine En.block ?_
    refine En.seq ?_
    refine En.region ?_
    refine WL.run ht hn 4 ⟨[(0, .sv (.one (I letters))), (2, .sv (.one (.rd (fvR (fun (x : (TwoTable × Int)) => [.sv (.agg [I x.1.fE0, I x.1.fE1, I x.1.fE2, I x.1.fE3, I x.1.fE4]), .sv (.one (I x.2))]) (fun (r : TwoTable) => .sv (.agg [I r.fE0, I r.fE1, I r.fE2, I r.fE3, I r.fE4])) domgo go)))), (3, .sv (.one (.rd (fvR (fun (x : TwoTable) => [.sv (.agg [I x.fE0, I x.fE1, I x.fE2, I x.fE3, I x.fE4])]) (fun (r : Int) => .sv (.one (I r))) dommark mark)))), (4, .sv (.one (I limit))), (10, .sv (.one (.ptr 1 0))), (12, .sv (.one (.ptr 2 0))), (13, .sv (.one (.own 3))), (14, .sv (.one (.own 4))), (34, .sv (.one (.own 4))), (37, .sv (.one (I (l8.length : Int))))], [.gone, .box [I 0, I 0, .v (.slice none 0 0), .v (.slice none 0 0)] 25 false, .box [I letters, I 0, .own 8, .own 9] 25 false, mapI TwoTable.enc intT m3, rowI 120 TwoTable.ty l4, .gone, .gone, .gone, rowI 23 (lsT intT) l8, rowI 3 intT l9]⟩ (by kernel_rfl) ?_
    obtain ⟨e, he, h⟩ := h
    refine WL.val hn (by rfl) (val_indexO (T := TwoTable.ty) (l := l4) (k := (l8.length : Int)) ht rfl (by rfl) (by rfl) (by rfl) (by rfl) (by decide) (by rfl) (by rfl) (by rfl) he) (by rfl) ?_
    refine WL.val hn (by rfl) (val_loadO (T := TwoTable.ty) (l := l4) (y := e) ht rfl (by rfl) (by rfl) (by rfl) (by rfl) (by rfl) (idx_some he).2.2 (by rfl)) (by rfl) ?_
    refine WL.run ht hn 2 ⟨[(0, .sv (.one (I letters))), (2, .sv (.one (.rd (fvR (fun (x : (TwoTable × Int)) => [.sv (.agg [I x.1.fE0, I x.1.fE1, I x.1.fE2, I x.1.fE3, I x.1.fE4]), .sv (.one (I x.2))]) (fun (r : TwoTable) => .sv (.agg [I r.fE0, I r.fE1, I r.fE2, I r.fE3, I r.fE4])) domgo go)))), (3, .sv (.one (.rd (fvR (fun (x : TwoTable) => [.sv (.agg [I x.fE0, I x.fE1, I x.fE2, I x.fE3, I x.fE4])]) (fun (r : Int) => .sv (.one (I r))) dommark mark)))), (4, .sv (.one (I limit))), (10, .sv (.one (.ptr 1 0))), (12, .sv (.one (.ptr 2 0))), (13, .sv (.one (.own 3))), (14, .sv (.one (.own 4))), (15, .sv (.one (.ptr 10 0)))], [.gone, .box [I 0, I 0, .v (.slice none 0 0), .v (.slice none 0 0)] 25 false, .box [I letters, I 0, .own 8, .own 9] 25 false, mapI TwoTable.enc intT m3, rowI 120 TwoTable.ty l4, .gone, .gone, .gone, rowI 23 (lsT intT) l8, rowI 3 intT l9, .box [I e.fE0, I e.fE1, I e.fE2, I e.fE3, I e.fE4] 120 false]⟩ (by kernel_rfl) ?_
    refine WL.nil ?_
    refine En.seq ?_
    refine En.region ?_
    refine WL.run ht hn 1 ⟨[(0, .sv (.one (I letters))), (2, .sv (.one (.rd (fvR (fun (x : (TwoTable × Int)) => [.sv (.agg [I x.1.fE0, I x.1.fE1, I x.1.fE2, I x.1.fE3, I x.1.fE4]), .sv (.one (I x.2))]) (fun (r : TwoTable) => .sv (.agg [I r.fE0, I r.fE1, I r.fE2, I r.fE3, I r.fE4])) domgo go)))), (3, .sv (.one (.rd (fvR (fun (x : TwoTable) => [.sv (.agg [I x.fE0, I x.fE1, I x.fE2, I x.fE3, I x.fE4])]) (fun (r : Int) => .sv (.one (I r))) dommark mark)))), (4, .sv (.one (I limit))), (10, .sv (.one (.ptr 1 0))), (12, .sv (.one (.ptr 2 0))), (13, .sv (.one (.own 3))), (14, .sv (.one (.own 4))), (15, .sv (.one (.ptr 10 0))), (40, .sv (.one (I letters)))], [.gone, .box [I 0, I 0, .v (.slice none 0 0), .v (.slice none 0 0)] 25 false, .box [I letters, I 0, .own 8, .own 9] 25 false, mapI TwoTable.enc intT m3, rowI 120 TwoTable.ty l4, .gone, .gone, .gone, rowI 23 (lsT intT) l8, rowI 3 intT l9, .box [I e.fE0, I e.fE1, I e.fE2, I e.fE3, I e.fE4] 120 false]⟩ (by kernel_rfl) ?_
    have hp := h.1
    replace h := h.2
    refine WL.mt0 (K := []) (p := some (11, rowI 3 intT (List.replicate (letters).toNat (0 : Int)))) hn (by rfl) (mt_make (T := intT) (0 : Int) (zv := (.int .i64 0)) 11 (l := letters) (cp := letters) ht rfl (by rfl) (by rfl) (by rfl) (by rfl) (by decide) (by rfl) (by rfl) hp.1 hp.2.1 hp.2.2 (hp.le (by decide)) rfl (fun _ => ⟨rfl, trivial⟩)) (by rfl) (by rfl) (by rfl) ?_
    refine WL.run ht hn 1 ⟨[(0, .sv (.one (I letters))), (2, .sv (.one (.rd (fvR (fun (x : (TwoTable × Int)) => [.sv (.agg [I x.1.fE0, I x.1.fE1, I x.1.fE2, I x.1.fE3, I x.1.fE4]), .sv (.one (I x.2))]) (fun (r : TwoTable) => .sv (.agg [I r.fE0, I r.fE1, I r.fE2, I r.fE3, I r.fE4])) domgo go)))), (3, .sv (.one (.rd (fvR (fun (x : TwoTable) => [.sv (.agg [I x.fE0, I x.fE1, I x.fE2, I x.fE3, I x.fE4])]) (fun (r : Int) => .sv (.one (I r))) dommark mark)))), (4, .sv (.one (I limit))), (10, .sv (.one (.ptr 1 0))), (12, .sv (.one (.ptr 2 0))), (13, .sv (.one (.own 3))), (14, .sv (.one (.own 4))), (15, .sv (.one (.ptr 10 0))), (16, .sv (.one (.own 11)))], [.gone, .box [I 0, I 0, .v (.slice none 0 0), .v (.slice none 0 0)] 25 false, .box [I letters, I 0, .own 8, .own 9] 25 false, mapI TwoTable.enc intT m3, rowI 120 TwoTable.ty l4, .gone, .gone, .gone, rowI 23 (lsT intT) l8, rowI 3 intT l9, .box [I e.fE0, I e.fE1, I e.fE2, I e.fE3, I e.fE4] 120 false, rowI 3 intT (List.replicate (letters).toNat (0 : Int))]⟩ (by kernel_rfl) ?_
    refine WL.nil ?_
    refine En.seq ?_
    refine En.seq ?_
    refine En.region ?_
    refine WL.run ht hn 2 ⟨[(0, .sv (.one (I letters))), (2, .sv (.one (.rd (fvR (fun (x : (TwoTable × Int)) => [.sv (.agg [I x.1.fE0, I x.1.fE1, I x.1.fE2, I x.1.fE3, I x.1.fE4]), .sv (.one (I x.2))]) (fun (r : TwoTable) => .sv (.agg [I r.fE0, I r.fE1, I r.fE2, I r.fE3, I r.fE4])) domgo go)))), (3, .sv (.one (.rd (fvR (fun (x : TwoTable) => [.sv (.agg [I x.fE0, I x.fE1, I x.fE2, I x.fE3, I x.fE4])]) (fun (r : Int) => .sv (.one (I r))) dommark mark)))), (4, .sv (.one (I limit))), (10, .sv (.one (.ptr 1 0))), (12, .sv (.one (.ptr 2 0))), (13, .sv (.one (.own 3))), (14, .sv (.one (.own 4))), (15, .sv (.one (.ptr 10 0))), (16, .sv (.one (.own 11))), (42, .sv (.one (I letters))), (43, .sv (.one (I 0)))], [.gone, .box [I 0, I 0, .v (.slice none 0 0), .v (.slice none 0 0)] 25 false, .box [I letters, I 0, .own 8, .own 9] 25 false, mapI TwoTable.enc intT m3, rowI 120 TwoTable.ty l4, .gone, .gone, .gone, rowI 23 (lsT intT) l8, rowI 3 intT l9, .box [I e.fE0, I e.fE1, I e.fE2, I e.fE3, I e.fE4] 120 false, rowI 3 intT (List.replicate (letters).toNat (0 : Int))]⟩ (by kernel_rfl) ?_
    refine WL.nil ?_
    refine En.block ?_
    obtain ⟨Inv_2, mu_2, h0, hI⟩ := h
    refine En.loop (σ := Int × (List (TwoTable × Int)) × (List TwoTable) × (List Int)) (fun zz => Inv_2 zz.1 zz.2.1 zz.2.2.1 zz.2.2.2) (fun zz => mu_2 zz.1 zz.2.1 zz.2.2.1 zz.2.2.2) (fun zz => ⟨[(0, .sv (.one (I letters))), (2, .sv (.one (.rd (fvR (fun (x : (TwoTable × Int)) => [.sv (.agg [I x.1.fE0, I x.1.fE1, I x.1.fE2, I x.1.fE3, I x.1.fE4]), .sv (.one (I x.2))]) (fun (r : TwoTable) => .sv (.agg [I r.fE0, I r.fE1, I r.fE2, I r.fE3, I r.fE4])) domgo go)))), (3, .sv (.one (.rd (fvR (fun (x : TwoTable) => [.sv (.agg [I x.fE0, I x.fE1, I x.fE2, I x.fE3, I x.fE4])]) (fun (r : Int) => .sv (.one (I r))) dommark mark)))), (4, .sv (.one (I limit))), (10, .sv (.one (.ptr 1 0))), (12, .sv (.one (.ptr 2 0))), (13, .sv (.one (.own 3))), (14, .sv (.one (.own 4))), (15, .sv (.one (.ptr 10 0))), (16, .sv (.one (.own 11))), (42, .sv (.one (I letters))), (43, .sv (.one (I zz.1)))], [.gone, .box [I 0, I 0, .v (.slice none 0 0), .v (.slice none 0 0)] 25 false, .box [I letters, I 0, .own 8, .own 9] 25 false, mapI TwoTable.enc intT zz.2.1, rowI 120 TwoTable.ty zz.2.2.1, .gone, .gone, .gone, rowI 23 (lsT intT) l8, rowI 3 intT l9, .box [I e.fE0, I e.fE1, I e.fE2, I e.fE3, I e.fE4] 120 false, rowI 3 intT zz.2.2.2]⟩) (0, m3, l4, (List.replicate (letters).toNat (0 : Int))) h0 (sub_ok (by kernel_rfl)) ?_
    rintro ⟨x43, m3_2, l4_2, l11⟩ h
    replace h := hI _ _ _ _ h
    show En c ⟨[(0, .sv (.one (I letters))), (2, .sv (.one (.rd (fvR (fun (x : (TwoTable × Int)) => [.sv (.agg [I x.1.fE0, I x.1.fE1, I x.1.fE2, I x.1.fE3, I x.1.fE4]), .sv (.one (I x.2))]) (fun (r : TwoTable) => .sv (.agg [I r.fE0, I r.fE1, I r.fE2, I r.fE3, I r.fE4])) domgo go)))), (3, .sv (.one (.rd (fvR (fun (x : TwoTable) => [.sv (.agg [I x.fE0, I x.fE1, I x.fE2, I x.fE3, I x.fE4])]) (fun (r : Int) => .sv (.one (I r))) dommark mark)))), (4, .sv (.one (I limit))), (10, .sv (.one (.ptr 1 0))), (12, .sv (.one (.ptr 2 0))), (13, .sv (.one (.own 3))), (14, .sv (.one (.own 4))), (15, .sv (.one (.ptr 10 0))), (16, .sv (.one (.own 11))), (42, .sv (.one (I letters))), (43, .sv (.one (I x43)))], [.gone, .box [I 0, I 0, .v (.slice none 0 0), .v (.slice none 0 0)] 25 false, .box [I letters, I 0, .own 8, .own 9] 25 false, mapI TwoTable.enc intT m3_2, rowI 120 TwoTable.ty l4_2, .gone, .gone, .gone, rowI 23 (lsT intT) l8, rowI 3 intT l9, .box [I e.fE0, I e.fE1, I e.fE2, I e.fE3, I e.fE4] 120 false, rowI 3 intT l11]⟩ _
    refine En.seq ?_
    refine En.region ?_
    refine WL.run ht hn 1 ⟨[(0, .sv (.one (I letters))), (2, .sv (.one (.rd (fvR (fun (x : (TwoTable × Int)) => [.sv (.agg [I x.1.fE0, I x.1.fE1, I x.1.fE2, I x.1.fE3, I x.1.fE4]), .sv (.one (I x.2))]) (fun (r : TwoTable) => .sv (.agg [I r.fE0, I r.fE1, I r.fE2, I r.fE3, I r.fE4])) domgo go)))), (3, .sv (.one (.rd (fvR (fun (x : TwoTable) => [.sv (.agg [I x.fE0, I x.fE1, I x.fE2, I x.fE3, I x.fE4])]) (fun (r : Int) => .sv (.one (I r))) dommark mark)))), (4, .sv (.one (I limit))), (10, .sv (.one (.ptr 1 0))), (12, .sv (.one (.ptr 2 0))), (13, .sv (.one (.own 3))), (14, .sv (.one (.own 4))), (15, .sv (.one (.ptr 10 0))), (16, .sv (.one (.own 11))), (42, .sv (.one (I letters))), (43, .sv (.one (I x43))), (44, .sv (.one (B (decide (x43 < letters)))))], [.gone, .box [I 0, I 0, .v (.slice none 0 0), .v (.slice none 0 0)] 25 false, .box [I letters, I 0, .own 8, .own 9] 25 false, mapI TwoTable.enc intT m3_2, rowI 120 TwoTable.ty l4_2, .gone, .gone, .gone, rowI 23 (lsT intT) l8, rowI 3 intT l9, .box [I e.fE0, I e.fE1, I e.fE2, I e.fE3, I e.fE4] 120 false, rowI 3 intT l11]⟩ (by kernel_rfl) ?_
    refine WL.nil ?_
    refine En.seq ?_
    refine En.cond (b := (decide (x43 < letters))) (by kernel_rfl) (fun hb => ?_) (fun hb => ?_)
    · replace h := h.1 hb
      refine En.skip ?_
      refine En.seq ?_
      refine En.block ?_
      refine En.seq ?_
      refine En.region ?_
      refine WL.run ht hn 2 ⟨[(0, .sv (.one (I letters))), (2, .sv (.one (.rd (fvR (fun (x : (TwoTable × Int)) => [.sv (.agg [I x.1.fE0, I x.1.fE1, I x.1.fE2, I x.1.fE3, I x.1.fE4]), .sv (.one (I x.2))]) (fun (r : TwoTable) => .sv (.agg [I r.fE0, I r.fE1, I r.fE2, I r.fE3, I r.fE4])) domgo go)))), (3, .sv (.one (.rd (fvR (fun (x : TwoTable) => [.sv (.agg [I x.fE0, I x.fE1, I x.fE2, I x.fE3, I x.fE4])]) (fun (r : Int) => .sv (.one (I r))) dommark mark)))), (4, .sv (.one (I limit))), (10, .sv (.one (.ptr 1 0))), (12, .sv (.one (.ptr 2 0))), (13, .sv (.one (.own 3))), (14, .sv (.one (.own 4))), (15, .sv (.one (.ptr 10 0))), (16, .sv (.one (.own 11))), (17, .sv (.one (I x43))), (42, .sv (.one (I letters))), (43, .sv (.one (I x43)))], [.gone, .box [I 0, I 0, .v (.slice none 0 0), .v (.slice none 0 0)] 25 false, .box [I letters, I 0, .own 8, .own 9] 25 false, mapI TwoTable.enc intT m3_2, rowI 120 TwoTable.ty l4_2, .gone, .gone, .gone, rowI 23 (lsT intT) l8, rowI 3 intT l9, .box [I e.fE0, I e.fE1, I e.fE2, I e.fE3, I e.fE4] 120 false, rowI 3 intT l11]⟩ (by kernel_rfl) ?_
      refine WL.nil ?_
      refine En.seq ?_
      refine En.region ?_
      refine WL.run ht hn 3 ⟨[(0, .sv (.one (I letters))), (2, .sv (.one (.rd (fvR (fun (x : (TwoTable × Int)) => [.sv (.agg [I x.1.fE0, I x.1.fE1, I x.1.fE2, I x.1.fE3, I x.1.fE4]), .sv (.one (I x.2))]) (fun (r : TwoTable) => .sv (.agg [I r.fE0, I r.fE1, I r.fE2, I r.fE3, I r.fE4])) domgo go)))), (3, .sv (.one (.rd (fvR (fun (x : TwoTable) => [.sv (.agg [I x.fE0, I x.fE1, I x.fE2, I x.fE3, I x.fE4])]) (fun (r : Int) => .sv (.one (I r))) dommark mark)))), (4, .sv (.one (I limit))), (10, .sv (.one (.ptr 1 0))), (12, .sv (.one (.ptr 2 0))), (13, .sv (.one (.own 3))), (14, .sv (.one (.own 4))), (15, .sv (.one (.ptr 10 0))), (16, .sv (.one (.own 11))), (17, .sv (.one (I x43))), (42, .sv (.one (I letters))), (43, .sv (.one (I x43))), (46, .sv (.one (.rd (fvR (fun (x : (TwoTable × Int)) => [.sv (.agg [I x.1.fE0, I x.1.fE1, I x.1.fE2, I x.1.fE3, I x.1.fE4]), .sv (.one (I x.2))]) (fun (r : TwoTable) => .sv (.agg [I r.fE0, I r.fE1, I r.fE2, I r.fE3, I r.fE4])) domgo go)))), (47, .sv (.agg [I e.fE0, I e.fE1, I e.fE2, I e.fE3, I e.fE4])), (48, .sv (.one (I x43)))], [.gone, .box [I 0, I 0, .v (.slice none 0 0), .v (.slice none 0 0)] 25 false, .box [I letters, I 0, .own 8, .own 9] 25 false, mapI TwoTable.enc intT m3_2, rowI 120 TwoTable.ty l4_2, .gone, .gone, .gone, rowI 23 (lsT intT) l8, rowI 3 intT l9, .box [I e.fE0, I e.fE1, I e.fE2, I e.fE3, I e.fE4] 120 false, rowI 3 intT l11]⟩ (by kernel_rfl) ?_
      have hp := h.1
      replace h := h.2
      refine WL.mt0 (K := []) (p := none) hn (by rfl) (mt_callv (e, x43) hp rfl (by rfl) (by rfl) (by rfl) (by rfl)) (by rfl) (by rfl) (by rfl) ?_
      refine WL.run ht hn 2 ⟨[(0, .sv (.one (I letters))), (2, .sv (.one (.rd (fvR (fun (x : (TwoTable × Int)) => [.sv (.agg [I x.1.fE0, I x.1.fE1, I x.1.fE2, I x.1.fE3, I x.1.fE4]), .sv (.one (I x.2))]) (fun (r : TwoTable) => .sv (.agg [I r.fE0, I r.fE1, I r.fE2, I r.fE3, I r.fE4])) domgo go)))), (3, .sv (.one (.rd (fvR (fun (x : TwoTable) => [.sv (.agg [I x.fE0, I x.fE1, I x.fE2, I x.fE3, I x.fE4])]) (fun (r : Int) => .sv (.one (I r))) dommark mark)))), (4, .sv (.one (I limit))), (10, .sv (.one (.ptr 1 0))), (12, .sv (.one (.ptr 2 0))), (13, .sv (.one (.own 3))), (14, .sv (.one (.own 4))), (15, .sv (.one (.ptr 10 0))), (16, .sv (.one (.own 11))), (17, .sv (.one (I x43))), (18, .sv (.one (.ptr 12 0))), (42, .sv (.one (I letters))), (43, .sv (.one (I x43)))], [.gone, .box [I 0, I 0, .v (.slice none 0 0), .v (.slice none 0 0)] 25 false, .box [I letters, I 0, .own 8, .own 9] 25 false, mapI TwoTable.enc intT m3_2, rowI 120 TwoTable.ty l4_2, .gone, .gone, .gone, rowI 23 (lsT intT) l8, rowI 3 intT l9, .box [I e.fE0, I e.fE1, I e.fE2, I e.fE3, I e.fE4] 120 false, rowI 3 intT l11, .box [I (go (e, x43)).fE0, I (go (e, x43)).fE1, I (go (e, x43)).fE2, I (go (e, x43)).fE3, I (go (e, x43)).fE4] 120 false]⟩ (by kernel_rfl) ?_
      refine WL.nil ?_
      refine En.seq ?_
      refine En.region ?_
      refine WL.run ht hn 2 ⟨[(0, .sv (.one (I letters))), (2, .sv (.one (.rd (fvR (fun (x : (TwoTable × Int)) => [.sv (.agg [I x.1.fE0, I x.1.fE1, I x.1.fE2, I x.1.fE3, I x.1.fE4]), .sv (.one (I x.2))]) (fun (r : TwoTable) => .sv (.agg [I r.fE0, I r.fE1, I r.fE2, I r.fE3, I r.fE4])) domgo go)))), (3, .sv (.one (.rd (fvR (fun (x : TwoTable) => [.sv (.agg [I x.fE0, I x.fE1, I x.fE2, I x.fE3, I x.fE4])]) (fun (r : Int) => .sv (.one (I r))) dommark mark)))), (4, .sv (.one (I limit))), (10, .sv (.one (.ptr 1 0))), (12, .sv (.one (.ptr 2 0))), (13, .sv (.one (.own 3))), (14, .sv (.one (.own 4))), (15, .sv (.one (.ptr 10 0))), (16, .sv (.one (.own 11))), (17, .sv (.one (I x43))), (18, .sv (.one (.ptr 12 0))), (42, .sv (.one (I letters))), (43, .sv (.one (I x43))), (51, .sv (.one (.own 3))), (52, .sv (.agg [I (go (e, x43)).fE0, I (go (e, x43)).fE1, I (go (e, x43)).fE2, I (go (e, x43)).fE3, I (go (e, x43)).fE4]))], [.gone, .box [I 0, I 0, .v (.slice none 0 0), .v (.slice none 0 0)] 25 false, .box [I letters, I 0, .own 8, .own 9] 25 false, mapI TwoTable.enc intT m3_2, rowI 120 TwoTable.ty l4_2, .gone, .gone, .gone, rowI 23 (lsT intT) l8, rowI 3 intT l9, .box [I e.fE0, I e.fE1, I e.fE2, I e.fE3, I e.fE4] 120 false, rowI 3 intT l11, .box [I (go (e, x43)).fE0, I (go (e, x43)).fE1, I (go (e, x43)).fE2, I (go (e, x43)).fE3, I (go (e, x43)).fE4] 120 false]⟩ (by kernel_rfl) ?_
      refine WL.val hn (by rfl) (val_lookup (T := intT) (D := m3_2) TwoTable.keyLaw (k := (go (e, x43))) (ok := true) (0 : Int) (zv := (.int .i64 0)) rfl Try.underlying191 (fun _ => by kernel_rfl) (fun _ => ⟨rfl, trivial⟩) (mapAs TwoTable.enc intT m3_2) (by rfl) (by rfl) (by rfl) (fun _ => rfl)) (by rfl) ?_
      refine WL.run ht hn 5 ⟨[(0, .sv (.one (I letters))), (2, .sv (.one (.rd (fvR (fun (x : (TwoTable × Int)) => [.sv (.agg [I x.1.fE0, I x.1.fE1, I x.1.fE2, I x.1.fE3, I x.1.fE4]), .sv (.one (I x.2))]) (fun (r : TwoTable) => .sv (.agg [I r.fE0, I r.fE1, I r.fE2, I r.fE3, I r.fE4])) domgo go)))), (3, .sv (.one (.rd (fvR (fun (x : TwoTable) => [.sv (.agg [I x.fE0, I x.fE1, I x.fE2, I x.fE3, I x.fE4])]) (fun (r : Int) => .sv (.one (I r))) dommark mark)))), (4, .sv (.one (I limit))), (10, .sv (.one (.ptr 1 0))), (12, .sv (.one (.ptr 2 0))), (13, .sv (.one (.own 3))), (14, .sv (.one (.own 4))), (15, .sv (.one (.ptr 10 0))), (16, .sv (.one (.own 11))), (17, .sv (.one (I x43))), (18, .sv (.one (.ptr 12 0))), (19, .sv (.one (I ((mget (go (e, x43)) m3_2).getD (0 : Int))))), (20, .sv (.one (B (mget (go (e, x43)) m3_2).isSome))), (42, .sv (.one (I letters))), (43, .sv (.one (I x43)))], [.gone, .box [I 0, I 0, .v (.slice none 0 0), .v (.slice none 0 0)] 25 false, .box [I letters, I 0, .own 8, .own 9] 25 false, mapI TwoTable.enc intT m3_2, rowI 120 TwoTable.ty l4_2, .gone, .gone, .gone, rowI 23 (lsT intT) l8, rowI 3 intT l9, .box [I e.fE0, I e.fE1, I e.fE2, I e.fE3, I e.fE4] 120 false, rowI 3 intT l11, .box [I (go (e, x43)).fE0, I (go (e, x43)).fE1, I (go (e, x43)).fE2, I (go (e, x43)).fE3, I (go (e, x43)).fE4] 120 false]⟩ (by kernel_rfl) ?_
      refine WL.nil ?_
      obtain ⟨J, h, hJ⟩ := h
      refine En.seqJ (σ := Int × (List (TwoTable × Int)) × (List TwoTable)) (fun zz => J zz.1 zz.2.1 zz.2.2) (fun zz => ⟨[(0, .sv (.one (I letters))), (2, .sv (.one (.rd (fvR (fun (x : (TwoTable × Int)) => [.sv (.agg [I x.1.fE0, I x.1.fE1, I x.1.fE2, I x.1.fE3, I x.1.fE4]), .sv (.one (I x.2))]) (fun (r : TwoTable) => .sv (.agg [I r.fE0, I r.fE1, I r.fE2, I r.fE3, I r.fE4])) domgo go)))), (3, .sv (.one (.rd (fvR (fun (x : TwoTable) => [.sv (.agg [I x.fE0, I x.fE1, I x.fE2, I x.fE3, I x.fE4])]) (fun (r : Int) => .sv (.one (I r))) dommark mark)))), (4, .sv (.one (I limit))), (10, .sv (.one (.ptr 1 0))), (12, .sv (.one (.ptr 2 0))), (13, .sv (.one (.own 3))), (14, .sv (.one (.own 4))), (15, .sv (.one (.ptr 10 0))), (16, .sv (.one (.own 11))), (17, .sv (.one (I x43))), (19, .sv (.one (I zz.1))), (42, .sv (.one (I letters))), (43, .sv (.one (I x43)))], [.gone, .box [I 0, I 0, .v (.slice none 0 0), .v (.slice none 0 0)] 25 false, .box [I letters, I 0, .own 8, .own 9] 25 false, mapI TwoTable.enc intT zz.2.1, rowI 120 TwoTable.ty zz.2.2, .gone, .gone, .gone, rowI 23 (lsT intT) l8, rowI 3 intT l9, .box [I e.fE0, I e.fE1, I e.fE2, I e.fE3, I e.fE4] 120 false, rowI 3 intT l11, .gone]⟩) ?_ ?_
      · refine En.seq ?_
        refine En.region ?_
        refine WL.run ht hn 2 ⟨[(0, .sv (.one (I letters))), (2, .sv (.one (.rd (fvR (fun (x : (TwoTable × Int)) => [.sv (.agg [I x.1.fE0, I x.1.fE1, I x.1.fE2, I x.1.fE3, I x.1.fE4]), .sv (.one (I x.2))]) (fun (r : TwoTable) => .sv (.agg [I r.fE0, I r.fE1, I r.fE2, I r.fE3, I r.fE4])) domgo go)))), (3, .sv (.one (.rd (fvR (fun (x : TwoTable) => [.sv (.agg [I x.fE0, I x.fE1, I x.fE2, I x.fE3, I x.fE4])]) (fun (r : Int) => .sv (.one (I r))) dommark mark)))), (4, .sv (.one (I limit))), (10, .sv (.one (.ptr 1 0))), (12, .sv (.one (.ptr 2 0))), (13, .sv (.one (.own 3))), (14, .sv (.one (.own 4))), (15, .sv (.one (.ptr 10 0))), (16, .sv (.one (.own 11))), (17, .sv (.one (I x43))), (18, .sv (.one (.ptr 12 0))), (19, .sv (.one (I ((mget (go (e, x43)) m3_2).getD (0 : Int))))), (42, .sv (.one (I letters))), (43, .sv (.one (I x43))), (57, .sv (.one (B (!(mget (go (e, x43)) m3_2).isSome))))], [.gone, .box [I 0, I 0, .v (.slice none 0 0), .v (.slice none 0 0)] 25 false, .box [I letters, I 0, .own 8, .own 9] 25 false, mapI TwoTable.enc intT m3_2, rowI 120 TwoTable.ty l4_2, .gone, .gone, .gone, rowI 23 (lsT intT) l8, rowI 3 intT l9, .box [I e.fE0, I e.fE1, I e.fE2, I e.fE3, I e.fE4] 120 false, rowI 3 intT l11, .box [I (go (e, x43)).fE0, I (go (e, x43)).fE1, I (go (e, x43)).fE2, I (go (e, x43)).fE3, I (go (e, x43)).fE4] 120 false]⟩ (by kernel_rfl) ?_
        refine WL.nil ?_
        refine En.cond (b := (!(mget (go (e, x43)) m3_2).isSome)) (by kernel_rfl) (fun hb => ?_) (fun hb => ?_)
        · replace h := h.1 hb
          refine En.seq ?_
          refine En.region ?_
          refine WL.run ht hn 3 ⟨[(0, .sv (.one (I letters))), (2, .sv (.one (.rd (fvR (fun (x : (TwoTable × Int)) => [.sv (.agg [I x.1.fE0, I x.1.fE1, I x.1.fE2, I x.1.fE3, I x.1.fE4]), .sv (.one (I x.2))]) (fun (r : TwoTable) => .sv (.agg [I r.fE0, I r.fE1, I r.fE2, I r.fE3, I r.fE4])) domgo go)))), (3, .sv (.one (.rd (fvR (fun (x : TwoTable) => [.sv (.agg [I x.fE0, I x.fE1, I x.fE2, I x.fE3, I x.fE4])]) (fun (r : Int) => .sv (.one (I r))) dommark mark)))), (4, .sv (.one (I limit))), (10, .sv (.one (.ptr 1 0))), (12, .sv (.one (.ptr 2 0))), (13, .sv (.one (.own 3))), (14, .sv (.one (.own 4))), (15, .sv (.one (.ptr 10 0))), (16, .sv (.one (.own 11))), (17, .sv (.one (I x43))), (18, .sv (.one (.ptr 12 0))), (19, .sv (.one (I (l4_2.length : Int)))), (42, .sv (.one (I letters))), (43, .sv (.one (I x43)))], [.gone, .box [I 0, I 0, .v (.slice none 0 0), .v (.slice none 0 0)] 25 false, .box [I letters, I 0, .own 8, .own 9] 25 false, mapI TwoTable.enc intT m3_2, rowI 120 TwoTable.ty l4_2, .gone, .gone, .gone, rowI 23 (lsT intT) l8, rowI 3 intT l9, .box [I e.fE0, I e.fE1, I e.fE2, I e.fE3, I e.fE4] 120 false, rowI 3 intT l11, .box [I (go (e, x43)).fE0, I (go (e, x43)).fE1, I (go (e, x43)).fE2, I (go (e, x43)).fE3, I (go (e, x43)).fE4] 120 false]⟩ (by kernel_rfl) ?_
          refine WL.nil ?_
          refine En.seq ?_
          refine En.seq ?_
          refine En.region ?_
          refine WL.run ht hn 3 ⟨[(0, .sv (.one (I letters))), (2, .sv (.one (.rd (fvR (fun (x : (TwoTable × Int)) => [.sv (.agg [I x.1.fE0, I x.1.fE1, I x.1.fE2, I x.1.fE3, I x.1.fE4]), .sv (.one (I x.2))]) (fun (r : TwoTable) => .sv (.agg [I r.fE0, I r.fE1, I r.fE2, I r.fE3, I r.fE4])) domgo go)))), (3, .sv (.one (.rd (fvR (fun (x : TwoTable) => [.sv (.agg [I x.fE0, I x.fE1, I x.fE2, I x.fE3, I x.fE4])]) (fun (r : Int) => .sv (.one (I r))) dommark mark)))), (4, .sv (.one (I limit))), (10, .sv (.one (.ptr 1 0))), (12, .sv (.one (.ptr 2 0))), (13, .sv (.one (.own 3))), (14, .sv (.one (.own 4))), (15, .sv (.one (.ptr 10 0))), (16, .sv (.one (.own 11))), (17, .sv (.one (I x43))), (18, .sv (.one (.ptr 12 0))), (19, .sv (.one (I (l4_2.length : Int)))), (42, .sv (.one (I letters))), (43, .sv (.one (I x43))), (62, .sv (.one (B ((l4_2.length : Int) == limit))))], [.gone, .box [I 0, I 0, .v (.slice none 0 0), .v (.slice none 0 0)] 25 false, .box [I letters, I 0, .own 8, .own 9] 25 false, mapI TwoTable.enc intT m3_2, rowI 120 TwoTable.ty l4_2, .gone, .gone, .gone, rowI 23 (lsT intT) l8, rowI 3 intT l9, .box [I e.fE0, I e.fE1, I e.fE2, I e.fE3, I e.fE4] 120 false, rowI 3 intT l11, .box [I (go (e, x43)).fE0, I (go (e, x43)).fE1, I (go (e, x43)).fE2, I (go (e, x43)).fE3, I (go (e, x43)).fE4] 120 false]⟩ (by kernel_rfl) ?_
          refine WL.nil ?_
          refine En.cond (b := ((l4_2.length : Int) == limit)) (by kernel_rfl) (fun hb => ?_) (fun hb => ?_)
          · replace h := h.1 hb
            refine En.seq ?_
            refine En.region ?_
            refine WL.run ht hn 3 ⟨[(10, .sv (.one (.ptr 1 0))), (11, .sv (.one (B false)))], [.gone, .box [I 0, I 0, .v (.slice none 0 0), .v (.slice none 0 0)] 25 false, .gone, .gone, .gone, .gone, .gone, .gone, .gone, .gone, .gone, .gone, .gone]⟩ (by kernel_rfl) ?_
            refine WL.nil ?_
            refine En.ret ?_
            refine En.nilBox (T := (lsT intT)) 1 2 (by rfl) (by rfl) ?_
            refine En.nilBox (T := intT) 1 3 (by rfl) (by rfl) ?_
            exact En.back ht ((ApiDet.mk 0 0 [] []), false) h (by kernel_rfl) rfl
          · replace h := h.2 hb
            refine En.skip ?_
            refine En.seq ?_
            refine En.region ?_
            refine WL.run ht hn 3 ⟨[(0, .sv (.one (I letters))), (2, .sv (.one (.rd (fvR (fun (x : (TwoTable × Int)) => [.sv (.agg [I x.1.fE0, I x.1.fE1, I x.1.fE2, I x.1.fE3, I x.1.fE4]), .sv (.one (I x.2))]) (fun (r : TwoTable) => .sv (.agg [I r.fE0, I r.fE1, I r.fE2, I r.fE3, I r.fE4])) domgo go)))), (3, .sv (.one (.rd (fvR (fun (x : TwoTable) => [.sv (.agg [I x.fE0, I x.fE1, I x.fE2, I x.fE3, I x.fE4])]) (fun (r : Int) => .sv (.one (I r))) dommark mark)))), (4, .sv (.one (I limit))), (10, .sv (.one (.ptr 1 0))), (12, .sv (.one (.ptr 2 0))), (13, .sv (.one (.own 3))), (14, .sv (.one (.own 4))), (15, .sv (.one (.ptr 10 0))), (16, .sv (.one (.own 11))), (17, .sv (.one (I x43))), (18, .sv (.one (.ptr 12 0))), (19, .sv (.one (I (l4_2.length : Int)))), (42, .sv (.one (I letters))), (43, .sv (.one (I x43))), (64, .sv (.one (.own 3))), (65, .sv (.agg [I (go (e, x43)).fE0, I (go (e, x43)).fE1, I (go (e, x43)).fE2, I (go (e, x43)).fE3, I (go (e, x43)).fE4])), (66, .sv (.one (I (l4_2.length : Int))))], [.gone, .box [I 0, I 0, .v (.slice none 0 0), .v (.slice none 0 0)] 25 false, .box [I letters, I 0, .own 8, .own 9] 25 false, mapI TwoTable.enc intT m3_2, rowI 120 TwoTable.ty l4_2, .gone, .gone, .gone, rowI 23 (lsT intT) l8, rowI 3 intT l9, .box [I e.fE0, I e.fE1, I e.fE2, I e.fE3, I e.fE4] 120 false, rowI 3 intT l11, .box [I (go (e, x43)).fE0, I (go (e, x43)).fE1, I (go (e, x43)).fE2, I (go (e, x43)).fE3, I (go (e, x43)).fE4] 120 false]⟩ (by kernel_rfl) ?_
            refine WL.mapPut (T := intT) TwoTable.keyLaw (k := (go (e, x43))) (y := (l4_2.length : Int)) hn (by rfl) (.inl rfl) Try.underlying191 (by rfl) (by rfl) (by rfl) (by rfl) (by rfl) (by rfl) ?_
            refine WL.nil ?_
            refine En.region ?_
            refine WL.run ht hn 2 ⟨[(0, .sv (.one (I letters))), (2, .sv (.one (.rd (fvR (fun (x : (TwoTable × Int)) => [.sv (.agg [I x.1.fE0, I x.1.fE1, I x.1.fE2, I x.1.fE3, I x.1.fE4]), .sv (.one (I x.2))]) (fun (r : TwoTable) => .sv (.agg [I r.fE0, I r.fE1, I r.fE2, I r.fE3, I r.fE4])) domgo go)))), (3, .sv (.one (.rd (fvR (fun (x : TwoTable) => [.sv (.agg [I x.fE0, I x.fE1, I x.fE2, I x.fE3, I x.fE4])]) (fun (r : Int) => .sv (.one (I r))) dommark mark)))), (4, .sv (.one (I limit))), (10, .sv (.one (.ptr 1 0))), (12, .sv (.one (.ptr 2 0))), (13, .sv (.one (.own 3))), (15, .sv (.one (.ptr 10 0))), (16, .sv (.one (.own 11))), (17, .sv (.one (I x43))), (19, .sv (.one (I (l4_2.length : Int)))), (42, .sv (.one (I letters))), (43, .sv (.one (I x43))), (67, .sv (.one (.own 4))), (68, .sv (.agg [I (go (e, x43)).fE0, I (go (e, x43)).fE1, I (go (e, x43)).fE2, I (go (e, x43)).fE3, I (go (e, x43)).fE4]))], [.gone, .box [I 0, I 0, .v (.slice none 0 0), .v (.slice none 0 0)] 25 false, .box [I letters, I 0, .own 8, .own 9] 25 false, mapI TwoTable.enc intT (mput (go (e, x43)) (l4_2.length : Int) m3_2), rowI 120 TwoTable.ty l4_2, .gone, .gone, .gone, rowI 23 (lsT intT) l8, rowI 3 intT l9, .box [I e.fE0, I e.fE1, I e.fE2, I e.fE3, I e.fE4] 120 false, rowI 3 intT l11, .gone]⟩ (by kernel_rfl) ?_
            refine WL.mt0 (K := []) (p := some (13, rowI 120 TwoTable.ty ([(go (e, x43))] : (List TwoTable)))) hn (by rfl) (mt_lit (T := TwoTable.ty) ([(go (e, x43))] : (List TwoTable)) (mt_bsl 13 (r := cellsOf TwoTable.ty ([(go (e, x43))] : (List TwoTable))) ht rfl (by rfl) (by rfl) (by rfl) (by kernel_rfl) (by rfl)) (fun _ h => by cases h) (fun _ => rfl) (fun _ => rfl) (by rfl) (Nat.le_of_ble_eq_true rfl)) (by rfl) (by rfl) (by rfl) ?_
            refine WL.seal (T := TwoTable.ty) (l := ([(go (e, x43))] : (List TwoTable))) (e := 120) 13 rfl ?_
            refine WL.run ht hn 0 ⟨[(0, .sv (.one (I letters))), (2, .sv (.one (.rd (fvR (fun (x : (TwoTable × Int)) => [.sv (.agg [I x.1.fE0, I x.1.fE1, I x.1.fE2, I x.1.fE3, I x.1.fE4]), .sv (.one (I x.2))]) (fun (r : TwoTable) => .sv (.agg [I r.fE0, I r.fE1, I r.fE2, I r.fE3, I r.fE4])) domgo go)))), (3, .sv (.one (.rd (fvR (fun (x : TwoTable) => [.sv (.agg [I x.fE0, I x.fE1, I x.fE2, I x.fE3, I x.fE4])]) (fun (r : Int) => .sv (.one (I r))) dommark mark)))), (4, .sv (.one (I limit))), (10, .sv (.one (.ptr 1 0))), (12, .sv (.one (.ptr 2 0))), (13, .sv (.one (.own 3))), (15, .sv (.one (.ptr 10 0))), (16, .sv (.one (.own 11))), (17, .sv (.one (I x43))), (19, .sv (.one (I (l4_2.length : Int)))), (42, .sv (.one (I letters))), (43, .sv (.one (I x43))), (67, .sv (.one (.own 4))), (68, .sv (.agg [I (go (e, x43)).fE0, I (go (e, x43)).fE1, I (go (e, x43)).fE2, I (go (e, x43)).fE3, I (go (e, x43)).fE4])), (69, .sv (.one (LS TwoTable.ty ([(go (e, x43))] : (List TwoTable)))))], [.gone, .box [I 0, I 0, .v (.slice none 0 0), .v (.slice none 0 0)] 25 false, .box [I letters, I 0, .own 8, .own 9] 25 false, mapI TwoTable.enc intT (mput (go (e, x43)) (l4_2.length : Int) m3_2), rowI 120 TwoTable.ty l4_2, .gone, .gone, .gone, rowI 23 (lsT intT) l8, rowI 3 intT l9, .box [I e.fE0, I e.fE1, I e.fE2, I e.fE3, I e.fE4] 120 false, rowI 3 intT l11, .gone, .gone]⟩ (by kernel_rfl) ?_
            have hp := h.1
            replace h := h.2
            refine WL.mt (S2 := ⟨[(0, .sv (.one (I letters))), (2, .sv (.one (.rd (fvR (fun (x : (TwoTable × Int)) => [.sv (.agg [I x.1.fE0, I x.1.fE1, I x.1.fE2, I x.1.fE3, I x.1.fE4]), .sv (.one (I x.2))]) (fun (r : TwoTable) => .sv (.agg [I r.fE0, I r.fE1, I r.fE2, I r.fE3, I r.fE4])) domgo go)))), (3, .sv (.one (.rd (fvR (fun (x : TwoTable) => [.sv (.agg [I x.fE0, I x.fE1, I x.fE2, I x.fE3, I x.fE4])]) (fun (r : Int) => .sv (.one (I r))) dommark mark)))), (4, .sv (.one (I limit))), (10, .sv (.one (.ptr 1 0))), (12, .sv (.one (.ptr 2 0))), (13, .sv (.one (.own 3))), (15, .sv (.one (.ptr 10 0))), (16, .sv (.one (.own 11))), (17, .sv (.one (I x43))), (19, .sv (.one (I (l4_2.length : Int)))), (42, .sv (.one (I letters))), (43, .sv (.one (I x43))), (68, .sv (.agg [I (go (e, x43)).fE0, I (go (e, x43)).fE1, I (go (e, x43)).fE2, I (go (e, x43)).fE3, I (go (e, x43)).fE4])), (69, .sv (.one (LS TwoTable.ty ([(go (e, x43))] : (List TwoTable)))))], [.gone, .box [I 0, I 0, .v (.slice none 0 0), .v (.slice none 0 0)] 25 false, .box [I letters, I 0, .own 8, .own 9] 25 false, mapI TwoTable.enc intT (mput (go (e, x43)) (l4_2.length : Int) m3_2), rowI 120 TwoTable.ty l4_2, .gone, .gone, .gone, rowI 23 (lsT intT) l8, rowI 3 intT l9, .box [I e.fE0, I e.fE1, I e.fE2, I e.fE3, I e.fE4] 120 false, rowI 3 intT l11, .gone, .gone]⟩) (K := [4]) (p := some (4, rowI 120 TwoTable.ty (l4_2 ++ ([(go (e, x43))] : (List TwoTable))))) hn (by rfl) (mt_append (T := TwoTable.ty) (l := l4_2) (es := ([(go (e, x43))] : (List TwoTable))) ht rfl (by rfl) (by rfl) (by rfl) (by rfl) (by decide) (by rfl) (by rfl) (srcLS (T := TwoTable.ty) (es := ([(go (e, x43))] : (List TwoTable))) (fun _ h => by cases h) (by decide) (by rfl)) (by exact hp) (by exact hp.le (by decide))) (by kernel_rfl) (by rfl) (by rfl) (by rfl) ?_
            refine WL.run ht hn 1 ⟨[(0, .sv (.one (I letters))), (2, .sv (.one (.rd (fvR (fun (x : (TwoTable × Int)) => [.sv (.agg [I x.1.fE0, I x.1.fE1, I x.1.fE2, I x.1.fE3, I x.1.fE4]), .sv (.one (I x.2))]) (fun (r : TwoTable) => .sv (.agg [I r.fE0, I r.fE1, I r.fE2, I r.fE3, I r.fE4])) domgo go)))), (3, .sv (.one (.rd (fvR (fun (x : TwoTable) => [.sv (.agg [I x.fE0, I x.fE1, I x.fE2, I x.fE3, I x.fE4])]) (fun (r : Int) => .sv (.one (I r))) dommark mark)))), (4, .sv (.one (I limit))), (10, .sv (.one (.ptr 1 0))), (12, .sv (.one (.ptr 2 0))), (13, .sv (.one (.own 3))), (14, .sv (.one (.own 4))), (15, .sv (.one (.ptr 10 0))), (16, .sv (.one (.own 11))), (17, .sv (.one (I x43))), (19, .sv (.one (I (l4_2.length : Int)))), (42, .sv (.one (I letters))), (43, .sv (.one (I x43)))], [.gone, .box [I 0, I 0, .v (.slice none 0 0), .v (.slice none 0 0)] 25 false, .box [I letters, I 0, .own 8, .own 9] 25 false, mapI TwoTable.enc intT (mput (go (e, x43)) (l4_2.length : Int) m3_2), rowI 120 TwoTable.ty (l4_2 ++ ([(go (e, x43))] : (List TwoTable))), .gone, .gone, .gone, rowI 23 (lsT intT) l8, rowI 3 intT l9, .box [I e.fE0, I e.fE1, I e.fE2, I e.fE3, I e.fE4] 120 false, rowI 3 intT l11, .gone, .gone]⟩ (by kernel_rfl) ?_
            refine WL.nil ?_
            exact En.at (I := fun zz => J zz.1 zz.2.1 zz.2.2) (T := fun zz => ⟨[(0, .sv (.one (I letters))), (2, .sv (.one (.rd (fvR (fun (x : (TwoTable × Int)) => [.sv (.agg [I x.1.fE0, I x.1.fE1, I x.1.fE2, I x.1.fE3, I x.1.fE4]), .sv (.one (I x.2))]) (fun (r : TwoTable) => .sv (.agg [I r.fE0, I r.fE1, I r.fE2, I r.fE3, I r.fE4])) domgo go)))), (3, .sv (.one (.rd (fvR (fun (x : TwoTable) => [.sv (.agg [I x.fE0, I x.fE1, I x.fE2, I x.fE3, I x.fE4])]) (fun (r : Int) => .sv (.one (I r))) dommark mark)))), (4, .sv (.one (I limit))), (10, .sv (.one (.ptr 1 0))), (12, .sv (.one (.ptr 2 0))), (13, .sv (.one (.own 3))), (14, .sv (.one (.own 4))), (15, .sv (.one (.ptr 10 0))), (16, .sv (.one (.own 11))), (17, .sv (.one (I x43))), (19, .sv (.one (I zz.1))), (42, .sv (.one (I letters))), (43, .sv (.one (I x43)))], [.gone, .box [I 0, I 0, .v (.slice none 0 0), .v (.slice none 0 0)] 25 false, .box [I letters, I 0, .own 8, .own 9] 25 false, mapI TwoTable.enc intT zz.2.1, rowI 120 TwoTable.ty zz.2.2, .gone, .gone, .gone, rowI 23 (lsT intT) l8, rowI 3 intT l9, .box [I e.fE0, I e.fE1, I e.fE2, I e.fE3, I e.fE4] 120 false, rowI 3 intT l11, .gone]⟩) ((l4_2.length : Int), (mput (go (e, x43)) (l4_2.length : Int) m3_2), (l4_2 ++ ([(go (e, x43))] : (List TwoTable)))) h (by kernel_rfl)
        · replace h := h.2 hb
          refine En.skip ?_
          exact En.at (I := fun zz => J zz.1 zz.2.1 zz.2.2) (T := fun zz => ⟨[(0, .sv (.one (I letters))), (2, .sv (.one (.rd (fvR (fun (x : (TwoTable × Int)) => [.sv (.agg [I x.1.fE0, I x.1.fE1, I x.1.fE2, I x.1.fE3, I x.1.fE4]), .sv (.one (I x.2))]) (fun (r : TwoTable) => .sv (.agg [I r.fE0, I r.fE1, I r.fE2, I r.fE3, I r.fE4])) domgo go)))), (3, .sv (.one (.rd (fvR (fun (x : TwoTable) => [.sv (.agg [I x.fE0, I x.fE1, I x.fE2, I x.fE3, I x.fE4])]) (fun (r : Int) => .sv (.one (I r))) dommark mark)))), (4, .sv (.one (I limit))), (10, .sv (.one (.ptr 1 0))), (12, .sv (.one (.ptr 2 0))), (13, .sv (.one (.own 3))), (14, .sv (.one (.own 4))), (15, .sv (.one (.ptr 10 0))), (16, .sv (.one (.own 11))), (17, .sv (.one (I x43))), (19, .sv (.one (I zz.1))), (42, .sv (.one (I letters))), (43, .sv (.one (I x43)))], [.gone, .box [I 0, I 0, .v (.slice none 0 0), .v (.slice none 0 0)] 25 false, .box [I letters, I 0, .own 8, .own 9] 25 false, mapI TwoTable.enc intT zz.2.1, rowI 120 TwoTable.ty zz.2.2, .gone, .gone, .gone, rowI 23 (lsT intT) l8, rowI 3 intT l9, .box [I e.fE0, I e.fE1, I e.fE2, I e.fE3, I e.fE4] 120 false, rowI 3 intT l11, .gone]⟩) (((mget (go (e, x43)) m3_2).getD (0 : Int)), m3_2, l4_2) h (by kernel_rfl)
      · rintro ⟨x19, m3_3, l4_3⟩ h
        replace h := hJ _ _ _ h
        show En c ⟨[(0, .sv (.one (I letters))), (2, .sv (.one (.rd (fvR (fun (x : (TwoTable × Int)) => [.sv (.agg [I x.1.fE0, I x.1.fE1, I x.1.fE2, I x.1.fE3, I x.1.fE4]), .sv (.one (I x.2))]) (fun (r : TwoTable) => .sv (.agg [I r.fE0, I r.fE1, I r.fE2, I r.fE3, I r.fE4])) domgo go)))), (3, .sv (.one (.rd (fvR (fun (x : TwoTable) => [.sv (.agg [I x.fE0, I x.fE1, I x.fE2, I x.fE3, I x.fE4])]) (fun (r : Int) => .sv (.one (I r))) dommark mark)))), (4, .sv (.one (I limit))), (10, .sv (.one (.ptr 1 0))), (12, .sv (.one (.ptr 2 0))), (13, .sv (.one (.own 3))), (14, .sv (.one (.own 4))), (15, .sv (.one (.ptr 10 0))), (16, .sv (.one (.own 11))), (17, .sv (.one (I x43))), (19, .sv (.one (I x19))), (42, .sv (.one (I letters))), (43, .sv (.one (I x43)))], [.gone, .box [I 0, I 0, .v (.slice none 0 0), .v (.slice none 0 0)] 25 false, .box [I letters, I 0, .own 8, .own 9] 25 false, mapI TwoTable.enc intT m3_3, rowI 120 TwoTable.ty l4_3, .gone, .gone, .gone, rowI 23 (lsT intT) l8, rowI 3 intT l9, .box [I e.fE0, I e.fE1, I e.fE2, I e.fE3, I e.fE4] 120 false, rowI 3 intT l11, .gone]⟩ _
        refine En.region ?_
        refine WL.run ht hn 3 ⟨[(0, .sv (.one (I letters))), (2, .sv (.one (.rd (fvR (fun (x : (TwoTable × Int)) => [.sv (.agg [I x.1.fE0, I x.1.fE1, I x.1.fE2, I x.1.fE3, I x.1.fE4]), .sv (.one (I x.2))]) (fun (r : TwoTable) => .sv (.agg [I r.fE0, I r.fE1, I r.fE2, I r.fE3, I r.fE4])) domgo go)))), (3, .sv (.one (.rd (fvR (fun (x : TwoTable) => [.sv (.agg [I x.fE0, I x.fE1, I x.fE2, I x.fE3, I x.fE4])]) (fun (r : Int) => .sv (.one (I r))) dommark mark)))), (4, .sv (.one (I limit))), (10, .sv (.one (.ptr 1 0))), (12, .sv (.one (.ptr 2 0))), (13, .sv (.one (.own 3))), (14, .sv (.one (.own 4))), (15, .sv (.one (.ptr 10 0))), (16, .sv (.one (.own 11))), (42, .sv (.one (I letters))), (43, .sv (.one (I x43))), (71, .sv (.one (.own 11))), (72, .sv (.one (I x43))), (73, .sv (.one (I x19)))], [.gone, .box [I 0, I 0, .v (.slice none 0 0), .v (.slice none 0 0)] 25 false, .box [I letters, I 0, .own 8, .own 9] 25 false, mapI TwoTable.enc intT m3_3, rowI 120 TwoTable.ty l4_3, .gone, .gone, .gone, rowI 23 (lsT intT) l8, rowI 3 intT l9, .box [I e.fE0, I e.fE1, I e.fE2, I e.fE3, I e.fE4] 120 false, rowI 3 intT l11, .gone]⟩ (by kernel_rfl) ?_
        obtain ⟨e_2, he_2, h⟩ := h
        refine WL.val hn (by rfl) (val_indexO (T := intT) (l := l11) (k := x43) ht rfl (by rfl) (by rfl) (by rfl) (by rfl) (by decide) (by rfl) (by rfl) (by rfl) he_2) (by rfl) ?_
        refine WL.storeO (T := intT) (l := l11) (y := x19) ht hn (by rfl) rfl (by rfl) (by rfl) (fun _ h => by cases h) (by rfl) (by rfl) (idx_lt he_2) (by rfl) (by rfl) (by rfl) (by rfl) ?_
        refine WL.nil ?_
        refine En.region ?_
        refine WL.run ht hn 2 ⟨[(0, .sv (.one (I letters))), (2, .sv (.one (.rd (fvR (fun (x : (TwoTable × Int)) => [.sv (.agg [I x.1.fE0, I x.1.fE1, I x.1.fE2, I x.1.fE3, I x.1.fE4]), .sv (.one (I x.2))]) (fun (r : TwoTable) => .sv (.agg [I r.fE0, I r.fE1, I r.fE2, I r.fE3, I r.fE4])) domgo go)))), (3, .sv (.one (.rd (fvR (fun (x : TwoTable) => [.sv (.agg [I x.fE0, I x.fE1, I x.fE2, I x.fE3, I x.fE4])]) (fun (r : Int) => .sv (.one (I r))) dommark mark)))), (4, .sv (.one (I limit))), (10, .sv (.one (.ptr 1 0))), (12, .sv (.one (.ptr 2 0))), (13, .sv (.one (.own 3))), (14, .sv (.one (.own 4))), (15, .sv (.one (.ptr 10 0))), (16, .sv (.one (.own 11))), (42, .sv (.one (I letters))), (43, .sv (.one (I (wr (x43 + 1)))))], [.gone, .box [I 0, I 0, .v (.slice none 0 0), .v (.slice none 0 0)] 25 false, .box [I letters, I 0, .own 8, .own 9] 25 false, mapI TwoTable.enc intT m3_3, rowI 120 TwoTable.ty l4_3, .gone, .gone, .gone, rowI 23 (lsT intT) l8, rowI 3 intT l9, .box [I e.fE0, I e.fE1, I e.fE2, I e.fE3, I e.fE4] 120 false, rowI 3 intT (l11.set (x43).toNat x19), .gone]⟩ (by kernel_rfl) ?_
        refine WL.nil ?_
        exact En.at (I := fun zz => Inv_2 zz.1 zz.2.1 zz.2.2.1 zz.2.2.2 ∧ mu_2 zz.1 zz.2.1 zz.2.2.1 zz.2.2.2 < mu_2 x43 m3_2 l4_2 l11) (T := fun zz => ⟨[(0, .sv (.one (I letters))), (2, .sv (.one (.rd (fvR (fun (x : (TwoTable × Int)) => [.sv (.agg [I x.1.fE0, I x.1.fE1, I x.1.fE2, I x.1.fE3, I x.1.fE4]), .sv (.one (I x.2))]) (fun (r : TwoTable) => .sv (.agg [I r.fE0, I r.fE1, I r.fE2, I r.fE3, I r.fE4])) domgo go)))), (3, .sv (.one (.rd (fvR (fun (x : TwoTable) => [.sv (.agg [I x.fE0, I x.fE1, I x.fE2, I x.fE3, I x.fE4])]) (fun (r : Int) => .sv (.one (I r))) dommark mark)))), (4, .sv (.one (I limit))), (10, .sv (.one (.ptr 1 0))), (12, .sv (.one (.ptr 2 0))), (13, .sv (.one (.own 3))), (14, .sv (.one (.own 4))), (15, .sv (.one (.ptr 10 0))), (16, .sv (.one (.own 11))), (42, .sv (.one (I letters))), (43, .sv (.one (I zz.1)))], [.gone, .box [I 0, I 0, .v (.slice none 0 0), .v (.slice none 0 0)] 25 false, .box [I letters, I 0, .own 8, .own 9] 25 false, mapI TwoTable.enc intT zz.2.1, rowI 120 TwoTable.ty zz.2.2.1, .gone, .gone, .gone, rowI 23 (lsT intT) l8, rowI 3 intT l9, .box [I e.fE0, I e.fE1, I e.fE2, I e.fE3, I e.fE4] 120 false, rowI 3 intT zz.2.2.2]⟩) ((wr (x43 + 1)), m3_3, l4_3, (l11.set (x43).toNat x19)) h (by kernel_rfl)
    · replace h := h.2 hb
      refine En.exit rfl ?_
      refine En.seq ?_
      refine En.region ?_
      refine WL.run ht hn 3 ⟨[(0, .sv (.one (I letters))), (2, .sv (.one (.rd (fvR (fun (x : (TwoTable × Int)) => [.sv (.agg [I x.1.fE0, I x.1.fE1, I x.1.fE2, I x.1.fE3, I x.1.fE4]), .sv (.one (I x.2))]) (fun (r : TwoTable) => .sv (.agg [I r.fE0, I r.fE1, I r.fE2, I r.fE3, I r.fE4])) domgo go)))), (3, .sv (.one (.rd (fvR (fun (x : TwoTable) => [.sv (.agg [I x.fE0, I x.fE1, I x.fE2, I x.fE3, I x.fE4])]) (fun (r : Int) => .sv (.one (I r))) dommark mark)))), (4, .sv (.one (I limit))), (10, .sv (.one (.ptr 1 0))), (12, .sv (.one (.ptr 2 0))), (13, .sv (.one (.own 3))), (14, .sv (.one (.own 4))), (15, .sv (.one (.ptr 10 0))), (77, .sv (.one (.own 8))), (78, .sv (.one (.own 11)))], [.gone, .box [I 0, I 0, .v (.slice none 0 0), .v (.slice none 0 0)] 25 false, .box [I letters, I 0, .own 8, .own 9] 25 false, mapI TwoTable.enc intT m3_2, rowI 120 TwoTable.ty l4_2, .gone, .gone, .gone, rowI 23 (lsT intT) l8, rowI 3 intT l9, .box [I e.fE0, I e.fE1, I e.fE2, I e.fE3, I e.fE4] 120 false, rowI 3 intT l11]⟩ (by kernel_rfl) ?_
      refine WL.seal (T := intT) (l := l11) (e := 3) 11 rfl ?_
      refine WL.run ht hn 0 ⟨[(0, .sv (.one (I letters))), (2, .sv (.one (.rd (fvR (fun (x : (TwoTable × Int)) => [.sv (.agg [I x.1.fE0, I x.1.fE1, I x.1.fE2, I x.1.fE3, I x.1.fE4]), .sv (.one (I x.2))]) (fun (r : TwoTable) => .sv (.agg [I r.fE0, I r.fE1, I r.fE2, I r.fE3, I r.fE4])) domgo go)))), (3, .sv (.one (.rd (fvR (fun (x : TwoTable) => [.sv (.agg [I x.fE0, I x.fE1, I x.fE2, I x.fE3, I x.fE4])]) (fun (r : Int) => .sv (.one (I r))) dommark mark)))), (4, .sv (.one (I limit))), (10, .sv (.one (.ptr 1 0))), (12, .sv (.one (.ptr 2 0))), (13, .sv (.one (.own 3))), (14, .sv (.one (.own 4))), (15, .sv (.one (.ptr 10 0))), (77, .sv (.one (.own 8))), (78, .sv (.one (LS intT l11)))], [.gone, .box [I 0, I 0, .v (.slice none 0 0), .v (.slice none 0 0)] 25 false, .box [I letters, I 0, .own 8, .own 9] 25 false, mapI TwoTable.enc intT m3_2, rowI 120 TwoTable.ty l4_2, .gone, .gone, .gone, rowI 23 (lsT intT) l8, rowI 3 intT l9, .box [I e.fE0, I e.fE1, I e.fE2, I e.fE3, I e.fE4] 120 false, .gone]⟩ (by kernel_rfl) ?_
      refine WL.mt0 (K := []) (p := some (12, rowI 23 (lsT intT) ([l11] : (List (List Int))))) hn (by rfl) (mt_lit (T := (lsT intT)) ([l11] : (List (List Int))) (mt_bsl 12 (r := cellsOf (lsT intT) ([l11] : (List (List Int)))) ht rfl (by rfl) (by rfl) (by rfl) (by kernel_rfl) (by rfl)) (fun _ h => by cases h) (fun _ => rfl) (fun _ => rfl) (by rfl) (Nat.le_of_ble_eq_true rfl)) (by rfl) (by rfl) (by rfl) ?_
      refine WL.seal (T := (lsT intT)) (l := ([l11] : (List (List Int)))) (e := 23) 12 rfl ?_
      refine WL.run ht hn 0 ⟨[(0, .sv (.one (I letters))), (2, .sv (.one (.rd (fvR (fun (x : (TwoTable × Int)) => [.sv (.agg [I x.1.fE0, I x.1.fE1, I x.1.fE2, I x.1.fE3, I x.1.fE4]), .sv (.one (I x.2))]) (fun (r : TwoTable) => .sv (.agg [I r.fE0, I r.fE1, I r.fE2, I r.fE3, I r.fE4])) domgo go)))), (3, .sv (.one (.rd (fvR (fun (x : TwoTable) => [.sv (.agg [I x.fE0, I x.fE1, I x.fE2, I x.fE3, I x.fE4])]) (fun (r : Int) => .sv (.one (I r))) dommark mark)))), (4, .sv (.one (I limit))), (10, .sv (.one (.ptr 1 0))), (12, .sv (.one (.ptr 2 0))), (13, .sv (.one (.own 3))), (14, .sv (.one (.own 4))), (15, .sv (.one (.ptr 10 0))), (77, .sv (.one (.own 8))), (78, .sv (.one (LS intT l11))), (79, .sv (.one (LS (lsT intT) ([l11] : (List (List Int))))))], [.gone, .box [I 0, I 0, .v (.slice none 0 0), .v (.slice none 0 0)] 25 false, .box [I letters, I 0, .own 8, .own 9] 25 false, mapI TwoTable.enc intT m3_2, rowI 120 TwoTable.ty l4_2, .gone, .gone, .gone, rowI 23 (lsT intT) l8, rowI 3 intT l9, .box [I e.fE0, I e.fE1, I e.fE2, I e.fE3, I e.fE4] 120 false, .gone, .gone]⟩ (by kernel_rfl) ?_
      refine WL.junk 2 2 (by rfl) ?_
      have hp := h.1
      replace h := h.2
      refine WL.mt (S2 := ⟨[(0, .sv (.one (I letters))), (2, .sv (.one (.rd (fvR (fun (x : (TwoTable × Int)) => [.sv (.agg [I x.1.fE0, I x.1.fE1, I x.1.fE2, I x.1.fE3, I x.1.fE4]), .sv (.one (I x.2))]) (fun (r : TwoTable) => .sv (.agg [I r.fE0, I r.fE1, I r.fE2, I r.fE3, I r.fE4])) domgo go)))), (3, .sv (.one (.rd (fvR (fun (x : TwoTable) => [.sv (.agg [I x.fE0, I x.fE1, I x.fE2, I x.fE3, I x.fE4])]) (fun (r : Int) => .sv (.one (I r))) dommark mark)))), (4, .sv (.one (I limit))), (10, .sv (.one (.ptr 1 0))), (12, .sv (.one (.ptr 2 0))), (13, .sv (.one (.own 3))), (14, .sv (.one (.own 4))), (15, .sv (.one (.ptr 10 0))), (78, .sv (.one (LS intT l11))), (79, .sv (.one (LS (lsT intT) ([l11] : (List (List Int))))))], [.gone, .box [I 0, I 0, .v (.slice none 0 0), .v (.slice none 0 0)] 25 false, .box [I letters, I 0, .junk, .own 9] 25 false, mapI TwoTable.enc intT m3_2, rowI 120 TwoTable.ty l4_2, .gone, .gone, .gone, rowI 23 (lsT intT) l8, rowI 3 intT l9, .box [I e.fE0, I e.fE1, I e.fE2, I e.fE3, I e.fE4] 120 false, .gone, .gone]⟩) (K := [8]) (p := some (8, rowI 23 (lsT intT) (l8 ++ ([l11] : (List (List Int)))))) hn (by rfl) (mt_append (T := (lsT intT)) (l := l8) (es := ([l11] : (List (List Int)))) ht rfl (by rfl) (by rfl) (by rfl) (by rfl) (by decide) (by rfl) (by rfl) (srcLS (T := (lsT intT)) (es := ([l11] : (List (List Int)))) (fun _ h => by cases h) (by decide) (by rfl)) (by exact hp) (by exact hp.le (by decide))) (by kernel_rfl) (by rfl) (by rfl) (by rfl) ?_
      refine WL.run ht hn 2 ⟨[(0, .sv (.one (I letters))), (2, .sv (.one (.rd (fvR (fun (x : (TwoTable × Int)) => [.sv (.agg [I x.1.fE0, I x.1.fE1, I x.1.fE2, I x.1.fE3, I x.1.fE4]), .sv (.one (I x.2))]) (fun (r : TwoTable) => .sv (.agg [I r.fE0, I r.fE1, I r.fE2, I r.fE3, I r.fE4])) domgo go)))), (3, .sv (.one (.rd (fvR (fun (x : TwoTable) => [.sv (.agg [I x.fE0, I x.fE1, I x.fE2, I x.fE3, I x.fE4])]) (fun (r : Int) => .sv (.one (I r))) dommark mark)))), (4, .sv (.one (I limit))), (10, .sv (.one (.ptr 1 0))), (12, .sv (.one (.ptr 2 0))), (13, .sv (.one (.own 3))), (14, .sv (.one (.own 4))), (15, .sv (.one (.ptr 10 0)))], [.gone, .box [I 0, I 0, .v (.slice none 0 0), .v (.slice none 0 0)] 25 false, .box [I letters, I 0, .own 8, .own 9] 25 false, mapI TwoTable.enc intT m3_2, rowI 120 TwoTable.ty l4_2, .gone, .gone, .gone, rowI 23 (lsT intT) (l8 ++ ([l11] : (List (List Int)))), rowI 3 intT l9, .box [I e.fE0, I e.fE1, I e.fE2, I e.fE3, I e.fE4] 120 false, .gone, .gone]⟩ (by kernel_rfl) ?_
      refine WL.nil ?_
      have hp_2 := h.1
      replace h := h.2
      have hp_3 := h.1
      replace h := h.2
      refine En.regionA ⟨[(0, .sv (.one (I letters))), (2, .sv (.one (.rd (fvR (fun (x : (TwoTable × Int)) => [.sv (.agg [I x.1.fE0, I x.1.fE1, I x.1.fE2, I x.1.fE3, I x.1.fE4]), .sv (.one (I x.2))]) (fun (r : TwoTable) => .sv (.agg [I r.fE0, I r.fE1, I r.fE2, I r.fE3, I r.fE4])) domgo go)))), (3, .sv (.one (.rd (fvR (fun (x : TwoTable) => [.sv (.agg [I x.fE0, I x.fE1, I x.fE2, I x.fE3, I x.fE4])]) (fun (r : Int) => .sv (.one (I r))) dommark mark)))), (4, .sv (.one (I limit))), (10, .sv (.one (.ptr 1 0))), (12, .sv (.one (.ptr 2 0))), (13, .sv (.one (.own 3))), (14, .sv (.one (.own 4))), (15, .sv (.one (.ptr 10 0)))], [.sv (.one (.ptr 2 3)), .sv (.one (.own 9)), .sv (.one (.rd (fvR (fun (x : TwoTable) => [.sv (.agg [I x.fE0, I x.fE1, I x.fE2, I x.fE3, I x.fE4])]) (fun (r : Int) => .sv (.one (I r))) dommark mark))), .sv (.agg [I e.fE0, I e.fE1, I e.fE2, I e.fE3, I e.fE4]), .sv (.one (I (mark e))), .sv (.one (LS intT ([(mark e)] : (List Int)))), .sv (.one (.own 13)), .sv (.one (.ptr 2 3)), .tup []], [⟨.gone, none, none, none⟩, ⟨.box [I 0, I 0, .v (.slice none 0 0), .v (.slice none 0 0)] 25 false, none, none, none⟩, ⟨.box [I letters, I 0, .own 8, .own 9] 25 false, none, none, some (8, .box [I letters, I 0, .own 8, .own 13] 25 false)⟩, ⟨mapI TwoTable.enc intT m3_2, none, none, none⟩, ⟨rowI 120 TwoTable.ty l4_2, none, none, none⟩, ⟨.gone, none, none, none⟩, ⟨.gone, none, none, none⟩, ⟨.gone, none, none, none⟩, ⟨rowI 23 (lsT intT) (l8 ++ ([l11] : (List (List Int)))), none, none, none⟩, ⟨rowI 3 intT l9, none, some 6, none⟩, ⟨.box [I e.fE0, I e.fE1, I e.fE2, I e.fE3, I e.fE4] 120 false, none, none, none⟩, ⟨.gone, none, none, none⟩, ⟨.gone, none, none, none⟩, ⟨rowI 3 intT (l9 ++ ([(mark e)] : (List Int))), some 6, none, none⟩]⟩ ⟨[(0, .sv (.one (I letters))), (2, .sv (.one (.rd (fvR (fun (x : (TwoTable × Int)) => [.sv (.agg [I x.1.fE0, I x.1.fE1, I x.1.fE2, I x.1.fE3, I x.1.fE4]), .sv (.one (I x.2))]) (fun (r : TwoTable) => .sv (.agg [I r.fE0, I r.fE1, I r.fE2, I r.fE3, I r.fE4])) domgo go)))), (3, .sv (.one (.rd (fvR (fun (x : TwoTable) => [.sv (.agg [I x.fE0, I x.fE1, I x.fE2, I x.fE3, I x.fE4])]) (fun (r : Int) => .sv (.one (I r))) dommark mark)))), (4, .sv (.one (I limit))), (10, .sv (.one (.ptr 1 0))), (12, .sv (.one (.ptr 2 0))), (13, .sv (.one (.own 3))), (14, .sv (.one (.own 4)))], [.gone, .box [I 0, I 0, .v (.slice none 0 0), .v (.slice none 0 0)] 25 false, .box [I letters, I 0, .own 8, .own 13] 25 false, mapI TwoTable.enc intT m3_2, rowI 120 TwoTable.ty l4_2, .gone, .gone, .gone, rowI 23 (lsT intT) (l8 ++ ([l11] : (List (List Int)))), .gone, .gone, .gone, .gone, rowI 3 intT (l9 ++ ([(mark e)] : (List Int)))]⟩ (by kernel_rfl) hn (by kernel_rfl) (by rfl) (by kernel_rfl) ?_ (by kernel_rfl) ?_
      · exact ⟨.mt ⟨[(12, .sv (.one (.ptr 2 0)))], []⟩ [] none (by kernel_rfl) (by rfl) (mt_ev ht (by kernel_rfl)) rfl rfl rfl rfl,
    .mt ⟨[(82, .sv (.one (.ptr 2 3)))], [.gone, .gone, .box [I letters, I 0, .own 8, .own 9] 25 false]⟩ [] none (by kernel_rfl) (by rfl) (mt_ev ht (by kernel_rfl)) rfl rfl rfl rfl,
    .mt ⟨[(3, .sv (.one (.rd (fvR (fun (x : TwoTable) => [.sv (.agg [I x.fE0, I x.fE1, I x.fE2, I x.fE3, I x.fE4])]) (fun (r : Int) => .sv (.one (I r))) dommark mark))))], []⟩ [] none (by kernel_rfl) (by rfl) (mt_ev ht (by kernel_rfl)) rfl rfl rfl rfl,
    .mt ⟨[(15, .sv (.one (.ptr 10 0)))], [.gone, .gone, .gone, .gone, .gone, .gone, .gone, .gone, .gone, .gone, .box [I e.fE0, I e.fE1, I e.fE2, I e.fE3, I e.fE4] 120 false]⟩ [] none (by kernel_rfl) (by rfl) (mt_ev ht (by kernel_rfl)) rfl rfl rfl rfl,
    .mt ⟨[(84, .sv (.one (.rd (fvR (fun (x : TwoTable) => [.sv (.agg [I x.fE0, I x.fE1, I x.fE2, I x.fE3, I x.fE4])]) (fun (r : Int) => .sv (.one (I r))) dommark mark)))), (85, .sv (.agg [I e.fE0, I e.fE1, I e.fE2, I e.fE3, I e.fE4]))], []⟩ [] none (by kernel_rfl) (by rfl) (mt_callv (ins := (fun (x : TwoTable) => [.sv (.agg [I x.fE0, I x.fE1, I x.fE2, I x.fE3, I x.fE4])])) (out := (fun (r : Int) => .sv (.one (I r)))) (dom := dommark) (φ := mark) e hp_2 rfl (by rfl) (by rfl) (by rfl) (by rfl)) rfl rfl rfl rfl,
    .mt ⟨[(86, .sv (.one (I (mark e))))], []⟩ [] none (by kernel_rfl) (by rfl) (mt_seal (q := 13) (e := 3) (mt_lit (T := intT) ([(mark e)] : (List Int)) (mt_bsl 13 (r := cellsOf intT ([(mark e)] : (List Int))) ht rfl (by rfl) (by rfl) (by rfl) (by kernel_rfl) (by rfl)) (fun _ h => by cases h) (fun _ => rfl) (fun _ => rfl) (by rfl) (Nat.le_of_ble_eq_true rfl))) rfl rfl rfl rfl,
    .mt ⟨[(83, .sv (.one (.own 9))), (87, .sv (.one (LS intT ([(mark e)] : (List Int)))))], [.gone, .gone, .gone, .gone, .gone, .gone, .gone, .gone, .gone, rowI 3 intT l9]⟩ [9] (some 13) (by kernel_rfl) (by rfl) (mt_append (T := intT) (l := l9) (es := ([(mark e)] : (List Int))) (p := 13) ht rfl (by rfl) (by rfl) (by rfl) (by rfl) (by decide) (by rfl) (by rfl) (srcLS (T := intT) (es := ([(mark e)] : (List Int))) (fun _ h => by cases h) (by decide) (by rfl)) (by exact hp_3) (by exact hp_3.le (by decide))) rfl rfl rfl rfl,
    .mt ⟨[(12, .sv (.one (.ptr 2 0)))], []⟩ [] none (by kernel_rfl) (by rfl) (mt_ev ht (by kernel_rfl)) rfl rfl rfl rfl,
    .mu ⟨[(88, .sv (.one (.own 13))), (89, .sv (.one (.ptr 2 3)))], [.gone, .gone, .box [I letters, I 0, .own 8, .own 9] 25 false]⟩ 2 _ _ rfl rfl (by kernel_rfl) (by rfl) (mu_store2 ht rfl (by rfl) (by rfl) (by rfl) (by rfl) (fun h => by cases h) (by rfl) (by rfl)) rfl rfl rfl rfl rfl rfl rfl,
    trivial⟩
      · refine En.move 13 9 (by rfl) (by rfl) ?_
        exact En.at (I := fun zz => Inv zz.1 zz.2.1 zz.2.2.1 zz.2.2.2 ∧ mu zz.1 zz.2.1 zz.2.2.1 zz.2.2.2 < mu m3 l4 l8 l9) (T := fun zz => ⟨[(0, .sv (.one (I letters))), (2, .sv (.one (.rd (fvR (fun (x : (TwoTable × Int)) => [.sv (.agg [I x.1.fE0, I x.1.fE1, I x.1.fE2, I x.1.fE3, I x.1.fE4]), .sv (.one (I x.2))]) (fun (r : TwoTable) => .sv (.agg [I r.fE0, I r.fE1, I r.fE2, I r.fE3, I r.fE4])) domgo go)))), (3, .sv (.one (.rd (fvR (fun (x : TwoTable) => [.sv (.agg [I x.fE0, I x.fE1, I x.fE2, I x.fE3, I x.fE4])]) (fun (r : Int) => .sv (.one (I r))) dommark mark)))), (4, .sv (.one (I limit))), (10, .sv (.one (.ptr 1 0))), (12, .sv (.one (.ptr 2 0))), (13, .sv (.one (.own 3))), (14, .sv (.one (.own 4)))], [.gone, .box [I 0, I 0, .v (.slice none 0 0), .v (.slice none 0 0)] 25 false, .box [I letters, I 0, .own 8, .own 9] 25 false, mapI TwoTable.enc intT zz.1, rowI 120 TwoTable.ty zz.2.1, .gone, .gone, .gone, rowI 23 (lsT intT) zz.2.2.1, rowI 3 intT zz.2.2.2]⟩) (m3_2, l4_2, (l8 ++ ([l11] : (List (List Int)))), (l9 ++ ([(mark e)] : (List Int)))) h (by kernel_rfl)
  · replace h := h.2 hb
    refine En.exit rfl ?_
    refine En.seq ?_
    refine En.region ?_
    refine WL.run ht hn 3 ⟨[(10, .sv (.one (.ptr 1 0))), (11, .sv (.one (B true)))], [.gone, .box [I letters, I 0, .own 8, .own 9] 25 false, .gone, .gone, .gone, .gone, .gone, .gone, rowI 23 (lsT intT) l8, rowI 3 intT l9]⟩ (by kernel_rfl) ?_
    refine WL.nil ?_
    refine En.ret ?_
    refine En.seal (T := (lsT intT)) (l := l8) (e := 23) 8 rfl ?_
    refine En.seal (T := intT) (l := l9) (e := 3) 9 rfl ?_
    exact En.back ht ((ApiDet.mk letters 0 l8 l9), true) h (by kernel_rfl) rfl
theorem en70 : ∀ args w, (callFunc 70 args).run Try.prog w = .ok (.enter 70 args) w := enters_of Try.func70 (by kernel_rfl) rfl
def exploreInt_vc (letters : Int) (start : Int) (domgo : ((Int × Int) → Prop)) (go : ((Int × Int) → Int)) (dommark : (Int → Prop)) (mark : (Int → Int)) (limit : Int) (Q : (ApiDet × Bool) → Prop) : Prop :=
  ∃ (Inv : (List (Int × Int)) → (List Int) → (List (List Int)) → (List Int) → Prop) (mu : (List (Int × Int)) → (List Int) → (List (List Int)) → (List Int) → Nat), Inv (mput start 0 ([] : List (Int × Int))) ([start] : (List Int)) ([] : (List (List Int))) ([] : (List Int)) ∧
  ∀ (m2 : (List (Int × Int))) (l3 : (List Int)) (l6 : (List (List Int))) (l7 : (List Int)) , Inv m2 l3 l6 l7 → (IfP (decide ((l6.length : Int) < (l3.length : Int))) (∃ e, idx l3 (l6.length : Int) = some e ∧
  makeOk letters letters 8 ∧
  ∃ (Inv_2 : Int → (List (Int × Int)) → (List Int) → (List Int) → Prop) (mu_2 : Int → (List (Int × Int)) → (List Int) → (List Int) → Nat), Inv_2 0 m2 l3 (List.replicate (letters).toNat (0 : Int)) ∧
  ∀ (x43 : Int) (m2_2 : (List (Int × Int))) (l3_2 : (List Int)) (l8 : (List Int)) , Inv_2 x43 m2_2 l3_2 l8 → (IfP (decide (x43 < letters)) ((domgo (e, x43)) ∧
  ∃ J : Int → (List (Int × Int)) → (List Int) → Prop, (IfP (!(mget (go (e, x43)) m2_2).isSome) (IfP ((l3_2.length : Int) == limit) (Q ((ApiDet.mk 0 0 [] []), false)) (capOk l3_2.length (([(go (e, x43))] : (List Int)) : (List Int)).length 8 ∧
  J (l3_2.length : Int) (mput (go (e, x43)) (l3_2.length : Int) m2_2) (l3_2 ++ ([(go (e, x43))] : (List Int))))) (J ((mget (go (e, x43)) m2_2).getD (0 : Int)) m2_2 l3_2)) ∧
  (∀ (x19 : Int) (m2_3 : (List (Int × Int))) (l3_3 : (List Int)), J x19 m2_3 l3_3 → ∃ e_2, idx l8 x43 = some e_2 ∧
  (Inv_2 (wr (x43 + 1)) m2_3 l3_3 (l8.set (x43).toNat x19) ∧ mu_2 (wr (x43 + 1)) m2_3 l3_3 (l8.set (x43).toNat x19) < mu_2 x43 m2_2 l3_2 l8))) (capOk l6.length (([l8] : (List (List Int))) : (List (List Int))).length 24 ∧
  (dommark e) ∧
  capOk l7.length (([(mark e)] : (List Int)) : (List Int)).length 8 ∧
  (Inv m2_2 l3_2 (l6 ++ ([l8] : (List (List Int)))) (l7 ++ ([(mark e)] : (List Int))) ∧ mu m2_2 l3_2 (l6 ++ ([l8] : (List (List Int)))) (l7 ++ ([(mark e)] : (List Int))) < mu m2 l3 l6 l7)))) (Q ((ApiDet.mk letters 0 l6 l7), true)))
set_option maxHeartbeats 2000000 in
theorem exploreInt_walk (letters : Int) (start : Int) (domgo : ((Int × Int) → Prop)) (go : ((Int × Int) → Int)) (dommark : (Int → Prop)) (mark : (Int → Int)) (limit : Int) (Q : (ApiDet × Bool) → Prop) (h : exploreInt_vc letters start domgo go dommark mark limit Q) : Ct 94 [.sv (.one (I letters)), .sv (.one (I start)), .sv (.one (.rd (fvR (fun (x : (Int × Int)) => [.sv (.one (I x.1)), .sv (.one (I x.2))]) (fun (r : Int) => .sv (.one (I r))) domgo go))), .sv (.one (.rd (fvR (fun (x : Int) => [.sv (.one (I x))]) (fun (r : Int) => .sv (.one (I r))) dommark mark))), .sv (.one (I limit))] [] Q (fun (r : (ApiDet × Bool)) => .tup [.agg [I r.1.fLetters, I r.1.fStart, LS (lsT intT) r.1.fNext, LS intT r.1.fMark], .one (B r.2)]) := by
  have ht := tab_ok
  refine Ct.body Try.func94 rfl rfl rfl rfl (fun c hn => ?_)
  unfold exploreInt_vc at h
  refine En.seq ?_
  refine En.region ?_
  refine WL.run ht hn 2 ⟨[(0, .sv (.one (I letters))), (1, .sv (.one (I start))), (2, .sv (.one (.rd (fvR (fun (x : (Int × Int)) => [.sv (.one (I x.1)), .sv (.one (I x.2))]) (fun (r : Int) => .sv (.one (I r))) domgo go)))), (3, .sv (.one (.rd (fvR (fun (x : Int) => [.sv (.one (I x))]) (fun (r : Int) => .sv (.one (I r))) dommark mark)))), (4, .sv (.one (I limit))), (10, .sv (.one (.ptr 0 0)))], [.box [I 0, I 0, .v (.slice none 0 0), .v (.slice none 0 0)] 25 false]⟩ (by kernel_rfl) ?_
  refine WL.nil ?_
  refine En.seq ?_
  refine En.region ?_
  refine WL.run ht hn 4 ⟨[(0, .sv (.one (I letters))), (1, .sv (.one (I start))), (2, .sv (.one (.rd (fvR (fun (x : (Int × Int)) => [.sv (.one (I x.1)), .sv (.one (I x.2))]) (fun (r : Int) => .sv (.one (I r))) domgo go)))), (3, .sv (.one (.rd (fvR (fun (x : Int) => [.sv (.one (I x))]) (fun (r : Int) => .sv (.one (I r))) dommark mark)))), (4, .sv (.one (I limit))), (10, .sv (.one (.ptr 0 0))), (12, .sv (.one (.ptr 1 0)))], [.box [I 0, I 0, .v (.slice none 0 0), .v (.slice none 0 0)] 25 false, .box [I letters, I 0, .v (.slice none 0 0), .v (.slice none 0 0)] 25 false]⟩ (by kernel_rfl) ?_
  refine WL.nil ?_
  refine En.seq ?_
  refine En.region ?_
  refine WL.mt0 (K := []) (p := some (2, mapI encI3 intT ([] : List (Int × Int)))) hn (by rfl) (mt_makeMap encI3 intT 2 rfl) (by rfl) (by rfl) (by rfl) ?_
  refine WL.run ht hn 1 ⟨[(0, .sv (.one (I letters))), (1, .sv (.one (I start))), (2, .sv (.one (.rd (fvR (fun (x : (Int × Int)) => [.sv (.one (I x.1)), .sv (.one (I x.2))]) (fun (r : Int) => .sv (.one (I r))) domgo go)))), (3, .sv (.one (.rd (fvR (fun (x : Int) => [.sv (.one (I x))]) (fun (r : Int) => .sv (.one (I r))) dommark mark)))), (4, .sv (.one (I limit))), (10, .sv (.one (.ptr 0 0))), (12, .sv (.one (.ptr 1 0))), (23, .sv (.one (.own 2))), (24, .sv (.one (I start)))], [.box [I 0, I 0, .v (.slice none 0 0), .v (.slice none 0 0)] 25 false, .box [I letters, I 0, .v (.slice none 0 0), .v (.slice none 0 0)] 25 false, mapI encI3 intT ([] : List (Int × Int))]⟩ (by kernel_rfl) ?_
  refine WL.mapPut (T := intT) keyI3 (k := start) (y := 0) hn (by rfl) (.inr rfl) Try.underlying183 (by rfl) (by rfl) (by rfl) (by rfl) (by rfl) (by rfl) ?_
  refine WL.run ht hn 2 ⟨[(0, .sv (.one (I letters))), (1, .sv (.one (I start))), (2, .sv (.one (.rd (fvR (fun (x : (Int × Int)) => [.sv (.one (I x.1)), .sv (.one (I x.2))]) (fun (r : Int) => .sv (.one (I r))) domgo go)))), (3, .sv (.one (.rd (fvR (fun (x : Int) => [.sv (.one (I x))]) (fun (r : Int) => .sv (.one (I r))) dommark mark)))), (4, .sv (.one (I limit))), (10, .sv (.one (.ptr 0 0))), (12, .sv (.one (.ptr 1 0))), (13, .sv (.one (.own 2)))], [.box [I 0, I 0, .v (.slice none 0 0), .v (.slice none 0 0)] 25 false, .box [I letters, I 0, .v (.slice none 0 0), .v (.slice none 0 0)] 25 false, mapI encI3 intT (mput start 0 ([] : List (Int × Int)))]⟩ (by kernel_rfl) ?_
  refine WL.nil ?_
  refine En.seq ?_
  refine En.seq ?_
  refine En.region ?_
  refine WL.run ht hn 1 ⟨[(0, .sv (.one (I letters))), (2, .sv (.one (.rd (fvR (fun (x : (Int × Int)) => [.sv (.one (I x.1)), .sv (.one (I x.2))]) (fun (r : Int) => .sv (.one (I r))) domgo go)))), (3, .sv (.one (.rd (fvR (fun (x : Int) => [.sv (.one (I x))]) (fun (r : Int) => .sv (.one (I r))) dommark mark)))), (4, .sv (.one (I limit))), (10, .sv (.one (.ptr 0 0))), (12, .sv (.one (.ptr 1 0))), (13, .sv (.one (.own 2))), (26, .sv (.one (I start)))], [.box [I 0, I 0, .v (.slice none 0 0), .v (.slice none 0 0)] 25 false, .box [I letters, I 0, .v (.slice none 0 0), .v (.slice none 0 0)] 25 false, mapI encI3 intT (mput start 0 ([] : List (Int × Int)))]⟩ (by kernel_rfl) ?_
  refine WL.mt0 (K := []) (p := some (3, rowI 3 intT ([start] : (List Int)))) hn (by rfl) (mt_lit (T := intT) ([start] : (List Int)) (mt_bsl 3 (r := cellsOf intT ([start] : (List Int))) ht rfl (by rfl) (by rfl) (by rfl) (by kernel_rfl) (by rfl)) (fun _ h => by cases h) (fun _ => rfl) (fun _ => rfl) (by rfl) (Nat.le_of_ble_eq_true rfl)) (by rfl) (by rfl) (by rfl) ?_
  refine WL.run ht hn 1 ⟨[(0, .sv (.one (I letters))), (2, .sv (.one (.rd (fvR (fun (x : (Int × Int)) => [.sv (.one (I x.1)), .sv (.one (I x.2))]) (fun (r : Int) => .sv (.one (I r))) domgo go)))), (3, .sv (.one (.rd (fvR (fun (x : Int) => [.sv (.one (I x))]) (fun (r : Int) => .sv (.one (I r))) dommark mark)))), (4, .sv (.one (I limit))), (10, .sv (.one (.ptr 0 0))), (12, .sv (.one (.ptr 1 0))), (13, .sv (.one (.own 2))), (14, .sv (.one (.own 3)))], [.box [I 0, I 0, .v (.slice none 0 0), .v (.slice none 0 0)] 25 false, .box [I letters, I 0, .v (.slice none 0 0), .v (.slice none 0 0)] 25 false, mapI encI3 intT (mput start 0 ([] : List (Int × Int))), rowI 3 intT ([start] : (List Int))]⟩ (by kernel_rfl) ?_
  refine WL.nil ?_
  refine En.block ?_
  refine En.nilBoxO (T := (lsT intT)) 1 2 6 23 (by rfl) (by rfl) (by rfl) (by rfl) ?_
  refine En.nilBoxO (T := intT) 1 3 7 3 (by rfl) (by rfl) (by rfl) (by rfl) ?_
  obtain ⟨Inv, mu, h0_2, hI_2⟩ := h
  refine En.loop (σ := (List (Int × Int)) × (List Int) × (List (List Int)) × (List Int)) (fun zz => Inv zz.1 zz.2.1 zz.2.2.1 zz.2.2.2) (fun zz => mu zz.1 zz.2.1 zz.2.2.1 zz.2.2.2) (fun zz => ⟨[(0, .sv (.one (I letters))), (2, .sv (.one (.rd (fvR (fun (x : (Int × Int)) => [.sv (.one (I x.1)), .sv (.one (I x.2))]) (fun (r : Int) => .sv (.one (I r))) domgo go)))), (3, .sv (.one (.rd (fvR (fun (x : Int) => [.sv (.one (I x))]) (fun (r : Int) => .sv (.one (I r))) dommark mark)))), (4, .sv (.one (I limit))), (10, .sv (.one (.ptr 0 0))), (12, .sv (.one (.ptr 1 0))), (13, .sv (.one (.own 2))), (14, .sv (.one (.own 3)))], [.box [I 0, I 0, .v (.slice none 0 0), .v (.slice none 0 0)] 25 false, .box [I letters, I 0, .own 6, .own 7] 25 false, mapI encI3 intT zz.1, rowI 3 intT zz.2.1, .gone, .gone, rowI 23 (lsT intT) zz.2.2.1, rowI 3 intT zz.2.2.2]⟩) ((mput start 0 ([] : List (Int × Int))), ([start] : (List Int)), ([] : (List (List Int))), ([] : (List Int))) h0_2 (sub_ok (by kernel_rfl)) ?_
  rintro ⟨m2, l3, l6, l7⟩ h
  replace h := hI_2 _ _ _ _ h
  show En c ⟨[(0, .sv (.one (I letters))), (2, .sv (.one (.rd (fvR (fun (x : (Int × Int)) => [.sv (.one (I x.1)), .sv (.one (I x.2))]) (fun (r : Int) => .sv (.one (I r))) domgo go)))), (3, .sv (.one (.rd (fvR (fun (x : Int) => [.sv (.one (I x))]) (fun (r : Int) => .sv (.one (I r))) dommark mark)))), (4, .sv (.one (I limit))), (10, .sv (.one (.ptr 0 0))), (12, .sv (.one (.ptr 1 0))), (13, .sv (.one (.own 2))), (14, .sv (.one (.own 3)))], [.box [I 0, I 0, .v (.slice none 0 0), .v (.slice none 0 0)] 25 false, .box [I letters, I 0, .own 6, .own 7] 25 false, mapI encI3 intT m2, rowI 3 intT l3, .gone, .gone, rowI 23 (lsT intT) l6, rowI 3 intT l7]⟩ _
  refine En.seq ?_
  refine En.seq ?_
  refine En.region ?_
  refine WL.run ht hn 6 ⟨[(0, .sv (.one (I letters))), (2, .sv (.one (.rd (fvR (fun (x : (Int × Int)) => [.sv (.one (I x.1)), .sv (.one (I x.2))]) (fun (r : Int) => .sv (.one (I r))) domgo go)))), (3, .sv (.one (.rd (fvR (fun (x : Int) => [.sv (.one (I x))]) (fun (r : Int) => .sv (.one (I r))) dommark mark)))), (4, .sv (.one (I limit))), (10, .sv (.one (.ptr 0 0))), (12, .sv (.one (.ptr 1 0))), (13, .sv (.one (.own 2))), (14, .sv (.one (.own 3))), (33, .sv (.one (B (decide ((l6.length : Int) < (l3.length : Int))))))], [.box [I 0, I 0, .v (.slice none 0 0), .v (.slice none 0 0)] 25 false, .box [I letters, I 0, .own 6, .own 7] 25 false, mapI encI3 intT m2, rowI 3 intT l3, .gone, .gone, rowI 23 (lsT intT) l6, rowI 3 intT l7]⟩ (by kernel_rfl) ?_
  refine WL.nil ?_
  refine En.cond (b := (decide ((l6.length : Int) < (l3.length : Int)))) (by kernel_rfl) (fun hb => ?_) (fun hb => ?_)
  · replace h := h.1 hb
    refine En.skip ?_
    refine En.block ?_
    refine En.seq ?_
    refine En.region ?_
    refine WL.run ht hn 4 ⟨[(0, .sv (.one (I letters))), (2, .sv (.one (.rd (fvR (fun (x : (Int × Int)) => [.sv (.one (I x.1)), .sv (.one (I x.2))]) (fun (r : Int) => .sv (.one (I r))) domgo go)))), (3, .sv (.one (.rd (fvR (fun (x : Int) => [.sv (.one (I x))]) (fun (r : Int) => .sv (.one (I r))) dommark mark)))), (4, .sv (.one (I limit))), (10, .sv (.one (.ptr 0 0))), (12, .sv (.one (.ptr 1 0))), (13, .sv (.one (.own 2))), (14, .sv (.one (.own 3))), (34, .sv (.one (.own 3))), (37, .sv (.one (I (l6.length : Int))))], [.box [I 0, I 0, .v (.slice none 0 0), .v (.slice none 0 0)] 25 false, .box [I letters, I 0, .own 6, .own 7] 25 false, mapI encI3 intT m2, rowI 3 intT l3, .gone, .gone, rowI 23 (lsT intT) l6, rowI 3 intT l7]⟩ (by kernel_rfl) ?_
    obtain ⟨e, he, h⟩ := h
    refine WL.val hn (by rfl) (val_indexO (T := intT) (l := l3) (k := (l6.length : Int)) ht rfl (by rfl) (by rfl) (by rfl) (by rfl) (by decide) (by rfl) (by rfl) (by rfl) he) (by rfl) ?_
    refine WL.val hn (by rfl) (val_loadO (T := intT) (l := l3) (y := e) ht rfl (by rfl) (by rfl) (by rfl) (by rfl) (by rfl) (idx_some he).2.2 (by rfl)) (by rfl) ?_
    refine WL.run ht hn 1 ⟨[(0, .sv (.one (I letters))), (2, .sv (.one (.rd (fvR (fun (x : (Int × Int)) => [.sv (.one (I x.1)), .sv (.one (I x.2))]) (fun (r : Int) => .sv (.one (I r))) domgo go)))), (3, .sv (.one (.rd (fvR (fun (x : Int) => [.sv (.one (I x))]) (fun (r : Int) => .sv (.one (I r))) dommark mark)))), (4, .sv (.one (I limit))), (10, .sv (.one (.ptr 0 0))), (12, .sv (.one (.ptr 1 0))), (13, .sv (.one (.own 2))), (14, .sv (.one (.own 3))), (15, .sv (.one (I e)))], [.box [I 0, I 0, .v (.slice none 0 0), .v (.slice none 0 0)] 25 false, .box [I letters, I 0, .own 6, .own 7] 25 false, mapI encI3 intT m2, rowI 3 intT l3, .gone, .gone, rowI 23 (lsT intT) l6, rowI 3 intT l7]⟩ (by kernel_rfl) ?_
    refine WL.nil ?_
    refine En.seq ?_
    refine En.region ?_
    refine WL.run ht hn 1 ⟨[(0, .sv (.one (I letters))), (2, .sv (.one (.rd (fvR (fun (x : (Int × Int)) => [.sv (.one (I x.1)), .sv (.one (I x.2))]) (fun (r : Int) => .sv (.one (I r))) domgo go)))), (3, .sv (.one (.rd (fvR (fun (x : Int) => [.sv (.one (I x))]) (fun (r : Int) => .sv (.one (I r))) dommark mark)))), (4, .sv (.one (I limit))), (10, .sv (.one (.ptr 0 0))), (12, .sv (.one (.ptr 1 0))), (13, .sv (.one (.own 2))), (14, .sv (.one (.own 3))), (15, .sv (.one (I e))), (40, .sv (.one (I letters)))], [.box [I 0, I 0, .v (.slice none 0 0), .v (.slice none 0 0)] 25 false, .box [I letters, I 0, .own 6, .own 7] 25 false, mapI encI3 intT m2, rowI 3 intT l3, .gone, .gone, rowI 23 (lsT intT) l6, rowI 3 intT l7]⟩ (by kernel_rfl) ?_
    have hp := h.1
    replace h := h.2
    refine WL.mt0 (K := []) (p := some (8, rowI 3 intT (List.replicate (letters).toNat (0 : Int)))) hn (by rfl) (mt_make (T := intT) (0 : Int) (zv := (.int .i64 0)) 8 (l := letters) (cp := letters) ht rfl (by rfl) (by rfl) (by rfl) (by rfl) (by decide) (by rfl) (by rfl) hp.1 hp.2.1 hp.2.2 (hp.le (by decide)) rfl (fun _ => ⟨rfl, trivial⟩)) (by rfl) (by rfl) (by rfl) ?_
    refine WL.run ht hn 1 ⟨[(0, .sv (.one (I letters))), (2, .sv (.one (.rd (fvR (fun (x : (Int × Int)) => [.sv (.one (I x.1)), .sv (.one (I x.2))]) (fun (r : Int) => .sv (.one (I r))) domgo go)))), (3, .sv (.one (.rd (fvR (fun (x : Int) => [.sv (.one (I x))]) (fun (r : Int) => .sv (.one (I r))) dommark mark)))), (4, .sv (.one (I limit))), (10, .sv (.one (.ptr 0 0))), (12, .sv (.one (.ptr 1 0))), (13, .sv (.one (.own 2))), (14, .sv (.one (.own 3))), (15, .sv (.one (I e))), (16, .sv (.one (.own 8)))], [.box [I 0, I 0, .v (.slice none 0 0), .v (.slice none 0 0)] 25 false, .box [I letters, I 0, .own 6, .own 7] 25 false, mapI encI3 intT m2, rowI 3 intT l3, .gone, .gone, rowI 23 (lsT intT) l6, rowI 3 intT l7, rowI 3 intT (List.replicate (letters).toNat (0 : Int))]⟩ (by kernel_rfl) ?_
    refine WL.nil ?_
    refine En.seq ?_
    refine En.seq ?_
    refine En.region ?_
    refine WL.run ht hn 2 ⟨[(0, .sv (.one (I letters))), (2, .sv (.one (.rd (fvR (fun (x : (Int × Int)) => [.sv (.one (I x.1)), .sv (.one (I x.2))]) (fun (r : Int) => .sv (.one (I r))) domgo go)))), (3, .sv (.one (.rd (fvR (fun (x : Int) => [.sv (.one (I x))]) (fun (r : Int) => .sv (.one (I r))) dommark mark)))), (4, .sv (.one (I limit))), (10, .sv (.one (.ptr 0 0))), (12, .sv (.one (.ptr 1 0))), (13, .sv (.one (.own 2))), (14, .sv (.one (.own 3))), (15, .sv (.one (I e))), (16, .sv (.one (.own 8))), (42, .sv (.one (I letters))), (43, .sv (.one (I 0)))], [.box [I 0, I 0, .v (.slice none 0 0), .v (.slice none 0 0)] 25 false, .box [I letters, I 0, .own 6, .own 7] 25 false, mapI encI3 intT m2, rowI 3 intT l3, .gone, .gone, rowI 23 (lsT intT) l6, rowI 3 intT l7, rowI 3 intT (List.replicate (letters).toNat (0 : Int))]⟩ (by kernel_rfl) ?_
    refine WL.nil ?_
    refine En.block ?_
    obtain ⟨Inv_2, mu_2, h0, hI⟩ := h
    refine En.loop (σ := Int × (List (Int × Int)) × (List Int) × (List Int)) (fun zz => Inv_2 zz.1 zz.2.1 zz.2.2.1 zz.2.2.2) (fun zz => mu_2 zz.1 zz.2.1 zz.2.2.1 zz.2.2.2) (fun zz => ⟨[(0, .sv (.one (I letters))), (2, .sv (.one (.rd (fvR (fun (x : (Int × Int)) => [.sv (.one (I x.1)), .sv (.one (I x.2))]) (fun (r : Int) => .sv (.one (I r))) domgo go)))), (3, .sv (.one (.rd (fvR (fun (x : Int) => [.sv (.one (I x))]) (fun (r : Int) => .sv (.one (I r))) dommark mark)))), (4, .sv (.one (I limit))), (10, .sv (.one (.ptr 0 0))), (12, .sv (.one (.ptr 1 0))), (13, .sv (.one (.own 2))), (14, .sv (.one (.own 3))), (15, .sv (.one (I e))), (16, .sv (.one (.own 8))), (42, .sv (.one (I letters))), (43, .sv (.one (I zz.1)))], [.box [I 0, I 0, .v (.slice none 0 0), .v (.slice none 0 0)] 25 false, .box [I letters, I 0, .own 6, .own 7] 25 false, mapI encI3 intT zz.2.1, rowI 3 intT zz.2.2.1, .gone, .gone, rowI 23 (lsT intT) l6, rowI 3 intT l7, rowI 3 intT zz.2.2.2]⟩) (0, m2, l3, (List.replicate (letters).toNat (0 : Int))) h0 (sub_ok (by kernel_rfl)) ?_
    rintro ⟨x43, m2_2, l3_2, l8⟩ h
    replace h := hI _ _ _ _ h
    show En c ⟨[(0, .sv (.one (I letters))), (2, .sv (.one (.rd (fvR (fun (x : (Int × Int)) => [.sv (.one (I x.1)), .sv (.one (I x.2))]) (fun (r : Int) => .sv (.one (I r))) domgo go)))), (3, .sv (.one (.rd (fvR (fun (x : Int) => [.sv (.one (I x))]) (fun (r : Int) => .sv (.one (I r))) dommark mark)))), (4, .sv (.one (I limit))), (10, .sv (.one (.ptr 0 0))), (12, .sv (.one (.ptr 1 0))), (13, .sv (.one (.own 2))), (14, .sv (.one (.own 3))), (15, .sv (.one (I e))), (16, .sv (.one (.own 8))), (42, .sv (.one (I letters))), (43, .sv (.one (I x43)))], [.box [I 0, I 0, .v (.slice none 0 0), .v (.slice none 0 0)] 25 false, .box [I letters, I 0, .own 6, .own 7] 25 false, mapI encI3 intT m2_2, rowI 3 intT l3_2, .gone, .gone, rowI 23 (lsT intT) l6, rowI 3 intT l7, rowI 3 intT l8]⟩ _
    refine En.seq ?_
    refine En.region ?_
    refine WL.run ht hn 1 ⟨[(0, .sv (.one (I letters))), (2, .sv (.one (.rd (fvR (fun (x : (Int × Int)) => [.sv (.one (I x.1)), .sv (.one (I x.2))]) (fun (r : Int) => .sv (.one (I r))) domgo go)))), (3, .sv (.one (.rd (fvR (fun (x : Int) => [.sv (.one (I x))]) (fun (r : Int) => .sv (.one (I r))) dommark mark)))), (4, .sv (.one (I limit))), (10, .sv (.one (.ptr 0 0))), (12, .sv (.one (.ptr 1 0))), (13, .sv (.one (.own 2))), (14, .sv (.one (.own 3))), (15, .sv (.one (I e))), (16, .sv (.one (.own 8))), (42, .sv (.one (I letters))), (43, .sv (.one (I x43))), (44, .sv (.one (B (decide (x43 < letters)))))], [.box [I 0, I 0, .v (.slice none 0 0), .v (.slice none 0 0)] 25 false, .box [I letters, I 0, .own 6, .own 7] 25 false, mapI encI3 intT m2_2, rowI 3 intT l3_2, .gone, .gone, rowI 23 (lsT intT) l6, rowI 3 intT l7, rowI 3 intT l8]⟩ (by kernel_rfl) ?_
    refine WL.nil ?_
    refine En.seq ?_
    refine En.cond (b := (decide (x43 < letters))) (by kernel_rfl) (fun hb => ?_) (fun hb => ?_)
    · replace h := h.1 hb
      refine En.skip ?_
      refine En.seq ?_
      refine En.block ?_
      refine En.seq ?_
      refine En.region ?_
      refine WL.run ht hn 2 ⟨[(0, .sv (.one (I letters))), (2, .sv (.one (.rd (fvR (fun (x : (Int × Int)) => [.sv (.one (I x.1)), .sv (.one (I x.2))]) (fun (r : Int) => .sv (.one (I r))) domgo go)))), (3, .sv (.one (.rd (fvR (fun (x : Int) => [.sv (.one (I x))]) (fun (r : Int) => .sv (.one (I r))) dommark mark)))), (4, .sv (.one (I limit))), (10, .sv (.one (.ptr 0 0))), (12, .sv (.one (.ptr 1 0))), (13, .sv (.one (.own 2))), (14, .sv (.one (.own 3))), (15, .sv (.one (I e))), (16, .sv (.one (.own 8))), (17, .sv (.one (I x43))), (42, .sv (.one (I letters))), (43, .sv (.one (I x43)))], [.box [I 0, I 0, .v (.slice none 0 0), .v (.slice none 0 0)] 25 false, .box [I letters, I 0, .own 6, .own 7] 25 false, mapI encI3 intT m2_2, rowI 3 intT l3_2, .gone, .gone, rowI 23 (lsT intT) l6, rowI 3 intT l7, rowI 3 intT l8]⟩ (by kernel_rfl) ?_
      refine WL.nil ?_
      refine En.seq ?_
      refine En.region ?_
      refine WL.run ht hn 3 ⟨[(0, .sv (.one (I letters))), (2, .sv (.one (.rd (fvR (fun (x : (Int × Int)) => [.sv (.one (I x.1)), .sv (.one (I x.2))]) (fun (r : Int) => .sv (.one (I r))) domgo go)))), (3, .sv (.one (.rd (fvR (fun (x : Int) => [.sv (.one (I x))]) (fun (r : Int) => .sv (.one (I r))) dommark mark)))), (4, .sv (.one (I limit))), (10, .sv (.one (.ptr 0 0))), (12, .sv (.one (.ptr 1 0))), (13, .sv (.one (.own 2))), (14, .sv (.one (.own 3))), (15, .sv (.one (I e))), (16, .sv (.one (.own 8))), (17, .sv (.one (I x43))), (42, .sv (.one (I letters))), (43, .sv (.one (I x43))), (46, .sv (.one (.rd (fvR (fun (x : (Int × Int)) => [.sv (.one (I x.1)), .sv (.one (I x.2))]) (fun (r : Int) => .sv (.one (I r))) domgo go)))), (47, .sv (.one (I e))), (48, .sv (.one (I x43)))], [.box [I 0, I 0, .v (.slice none 0 0), .v (.slice none 0 0)] 25 false, .box [I letters, I 0, .own 6, .own 7] 25 false, mapI encI3 intT m2_2, rowI 3 intT l3_2, .gone, .gone, rowI 23 (lsT intT) l6, rowI 3 intT l7, rowI 3 intT l8]⟩ (by kernel_rfl) ?_
      have hp := h.1
      replace h := h.2
      refine WL.mt0 (K := []) (p := none) hn (by rfl) (mt_callv (e, x43) hp rfl (by rfl) (by rfl) (by rfl) (by rfl)) (by rfl) (by rfl) (by rfl) ?_
      refine WL.run ht hn 1 ⟨[(0, .sv (.one (I letters))), (2, .sv (.one (.rd (fvR (fun (x : (Int × Int)) => [.sv (.one (I x.1)), .sv (.one (I x.2))]) (fun (r : Int) => .sv (.one (I r))) domgo go)))), (3, .sv (.one (.rd (fvR (fun (x : Int) => [.sv (.one (I x))]) (fun (r : Int) => .sv (.one (I r))) dommark mark)))), (4, .sv (.one (I limit))), (10, .sv (.one (.ptr 0 0))), (12, .sv (.one (.ptr 1 0))), (13, .sv (.one (.own 2))), (14, .sv (.one (.own 3))), (15, .sv (.one (I e))), (16, .sv (.one (.own 8))), (17, .sv (.one (I x43))), (18, .sv (.one (I (go (e, x43))))), (42, .sv (.one (I letters))), (43, .sv (.one (I x43)))], [.box [I 0, I 0, .v (.slice none 0 0), .v (.slice none 0 0)] 25 false, .box [I letters, I 0, .own 6, .own 7] 25 false, mapI encI3 intT m2_2, rowI 3 intT l3_2, .gone, .gone, rowI 23 (lsT intT) l6, rowI 3 intT l7, rowI 3 intT l8]⟩ (by kernel_rfl) ?_
      refine WL.nil ?_
      refine En.seq ?_
      refine En.region ?_
      refine WL.run ht hn 2 ⟨[(0, .sv (.one (I letters))), (2, .sv (.one (.rd (fvR (fun (x : (Int × Int)) => [.sv (.one (I x.1)), .sv (.one (I x.2))]) (fun (r : Int) => .sv (.one (I r))) domgo go)))), (3, .sv (.one (.rd (fvR (fun (x : Int) => [.sv (.one (I x))]) (fun (r : Int) => .sv (.one (I r))) dommark mark)))), (4, .sv (.one (I limit))), (10, .sv (.one (.ptr 0 0))), (12, .sv (.one (.ptr 1 0))), (13, .sv (.one (.own 2))), (14, .sv (.one (.own 3))), (15, .sv (.one (I e))), (16, .sv (.one (.own 8))), (17, .sv (.one (I x43))), (18, .sv (.one (I (go (e, x43))))), (42, .sv (.one (I letters))), (43, .sv (.one (I x43))), (51, .sv (.one (.own 2))), (52, .sv (.one (I (go (e, x43)))))], [.box [I 0, I 0, .v (.slice none 0 0), .v (.slice none 0 0)] 25 false, .box [I letters, I 0, .own 6, .own 7] 25 false, mapI encI3 intT m2_2, rowI 3 intT l3_2, .gone, .gone, rowI 23 (lsT intT) l6, rowI 3 intT l7, rowI 3 intT l8]⟩ (by kernel_rfl) ?_
      refine WL.val hn (by rfl) (val_lookup (T := intT) (D := m2_2) keyI3 (k := (go (e, x43))) (ok := true) (0 : Int) (zv := (.int .i64 0)) rfl Try.underlying183 (fun _ => by kernel_rfl) (fun _ => ⟨rfl, trivial⟩) (mapAs encI3 intT m2_2) (by rfl) (by rfl) (by rfl) (fun _ => rfl)) (by rfl) ?_
      refine WL.run ht hn 5 ⟨[(0, .sv (.one (I letters))), (2, .sv (.one (.rd (fvR (fun (x : (Int × Int)) => [.sv (.one (I x.1)), .sv (.one (I x.2))]) (fun (r : Int) => .sv (.one (I r))) domgo go)))), (3, .sv (.one (.rd (fvR (fun (x : Int) => [.sv (.one (I x))]) (fun (r : Int) => .sv (.one (I r))) dommark mark)))), (4, .sv (.one (I limit))), (10, .sv (.one (.ptr 0 0))), (12, .sv (.one (.ptr 1 0))), (13, .sv (.one (.own 2))), (14, .sv (.one (.own 3))), (15, .sv (.one (I e))), (16, .sv (.one (.own 8))), (17, .sv (.one (I x43))), (18, .sv (.one (I (go (e, x43))))), (19, .sv (.one (I ((mget (go (e, x43)) m2_2).getD (0 : Int))))), (20, .sv (.one (B (mget (go (e, x43)) m2_2).isSome))), (42, .sv (.one (I letters))), (43, .sv (.one (I x43)))], [.box [I 0, I 0, .v (.slice none 0 0), .v (.slice none 0 0)] 25 false, .box [I letters, I 0, .own 6, .own 7] 25 false, mapI encI3 intT m2_2, rowI 3 intT l3_2, .gone, .gone, rowI 23 (lsT intT) l6, rowI 3 intT l7, rowI 3 intT l8]⟩ (by kernel_rfl) ?_
      refine WL.nil ?_
      obtain ⟨J, h, hJ⟩ := h
      refine En.seqJ (σ := Int × (List (Int × Int)) × (List Int)) (fun zz => J zz.1 zz.2.1 zz.2.2) (fun zz => ⟨[(0, .sv (.one (I letters))), (2, .sv (.one (.rd (fvR (fun (x : (Int × Int)) => [.sv (.one (I x.1)), .sv (.one (I x.2))]) (fun (r : Int) => .sv (.one (I r))) domgo go)))), (3, .sv (.one (.rd (fvR (fun (x : Int) => [.sv (.one (I x))]) (fun (r : Int) => .sv (.one (I r))) dommark mark)))), (4, .sv (.one (I limit))), (10, .sv (.one (.ptr 0 0))), (12, .sv (.one (.ptr 1 0))), (13, .sv (.one (.own 2))), (14, .sv (.one (.own 3))), (15, .sv (.one (I e))), (16, .sv (.one (.own 8))), (17, .sv (.one (I x43))), (19, .sv (.one (I zz.1))), (42, .sv (.one (I letters))), (43, .sv (.one (I x43)))], [.box [I 0, I 0, .v (.slice none 0 0), .v (.slice none 0 0)] 25 false, .box [I letters, I 0, .own 6, .own 7] 25 false, mapI encI3 intT zz.2.1, rowI 3 intT zz.2.2, .gone, .gone, rowI 23 (lsT intT) l6, rowI 3 intT l7, rowI 3 intT l8]⟩) ?_ ?_
      · refine En.seq ?_
        refine En.region ?_
        refine WL.run ht hn 2 ⟨[(0, .sv (.one (I letters))), (2, .sv (.one (.rd (fvR (fun (x : (Int × Int)) => [.sv (.one (I x.1)), .sv (.one (I x.2))]) (fun (r : Int) => .sv (.one (I r))) domgo go)))), (3, .sv (.one (.rd (fvR (fun (x : Int) => [.sv (.one (I x))]) (fun (r : Int) => .sv (.one (I r))) dommark mark)))), (4, .sv (.one (I limit))), (10, .sv (.one (.ptr 0 0))), (12, .sv (.one (.ptr 1 0))), (13, .sv (.one (.own 2))), (14, .sv (.one (.own 3))), (15, .sv (.one (I e))), (16, .sv (.one (.own 8))), (17, .sv (.one (I x43))), (18, .sv (.one (I (go (e, x43))))), (19, .sv (.one (I ((mget (go (e, x43)) m2_2).getD (0 : Int))))), (42, .sv (.one (I letters))), (43, .sv (.one (I x43))), (57, .sv (.one (B (!(mget (go (e, x43)) m2_2).isSome))))], [.box [I 0, I 0, .v (.slice none 0 0), .v (.slice none 0 0)] 25 false, .box [I letters, I 0, .own 6, .own 7] 25 false, mapI encI3 intT m2_2, rowI 3 intT l3_2, .gone, .gone, rowI 23 (lsT intT) l6, rowI 3 intT l7, rowI 3 intT l8]⟩ (by kernel_rfl) ?_
        refine WL.nil ?_
        refine En.cond (b := (!(mget (go (e, x43)) m2_2).isSome)) (by kernel_rfl) (fun hb => ?_) (fun hb => ?_)
        · replace h := h.1 hb
          refine En.seq ?_
          refine En.region ?_
          refine WL.run ht hn 3 ⟨[(0, .sv (.one (I letters))), (2, .sv (.one (.rd (fvR (fun (x : (Int × Int)) => [.sv (.one (I x.1)), .sv (.one (I x.2))]) (fun (r : Int) => .sv (.one (I r))) domgo go)))), (3, .sv (.one (.rd (fvR (fun (x : Int) => [.sv (.one (I x))]) (fun (r : Int) => .sv (.one (I r))) dommark mark)))), (4, .sv (.one (I limit))), (10, .sv (.one (.ptr 0 0))), (12, .sv (.one (.ptr 1 0))), (13, .sv (.one (.own 2))), (14, .sv (.one (.own 3))), (15, .sv (.one (I e))), (16, .sv (.one (.own 8))), (17, .sv (.one (I x43))), (18, .sv (.one (I (go (e, x43))))), (19, .sv (.one (I (l3_2.length : Int)))), (42, .sv (.one (I letters))), (43, .sv (.one (I x43)))], [.box [I 0, I 0, .v (.slice none 0 0), .v (.slice none 0 0)] 25 false, .box [I letters, I 0, .own 6, .own 7] 25 false, mapI encI3 intT m2_2, rowI 3 intT l3_2, .gone, .gone, rowI 23 (lsT intT) l6, rowI 3 intT l7, rowI 3 intT l8]⟩ (by kernel_rfl) ?_
          refine WL.nil ?_
          refine En.seq ?_
          refine En.seq ?_
          refine En.region ?_
          refine WL.run ht hn 3 ⟨[(0, .sv (.one (I letters))), (2, .sv (.one (.rd (fvR (fun (x : (Int × Int)) => [.sv (.one (I x.1)), .sv (.one (I x.2))]) (fun (r : Int) => .sv (.one (I r))) domgo go)))), (3, .sv (.one (.rd (fvR (fun (x : Int) => [.sv (.one (I x))]) (fun (r : Int) => .sv (.one (I r))) dommark mark)))), (4, .sv (.one (I limit))), (10, .sv (.one (.ptr 0 0))), (12, .sv (.one (.ptr 1 0))), (13, .sv (.one (.own 2))), (14, .sv (.one (.own 3))), (15, .sv (.one (I e))), (16, .sv (.one (.own 8))), (17, .sv (.one (I x43))), (18, .sv (.one (I (go (e, x43))))), (19, .sv (.one (I (l3_2.length : Int)))), (42, .sv (.one (I letters))), (43, .sv (.one (I x43))), (62, .sv (.one (B ((l3_2.length : Int) == limit))))], [.box [I 0, I 0, .v (.slice none 0 0), .v (.slice none 0 0)] 25 false, .box [I letters, I 0, .own 6, .own 7] 25 false, mapI encI3 intT m2_2, rowI 3 intT l3_2, .gone, .gone, rowI 23 (lsT intT) l6, rowI 3 intT l7, rowI 3 intT l8]⟩ (by kernel_rfl) ?_
          refine WL.nil ?_
          refine En.cond (b := ((l3_2.length : Int) == limit)) (by kernel_rfl) (fun hb => ?_) (fun hb => ?_)
          · replace h := h.1 hb
            refine En.seq ?_
            refine En.region ?_
            refine WL.run ht hn 3 ⟨[(10, .sv (.one (.ptr 0 0))), (11, .sv (.one (B false)))], [.box [I 0, I 0, .v (.slice none 0 0), .v (.slice none 0 0)] 25 false, .gone, .gone, .gone, .gone, .gone, .gone, .gone, .gone]⟩ (by kernel_rfl) ?_
            refine WL.nil ?_
            refine En.ret ?_
            refine En.nilBox (T := (lsT intT)) 0 2 (by rfl) (by rfl) ?_
            refine En.nilBox (T := intT) 0 3 (by rfl) (by rfl) ?_
            exact En.back ht ((ApiDet.mk 0 0 [] []), false) h (by kernel_rfl) rfl
          · replace h := h.2 hb
            refine En.skip ?_
            refine En.seq ?_
            refine En.region ?_
            refine WL.run ht hn 3 ⟨[(0, .sv (.one (I letters))), (2, .sv (.one (.rd (fvR (fun (x : (Int × Int)) => [.sv (.one (I x.1)), .sv (.one (I x.2))]) (fun (r : Int) => .sv (.one (I r))) domgo go)))), (3, .sv (.one (.rd (fvR (fun (x : Int) => [.sv (.one (I x))]) (fun (r : Int) => .sv (.one (I r))) dommark mark)))), (4, .sv (.one (I limit))), (10, .sv (.one (.ptr 0 0))), (12, .sv (.one (.ptr 1 0))), (13, .sv (.one (.own 2))), (14, .sv (.one (.own 3))), (15, .sv (.one (I e))), (16, .sv (.one (.own 8))), (17, .sv (.one (I x43))), (18, .sv (.one (I (go (e, x43))))), (19, .sv (.one (I (l3_2.length : Int)))), (42, .sv (.one (I letters))), (43, .sv (.one (I x43))), (64, .sv (.one (.own 2))), (65, .sv (.one (I (go (e, x43))))), (66, .sv (.one (I (l3_2.length : Int))))], [.box [I 0, I 0, .v (.slice none 0 0), .v (.slice none 0 0)] 25 false, .box [I letters, I 0, .own 6, .own 7] 25 false, mapI encI3 intT m2_2, rowI 3 intT l3_2, .gone, .gone, rowI 23 (lsT intT) l6, rowI 3 intT l7, rowI 3 intT l8]⟩ (by kernel_rfl) ?_
            refine WL.mapPut (T := intT) keyI3 (k := (go (e, x43))) (y := (l3_2.length : Int)) hn (by rfl) (.inl rfl) Try.underlying183 (by rfl) (by rfl) (by rfl) (by rfl) (by rfl) (by rfl) ?_
            refine WL.nil ?_
            refine En.region ?_
            refine WL.run ht hn 2 ⟨[(0, .sv (.one (I letters))), (2, .sv (.one (.rd (fvR (fun (x : (Int × Int)) => [.sv (.one (I x.1)), .sv (.one (I x.2))]) (fun (r : Int) => .sv (.one (I r))) domgo go)))), (3, .sv (.one (.rd (fvR (fun (x : Int) => [.sv (.one (I x))]) (fun (r : Int) => .sv (.one (I r))) dommark mark)))), (4, .sv (.one (I limit))), (10, .sv (.one (.ptr 0 0))), (12, .sv (.one (.ptr 1 0))), (13, .sv (.one (.own 2))), (15, .sv (.one (I e))), (16, .sv (.one (.own 8))), (17, .sv (.one (I x43))), (19, .sv (.one (I (l3_2.length : Int)))), (42, .sv (.one (I letters))), (43, .sv (.one (I x43))), (67, .sv (.one (.own 3))), (68, .sv (.one (I (go (e, x43)))))], [.box [I 0, I 0, .v (.slice none 0 0), .v (.slice none 0 0)] 25 false, .box [I letters, I 0, .own 6, .own 7] 25 false, mapI encI3 intT (mput (go (e, x43)) (l3_2.length : Int) m2_2), rowI 3 intT l3_2, .gone, .gone, rowI 23 (lsT intT) l6, rowI 3 intT l7, rowI 3 intT l8]⟩ (by kernel_rfl) ?_
            refine WL.mt0 (K := []) (p := some (9, rowI 3 intT ([(go (e, x43))] : (List Int)))) hn (by rfl) (mt_lit (T := intT) ([(go (e, x43))] : (List Int)) (mt_bsl 9 (r := cellsOf intT ([(go (e, x43))] : (List Int))) ht rfl (by rfl) (by rfl) (by rfl) (by kernel_rfl) (by rfl)) (fun _ h => by cases h) (fun _ => rfl) (fun _ => rfl) (by rfl) (Nat.le_of_ble_eq_true rfl)) (by rfl) (by rfl) (by rfl) ?_
            refine WL.seal (T := intT) (l := ([(go (e, x43))] : (List Int))) (e := 3) 9 rfl ?_
            refine WL.run ht hn 0 ⟨[(0, .sv (.one (I letters))), (2, .sv (.one (.rd (fvR (fun (x : (Int × Int)) => [.sv (.one (I x.1)), .sv (.one (I x.2))]) (fun (r : Int) => .sv (.one (I r))) domgo go)))), (3, .sv (.one (.rd (fvR (fun (x : Int) => [.sv (.one (I x))]) (fun (r : Int) => .sv (.one (I r))) dommark mark)))), (4, .sv (.one (I limit))), (10, .sv (.one (.ptr 0 0))), (12, .sv (.one (.ptr 1 0))), (13, .sv (.one (.own 2))), (15, .sv (.one (I e))), (16, .sv (.one (.own 8))), (17, .sv (.one (I x43))), (19, .sv (.one (I (l3_2.length : Int)))), (42, .sv (.one (I letters))), (43, .sv (.one (I x43))), (67, .sv (.one (.own 3))), (68, .sv (.one (I (go (e, x43))))), (69, .sv (.one (LS intT ([(go (e, x43))] : (List Int)))))], [.box [I 0, I 0, .v (.slice none 0 0), .v (.slice none 0 0)] 25 false, .box [I letters, I 0, .own 6, .own 7] 25 false, mapI encI3 intT (mput (go (e, x43)) (l3_2.length : Int) m2_2), rowI 3 intT l3_2, .gone, .gone, rowI 23 (lsT intT) l6, rowI 3 intT l7, rowI 3 intT l8, .gone]⟩ (by kernel_rfl) ?_
            have hp := h.1
            replace h := h.2
            refine WL.mt (S2 := ⟨[(0, .sv (.one (I letters))), (2, .sv (.one (.rd (fvR (fun (x : (Int × Int)) => [.sv (.one (I x.1)), .sv (.one (I x.2))]) (fun (r : Int) => .sv (.one (I r))) domgo go)))), (3, .sv (.one (.rd (fvR (fun (x : Int) => [.sv (.one (I x))]) (fun (r : Int) => .sv (.one (I r))) dommark mark)))), (4, .sv (.one (I limit))), (10, .sv (.one (.ptr 0 0))), (12, .sv (.one (.ptr 1 0))), (13, .sv (.one (.own 2))), (15, .sv (.one (I e))), (16, .sv (.one (.own 8))), (17, .sv (.one (I x43))), (19, .sv (.one (I (l3_2.length : Int)))), (42, .sv (.one (I letters))), (43, .sv (.one (I x43))), (68, .sv (.one (I (go (e, x43))))), (69, .sv (.one (LS intT ([(go (e, x43))] : (List Int)))))], [.box [I 0, I 0, .v (.slice none 0 0), .v (.slice none 0 0)] 25 false, .box [I letters, I 0, .own 6, .own 7] 25 false, mapI encI3 intT (mput (go (e, x43)) (l3_2.length : Int) m2_2), rowI 3 intT l3_2, .gone, .gone, rowI 23 (lsT intT) l6, rowI 3 intT l7, rowI 3 intT l8, .gone]⟩) (K := [3]) (p := some (3, rowI 3 intT (l3_2 ++ ([(go (e, x43))] : (List Int))))) hn (by rfl) (mt_append (T := intT) (l := l3_2) (es := ([(go (e, x43))] : (List Int))) ht rfl (by rfl) (by rfl) (by rfl) (by rfl) (by decide) (by rfl) (by rfl) (srcLS (T := intT) (es := ([(go (e, x43))] : (List Int))) (fun _ h => by cases h) (by decide) (by rfl)) (by exact hp) (by exact hp.le (by decide))) (by kernel_rfl) (by rfl) (by rfl) (by rfl) ?_
            refine WL.run ht hn 1 ⟨[(0, .sv (.one (I letters))), (2, .sv (.one (.rd (fvR (fun (x : (Int × Int)) => [.sv (.one (I x.1)), .sv (.one (I x.2))]) (fun (r : Int) => .sv (.one (I r))) domgo go)))), (3, .sv (.one (.rd (fvR (fun (x : Int) => [.sv (.one (I x))]) (fun (r : Int) => .sv (.one (I r))) dommark mark)))), (4, .sv (.one (I limit))), (10, .sv (.one (.ptr 0 0))), (12, .sv (.one (.ptr 1 0))), (13, .sv (.one (.own 2))), (14, .sv (.one (.own 3))), (15, .sv (.one (I e))), (16, .sv (.one (.own 8))), (17, .sv (.one (I x43))), (19, .sv (.one (I (l3_2.length : Int)))), (42, .sv (.one (I letters))), (43, .sv (.one (I x43)))], [.box [I 0, I 0, .v (.slice none 0 0), .v (.slice none 0 0)] 25 false, .box [I letters, I 0, .own 6, .own 7] 25 false, mapI encI3 intT (mput (go (e, x43)) (l3_2.length : Int) m2_2), rowI 3 intT (l3_2 ++ ([(go (e, x43))] : (List Int))), .gone, .gone, rowI 23 (lsT intT) l6, rowI 3 intT l7, rowI 3 intT l8, .gone]⟩ (by kernel_rfl) ?_
            refine WL.nil ?_
            exact En.at (I := fun zz => J zz.1 zz.2.1 zz.2.2) (T := fun zz => ⟨[(0, .sv (.one (I letters))), (2, .sv (.one (.rd (fvR (fun (x : (Int × Int)) => [.sv (.one (I x.1)), .sv (.one (I x.2))]) (fun (r : Int) => .sv (.one (I r))) domgo go)))), (3, .sv (.one (.rd (fvR (fun (x : Int) => [.sv (.one (I x))]) (fun (r : Int) => .sv (.one (I r))) dommark mark)))), (4, .sv (.one (I limit))), (10, .sv (.one (.ptr 0 0))), (12, .sv (.one (.ptr 1 0))), (13, .sv (.one (.own 2))), (14, .sv (.one (.own 3))), (15, .sv (.one (I e))), (16, .sv (.one (.own 8))), (17, .sv (.one (I x43))), (19, .sv (.one (I zz.1))), (42, .sv (.one (I letters))), (43, .sv (.one (I x43)))], [.box [I 0, I 0, .v (.slice none 0 0), .v (.slice none 0 0)] 25 false, .box [I letters, I 0, .own 6, .own 7] 25 false, mapI encI3 intT zz.2.1, rowI 3 intT zz.2.2, .gone, .gone, rowI 23 (lsT intT) l6, rowI 3 intT l7, rowI 3 intT l8]⟩) ((l3_2.length : Int), (mput (go (e, x43)) (l3_2.length : Int) m2_2), (l3_2 ++ ([(go (e, x43))] : (List Int)))) h (by kernel_rfl)
        · replace h := h.2 hb
          refine En.skip ?_
          exact En.at (I := fun zz => J zz.1 zz.2.1 zz.2.2) (T := fun zz => ⟨[(0, .sv (.one (I letters))), (2, .sv (.one (.rd (fvR (fun (x : (Int × Int)) => [.sv (.one (I x.1)), .sv (.one (I x.2))]) (fun (r : Int) => .sv (.one (I r))) domgo go)))), (3, .sv (.one (.rd (fvR (fun (x : Int) => [.sv (.one (I x))]) (fun (r : Int) => .sv (.one (I r))) dommark mark)))), (4, .sv (.one (I limit))), (10, .sv (.one (.ptr 0 0))), (12, .sv (.one (.ptr 1 0))), (13, .sv (.one (.own 2))), (14, .sv (.one (.own 3))), (15, .sv (.one (I e))), (16, .sv (.one (.own 8))), (17, .sv (.one (I x43))), (19, .sv (.one (I zz.1))), (42, .sv (.one (I letters))), (43, .sv (.one (I x43)))], [.box [I 0, I 0, .v (.slice none 0 0), .v (.slice none 0 0)] 25 false, .box [I letters, I 0, .own 6, .own 7] 25 false, mapI encI3 intT zz.2.1, rowI 3 intT zz.2.2, .gone, .gone, rowI 23 (lsT intT) l6, rowI 3 intT l7, rowI 3 intT l8]⟩) (((mget (go (e, x43)) m2_2).getD (0 : Int)), m2_2, l3_2) h (by kernel_rfl)
      · rintro ⟨x19, m2_3, l3_3⟩ h
        replace h := hJ _ _ _ h
        show En c ⟨[(0, .sv (.one (I letters))), (2, .sv (.one (.rd (fvR (fun (x : (Int × Int)) => [.sv (.one (I x.1)), .sv (.one (I x.2))]) (fun (r : Int) => .sv (.one (I r))) domgo go)))), (3, .sv (.one (.rd (fvR (fun (x : Int) => [.sv (.one (I x))]) (fun (r : Int) => .sv (.one (I r))) dommark mark)))), (4, .sv (.one (I limit))), (10, .sv (.one (.ptr 0 0))), (12, .sv (.one (.ptr 1 0))), (13, .sv (.one (.own 2))), (14, .sv (.one (.own 3))), (15, .sv (.one (I e))), (16, .sv (.one (.own 8))), (17, .sv (.one (I x43))), (19, .sv (.one (I x19))), (42, .sv (.one (I letters))), (43, .sv (.one (I x43)))], [.box [I 0, I 0, .v (.slice none 0 0), .v (.slice none 0 0)] 25 false, .box [I letters, I 0, .own 6, .own 7] 25 false, mapI encI3 intT m2_3, rowI 3 intT l3_3, .gone, .gone, rowI 23 (lsT intT) l6, rowI 3 intT l7, rowI 3 intT l8]⟩ _
        refine En.region ?_
        refine WL.run ht hn 3 ⟨[(0, .sv (.one (I letters))), (2, .sv (.one (.rd (fvR (fun (x : (Int × Int)) => [.sv (.one (I x.1)), .sv (.one (I x.2))]) (fun (r : Int) => .sv (.one (I r))) domgo go)))), (3, .sv (.one (.rd (fvR (fun (x : Int) => [.sv (.one (I x))]) (fun (r : Int) => .sv (.one (I r))) dommark mark)))), (4, .sv (.one (I limit))), (10, .sv (.one (.ptr 0 0))), (12, .sv (.one (.ptr 1 0))), (13, .sv (.one (.own 2))), (14, .sv (.one (.own 3))), (15, .sv (.one (I e))), (16, .sv (.one (.own 8))), (42, .sv (.one (I letters))), (43, .sv (.one (I x43))), (71, .sv (.one (.own 8))), (72, .sv (.one (I x43))), (73, .sv (.one (I x19)))], [.box [I 0, I 0, .v (.slice none 0 0), .v (.slice none 0 0)] 25 false, .box [I letters, I 0, .own 6, .own 7] 25 false, mapI encI3 intT m2_3, rowI 3 intT l3_3, .gone, .gone, rowI 23 (lsT intT) l6, rowI 3 intT l7, rowI 3 intT l8]⟩ (by kernel_rfl) ?_
        obtain ⟨e_2, he_2, h⟩ := h
        refine WL.val hn (by rfl) (val_indexO (T := intT) (l := l8) (k := x43) ht rfl (by rfl) (by rfl) (by rfl) (by rfl) (by decide) (by rfl) (by rfl) (by rfl) he_2) (by rfl) ?_
        refine WL.storeO (T := intT) (l := l8) (y := x19) ht hn (by rfl) rfl (by rfl) (by rfl) (fun _ h => by cases h) (by rfl) (by rfl) (idx_lt he_2) (by rfl) (by rfl) (by rfl) (by rfl) ?_
        refine WL.nil ?_
        refine En.region ?_
        refine WL.run ht hn 2 ⟨[(0, .sv (.one (I letters))), (2, .sv (.one (.rd (fvR (fun (x : (Int × Int)) => [.sv (.one (I x.1)), .sv (.one (I x.2))]) (fun (r : Int) => .sv (.one (I r))) domgo go)))), (3, .sv (.one (.rd (fvR (fun (x : Int) => [.sv (.one (I x))]) (fun (r : Int) => .sv (.one (I r))) dommark mark)))), (4, .sv (.one (I limit))), (10, .sv (.one (.ptr 0 0))), (12, .sv (.one (.ptr 1 0))), (13, .sv (.one (.own 2))), (14, .sv (.one (.own 3))), (15, .sv (.one (I e))), (16, .sv (.one (.own 8))), (42, .sv (.one (I letters))), (43, .sv (.one (I (wr (x43 + 1)))))], [.box [I 0, I 0, .v (.slice none 0 0), .v (.slice none 0 0)] 25 false, .box [I letters, I 0, .own 6, .own 7] 25 false, mapI encI3 intT m2_3, rowI 3 intT l3_3, .gone, .gone, rowI 23 (lsT intT) l6, rowI 3 intT l7, rowI 3 intT (l8.set (x43).toNat x19)]⟩ (by kernel_rfl) ?_
        refine WL.nil ?_
        exact En.at (I := fun zz => Inv_2 zz.1 zz.2.1 zz.2.2.1 zz.2.2.2 ∧ mu_2 zz.1 zz.2.1 zz.2.2.1 zz.2.2.2 < mu_2 x43 m2_2 l3_2 l8) (T := fun zz => ⟨[(0, .sv (.one (I letters))), (2, .sv (.one (.rd (fvR (fun (x : (Int × Int)) => [.sv (.one (I x.1)), .sv (.one (I x.2))]) (fun (r : Int) => .sv (.one (I r))) domgo go)))), (3, .sv (.one (.rd (fvR (fun (x : Int) => [.sv (.one (I x))]) (fun (r : Int) => .sv (.one (I r))) dommark mark)))), (4, .sv (.one (I limit))), (10, .sv (.one (.ptr 0 0))), (12, .sv (.one (.ptr 1 0))), (13, .sv (.one (.own 2))), (14, .sv (.one (.own 3))), (15, .sv (.one (I e))), (16, .sv (.one (.own 8))), (42, .sv (.one (I letters))), (43, .sv (.one (I zz.1)))], [.box [I 0, I 0, .v (.slice none 0 0), .v (.slice none 0 0)] 25 false, .box [I letters, I 0, .own 6, .own 7] 25 false, mapI encI3 intT zz.2.1, rowI 3 intT zz.2.2.1, .gone, .gone, rowI 23 (lsT intT) l6, rowI 3 intT l7, rowI 3 intT zz.2.2.2]⟩) ((wr (x43 + 1)), m2_3, l3_3, (l8.set (x43).toNat x19)) h (by kernel_rfl)
    · replace h := h.2 hb
      refine En.exit rfl ?_
      refine En.seq ?_
      refine En.region ?_
      refine WL.run ht hn 3 ⟨[(0, .sv (.one (I letters))), (2, .sv (.one (.rd (fvR (fun (x : (Int × Int)) => [.sv (.one (I x.1)), .sv (.one (I x.2))]) (fun (r : Int) => .sv (.one (I r))) domgo go)))), (3, .sv (.one (.rd (fvR (fun (x : Int) => [.sv (.one (I x))]) (fun (r : Int) => .sv (.one (I r))) dommark mark)))), (4, .sv (.one (I limit))), (10, .sv (.one (.ptr 0 0))), (12, .sv (.one (.ptr 1 0))), (13, .sv (.one (.own 2))), (14, .sv (.one (.own 3))), (15, .sv (.one (I e))), (77, .sv (.one (.own 6))), (78, .sv (.one (.own 8)))], [.box [I 0, I 0, .v (.slice none 0 0), .v (.slice none 0 0)] 25 false, .box [I letters, I 0, .own 6, .own 7] 25 false, mapI encI3 intT m2_2, rowI 3 intT l3_2, .gone, .gone, rowI 23 (lsT intT) l6, rowI 3 intT l7, rowI 3 intT l8]⟩ (by kernel_rfl) ?_
      refine WL.seal (T := intT) (l := l8) (e := 3) 8 rfl ?_
      refine WL.run ht hn 0 ⟨[(0, .sv (.one (I letters))), (2, .sv (.one (.rd (fvR (fun (x : (Int × Int)) => [.sv (.one (I x.1)), .sv (.one (I x.2))]) (fun (r : Int) => .sv (.one (I r))) domgo go)))), (3, .sv (.one (.rd (fvR (fun (x : Int) => [.sv (.one (I x))]) (fun (r : Int) => .sv (.one (I r))) dommark mark)))), (4, .sv (.one (I limit))), (10, .sv (.one (.ptr 0 0))), (12, .sv (.one (.ptr 1 0))), (13, .sv (.one (.own 2))), (14, .sv (.one (.own 3))), (15, .sv (.one (I e))), (77, .sv (.one (.own 6))), (78, .sv (.one (LS intT l8)))], [.box [I 0, I 0, .v (.slice none 0 0), .v (.slice none 0 0)] 25 false, .box [I letters, I 0, .own 6, .own 7] 25 false, mapI encI3 intT m2_2, rowI 3 intT l3_2, .gone, .gone, rowI 23 (lsT intT) l6, rowI 3 intT l7, .gone]⟩ (by kernel_rfl) ?_
      refine WL.mt0 (K := []) (p := some (9, rowI 23 (lsT intT) ([l8] : (List (List Int))))) hn (by rfl) (mt_lit (T := (lsT intT)) ([l8] : (List (List Int))) (mt_bsl 9 (r := cellsOf (lsT intT) ([l8] : (List (List Int)))) ht rfl (by rfl) (by rfl) (by rfl) (by kernel_rfl) (by rfl)) (fun _ h => by cases h) (fun _ => rfl) (fun _ => rfl) (by rfl) (Nat.le_of_ble_eq_true rfl)) (by rfl) (by rfl) (by rfl) ?_
      refine WL.seal (T := (lsT intT)) (l := ([l8] : (List (List Int)))) (e := 23) 9 rfl ?_
      refine WL.run ht hn 0 ⟨[(0, .sv (.one (I letters))), (2, .sv (.one (.rd (fvR (fun (x : (Int × Int)) => [.sv (.one (I x.1)), .sv (.one (I x.2))]) (fun (r : Int) => .sv (.one (I r))) domgo go)))), (3, .sv (.one (.rd (fvR (fun (x : Int) => [.sv (.one (I x))]) (fun (r : Int) => .sv (.one (I r))) dommark mark)))), (4, .sv (.one (I limit))), (10, .sv (.one (.ptr 0 0))), (12, .sv (.one (.ptr 1 0))), (13, .sv (.one (.own 2))), (14, .sv (.one (.own 3))), (15, .sv (.one (I e))), (77, .sv (.one (.own 6))), (78, .sv (.one (LS intT l8))), (79, .sv (.one (LS (lsT intT) ([l8] : (List (List Int))))))], [.box [I 0, I 0, .v (.slice none 0 0), .v (.slice none 0 0)] 25 false, .box [I letters, I 0, .own 6, .own 7] 25 false, mapI encI3 intT m2_2, rowI 3 intT l3_2, .gone, .gone, rowI 23 (lsT intT) l6, rowI 3 intT l7, .gone, .gone]⟩ (by kernel_rfl) ?_
      refine WL.junk 1 2 (by rfl) ?_
      have hp := h.1
      replace h := h.2
      refine WL.mt (S2 := ⟨[(0, .sv (.one (I letters))), (2, .sv (.one (.rd (fvR (fun (x : (Int × Int)) => [.sv (.one (I x.1)), .sv (.one (I x.2))]) (fun (r : Int) => .sv (.one (I r))) domgo go)))), (3, .sv (.one (.rd (fvR (fun (x : Int) => [.sv (.one (I x))]) (fun (r : Int) => .sv (.one (I r))) dommark mark)))), (4, .sv (.one (I limit))), (10, .sv (.one (.ptr 0 0))), (12, .sv (.one (.ptr 1 0))), (13, .sv (.one (.own 2))), (14, .sv (.one (.own 3))), (15, .sv (.one (I e))), (78, .sv (.one (LS intT l8))), (79, .sv (.one (LS (lsT intT) ([l8] : (List (List Int))))))], [.box [I 0, I 0, .v (.slice none 0 0), .v (.slice none 0 0)] 25 false, .box [I letters, I 0, .junk, .own 7] 25 false, mapI encI3 intT m2_2, rowI 3 intT l3_2, .gone, .gone, rowI 23 (lsT intT) l6, rowI 3 intT l7, .gone, .gone]⟩) (K := [6]) (p := some (6, rowI 23 (lsT intT) (l6 ++ ([l8] : (List (List Int)))))) hn (by rfl) (mt_append (T := (lsT intT)) (l := l6) (es := ([l8] : (List (List Int)))) ht rfl (by rfl) (by rfl) (by rfl) (by rfl) (by decide) (by rfl) (by rfl) (srcLS (T := (lsT intT)) (es := ([l8] : (List (List Int)))) (fun _ h => by cases h) (by decide) (by rfl)) (by exact hp) (by exact hp.le (by decide))) (by kernel_rfl) (by rfl) (by rfl) (by rfl) ?_
      refine WL.run ht hn 2 ⟨[(0, .sv (.one (I letters))), (2, .sv (.one (.rd (fvR (fun (x : (Int × Int)) => [.sv (.one (I x.1)), .sv (.one (I x.2))]) (fun (r : Int) => .sv (.one (I r))) domgo go)))), (3, .sv (.one (.rd (fvR (fun (x : Int) => [.sv (.one (I x))]) (fun (r : Int) => .sv (.one (I r))) dommark mark)))), (4, .sv (.one (I limit))), (10, .sv (.one (.ptr 0 0))), (12, .sv (.one (.ptr 1 0))), (13, .sv (.one (.own 2))), (14, .sv (.one (.own 3))), (15, .sv (.one (I e)))], [.box [I 0, I 0, .v (.slice none 0 0), .v (.slice none 0 0)] 25 false, .box [I letters, I 0, .own 6, .own 7] 25 false, mapI encI3 intT m2_2, rowI 3 intT l3_2, .gone, .gone, rowI 23 (lsT intT) (l6 ++ ([l8] : (List (List Int)))), rowI 3 intT l7, .gone, .gone]⟩ (by kernel_rfl) ?_
      refine WL.nil ?_
      have hp_2 := h.1
      replace h := h.2
      have hp_3 := h.1
      replace h := h.2
      refine En.regionA ⟨[(0, .sv (.one (I letters))), (2, .sv (.one (.rd (fvR (fun (x : (Int × Int)) => [.sv (.one (I x.1)), .sv (.one (I x.2))]) (fun (r : Int) => .sv (.one (I r))) domgo go)))), (3, .sv (.one (.rd (fvR (fun (x : Int) => [.sv (.one (I x))]) (fun (r : Int) => .sv (.one (I r))) dommark mark)))), (4, .sv (.one (I limit))), (10, .sv (.one (.ptr 0 0))), (12, .sv (.one (.ptr 1 0))), (13, .sv (.one (.own 2))), (14, .sv (.one (.own 3))), (15, .sv (.one (I e)))], [.sv (.one (.ptr 1 3)), .sv (.one (.own 7)), .sv (.one (.rd (fvR (fun (x : Int) => [.sv (.one (I x))]) (fun (r : Int) => .sv (.one (I r))) dommark mark))), .sv (.one (I e)), .sv (.one (I (mark e))), .sv (.one (LS intT ([(mark e)] : (List Int)))), .sv (.one (.own 10)), .sv (.one (.ptr 1 3)), .tup []], [⟨.box [I 0, I 0, .v (.slice none 0 0), .v (.slice none 0 0)] 25 false, none, none, none⟩, ⟨.box [I letters, I 0, .own 6, .own 7] 25 false, none, none, some (8, .box [I letters, I 0, .own 6, .own 10] 25 false)⟩, ⟨mapI encI3 intT m2_2, none, none, none⟩, ⟨rowI 3 intT l3_2, none, none, none⟩, ⟨.gone, none, none, none⟩, ⟨.gone, none, none, none⟩, ⟨rowI 23 (lsT intT) (l6 ++ ([l8] : (List (List Int)))), none, none, none⟩, ⟨rowI 3 intT l7, none, some 6, none⟩, ⟨.gone, none, none, none⟩, ⟨.gone, none, none, none⟩, ⟨rowI 3 intT (l7 ++ ([(mark e)] : (List Int))), some 6, none, none⟩]⟩ ⟨[(0, .sv (.one (I letters))), (2, .sv (.one (.rd (fvR (fun (x : (Int × Int)) => [.sv (.one (I x.1)), .sv (.one (I x.2))]) (fun (r : Int) => .sv (.one (I r))) domgo go)))), (3, .sv (.one (.rd (fvR (fun (x : Int) => [.sv (.one (I x))]) (fun (r : Int) => .sv (.one (I r))) dommark mark)))), (4, .sv (.one (I limit))), (10, .sv (.one (.ptr 0 0))), (12, .sv (.one (.ptr 1 0))), (13, .sv (.one (.own 2))), (14, .sv (.one (.own 3)))], [.box [I 0, I 0, .v (.slice none 0 0), .v (.slice none 0 0)] 25 false, .box [I letters, I 0, .own 6, .own 10] 25 false, mapI encI3 intT m2_2, rowI 3 intT l3_2, .gone, .gone, rowI 23 (lsT intT) (l6 ++ ([l8] : (List (List Int)))), .gone, .gone, .gone, rowI 3 intT (l7 ++ ([(mark e)] : (List Int)))]⟩ (by kernel_rfl) hn (by kernel_rfl) (by rfl) (by kernel_rfl) ?_ (by kernel_rfl) ?_
      · exact ⟨.mt ⟨[(12, .sv (.one (.ptr 1 0)))], []⟩ [] none (by kernel_rfl) (by rfl) (mt_ev ht (by kernel_rfl)) rfl rfl rfl rfl,
    .mt ⟨[(82, .sv (.one (.ptr 1 3)))], [.gone, .box [I letters, I 0, .own 6, .own 7] 25 false]⟩ [] none (by kernel_rfl) (by rfl) (mt_ev ht (by kernel_rfl)) rfl rfl rfl rfl,
    .mt ⟨[(3, .sv (.one (.rd (fvR (fun (x : Int) => [.sv (.one (I x))]) (fun (r : Int) => .sv (.one (I r))) dommark mark))))], []⟩ [] none (by kernel_rfl) (by rfl) (mt_ev ht (by kernel_rfl)) rfl rfl rfl rfl,
    .mt ⟨[(15, .sv (.one (I e)))], []⟩ [] none (by kernel_rfl) (by rfl) (mt_ev ht (by kernel_rfl)) rfl rfl rfl rfl,
    .mt ⟨[(84, .sv (.one (.rd (fvR (fun (x : Int) => [.sv (.one (I x))]) (fun (r : Int) => .sv (.one (I r))) dommark mark)))), (85, .sv (.one (I e)))], []⟩ [] none (by kernel_rfl) (by rfl) (mt_callv (ins := (fun (x : Int) => [.sv (.one (I x))])) (out := (fun (r : Int) => .sv (.one (I r)))) (dom := dommark) (φ := mark) e hp_2 rfl (by rfl) (by rfl) (by rfl) (by rfl)) rfl rfl rfl rfl,
    .mt ⟨[(86, .sv (.one (I (mark e))))], []⟩ [] none (by kernel_rfl) (by rfl) (mt_seal (q := 10) (e := 3) (mt_lit (T := intT) ([(mark e)] : (List Int)) (mt_bsl 10 (r := cellsOf intT ([(mark e)] : (List Int))) ht rfl (by rfl) (by rfl) (by rfl) (by kernel_rfl) (by rfl)) (fun _ h => by cases h) (fun _ => rfl) (fun _ => rfl) (by rfl) (Nat.le_of_ble_eq_true rfl))) rfl rfl rfl rfl,
    .mt ⟨[(83, .sv (.one (.own 7))), (87, .sv (.one (LS intT ([(mark e)] : (List Int)))))], [.gone, .gone, .gone, .gone, .gone, .gone, .gone, rowI 3 intT l7]⟩ [7] (some 10) (by kernel_rfl) (by rfl) (mt_append (T := intT) (l := l7) (es := ([(mark e)] : (List Int))) (p := 10) ht rfl (by rfl) (by rfl) (by rfl) (by rfl) (by decide) (by rfl) (by rfl) (srcLS (T := intT) (es := ([(mark e)] : (List Int))) (fun _ h => by cases h) (by decide) (by rfl)) (by exact hp_3) (by exact hp_3.le (by decide))) rfl rfl rfl rfl,
    .mt ⟨[(12, .sv (.one (.ptr 1 0)))], []⟩ [] none (by kernel_rfl) (by rfl) (mt_ev ht (by kernel_rfl)) rfl rfl rfl rfl,
    .mu ⟨[(88, .sv (.one (.own 10))), (89, .sv (.one (.ptr 1 3)))], [.gone, .box [I letters, I 0, .own 6, .own 7] 25 false]⟩ 1 _ _ rfl rfl (by kernel_rfl) (by rfl) (mu_store2 ht rfl (by rfl) (by rfl) (by rfl) (by rfl) (fun h => by cases h) (by rfl) (by rfl)) rfl rfl rfl rfl rfl rfl rfl,
    trivial⟩
      · refine En.move 10 7 (by rfl) (by rfl) ?_
        exact En.at (I := fun zz => Inv zz.1 zz.2.1 zz.2.2.1 zz.2.2.2 ∧ mu zz.1 zz.2.1 zz.2.2.1 zz.2.2.2 < mu m2 l3 l6 l7) (T := fun zz => ⟨[(0, .sv (.one (I letters))), (2, .sv (.one (.rd (fvR (fun (x : (Int × Int)) => [.sv (.one (I x.1)), .sv (.one (I x.2))]) (fun (r : Int) => .sv (.one (I r))) domgo go)))), (3, .sv (.one (.rd (fvR (fun (x : Int) => [.sv (.one (I x))]) (fun (r : Int) => .sv (.one (I r))) dommark mark)))), (4, .sv (.one (I limit))), (10, .sv (.one (.ptr 0 0))), (12, .sv (.one (.ptr 1 0))), (13, .sv (.one (.own 2))), (14, .sv (.one (.own 3)))], [.box [I 0, I 0, .v (.slice none 0 0), .v (.slice none 0 0)] 25 false, .box [I letters, I 0, .own 6, .own 7] 25 false, mapI encI3 intT zz.1, rowI 3 intT zz.2.1, .gone, .gone, rowI 23 (lsT intT) zz.2.2.1, rowI 3 intT zz.2.2.2]⟩) (m2_2, l3_2, (l6 ++ ([l8] : (List (List Int)))), (l7 ++ ([(mark e)] : (List Int)))) h (by kernel_rfl)
  · replace h := h.2 hb
    refine En.exit rfl ?_
    refine En.seq ?_
    refine En.region ?_
    refine WL.run ht hn 3 ⟨[(10, .sv (.one (.ptr 0 0))), (11, .sv (.one (B true)))], [.box [I letters, I 0, .own 6, .own 7] 25 false, .gone, .gone, .gone, .gone, .gone, rowI 23 (lsT intT) l6, rowI 3 intT l7]⟩ (by kernel_rfl) ?_
    refine WL.nil ?_
    refine En.ret ?_
    refine En.seal (T := (lsT intT)) (l := l6) (e := 23) 6 rfl ?_
    refine En.seal (T := intT) (l := l7) (e := 3) 7 rfl ?_
    exact En.back ht ((ApiDet.mk letters 0 l6 l7), true) h (by kernel_rfl) rfl
theorem en94 : ∀ args w, (callFunc 94 args).run Try.prog w = .ok (.enter 94 args) w := enters_of Try.func94 (by kernel_rfl) rfl
def classes_vc (d : ApiDet) (Q : (List Int) → Prop) : Prop :=
  d.fNext.length ≤ 9223372036854775807 →
  d.fMark.length ≤ 9223372036854775807 →
  ((d.fMark.length * 8 ≤ 140737488355328) ∧
  ∃ (Inv : Int → (List Int) → Prop) (mu : Int → (List Int) → Nat), Inv 0 (d.fMark) ∧
  ∀ (x4 : Int) (l1 : (List Int)) , Inv x4 l1 → (makeOk (l1.length : Int) (l1.length : Int) 8 ∧
  ∃ (Inv_2 : Int → (List (DetSplit × Int)) → (List Int) → Prop) (mu_2 : Int → (List (DetSplit × Int)) → (List Int) → Nat), Inv_2 0 ([] : List (DetSplit × Int)) (List.replicate ((l1.length : Int)).toNat (0 : Int)) ∧
  ∀ (x25 : Int) (m2 : (List (DetSplit × Int))) (l3 : (List Int)) , Inv_2 x25 m2 l3 → (IfP (decide (x25 < (d.fNext.length : Int))) (∃ e, idx d.fNext x25 = some e ∧
  ∃ (Inv_3 : Int → (List Int) → Prop) (mu_3 : Int → (List Int) → Nat), Inv_3 0 ([] : (List Int)) ∧
  ∀ (x32 : Int) (l4 : (List Int)) , Inv_3 x32 l4 → (IfP (decide (x32 < (e.length : Int))) (∃ e_2, idx e x32 = some e_2 ∧
  ∃ e_3, idx l1 e_2 = some e_3 ∧
  ∃ e_4, idx l1 e_2 = some e_4 ∧
  capOk l4.length (([(IntKind.wrap .u8 e_3), (IntKind.wrap .u8 (Int.fdiv e_4 (2 ^ (min 8 64))))] : (List Int)) : (List Int)).length 1 ∧
  (Inv_3 (wr (x32 + 1)) (l4 ++ ([(IntKind.wrap .u8 e_3), (IntKind.wrap .u8 (Int.fdiv e_4 (2 ^ (min 8 64))))] : (List Int))) ∧ mu_3 (wr (x32 + 1)) (l4 ++ ([(IntKind.wrap .u8 e_3), (IntKind.wrap .u8 (Int.fdiv e_4 (2 ^ (min 8 64))))] : (List Int))) < mu_3 x32 l4)) (∃ e_5, idx l1 x25 = some e_5 ∧
  ∃ J : (List (DetSplit × Int)) → Prop, (IfP (!(mget (DetSplit.mk e_5 (bytesOf l4)) m2).isSome) (J (mput (DetSplit.mk e_5 (bytesOf l4)) (m2.length : Int) m2)) (J m2)) ∧
  (∀ (m2_2 : (List (DetSplit × Int))), J m2_2 → ∃ e_6, idx l3 x25 = some e_6 ∧
  (Inv_2 (wr (x25 + 1)) m2_2 (l3.set (x25).toNat ((mget (DetSplit.mk e_5 (bytesOf l4)) m2_2).getD (0 : Int))) ∧ mu_2 (wr (x25 + 1)) m2_2 (l3.set (x25).toNat ((mget (DetSplit.mk e_5 (bytesOf l4)) m2_2).getD (0 : Int))) < mu_2 x25 m2 l3))))) (IfP ((m2.length : Int) == x4) (Q l3) ((Inv (m2.length : Int) l3 ∧ mu (m2.length : Int) l3 < mu x4 l1))))))
set_option maxHeartbeats 2000000 in
theorem classes_walk (d : ApiDet) (Q : (List Int) → Prop) (h : classes_vc d Q) : Ct 115 [.sv (.agg [I d.fLetters, I d.fStart, LS (lsT intT) d.fNext, LS intT d.fMark])] [] Q (fun (r : (List Int)) => .sv (.one (LS intT r))) := by
  have ht := tab_ok
  refine Ct.body Try.func115 rfl rfl rfl rfl (fun c hn => ?_)
  unfold classes_vc at h
  refine En.lenA 0 2 (by rfl) (by rfl) (fun hl => ?_)
  replace h := h hl
  clear hl
  refine En.lenA 0 3 (by rfl) (by rfl) (fun hl => ?_)
  replace h := h hl
  clear hl
  refine En.seq ?_
  refine En.region ?_
  refine WL.run ht hn 2 ⟨[(1, .sv (.one (.ptr 0 0)))], [.box [I d.fLetters, I d.fStart, LS (lsT intT) d.fNext, LS intT d.fMark] 25 false]⟩ (by kernel_rfl) ?_
  refine WL.nil ?_
  refine En.seq ?_
  refine En.region ?_
  refine WL.run ht hn 2 ⟨[(1, .sv (.one (.ptr 0 0))), (16, .sv (.one (LS intT d.fMark)))], [.box [I d.fLetters, I d.fStart, LS (lsT intT) d.fNext, LS intT d.fMark] 25 false]⟩ (by kernel_rfl) ?_
  have hp := h.1
  replace h := h.2
  refine WL.mt0 (K := []) (p := some (1, rowI 3 intT (d.fMark))) hn (by rfl) (mt_callI 1 (cloneInt_ct d.fMark hp) en62 (caps := []) [] rfl rfl (by rfl) (by kernel_rfl) (by kernel_rfl) (by rfl) (by rfl)) (by rfl) (by rfl) (by rfl) ?_
  refine WL.run ht hn 1 ⟨[(1, .sv (.one (.ptr 0 0))), (3, .sv (.one (.own 1)))], [.box [I d.fLetters, I d.fStart, LS (lsT intT) d.fNext, LS intT d.fMark] 25 false, rowI 3 intT (d.fMark)]⟩ (by kernel_rfl) ?_
  refine WL.nil ?_
  refine En.seq ?_
  refine En.region ?_
  refine WL.run ht hn 1 ⟨[(1, .sv (.one (.ptr 0 0))), (3, .sv (.one (.own 1))), (4, .sv (.one (I 0)))], [.box [I d.fLetters, I d.fStart, LS (lsT intT) d.fNext, LS intT d.fMark] 25 false, rowI 3 intT (d.fMark)]⟩ (by kernel_rfl) ?_
  refine WL.nil ?_
  refine En.block ?_
  obtain ⟨Inv, mu, h0_3, hI_3⟩ := h
  refine En.loop (σ := Int × (List Int)) (fun zz => Inv zz.1 zz.2) (fun zz => mu zz.1 zz.2) (fun zz => ⟨[(1, .sv (.one (.ptr 0 0))), (3, .sv (.one (.own 1))), (4, .sv (.one (I zz.1)))], [.box [I d.fLetters, I d.fStart, LS (lsT intT) d.fNext, LS intT d.fMark] 25 false, rowI 3 intT zz.2]⟩) (0, (d.fMark)) h0_3 (sub_ok (by kernel_rfl)) ?_
  rintro ⟨x4, l1⟩ h
  replace h := hI_3 _ _ h
  show En c ⟨[(1, .sv (.one (.ptr 0 0))), (3, .sv (.one (.own 1))), (4, .sv (.one (I x4)))], [.box [I d.fLetters, I d.fStart, LS (lsT intT) d.fNext, LS intT d.fMark] 25 false, rowI 3 intT l1]⟩ _
  refine En.block ?_
  refine En.seq ?_
  refine En.region ?_
  refine WL.mt0 (K := []) (p := some (2, mapI DetSplit.enc intT ([] : List (DetSplit × Int)))) hn (by rfl) (mt_makeMap DetSplit.enc intT 2 rfl) (by rfl) (by rfl) (by rfl) ?_
  refine WL.run ht hn 1 ⟨[(1, .sv (.one (.ptr 0 0))), (3, .sv (.one (.own 1))), (4, .sv (.one (I x4))), (5, .sv (.one (.own 2)))], [.box [I d.fLetters, I d.fStart, LS (lsT intT) d.fNext, LS intT d.fMark] 25 false, rowI 3 intT l1, mapI DetSplit.enc intT ([] : List (DetSplit × Int))]⟩ (by kernel_rfl) ?_
  refine WL.nil ?_
  refine En.seq ?_
  refine En.region ?_
  refine WL.run ht hn 2 ⟨[(1, .sv (.one (.ptr 0 0))), (3, .sv (.one (.own 1))), (4, .sv (.one (I x4))), (5, .sv (.one (.own 2))), (20, .sv (.one (I (l1.length : Int))))], [.box [I d.fLetters, I d.fStart, LS (lsT intT) d.fNext, LS intT d.fMark] 25 false, rowI 3 intT l1, mapI DetSplit.enc intT ([] : List (DetSplit × Int))]⟩ (by kernel_rfl) ?_
  have hp := h.1
  replace h := h.2
  refine WL.mt0 (K := []) (p := some (3, rowI 3 intT (List.replicate ((l1.length : Int)).toNat (0 : Int)))) hn (by rfl) (mt_make (T := intT) (0 : Int) (zv := (.int .i64 0)) 3 (l := (l1.length : Int)) (cp := (l1.length : Int)) ht rfl (by rfl) (by rfl) (by rfl) (by rfl) (by decide) (by rfl) (by rfl) hp.1 hp.2.1 hp.2.2 (hp.le (by decide)) rfl (fun _ => ⟨rfl, trivial⟩)) (by rfl) (by rfl) (by rfl) ?_
  refine WL.run ht hn 1 ⟨[(1, .sv (.one (.ptr 0 0))), (3, .sv (.one (.own 1))), (4, .sv (.one (I x4))), (5, .sv (.one (.own 2))), (6, .sv (.one (.own 3)))], [.box [I d.fLetters, I d.fStart, LS (lsT intT) d.fNext, LS intT d.fMark] 25 false, rowI 3 intT l1, mapI DetSplit.enc intT ([] : List (DetSplit × Int)), rowI 3 intT (List.replicate ((l1.length : Int)).toNat (0 : Int))]⟩ (by kernel_rfl) ?_
  refine WL.nil ?_
  refine En.seq ?_
  refine En.seq ?_
  refine En.region ?_
  refine WL.run ht hn 4 ⟨[(1, .sv (.one (.ptr 0 0))), (3, .sv (.one (.own 1))), (4, .sv (.one (I x4))), (5, .sv (.one (.own 2))), (6, .sv (.one (.own 3))), (23, .sv (.one (LS (lsT intT) d.fNext))), (24, .sv (.one (I (d.fNext.length : Int)))), (25, .sv (.one (I 0)))], [.box [I d.fLetters, I d.fStart, LS (lsT intT) d.fNext, LS intT d.fMark] 25 false, rowI 3 intT l1, mapI DetSplit.enc intT ([] : List (DetSplit × Int)), rowI 3 intT (List.replicate ((l1.length : Int)).toNat (0 : Int))]⟩ (by kernel_rfl) ?_
  refine WL.nil ?_
  refine En.block ?_
  obtain ⟨Inv_2, mu_2, h0_2, hI_2⟩ := h
  refine En.loop (σ := Int × (List (DetSplit × Int)) × (List Int)) (fun zz => Inv_2 zz.1 zz.2.1 zz.2.2) (fun zz => mu_2 zz.1 zz.2.1 zz.2.2) (fun zz => ⟨[(1, .sv (.one (.ptr 0 0))), (3, .sv (.one (.own 1))), (4, .sv (.one (I x4))), (5, .sv (.one (.own 2))), (6, .sv (.one (.own 3))), (23, .sv (.one (LS (lsT intT) d.fNext))), (24, .sv (.one (I (d.fNext.length : Int)))), (25, .sv (.one (I zz.1)))], [.box [I d.fLetters, I d.fStart, LS (lsT intT) d.fNext, LS intT d.fMark] 25 false, rowI 3 intT l1, mapI DetSplit.enc intT zz.2.1, rowI 3 intT zz.2.2]⟩) (0, ([] : List (DetSplit × Int)), (List.replicate ((l1.length : Int)).toNat (0 : Int))) h0_2 (sub_ok (by kernel_rfl)) ?_
  rintro ⟨x25, m2, l3⟩ h
  replace h := hI_2 _ _ _ h
  show En c ⟨[(1, .sv (.one (.ptr 0 0))), (3, .sv (.one (.own 1))), (4, .sv (.one (I x4))), (5, .sv (.one (.own 2))), (6, .sv (.one (.own 3))), (23, .sv (.one (LS (lsT intT) d.fNext))), (24, .sv (.one (I (d.fNext.length : Int)))), (25, .sv (.one (I x25)))], [.box [I d.fLetters, I d.fStart, LS (lsT intT) d.fNext, LS intT d.fMark] 25 false, rowI 3 intT l1, mapI DetSplit.enc intT m2, rowI 3 intT l3]⟩ _
  refine En.seq ?_
  refine En.region ?_
  refine WL.run ht hn 1 ⟨[(1, .sv (.one (.ptr 0 0))), (3, .sv (.one (.own 1))), (4, .sv (.one (I x4))), (5, .sv (.one (.own 2))), (6, .sv (.one (.own 3))), (23, .sv (.one (LS (lsT intT) d.fNext))), (24, .sv (.one (I (d.fNext.length : Int)))), (25, .sv (.one (I x25))), (26, .sv (.one (B (decide (x25 < (d.fNext.length : Int))))))], [.box [I d.fLetters, I d.fStart, LS (lsT intT) d.fNext, LS intT d.fMark] 25 false, rowI 3 intT l1, mapI DetSplit.enc intT m2, rowI 3 intT l3]⟩ (by kernel_rfl) ?_
  refine WL.nil ?_
  refine En.seq ?_
  refine En.cond (b := (decide (x25 < (d.fNext.length : Int)))) (by kernel_rfl) (fun hb => ?_) (fun hb => ?_)
  · replace h := h.1 hb
    refine En.skip ?_
    refine En.seq ?_
    refine En.block ?_
    refine En.seq ?_
    refine En.region ?_
    refine WL.run ht hn 1 ⟨[(1, .sv (.one (.ptr 0 0))), (3, .sv (.one (.own 1))), (4, .sv (.one (I x4))), (5, .sv (.one (.own 2))), (6, .sv (.one (.own 3))), (23, .sv (.one (LS (lsT intT) d.fNext))), (24, .sv (.one (I (d.fNext.length : Int)))), (25, .sv (.one (I x25))), (27, .sv (.one (I x25)))], [.box [I d.fLetters, I d.fStart, LS (lsT intT) d.fNext, LS intT d.fMark] 25 false, rowI 3 intT l1, mapI DetSplit.enc intT m2, rowI 3 intT l3]⟩ (by kernel_rfl) ?_
    obtain ⟨e, he, h⟩ := h
    refine WL.val hn (by rfl) (val_index (T := (lsT intT)) (l := d.fNext) (i := x25) ht rfl (by rfl) (by rfl) (by rfl) (by rfl) (by rfl) (by rfl) he) (by rfl) ?_
    refine WL.val hn (by rfl) (val_load (s := .one (LS intT e)) ht rfl (by rfl) (by rfl) (by rfl) (by rfl) (by rfl)) (by rfl) ?_
    refine WL.run ht hn 2 ⟨[(1, .sv (.one (.ptr 0 0))), (3, .sv (.one (.own 1))), (4, .sv (.one (I x4))), (5, .sv (.one (.own 2))), (6, .sv (.one (.own 3))), (7, .sv (.one (I x25))), (8, .sv (.one (LS intT e))), (23, .sv (.one (LS (lsT intT) d.fNext))), (24, .sv (.one (I (d.fNext.length : Int)))), (25, .sv (.one (I x25)))], [.box [I d.fLetters, I d.fStart, LS (lsT intT) d.fNext, LS intT d.fMark] 25 false, rowI 3 intT l1, mapI DetSplit.enc intT m2, rowI 3 intT l3]⟩ (by kernel_rfl) ?_
    refine WL.nil ?_
    refine En.seq ?_
    refine En.region ?_
    refine WL.run ht hn 1 ⟨[(1, .sv (.one (.ptr 0 0))), (3, .sv (.one (.own 1))), (4, .sv (.one (I x4))), (5, .sv (.one (.own 2))), (6, .sv (.one (.own 3))), (7, .sv (.one (I x25))), (8, .sv (.one (LS intT e))), (9, .sv (.one (.v (.slice none 0 0)))), (23, .sv (.one (LS (lsT intT) d.fNext))), (24, .sv (.one (I (d.fNext.length : Int)))), (25, .sv (.one (I x25)))], [.box [I d.fLetters, I d.fStart, LS (lsT intT) d.fNext, LS intT d.fMark] 25 false, rowI 3 intT l1, mapI DetSplit.enc intT m2, rowI 3 intT l3]⟩ (by kernel_rfl) ?_
    refine WL.nil ?_
    refine En.seq ?_
    refine En.seq ?_
    refine En.region ?_
    refine WL.run ht hn 3 ⟨[(1, .sv (.one (.ptr 0 0))), (3, .sv (.one (.own 1))), (4, .sv (.one (I x4))), (5, .sv (.one (.own 2))), (6, .sv (.one (.own 3))), (7, .sv (.one (I x25))), (9, .sv (.one (.v (.slice none 0 0)))), (23, .sv (.one (LS (lsT intT) d.fNext))), (24, .sv (.one (I (d.fNext.length : Int)))), (25, .sv (.one (I x25))), (30, .sv (.one (LS intT e))), (31, .sv (.one (I (e.length : Int)))), (32, .sv (.one (I 0)))], [.box [I d.fLetters, I d.fStart, LS (lsT intT) d.fNext, LS intT d.fMark] 25 false, rowI 3 intT l1, mapI DetSplit.enc intT m2, rowI 3 intT l3]⟩ (by kernel_rfl) ?_
    refine WL.nil ?_
    refine En.block ?_
    refine En.rowNil 9 4 5 (intKT .u8) (by rfl) (by rfl) ?_
    obtain ⟨Inv_3, mu_3, h0, hI⟩ := h
    refine En.loop (σ := Int × (List Int)) (fun zz => Inv_3 zz.1 zz.2) (fun zz => mu_3 zz.1 zz.2) (fun zz => ⟨[(1, .sv (.one (.ptr 0 0))), (3, .sv (.one (.own 1))), (4, .sv (.one (I x4))), (5, .sv (.one (.own 2))), (6, .sv (.one (.own 3))), (7, .sv (.one (I x25))), (9, .sv (.one (.own 4))), (23, .sv (.one (LS (lsT intT) d.fNext))), (24, .sv (.one (I (d.fNext.length : Int)))), (25, .sv (.one (I x25))), (30, .sv (.one (LS intT e))), (31, .sv (.one (I (e.length : Int)))), (32, .sv (.one (I zz.1)))], [.box [I d.fLetters, I d.fStart, LS (lsT intT) d.fNext, LS intT d.fMark] 25 false, rowI 3 intT l1, mapI DetSplit.enc intT m2, rowI 3 intT l3, rowI 5 (intKT .u8) zz.2]⟩) (0, ([] : (List Int))) h0 (sub_ok (by kernel_rfl)) ?_
    rintro ⟨x32, l4⟩ h
    replace h := hI _ _ h
    show En c ⟨[(1, .sv (.one (.ptr 0 0))), (3, .sv (.one (.own 1))), (4, .sv (.one (I x4))), (5, .sv (.one (.own 2))), (6, .sv (.one (.own 3))), (7, .sv (.one (I x25))), (9, .sv (.one (.own 4))), (23, .sv (.one (LS (lsT intT) d.fNext))), (24, .sv (.one (I (d.fNext.length : Int)))), (25, .sv (.one (I x25))), (30, .sv (.one (LS intT e))), (31, .sv (.one (I (e.length : Int)))), (32, .sv (.one (I x32)))], [.box [I d.fLetters, I d.fStart, LS (lsT intT) d.fNext, LS intT d.fMark] 25 false, rowI 3 intT l1, mapI DetSplit.enc intT m2, rowI 3 intT l3, rowI 5 (intKT .u8) l4]⟩ _
    refine En.seq ?_
    refine En.region ?_
    refine WL.run ht hn 1 ⟨[(1, .sv (.one (.ptr 0 0))), (3, .sv (.one (.own 1))), (4, .sv (.one (I x4))), (5, .sv (.one (.own 2))), (6, .sv (.one (.own 3))), (7, .sv (.one (I x25))), (9, .sv (.one (.own 4))), (23, .sv (.one (LS (lsT intT) d.fNext))), (24, .sv (.one (I (d.fNext.length : Int)))), (25, .sv (.one (I x25))), (30, .sv (.one (LS intT e))), (31, .sv (.one (I (e.length : Int)))), (32, .sv (.one (I x32))), (33, .sv (.one (B (decide (x32 < (e.length : Int))))))], [.box [I d.fLetters, I d.fStart, LS (lsT intT) d.fNext, LS intT d.fMark] 25 false, rowI 3 intT l1, mapI DetSplit.enc intT m2, rowI 3 intT l3, rowI 5 (intKT .u8) l4]⟩ (by kernel_rfl) ?_
    refine WL.nil ?_
    refine En.seq ?_
    refine En.cond (b := (decide (x32 < (e.length : Int)))) (by kernel_rfl) (fun hb => ?_) (fun hb => ?_)
    · replace h := h.1 hb
      refine En.skip ?_
      refine En.seq ?_
      refine En.block ?_
      refine En.seq ?_
      refine En.region ?_
      obtain ⟨e_2, he_2, h⟩ := h
      refine WL.val hn (by rfl) (val_index (T := intT) (l := e) (i := x32) ht rfl (by rfl) (by rfl) (by rfl) (by rfl) (by rfl) (by rfl) he_2) (by rfl) ?_
      refine WL.val hn (by rfl) (val_load (s := .one (I e_2)) ht rfl (by rfl) (by rfl) (by rfl) (by rfl) (by rfl)) (by rfl) ?_
      refine WL.run ht hn 1 ⟨[(1, .sv (.one (.ptr 0 0))), (3, .sv (.one (.own 1))), (4, .sv (.one (I x4))), (5, .sv (.one (.own 2))), (6, .sv (.one (.own 3))), (7, .sv (.one (I x25))), (9, .sv (.one (.own 4))), (11, .sv (.one (I e_2))), (23, .sv (.one (LS (lsT intT) d.fNext))), (24, .sv (.one (I (d.fNext.length : Int)))), (25, .sv (.one (I x25))), (30, .sv (.one (LS intT e))), (31, .sv (.one (I (e.length : Int)))), (32, .sv (.one (I x32)))], [.box [I d.fLetters, I d.fStart, LS (lsT intT) d.fNext, LS intT d.fMark] 25 false, rowI 3 intT l1, mapI DetSplit.enc intT m2, rowI 3 intT l3, rowI 5 (intKT .u8) l4]⟩ (by kernel_rfl) ?_
      refine WL.nil ?_
      obtain ⟨e_3, he_3, h⟩ := h
      obtain ⟨e_4, he_4, h⟩ := h
      have hp_2 := h.1
      replace h := h.2
      refine En.regionA ⟨[(1, .sv (.one (.ptr 0 0))), (3, .sv (.one (.own 1))), (4, .sv (.one (I x4))), (5, .sv (.one (.own 2))), (6, .sv (.one (.own 3))), (7, .sv (.one (I x25))), (9, .sv (.one (.own 4))), (11, .sv (.one (I e_2))), (23, .sv (.one (LS (lsT intT) d.fNext))), (24, .sv (.one (I (d.fNext.length : Int)))), (25, .sv (.one (I x25))), (30, .sv (.one (LS intT e))), (31, .sv (.one (I (e.length : Int)))), (32, .sv (.one (I x32)))], [.sv (.one (.own 4)), .sv (.one (.own 1)), .sv (.one (I e_2)), .sv (.one (.oe 1 ((e_2).toNat) 1)), .sv (.one (I e_3)), .sv (.one (.v (.int .u8 (IntKind.wrap .u8 e_3)))), .sv (.one (.own 1)), .sv (.one (I e_2)), .sv (.one (.oe 1 ((e_2).toNat) 1)), .sv (.one (I e_4)), .sv (.one (I (Int.fdiv e_4 (2 ^ (min 8 64))))), .sv (.one (.v (.int .u8 (IntKind.wrap .u8 (Int.fdiv e_4 (2 ^ (min 8 64))))))), .sv (.one (LS (intKT .u8) ([(IntKind.wrap .u8 e_3), (IntKind.wrap .u8 (Int.fdiv e_4 (2 ^ (min 8 64))))] : (List Int)))), .sv (.one (.own 5)), .sv (.one (.own 5))], [⟨.box [I d.fLetters, I d.fStart, LS (lsT intT) d.fNext, LS intT d.fMark] 25 false, none, none, none⟩, ⟨rowI 3 intT l1, none, none, none⟩, ⟨mapI DetSplit.enc intT m2, none, none, none⟩, ⟨rowI 3 intT l3, none, none, none⟩, ⟨rowI 5 (intKT .u8) l4, none, some 13, none⟩, ⟨rowI 5 (intKT .u8) (l4 ++ ([(IntKind.wrap .u8 e_3), (IntKind.wrap .u8 (Int.fdiv e_4 (2 ^ (min 8 64))))] : (List Int))), some 13, none, none⟩]⟩ ⟨[(1, .sv (.one (.ptr 0 0))), (3, .sv (.one (.own 1))), (4, .sv (.one (I x4))), (5, .sv (.one (.own 2))), (6, .sv (.one (.own 3))), (7, .sv (.one (I x25))), (9, .sv (.one (.own 5))), (23, .sv (.one (LS (lsT intT) d.fNext))), (24, .sv (.one (I (d.fNext.length : Int)))), (25, .sv (.one (I x25))), (30, .sv (.one (LS intT e))), (31, .sv (.one (I (e.length : Int)))), (32, .sv (.one (I x32)))], [.box [I d.fLetters, I d.fStart, LS (lsT intT) d.fNext, LS intT d.fMark] 25 false, rowI 3 intT l1, mapI DetSplit.enc intT m2, rowI 3 intT l3, .gone, rowI 5 (intKT .u8) (l4 ++ ([(IntKind.wrap .u8 e_3), (IntKind.wrap .u8 (Int.fdiv e_4 (2 ^ (min 8 64))))] : (List Int)))]⟩ (by kernel_rfl) hn (by kernel_rfl) (by rfl) (by kernel_rfl) ?_ (by kernel_rfl) ?_
      · exact ⟨.mt ⟨[(9, .sv (.one (.own 4)))], []⟩ [] none (by kernel_rfl) (by rfl) (mt_ev ht (by kernel_rfl)) rfl rfl rfl rfl,
    .mt ⟨[(3, .sv (.one (.own 1)))], []⟩ [] none (by kernel_rfl) (by rfl) (mt_ev ht (by kernel_rfl)) rfl rfl rfl rfl,
    .mt ⟨[(11, .sv (.one (I e_2)))], []⟩ [] none (by kernel_rfl) (by rfl) (mt_ev ht (by kernel_rfl)) rfl rfl rfl rfl,
    .mt ⟨[(37, .sv (.one (.own 1))), (38, .sv (.one (I e_2)))], [.gone, rowI 3 intT l1]⟩ [] none (by kernel_rfl) (by rfl) (mt_val (val_indexO (T := intT) (l := l1) (k := e_2) ht rfl (by rfl) (by rfl) (by rfl) (by rfl) (by decide) (by rfl) (by rfl) (by rfl) he_3)) rfl rfl rfl rfl,
    .mt ⟨[(39, .sv (.one (.oe 1 ((e_2).toNat) 1)))], [.gone, rowI 3 intT l1]⟩ [] none (by kernel_rfl) (by rfl) (mt_val (val_loadO (T := intT) (l := l1) (y := e_3) ht rfl (by rfl) (by rfl) (by rfl) (by rfl) (by rfl) (idx_some he_3).2.2 (by rfl))) rfl rfl rfl rfl,
    .mt ⟨[(40, .sv (.one (I e_3)))], []⟩ [] none (by kernel_rfl) (by rfl) (mt_ev ht (by kernel_rfl)) rfl rfl rfl rfl,
    .mt ⟨[(3, .sv (.one (.own 1)))], []⟩ [] none (by kernel_rfl) (by rfl) (mt_ev ht (by kernel_rfl)) rfl rfl rfl rfl,
    .mt ⟨[(11, .sv (.one (I e_2)))], []⟩ [] none (by kernel_rfl) (by rfl) (mt_ev ht (by kernel_rfl)) rfl rfl rfl rfl,
    .mt ⟨[(42, .sv (.one (.own 1))), (43, .sv (.one (I e_2)))], [.gone, rowI 3 intT l1]⟩ [] none (by kernel_rfl) (by rfl) (mt_val (val_indexO (T := intT) (l := l1) (k := e_2) ht rfl (by rfl) (by rfl) (by rfl) (by rfl) (by decide) (by rfl) (by rfl) (by rfl) he_4)) rfl rfl rfl rfl,
    .mt ⟨[(44, .sv (.one (.oe 1 ((e_2).toNat) 1)))], [.gone, rowI 3 intT l1]⟩ [] none (by kernel_rfl) (by rfl) (mt_val (val_loadO (T := intT) (l := l1) (y := e_4) ht rfl (by rfl) (by rfl) (by rfl) (by rfl) (by rfl) (idx_some he_4).2.2 (by rfl))) rfl rfl rfl rfl,
    .mt ⟨[(45, .sv (.one (I e_4)))], []⟩ [] none (by kernel_rfl) (by rfl) (mt_ev ht (by kernel_rfl)) rfl rfl rfl rfl,
    .mt ⟨[(46, .sv (.one (I (Int.fdiv e_4 (2 ^ (min 8 64))))))], []⟩ [] none (by kernel_rfl) (by rfl) (mt_ev ht (by kernel_rfl)) rfl rfl rfl rfl,
    .mt ⟨[(41, .sv (.one (.v (.int .u8 (IntKind.wrap .u8 e_3))))), (47, .sv (.one (.v (.int .u8 (IntKind.wrap .u8 (Int.fdiv e_4 (2 ^ (min 8 64))))))))], []⟩ [] none (by kernel_rfl) (by rfl) (mt_seal (q := 5) (e := 5) (mt_lit (T := (intKT .u8)) ([(IntKind.wrap .u8 e_3), (IntKind.wrap .u8 (Int.fdiv e_4 (2 ^ (min 8 64))))] : (List Int)) (mt_bsl 5 (r := cellsOf (intKT .u8) ([(IntKind.wrap .u8 e_3), (IntKind.wrap .u8 (Int.fdiv e_4 (2 ^ (min 8 64))))] : (List Int))) ht rfl (by rfl) (by rfl) (by rfl) (by kernel_rfl) (by rfl)) (fun _ h => by cases h) (fun _ => rfl) (fun _ => rfl) (by rfl) (Nat.le_of_ble_eq_true rfl))) rfl rfl rfl rfl,
    .mt ⟨[(36, .sv (.one (.own 4))), (48, .sv (.one (LS (intKT .u8) ([(IntKind.wrap .u8 e_3), (IntKind.wrap .u8 (Int.fdiv e_4 (2 ^ (min 8 64))))] : (List Int)))))], [.gone, .gone, .gone, .gone, rowI 5 (intKT .u8) l4]⟩ [4] (some 5) (by kernel_rfl) (by rfl) (mt_append (T := (intKT .u8)) (l := l4) (es := ([(IntKind.wrap .u8 e_3), (IntKind.wrap .u8 (Int.fdiv e_4 (2 ^ (min 8 64))))] : (List Int))) (p := 5) ht rfl (by rfl) (by rfl) (by rfl) (by rfl) (by decide) (by rfl) (by rfl) (srcLS (T := (intKT .u8)) (es := ([(IntKind.wrap .u8 e_3), (IntKind.wrap .u8 (Int.fdiv e_4 (2 ^ (min 8 64))))] : (List Int))) (fun _ h => by cases h) (by decide) (by rfl)) (by exact hp_2) (by exact hp_2.le (by decide))) rfl rfl rfl rfl,
    .mt ⟨[(49, .sv (.one (.own 5)))], []⟩ [] none (by kernel_rfl) (by rfl) (mt_ev ht (by kernel_rfl)) rfl rfl rfl rfl,
    trivial⟩
      · refine En.region ?_
        refine WL.run ht hn 2 ⟨[(1, .sv (.one (.ptr 0 0))), (3, .sv (.one (.own 1))), (4, .sv (.one (I x4))), (5, .sv (.one (.own 2))), (6, .sv (.one (.own 3))), (7, .sv (.one (I x25))), (9, .sv (.one (.own 5))), (23, .sv (.one (LS (lsT intT) d.fNext))), (24, .sv (.one (I (d.fNext.length : Int)))), (25, .sv (.one (I x25))), (30, .sv (.one (LS intT e))), (31, .sv (.one (I (e.length : Int)))), (32, .sv (.one (I (wr (x32 + 1)))))], [.box [I d.fLetters, I d.fStart, LS (lsT intT) d.fNext, LS intT d.fMark] 25 false, rowI 3 intT l1, mapI DetSplit.enc intT m2, rowI 3 intT l3, .gone, rowI 5 (intKT .u8) (l4 ++ ([(IntKind.wrap .u8 e_3), (IntKind.wrap .u8 (Int.fdiv e_4 (2 ^ (min 8 64))))] : (List Int)))]⟩ (by kernel_rfl) ?_
        refine WL.nil ?_
        refine En.move 5 4 (by rfl) (by rfl) ?_
        exact En.at (I := fun zz => Inv_3 zz.1 zz.2 ∧ mu_3 zz.1 zz.2 < mu_3 x32 l4) (T := fun zz => ⟨[(1, .sv (.one (.ptr 0 0))), (3, .sv (.one (.own 1))), (4, .sv (.one (I x4))), (5, .sv (.one (.own 2))), (6, .sv (.one (.own 3))), (7, .sv (.one (I x25))), (9, .sv (.one (.own 4))), (23, .sv (.one (LS (lsT intT) d.fNext))), (24, .sv (.one (I (d.fNext.length : Int)))), (25, .sv (.one (I x25))), (30, .sv (.one (LS intT e))), (31, .sv (.one (I (e.length : Int)))), (32, .sv (.one (I zz.1)))], [.box [I d.fLetters, I d.fStart, LS (lsT intT) d.fNext, LS intT d.fMark] 25 false, rowI 3 intT l1, mapI DetSplit.enc intT m2, rowI 3 intT l3, rowI 5 (intKT .u8) zz.2]⟩) ((wr (x32 + 1)), (l4 ++ ([(IntKind.wrap .u8 e_3), (IntKind.wrap .u8 (Int.fdiv e_4 (2 ^ (min 8 64))))] : (List Int)))) h (by kernel_rfl)
    · replace h := h.2 hb
      refine En.exit rfl ?_
      refine En.seq ?_
      obtain ⟨e_5, he_5, h⟩ := h
      refine En.regionA ⟨[(1, .sv (.one (.ptr 0 0))), (3, .sv (.one (.own 1))), (4, .sv (.one (I x4))), (5, .sv (.one (.own 2))), (6, .sv (.one (.own 3))), (7, .sv (.one (I x25))), (9, .sv (.one (.own 4))), (23, .sv (.one (LS (lsT intT) d.fNext))), (24, .sv (.one (I (d.fNext.length : Int)))), (25, .sv (.one (I x25)))], [.sv (.one (.own 1)), .sv (.one (I x25)), .sv (.one (.oe 1 ((x25).toNat) 1)), .sv (.one (I e_5)), .sv (.one (.own 4)), .sv (.one (.v (.string (bytesOf l4)))), .sv (.agg [I e_5, .v (.string (bytesOf l4))]), .sv (.one (.ptr 5 0)), .tup []], [⟨.box [I d.fLetters, I d.fStart, LS (lsT intT) d.fNext, LS intT d.fMark] 25 false, none, none, none⟩, ⟨rowI 3 intT l1, none, none, none⟩, ⟨mapI DetSplit.enc intT m2, none, none, none⟩, ⟨rowI 3 intT l3, none, none, none⟩, ⟨rowI 5 (intKT .u8) l4, none, none, none⟩, ⟨.box [I 0, .v (.string ByteArray.empty)] 262 false, some 7, none, some (8, .box [I e_5, .v (.string (bytesOf l4))] 262 false)⟩]⟩ ⟨[(1, .sv (.one (.ptr 0 0))), (3, .sv (.one (.own 1))), (4, .sv (.one (I x4))), (5, .sv (.one (.own 2))), (6, .sv (.one (.own 3))), (7, .sv (.one (I x25))), (12, .sv (.one (.ptr 5 0))), (23, .sv (.one (LS (lsT intT) d.fNext))), (24, .sv (.one (I (d.fNext.length : Int)))), (25, .sv (.one (I x25)))], [.box [I d.fLetters, I d.fStart, LS (lsT intT) d.fNext, LS intT d.fMark] 25 false, rowI 3 intT l1, mapI DetSplit.enc intT m2, rowI 3 intT l3, .gone, .box [I e_5, .v (.string (bytesOf l4))] 262 false]⟩ (by kernel_rfl) hn (by kernel_rfl) (by rfl) (by kernel_rfl) ?_ (by kernel_rfl) ?_
      · exact ⟨.mt ⟨[(3, .sv (.one (.own 1)))], []⟩ [] none (by kernel_rfl) (by rfl) (mt_ev ht (by kernel_rfl)) rfl rfl rfl rfl,
    .mt ⟨[(7, .sv (.one (I x25)))], []⟩ [] none (by kernel_rfl) (by rfl) (mt_ev ht (by kernel_rfl)) rfl rfl rfl rfl,
    .mt ⟨[(51, .sv (.one (.own 1))), (52, .sv (.one (I x25)))], [.gone, rowI 3 intT l1]⟩ [] none (by kernel_rfl) (by rfl) (mt_val (val_indexO (T := intT) (l := l1) (k := x25) ht rfl (by rfl) (by rfl) (by rfl) (by rfl) (by decide) (by rfl) (by rfl) (by rfl) he_5)) rfl rfl rfl rfl,
    .mt ⟨[(53, .sv (.one (.oe 1 ((x25).toNat) 1)))], [.gone, rowI 3 intT l1]⟩ [] none (by kernel_rfl) (by rfl) (mt_val (val_loadO (T := intT) (l := l1) (y := e_5) ht rfl (by rfl) (by rfl) (by rfl) (by rfl) (by rfl) (idx_some he_5).2.2 (by rfl))) rfl rfl rfl rfl,
    .mt ⟨[(9, .sv (.one (.own 4)))], []⟩ [] none (by kernel_rfl) (by rfl) (mt_ev ht (by kernel_rfl)) rfl rfl rfl rfl,
    .mt ⟨[(55, .sv (.one (.own 4)))], [.gone, .gone, .gone, .gone, rowI 5 (intKT .u8) l4]⟩ [] none (by kernel_rfl) (by rfl) (mt_val (val_str rfl Try.underlying193 Try.underlying5 Try.underlying9 (srcOwn (T := intKT .u8) (es := l4) (fun _ h => by cases h) (by rfl) (by rfl)))) rfl rfl rfl rfl,
    .mt ⟨[(54, .sv (.one (I e_5))), (56, .sv (.one (.v (.string (bytesOf l4)))))], []⟩ [] none (by kernel_rfl) (by rfl) (mt_ev ht (by kernel_rfl)) rfl rfl rfl rfl,
    .mt ⟨[], []⟩ [] (some 5) (by kernel_rfl) (by rfl) (mt_alloc2 5 262 ht rfl (by rfl) (by rfl)) rfl rfl rfl rfl,
    .mu ⟨[(12, .sv (.one (.ptr 5 0))), (57, .sv (.agg [I e_5, .v (.string (bytesOf l4))]))], [.gone, .gone, .gone, .gone, .gone, .box [I 0, .v (.string ByteArray.empty)] 262 false]⟩ 5 _ _ rfl rfl (by kernel_rfl) (by rfl) (mu_store2 ht rfl (by rfl) (by rfl) (by rfl) (by rfl) (fun h => by cases h) (by rfl) (by rfl)) rfl rfl rfl rfl rfl rfl rfl,
    trivial⟩
      · obtain ⟨J, h, hJ⟩ := h
        refine En.seqJ (σ := (List (DetSplit × Int))) (fun zz => J zz) (fun zz => ⟨[(1, .sv (.one (.ptr 0 0))), (3, .sv (.one (.own 1))), (4, .sv (.one (I x4))), (5, .sv (.one (.own 2))), (6, .sv (.one (.own 3))), (7, .sv (.one (I x25))), (12, .sv (.one (.ptr 5 0))), (23, .sv (.one (LS (lsT intT) d.fNext))), (24, .sv (.one (I (d.fNext.length : Int)))), (25, .sv (.one (I x25)))], [.box [I d.fLetters, I d.fStart, LS (lsT intT) d.fNext, LS intT d.fMark] 25 false, rowI 3 intT l1, mapI DetSplit.enc intT zz, rowI 3 intT l3, .gone, .box [I e_5, .v (.string (bytesOf l4))] 262 false]⟩) ?_ ?_
        · refine En.seq ?_
          refine En.region ?_
          refine WL.run ht hn 2 ⟨[(1, .sv (.one (.ptr 0 0))), (3, .sv (.one (.own 1))), (4, .sv (.one (I x4))), (5, .sv (.one (.own 2))), (6, .sv (.one (.own 3))), (7, .sv (.one (I x25))), (12, .sv (.one (.ptr 5 0))), (23, .sv (.one (LS (lsT intT) d.fNext))), (24, .sv (.one (I (d.fNext.length : Int)))), (25, .sv (.one (I x25))), (59, .sv (.one (.own 2))), (60, .sv (.agg [I e_5, .v (.string (bytesOf l4))]))], [.box [I d.fLetters, I d.fStart, LS (lsT intT) d.fNext, LS intT d.fMark] 25 false, rowI 3 intT l1, mapI DetSplit.enc intT m2, rowI 3 intT l3, .gone, .box [I e_5, .v (.string (bytesOf l4))] 262 false]⟩ (by kernel_rfl) ?_
          refine WL.val hn (by rfl) (val_lookup (T := intT) (D := m2) DetSplit.keyLaw (k := (DetSplit.mk e_5 (bytesOf l4))) (ok := true) (0 : Int) (zv := (.int .i64 0)) rfl Try.underlying260 (fun _ => by kernel_rfl) (fun _ => ⟨rfl, trivial⟩) (mapAs DetSplit.enc intT m2) (by rfl) (by rfl) (by rfl) (fun _ => rfl)) (by rfl) ?_
          refine WL.run ht hn 5 ⟨[(1, .sv (.one (.ptr 0 0))), (3, .sv (.one (.own 1))), (4, .sv (.one (I x4))), (5, .sv (.one (.own 2))), (6, .sv (.one (.own 3))), (7, .sv (.one (I x25))), (12, .sv (.one (.ptr 5 0))), (14, .sv (.one (B (mget (DetSplit.mk e_5 (bytesOf l4)) m2).isSome))), (23, .sv (.one (LS (lsT intT) d.fNext))), (24, .sv (.one (I (d.fNext.length : Int)))), (25, .sv (.one (I x25)))], [.box [I d.fLetters, I d.fStart, LS (lsT intT) d.fNext, LS intT d.fMark] 25 false, rowI 3 intT l1, mapI DetSplit.enc intT m2, rowI 3 intT l3, .gone, .box [I e_5, .v (.string (bytesOf l4))] 262 false]⟩ (by kernel_rfl) ?_
          refine WL.nil ?_
          refine En.seq ?_
          refine En.region ?_
          refine WL.run ht hn 2 ⟨[(1, .sv (.one (.ptr 0 0))), (3, .sv (.one (.own 1))), (4, .sv (.one (I x4))), (5, .sv (.one (.own 2))), (6, .sv (.one (.own 3))), (7, .sv (.one (I x25))), (12, .sv (.one (.ptr 5 0))), (23, .sv (.one (LS (lsT intT) d.fNext))), (24, .sv (.one (I (d.fNext.length : Int)))), (25, .sv (.one (I x25))), (65, .sv (.one (B (!(mget (DetSplit.mk e_5 (bytesOf l4)) m2).isSome))))], [.box [I d.fLetters, I d.fStart, LS (lsT intT) d.fNext, LS intT d.fMark] 25 false, rowI 3 intT l1, mapI DetSplit.enc intT m2, rowI 3 intT l3, .gone, .box [I e_5, .v (.string (bytesOf l4))] 262 false]⟩ (by kernel_rfl) ?_
          refine WL.nil ?_
          refine En.cond (b := (!(mget (DetSplit.mk e_5 (bytesOf l4)) m2).isSome)) (by kernel_rfl) (fun hb => ?_) (fun hb => ?_)
          · replace h := h.1 hb
            refine En.region ?_
            refine WL.run ht hn 3 ⟨[(1, .sv (.one (.ptr 0 0))), (3, .sv (.one (.own 1))), (4, .sv (.one (I x4))), (5, .sv (.one (.own 2))), (6, .sv (.one (.own 3))), (7, .sv (.one (I x25))), (12, .sv (.one (.ptr 5 0))), (23, .sv (.one (LS (lsT intT) d.fNext))), (24, .sv (.one (I (d.fNext.length : Int)))), (25, .sv (.one (I x25))), (66, .sv (.one (.own 2))), (67, .sv (.agg [I e_5, .v (.string (bytesOf l4))])), (68, .sv (.one (.own 2)))], [.box [I d.fLetters, I d.fStart, LS (lsT intT) d.fNext, LS intT d.fMark] 25 false, rowI 3 intT l1, mapI DetSplit.enc intT m2, rowI 3 intT l3, .gone, .box [I e_5, .v (.string (bytesOf l4))] 262 false]⟩ (by kernel_rfl) ?_
            refine WL.val hn (by rfl) (val_lenM (enc := DetSplit.enc) (T := intT) (D := m2) rfl Try.underlying260 (by rfl) (by rfl) (mapAs _ _ _)) (by rfl) ?_
            refine WL.mapPut (T := intT) DetSplit.keyLaw (k := (DetSplit.mk e_5 (bytesOf l4))) (y := (m2.length : Int)) hn (by rfl) (.inl rfl) Try.underlying260 (by rfl) (by rfl) (by rfl) (by rfl) (by rfl) (by rfl) ?_
            refine WL.nil ?_
            exact En.at (I := fun zz => J zz) (T := fun zz => ⟨[(1, .sv (.one (.ptr 0 0))), (3, .sv (.one (.own 1))), (4, .sv (.one (I x4))), (5, .sv (.one (.own 2))), (6, .sv (.one (.own 3))), (7, .sv (.one (I x25))), (12, .sv (.one (.ptr 5 0))), (23, .sv (.one (LS (lsT intT) d.fNext))), (24, .sv (.one (I (d.fNext.length : Int)))), (25, .sv (.one (I x25)))], [.box [I d.fLetters, I d.fStart, LS (lsT intT) d.fNext, LS intT d.fMark] 25 false, rowI 3 intT l1, mapI DetSplit.enc intT zz, rowI 3 intT l3, .gone, .box [I e_5, .v (.string (bytesOf l4))] 262 false]⟩) (mput (DetSplit.mk e_5 (bytesOf l4)) (m2.length : Int) m2) h (by kernel_rfl)
          · replace h := h.2 hb
            refine En.skip ?_
            exact En.at (I := fun zz => J zz) (T := fun zz => ⟨[(1, .sv (.one (.ptr 0 0))), (3, .sv (.one (.own 1))), (4, .sv (.one (I x4))), (5, .sv (.one (.own 2))), (6, .sv (.one (.own 3))), (7, .sv (.one (I x25))), (12, .sv (.one (.ptr 5 0))), (23, .sv (.one (LS (lsT intT) d.fNext))), (24, .sv (.one (I (d.fNext.length : Int)))), (25, .sv (.one (I x25)))], [.box [I d.fLetters, I d.fStart, LS (lsT intT) d.fNext, LS intT d.fMark] 25 false, rowI 3 intT l1, mapI DetSplit.enc intT zz, rowI 3 intT l3, .gone, .box [I e_5, .v (.string (bytesOf l4))] 262 false]⟩) m2 h (by kernel_rfl)
        · intro m2_2 h
          replace h := hJ _ h
          show En c ⟨[(1, .sv (.one (.ptr 0 0))), (3, .sv (.one (.own 1))), (4, .sv (.one (I x4))), (5, .sv (.one (.own 2))), (6, .sv (.one (.own 3))), (7, .sv (.one (I x25))), (12, .sv (.one (.ptr 5 0))), (23, .sv (.one (LS (lsT intT) d.fNext))), (24, .sv (.one (I (d.fNext.length : Int)))), (25, .sv (.one (I x25)))], [.box [I d.fLetters, I d.fStart, LS (lsT intT) d.fNext, LS intT d.fMark] 25 false, rowI 3 intT l1, mapI DetSplit.enc intT m2_2, rowI 3 intT l3, .gone, .box [I e_5, .v (.string (bytesOf l4))] 262 false]⟩ _
          refine En.region ?_
          refine WL.run ht hn 4 ⟨[(1, .sv (.one (.ptr 0 0))), (3, .sv (.one (.own 1))), (4, .sv (.one (I x4))), (5, .sv (.one (.own 2))), (6, .sv (.one (.own 3))), (23, .sv (.one (LS (lsT intT) d.fNext))), (24, .sv (.one (I (d.fNext.length : Int)))), (25, .sv (.one (I x25))), (70, .sv (.one (.own 3))), (71, .sv (.one (I x25))), (72, .sv (.one (.own 2))), (73, .sv (.agg [I e_5, .v (.string (bytesOf l4))]))], [.box [I d.fLetters, I d.fStart, LS (lsT intT) d.fNext, LS intT d.fMark] 25 false, rowI 3 intT l1, mapI DetSplit.enc intT m2_2, rowI 3 intT l3, .gone, .gone]⟩ (by kernel_rfl) ?_
          refine WL.val hn (by rfl) (val_lookup (T := intT) (D := m2_2) DetSplit.keyLaw (k := (DetSplit.mk e_5 (bytesOf l4))) (ok := false) (0 : Int) (zv := (.int .i64 0)) rfl Try.underlying260 (fun _ => by kernel_rfl) (fun _ => ⟨rfl, trivial⟩) (mapAs DetSplit.enc intT m2_2) (by rfl) (by rfl) (by rfl) (fun _ => rfl)) (by rfl) ?_
          obtain ⟨e_6, he_6, h⟩ := h
          refine WL.val hn (by rfl) (val_indexO (T := intT) (l := l3) (k := x25) ht rfl (by rfl) (by rfl) (by rfl) (by rfl) (by decide) (by rfl) (by rfl) (by rfl) he_6) (by rfl) ?_
          refine WL.storeO (T := intT) (l := l3) (y := ((mget (DetSplit.mk e_5 (bytesOf l4)) m2_2).getD (0 : Int))) ht hn (by rfl) rfl (by rfl) (by rfl) (fun _ h => by cases h) (by rfl) (by rfl) (idx_lt he_6) (by rfl) (by rfl) (by rfl) (by rfl) ?_
          refine WL.nil ?_
          refine En.region ?_
          refine WL.run ht hn 2 ⟨[(1, .sv (.one (.ptr 0 0))), (3, .sv (.one (.own 1))), (4, .sv (.one (I x4))), (5, .sv (.one (.own 2))), (6, .sv (.one (.own 3))), (23, .sv (.one (LS (lsT intT) d.fNext))), (24, .sv (.one (I (d.fNext.length : Int)))), (25, .sv (.one (I (wr (x25 + 1)))))], [.box [I d.fLetters, I d.fStart, LS (lsT intT) d.fNext, LS intT d.fMark] 25 false, rowI 3 intT l1, mapI DetSplit.enc intT m2_2, rowI 3 intT (l3.set (x25).toNat ((mget (DetSplit.mk e_5 (bytesOf l4)) m2_2).getD (0 : Int))), .gone, .gone]⟩ (by kernel_rfl) ?_
          refine WL.nil ?_
          exact En.at (I := fun zz => Inv_2 zz.1 zz.2.1 zz.2.2 ∧ mu_2 zz.1 zz.2.1 zz.2.2 < mu_2 x25 m2 l3) (T := fun zz => ⟨[(1, .sv (.one (.ptr 0 0))), (3, .sv (.one (.own 1))), (4, .sv (.one (I x4))), (5, .sv (.one (.own 2))), (6, .sv (.one (.own 3))), (23, .sv (.one (LS (lsT intT) d.fNext))), (24, .sv (.one (I (d.fNext.length : Int)))), (25, .sv (.one (I zz.1)))], [.box [I d.fLetters, I d.fStart, LS (lsT intT) d.fNext, LS intT d.fMark] 25 false, rowI 3 intT l1, mapI DetSplit.enc intT zz.2.1, rowI 3 intT zz.2.2]⟩) ((wr (x25 + 1)), m2_2, (l3.set (x25).toNat ((mget (DetSplit.mk e_5 (bytesOf l4)) m2_2).getD (0 : Int)))) h (by kernel_rfl)
  · replace h := h.2 hb
    refine En.exit rfl ?_
    refine En.seq ?_
    refine En.region ?_
    refine WL.run ht hn 2 ⟨[(1, .sv (.one (.ptr 0 0))), (3, .sv (.one (.own 3))), (4, .sv (.one (I x4))), (5, .sv (.one (.own 2)))], [.box [I d.fLetters, I d.fStart, LS (lsT intT) d.fNext, LS intT d.fMark] 25 false, .gone, mapI DetSplit.enc intT m2, rowI 3 intT l3]⟩ (by kernel_rfl) ?_
    refine WL.nil ?_
    refine En.seq ?_
    refine En.seq ?_
    refine En.region ?_
    refine WL.run ht hn 1 ⟨[(1, .sv (.one (.ptr 0 0))), (3, .sv (.one (.own 3))), (4, .sv (.one (I x4))), (5, .sv (.one (.own 2))), (78, .sv (.one (.own 2)))], [.box [I d.fLetters, I d.fStart, LS (lsT intT) d.fNext, LS intT d.fMark] 25 false, .gone, mapI DetSplit.enc intT m2, rowI 3 intT l3]⟩ (by kernel_rfl) ?_
    refine WL.val hn (by rfl) (val_lenM (enc := DetSplit.enc) (T := intT) (D := m2) rfl Try.underlying260 (by rfl) (by rfl) (mapAs _ _ _)) (by rfl) ?_
    refine WL.run ht hn 2 ⟨[(1, .sv (.one (.ptr 0 0))), (3, .sv (.one (.own 3))), (5, .sv (.one (.own 2))), (81, .sv (.one (B ((m2.length : Int) == x4))))], [.box [I d.fLetters, I d.fStart, LS (lsT intT) d.fNext, LS intT d.fMark] 25 false, .gone, mapI DetSplit.enc intT m2, rowI 3 intT l3]⟩ (by kernel_rfl) ?_
    refine WL.nil ?_
    refine En.cond (b := ((m2.length : Int) == x4)) (by kernel_rfl) (fun hb => ?_) (fun hb => ?_)
    · replace h := h.1 hb
      refine En.seq ?_
      refine En.region ?_
      refine WL.run ht hn 2 ⟨[(2, .sv (.one (.own 3)))], [.gone, .gone, .gone, rowI 3 intT l3]⟩ (by kernel_rfl) ?_
      refine WL.nil ?_
      refine En.ret ?_
      refine En.seal (T := intT) (l := l3) (e := 3) 3 rfl ?_
      exact En.back ht l3 h (by kernel_rfl) rfl
    · replace h := h.2 hb
      refine En.skip ?_
      refine En.region ?_
      refine WL.run ht hn 1 ⟨[(1, .sv (.one (.ptr 0 0))), (3, .sv (.one (.own 3))), (83, .sv (.one (.own 2)))], [.box [I d.fLetters, I d.fStart, LS (lsT intT) d.fNext, LS intT d.fMark] 25 false, .gone, mapI DetSplit.enc intT m2, rowI 3 intT l3]⟩ (by kernel_rfl) ?_
      refine WL.val hn (by rfl) (val_lenM (enc := DetSplit.enc) (T := intT) (D := m2) rfl Try.underlying260 (by rfl) (by rfl) (mapAs _ _ _)) (by rfl) ?_
      refine WL.run ht hn 1 ⟨[(1, .sv (.one (.ptr 0 0))), (3, .sv (.one (.own 3))), (4, .sv (.one (I (m2.length : Int))))], [.box [I d.fLetters, I d.fStart, LS (lsT intT) d.fNext, LS intT d.fMark] 25 false, .gone, .gone, rowI 3 intT l3]⟩ (by kernel_rfl) ?_
      refine WL.nil ?_
      refine En.move 3 1 (by rfl) (by rfl) ?_
      exact En.at (I := fun zz => Inv zz.1 zz.2 ∧ mu zz.1 zz.2 < mu x4 l1) (T := fun zz => ⟨[(1, .sv (.one (.ptr 0 0))), (3, .sv (.one (.own 1))), (4, .sv (.one (I zz.1)))], [.box [I d.fLetters, I d.fStart, LS (lsT intT) d.fNext, LS intT d.fMark] 25 false, rowI 3 intT zz.2]⟩) ((m2.length : Int), l3) h (by kernel_rfl)
theorem en115 : ∀ args w, (callFunc 115 args).run Try.prog w = .ok (.enter 115 args) w := enters_of Try.func115 (by kernel_rfl) rfl
end Go.Proofs.Ytiinkohfldopbaa

