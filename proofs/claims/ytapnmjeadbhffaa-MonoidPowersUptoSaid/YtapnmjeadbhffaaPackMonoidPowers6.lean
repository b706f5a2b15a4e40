/- Lemmas towards the statement: mirrors of functions, and plain laws. No condition. -/
import Derived.Recover
import Derived.Laws.BytesString
import Derived.Test.YtapnmjeadbhffaaPackMonoidPowers5


namespace Go.Proofs.Ytapnmjeadbhffaa
open Go.RowKit Go.MapKept
set_option linter.unusedSimpArgs false
set_option linter.unusedVariables false
set_option maxRecDepth 100000
def RetL (fn : Func) (R : Ending → World → Prop) : Po := fun a w => Leaves Try.prog fn a.tmps R a.defers .returning w
theorem Ct.bodyD {β : Type} {f : Nat} {fn : Func} {code : Code} {n : Nat} {ins : List SC} {post : β → Prop} {out : β → SC} (hf : Try.prog.funcs[f]? = some fn) (hb : fn.body = some code) (hn : fn.ntmps = n) (hl : Nat.ble ins.length n = true)
  (h : ∀ (c : Cfg) (R : Ending → World → Prop), c.n = n → c.dfr = [] → (∀ v w' g' r, post r → (out r).ok g' hs0 v → Base c w' g' → R (.returned v) w') → (∀ ch a w', Leaves Try.prog fn a.tmps R a.defers (.panicking ch) w' → c.pan ch a w') → En c ⟨enumF 0 ins, []⟩ (cwp code (PQ c (RetL fn R) [] (RetL fn R)))) : Ct f ins [] post out := fun w g hs args hp ha hm => by
 have hl := Nat.le_of_ble_eq_true hl
 have hla := okArgs_length ha
 let R := RetP w g post out
 let c : Cfg := ⟨n, w, g, fun _ => False, [], fun ch a w' => Leaves Try.prog fn a.tmps R a.defers (.panicking ch) w'⟩
 have hR : ∀ v w' g' r, post r → (out r).ok g' hs0 v → Base c w' g' → R (.returned v) w' := fun v w' g' r h1 h2 h3 => ⟨v, g', r, rfl, h1, h2, h3.cast rfl rfl rfl⟩
 refine calls_of_wp_defers hf hb (Code.wp_mono (fun e a w' q => ?_) (h c R rfl rfl hR (fun _ _ _ h => h) { tmps := args.toArray ++ Array.replicate (fn.ntmps - args.toArray.size) undef, defers := [] } w ⟨g, hs, ?_⟩))
 ·cases e with
  | panic ch => exact q
  | normal => exact q
  | ret => exact q
  | exit _ => exact (q : False).elim
  | goto _ => exact (q : False).elim
  | outgrown => exact (q : False).elim
 ·refine ⟨?_, rfl, ⟨rfl, rfl, rfl, Nat.le_refl _, fun _ _ _ => rfl, Gh.le.refl g, fun b o e => .inl e, hp⟩, fun t x hx => ?_, fun i it hi => by simp at hi, fun i j it jt _ hi => by simp at hi, fun i it hi => by simp at hi⟩
  ·simp [c, hn]
   omega
  ·obtain ⟨u, h1, _, h3⟩ := enumF_ok ha hx
   simp only [Nat.sub_zero] at h1
   have hlt := (List.getElem?_eq_some_iff.1 h1).1
   have : (args.toArray ++ Array.replicate (fn.ntmps - args.toArray.size) undef).getD t undef = u := by
    rw [Array.getD_eq_getD_getElem?, Array.getElem?_append_left (by simpa using hlt)]
    simp [h1]
   rw [this]
   exact h3
def CtD (f : Nat) (M M' : List Item) (u u' : FrameMode) : Prop := ∀ (w : World) (g : Gh) (hs : Nat → Value), Pers g w → ItemsOk (fun _ => True) 0 M g hs w → (∃ b0 b1, hs 0 = .pointer (some ⟨b0, 0, none⟩) ∧ hs 1 = .pointer (some ⟨b1, 0, none⟩)) →
 CallsD Try.prog f #[hs 0, hs 1] u w (fun e u2 w' => u2 = u' ∧ ∃ v g' hs', e = .returned v ∧ (∀ i ∈ [0, 1], hs' i = hs i) ∧ Base (cfgM 0 w g (mayM M hs)) w' g' ∧ ItemsOk (mayM M hs) w.heap.size M' g' hs' w')
theorem CtD.body {f : Nat} {fn : Func} {id d n : Nat} {o : Oper} {y : Code} {M M' : List Item} {u u' : FrameMode} {pv : Value} (hf : Try.prog.funcs[f]? = some fn) (hb : fn.body = some (.seq (.region id #[o] false) y)) (hn : fn.ntmps = n) (hr : fn.results = #[]) (h2n : Nat.blt 2 n = true) (hdn : Nat.blt d n = true) (hd2 : Nat.blt 1 d = true)
  (hop : o.op = .call ⟨.builtin .recover, #[], #[]⟩) (hg : o.guard = none) (hod : o.dst = some d) (hrec : ∀ (c₀ : Frame) (cs : List Frame), c₀.mode = u → (match recoverD (c₀ :: cs) with
   | some (v, cs') => v = pv ∧ cs' = { c₀ with mode := u' } :: cs
   | none => .nilIface = pv ∧ u = u')) (hpv : cellV pv)
  (h : ∀ (c : Cfg) (B : Nat → Nat), c.n = n → En c ⟨[(0, .sv (.one (.pptr 0 0 (B 0)))), (1, .sv (.one (.pptr 1 0 (B 1)))), (d, .sv (.one (.v pv)))], M⟩ (cwp y (PQ c (RetE c #[] [0, 1] B (fun (_ : Unit) => True) (fun _ => .tup []) (fun _ => M')) [] (RetE c #[] [0, 1] B (fun (_ : Unit) => True) (fun _ => .tup []) (fun _ => M'))))) : CtD f M M' u u' := fun w g hs hp hm ⟨b0, b1, e0, e1⟩ => by
 have h2n := Nat.le_of_ble_eq_true h2n
 have hdn := Nat.le_of_ble_eq_true hdn
 have hd2 := Nat.le_of_ble_eq_true hd2
 refine callsD_of_wpS hf hb fun c₀ cs hu => ?_
 apply wpS_seq
 apply wpS_region
 have hl : List.range (#[o] : Array Oper).size = [0] := rfl
 rw [hl]
 let a0 : Act := { tmps := #[hs 0, hs 1] ++ Array.replicate (fn.ntmps - (#[hs 0, hs 1] : Array Value).size) undef, defers := [] }
 have hwant : Region.wanted o (yielded #[o] a0.tmps) = true := by unfold Region.wanted; rw [hg]
 have hrun : (execOp a0.eval o).run Try.prog w = .ok .recover w := by
  unfold execOp
  rw [hop]
  rfl
 have key : (y.wpS Try.prog (bodyPostS Try.prog fn c₀ cs fun e u2 w' => u2 = u' ∧ ∃ v g' hs', e = .returned v ∧ (∀ i ∈ [0, 1], hs' i = hs i) ∧ Base (cfgM 0 w g (mayM M hs)) w' g' ∧ ItemsOk (mayM M hs) w.heap.size M' g' hs' w') (a0.put (some d) pv) ({ c₀ with mode := u' } :: cs) w) := by
  refine wpS_of_wp ?_
  let B : Nat → Nat := fun i => if i = 0 then b0 else b1
  refine Code.wp_mono (fun e a w' q => ?_) (h (cfgM n w g (mayM M hs)) B rfl (a0.put (some d) pv) w ⟨g, hs, ?_⟩)
  ·have fin : RetE (cfgM n w g (mayM M hs)) #[] [0, 1] B (fun (_ : Unit) => True) (fun _ => .tup []) (fun _ => M') a w' → a.defers = [] ∧ ∃ u2, ({ c₀ with mode := u' } :: cs : List Frame) = { c₀ with mode := u2 } :: cs ∧ ∃ v, (results fn a.tmps).run Try.prog w' = .ok v w' ∧ (u2 = u' ∧ ∃ v' g' hs', Ending.returned v = .returned v' ∧ (∀ i ∈ [0, 1], hs' i = hs i) ∧ Base (cfgM 0 w g (mayM M hs)) w' g' ∧ ItemsOk (mayM M hs) w.heap.size M' g' hs' w') := fun ⟨h1, v, g', hs', _, h2, _, _, h5, h6, h7⟩ => by
    refine ⟨h1, u', rfl, v, ?_, rfl, v, g', hs', rfl, fun i hi => (h5 i hi).trans ?_, h6.cast rfl rfl rfl, h7⟩
    ·have := h2
     unfold results
     rw [hr]
     exact this
    ·simp at hi
     rcases hi with rfl | rfl
     ·exact e0.symm
     ·exact e1.symm
   cases e with
   | normal => exact fin q
   | ret => exact fin q
   | panic _ => exact (q : False).elim
   | exit _ => exact (q : False).elim
   | goto _ => exact (q : False).elim
   | outgrown => exact (q : False).elim
  ·have hsz : a0.tmps.size = n := by
    simp only [a0, Array.size_append, Array.size_replicate, hn, List.size_toArray, List.length_cons, List.length_nil]
    omega
   have hget : ∀ t v, t ≠ d → a0.tmps.getD t undef = v → (a0.put (some d) pv).tmps.getD t undef = v := fun t v ht hv => by
    simp only [Act.put]
    rw [Array.getD_eq_getD_getElem?, Array.getElem?_setIfInBounds_ne (Ne.symm ht), ← Array.getD_eq_getD_getElem?]
    exact hv
   refine ⟨by simp [Act.put, hsz], rfl, ⟨rfl, rfl, rfl, Nat.le_refl _, fun _ _ _ => rfl, Gh.le.refl g, fun b o e => .inl e, hp⟩, fun t x hx => ?_, hm.items, hm.sep, fun i it hi hn' b hb => ?_⟩
   ·simp only [List.mem_cons, List.not_mem_nil, or_false, Prod.mk.injEq] at hx
    rcases hx with ⟨rfl, rfl⟩ | ⟨rfl, rfl⟩ | ⟨rfl, rfl⟩
    ·rw [hget 0 (hs 0) (by omega) (by show (#[hs 0, hs 1] ++ Array.replicate _ undef : Array Value).getD 0 undef = hs 0; rw [Array.getD_eq_getD_getElem?, Array.getElem?_append_left (by simp)]; rfl)]
     exact ⟨⟨e0, e0⟩, by rw [e0]; trivial⟩
    ·rw [hget 1 (hs 1) (by omega) (by show (#[hs 0, hs 1] ++ Array.replicate _ undef : Array Value).getD 1 undef = hs 1; rw [Array.getD_eq_getD_getElem?, Array.getElem?_append_left (by simp)]; rfl)]
     exact ⟨⟨e1, e1⟩, by rw [e1]; trivial⟩
    ·have : (a0.put (some t) pv).tmps.getD t undef = pv := by
      have ht : t < a0.tmps.size := by omega
      simp [Act.put, ht]
     rw [this]
     exact ⟨rfl, hpv⟩
   ·obtain ⟨h1, h2⟩ := hm.mine i it hi hn' b hb
    exact ⟨h1, fun hf => ⟨.inl ⟨i, it, hi, hf, hb⟩, (h2 hf).2⟩⟩
 show wpOpsS Try.prog #[o] _ [0] a0 (c₀ :: cs) w
 have hr0 := hrec c₀ cs hu
 unfold wpOpsS
 have h0 : (#[o] : Array Oper)[0]? = some o := rfl
 rw [h0]
 simp only
 rw [if_pos hwant, hrun]
 simp only
 cases hrd : recoverD (c₀ :: cs) with
 | none =>
  rw [hrd] at hr0
  simp only at hr0 ⊢
  obtain ⟨k1, k2⟩ := hr0
  unfold wpOpsS
  show y.wpS Try.prog _ (a0.put o.dst .nilIface) (c₀ :: cs) w
  rw [hod, k1]
  have : c₀ = { c₀ with mode := u' } := by rw [← k2, ← hu]
  rw [this]
  exact key
 | some x =>
  obtain ⟨v, cs'⟩ := x
  rw [hrd] at hr0
  simp only at hr0 ⊢
  obtain ⟨rfl, rfl⟩ := hr0
  unfold wpOpsS
  show y.wpS Try.prog _ (a0.put o.dst v) _ w
  rw [hod]
  exact key
section
variable {c : Cfg} {S S1 : St} {a : Act} {w : World} {g : Gh} {hs : Nat → Value} {tab : Tab} {n : Nat} {o : Oper} {ops : Array Oper} {rest : List Oper} {N R : Po} {E : List (Nat × Po)}
theorem val_ifNil {x : Operand} {t : Nat} {b : TypeId} {y : Operand} {ty : Nat} {v : Value} (ho : o.op = .binOp .eql t x y b) (hx : evX S.F x = some (.sv (.one (.v (.iface ty v))))) (hy : evX S.F y = some (.sv (.one (.v .nilIface)))) (hrun : ∀ w, (do eqGuard .eql t x y (.iface ty v) .nilIface; binOp .eql t (.iface ty v) .nilIface : Sem Value).run Try.prog w = .ok (.bool false) w) : Val c S o (.sv (.one (B false))) := fun a w g hs h => by
 have h1 : a.eval x = .iface ty v := (evX_ok h hx).1
 have h2 : a.eval y = .nilIface := (evX_ok h hy).1
 refine ⟨_, ?_, rfl, trivial⟩
 have e : execOp a.eval o = (do pure (.value (← (do eqGuard .eql t x y (a.eval x) (a.eval y); binOp .eql t (a.eval x) (a.eval y) : Sem Value))) : Sem Next) := by unfold execOp; rw [ho]
 rw [e]
 refine run_val ?_
 rw [h1, h2]
 exact hrun w
theorem val_nilNil {x : Operand} {t : Nat} {b : TypeId} {y : Operand} (ho : o.op = .binOp .eql t x y b) (hx : evX S.F x = some (.sv (.one (.v .nilIface)))) (hy : evX S.F y = some (.sv (.one (.v .nilIface)))) (hrun : ∀ w, (do eqGuard .eql t x y .nilIface .nilIface; binOp .eql t .nilIface .nilIface : Sem Value).run Try.prog w = .ok (.bool true) w) : Val c S o (.sv (.one (B true))) := fun a w g hs h => by
 have h1 : a.eval x = .nilIface := (evX_ok h hx).1
 have h2 : a.eval y = .nilIface := (evX_ok h hy).1
 refine ⟨_, ?_, rfl, trivial⟩
 have e : execOp a.eval o = (do pure (.value (← (do eqGuard .eql t x y (a.eval x) (a.eval y); binOp .eql t (a.eval x) (a.eval y) : Sem Value))) : Sem Next) := by unfold execOp; rw [ho]
 rw [e]
 refine run_val ?_
 rw [h1, h2]
 exact hrun w
theorem val_assert {x : Operand} {t1 t2 : Nat} {ty : Nat} {cs : List Value} {l : List At} (ho : o.op = .typeAssert x t1 t2 true) (hx : evX S.F x = some (.sv (.one (.v (.iface ty (.agg cs.toArray)))))) (hl : l = cs.map .v) (hc : ∀ c ∈ cs, cellV c) (hrun : ∀ w, (Instr.typeAssert (.iface ty (.agg cs.toArray)) t1 t2 true).run Try.prog w = .ok (.tuple #[.agg cs.toArray, .bool true]) w) : Val c S o (.tup [.agg l, .one (B true)]) := fun a w g hs h => by
 have h1 : a.eval x = .iface ty (.agg cs.toArray) := (evX_ok h hx).1
 subst hl
 refine ⟨.tuple #[.agg cs.toArray, .bool true], ?_, [.agg cs.toArray, .bool true], rfl, ⟨cs, rfl, oks_vals hc⟩, ⟨rfl, trivial⟩, trivial⟩
 have e : execOp a.eval o = (do pure (.value (← Instr.typeAssert (a.eval x) t1 t2 true)) : Sem Next) := by unfold execOp; rw [ho]
 rw [e, h1]
 exact run_val (hrun w)
theorem WL.defer {F t0 t1 d i j : Nat} (hw : wantE ops S.F o = some true) (ho : o.op = .defer ⟨.value (.tmp d), #[], #[]⟩) (hd : o.dst = none) (hf : look d S.F = some (.sv (.one (.fn F [i, j])))) (h0 : look t0 S.F = some (.sv (.one (.ptr i 0)))) (h1 : look t1 S.F = some (.sv (.one (.ptr j 0)))) (hc : c.dfr = [])
  (h : ∀ (c' : Cfg) (B : Nat → Nat), c'.n = c.n → c'.w0 = c.w0 → c'.g0 = c.g0 → c'.may = c.may → c'.pan = c.pan → c'.dfr = [⟨.fn (.func F) #[.pointer (some ⟨B i, 0, none⟩), .pointer (some ⟨B j, 0, none⟩)], #[]⟩] → WL c' ops rest ⟨(t0, .sv (.one (.pptr i 0 (B i)))) :: (t1, .sv (.one (.pptr j 0 (B j)))) :: S.F, S.M⟩ N) : WL c ops (o :: rest) S N := fun a w ⟨g, hs, hk⟩ => by
 unfold wpList
 rw [if_pos (wantE_ok hk hw)]
 refine .inl ?_
 unfold Oper.wp
 have hfv : a.tmps.getD d undef = .func (.func F) #[] #[hs i, hs j] := (hk.slots d _ (look_mem hf)).1
 obtain ⟨B, eB0, eB1⟩ : ∃ B : Nat → Nat, hs i = .pointer (some ⟨B i, 0, none⟩) ∧ hs j = .pointer (some ⟨B j, 0, none⟩) := by
  obtain ⟨⟨b0, e0, _⟩, _⟩ := hk.slots t0 _ (look_mem h0)
  obtain ⟨⟨b1, e1, _⟩, _⟩ := hk.slots t1 _ (look_mem h1)
  refine ⟨fun k => if k = i then b0 else b1, by show hs i = .pointer (some ⟨if i = i then b0 else b1, 0, none⟩); rw [if_pos rfl]; exact e0, ?_⟩
  show hs j = .pointer (some ⟨if j = i then b0 else b1, 0, none⟩)
  by_cases e : j = i
  ·rw [if_pos e, e]; exact e0
  ·rw [if_neg e]; exact e1
 obtain ⟨⟨b0, e0, e0'⟩, _⟩ := hk.slots t0 _ (look_mem h0)
 obtain ⟨⟨b1, e1, e1'⟩, _⟩ := hk.slots t1 _ (look_mem h1)
 have k0 : b0 = B i := by rw [e0] at eB0; simpa using eB0
 have k1 : b1 = B j := by rw [e1] at eB1; simpa using eB1
 have hrun : (execOp a.eval o).run Try.prog w = .ok (.defer ⟨.fn (.func F) #[hs i, hs j], #[]⟩) w := by
  unfold execOp
  have hev : a.eval (.tmp d) = .func (.func F) #[] #[hs i, hs j] := hfv
  simp only [ho, resolve, hev, Deferred.ofValue, Sem.run_bind, Sem.run_pure, Result.andThen_ok]
  simp
 rw [hrun]
 show wpList Try.prog ops (OnlyP c N) rest _ w
 let c' : Cfg := { c with dfr := [⟨.fn (.func F) #[.pointer (some ⟨B i, 0, none⟩), .pointer (some ⟨B j, 0, none⟩)], #[]⟩] }
 have := h c' B rfl rfl rfl rfl rfl rfl ({ a with defers := ⟨.fn (.func F) #[hs i, hs j], #[]⟩ :: a.defers }.put o.dst undef) w ⟨g, hs, ?_⟩
 ·have e : OnlyP c' N = OnlyP c N := rfl
  rw [← e]
  exact this
 ·rw [hd]
  refine ⟨hk.size, ?_, hk.base.cast rfl rfl rfl, fun t x hx => ?_, hk.items, hk.sep, hk.mine⟩
  ·show (⟨.fn (.func F) #[hs i, hs j], #[]⟩ : Deferred) :: a.defers = _
   rw [hk.defers, hc, eB0, eB1]
  ·rcases List.mem_cons.1 hx with hx | hx
   ·cases hx
    exact ⟨⟨eB0, by rw [← k0]; exact e0'⟩, (hk.slots _ _ (look_mem h0)).2⟩
   ·rcases List.mem_cons.1 hx with hx | hx
    ·cases hx
     exact ⟨⟨eB1, by rw [← k1]; exact e1'⟩, (hk.slots _ _ (look_mem h1)).2⟩
    ·exact hk.slots t x hx
theorem En.cfg {c' : Cfg} {y : Code} (h : c'.pan = c.pan) (k : En c' S (cwp y (PQ c' N E R))) : En c' S (cwp y (PQ c N E R)) := by
 have e : PQ c N E R = PQ c' N E R := by
  funext ex a w
  cases ex <;> first | rfl | (show c.pan _ _ _ = c'.pan _ _ _; rw [h])
 rw [e]
 exact k
theorem Ok'.afterX (h : Ok' c S a w g hs) {M : List Item} {rn : List Nat} (hM : M.map (fun it => some (it.mv (rnF rn S.M.length))) = rn.map (fun j => S.M[j]?)) {w' : World} {g' : Gh} (hb : Base (cfgM 0 w g (mayM M (fun i => hs (rnF rn S.M.length i)))) w' g') : Ok' c ⟨S.F, goneM S.M rn⟩ a w' g' hs := by
 have hat : ∀ (i : Nat) (it : Item), M[i]? = some it → ∃ j, rn[i]? = some j ∧ rnF rn S.M.length i = j ∧ S.M[j]? = some (it.mv (rnF rn S.M.length)) := fun i it hi => by
  have := congrArg (·[i]?) hM
  simp only [List.getElem?_map, hi, Option.map_some] at this
  cases hr : rn[i]? with
  | none => rw [hr] at this; simp at this
  | some j =>
   rw [hr] at this
   simp at this
   have hlt := (List.getElem?_eq_some_iff.1 hr).1
   refine ⟨j, rfl, ?_, this.symm⟩
   unfold rnF
   rw [show Nat.blt i rn.length = true from by simpa [Nat.blt_eq] using hlt]
   simp [hr]
 have hmay : ∀ b, mayM M (fun i => hs (rnF rn S.M.length i)) b → ∃ j it, j ∈ rn ∧ S.M[j]? = some it ∧ it.fz = false ∧ Blk (hs j) b := fun b ⟨i, it, h1, h2, h3⟩ => by
  obtain ⟨j, h4, h5, h6⟩ := hat i it h1
  simp only [h5] at h3
  exact ⟨j, _, List.mem_of_getElem? h4, h6, by rw [Item.mv_fz]; exact h2, h3⟩
 have hoth : ∀ k jt b, k ∉ rn → S.M[k]? = some jt → jt ≠ .gone → Blk (hs k) b → ¬ mayM M (fun i => hs (rnF rn S.M.length i)) b := fun k jt b h1 h2 h3 h4 h5 => by
  obtain ⟨j, it, h6, h7, h8, h9⟩ := hmay b h5
  exact h.sep j k it jt (fun e => h1 (e ▸ h6)) h7 h2 h8 h3 b h9 h4
 refine ⟨h.size, h.defers, Base.callM h hM hb, fun t x hx => SC.mono hb.ghle (h.slots t x hx), fun k kt hk => ?_, fun k l kt lt hkl hk hl hf hn b hb1 => ?_, fun k kt hk hn b hb1 => ?_⟩
 ·by_cases hn : kt = .gone
  ·subst hn; trivial
  ·obtain ⟨h1, h2⟩ := goneM_get k kt hk hn
   exact Item.same hb.ghle (fun b hb1 => hb.frame b (h.mine k kt h2 hn b hb1).1 (hoth k kt b h1 h2 hn hb1)) (h.items k kt h2)
 ·obtain ⟨h1, h2⟩ := goneM_get k kt hk (fz_gone hf)
  obtain ⟨h3, h4⟩ := goneM_get l lt hl hn
  exact h.sep k l kt lt hkl h2 h4 hf hn b hb1
 ·obtain ⟨h1, h2⟩ := goneM_get k kt hk hn
  obtain ⟨m1, m2⟩ := h.mine k kt h2 hn b hb1
  refine ⟨Nat.lt_of_lt_of_le m1 hb.grows, fun hf => ⟨(m2 hf).1, ?_⟩⟩
  cases hg : g' b with
  | none => rfl
  | some o =>
   rcases hb.ghnew b o hg with h5 | h5 | h5
   ·have h6 := (m2 hf).2
    have h5 : g b = some o := h5
    rw [h6] at h5; cases h5
   ·exact absurd h5 (hoth k kt b h1 h2 hn hb1)
   ·have : w.heap.size ≤ b := h5
    omega
theorem leave_one {β : Type} {fn : Func} {R : Ending → World → Prop} {rs : Array ResultVar} {post : β → Prop} {out : β → SC} {f t0 t1 i j b0 b1 : Nat} {M M' : List Item} {u u' : FrameMode} {S2 : St} (ht : tab.ok) (hk : Ok' c S a w g hs) (hr : fn.results = rs) (hR : ∀ v w' g' r, post r → (out r).ok g' hs0 v → Base c w' g' → R (.returned v) w')
  (hdf : c.dfr = [⟨.fn (.func f) #[.pointer (some ⟨b0, 0, none⟩), .pointer (some ⟨b1, 0, none⟩)], #[]⟩]) (h0 : look t0 S.F = some (.sv (.one (.pptr i 0 b0)))) (h1 : look t1 S.F = some (.sv (.one (.pptr j 0 b1)))) (hu : u ≠ .run) (hs' : settle u' = .returning)
  (ct : CtD f M M' u u') (en : ∀ args w, (callFunc f args).run Try.prog w = .ok (.enter f args) w) (hM : M.map (fun it => some (it.mv (rnF [i, j] S.M.length))) = [i, j].map (fun j => S.M[j]?)) (hnd : [i, j].Nodup) (hal : aloneE S [i, j] [0, 1] = true) (hrf : refsB M' = true) (hlen : M.length ≤ M'.length) (hbk : backC [0, 1] M M' = true)
  (hS2 : S2 = ⟨S.F, putItems (rnF [i, j] S.M.length) S.M [i, j] M'⟩) (r : β) (hp : post r) (e : evR tab S2 rs = some (out r)) (hcl : (out r).refs = []) : Leaves Try.prog fn a.tmps R a.defers u w := by
 rw [hk.defers, hdf]
 have e0 : hs i = .pointer (some ⟨b0, 0, none⟩) := (hk.slots t0 _ (look_mem h0)).1.1
 have e1 : hs j = .pointer (some ⟨b1, 0, none⟩) := (hk.slots t1 _ (look_mem h1)).1.1
 refine leaves_cons (f := f) (args := #[.pointer (some ⟨b0, 0, none⟩), .pointer (some ⟨b1, 0, none⟩)]) hu (by
  simp only [invoke]
  rw [show (#[] ++ #[Value.pointer (some ⟨b0, 0, none⟩), Value.pointer (some ⟨b1, 0, none⟩)] : Array Value) = #[.pointer (some ⟨b0, 0, none⟩), .pointer (some ⟨b1, 0, none⟩)] by simp]
  exact en _ _) ?_
 have hr0 : rnF [i, j] S.M.length 0 = i := rfl
 have hr1 : rnF [i, j] S.M.length 1 = j := rfl
 have hcall := ct w g (fun k => hs (rnF [i, j] S.M.length k)) hk.base.pers (items_in hk hM hnd) ⟨b0, b1, by rw [hr0]; exact e0, by rw [hr1]; exact e1⟩
 simp only [hr0, hr1, e0, e1] at hcall
 refine hcall.mono ?_
 rintro e' u2 w' ⟨rfl, v, g', hs'', rfl, k1, k2, k3⟩
 show Leaves Try.prog fn a.tmps R [] (settle u2) w'
 rw [hs']
 obtain ⟨hsN, n1, n2⟩ := hk.backE hM hnd hal hrf hlen (backB_of hbk) (fun q hq => k1 q hq) (fun q hq => by simp at hq; rcases hq with rfl | rfl <;> simp) k2 k3
 rw [← hS2] at n1
 obtain ⟨v', r1, r2⟩ := evR_ok ht n1 e
 refine ⟨v', ?_, hR v' w' g' r hp (SC.ok_closed hcl r2) n1.base⟩
 subst hr
 exact r1
theorem En.backD {β : Type} {fn : Func} {R : Ending → World → Prop} {rs : Array ResultVar} {post : β → Prop} {out : β → SC} {f b0 b1 : Nat} {M M' : List Item} {S2 : St} (t0 t1 i j : Nat) (ht : tab.ok) (hr : fn.results = rs) (hR : ∀ v w' g' r, post r → (out r).ok g' hs0 v → Base c w' g' → R (.returned v) w')
  (hdf : c.dfr = [⟨.fn (.func f) #[.pointer (some ⟨b0, 0, none⟩), .pointer (some ⟨b1, 0, none⟩)], #[]⟩]) (h0 : look t0 S.F = some (.sv (.one (.pptr i 0 b0)))) (h1 : look t1 S.F = some (.sv (.one (.pptr j 0 b1))))
  (ct : CtD f M M' .returning .returning) (en : ∀ args w, (callFunc f args).run Try.prog w = .ok (.enter f args) w) (hM : M.map (fun it => some (it.mv (rnF [i, j] S.M.length))) = [i, j].map (fun j => S.M[j]?)) (hnd : [i, j].Nodup) (hal : aloneE S [i, j] [0, 1] = true) (hrf : refsB M' = true) (hlen : M.length ≤ M'.length) (hbk : backC [0, 1] M M' = true)
  (hS2 : S2 = ⟨S.F, putItems (rnF [i, j] S.M.length) S.M [i, j] M'⟩) (r : β) (hp : post r) (e : evR tab S2 rs = some (out r)) (hcl : (out r).refs = []) : En c S (RetL fn R) := fun a w ⟨g, hs, hk⟩ =>
 leave_one ht hk hr hR hdf h0 h1 (by simp) rfl ct en hM hnd hal hrf hlen hbk hS2 r hp e hcl
theorem En.backD0 {β : Type} {fn : Func} {R : Ending → World → Prop} {rs : Array ResultVar} {post : β → Prop} {out : β → SC} (ht : tab.ok) (hr : fn.results = rs) (hR : ∀ v w' g' r, post r → (out r).ok g' hs0 v → Base c w' g' → R (.returned v) w') (hdf : c.dfr = []) (r : β) (hp : post r) (e : evR tab S rs = some (out r)) (hcl : (out r).refs = []) : En c S (RetL fn R) := fun a w ⟨g, hs, hk⟩ => by
 show Leaves Try.prog fn a.tmps R a.defers .returning w
 rw [hk.defers, hdf]
 obtain ⟨v', r1, r2⟩ := evR_ok ht hk e
 refine ⟨v', ?_, hR v' w g r hp (SC.ok_closed hcl r2) hk.base⟩
 subst hr
 exact r1
theorem leftD {β : Type} {fn : Func} {R : Ending → World → Prop} {rs : Array ResultVar} {post : β → Prop} {out : β → SC} {f b0 b1 ty : Nat} {M M0 : List Item} {M' : Int → Int → List Item} {rn : List Nat} {S2 : Int → Int → St} (t0 t1 i j : Nat) (ht : tab.ok) (hr : fn.results = rs) (hR : ∀ v w' g' r, post r → (out r).ok g' hs0 v → Base c w' g' → R (.returned v) w') (hpan : ∀ ch a w', Leaves Try.prog fn a.tmps R a.defers (.panicking ch) w' → c.pan ch a w')
  (hdf : c.dfr = [⟨.fn (.func f) #[.pointer (some ⟨b0, 0, none⟩), .pointer (some ⟨b1, 0, none⟩)], #[]⟩]) (h0 : look t0 S.F = some (.sv (.one (.pptr i 0 b0)))) (h1 : look t1 S.F = some (.sv (.one (.pptr j 0 b1))))
  (ct : ∀ code at_, code ≠ 0 → CtD f M (M' code at_) (.panicking [{ v := .iface ty (.agg #[.int .i64 code, .int .i64 at_]), recovered := false }]) (.panicking [{ v := .iface ty (.agg #[.int .i64 code, .int .i64 at_]), recovered := true }])) (en : ∀ args w, (callFunc f args).run Try.prog w = .ok (.enter f args) w)
  (hMc : M0.map (fun it => some (it.mv (rnF rn S.M.length))) = rn.map (fun j => S.M[j]?)) (hM : M.map (fun it => some (it.mv (rnF [i, j] (goneM S.M rn).length))) = [i, j].map (fun j => (goneM S.M rn)[j]?)) (hnd : [i, j].Nodup) (hal : aloneE ⟨S.F, goneM S.M rn⟩ [i, j] [0, 1] = true) (hrf : ∀ code at_, refsB (M' code at_) = true) (hlen : ∀ code at_, M.length ≤ (M' code at_).length) (hbk : ∀ code at_, backC [0, 1] M (M' code at_) = true)
  (hS2 : ∀ code at_, S2 code at_ = ⟨S.F, putItems (rnF [i, j] (goneM S.M rn).length) (goneM S.M rn) [i, j] (M' code at_)⟩) (r : Int → Int → β) (hp : ∀ code at_, code ≠ 0 → post (r code at_)) (e : ∀ code at_, evR tab (S2 code at_) rs = some (out (r code at_))) (hcl : ∀ code at_, (out (r code at_)).refs = []) : LeftX c S M0 rn (psStop ty) := fun a w g hs hk ch w' g' ⟨code, at_, hc, hch⟩ hb _ => by
 subst hch
 refine hpan _ a w' ?_
 have hk2 := hk.afterX hMc hb
 exact leave_one (S := ⟨S.F, goneM S.M rn⟩) ht hk2 hr hR hdf h0 h1 (by simp) rfl (ct code at_ hc) en hM hnd hal (hrf code at_) (hlen code at_) (hbk code at_) (hS2 code at_) (r code at_) (hp code at_ hc) (e code at_) (hcl code at_)
theorem mt_rangeS (p : Nat) {t : Nat} {m : Operand} {s : ByteArray} (ho : o.op = .range t m) (ht : Try.prog.underlying t = some .string) (hm : evX S.F m = some (.sv (.one (.v (.string s))))) : MT c S o (.sv (.one (.own p))) [] (some (p, .siter s 0)) := fun a w g hs h N Z hN => by
 unfold Oper.wp
 have hu : (Go.underlying t).run Try.prog w = .ok .string w := run_underlying ht w
 have hrun : (execOp a.eval o).run Try.prog w = .ok (.value (.pointer (some ⟨w.heap.size, 0, none⟩))) (w.alloc (.stringIter s 0)) := by
  have : execOp a.eval o = (do pure (.value (← Instr.range t (a.eval m))) : Sem Next) := by unfold execOp; rw [ho]
  rw [this, show a.eval m = .string s from (evX_ok h hm).1]
  refine run_valW ?_
  simp only [Instr.range, Sem.run_bind, hu, Result.andThen_ok, Sem.run_pure, newObj]
  rfl
 rw [hrun]
 refine hN _ _ g (.pointer (some ⟨w.heap.size, 0, none⟩)) ⟨rfl, rfl, rfl, by simp, fun b hb _ => (World.grownBy_alloc w _ none).block b hb (by simp), Gh.le.refl g, fun b o e => .inl e, fun b o e => ?_⟩ ⟨?_, trivial⟩ ⟨⟨w.heap.size, rfl, heap_alloc_new w _⟩, fun b hb => ?_⟩
 ·exact ((World.grownBy_alloc w _ none).block b (h.base.pers.lt e) (by simp)).trans (h.base.pers b o e)
 ·show _ = (if p = p then _ else hs p)
  rw [if_pos rfl]
 ·cases hb
  refine ⟨by simp, fun _ => ?_, .inl (Nat.le_refl _)⟩
  cases hgb : g w.heap.size with
  | none => rfl
  | some o => have := h.base.pers.lt hgb; omega
def putBlock (w : World) (b : Nat) (ob : Obj) : World := { w with heap := w.heap.setIfInBounds b ob }
theorem heap_putBlock (w : World) (b : Nat) (ob : Obj) (h : b < w.heap.size) : (putBlock w b ob).heap[b]? = some ob := by
 unfold putBlock
 simp [h]
theorem WL.nextS {r pos : Nat} {x : Operand} {s : ByteArray} (hn : c.n = n) (hw : wantE ops S.F o = some true) (ho : o.op = .next x true) (hx : evX S.F x = some (.sv (.one (.own r)))) (hr : S.M[r]? = some (.siter s pos))
  (h1 : decide (pos < s.size) = false → ∃ S1, putE n o.dst (.tup [.one (B false)]) S = some S1 ∧ WL c ops rest S1 N)
  (h2 : decide (pos < s.size) = true → ∃ S1, putE n o.dst (.tup [.one (B true), .one (I ((pos : Nat) : Int)), .one (.v (.int .i32 (((Utf8.decode s pos).1 : Nat) : Int)))]) ⟨S.F, S.M.set r (.siter s (pos + (Utf8.decode s pos).2))⟩ = some S1 ∧ WL c ops rest S1 N) : WL c ops (o :: rest) S N := fun a w ⟨g, hs, hk⟩ => by
 unfold wpList
 rw [if_pos (wantE_ok hk hw)]
 refine .inl ?_
 unfold Oper.wp
 obtain ⟨rb, e1, e2⟩ := hk.items r _ hr
 have hv : a.eval x = .pointer (some ⟨rb, 0, none⟩) := ((evX_ok hk hx).1).trans e1
 have hop : execOp a.eval o = (do pure (.value (← Instr.next (a.eval x) true o.type)) : Sem Next) := by unfold execOp; rw [ho]
 by_cases hp : pos < s.size
 ·have hrun : (Instr.next (.pointer (some ⟨rb, 0, none⟩)) true o.type).run Try.prog w = .ok (.tuple #[.bool true, goInt pos, .int .i32 (((Utf8.decode s pos).1 : Nat) : Int)]) (putBlock w rb (.stringIter s (pos + (Utf8.decode s pos).2))) := by
   have hlt := (Array.getElem?_eq_some_iff.1 e2).1
   simp only [Instr.next, Sem.run_bind, getObj, Sem.run, e2, Result.andThen_ok, if_pos hp, setObj, Sem.run_pure]
   rfl
  rw [hop, hv, run_valW hrun]
  obtain ⟨S1, k1, k2⟩ := h2 (decide_eq_true hp)
  have hb : ∀ b, blk (hs r) = some b → b = rb := fun b e => by rw [e1] at e; simpa [blk] using e.symm
  have hlt := (Array.getElem?_eq_some_iff.1 e2).1
  have hgr : w.grownBy (putBlock w rb (.stringIter s (pos + (Utf8.decode s pos).2))) (blk (hs r)) := by
   rw [e1]
   exact ⟨rfl, rfl, rfl, by simp [putBlock], fun q hq hne => by
    unfold putBlock
    have : rb ≠ q := fun e => hne (by rw [← e]; rfl)
    simp [this]⟩
  have := hk.upd (it' := .siter s (pos + (Utf8.decode s pos).2)) hr rfl rfl hgr ⟨rb, e1, heap_putBlock w rb _ hlt⟩
  refine k2 _ _ ⟨g, hs, putE_ok this hn (x := .tup [.one (B true), .one (I ((pos : Nat) : Int)), .one (.v (.int .i32 (((Utf8.decode s pos).1 : Nat) : Int)))]) ⟨[.bool true, goInt pos, .int .i32 (((Utf8.decode s pos).1 : Nat) : Int)], rfl, ⟨rfl, trivial⟩, ⟨rfl, trivial⟩, ⟨rfl, trivial⟩, trivial⟩ k1⟩
 ·have hrun : (Instr.next (.pointer (some ⟨rb, 0, none⟩)) true o.type).run Try.prog w = .ok (.tuple #[.bool false]) w := by
   simp only [Instr.next, Sem.run_bind, getObj, Sem.run, e2, Result.andThen_ok, if_neg hp, Sem.run_pure]
  rw [hop, hv, run_val hrun]
  obtain ⟨S1, k1, k2⟩ := h1 (decide_eq_false hp)
  exact k2 _ _ ⟨g, hs, putE_ok hk hn (x := .tup [.one (B false)]) ⟨[.bool false], rfl, ⟨rfl, trivial⟩, trivial⟩ k1⟩
theorem dec_width (s : ByteArray) (pos : Nat) (h : pos < s.size) : 1 ≤ (Utf8.decode s pos).2 := by
 by_cases ha : (s[pos]'h).toNat < 128
 ·rw [decode_ascii s pos h ha]
  exact Nat.le_refl _
 ·exact (decode_high s pos h (by omega)).2
theorem optNil {α : Type} {lab : α → List Value} : ∀ a w g hs, Ok' c S a w g hs → ∀ u, At.ok g hs (.v (.pointer none)) u → At.ok g hs (.rd (optR lab (none : Option (Tr α)))) u := fun a w g hs _ u h => h
theorem optSome {α : Type} {lab : α → List Value} {t : Tr α} : ∀ a w g hs, Ok' c S a w g hs → ∀ u, At.ok g hs (.rd (trR lab t)) u → At.ok g hs (.rd (optR lab (some t))) u := fun a w g hs _ u h => h
theorem hR_cast {β : Type} {R : Ending → World → Prop} {post : β → Prop} {out : β → SC} {c' : Cfg} (h1 : c'.w0 = c.w0) (h2 : c'.g0 = c.g0) (h3 : c'.may = c.may) (hR : ∀ v w' g' r, post r → (out r).ok g' hs0 v → Base c w' g' → R (.returned v) w') : ∀ v w' g' r, post r → (out r).ok g' hs0 v → Base c' w' g' → R (.returned v) w' := fun v w' g' r k1 k2 k3 => hR v w' g' r k1 k2 (k3.cast h1.symm h2.symm h3.symm)
theorem hpan_cast {fn : Func} {R : Ending → World → Prop} {c' : Cfg} (h : c'.pan = c.pan) (hpan : ∀ ch a w', Leaves Try.prog fn a.tmps R a.defers (.panicking ch) w' → c.pan ch a w') : ∀ ch a w', Leaves Try.prog fn a.tmps R a.defers (.panicking ch) w' → c'.pan ch a w' := fun ch a w' k => by rw [h]; exact hpan ch a w' k
end
end Go.Proofs.Ytapnmjeadbhffaa


namespace Go.Proofs.Ytapnmjeadbhffaa
open Go.RowKit Go.MapKept
set_option linter.unusedSimpArgs false
set_option linter.unusedVariables false
set_option maxRecDepth 100000
theorem en154 : ∀ args w, (callFunc 154 args).run Try.prog w = .ok (.enter 154 args) w := enters_of Try.func154 (by kernel_rfl) rfl
theorem regCatch (r0 : Rd) (c0 a0 code at_ : Int) (hc : code ≠ 0) : CtD 154 [.box [.rd r0] 152 false, .box [I c0, I a0] 63 false] [.box [.rd (optR rLab none)] 152 false, .box [I code, I at_] 63 false] (.panicking [{ v := .iface 265 (.agg #[.int .i64 code, .int .i64 at_]), recovered := false }]) (.panicking [{ v := .iface 265 (.agg #[.int .i64 code, .int .i64 at_]), recovered := true }]) := by
 have ht := tab_ok
 refine CtD.body (pv := .iface 265 (.agg #[.int .i64 code, .int .i64 at_])) (d := 5) Try.func154 rfl rfl rfl (by kernel_rfl) (by kernel_rfl) (by kernel_rfl) rfl rfl rfl (fun c₀ cs hm => by simp [recoverD, hm]) trivial (fun c Bk hn => ?_)
 have h : True := trivial
 refine En.block ?_
 refine En.seq ?_
 refine En.region ?_
 refine WL.val hn (by rfl) (val_ifNil rfl (by rfl) (by rfl) (fun w => by kernel_rfl)) (by rfl) ?_
 refine WL.nil ?_
 refine En.cond (b := false) (by kernel_rfl) (fun hb => ?_) (fun hb => ?_)
 ·cases hb
 ·refine En.seq ?_
  refine En.region ?_
  refine WL.val hn (by rfl) (val_assert (cs := [.int .i64 code, .int .i64 at_]) rfl (by rfl) rfl (by simp [cellV]) (fun w => by kernel_rfl)) (by rfl) ?_
  refine WL.run ht hn 2 ⟨[(0, .sv (.one (.pptr 0 0 (Bk 0)))), (1, .sv (.one (.pptr 1 0 (Bk 1)))), (5, .sv (.one (.v (.iface 265 (.agg #[.int .i64 code, .int .i64 at_]))))), (9, .sv (.one (B true))), (10, .sv (.agg [I code, I at_]))], [.box [.rd r0] 152 false, .box [I c0, I a0] 63 false]⟩ (by kernel_rfl) ?_
  refine WL.nil ?_
  refine En.cond (b := true) (by kernel_rfl) (fun hb => ?_) (fun hb => ?_)
  ·refine En.seq ?_
   refine En.region ?_
   refine WL.run ht hn 2 ⟨[(0, .sv (.one (.pptr 0 0 (Bk 0)))), (1, .sv (.one (.pptr 1 0 (Bk 1)))), (3, .sv (.one (.ptr 2 0)))], [.box [.rd r0] 152 false, .box [I c0, I a0] 63 false, .box [I code, I at_] 265 false]⟩ (by kernel_rfl) ?_
   refine WL.nil ?_
   refine En.regionA ⟨[(0, .sv (.one (.pptr 0 0 (Bk 0)))), (1, .sv (.one (.pptr 1 0 (Bk 1)))), (3, .sv (.one (.ptr 2 0)))], [.sv (.one (.ptr 2 0)), .sv (.agg [I code, I at_]), .tup [], .tup []], [⟨.box [.rd r0] 152 false, none, none, some (2, .box [.v (.pointer none)] 152 false)⟩, ⟨.box [I c0, I a0] 63 false, none, none, some (3, .box [I code, I at_] 63 false)⟩, ⟨.box [I code, I at_] 265 false, none, none, none⟩]⟩ ⟨[(0, .sv (.one (.pptr 0 0 (Bk 0)))), (1, .sv (.one (.pptr 1 0 (Bk 1))))], [.box [.v (.pointer none)] 152 false, .box [I code, I at_] 63 false, .gone]⟩ (by kernel_rfl) hn (by kernel_rfl) (by rfl) (by kernel_rfl) ?_ (by kernel_rfl) ?_
   ·exact ⟨.mt ⟨[(3, .sv (.one (.ptr 2 0)))], []⟩ [] none (by kernel_rfl) (by rfl) (mt_ev ht (by kernel_rfl)) rfl rfl rfl rfl,
  .mt ⟨[(11, .sv (.one (.ptr 2 0)))], [.gone, .gone, .box [I code, I at_] 265 false]⟩ [] none (by kernel_rfl) (by rfl) (mt_ev ht (by kernel_rfl)) rfl rfl rfl rfl,
  .mu ⟨[(0, .sv (.one (.pptr 0 0 (Bk 0))))], [.box [.rd r0] 152 false]⟩ 0 _ _ rfl rfl (by kernel_rfl) (by rfl) (mu_store2 ht rfl (by rfl) (by rfl) (by rfl) (by rfl) (fun h => by cases h) (by rfl) (by rfl)) rfl rfl rfl rfl rfl rfl rfl,
  .mu ⟨[(1, .sv (.one (.pptr 1 0 (Bk 1)))), (12, .sv (.agg [I code, I at_]))], [.gone, .box [I c0, I a0] 63 false]⟩ 1 _ _ rfl rfl (by kernel_rfl) (by rfl) (mu_store2 ht rfl (by rfl) (by rfl) (by rfl) (by rfl) (fun h => by cases h) (by rfl) (by rfl)) rfl rfl rfl rfl rfl rfl rfl,
  trivial⟩
   ·refine En.boxTurn (.rd (optR rLab none)) 0 0 (by rfl) (by rfl) optNil ?_
    exact En.backE [0, 1] ht () trivial (by kernel_rfl) (by rfl) rfl
  ·cases hb
theorem regIdle (r0 : Rd) (c0 a0 : Int) : CtD 154 [.box [.rd r0] 152 false, .box [I c0, I a0] 63 false] [.box [.rd r0] 152 false, .box [I c0, I a0] 63 false] (.returning) (.returning) := by
 have ht := tab_ok
 refine CtD.body (pv := .nilIface) (d := 5) Try.func154 rfl rfl rfl (by kernel_rfl) (by kernel_rfl) (by kernel_rfl) rfl rfl rfl (fun c₀ cs hm => by simp [recoverD, hm]) trivial (fun c Bk hn => ?_)
 have h : True := trivial
 refine En.block ?_
 refine En.seq ?_
 refine En.region ?_
 refine WL.val hn (by rfl) (val_nilNil rfl (by rfl) (by rfl) (fun w => by kernel_rfl)) (by rfl) ?_
 refine WL.nil ?_
 refine En.cond (b := true) (by kernel_rfl) (fun hb => ?_) (fun hb => ?_)
 ·refine En.region ?_
  refine WL.run ht hn 1 ⟨[(0, .sv (.one (.pptr 0 0 (Bk 0)))), (1, .sv (.one (.pptr 1 0 (Bk 1))))], [.box [.rd r0] 152 false, .box [I c0, I a0] 63 false]⟩ (by kernel_rfl) ?_
  refine WL.nil ?_
  exact En.backE [0, 1] ht () trivial (by kernel_rfl) (by rfl) rfl
 ·cases hb
def rParsed_vc (text : ByteArray) (Q : (Option (Tr RLab) × ApiFault) → Prop) : Prop :=
 IfP (decide ((text.size : Int) > 4000)) (Q (none, ApiFault.mk 1 0)) ((rOk (text.size + 1) text 0 0) ∧
 ((pW text (text.size + 1) 0 0) = none → (∀ code at_ : Int, code ≠ 0 → Q (none, ApiFault.mk code at_))) ∧ ∀ r, (pW text (text.size + 1) 0 0) = some r →
 (IfP (decide ((r.2) < (text.size : Int))) (((4 : Int) ≠ 0) ∧
 (∀ code at_ : Int, code ≠ 0 → Q (none, ApiFault.mk code at_))) (Q ((some (r.1)), ApiFault.mk 0 0))))
theorem rParsed_walk (text : ByteArray) (Q : (Option (Tr RLab) × ApiFault) → Prop) (h : rParsed_vc text Q) : Ct 70 [.sv (.one (.v (.string text)))] [] Q (fun (r : (Option (Tr RLab) × ApiFault)) => .tup [.one (.rd (optR rLab r.1)), .agg [I r.2.fCode, I r.2.fAt]]) := by
 have ht := tab_ok
 refine Ct.bodyD Try.func70 rfl rfl rfl (fun c R hn hdf hR hpan => ?_)
 unfold rParsed_vc at h
 refine En.seq ?_
 refine En.region ?_
 refine WL.run ht hn 2 ⟨[sl 0 (.v (.string text)), sl 2 (.ptr 0 0), sl 3 (.ptr 1 0)], [.box [.v (.pointer none)] 152 false, .box [I 0, I 0] 63 false]⟩ (by kernel_rfl) ?_
 refine WL.nil ?_
 refine En.seq ?_
 refine En.seq ?_
 refine En.region ?_
 refine WL.run ht hn 1 ⟨[sl 0 (.v (.string text)), sl 2 (.ptr 0 0), sl 3 (.ptr 1 0), sl 5 (.v (.string text))], [.box [.v (.pointer none)] 152 false, .box [I 0, I 0] 63 false]⟩ (by kernel_rfl) ?_
 refine WL.val hn (by rfl) (val_lenS (s := text) rfl Try.underlying9 (by rfl)) (by rfl) ?_
 refine WL.run ht hn 1 ⟨[sl 0 (.v (.string text)), sl 2 (.ptr 0 0), sl 3 (.ptr 1 0), sl 7 (B (decide ((text.size : Int) > 4000)))], [.box [.v (.pointer none)] 152 false, .box [I 0, I 0] 63 false]⟩ (by kernel_rfl) ?_
 refine WL.nil ?_
 refine En.cond (b := (decide ((text.size : Int) > 4000))) (by kernel_rfl) (fun hb => ?_) (fun hb => ?_)
 replace h := h.1 hb
 refine En.seq ?_
 refine En.region ?_
 refine WL.run ht hn 3 ⟨[sl 2 (.ptr 0 0), sl 3 (.ptr 1 0)], [.box [.v (.pointer none)] 152 false, .box [I 1, I 0] 63 false]⟩ (by kernel_rfl) ?_
 refine WL.nil ?_
 refine En.ret ?_
 refine En.boxTurn (.rd (optR rLab none)) 0 0 (by rfl) (by rfl) optNil ?_
 exact En.backD0 ht rfl hR hdf (none, ApiFault.mk 1 0) h (by kernel_rfl) rfl
 replace h := h.2 hb
 refine En.skip ?_
 refine En.seq ?_
 refine En.region ?_
 refine WL.run ht hn 1 ⟨[sl 0 (.v (.string text)), sl 2 (.ptr 0 0), sl 3 (.ptr 1 0), sl 9 (.fn 154 [0, 1])], [.box [.v (.pointer none)] 152 false, .box [I 0, I 0] 63 false]⟩ (by kernel_rfl) ?_
 refine WL.defer (F := 154) (t0 := 2) (t1 := 3) (d := 9) (i := 0) (j := 1) (by rfl) rfl rfl (by rfl) (by rfl) (by rfl) hdf (fun c' Bk hn' hw0 hg0 hm0 hpn hdf => ?_)
 replace hR := hR_cast hw0 hg0 hm0 hR
 replace hpan := hpan_cast hpn hpan
 replace hn := hn'.trans hn
 clear hn' hw0 hg0 hm0
 refine WL.sub ⟨[sl 0 (.v (.string text)), sl 2 (.pptr 0 0 (Bk 0)), sl 3 (.pptr 1 0 (Bk 1)), sl 9 (.fn 154 [0, 1])], [.box [.v (.pointer none)] 152 false, .box [I 0, I 0] 63 false]⟩ (by kernel_rfl) ?_
 refine WL.boxTurn (.rd (optR rLab none)) 0 0 (by rfl) (by rfl) optNil ?_
 refine WL.nil ?_
 refine En.cfg hpn ?_
 refine En.seq ?_
 refine En.region ?_
 refine WL.run ht hn 4 ⟨[sl 0 (.v (.string text)), sl 2 (.pptr 0 0 (Bk 0)), sl 3 (.pptr 1 0 (Bk 1)), sl 4 (.ptr 2 0)], [.box [.rd (optR rLab none)] 152 false, .box [I 0, I 0] 63 false, .box [.v (.string text), I 0, I 0] 268 false]⟩ (by kernel_rfl) ?_
 refine WL.nil ?_
 refine En.seq ?_
 refine En.region ?_
 refine WL.run ht hn 1 ⟨[sl 0 (.v (.string text)), sl 2 (.pptr 0 0 (Bk 0)), sl 3 (.pptr 1 0 (Bk 1)), sl 4 (.ptr 2 0), sl 13 (.ptr 2 0)], [.box [.rd (optR rLab none)] 152 false, .box [I 0, I 0] 63 false, .box [.v (.string text), I 0, I 0] 268 false]⟩ (by kernel_rfl) ?_
 have hp := h.1
 replace h := h.2
 refine splitO ((pW text (text.size + 1) 0 0)) (fun hr_2 => ?_) (fun r hr_2 => ?_)
 exact WL.callX (wI_bad _ (regWhole _) text 0 0 hp hr_2) en155 (caps := []) [2] (by rfl) rfl (by rfl) (argsAs (by kernel_rfl) (by rfl)) (by kernel_rfl) (by decide) (leftD (ty := 265) 2 3 0 1 ht rfl hR hpan hdf (by rfl) (by rfl) (fun code at_ hc => regCatch (optR rLab none) 0 0 code at_ hc) en154 (by kernel_rfl) (by kernel_rfl) (by decide) (by rfl) (fun _ _ => by rfl) (fun _ _ => Nat.le_of_ble_eq_true rfl) (fun _ _ => by rfl) (fun _ _ => rfl) (fun code at_ => (none, ApiFault.mk code at_)) (fun code at_ hc => (h.1 hr_2) code at_ hc) (fun _ _ => by kernel_rfl) (fun _ _ => rfl))
 replace h := h.2 r hr_2
 refine WL.callE (wI_ok _ (regWhole _) text 0 0 hp r hr_2) en155 (caps := []) [2] hn (by rfl) rfl (by rfl) (argsAs (by kernel_rfl) (by rfl)) (by kernel_rfl) (by decide) (by rfl) (by rfl) (fun _ _ => ⟨by rfl, _, by rfl, ?_⟩)
 refine WL.run ht hn 1 ⟨[sl 0 (.v (.string text)), sl 2 (.pptr 0 0 (Bk 0)), sl 3 (.pptr 1 0 (Bk 1)), sl 4 (.ptr 2 0)], [.box [.rd (trR rLab (r.1))] 152 false, .box [I 0, I 0] 63 false, .box [.v (.string text), I (r.2), I 0] 268 false]⟩ (by kernel_rfl) ?_
 refine WL.nil ?_
 refine En.seq ?_
 refine En.seq ?_
 refine En.region ?_
 refine WL.run ht hn 5 ⟨[sl 2 (.pptr 0 0 (Bk 0)), sl 3 (.pptr 1 0 (Bk 1)), sl 4 (.ptr 2 0), sl 18 (I (r.2)), sl 19 (.v (.string text))], [.box [.rd (trR rLab (r.1))] 152 false, .box [I 0, I 0] 63 false, .box [.v (.string text), I (r.2), I 0] 268 false]⟩ (by kernel_rfl) ?_
 refine WL.val hn (by rfl) (val_lenS (s := text) rfl Try.underlying9 (by rfl)) (by rfl) ?_
 refine WL.run ht hn 1 ⟨[sl 2 (.pptr 0 0 (Bk 0)), sl 3 (.pptr 1 0 (Bk 1)), sl 4 (.ptr 2 0), sl 21 (B (decide ((r.2) < (text.size : Int))))], [.box [.rd (trR rLab (r.1))] 152 false, .box [I 0, I 0] 63 false, .box [.v (.string text), I (r.2), I 0] 268 false]⟩ (by kernel_rfl) ?_
 refine WL.nil ?_
 refine En.cond (b := (decide ((r.2) < (text.size : Int)))) (by kernel_rfl) (fun hb => ?_) (fun hb => ?_)
 replace h := h.1 hb
 refine En.region ?_
 refine WL.run ht hn 1 ⟨[sl 2 (.pptr 0 0 (Bk 0)), sl 3 (.pptr 1 0 (Bk 1)), sl 22 (.ptr 2 0)], [.box [.rd (trR rLab (r.1))] 152 false, .box [I 0, I 0] 63 false, .box [.v (.string text), I (r.2), I 0] 268 false]⟩ (by kernel_rfl) ?_
 have hp := h.1
 replace h := h.2
 exact WL.callX (rFail_ct text (r.2) 0 4 hp) en156 (caps := []) [2] (by rfl) rfl (by rfl) (argsAs (by kernel_rfl) (by rfl)) (by kernel_rfl) (by decide) (leftD (ty := 265) 2 3 0 1 ht rfl hR hpan hdf (by rfl) (by rfl) (fun code at_ hc => regCatch (trR rLab (r.1)) 0 0 code at_ hc) en154 (by kernel_rfl) (by kernel_rfl) (by decide) (by rfl) (fun _ _ => by rfl) (fun _ _ => Nat.le_of_ble_eq_true rfl) (fun _ _ => by rfl) (fun _ _ => rfl) (fun code at_ => (none, ApiFault.mk code at_)) (fun code at_ hc => h code at_ hc) (fun _ _ => by kernel_rfl) (fun _ _ => rfl))
 replace h := h.2 hb
 refine En.skip ?_
 refine En.seq ?_
 refine En.region ?_
 refine WL.run ht hn 4 ⟨[sl 2 (.pptr 0 0 (Bk 0)), sl 3 (.pptr 1 0 (Bk 1))], [.box [.rd (trR rLab (r.1))] 152 false, .box [I 0, I 0] 63 false, .gone]⟩ (by kernel_rfl) ?_
 refine WL.nil ?_
 refine En.ret ?_
 refine En.boxTurn (.rd (optR rLab (some (r.1)))) 0 0 (by rfl) (by rfl) optSome ?_
 exact En.backD 2 3 0 1 ht rfl hR hdf (by rfl) (by rfl) (regIdle (optR rLab (some (r.1))) 0 0) en154 (by kernel_rfl) (by decide) (by rfl) (by rfl) (Nat.le_of_ble_eq_true rfl) (by rfl) rfl ((some (r.1)), ApiFault.mk 0 0) h (by kernel_rfl) rfl
theorem en70 : ∀ args w, (callFunc 70 args).run Try.prog w = .ok (.enter 70 args) w := enters_of Try.func70 (by kernel_rfl) rfl
end Go.Proofs.Ytapnmjeadbhffaa


namespace Go.Proofs.Ytapnmjeadbhffaa
open Go.RowKit Go.MapKept
set_option linter.unusedSimpArgs false
set_option linter.unusedVariables false
set_option maxRecDepth 100000
theorem gpart_cons {v : Value} {l : List Value} {k : Nat} : gpart (.tuple (v :: l).toArray) (k + 1) = l.getD k undef := rfl
section
variable {c : Cfg} {S S1 : St} {a : Act} {w : World} {g : Gh} {hs : Nat → Value} {tab : Tab} {n : Nat} {o : Oper} {ops : Array Oper} {rest L0 : List Oper} {N : Po}
theorem mt_appendG {α : Type} {T : Ty α} {L : List (List α)} {m i p ty : Nat} {x y : Operand} {t e : Nat} {ti te : TI} (ht : tab.ok) (ho : o.op = .call ⟨.builtin .append, #[x, y], #[t, t]⟩) (h1 : tab t = some ti) (h2 : ti.sl = some e) (h3 : tab e = some te) (h4 : te.size = 1)
  (hx : evX S.F x = some (.sv (.one (.gs i 0)))) (hm : S.M[i]? = some (gridI e ty T L)) (hsrc : SrcOk c S y nilT (List.replicate m ())) (hb : (L.length + m) * te.bytes ≤ 140737488355328) (hb2 : L.length + m ≤ 140737488355328) : MT c S o (.sv (.one (.gs p 0))) [i] (some (p, gridI e ty T (L ++ List.replicate m []))) := fun a w g hs h N Z hN => by
 have hu := slT_some ((ht t ti h1).sl.trans h2)
 have hv : a.eval x = gpart (hs i) 0 := (evX_ok h hx).1
 obtain ⟨us, ocs, u1, u2, u3, u3', u4, u4', _, u5⟩ := h.items i _ hm
 obtain ⟨cs', r3, r4⟩ := hsrc a w g hs h
 have := nil_cells r4
 subst this
 rw [List.length_replicate] at r3
 have hn1 : nilT.s = 1 := rfl
 rw [hn1, ← h4] at r3
 rw [List.length_map] at u2 u3
 rw [← h4] at u3
 obtain ⟨v', w', k1, k2, k3, k4⟩ := run_append_src (ty := o.type) (ti := ti) hu (ht e te h3) (by rw [h4]; decide) u3 r3 (by simp only [maxLen]; omega) hb
 unfold Oper.wp
 have hrun : (execOp a.eval o).run Try.prog w = .ok (.value v') w' := by
  have : execOp a.eval o = (do pure (.value (← Builtin.append_ #[t, t] o.type #[a.eval x, a.eval y])) : Sem Next) := by
   unfold execOp
   rw [ho]
   simp [resolve, invoke, builtin]
  rw [this, hv]
  exact run_valW k1
 rw [hrun]
 have hsl := ownsRow_slice u3
 have hsl' := ownsRow_slice k2
 have hlo : ocs.length = L.length := by have := u3.1; rw [h4] at this; omega
 have hBi : ∀ b, (gpart (hs i) 0).ownBlock = some b → Blk (hs i) b := fun b hb => Blk.part u1 (by omega) (ownBlock_blk' hb)
 have hbi : ∀ b, (gpart (hs i) 0).ownBlock = some b → g b = none := fun b hb => ((h.mine i _ hm (by simp) b (hBi b hb)).2 rfl).2
 have hgq : ∀ q, q < L.length → us[q + 1]? = some (gpart (hs i) (q + 1)) := fun q hq => by
  rw [u1]
  show us[q + 1]? = some (us.getD (q + 1) undef)
  have : q + 1 < us.length := by omega
  simp [this]
 -- the new value
 let ns : List Value := us.drop 1 ++ List.replicate m (.slice none 0 0)
 have hnl : ns.length = L.length + m := by simp [ns]; omega
 have hnq : ∀ q, q < L.length → ns.getD q undef = gpart (hs i) (q + 1) := fun q hq => by
  have h1 : (us.drop 1)[q]? = some (gpart (hs i) (q + 1)) := by rw [List.getElem?_drop, Nat.add_comm]; exact hgq q hq
  have h2 : q < (us.drop 1).length := by simp; omega
  show (us.drop 1 ++ List.replicate m _).getD q undef = _
  rw [List.getD_eq_getElem?_getD, List.getElem?_append_left h2, h1]
  rfl
 have hnr : ∀ q, L.length ≤ q → q < L.length + m → ns.getD q undef = .slice none 0 0 := fun q hq hq2 => by
  have h2 : (us.drop 1).length = L.length := by simp; omega
  show (us.drop 1 ++ List.replicate m _).getD q undef = _
  rw [List.getD_eq_getElem?_getD, List.getElem?_append_right (by omega), h2, List.getElem?_replicate, if_pos (by omega)]
  rfl
 have hblk' : ∀ b, blk v' = some b → (gpart (hs i) 0).ownBlock = some b ∨ b = w.heap.size := fun b hb => by
  have e : v'.ownBlock = some b := by rw [← blk_slice hsl']; exact hb
  rcases k4 with e2 | e2
  ·left; rw [← e2]; exact e
  ·rw [e] at e2; cases e2; exact .inr rfl
 have hne : ∀ q, q < L.length → (gpart (hs i) (q + 1)).ownBlock = none ∨ (gpart (hs i) (q + 1)).ownBlock ≠ (gpart (hs i) 0).ownBlock := fun q hq => by
  cases hb : (gpart (hs i) (q + 1)).ownBlock with
  | none => exact .inl rfl
  | some b => exact .inr (fun e => u5 (q + 1) 0 b (by omega) (by omega) (by omega) (ownBlock_blk' hb) (ownBlock_blk' e.symm))
 refine hN v' w' g (.tuple (v' :: ns).toArray) ⟨k3.os, k3.tape, k3.output, k3.size, fun b hb hk => k3.block b hb (fun e => hk i (by simp) (hBi b e.symm)), Gh.le.refl g, fun b o e => .inl e, fun b o e => ?_⟩ ⟨?_, ?_⟩ ⟨⟨v' :: ns, ocs ++ List.replicate m (.slice none 0 0), rfl, ?_, ?_, fun u hu => ?_, fun q r n' hq => ?_, fun q hq => ?_, (fun p k e => by cases e), fun q q' b hq hq' hqq hb1 hb2' => ?_⟩, fun b hb => ?_⟩
 ·refine (k3.block b (h.base.pers.lt e) (fun e2 => ?_)).trans (h.base.pers b o e)
  rw [hbi b e2.symm] at e
  cases e
 ·show v' = gpart (if p = p then _ else hs p) 0
  rw [if_pos rfl]
  rfl
 ·obtain ⟨ao, m, cap, rfl⟩ := hsl'
  trivial
 ·simp [hnl]
 ·rw [List.length_map, List.length_append, List.length_replicate, ← h4]
  exact k2
 ·rcases List.mem_append.1 hu with hu | hu
  ·exact u3' u hu
  ·exact ⟨none, 0, 0, List.eq_of_mem_replicate hu⟩
 ·rw [List.getElem?_map] at hq
  cases hL : (L ++ List.replicate m [])[q]? with
  | none => rw [hL] at hq; cases hq
  | some l =>
   rw [hL] at hq
   simp only [Option.map_some, Option.some.injEq, Prod.mk.injEq] at hq
   obtain ⟨rfl, rfl⟩ := hq
   have hql := (List.getElem?_eq_some_iff.1 hL).1
   rw [List.length_append, List.length_replicate] at hql
   rw [gpart_cons]
   by_cases hlt : q < L.length
   ·rw [List.getElem?_append_left hlt] at hL
    obtain ⟨k5, cs2, k6, k7⟩ := u4 q (rowR T l) l.length (by rw [List.getElem?_map, hL]; rfl)
    rw [hnq q hlt]
    exact ⟨by rw [List.getElem?_append_left (by omega)]; exact k5, cs2, k6.kept k3 (hne q hlt), k7⟩
   ·rw [List.getElem?_append_right (by omega), List.getElem?_replicate, if_pos (by omega)] at hL
    cases hL
    rw [hnr q (by omega) hql]
    exact ⟨by rw [List.getElem?_append_right (by omega), List.getElem?_replicate, if_pos (by omega)], [], World.ownsAt_nil _ _ _, rowRead.nil⟩
 ·rw [List.getElem?_map] at hq
  cases hL : (L ++ List.replicate m [])[q]? <;> (rw [hL] at hq; simp at hq)
 ·simp only [List.length_cons, hnl] at hq hq'
  have key : ∀ q, q < L.length + m → ∀ b, blk (ns.getD q undef) = some b → q < L.length ∧ blk (gpart (hs i) (q + 1)) = some b := fun q hq b hb => by
   by_cases hlt : q < L.length
   ·rw [hnq q hlt] at hb
    exact ⟨hlt, hb⟩
   ·rw [hnr q (by omega) hq] at hb
    cases hb
  have k0 : ∀ q b, q < L.length + m → blk (ns.getD q undef) = some b → blk v' ≠ some b := fun q b hq hb e => by
   obtain ⟨hlt, hb'⟩ := key q hq b hb
   rcases hblk' b e with e2 | e2
   ·exact u5 (q + 1) 0 b (by omega) (by omega) (by omega) hb' (ownBlock_blk' e2)
   ·have := (h.mine i _ hm (by simp) b (Blk.part u1 (by omega) hb')).1
    omega
  cases q with
  | zero =>
   cases q' with
   | zero => exact hqq rfl
   | succ q' =>
    rw [gpart_cons] at hb2'
    exact k0 q' b (by omega) hb2' hb1
  | succ q =>
   rw [gpart_cons] at hb1
   cases q' with
   | zero => exact k0 q b (by omega) hb1 hb2'
   | succ q' =>
    rw [gpart_cons] at hb2'
    obtain ⟨l1, m1⟩ := key q (by omega) b hb1
    obtain ⟨l2, m2⟩ := key q' (by omega) b hb2'
    exact u5 (q + 1) (q' + 1) b (by omega) (by omega) (by omega) m1 m2
 ·have fresh : b = w.heap.size → b < w'.heap.size → g b = none := fun e _ => by
   cases hgb : g b with
   | none => rfl
   | some o => have := h.base.pers.lt hgb; omega
  obtain ⟨u, hu, hub⟩ := hb
  rcases List.mem_cons.1 hu with rfl | hu
  ·rcases hblk' b hub with e2 | e2
   ·obtain ⟨m1, m2⟩ := h.mine i _ hm (by simp) b (hBi b e2)
    exact ⟨Nat.lt_of_lt_of_le m1 k3.size, fun _ => (m2 rfl).2, .inr ⟨i, by simp, hBi b e2⟩⟩
   ·have hlt := (k2.lt b (by rw [← blk_slice hsl']; exact hub)).2
    exact ⟨hlt, fun _ => fresh e2 hlt, .inl (by omega)⟩
  ·rcases List.mem_append.1 hu with hu | hu
   ·have hBu : Blk (hs i) b := by
     rw [u1]
     exact ⟨u, List.mem_of_mem_drop hu, hub⟩
    obtain ⟨m1, m2⟩ := h.mine i _ hm (by simp) b hBu
    exact ⟨Nat.lt_of_lt_of_le m1 k3.size, fun _ => (m2 rfl).2, .inr ⟨i, by simp, hBu⟩⟩
   ·rw [List.eq_of_mem_replicate hu] at hub
    cases hub
theorem nilBoxG_ok {α : Type} {i j p e ty tb : Nat} {T : Ty α} {cells : List At} (hm : S.M[i]? = some (.box cells tb false)) (hj : cells[j]? = some (.v (.slice none 0 0))) (hp : (newM S.M [] (some (p, gridI e ty T [])))[i]? = some (.box cells tb false)) (hr : S.refsAll (fun i => !(Nat.beq i p)) = true) (hk : Ok' c S a w g hs) :
  ∃ hs', Ok' c ⟨S.F, (newM S.M [] (some (p, gridI e ty T []))).set i (.box (cells.set j (.gs p 0)) tb false)⟩ a w g hs' := by
 have he := hk.eff (K := []) (p := some (p, gridI e ty T [])) (h' := .tuple #[.slice none 0 0]) (Eff.refl hk.base) ⟨⟨[.slice none 0 0], [], rfl, rfl, World.ownsAt_nil _ _ _, fun u hu => by simp at hu, fun q r n hq => by simp at hq, fun q hq => by simp at hq, (fun p k e => by cases e), fun q q' b hq hq' hqq hb1 _ => by
  have : q = 0 := by simpa using hq
  subst this
  cases hb1⟩, fun b hb => by
  obtain ⟨u, hu, e⟩ := hb
  simp at hu
  subst hu
  cases e⟩ hr rfl
 refine ⟨_, he.retell (it' := .box (cells.set j (.gs p 0)) tb false) hp rfl rfl ?_⟩
 obtain ⟨b, cs, h1, h2, h3⟩ := he.items i _ hp
 refine ⟨b, cs, h1, oks_turn (fun u hu => ?_) j hj h2, h3⟩
 have : u = .slice none 0 0 := hu.1
 subst this
 refine ⟨?_, trivial⟩
 show _ = gpart (if p = p then _ else hs p) 0
 rw [if_pos rfl]
 rfl
theorem WL.nilBoxG {α : Type} {T : Ty α} {cells : List At} {tb : Nat} (i j p e ty : Nat) (hm : S.M[i]? = some (.box cells tb false)) (hj : cells[j]? = some (.v (.slice none 0 0))) (hp : (newM S.M [] (some (p, gridI e ty T ([] : List (List α)))))[i]? = some (.box cells tb false)) (hr : S.refsAll (fun i => !(Nat.beq i p)) = true)
  (h : WL c ops L0 ⟨S.F, (newM S.M [] (some (p, gridI e ty T []))).set i (.box (cells.set j (.gs p 0)) tb false)⟩ N) : WL c ops L0 S N := fun a w ⟨g, _, hk⟩ => by
 obtain ⟨hs', hk'⟩ := nilBoxG_ok hm hj hp hr hk
 exact h a w ⟨g, hs', hk'⟩
def At.subR (x : At) (i : Nat) : At := match x with
 | .gs j 0 => match Nat.beq j i with
  | true => .own i
  | false => .gs j 0
 | x => x
def SV.subR (s : SV) (i : Nat) : SV := match s with
 | .one x => .one (x.subR i)
 | .agg l => .agg (l.map (·.subR i))
def SC.subR (x : SC) (i : Nat) : SC := match x with
 | .sv s => .sv (s.subR i)
 | .tup l => .tup (l.map (·.subR i))
def Item.subR (it : Item) (i : Nat) : Item := match it with
 | .box cells ty fz => .box (cells.map (·.subR i)) ty fz
 | it => it
def At.onlyG (i : Nat) : At → Bool
 | .gs k q => !(Nat.beq k i) || Nat.beq q 0
 | x => x.refs.all fun k => !(Nat.beq k i)
def SV.onlyG (i : Nat) : SV → Bool
 | .one x => x.onlyG i
 | .agg l => l.all (·.onlyG i)
def SC.onlyG (i : Nat) : SC → Bool
 | .sv s => s.onlyG i
 | .tup l => l.all (·.onlyG i)
def Item.onlyG (i : Nat) : Item → Bool
 | .box cells _ _ => cells.all (·.onlyG i)
 | .iter k _ => !(Nat.beq k i)
 | .grid _ _ _ _ (some (_, k)) => !(Nat.beq k i)
 | _ => true
theorem At.subR_ok {g' : Gh} {hs' : Nat → Value} {i : Nat} (hg : Gh.le g g') (hi : hs' i = gpart (hs i) 0) (hk : ∀ k, k ≠ i → hs' k = hs k) {x : At} {u : Value} (ho : x.onlyG i = true) (h : x.ok g hs u) : (x.subR i).ok g' hs' u := by
 have gen : ∀ x : At, (x.refs.all fun k => !(Nat.beq k i)) = true → x.ok g hs u → x.ok g' hs' u := fun x hx h => At.ok_hs (fun k hk' => hk k (beq_ne (List.all_eq_true.1 hx k hk'))) (At.mono hg h)
 cases x with
 | gs k q =>
  obtain ⟨h1, h2⟩ := h
  have h1 : u = gpart (hs k) q := h1
  simp only [At.onlyG, Bool.or_eq_true] at ho
  by_cases e : k = i
  ·subst e
   have hq : q = 0 := by
    rcases ho with ho | ho
    ·exact absurd rfl (beq_ne ho)
    ·exact Nat.eq_of_beq_eq_true ho
   subst hq
   have : At.subR (.gs k 0) k = .own k := by simp [At.subR]
   rw [this]
   exact ⟨h1.trans hi.symm, h2⟩
  ·have : At.subR (.gs k q) i = .gs k q := by
    cases q with
    | zero =>
     have hb : Nat.beq k i = false := by
      cases hb : Nat.beq k i with
      | false => rfl
      | true => exact absurd (Nat.eq_of_beq_eq_true hb) e
     simp [At.subR, hb]
    | succ q => rfl
   rw [this]
   refine ⟨?_, h2⟩
   show u = gpart (hs' k) q
   rw [hk k e]
   exact h1
 | _ => exact gen _ ho h
theorem oks_subR {g' : Gh} {hs' : Nat → Value} {i : Nat} (hg : Gh.le g g') (hi : hs' i = gpart (hs i) 0) (hk : ∀ k, k ≠ i → hs' k = hs k) : ∀ {l : List At} {us : List Value}, l.all (·.onlyG i) = true → oks g hs l us → oks g' hs' (l.map (·.subR i)) us
 | [], [], _, _ => trivial
 | [], _ :: _, _, h => h.elim
 | _ :: _, [], _, h => h.elim
 | _ :: _, _ :: _, ho, h => by
  rw [List.all_cons, Bool.and_eq_true] at ho
  exact ⟨At.subR_ok hg hi hk ho.1 h.1, h.2.1, oks_subR hg hi hk ho.2 h.2.2⟩
theorem SV.subR_ok {g' : Gh} {hs' : Nat → Value} {i : Nat} (hg : Gh.le g g') (hi : hs' i = gpart (hs i) 0) (hk : ∀ k, k ≠ i → hs' k = hs k) {x : SV} {u : Value} (ho : x.onlyG i = true) (h : x.ok g hs u) : (x.subR i).ok g' hs' u := by
 cases x with
 | one a => exact At.subR_ok hg hi hk ho h
 | agg l =>
  obtain ⟨cs, h1, h2⟩ := h
  exact ⟨cs, h1, oks_subR hg hi hk ho h2⟩
theorem svs_subR {g' : Gh} {hs' : Nat → Value} {i : Nat} (hg : Gh.le g g') (hi : hs' i = gpart (hs i) 0) (hk : ∀ k, k ≠ i → hs' k = hs k) : ∀ {l : List SV} {us : List Value}, l.all (·.onlyG i) = true → SV.oks g hs l us → SV.oks g' hs' (l.map (·.subR i)) us
 | [], [], _, _ => trivial
 | [], _ :: _, _, h => h.elim
 | _ :: _, [], _, h => h.elim
 | _ :: _, _ :: _, ho, h => by
  rw [List.all_cons, Bool.and_eq_true] at ho
  exact ⟨SV.subR_ok hg hi hk ho.1 h.1, svs_subR hg hi hk ho.2 h.2⟩
theorem SC.subR_ok {g' : Gh} {hs' : Nat → Value} {i : Nat} (hg : Gh.le g g') (hi : hs' i = gpart (hs i) 0) (hk : ∀ k, k ≠ i → hs' k = hs k) {x : SC} {u : Value} (ho : x.onlyG i = true) (h : x.ok g hs u) : (x.subR i).ok g' hs' u := by
 cases x with
 | sv s => exact SV.subR_ok hg hi hk ho h
 | tup l =>
  obtain ⟨us, h1, h2⟩ := h
  exact ⟨us, h1, svs_subR hg hi hk ho h2⟩
theorem Ok'.sealRows {α : Type} {T : Ty α} {L : List (List α)} {tyo ty i : Nat} (h : Ok' c S a w g hs) (hm : S.M[i]? = some (gridI tyo ty T L)) (hF : S.F.all (fun x => x.2.onlyG i) = true) (hM : S.M.all (·.onlyG i) = true) : ∃ g' hs', Ok' c ⟨S.F.map fun x => (x.1, x.2.subR i), (S.M.map (·.subR i)).set i (rowI tyo (lsT T) L)⟩ a w g' hs' := by
 classical
 have hit := h.items i _ hm
 have hmine := h.mine i _ hm (by simp)
 have hil := (List.getElem?_eq_some_iff.1 hm).1
 obtain ⟨us, ocs, u1, u2, u3, u3', u4, u4', _, u5⟩ := hit
 rw [List.length_map] at u2 u3
 let In : Nat → Prop := fun b => ∃ k, k + 1 < us.length ∧ blk (gpart (hs i) (k + 1)) = some b
 have hInB : ∀ b, In b → Blk (hs i) b := fun b ⟨k, h1, h2⟩ => Blk.part u1 h1 h2
 let g' : Gh := fun x => if In x then w.heap[x]? else g x
 have hle : Gh.le g g' := fun x o e => by
  show (if In x then _ else g x) = some o
  by_cases hx : In x
  ·have := ((hmine x (hInB x hx)).2 rfl).2
   rw [this] at e
   cases e
  ·rw [if_neg hx]; exact e
 let hs' : Nat → Value := fun k => if k = i then gpart (hs i) 0 else hs k
 have hsi : hs' i = gpart (hs i) 0 := if_pos rfl
 have hsk : ∀ k, k ≠ i → hs' k = hs k := fun k hk => if_neg hk
 have hsl := own_slice u3
 have hB0 : ∀ b, Blk (hs' i) b → blk (gpart (hs i) 0) = some b := fun b hb => by
  rw [hsi] at hb
  obtain ⟨ao, cap, e⟩ := hsl
  rw [e] at hb ⊢
  exact hb
 have hB0' : ∀ b, Blk (hs' i) b → Blk (hs i) b := fun b hb => Blk.part u1 (by omega) (hB0 b hb)
 have hset : ∀ (k : Nat) (kt : Item), ((S.M.map (·.subR i)).set i (rowI tyo (lsT T) L))[k]? = some kt → (k = i ∧ kt = rowI tyo (lsT T) L) ∨ ∃ jt, k ≠ i ∧ S.M[k]? = some jt ∧ kt = jt.subR i ∧ kt.fz = jt.fz ∧ (kt ≠ .gone → jt ≠ .gone) := fun k kt hk => by
  rw [List.getElem?_set] at hk
  by_cases e : i = k
  ·rw [if_pos e] at hk
   split at hk
   ·simp at hk; exact .inl ⟨e.symm, hk.symm⟩
   ·cases hk
  ·rw [if_neg e, List.getElem?_map] at hk
   cases hj : S.M[k]? with
   | none => rw [hj] at hk; cases hk
   | some jt =>
    rw [hj] at hk
    simp at hk
    refine .inr ⟨jt, Ne.symm e, rfl, hk.symm, by rw [← hk]; cases jt <;> rfl, fun hn e => hn ?_⟩
    subst e
    exact hk.symm
 refine ⟨g', hs', h.size, h.defers, ⟨h.base.os, h.base.tape, h.base.output, h.base.grows, h.base.frame, h.base.ghle.trans hle, fun x o e => ?_, fun x o e => ?_⟩, fun t x hx => ?_, fun k kt hk => ?_, fun k l kt lt hkl hk hl hf hn b hb => ?_, fun k kt hk hn b hb => ?_⟩
 ·by_cases hx : In x
  ·exact .inr ((hmine x (hInB x hx)).2 rfl).1
  ·rw [show g' x = g x from if_neg hx] at e
   exact h.base.ghnew x o e
 ·by_cases hx : In x
  ·rw [show g' x = w.heap[x]? from if_pos hx] at e
   exact e
  ·rw [show g' x = g x from if_neg hx] at e
   exact h.base.pers x o e
 ·obtain ⟨y, hy, e⟩ := List.mem_map.1 hx
  cases e
  exact SC.subR_ok hle hsi hsk (List.all_eq_true.1 hF y hy) (h.slots _ _ hy)
 ·rcases hset k kt hk with ⟨rfl, rfl⟩ | ⟨jt, h1, h2, rfl, _, _⟩
  ·rw [hsi]
   have hlo : ocs.length = L.length := by have := u3.1; omega
   refine ⟨ocs, u3, ⟨ocs, ?_, hlo, fun q u l hu hl => ?_⟩⟩
   ·have : ∀ l : List Value, (∀ u ∈ l, ∃ ao m cap, u = Value.slice ao m cap) → l = l.flatMap fun u => u.cells.toList := fun l => by
     induction l with
     | nil => intro _; rfl
     | cons u l ih =>
      intro hc
      obtain ⟨ao, m, cp, e⟩ := hc u List.mem_cons_self
      rw [List.flatMap_cons, ← ih fun x hx => hc x (List.mem_cons_of_mem _ hx), e]
      rfl
    exact this _ u3'
   ·obtain ⟨k5, cs, k6, k7⟩ := u4 q (rowR T l) l.length (by rw [List.getElem?_map, hl]; rfl)
    rw [hu] at k5
    have k5 : u = gpart (hs k) (q + 1) := Option.some.inj k5
    have hql := (List.getElem?_eq_some_iff.1 hl).1
    obtain ⟨ao, m, cp, e⟩ := u3' u (List.mem_of_getElem? hu)
    refine ⟨?_, by rw [e]; rfl⟩
    rw [k5]
    have := row_LS (g' := g') (hs := hs0) k6 k7 hle (fun b hb => if_pos ⟨q, by omega, ownBlock_blk' hb⟩)
    exact this
  ·by_cases hn : jt = .gone
   ·subst hn; trivial
   ·rw [hsk k h1]
    have hall := List.all_eq_true.1 hM jt (List.mem_of_getElem? h2)
    have h3 := h.items k jt h2
    cases jt with
    | box cells ty fz =>
     obtain ⟨b, cs, k1, k2, k3, k4⟩ := h3
     exact ⟨b, cs, k1, oks_subR hle hsi hsk hall k2, k3, fun e => hle _ _ (k4 e)⟩
    | iter j r =>
     obtain ⟨rb, m, clock, seen, k1, k2, k3⟩ := h3
     exact ⟨rb, m, clock, seen, k1, (hsk j (beq_ne hall)).trans k2, k3⟩
    | grid tyo' ty' s' rows' link' =>
     have h4 := Item.mono hle h3
     obtain ⟨vs, ocs', v1, v2, v3, v4, v5, v6, v7, v8⟩ := h4
     refine ⟨vs, ocs', v1, v2, v3, v4, v5, v6, fun p k hl => ?_, v8⟩
     subst hl
     rw [hsk k (beq_ne hall)]
     exact v7 p k rfl
    | _ => exact Item.mono hle h3
 ·rcases hset k kt hk with ⟨rfl, rfl⟩ | ⟨jt, h1, h2, rfl, h3, h4⟩
  ·rcases hset l lt hl with ⟨rfl, rfl⟩ | ⟨jt, l1, l2, rfl, l3, l4⟩
   ·exact absurd rfl hkl
   ·rw [hsk l l1]
    exact h.sep k l _ jt hkl hm l2 rfl (l4 hn) b (hB0' b hb)
  ·rw [hsk k h1] at hb
   rw [h3] at hf
   rcases hset l lt hl with ⟨rfl, rfl⟩ | ⟨jt', l1, l2, rfl, l3, l4⟩
   ·exact fun e => h.sep k l jt _ hkl h2 hm hf (by simp) b hb (hB0' b e)
   ·rw [hsk l l1]
    exact h.sep k l jt jt' hkl h2 l2 hf (l4 hn) b hb
 ·rcases hset k kt hk with ⟨rfl, rfl⟩ | ⟨jt, h1, h2, rfl, h3, h4⟩
  ·obtain ⟨m1, m2⟩ := h.mine k _ hm (by simp) b (hB0' b hb)
   refine ⟨m1, fun _ => ⟨(m2 rfl).1, ?_⟩⟩
   have hni : ¬ In b := fun ⟨q, q1, q2⟩ => u5 0 (q + 1) b (by omega) q1 (by omega) (hB0 b hb) q2
   rw [show g' b = g b from if_neg hni]
   exact (m2 rfl).2
  ·rw [hsk k h1] at hb
   obtain ⟨m1, m2⟩ := h.mine k jt h2 (h4 hn) b hb
   refine ⟨m1, fun hf => ?_⟩
   rw [h3] at hf
   refine ⟨(m2 hf).1, ?_⟩
   have hni : ¬ In b := fun hb2 => h.sep k i jt _ h1 h2 hm hf (by simp) b hb (hInB b hb2)
   rw [show g' b = g b from if_neg hni]
   exact (m2 hf).2
theorem WL.sealRows {α : Type} {T : Ty α} {L : List (List α)} {tyo ty : Nat} (i : Nat) (hm : S.M[i]? = some (gridI tyo ty T L)) (hF : S.F.all (fun x => x.2.onlyG i) = true) (hM : S.M.all (·.onlyG i) = true) (h : WL c ops L0 ⟨S.F.map fun x => (x.1, x.2.subR i), (S.M.map (·.subR i)).set i (rowI tyo (lsT T) L)⟩ N) : WL c ops L0 S N := fun a w ⟨g, hs, hk⟩ => by
 obtain ⟨g', hs', hk'⟩ := hk.sealRows hm hF hM
 exact h a w ⟨g', hs', hk'⟩
end
end Go.Proofs.Ytapnmjeadbhffaa


namespace Go.Proofs.Ytapnmjeadbhffaa
open Go.RowKit Go.MapKept
set_option linter.unusedSimpArgs false
set_option linter.unusedVariables false
set_option maxRecDepth 100000
theorem letsOut_any {c : Cfg} {N Z : Po} (h : LetsOut (OnlyP c N)) : LetsOut (OnlyP c Z) := by
 obtain ⟨a, w, h⟩ := h
 exact h.elim
theorem wp_anyN {c : Cfg} {o : Oper} {a : Act} {w : World} {K N Z : Po} (hh : o.wp Try.prog a w K (OnlyP c N)) : o.wp Try.prog a w K (OnlyP c Z) := by
 unfold Oper.wp at *
 generalize (execOp a.eval o).run Try.prog w = r at *
 cases r with
 | ok n w' =>
  cases n <;> simp only [Oper.upon] at hh ⊢ <;>
   first
    | exact hh
    | exact Calls.mono hh (fun e w'' he => by cases e <;> first | exact he | exact letsOut_any he)
 | halt x w' => cases x <;> simp only [Oper.upon] at hh ⊢ <;> exact hh
section
variable {c : Cfg} {l : List Oper} {N : Po} {S : St} {fuel : Nat} {listed : Array Bool}
def RD (c : Cfg) (l : List Oper) (N : Po) (fuel : Nat) (listed : Array Bool) (S : St) : Prop := ∀ a w, Ok c S a w → wpAny Try.prog .any l.toArray (OnlyP c N) fuel listed a w
theorem RD.nil (hr : Region.ready .any l.toArray listed = []) (h : En c S N) : RD c l N 0 listed S := fun a w hk => ⟨hr, h a w hk⟩
def RDs (c : Cfg) (l : List Oper) (N : Po) (fuel : Nat) (listed : Array Bool) (S : St) : List Nat → Prop
 | [] => True
 | i :: r => (∃ (o : Oper) (S' : St) (L' : Array Bool), l[i]? = some o ∧ WL c l.toArray [o] S (fun a w => Ok c S' a w) ∧ listed.setIfInBounds i true = L' ∧ RD c l N fuel L' S') ∧ RDs c l N fuel listed S r
theorem RDs.get : ∀ {is : List Nat}, RDs c l N fuel listed S is → ∀ i ∈ is, ∃ (o : Oper) (S' : St), l[i]? = some o ∧ WL c l.toArray [o] S (fun a w => Ok c S' a w) ∧ RD c l N fuel (listed.setIfInBounds i true) S'
 | j :: r, h, i, hi => by
  rcases List.mem_cons.1 hi with e | hi
  ·subst e
   obtain ⟨o, S', L', h1, h2, h3, h4⟩ := h.1
   subst h3
   exact ⟨o, S', h1, h2, h4⟩
  ·exact RDs.get h.2 i hi
theorem RD.succ (is : List Nat) (hr : Region.ready .any l.toArray listed = is) (hne : is.isEmpty = false) (h : RDs c l N fuel listed S is) : RD c l N (fuel + 1) listed S := fun a w hk => by
 refine ⟨fun e => ?_, fun i hi => ?_⟩
 ·rw [hr] at e
  subst e
  cases hne
 ·rw [hr] at hi
  obtain ⟨o, S', ho, hw, hd⟩ := RDs.get h i hi
  have hw := hw a w hk
  have ho' : l.toArray[i]? = some o := by simpa using ho
  unfold wpOp
  rw [ho']
  simp only
  unfold wpList at hw
  split
  ·rename_i hwant
   rw [if_pos hwant] at hw
   rcases hw with hw | hw
   ·exact .inl (wp_anyN (Oper.wp_mono (fun a' w' h' => hd a' w' h') hw))
   ·exact .inr ⟨hw.1, letsOut_any hw.2⟩
  ·rename_i hwant
   rw [if_neg hwant] at hw
   exact hd _ _ hw
theorem RD.have {N : Po} {f : Nat} {L : Array Bool} (f' : Nat) (L' : Array Bool) (S' : St) (h1 : RD c l N f' L' S') (h2 : RD c l N f' L' S' → RD c l N f L S) : RD c l N f L S := h2 h1
theorem RD.start {f : Nat} {L : Array Bool} {S' : St} (h : RD c l N f L S') (hf : f = l.length) (hL : L = Array.replicate l.length false) (hs : ∀ a w, Ok c S a w → Ok c S' a w) : RD c l N l.length (Array.replicate l.length false) S := by
 subst hf
 subst hL
 exact fun a w hk => h a w (hs a w hk)
theorem WL.nilI {ops : Array Oper} : WL c ops [] S (fun a w => Ok c S a w) := fun _ _ hk => hk
theorem En.regionD {id : Nat} {E : List (Nat × Po)} {R : Po} (fin : St) (hm : Try.prog.follows .mixedOrders = true) (h : ∀ N : Po, En c fin N → RD c l N l.length (Array.replicate l.length false) S) (hN : En c fin N) : En c S (cwp (.region id l.toArray true) (PQ c N E R)) := fun a w ⟨g, hs', hok⟩ => by
 have hok1 : Ok' c S a w.drew g hs' := hok.grown (grown_drew w)
 refine Code.wp_mono (fun e a w q => ?_) (wp_region_any (Q := OnlyP c N) hm ?_)
 ·cases e <;> first | exact q | exact (q : False).elim
 ·have := h N hN a w.drew ⟨g, hs', hok1⟩
  simpa using this
end
section
variable {c : Cfg} {S : St}
theorem pe_of {i ty : Nat} {cells : List At} {k : Nat} (hm : S.M[i]? = some (.box cells ty true)) (hrefs : cells.flatMap At.refs = []) (hk : cells.length = k) : ∀ a w g hs, Ok' c S a w g hs → ∀ u, SC.ok g hs (.sv (.one (.ptr i 0))) u → SC.ok g hs (.sv (.one (.pe (svR (.agg cells)) k))) u := fun a w g hs h u hu => by
 obtain ⟨⟨b, h1, rfl⟩, _⟩ := hu
 obtain ⟨b', cs, h2, h3, h4, h5⟩ := h.items i _ hm
 rw [h1] at h2
 simp at h2
 subst h2
 have hg := h5 rfl
 refine ⟨⟨b, 0, .agg cs.toArray, rfl, ⟨cs, rfl, oks_hs (fun i hi => by rw [hrefs] at hi; cases hi) h3⟩, ?_, fun j c hj => ?_⟩, trivial⟩
 ·have := oks_length h3
  simp [Value.cells, ← this, hk]
 ·unfold Gh.cell
  rw [hg]
  simpa [Value.cells] using hj
end
end Go.Proofs.Ytapnmjeadbhffaa


namespace Go.Proofs.Ytapnmjeadbhffaa
open Go.RowKit Go.MapKept
set_option linter.unusedSimpArgs false
set_option linter.unusedVariables false
set_option maxRecDepth 100000
def rTie_vc (lets : (List Int)) (nxt : (List (List Int))) (la : (List Int)) (fi : (List Int)) (Q : (List Int) × (List (List Int)) → Prop) : Prop :=
 la.length ≤ 9223372036854775807 →
 fi.length ≤ 9223372036854775807 →
 (∃ (Inv : Int → (List (List Int)) → Prop) (mu : Int → (List (List Int)) → Nat), Inv 0 nxt ∧
 ∀ (x10 : Int) (g2 : (List (List Int))) , Inv x10 g2 → (IfP (decide (x10 < (la.length : Int))) (∃ e, idx la x10 = some e ∧
 ∃ e_2, idx g2 e = some e_2 ∧
 ∃ e_3, idx g2 e = some e_3 ∧
 capOk e_2.length (fi : (List Int)).length 8 ∧
 ∃ e_4, idx g2 e = some e_4 ∧
 (Inv (wr (x10 + 1)) (g2.set (e).toNat (e_2 ++ fi)) ∧ mu (wr (x10 + 1)) (g2.set (e).toNat (e_2 ++ fi)) < mu x10 g2)) (Q (lets, g2))))
theorem rTie_walk (lets : (List Int)) (nxt : (List (List Int))) (la : (List Int)) (fi : (List Int)) (Q : (List Int) × (List (List Int)) → Prop) (h : rTie_vc lets nxt la fi Q) : CtE 212 [.sv (.one (.ptr 0 0)), .sv (.one (LS intT la)), .sv (.one (LS intT fi))] [.box [.own 1, .gs 2 0] 161 false, rowI 3 intT lets, gridI 23 3 intT nxt] [0] Q (fun (r : (List Int) × (List (List Int))) => .tup []) (fun (r : (List Int) × (List (List Int))) => [.box [.own 1, .gs 2 0] 161 false, rowI 3 intT r.1, gridI 23 3 intT r.2]) := by
 have ht := tab_ok
 refine CtE.body Try.func212 rfl rfl rfl (by kernel_rfl) (by kernel_rfl) (fun c Bk hn => ?_)
 unfold rTie_vc at h
 show En c ⟨[sl 0 (.pptr 0 0 (Bk 0)), sl 1 (LS intT la), sl 2 (LS intT fi)], [.box [.own 1, .gs 2 0] 161 false, rowI 3 intT lets, gridI 23 3 intT nxt]⟩ _
 refine En.lenL 1 (by rfl) (fun hl => ?_)
 replace h := h hl
 clear hl
 refine En.lenL 2 (by rfl) (fun hl => ?_)
 replace h := h hl
 clear hl
 refine En.seq ?_
 refine En.region ?_
 refine WL.run ht hn 3 ⟨[sl 0 (.pptr 0 0 (Bk 0)), sl 2 (LS intT fi), sl 8 (LS intT la), sl 9 (I (la.length : Int)), sl 10 (I 0)], [.box [.own 1, .gs 2 0] 161 false, rowI 3 intT lets, gridI 23 3 intT nxt]⟩ (by kernel_rfl) ?_
 refine WL.nil ?_
 refine En.block ?_
 obtain ⟨Inv, mu, h0, hI⟩ := h
 refine En.loop (σ := Int × (List (List Int))) (fun zz => Inv zz.1 zz.2) (fun zz => mu zz.1 zz.2) (fun zz => ⟨[sl 0 (.pptr 0 0 (Bk 0)), sl 2 (LS intT fi), sl 8 (LS intT la), sl 9 (I (la.length : Int)), sl 10 (I zz.1)], [.box [.own 1, .gs 2 0] 161 false, rowI 3 intT lets, gridI 23 3 intT zz.2]⟩) (0, nxt) h0 (sub_ok (by kernel_rfl)) ?_
 rintro ⟨x10, g2⟩ h
 replace h := hI _ _ h
 show En c ⟨[sl 0 (.pptr 0 0 (Bk 0)), sl 2 (LS intT fi), sl 8 (LS intT la), sl 9 (I (la.length : Int)), sl 10 (I x10)], [.box [.own 1, .gs 2 0] 161 false, rowI 3 intT lets, gridI 23 3 intT g2]⟩ _
 refine En.seq ?_
 refine En.region ?_
 refine WL.run ht hn 1 ⟨[sl 0 (.pptr 0 0 (Bk 0)), sl 2 (LS intT fi), sl 8 (LS intT la), sl 9 (I (la.length : Int)), sl 10 (I x10), sl 11 (B (decide (x10 < (la.length : Int))))], [.box [.own 1, .gs 2 0] 161 false, rowI 3 intT lets, gridI 23 3 intT g2]⟩ (by kernel_rfl) ?_
 refine WL.nil ?_
 refine En.seq ?_
 refine En.cond (b := (decide (x10 < (la.length : Int)))) (by kernel_rfl) (fun hb => ?_) (fun hb => ?_)
 replace h := h.1 hb
 refine En.skip ?_
 refine En.seq ?_
 refine En.block ?_
 refine En.seq ?_
 refine En.region ?_
 obtain ⟨e, he, h⟩ := h
 refine WL.val hn (by rfl) (val_index (T := intT) (l := la) (i := x10) ht rfl (by rfl) (by rfl) (by rfl) (by rfl) (by rfl) (by rfl) he) (by rfl) ?_
 refine WL.val hn (by rfl) (val_load (s := .one (I e)) ht rfl (by rfl) (by rfl) (by rfl) (by rfl) (by rfl)) (by rfl) ?_
 refine WL.run ht hn 1 ⟨[sl 0 (.pptr 0 0 (Bk 0)), sl 2 (LS intT fi), sl 7 (I e), sl 8 (LS intT la), sl 9 (I (la.length : Int)), sl 10 (I x10)], [.box [.own 1, .gs 2 0] 161 false, rowI 3 intT lets, gridI 23 3 intT g2]⟩ (by kernel_rfl) ?_
 refine WL.nil ?_
 obtain ⟨e_2, he_2, h⟩ := h
 refine En.takeGL (T := intT) (L := g2) (l := e_2) (i := 2) (p := (e).toNat) (j := 3) (by rfl) (idx_some he_2).2.2 (by rfl) (by rfl) ?_
 refine En.sub' ⟨[sl 0 (.pptr 0 0 (Bk 0)), sl 2 (LS intT fi), sl 7 (I e), sl 8 (LS intT la), sl 9 (I (la.length : Int)), sl 10 (I x10)], [.box [.own 1, .gs 2 0] 161 false, rowI 3 intT lets, gridH 23 3 intT g2 (e).toNat (some ((e).toNat, 3)), rowI 3 intT e_2]⟩ (by kernel_rfl) ?_
 obtain ⟨e_3, he_3, h⟩ := h
 have hp_2 := h.1
 replace h := h.2
 refine En.regionT ⟨[sl 0 (.pptr 0 0 (Bk 0)), sl 2 (LS intT fi), sl 7 (I e), sl 8 (LS intT la), sl 9 (I (la.length : Int)), sl 10 (I x10)], [.sv (.one (.ptr 0 0)), .sv (.one (.ptr 0 0)), .sv (.one (.ptr 0 1)), .sv (.one (.gs 2 0)), .sv (.one (I e)), .sv (.one (.ptr 0 0)), .sv (.one (.ptr 0 0)), .sv (.one (.ptr 0 1)), .sv (.one (.gs 2 0)), .sv (.one (I e)), .sv (.one (.ge 2 0 (e).toNat 1)), .sv (.one (.own 3)), .sv (.one (LS intT fi)), .sv (.one (.own 4))], [⟨.box [.own 1, .gs 2 0] 161 false, none, none, none⟩, ⟨rowI 3 intT lets, none, none, none⟩, ⟨gridH 23 3 intT g2 (e).toNat (some ((e).toNat, 3)), none, none, none⟩, ⟨rowI 3 intT e_2, none, some 13, none⟩, ⟨rowI 3 intT (e_2 ++ fi), some 13, none, none⟩]⟩ 14 ⟨[sl 0 (.pptr 0 0 (Bk 0)), sl 2 (LS intT fi), sl 8 (LS intT la), sl 9 (I (la.length : Int)), sl 10 (I x10), sl 17 (.gs 2 0), sl 18 (I e), sl 27 (.own 4)], [.box [.own 1, .gs 2 0] 161 false, rowI 3 intT lets, gridH 23 3 intT g2 (e).toNat (some ((e).toNat, 3)), .gone, rowI 3 intT (e_2 ++ fi)]⟩ (by kernel_rfl) hn (by kernel_rfl) (by kernel_rfl) (by kernel_rfl) (by rfl) (by kernel_rfl) ?_ (by kernel_rfl) ?_
 exact ⟨.mt ⟨[sl 0 (.pptr 0 0 (Bk 0))], []⟩ [] none (by kernel_rfl) (by rfl) (mt_ev ht (by kernel_rfl)) rfl rfl rfl rfl,
 .mt ⟨[sl 14 (.ptr 0 0)], []⟩ [] none (by kernel_rfl) (by rfl) (mt_ev ht (by kernel_rfl)) rfl rfl rfl rfl,
 .mt ⟨[sl 15 (.ptr 0 0)], []⟩ [] none (by kernel_rfl) (by rfl) (mt_ev ht (by kernel_rfl)) rfl rfl rfl rfl,
 .mt ⟨[sl 16 (.ptr 0 1)], [.box [.own 1, .gs 2 0] 161 false]⟩ [] none (by kernel_rfl) (by rfl) (mt_ev ht (by kernel_rfl)) rfl rfl rfl rfl,
 .mt ⟨[sl 7 (I e)], []⟩ [] none (by kernel_rfl) (by rfl) (mt_ev ht (by kernel_rfl)) rfl rfl rfl rfl,
 .mt ⟨[sl 0 (.pptr 0 0 (Bk 0))], []⟩ [] none (by kernel_rfl) (by rfl) (mt_ev ht (by kernel_rfl)) rfl rfl rfl rfl,
 .mt ⟨[sl 19 (.ptr 0 0)], []⟩ [] none (by kernel_rfl) (by rfl) (mt_ev ht (by kernel_rfl)) rfl rfl rfl rfl,
 .mt ⟨[sl 20 (.ptr 0 0)], []⟩ [] none (by kernel_rfl) (by rfl) (mt_ev ht (by kernel_rfl)) rfl rfl rfl rfl,
 .mt ⟨[sl 21 (.ptr 0 1)], [.box [.own 1, .gs 2 0] 161 false]⟩ [] none (by kernel_rfl) (by rfl) (mt_ev ht (by kernel_rfl)) rfl rfl rfl rfl,
 .mt ⟨[sl 7 (I e)], []⟩ [] none (by kernel_rfl) (by rfl) (mt_ev ht (by kernel_rfl)) rfl rfl rfl rfl,
 .mt ⟨[sl 22 (.gs 2 0), sl 23 (I e)], [.gone, .gone, gridH 23 3 intT g2 (e).toNat (some ((e).toNat, 3))]⟩ [] none (by kernel_rfl) (by rfl) (mt_val (val_indexGH (T := intT) (L := g2) (k := e) ht rfl (by rfl) (by rfl) (by rfl) (by rfl) (by rfl) (by rfl) (by rfl) ⟨(idx_some he_3).1, (idx_some he_3).2.1⟩)) rfl rfl rfl rfl,
 .mt ⟨[sl 24 (.ge 2 0 (e).toNat 1)], [.gone, .gone, gridH 23 3 intT g2 (e).toNat (some ((e).toNat, 3))]⟩ [] none (by kernel_rfl) (by rfl) (mt_val (val_loadGH (T := intT) (L := g2) (p := (e).toNat) (j := 3) ht rfl (by rfl) (by rfl) (by rfl) (by rfl))) rfl rfl rfl rfl,
 .mt ⟨[sl 2 (LS intT fi)], []⟩ [] none (by kernel_rfl) (by rfl) (mt_ev ht (by kernel_rfl)) rfl rfl rfl rfl,
 .mt ⟨[sl 25 (.own 3), sl 26 (LS intT fi)], [.gone, .gone, .gone, rowI 3 intT e_2]⟩ [3] (some 4) (by kernel_rfl) (by rfl) (mt_append (T := intT) (l := e_2) (es := fi) (p := 4) ht rfl (by rfl) (by rfl) (by rfl) (by rfl) (by decide) (by rfl) (by rfl) (srcLS (T := intT) (es := fi) (fun _ h => by cases h) (by decide) (by rfl)) (by exact hp_2) (by exact hp_2.le (by decide))) rfl rfl rfl rfl,
 trivial⟩
 obtain ⟨e_4, he_4, h⟩ := h
 refine WL.val hn (by rfl) (val_indexGH (T := intT) (L := g2) (k := e) ht rfl (by rfl) (by rfl) (by rfl) (by rfl) (by rfl) (by rfl) (by rfl) ⟨(idx_some he_4).1, (idx_some he_4).2.1⟩) (by rfl) ?_
 refine WL.putGH (T := intT) (L := g2) (l := (e_2 ++ fi)) ht hn (by rfl) rfl (by rfl) (by rfl) (by rfl) (by rfl) (by rfl) (by rfl) (idx_lt he_4) (by rfl) (by rfl) ?_
 refine WL.sub ⟨[sl 0 (.pptr 0 0 (Bk 0)), sl 2 (LS intT fi), sl 8 (LS intT la), sl 9 (I (la.length : Int)), sl 10 (I x10), sl 17 (.gs 2 0), sl 18 (I e)], [.box [.own 1, .gs 2 0] 161 false, rowI 3 intT lets, gridI 23 3 intT (g2.set (e).toNat (e_2 ++ fi)), .gone, .gone]⟩ (by kernel_rfl) ?_
 refine WL.nil ?_
 refine En.region ?_
 refine WL.run ht hn 2 ⟨[sl 0 (.pptr 0 0 (Bk 0)), sl 2 (LS intT fi), sl 8 (LS intT la), sl 9 (I (la.length : Int)), sl 10 (I (wr (x10 + 1)))], [.box [.own 1, .gs 2 0] 161 false, rowI 3 intT lets, gridI 23 3 intT (g2.set (e).toNat (e_2 ++ fi)), .gone, .gone]⟩ (by kernel_rfl) ?_
 refine WL.nil ?_
 exact En.at (I := fun zz => Inv zz.1 zz.2 ∧ mu zz.1 zz.2 < mu x10 g2) (T := fun zz => ⟨[sl 0 (.pptr 0 0 (Bk 0)), sl 2 (LS intT fi), sl 8 (LS intT la), sl 9 (I (la.length : Int)), sl 10 (I zz.1)], [.box [.own 1, .gs 2 0] 161 false, rowI 3 intT lets, gridI 23 3 intT zz.2]⟩) ((wr (x10 + 1)), (g2.set (e).toNat (e_2 ++ fi))) h (by kernel_rfl)
 replace h := h.2 hb
 refine En.exit rfl ?_
 exact En.backE [0] ht (lets, g2) h (by kernel_rfl) (by rfl) rfl
theorem en212 : ∀ args w, (callFunc 212 args).run Try.prog w = .ok (.enter 212 args) w := enters_of Try.func212 (by kernel_rfl) rfl
def tieS : List Int → List Int → List (List Int) → Option (List (List Int))
 | [], _, nxt => some nxt
 | a :: la, fi, nxt => match idx nxt a with
  | none => none
  | some e => if (e.length + fi.length) * 8 ≤ 140737488355328 then tieS la fi (nxt.set a.toNat (e ++ fi)) else none
def tieR (la fi : List Int) (nxt : List (List Int)) : List (List Int) := (tieS la fi nxt).getD nxt
theorem wr_len {n : Nat} (h : n ≤ 9223372036854775807) {i : Nat} (hi : i < n) : wr ((i : Int) + 1) = ((i + 1 : Nat) : Int) := by
 rw [wr_in (by omega) (by omega)]
 rfl
theorem rTie_ct (lets : (List Int)) (nxt : (List (List Int))) (la : (List Int)) (fi : (List Int)) (hp : (tieS la fi nxt).isSome)  : CtE 212 [.sv (.one (.ptr 0 0)), .sv (.one (LS intT la)), .sv (.one (LS intT fi))] [.box [.own 1, .gs 2 0] 161 false, rowI 3 intT lets, gridI 23 3 intT nxt] [0] (fun (_ : Unit) => True) (fun _ => .tup []) (fun _ => [.box [.own 1, .gs 2 0] 161 false, rowI 3 intT (lets), gridI 23 3 intT (tieR la fi nxt)]) := by
 refine (rTie_walk lets nxt la fi (fun res_ => res_ = (lets, tieR la fi nxt)) ?_).imp (fun r hr => ⟨(), trivial, by subst hr; rfl, by subst hr; rfl⟩)
 unfold rTie_vc tieR
 intro hla hfi
 obtain ⟨R, hR⟩ := Option.isSome_iff_exists.1 hp
 rw [hR]
 refine ⟨fun i g => ∃ n : Nat, i = n ∧ n ≤ la.length ∧ tieS (la.drop n) fi g = some R, fun i _ => la.length - i.toNat, ⟨0, rfl, Nat.zero_le _, hR⟩, ?_⟩
 rintro _ g2 ⟨n, rfl, hn, he⟩
 refine ⟨fun hb => ?_, fun hb => ?_⟩
 ·have hlt : n < la.length := by have := of_decide_eq_true hb; omega
  rw [List.drop_eq_getElem_cons hlt, tieS] at he
  split at he
  ·cases he
  rename_i e hix
  split at he
  ·rename_i hc
   have hx : idx la (n : Int) = some la[n] := by simp [idx, hlt]
   refine ⟨_, hx, e, hix, e, hix, hc, e, hix, ⟨n + 1, wr_len hla hlt, hlt, he⟩, ?_⟩
   rw [wr_len hla hlt]
   show la.length - (n + 1) < la.length - n
   omega
  ·cases he
 ·have hge : la.length ≤ n := by have := of_decide_eq_false hb; omega
  rw [List.drop_eq_nil_of_le hge, tieS] at he
  cases he
  rfl
def rBhd_vc (lets : (List Int)) (nxt : (List (List Int))) (e1 : RegularEnds) (e2 : RegularEnds) (Q : RegularEnds × (List Int) × (List (List Int)) → Prop) : Prop :=
 e1.fFirst.length ≤ 9223372036854775807 →
 e1.fLast.length ≤ 9223372036854775807 →
 e2.fFirst.length ≤ 9223372036854775807 →
 e2.fLast.length ≤ 9223372036854775807 →
 (((tieS e1.fLast e2.fFirst nxt).isSome) ∧
 ∃ J : Bool → Prop, (IfP e1.fEmpty ((e1.fFirst.length * 8 ≤ 140737488355328) ∧
 (e2.fLast.length * 8 ≤ 140737488355328) ∧
 J e2.fEmpty) ((e1.fFirst.length * 8 ≤ 140737488355328) ∧
 (e2.fLast.length * 8 ≤ 140737488355328) ∧
 J false)) ∧
 (∀ (y80 : Bool), J y80 → ∃ J_2 : (List Int) → Prop, (IfP e1.fEmpty (capOk (e1.fFirst).length (e2.fFirst : (List Int)).length 8 ∧
 J_2 ((e1.fFirst) ++ e2.fFirst)) (J_2 (e1.fFirst))) ∧
 (∀ (l6 : (List Int)), J_2 l6 → ∃ J_3 : (List Int) → Prop, (IfP e2.fEmpty (capOk (e2.fLast).length (e1.fLast : (List Int)).length 8 ∧
 J_3 ((e2.fLast) ++ e1.fLast)) (J_3 (e2.fLast))) ∧
 (∀ (l7 : (List Int)), J_3 l7 → Q ((RegularEnds.mk y80 l6 l7), (lets), (tieR e1.fLast e2.fFirst nxt))))))
noncomputable abbrev qrBhd0 (e1 : RegularEnds) (e2 : RegularEnds) (nxt : (List (List Int))) := (tieR e1.fLast e2.fFirst nxt)
theorem rBhd_walk (lets : (List Int)) (nxt : (List (List Int))) (e1 : RegularEnds) (e2 : RegularEnds) (Q : RegularEnds × (List Int) × (List (List Int)) → Prop) (h : rBhd_vc lets nxt e1 e2 Q) : CtE 211 [.sv (.one (.ptr 0 0)), .sv (.agg [B e1.fEmpty, LS intT e1.fFirst, LS intT e1.fLast]), .sv (.agg [B e2.fEmpty, LS intT e2.fFirst, LS intT e2.fLast])] [.box [.own 1, .gs 2 0] 161 false, rowI 3 intT lets, gridI 23 3 intT nxt] [0] Q (fun (r : RegularEnds × (List Int) × (List (List Int))) => .sv (.agg [B r.1.fEmpty, LS intT r.1.fFirst, LS intT r.1.fLast])) (fun (r : RegularEnds × (List Int) × (List (List Int))) => [.box [.own 1, .gs 2 0] 161 false, rowI 3 intT r.2.1, gridI 23 3 intT r.2.2]) := by
 have ht := tab_ok
 refine CtE.body Try.func211 rfl rfl rfl (by kernel_rfl) (by kernel_rfl) (fun c Bk hn => ?_)
 unfold rBhd_vc at h
 show En c ⟨[sl 0 (.pptr 0 0 (Bk 0)), (1, .sv (.agg [B e1.fEmpty, LS intT e1.fFirst, LS intT e1.fLast])), (2, .sv (.agg [B e2.fEmpty, LS intT e2.fFirst, LS intT e2.fLast]))], [.box [.own 1, .gs 2 0] 161 false, rowI 3 intT lets, gridI 23 3 intT nxt]⟩ _
 refine En.lenA 1 1 (by rfl) (by rfl) (fun hl => ?_)
 replace h := h hl
 clear hl
 refine En.lenA 1 2 (by rfl) (by rfl) (fun hl => ?_)
 replace h := h hl
 clear hl
 refine En.lenA 2 1 (by rfl) (by rfl) (fun hl => ?_)
 replace h := h hl
 clear hl
 refine En.lenA 2 2 (by rfl) (by rfl) (fun hl => ?_)
 replace h := h hl
 clear hl
 refine En.seq ?_
 refine En.region ?_
 refine WL.run ht hn 3 ⟨[sl 0 (.pptr 0 0 (Bk 0)), sl 4 (.ptr 3 0), sl 5 (.ptr 4 0), sl 6 (.ptr 5 0)], [.box [.own 1, .gs 2 0] 161 false, rowI 3 intT lets, gridI 23 3 intT nxt, .box [B e1.fEmpty, LS intT e1.fFirst, LS intT e1.fLast] 272 false, .box [B e2.fEmpty, LS intT e2.fFirst, LS intT e2.fLast] 272 false, .box [B false, .v (.slice none 0 0), .v (.slice none 0 0)] 272 false]⟩ (by kernel_rfl) ?_
 refine WL.nil ?_
 refine En.seq ?_
 refine En.region ?_
 refine WL.run ht hn 5 ⟨[sl 0 (.pptr 0 0 (Bk 0)), sl 4 (.ptr 3 0), sl 5 (.ptr 4 0), sl 6 (.ptr 5 0), sl 8 (.ptr 0 0), sl 10 (LS intT e1.fLast), sl 12 (LS intT e2.fFirst)], [.box [.own 1, .gs 2 0] 161 false, rowI 3 intT lets, gridI 23 3 intT nxt, .box [B e1.fEmpty, LS intT e1.fFirst, LS intT e1.fLast] 272 false, .box [B e2.fEmpty, LS intT e2.fFirst, LS intT e2.fLast] 272 false, .box [B false, .v (.slice none 0 0), .v (.slice none 0 0)] 272 false]⟩ (by kernel_rfl) ?_
 have hp := h.1
 replace h := h.2
 refine WL.callE (rTie_ct lets nxt e1.fLast e2.fFirst hp) en212 (caps := []) [0, 1, 2] hn (by rfl) rfl (by rfl) (argsAs (by kernel_rfl) (by rfl)) (by kernel_rfl) (by decide) (by rfl) (by rfl) (fun _ _ => ⟨by rfl, _, by rfl, ?_⟩)
 refine WL.nil ?_
 obtain ⟨J, h, hJ⟩ := h
 refine En.seqJ (σ := Bool) (fun zz => J zz) (fun zz => ⟨[sl 0 (.pptr 0 0 (Bk 0)), sl 4 (.ptr 3 0), sl 5 (.ptr 4 0), sl 6 (.ptr 5 0), sl 7 (.ptr 8 0)], [.box [.own 1, .gs 2 0] 161 false, rowI 3 intT (lets), gridI 23 3 intT (qrBhd0 e1 e2 nxt), .box [B e1.fEmpty, LS intT e1.fFirst, LS intT e1.fLast] 272 false, .box [B e2.fEmpty, LS intT e2.fFirst, LS intT e2.fLast] 272 false, .box [B false, .v (.slice none 0 0), .v (.slice none 0 0)] 272 false, rowI 3 intT (e1.fFirst), rowI 3 intT (e2.fLast), .box [B zz, .own 6, .own 7] 272 false]⟩) ?_ ?_
 refine splitB e1.fEmpty (fun hb_2 => ?_) (fun hb_2 => ?_)
 replace h := h.1 hb_2
 have hp_2 := h.1
 replace h := h.2
 have hp_3 := h.1
 replace h := h.2
 refine En.regionA ⟨[sl 0 (.pptr 0 0 (Bk 0)), sl 4 (.ptr 3 0), sl 5 (.ptr 4 0), sl 6 (.ptr 5 0)], [.sv (.one (.ptr 3 0)), .sv (.one (B true)), .sv (.one (B true)), .sv (.one (.ptr 4 0)), .sv (.one (B e2.fEmpty)), .sv (.one (B e2.fEmpty)), .sv (.one (.ptr 3 1)), .sv (.one (LS intT e1.fFirst)), .sv (.one (.own 6)), .sv (.one (.ptr 4 2)), .sv (.one (LS intT e2.fLast)), .sv (.one (.own 7)), .sv (.agg [B e2.fEmpty, .own 6, .own 7]), .sv (.one (.ptr 8 0)), .tup []], [⟨.box [.own 1, .gs 2 0] 161 false, none, none, none⟩, ⟨rowI 3 intT (lets), none, none, none⟩, ⟨gridI 23 3 intT (qrBhd0 e1 e2 nxt), none, none, none⟩, ⟨.box [B e1.fEmpty, LS intT e1.fFirst, LS intT e1.fLast] 272 false, none, none, none⟩, ⟨.box [B e2.fEmpty, LS intT e2.fFirst, LS intT e2.fLast] 272 false, none, none, none⟩, ⟨.box [B false, .v (.slice none 0 0), .v (.slice none 0 0)] 272 false, none, none, none⟩, ⟨rowI 3 intT (e1.fFirst), some 8, none, none⟩, ⟨rowI 3 intT (e2.fLast), some 11, none, none⟩, ⟨.box [B false, .v (.slice none 0 0), .v (.slice none 0 0)] 272 false, some 13, none, some (14, .box [B e2.fEmpty, .own 6, .own 7] 272 false)⟩]⟩ ⟨[sl 0 (.pptr 0 0 (Bk 0)), sl 4 (.ptr 3 0), sl 5 (.ptr 4 0), sl 6 (.ptr 5 0), sl 7 (.ptr 8 0)], [.box [.own 1, .gs 2 0] 161 false, rowI 3 intT (lets), gridI 23 3 intT (qrBhd0 e1 e2 nxt), .box [B e1.fEmpty, LS intT e1.fFirst, LS intT e1.fLast] 272 false, .box [B e2.fEmpty, LS intT e2.fFirst, LS intT e2.fLast] 272 false, .box [B false, .v (.slice none 0 0), .v (.slice none 0 0)] 272 false, rowI 3 intT (e1.fFirst), rowI 3 intT (e2.fLast), .box [B e2.fEmpty, .own 6, .own 7] 272 false]⟩ (by kernel_rfl) hn (by kernel_rfl) (by rfl) (by kernel_rfl) ?_ (by kernel_rfl) ?_
 exact ⟨.mt ⟨[sl 4 (.ptr 3 0)], []⟩ [] none (by kernel_rfl) (by rfl) (mt_ev ht (by kernel_rfl)) rfl rfl rfl rfl,
 .mt ⟨[sl 14 (.ptr 3 0)], [.gone, .gone, .gone, .box [B e1.fEmpty, LS intT e1.fFirst, LS intT e1.fLast] 272 false]⟩ [] none (by kernel_rfl) (by rfl) (mt_castB hb_2 (mt_ev ht (by kernel_rfl))) rfl rfl rfl rfl,
 .mt ⟨[sl 15 (B true)], []⟩ [] none (by kernel_rfl) (by rfl) (mt_ev ht (by kernel_rfl)) rfl rfl rfl rfl,
 .mt ⟨[sl 5 (.ptr 4 0), sl 16 (B true)], []⟩ [] none (by kernel_rfl) (by rfl) (mt_ev ht (by kernel_rfl)) rfl rfl rfl rfl,
 .mt ⟨[sl 16 (B true), sl 17 (.ptr 4 0)], [.gone, .gone, .gone, .gone, .box [B e2.fEmpty, LS intT e2.fFirst, LS intT e2.fLast] 272 false]⟩ [] none (by kernel_rfl) (by rfl) (mt_ev ht (by kernel_rfl)) rfl rfl rfl rfl,
 .mt ⟨[sl 16 (B true), sl 18 (B e2.fEmpty)], []⟩ [] none (by kernel_rfl) (by rfl) (mt_ev ht (by kernel_rfl)) rfl rfl rfl rfl,
 .mt ⟨[sl 4 (.ptr 3 0)], []⟩ [] none (by kernel_rfl) (by rfl) (mt_ev ht (by kernel_rfl)) rfl rfl rfl rfl,
 .mt ⟨[sl 20 (.ptr 3 1)], [.gone, .gone, .gone, .box [B e1.fEmpty, LS intT e1.fFirst, LS intT e1.fLast] 272 false]⟩ [] none (by kernel_rfl) (by rfl) (mt_ev ht (by kernel_rfl)) rfl rfl rfl rfl,
 .mt ⟨[sl 21 (LS intT e1.fFirst)], []⟩ [] (some 6) (by kernel_rfl) (by rfl) (mt_callI 6 (cloneInt_ct e1.fFirst hp_2) en49 (caps := []) [] rfl rfl (by rfl) (by kernel_rfl) (by kernel_rfl) (by rfl) (by rfl)) rfl rfl rfl rfl,
 .mt ⟨[sl 5 (.ptr 4 0)], []⟩ [] none (by kernel_rfl) (by rfl) (mt_ev ht (by kernel_rfl)) rfl rfl rfl rfl,
 .mt ⟨[sl 23 (.ptr 4 2)], [.gone, .gone, .gone, .gone, .box [B e2.fEmpty, LS intT e2.fFirst, LS intT e2.fLast] 272 false]⟩ [] none (by kernel_rfl) (by rfl) (mt_ev ht (by kernel_rfl)) rfl rfl rfl rfl,
 .mt ⟨[sl 24 (LS intT e2.fLast)], []⟩ [] (some 7) (by kernel_rfl) (by rfl) (mt_callI 7 (cloneInt_ct e2.fLast hp_3) en49 (caps := []) [] rfl rfl (by rfl) (by kernel_rfl) (by kernel_rfl) (by rfl) (by rfl)) rfl rfl rfl rfl,
 .mt ⟨[sl 19 (B e2.fEmpty), sl 22 (.own 6), sl 25 (.own 7)], []⟩ [] none (by kernel_rfl) (by rfl) (mt_ev ht (by kernel_rfl)) rfl rfl rfl rfl,
 .mt ⟨[], []⟩ [] (some 8) (by kernel_rfl) (by rfl) (mt_alloc2 8 272 ht rfl (by rfl) (by rfl)) rfl rfl rfl rfl,
 .mu ⟨[sl 7 (.ptr 8 0), (26, .sv (.agg [B e2.fEmpty, .own 6, .own 7]))], [.gone, .gone, .gone, .gone, .gone, .gone, .gone, .gone, .box [B false, .v (.slice none 0 0), .v (.slice none 0 0)] 272 false]⟩ 8 _ _ rfl rfl (by kernel_rfl) (by rfl) (mu_store2 ht rfl (by rfl) (by rfl) (by rfl) (by rfl) (fun h => by cases h) (by rfl) (by rfl)) rfl rfl rfl rfl rfl rfl rfl,
 trivial⟩
 exact En.at (I := fun zz => J zz) (T := fun zz => ⟨[sl 0 (.pptr 0 0 (Bk 0)), sl 4 (.ptr 3 0), sl 5 (.ptr 4 0), sl 6 (.ptr 5 0), sl 7 (.ptr 8 0)], [.box [.own 1, .gs 2 0] 161 false, rowI 3 intT (lets), gridI 23 3 intT (qrBhd0 e1 e2 nxt), .box [B e1.fEmpty, LS intT e1.fFirst, LS intT e1.fLast] 272 false, .box [B e2.fEmpty, LS intT e2.fFirst, LS intT e2.fLast] 272 false, .box [B false, .v (.slice none 0 0), .v (.slice none 0 0)] 272 false, rowI 3 intT (e1.fFirst), rowI 3 intT (e2.fLast), .box [B zz, .own 6, .own 7] 272 false]⟩) e2.fEmpty h (by kernel_rfl)
 replace h := h.2 hb_2
 have hp_4 := h.1
 replace h := h.2
 have hp_5 := h.1
 replace h := h.2
 refine En.regionA ⟨[sl 0 (.pptr 0 0 (Bk 0)), sl 4 (.ptr 3 0), sl 5 (.ptr 4 0), sl 6 (.ptr 5 0)], [.sv (.one (.ptr 3 0)), .sv (.one (B false)), .sv (.one (B false)), .tup [], .tup [], .sv (.one (B false)), .sv (.one (.ptr 3 1)), .sv (.one (LS intT e1.fFirst)), .sv (.one (.own 6)), .sv (.one (.ptr 4 2)), .sv (.one (LS intT e2.fLast)), .sv (.one (.own 7)), .sv (.agg [B false, .own 6, .own 7]), .sv (.one (.ptr 8 0)), .tup []], [⟨.box [.own 1, .gs 2 0] 161 false, none, none, none⟩, ⟨rowI 3 intT (lets), none, none, none⟩, ⟨gridI 23 3 intT (qrBhd0 e1 e2 nxt), none, none, none⟩, ⟨.box [B e1.fEmpty, LS intT e1.fFirst, LS intT e1.fLast] 272 false, none, none, none⟩, ⟨.box [B e2.fEmpty, LS intT e2.fFirst, LS intT e2.fLast] 272 false, none, none, none⟩, ⟨.box [B false, .v (.slice none 0 0), .v (.slice none 0 0)] 272 false, none, none, none⟩, ⟨rowI 3 intT (e1.fFirst), some 8, none, none⟩, ⟨rowI 3 intT (e2.fLast), some 11, none, none⟩, ⟨.box [B false, .v (.slice none 0 0), .v (.slice none 0 0)] 272 false, some 13, none, some (14, .box [B false, .own 6, .own 7] 272 false)⟩]⟩ ⟨[sl 0 (.pptr 0 0 (Bk 0)), sl 4 (.ptr 3 0), sl 5 (.ptr 4 0), sl 6 (.ptr 5 0), sl 7 (.ptr 8 0)], [.box [.own 1, .gs 2 0] 161 false, rowI 3 intT (lets), gridI 23 3 intT (qrBhd0 e1 e2 nxt), .box [B e1.fEmpty, LS intT e1.fFirst, LS intT e1.fLast] 272 false, .box [B e2.fEmpty, LS intT e2.fFirst, LS intT e2.fLast] 272 false, .box [B false, .v (.slice none 0 0), .v (.slice none 0 0)] 272 false, rowI 3 intT (e1.fFirst), rowI 3 intT (e2.fLast), .box [B false, .own 6, .own 7] 272 false]⟩ (by kernel_rfl) hn (by kernel_rfl) (by rfl) (by kernel_rfl) ?_ (by kernel_rfl) ?_
 exact ⟨.mt ⟨[sl 4 (.ptr 3 0)], []⟩ [] none (by kernel_rfl) (by rfl) (mt_ev ht (by kernel_rfl)) rfl rfl rfl rfl,
 .mt ⟨[sl 14 (.ptr 3 0)], [.gone, .gone, .gone, .box [B e1.fEmpty, LS intT e1.fFirst, LS intT e1.fLast] 272 false]⟩ [] none (by kernel_rfl) (by rfl) (mt_castB hb_2 (mt_ev ht (by kernel_rfl))) rfl rfl rfl rfl,
 .mt ⟨[sl 15 (B false)], []⟩ [] none (by kernel_rfl) (by rfl) (mt_ev ht (by kernel_rfl)) rfl rfl rfl rfl,
 .skip ⟨[sl 16 (B false)], []⟩ (by kernel_rfl) (by rfl) rfl rfl rfl rfl,
 .skip ⟨[sl 16 (B false)], []⟩ (by kernel_rfl) (by rfl) rfl rfl rfl rfl,
 .mt ⟨[sl 16 (B false), (18, .tup [])], []⟩ [] none (by kernel_rfl) (by rfl) (mt_ev ht (by kernel_rfl)) rfl rfl rfl rfl,
 .mt ⟨[sl 4 (.ptr 3 0)], []⟩ [] none (by kernel_rfl) (by rfl) (mt_ev ht (by kernel_rfl)) rfl rfl rfl rfl,
 .mt ⟨[sl 20 (.ptr 3 1)], [.gone, .gone, .gone, .box [B e1.fEmpty, LS intT e1.fFirst, LS intT e1.fLast] 272 false]⟩ [] none (by kernel_rfl) (by rfl) (mt_ev ht (by kernel_rfl)) rfl rfl rfl rfl,
 .mt ⟨[sl 21 (LS intT e1.fFirst)], []⟩ [] (some 6) (by kernel_rfl) (by rfl) (mt_callI 6 (cloneInt_ct e1.fFirst hp_4) en49 (caps := []) [] rfl rfl (by rfl) (by kernel_rfl) (by kernel_rfl) (by rfl) (by rfl)) rfl rfl rfl rfl,
 .mt ⟨[sl 5 (.ptr 4 0)], []⟩ [] none (by kernel_rfl) (by rfl) (mt_ev ht (by kernel_rfl)) rfl rfl rfl rfl,
 .mt ⟨[sl 23 (.ptr 4 2)], [.gone, .gone, .gone, .gone, .box [B e2.fEmpty, LS intT e2.fFirst, LS intT e2.fLast] 272 false]⟩ [] none (by kernel_rfl) (by rfl) (mt_ev ht (by kernel_rfl)) rfl rfl rfl rfl,
 .mt ⟨[sl 24 (LS intT e2.fLast)], []⟩ [] (some 7) (by kernel_rfl) (by rfl) (mt_callI 7 (cloneInt_ct e2.fLast hp_5) en49 (caps := []) [] rfl rfl (by rfl) (by kernel_rfl) (by kernel_rfl) (by rfl) (by rfl)) rfl rfl rfl rfl,
 .mt ⟨[sl 19 (B false), sl 22 (.own 6), sl 25 (.own 7)], []⟩ [] none (by kernel_rfl) (by rfl) (mt_ev ht (by kernel_rfl)) rfl rfl rfl rfl,
 .mt ⟨[], []⟩ [] (some 8) (by kernel_rfl) (by rfl) (mt_alloc2 8 272 ht rfl (by rfl) (by rfl)) rfl rfl rfl rfl,
 .mu ⟨[sl 7 (.ptr 8 0), (26, .sv (.agg [B false, .own 6, .own 7]))], [.gone, .gone, .gone, .gone, .gone, .gone, .gone, .gone, .box [B false, .v (.slice none 0 0), .v (.slice none 0 0)] 272 false]⟩ 8 _ _ rfl rfl (by kernel_rfl) (by rfl) (mu_store2 ht rfl (by rfl) (by rfl) (by rfl) (by rfl) (fun h => by cases h) (by rfl) (by rfl)) rfl rfl rfl rfl rfl rfl rfl,
 trivial⟩
 exact En.at (I := fun zz => J zz) (T := fun zz => ⟨[sl 0 (.pptr 0 0 (Bk 0)), sl 4 (.ptr 3 0), sl 5 (.ptr 4 0), sl 6 (.ptr 5 0), sl 7 (.ptr 8 0)], [.box [.own 1, .gs 2 0] 161 false, rowI 3 intT (lets), gridI 23 3 intT (qrBhd0 e1 e2 nxt), .box [B e1.fEmpty, LS intT e1.fFirst, LS intT e1.fLast] 272 false, .box [B e2.fEmpty, LS intT e2.fFirst, LS intT e2.fLast] 272 false, .box [B false, .v (.slice none 0 0), .v (.slice none 0 0)] 272 false, rowI 3 intT (e1.fFirst), rowI 3 intT (e2.fLast), .box [B zz, .own 6, .own 7] 272 false]⟩) false h (by kernel_rfl)
 intro y80 h
 replace h := hJ _ h
 show En c ⟨[sl 0 (.pptr 0 0 (Bk 0)), sl 4 (.ptr 3 0), sl 5 (.ptr 4 0), sl 6 (.ptr 5 0), sl 7 (.ptr 8 0)], [.box [.own 1, .gs 2 0] 161 false, rowI 3 intT (lets), gridI 23 3 intT (qrBhd0 e1 e2 nxt), .box [B e1.fEmpty, LS intT e1.fFirst, LS intT e1.fLast] 272 false, .box [B e2.fEmpty, LS intT e2.fFirst, LS intT e2.fLast] 272 false, .box [B false, .v (.slice none 0 0), .v (.slice none 0 0)] 272 false, rowI 3 intT (e1.fFirst), rowI 3 intT (e2.fLast), .box [B y80, .own 6, .own 7] 272 false]⟩ _
 obtain ⟨J_2, h, hJ_2⟩ := h
 refine En.seqJ (σ := (List Int)) (fun zz => J_2 zz) (fun zz => ⟨[sl 0 (.pptr 0 0 (Bk 0)), sl 4 (.ptr 3 0), sl 5 (.ptr 4 0), sl 6 (.ptr 5 0), sl 7 (.ptr 8 0)], [.box [.own 1, .gs 2 0] 161 false, rowI 3 intT (lets), gridI 23 3 intT (qrBhd0 e1 e2 nxt), .box [B e1.fEmpty, LS intT e1.fFirst, LS intT e1.fLast] 272 false, .box [B e2.fEmpty, LS intT e2.fFirst, LS intT e2.fLast] 272 false, .box [B false, .v (.slice none 0 0), .v (.slice none 0 0)] 272 false, rowI 3 intT zz, rowI 3 intT (e2.fLast), .box [B y80, .own 6, .own 7] 272 false]⟩) ?_ ?_
 refine En.seq ?_
 refine En.region ?_
 refine WL.run ht hn 2 ⟨[sl 0 (.pptr 0 0 (Bk 0)), sl 4 (.ptr 3 0), sl 5 (.ptr 4 0), sl 6 (.ptr 5 0), sl 7 (.ptr 8 0), sl 28 (B e1.fEmpty)], [.box [.own 1, .gs 2 0] 161 false, rowI 3 intT (lets), gridI 23 3 intT (qrBhd0 e1 e2 nxt), .box [B e1.fEmpty, LS intT e1.fFirst, LS intT e1.fLast] 272 false, .box [B e2.fEmpty, LS intT e2.fFirst, LS intT e2.fLast] 272 false, .box [B false, .v (.slice none 0 0), .v (.slice none 0 0)] 272 false, rowI 3 intT (e1.fFirst), rowI 3 intT (e2.fLast), .box [B y80, .own 6, .own 7] 272 false]⟩ (by kernel_rfl) ?_
 refine WL.nil ?_
 refine En.cond (b := e1.fEmpty) (by kernel_rfl) (fun hb => ?_) (fun hb => ?_)
 replace h := h.1 hb
 refine En.region ?_
 refine WL.run ht hn 4 ⟨[sl 0 (.pptr 0 0 (Bk 0)), sl 4 (.ptr 3 0), sl 5 (.ptr 4 0), sl 6 (.ptr 5 0), sl 7 (.ptr 8 0), sl 30 (.own 6), sl 32 (LS intT e2.fFirst)], [.box [.own 1, .gs 2 0] 161 false, rowI 3 intT (lets), gridI 23 3 intT (qrBhd0 e1 e2 nxt), .box [B e1.fEmpty, LS intT e1.fFirst, LS intT e1.fLast] 272 false, .box [B e2.fEmpty, LS intT e2.fFirst, LS intT e2.fLast] 272 false, .box [B false, .v (.slice none 0 0), .v (.slice none 0 0)] 272 false, rowI 3 intT (e1.fFirst), rowI 3 intT (e2.fLast), .box [B y80, .own 6, .own 7] 272 false]⟩ (by kernel_rfl) ?_
 refine WL.junk 8 1 (by rfl) ?_
 have hp := h.1
 replace h := h.2
 refine WL.mt (S2 := ⟨[sl 0 (.pptr 0 0 (Bk 0)), sl 4 (.ptr 3 0), sl 5 (.ptr 4 0), sl 6 (.ptr 5 0), sl 7 (.ptr 8 0), sl 32 (LS intT e2.fFirst)], [.box [.own 1, .gs 2 0] 161 false, rowI 3 intT (lets), gridI 23 3 intT (qrBhd0 e1 e2 nxt), .box [B e1.fEmpty, LS intT e1.fFirst, LS intT e1.fLast] 272 false, .box [B e2.fEmpty, LS intT e2.fFirst, LS intT e2.fLast] 272 false, .box [B false, .v (.slice none 0 0), .v (.slice none 0 0)] 272 false, rowI 3 intT (e1.fFirst), rowI 3 intT (e2.fLast), .box [B y80, .junk, .own 7] 272 false]⟩) (K := [6]) (p := some (6, rowI 3 intT ((e1.fFirst) ++ e2.fFirst))) hn (by rfl) (mt_append (T := intT) (l := (e1.fFirst)) (es := e2.fFirst) ht rfl (by rfl) (by rfl) (by rfl) (by rfl) (by decide) (by rfl) (by rfl) (srcLS (T := intT) (es := e2.fFirst) (fun _ h => by cases h) (by decide) (by rfl)) (by exact hp) (by exact hp.le (by decide))) (by kernel_rfl) (by rfl) (by rfl) (by rfl) ?_
 refine WL.run ht hn 2 ⟨[sl 0 (.pptr 0 0 (Bk 0)), sl 4 (.ptr 3 0), sl 5 (.ptr 4 0), sl 6 (.ptr 5 0), sl 7 (.ptr 8 0)], [.box [.own 1, .gs 2 0] 161 false, rowI 3 intT (lets), gridI 23 3 intT (qrBhd0 e1 e2 nxt), .box [B e1.fEmpty, LS intT e1.fFirst, LS intT e1.fLast] 272 false, .box [B e2.fEmpty, LS intT e2.fFirst, LS intT e2.fLast] 272 false, .box [B false, .v (.slice none 0 0), .v (.slice none 0 0)] 272 false, rowI 3 intT ((e1.fFirst) ++ e2.fFirst), rowI 3 intT (e2.fLast), .box [B y80, .own 6, .own 7] 272 false]⟩ (by kernel_rfl) ?_
 refine WL.nil ?_
 exact En.at (I := fun zz => J_2 zz) (T := fun zz => ⟨[sl 0 (.pptr 0 0 (Bk 0)), sl 4 (.ptr 3 0), sl 5 (.ptr 4 0), sl 6 (.ptr 5 0), sl 7 (.ptr 8 0)], [.box [.own 1, .gs 2 0] 161 false, rowI 3 intT (lets), gridI 23 3 intT (qrBhd0 e1 e2 nxt), .box [B e1.fEmpty, LS intT e1.fFirst, LS intT e1.fLast] 272 false, .box [B e2.fEmpty, LS intT e2.fFirst, LS intT e2.fLast] 272 false, .box [B false, .v (.slice none 0 0), .v (.slice none 0 0)] 272 false, rowI 3 intT zz, rowI 3 intT (e2.fLast), .box [B y80, .own 6, .own 7] 272 false]⟩) ((e1.fFirst) ++ e2.fFirst) h (by kernel_rfl)
 replace h := h.2 hb
 refine En.skip ?_
 exact En.at (I := fun zz => J_2 zz) (T := fun zz => ⟨[sl 0 (.pptr 0 0 (Bk 0)), sl 4 (.ptr 3 0), sl 5 (.ptr 4 0), sl 6 (.ptr 5 0), sl 7 (.ptr 8 0)], [.box [.own 1, .gs 2 0] 161 false, rowI 3 intT (lets), gridI 23 3 intT (qrBhd0 e1 e2 nxt), .box [B e1.fEmpty, LS intT e1.fFirst, LS intT e1.fLast] 272 false, .box [B e2.fEmpty, LS intT e2.fFirst, LS intT e2.fLast] 272 false, .box [B false, .v (.slice none 0 0), .v (.slice none 0 0)] 272 false, rowI 3 intT zz, rowI 3 intT (e2.fLast), .box [B y80, .own 6, .own 7] 272 false]⟩) (e1.fFirst) h (by kernel_rfl)
 intro l6 h
 replace h := hJ_2 _ h
 show En c ⟨[sl 0 (.pptr 0 0 (Bk 0)), sl 4 (.ptr 3 0), sl 5 (.ptr 4 0), sl 6 (.ptr 5 0), sl 7 (.ptr 8 0)], [.box [.own 1, .gs 2 0] 161 false, rowI 3 intT (lets), gridI 23 3 intT (qrBhd0 e1 e2 nxt), .box [B e1.fEmpty, LS intT e1.fFirst, LS intT e1.fLast] 272 false, .box [B e2.fEmpty, LS intT e2.fFirst, LS intT e2.fLast] 272 false, .box [B false, .v (.slice none 0 0), .v (.slice none 0 0)] 272 false, rowI 3 intT l6, rowI 3 intT (e2.fLast), .box [B y80, .own 6, .own 7] 272 false]⟩ _
 obtain ⟨J_3, h, hJ_3⟩ := h
 refine En.seqJ (σ := (List Int)) (fun zz => J_3 zz) (fun zz => ⟨[sl 0 (.pptr 0 0 (Bk 0)), sl 6 (.ptr 5 0), sl 7 (.ptr 8 0)], [.box [.own 1, .gs 2 0] 161 false, rowI 3 intT (lets), gridI 23 3 intT (qrBhd0 e1 e2 nxt), .gone, .gone, .box [B false, .v (.slice none 0 0), .v (.slice none 0 0)] 272 false, rowI 3 intT l6, rowI 3 intT zz, .box [B y80, .own 6, .own 7] 272 false]⟩) ?_ ?_
 refine En.seq ?_
 refine En.region ?_
 refine WL.run ht hn 2 ⟨[sl 0 (.pptr 0 0 (Bk 0)), sl 4 (.ptr 3 0), sl 6 (.ptr 5 0), sl 7 (.ptr 8 0), sl 36 (B e2.fEmpty)], [.box [.own 1, .gs 2 0] 161 false, rowI 3 intT (lets), gridI 23 3 intT (qrBhd0 e1 e2 nxt), .box [B e1.fEmpty, LS intT e1.fFirst, LS intT e1.fLast] 272 false, .gone, .box [B false, .v (.slice none 0 0), .v (.slice none 0 0)] 272 false, rowI 3 intT l6, rowI 3 intT (e2.fLast), .box [B y80, .own 6, .own 7] 272 false]⟩ (by kernel_rfl) ?_
 refine WL.nil ?_
 refine En.cond (b := e2.fEmpty) (by kernel_rfl) (fun hb => ?_) (fun hb => ?_)
 replace h := h.1 hb
 refine En.region ?_
 refine WL.run ht hn 4 ⟨[sl 0 (.pptr 0 0 (Bk 0)), sl 6 (.ptr 5 0), sl 7 (.ptr 8 0), sl 38 (.own 7), sl 40 (LS intT e1.fLast)], [.box [.own 1, .gs 2 0] 161 false, rowI 3 intT (lets), gridI 23 3 intT (qrBhd0 e1 e2 nxt), .gone, .gone, .box [B false, .v (.slice none 0 0), .v (.slice none 0 0)] 272 false, rowI 3 intT l6, rowI 3 intT (e2.fLast), .box [B y80, .own 6, .own 7] 272 false]⟩ (by kernel_rfl) ?_
 refine WL.junk 8 2 (by rfl) ?_
 have hp := h.1
 replace h := h.2
 refine WL.mt (S2 := ⟨[sl 0 (.pptr 0 0 (Bk 0)), sl 6 (.ptr 5 0), sl 7 (.ptr 8 0), sl 40 (LS intT e1.fLast)], [.box [.own 1, .gs 2 0] 161 false, rowI 3 intT (lets), gridI 23 3 intT (qrBhd0 e1 e2 nxt), .gone, .gone, .box [B false, .v (.slice none 0 0), .v (.slice none 0 0)] 272 false, rowI 3 intT l6, rowI 3 intT (e2.fLast), .box [B y80, .own 6, .junk] 272 false]⟩) (K := [7]) (p := some (7, rowI 3 intT ((e2.fLast) ++ e1.fLast))) hn (by rfl) (mt_append (T := intT) (l := (e2.fLast)) (es := e1.fLast) ht rfl (by rfl) (by rfl) (by rfl) (by rfl) (by decide) (by rfl) (by rfl) (srcLS (T := intT) (es := e1.fLast) (fun _ h => by cases h) (by decide) (by rfl)) (by exact hp) (by exact hp.le (by decide))) (by kernel_rfl) (by rfl) (by rfl) (by rfl) ?_
 refine WL.run ht hn 2 ⟨[sl 0 (.pptr 0 0 (Bk 0)), sl 6 (.ptr 5 0), sl 7 (.ptr 8 0)], [.box [.own 1, .gs 2 0] 161 false, rowI 3 intT (lets), gridI 23 3 intT (qrBhd0 e1 e2 nxt), .gone, .gone, .box [B false, .v (.slice none 0 0), .v (.slice none 0 0)] 272 false, rowI 3 intT l6, rowI 3 intT ((e2.fLast) ++ e1.fLast), .box [B y80, .own 6, .own 7] 272 false]⟩ (by kernel_rfl) ?_
 refine WL.nil ?_
 exact En.at (I := fun zz => J_3 zz) (T := fun zz => ⟨[sl 0 (.pptr 0 0 (Bk 0)), sl 6 (.ptr 5 0), sl 7 (.ptr 8 0)], [.box [.own 1, .gs 2 0] 161 false, rowI 3 intT (lets), gridI 23 3 intT (qrBhd0 e1 e2 nxt), .gone, .gone, .box [B false, .v (.slice none 0 0), .v (.slice none 0 0)] 272 false, rowI 3 intT l6, rowI 3 intT zz, .box [B y80, .own 6, .own 7] 272 false]⟩) ((e2.fLast) ++ e1.fLast) h (by kernel_rfl)
 replace h := h.2 hb
 refine En.skip ?_
 exact En.at (I := fun zz => J_3 zz) (T := fun zz => ⟨[sl 0 (.pptr 0 0 (Bk 0)), sl 6 (.ptr 5 0), sl 7 (.ptr 8 0)], [.box [.own 1, .gs 2 0] 161 false, rowI 3 intT (lets), gridI 23 3 intT (qrBhd0 e1 e2 nxt), .gone, .gone, .box [B false, .v (.slice none 0 0), .v (.slice none 0 0)] 272 false, rowI 3 intT l6, rowI 3 intT zz, .box [B y80, .own 6, .own 7] 272 false]⟩) (e2.fLast) h (by kernel_rfl)
 intro l7 h
 replace h := hJ_3 _ h
 show En c ⟨[sl 0 (.pptr 0 0 (Bk 0)), sl 6 (.ptr 5 0), sl 7 (.ptr 8 0)], [.box [.own 1, .gs 2 0] 161 false, rowI 3 intT (lets), gridI 23 3 intT (qrBhd0 e1 e2 nxt), .gone, .gone, .box [B false, .v (.slice none 0 0), .v (.slice none 0 0)] 272 false, rowI 3 intT l6, rowI 3 intT l7, .box [B y80, .own 6, .own 7] 272 false]⟩ _
 refine En.seq ?_
 refine En.region ?_
 refine WL.run ht hn 2 ⟨[sl 0 (.pptr 0 0 (Bk 0)), sl 6 (.ptr 5 0)], [.box [.own 1, .gs 2 0] 161 false, rowI 3 intT (lets), gridI 23 3 intT (qrBhd0 e1 e2 nxt), .gone, .gone, .box [B y80, .own 6, .own 7] 272 false, rowI 3 intT l6, rowI 3 intT l7, .gone]⟩ (by kernel_rfl) ?_
 refine WL.nil ?_
 refine En.ret ?_
 refine En.seal (T := intT) (l := l6) (e := 3) 6 rfl ?_
 refine En.seal (T := intT) (l := l7) (e := 3) 7 rfl ?_
 exact En.backE [0] ht ((RegularEnds.mk y80 l6 l7), (lets), (qrBhd0 e1 e2 nxt)) h (by kernel_rfl) (by rfl) rfl
theorem en211 : ∀ args w, (callFunc 211 args).run Try.prog w = .ok (.enter 211 args) w := enters_of Try.func211 (by kernel_rfl) rfl
def bhdOk (e f : RegularEnds) : Prop := (e.fFirst.length + f.fFirst.length) * 8 ≤ 140737488355328 ∧ (f.fLast.length + e.fLast.length) * 8 ≤ 140737488355328
instance (e f : RegularEnds) : Decidable (bhdOk e f) := by unfold bhdOk; exact inferInstance
def bhdR (e f : RegularEnds) : RegularEnds := ⟨e.fEmpty && f.fEmpty, if e.fEmpty = true then e.fFirst ++ f.fFirst else e.fFirst, if f.fEmpty = true then f.fLast ++ e.fLast else f.fLast⟩
theorem rBhd_ct (lets : (List Int)) (nxt : (List (List Int))) (e1 : RegularEnds) (e2 : RegularEnds) (hp : (tieS e1.fLast e2.fFirst nxt).isSome ∧ bhdOk e1 e2)  : CtE 211 [.sv (.one (.ptr 0 0)), .sv (.agg [B e1.fEmpty, LS intT e1.fFirst, LS intT e1.fLast]), .sv (.agg [B e2.fEmpty, LS intT e2.fFirst, LS intT e2.fLast])] [.box [.own 1, .gs 2 0] 161 false, rowI 3 intT lets, gridI 23 3 intT nxt] [0] (fun (_ : Unit) => True) (fun _ => .sv (.agg [B (bhdR e1 e2).fEmpty, LS intT (bhdR e1 e2).fFirst, LS intT (bhdR e1 e2).fLast])) (fun _ => [.box [.own 1, .gs 2 0] 161 false, rowI 3 intT (lets), gridI 23 3 intT (tieR e1.fLast e2.fFirst nxt)]) := by
 refine (rBhd_walk lets nxt e1 e2 (fun res_ => res_ = (bhdR e1 e2, lets, tieR e1.fLast e2.fFirst nxt)) ?_).imp (fun r hr => ⟨(), trivial, by subst hr; rfl, by subst hr; rfl⟩)
 unfold rBhd_vc
 obtain ⟨k1, k2, k3⟩ := hp
 refine fun _ _ _ _ => ⟨k1, fun b => b = (e1.fEmpty && e2.fEmpty), ⟨fun hb => ⟨by omega, by omega, by rw [hb]; rfl⟩, fun hb => ⟨by omega, by omega, by rw [hb]; rfl⟩⟩, ?_⟩
 rintro _ rfl
 refine ⟨fun l => l = (bhdR e1 e2).fFirst, ⟨fun hb => ⟨k2, by simp only [bhdR, hb, if_pos]⟩, fun hb => by simp only [bhdR, hb]; rfl⟩, ?_⟩
 rintro _ rfl
 refine ⟨fun l => l = (bhdR e1 e2).fLast, ⟨fun hb => ⟨k3, by simp only [bhdR, hb, if_pos]⟩, fun hb => by simp only [bhdR, hb]; rfl⟩, ?_⟩
 rintro _ rfl
 rfl
abbrev LkR := RegularEnds × List Int × List (List Int)
def eithL (f : RTr → List Int → List (List Int) → Option LkR) : List RTr → RegularEnds → List Int → List (List Int) → Option LkR
 | [], e, lets, nxt => some (e, lets, nxt)
 | x :: xs, e, lets, nxt => match f x lets nxt with
  | none => none
  | some r => if (e.fFirst.length + r.1.fFirst.length) * 8 ≤ 140737488355328 ∧ (e.fLast.length + r.1.fLast.length) * 8 ≤ 140737488355328 then eithL f xs ⟨e.fEmpty || r.1.fEmpty, e.fFirst ++ r.1.fFirst, e.fLast ++ r.1.fLast⟩ r.2.1 r.2.2 else none
def rowK (f : RTr → List Int → List (List Int) → Option LkR) : List RTr → RegularEnds → List Int → List (List Int) → Option LkR
 | [], e, lets, nxt => some (e, lets, nxt)
 | x :: xs, e, lets, nxt => match f x lets nxt with
  | none => none
  | some r => match tieS e.fLast r.1.fFirst r.2.2 with
   | none => none
   | some n => if bhdOk e r.1 then rowK f xs (bhdR e r.1) r.2.1 n else none
def lookS : Nat → RTr → List Int → List (List Int) → Option LkR
 | 0, _, _, _ => none
 | k + 1, .node a kids, lets, nxt =>
  if 1048576 < kids.length then none
  else if a.fKind = 0 then some (⟨false, [], []⟩, lets, nxt)
  else if a.fKind = 1 then some (⟨true, [], []⟩, lets, nxt)
  else if a.fKind = 2 then if (lets.length + 1) * 8 ≤ 140737488355328 ∧ (nxt.length + 1) * 24 ≤ 140737488355328 then some (⟨false, [(lets.length : Int)], [(lets.length : Int)]⟩, lets ++ [a.fLetter], nxt ++ [[]]) else none
  else if a.fKind = 3 then eithL (lookS k) kids ⟨false, [], []⟩ lets nxt
  else match kids with
   | [] => none
   | x :: xs => match lookS k x lets nxt with
    | none => none
    | some r => if a.fKind = 4 then rowK (lookS k) xs r.1 r.2.1 r.2.2
     else match tieS r.1.fLast r.1.fFirst r.2.2 with
      | none => none
      | some n => some (⟨true, r.1.fFirst, r.1.fLast⟩, r.2.1, n)
def lookR (k : Nat) (x : RTr) (lets : List Int) (nxt : List (List Int)) : LkR := (lookS k x lets nxt).getD default
theorem en158 : ∀ args w, (callFunc 158 args).run Try.prog w = .ok (.enter 158 args) w := enters_of Try.func158 (by kernel_rfl) rfl
def LC (k : Nat) : Prop := ∀ (x : RTr) (lets : List Int) (nxt : List (List Int)), (lookS k x lets nxt).isSome → CtE 158 [.sv (.one (.ptr 0 0)), .sv (.one (.rd (trR rLab x)))] [.box [.own 1, .gs 2 0] 161 false, rowI 3 intT lets, gridI 23 3 intT nxt] [0] (fun (_ : Unit) => True) (fun _ => .sv (.agg [B (lookR k x lets nxt).1.fEmpty, LS intT (lookR k x lets nxt).1.fFirst, LS intT (lookR k x lets nxt).1.fLast])) (fun _ => [.box [.own 1, .gs 2 0] 161 false, rowI 3 intT (lookR k x lets nxt).2.1, gridI 23 3 intT (lookR k x lets nxt).2.2])
theorem lkI (k : Nat) (ih : LC k) (x : RTr) (lets : List Int) (nxt : List (List Int)) (hp : (lookS k x lets nxt).isSome) : CtE 158 [.sv (.one (.ptr 0 0)), .sv (.one (.rd (trR rLab x)))] [.box [.own 1, .gs 2 0] 161 false, rowI 3 intT lets, gridI 23 3 intT nxt] [0] (fun (_ : Unit) => True) (fun _ => .sv (.agg [B (lookR k x lets nxt).1.fEmpty, LS intT (lookR k x lets nxt).1.fFirst, LS intT (lookR k x lets nxt).1.fLast])) (fun _ => [.box [.own 1, .gs 2 0] 161 false, rowI 3 intT (lookR k x lets nxt).2.1, gridI 23 3 intT (lookR k x lets nxt).2.2]) := ih x lets nxt hp
def rLook_vc (k : Nat) (lets : (List Int)) (nxt : (List (List Int))) (x : RTr) (Q : RegularEnds × (List Int) × (List (List Int)) → Prop) : Prop :=
 IfP (x.lab.fKind == 0) (Q ((RegularEnds.mk false [] []), lets, nxt)) (IfP (x.lab.fKind == 1) (Q ((RegularEnds.mk true [] []), lets, nxt)) (IfP (x.lab.fKind == 2) (capOk lets.length (([x.lab.fLetter] : (List Int)) : (List Int)).length 8 ∧
 capOk nxt.length 1 24 ∧
 Q ((RegularEnds.mk false ([(wr (((lets ++ ([x.lab.fLetter] : (List Int))).length : Int) - 1))] : (List Int)) ([(wr (((lets ++ ([x.lab.fLetter] : (List Int))).length : Int) - 1))] : (List Int))), (lets ++ ([x.lab.fLetter] : (List Int))), (nxt ++ List.replicate 1 []))) (IfP (x.lab.fKind == 3) (∃ (Inv : Int → (List Int) → (List (List Int)) → Bool → (List Int) → (List Int) → Prop) (mu : Int → (List Int) → (List (List Int)) → Bool → (List Int) → (List Int) → Nat), Inv 0 lets nxt false ([] : (List Int)) ([] : (List Int)) ∧
 ∀ (x65 : Int) (l1 : (List Int)) (g2 : (List (List Int))) (y40 : Bool) (l6 : (List Int)) (l7 : (List Int)) , Inv x65 l1 g2 y40 l6 l7 → (IfP (decide (x65 < (x.kids.length : Int))) (∃ e, idx x.kids x65 = some e ∧
 ((lookS k e l1 g2).isSome) ∧
 ∃ J : Bool → Prop, (IfP y40 (J true) (J ((lookR k e l1 g2).1).fEmpty)) ∧
 (∀ (y40_2 : Bool), J y40_2 → capOk l6.length (((lookR k e l1 g2).1).fFirst : (List Int)).length 8 ∧
 capOk l7.length (((lookR k e l1 g2).1).fLast : (List Int)).length 8 ∧
 (Inv (wr (x65 + 1)) ((lookR k e l1 g2).2.1) ((lookR k e l1 g2).2.2) y40_2 (l6 ++ ((lookR k e l1 g2).1).fFirst) (l7 ++ ((lookR k e l1 g2).1).fLast) ∧ mu (wr (x65 + 1)) ((lookR k e l1 g2).2.1) ((lookR k e l1 g2).2.2) y40_2 (l6 ++ ((lookR k e l1 g2).1).fFirst) (l7 ++ ((lookR k e l1 g2).1).fLast) < mu x65 l1 g2 y40 l6 l7))) (Q ((RegularEnds.mk y40 l6 l7), l1, g2)))) (IfP (x.lab.fKind == 4) (∃ e_2, idx x.kids 0 = some e_2 ∧
 ((lookS k e_2 lets nxt).isSome) ∧
 partOk 1 (x.kids.length : Int) x.kids.length ∧
 ∃ (Inv_2 : Int → (List Int) → (List (List Int)) → RegularEnds → Prop) (mu_2 : Int → (List Int) → (List (List Int)) → RegularEnds → Nat), Inv_2 0 ((lookR k e_2 lets nxt).2.1) ((lookR k e_2 lets nxt).2.2) ((lookR k e_2 lets nxt).1) ∧
 ∀ (x109 : Int) (l1_2 : (List Int)) (g2_2 : (List (List Int))) (y4 : RegularEnds) , Inv_2 x109 l1_2 g2_2 y4 → (IfP (decide (x109 < (((x.kids.take ((x.kids.length : Int) : Int).toNat).drop (1 : Int).toNat).length : Int))) (∃ e_3, idx ((x.kids.take ((x.kids.length : Int) : Int).toNat).drop (1 : Int).toNat) x109 = some e_3 ∧
 ((lookS k e_3 l1_2 g2_2).isSome) ∧
 ((tieS y4.fLast ((lookR k e_3 l1_2 g2_2).1).fFirst ((lookR k e_3 l1_2 g2_2).2.2)).isSome ∧ bhdOk y4 ((lookR k e_3 l1_2 g2_2).1)) ∧
 (Inv_2 (wr (x109 + 1)) (((lookR k e_3 l1_2 g2_2).2.1)) (tieR y4.fLast ((lookR k e_3 l1_2 g2_2).1).fFirst ((lookR k e_3 l1_2 g2_2).2.2)) (bhdR y4 ((lookR k e_3 l1_2 g2_2).1)) ∧ mu_2 (wr (x109 + 1)) (((lookR k e_3 l1_2 g2_2).2.1)) (tieR y4.fLast ((lookR k e_3 l1_2 g2_2).1).fFirst ((lookR k e_3 l1_2 g2_2).2.2)) (bhdR y4 ((lookR k e_3 l1_2 g2_2).1)) < mu_2 x109 l1_2 g2_2 y4)) (Q (y4, l1_2, g2_2)))) (∃ e_4, idx x.kids 0 = some e_4 ∧
 ((lookS k e_4 lets nxt).isSome) ∧
 ((tieS ((lookR k e_4 lets nxt).1).fLast ((lookR k e_4 lets nxt).1).fFirst ((lookR k e_4 lets nxt).2.2)).isSome) ∧
 Q ((RegularEnds.mk true ((lookR k e_4 lets nxt).1).fFirst ((lookR k e_4 lets nxt).1).fLast), (((lookR k e_4 lets nxt).2.1)), (tieR ((lookR k e_4 lets nxt).1).fLast ((lookR k e_4 lets nxt).1).fFirst ((lookR k e_4 lets nxt).2.2))))))))
noncomputable abbrev qrLook0 (x : RTr) := (I (((x.kids.take ((x.kids.length : Int) : Int).toNat).drop (1 : Int).toNat).length : Int))
noncomputable abbrev qrLook1 (x : RTr) := (LS (TT rLab) ((x.kids.take ((x.kids.length : Int) : Int).toNat).drop (1 : Int).toNat))
noncomputable abbrev qrLook2 (lets : (List Int)) (x : RTr) := (wr (((lets ++ ([x.lab.fLetter] : (List Int))).length : Int) - 1))
noncomputable abbrev qrLook3 (x : RTr) := (LS (TT rLab) x.kids)
noncomputable abbrev qrLook4 (x : RTr) := (I (x.kids.length : Int))
set_option maxHeartbeats 2000000 in
theorem rLook_walk (k : Nat) (lets : (List Int)) (nxt : (List (List Int))) (x : RTr) (ih : LC k) (Q : RegularEnds × (List Int) × (List (List Int)) → Prop) (h : rLook_vc k lets nxt x Q) : CtE 158 [.sv (.one (.ptr 0 0)), .sv (.one (.rd (trR rLab x)))] [.box [.own 1, .gs 2 0] 161 false, rowI 3 intT lets, gridI 23 3 intT nxt] [0] Q (fun (r : RegularEnds × (List Int) × (List (List Int))) => .sv (.agg [B r.1.fEmpty, LS intT r.1.fFirst, LS intT r.1.fLast])) (fun (r : RegularEnds × (List Int) × (List (List Int))) => [.box [.own 1, .gs 2 0] 161 false, rowI 3 intT r.2.1, gridI 23 3 intT r.2.2]) := by
 have ht := tab_ok
 refine CtE.body Try.func158 rfl rfl rfl (by kernel_rfl) (by kernel_rfl) (fun c Bk hn => ?_)
 unfold rLook_vc at h
 show En c ⟨[sl 0 (.pptr 0 0 (Bk 0)), sl 1 (.rd (trR rLab x))], [.box [.own 1, .gs 2 0] 161 false, rowI 3 intT lets, gridI 23 3 intT nxt]⟩ _
 refine En.seq ?_
 refine En.region ?_
 refine WL.run ht hn 1 ⟨[sl 0 (.pptr 0 0 (Bk 0)), sl 1 (.rd (trR rLab x)), sl 4 (.ptr 3 0)], [.box [.own 1, .gs 2 0] 161 false, rowI 3 intT lets, gridI 23 3 intT nxt, .box [B false, .v (.slice none 0 0), .v (.slice none 0 0)] 272 false]⟩ (by kernel_rfl) ?_
 refine WL.nil ?_
 refine En.seq ?_
 refine En.seq ?_
 refine En.region ?_
 refine WL.run ht hn 1 ⟨[sl 0 (.pptr 0 0 (Bk 0)), sl 1 (.rd (trR rLab x)), sl 4 (.ptr 3 0), sl 14 (.rd (trR rLab x))], [.box [.own 1, .gs 2 0] 161 false, rowI 3 intT lets, gridI 23 3 intT nxt, .box [B false, .v (.slice none 0 0), .v (.slice none 0 0)] 272 false]⟩ (by kernel_rfl) ?_
 refine WL.val hn (by rfl) (val_node (s := .agg [I x.lab.fKind, I x.lab.fLetter, LS (TT rLab) x.kids]) (t := x) (lab := rLab) rLabH rfl (by rfl) rfl rfl) (by rfl) ?_
 refine WL.val hn (by rfl) (val_field (l := [I x.lab.fKind, I x.lab.fLetter, LS (TT rLab) x.kids]) (r := .one (I x.lab.fKind)) ht rfl (by rfl) (by rfl) (by rfl) (by rfl) (by rfl) (by rfl)) (by rfl) ?_
 refine WL.val hn (by rfl) (val_load (s := .one (I x.lab.fKind)) ht rfl (by rfl) (by rfl) (by rfl) (by rfl) (by rfl)) (by rfl) ?_
 refine WL.nil ?_
 refine En.block ?_
 refine En.seq ?_
 refine En.region ?_
 refine WL.run ht hn 2 ⟨[sl 0 (.pptr 0 0 (Bk 0)), sl 1 (.rd (trR rLab x)), sl 4 (.ptr 3 0), sl 17 (I x.lab.fKind), sl 18 (B (x.lab.fKind == 0))], [.box [.own 1, .gs 2 0] 161 false, rowI 3 intT lets, gridI 23 3 intT nxt, .box [B false, .v (.slice none 0 0), .v (.slice none 0 0)] 272 false]⟩ (by kernel_rfl) ?_
 refine WL.nil ?_
 refine En.cond (b := (x.lab.fKind == 0)) (by kernel_rfl) (fun hb => ?_) (fun hb => ?_)
 replace h := h.1 hb
 refine En.seq ?_
 refine En.region ?_
 refine WL.run ht hn 2 ⟨[sl 0 (.pptr 0 0 (Bk 0)), sl 4 (.ptr 3 0)], [.box [.own 1, .gs 2 0] 161 false, rowI 3 intT lets, gridI 23 3 intT nxt, .box [B false, .v (.slice none 0 0), .v (.slice none 0 0)] 272 false]⟩ (by kernel_rfl) ?_
 refine WL.nil ?_
 refine En.ret ?_
 refine En.nilBox (T := intT) 3 1 (by rfl) (by rfl) ?_
 refine En.nilBox (T := intT) 3 2 (by rfl) (by rfl) ?_
 exact En.backE [0] ht ((RegularEnds.mk false [] []), lets, nxt) h (by kernel_rfl) (by rfl) rfl
 replace h := h.2 hb
 refine En.seq ?_
 refine En.region ?_
 refine WL.run ht hn 2 ⟨[sl 0 (.pptr 0 0 (Bk 0)), sl 1 (.rd (trR rLab x)), sl 4 (.ptr 3 0), sl 17 (I x.lab.fKind), sl 21 (B (x.lab.fKind == 1))], [.box [.own 1, .gs 2 0] 161 false, rowI 3 intT lets, gridI 23 3 intT nxt, .box [B false, .v (.slice none 0 0), .v (.slice none 0 0)] 272 false]⟩ (by kernel_rfl) ?_
 refine WL.nil ?_
 refine En.cond (b := (x.lab.fKind == 1)) (by kernel_rfl) (fun hb => ?_) (fun hb => ?_)
 replace h := h.1 hb
 refine En.seq ?_
 refine En.region ?_
 refine WL.run ht hn 2 ⟨[sl 0 (.pptr 0 0 (Bk 0)), sl 4 (.ptr 3 0)], [.box [.own 1, .gs 2 0] 161 false, rowI 3 intT lets, gridI 23 3 intT nxt, .box [B true, .v (.slice none 0 0), .v (.slice none 0 0)] 272 false]⟩ (by kernel_rfl) ?_
 refine WL.nil ?_
 refine En.ret ?_
 refine En.nilBox (T := intT) 3 1 (by rfl) (by rfl) ?_
 refine En.nilBox (T := intT) 3 2 (by rfl) (by rfl) ?_
 exact En.backE [0] ht ((RegularEnds.mk true [] []), lets, nxt) h (by kernel_rfl) (by rfl) rfl
 replace h := h.2 hb
 refine En.seq ?_
 refine En.region ?_
 refine WL.run ht hn 2 ⟨[sl 0 (.pptr 0 0 (Bk 0)), sl 1 (.rd (trR rLab x)), sl 4 (.ptr 3 0), sl 17 (I x.lab.fKind), sl 24 (B (x.lab.fKind == 2))], [.box [.own 1, .gs 2 0] 161 false, rowI 3 intT lets, gridI 23 3 intT nxt, .box [B false, .v (.slice none 0 0), .v (.slice none 0 0)] 272 false]⟩ (by kernel_rfl) ?_
 refine WL.nil ?_
 refine En.cond (b := (x.lab.fKind == 2)) (by kernel_rfl) (fun hb => ?_) (fun hb => ?_)
 replace h := h.1 hb
 refine En.seq ?_
 have hp_2 := h.1
 replace h := h.2
 refine En.regionA ⟨[sl 0 (.pptr 0 0 (Bk 0)), sl 1 (.rd (trR rLab x)), sl 4 (.ptr 3 0)], [.sv (.one (.ptr 0 0)), .sv (.one (.ptr 0 0)), .sv (.one (.ptr 0 0)), .sv (.one (.ptr 0 0)), .sv (.one (.own 1)), .sv (.one (.rd (trR rLab x))), .sv (.one (.pe (svR (.agg [I x.lab.fKind, I x.lab.fLetter, LS (TT rLab) x.kids])) 3)), .sv (.one (.pe (svR (.one (I x.lab.fLetter))) 1)), .sv (.one (I x.lab.fLetter)), .sv (.one (LS intT ([x.lab.fLetter] : (List Int)))), .sv (.one (.own 4)), .sv (.one (.ptr 0 0)), .sv (.one (.ptr 0 0)), .tup []], [⟨.box [.own 1, .gs 2 0] 161 false, none, none, some (13, .box [.own 4, .gs 2 0] 161 false)⟩, ⟨rowI 3 intT lets, none, some 10, none⟩, ⟨gridI 23 3 intT nxt, none, none, none⟩, ⟨.box [B false, .v (.slice none 0 0), .v (.slice none 0 0)] 272 false, none, none, none⟩, ⟨rowI 3 intT (lets ++ ([x.lab.fLetter] : (List Int))), some 10, none, none⟩]⟩ ⟨[sl 0 (.pptr 0 0 (Bk 0)), sl 4 (.ptr 3 0)], [.box [.own 4, .gs 2 0] 161 false, .gone, gridI 23 3 intT nxt, .box [B false, .v (.slice none 0 0), .v (.slice none 0 0)] 272 false, rowI 3 intT (lets ++ ([x.lab.fLetter] : (List Int)))]⟩ (by kernel_rfl) hn (by kernel_rfl) (by rfl) (by kernel_rfl) ?_ (by kernel_rfl) ?_
 exact ⟨.mt ⟨[sl 0 (.pptr 0 0 (Bk 0))], []⟩ [] none (by kernel_rfl) (by rfl) (mt_ev ht (by kernel_rfl)) rfl rfl rfl rfl,
 .mt ⟨[sl 0 (.pptr 0 0 (Bk 0))], []⟩ [] none (by kernel_rfl) (by rfl) (mt_ev ht (by kernel_rfl)) rfl rfl rfl rfl,
 .mt ⟨[sl 27 (.ptr 0 0)], []⟩ [] none (by kernel_rfl) (by rfl) (mt_ev ht (by kernel_rfl)) rfl rfl rfl rfl,
 .mt ⟨[sl 28 (.ptr 0 0)], []⟩ [] none (by kernel_rfl) (by rfl) (mt_ev ht (by kernel_rfl)) rfl rfl rfl rfl,
 .mt ⟨[sl 29 (.ptr 0 0)], [.box [.own 1, .gs 2 0] 161 false]⟩ [] none (by kernel_rfl) (by rfl) (mt_ev ht (by kernel_rfl)) rfl rfl rfl rfl,
 .mt ⟨[sl 1 (.rd (trR rLab x))], []⟩ [] none (by kernel_rfl) (by rfl) (mt_ev ht (by kernel_rfl)) rfl rfl rfl rfl,
 .mt ⟨[sl 31 (.rd (trR rLab x))], []⟩ [] none (by kernel_rfl) (by rfl) (mt_val (val_node (s := .agg [I x.lab.fKind, I x.lab.fLetter, LS (TT rLab) x.kids]) (t := x) (lab := rLab) rLabH rfl (by rfl) rfl rfl)) rfl rfl rfl rfl,
 .mt ⟨[sl 32 (.pe (svR (.agg [I x.lab.fKind, I x.lab.fLetter, LS (TT rLab) x.kids])) 3)], []⟩ [] none (by kernel_rfl) (by rfl) (mt_val (val_field (l := [I x.lab.fKind, I x.lab.fLetter, LS (TT rLab) x.kids]) (r := .one (I x.lab.fLetter)) ht rfl (by rfl) (by rfl) (by rfl) (by rfl) (by rfl) (by rfl))) rfl rfl rfl rfl,
 .mt ⟨[sl 33 (.pe (svR (.one (I x.lab.fLetter))) 1)], []⟩ [] none (by kernel_rfl) (by rfl) (mt_val (val_load (s := .one (I x.lab.fLetter)) ht rfl (by rfl) (by rfl) (by rfl) (by rfl) (by rfl))) rfl rfl rfl rfl,
 .mt ⟨[sl 34 (I x.lab.fLetter)], []⟩ [] none (by kernel_rfl) (by rfl) (mt_seal (q := 4) (e := 3) (mt_lit (T := intT) ([x.lab.fLetter] : (List Int)) (mt_bsl 4 (r := cellsOf intT ([x.lab.fLetter] : (List Int))) ht rfl (by rfl) (by rfl) (by rfl) (by kernel_rfl) (by rfl)) (fun _ h => by cases h) (fun _ => rfl) (fun _ => rfl) (by rfl) (Nat.le_of_ble_eq_true rfl))) rfl rfl rfl rfl,
 .mt ⟨[sl 30 (.own 1), sl 35 (LS intT ([x.lab.fLetter] : (List Int)))], [.gone, rowI 3 intT lets]⟩ [1] (some 4) (by kernel_rfl) (by rfl) (mt_append (T := intT) (l := lets) (es := ([x.lab.fLetter] : (List Int))) (p := 4) ht rfl (by rfl) (by rfl) (by rfl) (by rfl) (by decide) (by rfl) (by rfl) (srcLS (T := intT) (es := ([x.lab.fLetter] : (List Int))) (fun _ h => by cases h) (by decide) (by rfl)) (by exact hp_2) (by exact hp_2.le (by decide))) rfl rfl rfl rfl,
 .mt ⟨[sl 26 (.ptr 0 0)], []⟩ [] none (by kernel_rfl) (by rfl) (mt_ev ht (by kernel_rfl)) rfl rfl rfl rfl,
 .mt ⟨[sl 37 (.ptr 0 0)], []⟩ [] none (by kernel_rfl) (by rfl) (mt_ev ht (by kernel_rfl)) rfl rfl rfl rfl,
 .mu ⟨[sl 36 (.own 4), sl 38 (.ptr 0 0)], [.box [.own 1, .gs 2 0] 161 false]⟩ 0 _ _ rfl rfl (by kernel_rfl) (by rfl) (mu_store2 ht rfl (by rfl) (by rfl) (by rfl) (by rfl) (fun h => by cases h) (by rfl) (by rfl)) rfl rfl rfl rfl rfl rfl rfl,
 trivial⟩
 refine En.seq ?_
 refine En.region ?_
 refine WL.run ht hn 6 ⟨[sl 0 (.pptr 0 0 (Bk 0)), sl 4 (.ptr 3 0), sl 39 (.ptr 0 0), sl 43 (.gs 2 0), sl 44 (.bsl 5 1)], [.box [.own 4, .gs 2 0] 161 false, .gone, gridI 23 3 intT nxt, .box [B false, .v (.slice none 0 0), .v (.slice none 0 0)] 272 false, rowI 3 intT (lets ++ ([x.lab.fLetter] : (List Int))), .box [.v (.slice none 0 0)] 23 false]⟩ (by kernel_rfl) ?_
 refine WL.junk 0 1 (by rfl) ?_
 have hp := h.1
 replace h := h.2
 refine WL.mt (S2 := ⟨[sl 0 (.pptr 0 0 (Bk 0)), sl 4 (.ptr 3 0), sl 39 (.ptr 0 0), sl 44 (.bsl 5 1)], [.box [.own 4, .junk] 161 false, .gone, gridI 23 3 intT nxt, .box [B false, .v (.slice none 0 0), .v (.slice none 0 0)] 272 false, rowI 3 intT (lets ++ ([x.lab.fLetter] : (List Int))), .box [.v (.slice none 0 0)] 23 false]⟩) (K := [2]) (p := some (2, gridI 23 3 intT (nxt ++ List.replicate 1 []))) hn (by rfl) (mt_appendG (T := intT) (L := nxt) (m := 1) ht rfl (by rfl) (by rfl) (by rfl) (by rfl) (by rfl) (by rfl) (srcBsl (T := nilT) (List.replicate 1 ()) (fun _ h => by cases h) (fun _ => rfl) (fun _ => rfl) (by rfl) (by rfl) (by rfl) (by rfl)) (by exact hp) (by exact hp.le (by decide))) (by kernel_rfl) (by rfl) (by rfl) (by rfl) ?_
 refine WL.run ht hn 3 ⟨[sl 0 (.pptr 0 0 (Bk 0)), sl 4 (.ptr 3 0)], [.box [.own 4, .gs 2 0] 161 false, .gone, gridI 23 3 intT (nxt ++ List.replicate 1 []), .box [B false, .v (.slice none 0 0), .v (.slice none 0 0)] 272 false, rowI 3 intT (lets ++ ([x.lab.fLetter] : (List Int))), .gone]⟩ (by kernel_rfl) ?_
 refine WL.nil ?_
 refine En.seq ?_
 refine En.region ?_
 refine WL.run ht hn 6 ⟨[sl 0 (.pptr 0 0 (Bk 0)), sl 4 (.ptr 3 0), sl 53 (I (qrLook2 lets x))], [.box [.own 4, .gs 2 0] 161 false, .gone, gridI 23 3 intT (nxt ++ List.replicate 1 []), .box [B false, .v (.slice none 0 0), .v (.slice none 0 0)] 272 false, rowI 3 intT (lets ++ ([x.lab.fLetter] : (List Int))), .gone]⟩ (by kernel_rfl) ?_
 refine WL.mt0 (K := []) (p := some (6, rowI 3 intT ([(qrLook2 lets x)] : (List Int)))) hn (by rfl) (mt_lit (T := intT) ([(qrLook2 lets x)] : (List Int)) (mt_bsl 6 (r := cellsOf intT ([(qrLook2 lets x)] : (List Int))) ht rfl (by rfl) (by rfl) (by rfl) (by kernel_rfl) (by rfl)) (fun _ h => by cases h) (fun _ => rfl) (fun _ => rfl) (by rfl) (Nat.le_of_ble_eq_true rfl)) (by rfl) (by rfl) (by rfl) ?_
 refine WL.run ht hn 1 ⟨[sl 0 (.pptr 0 0 (Bk 0)), sl 4 (.ptr 3 0), sl 5 (.own 6)], [.box [.own 4, .gs 2 0] 161 false, .gone, gridI 23 3 intT (nxt ++ List.replicate 1 []), .box [B false, .v (.slice none 0 0), .v (.slice none 0 0)] 272 false, rowI 3 intT (lets ++ ([x.lab.fLetter] : (List Int))), .gone, rowI 3 intT ([(qrLook2 lets x)] : (List Int))]⟩ (by kernel_rfl) ?_
 refine WL.nil ?_
 refine En.seq ?_
 refine En.region ?_
 refine WL.run ht hn 4 ⟨[sl 0 (.pptr 0 0 (Bk 0)), sl 4 (.ptr 3 0)], [.box [.own 4, .gs 2 0] 161 false, .gone, gridI 23 3 intT (nxt ++ List.replicate 1 []), .box [B false, .own 6, .own 6] 272 false, rowI 3 intT (lets ++ ([x.lab.fLetter] : (List Int))), .gone, rowI 3 intT ([(qrLook2 lets x)] : (List Int))]⟩ (by kernel_rfl) ?_
 refine WL.nil ?_
 refine En.ret ?_
 refine En.seal (T := intT) (l := ([(qrLook2 lets x)] : (List Int))) (e := 3) 6 rfl ?_
 refine En.move 4 1 (by rfl) (by rfl) ?_
 exact En.backE [0] ht ((RegularEnds.mk false ([(qrLook2 lets x)] : (List Int)) ([(qrLook2 lets x)] : (List Int))), (lets ++ ([x.lab.fLetter] : (List Int))), (nxt ++ List.replicate 1 [])) h (by kernel_rfl) (by rfl) rfl
 replace h := h.2 hb
 refine En.seq ?_
 refine En.region ?_
 refine WL.run ht hn 2 ⟨[sl 0 (.pptr 0 0 (Bk 0)), sl 1 (.rd (trR rLab x)), sl 4 (.ptr 3 0), sl 17 (I x.lab.fKind), sl 58 (B (x.lab.fKind == 3))], [.box [.own 1, .gs 2 0] 161 false, rowI 3 intT lets, gridI 23 3 intT nxt, .box [B false, .v (.slice none 0 0), .v (.slice none 0 0)] 272 false]⟩ (by kernel_rfl) ?_
 refine WL.nil ?_
 refine En.cond (b := (x.lab.fKind == 3)) (by kernel_rfl) (fun hb => ?_) (fun hb => ?_)
 replace h := h.1 hb
 refine En.seq ?_
 refine En.region ?_
 refine WL.run ht hn 1 ⟨[sl 0 (.pptr 0 0 (Bk 0)), sl 1 (.rd (trR rLab x)), sl 4 (.ptr 3 0), sl 6 (.ptr 4 0)], [.box [.own 1, .gs 2 0] 161 false, rowI 3 intT lets, gridI 23 3 intT nxt, .box [B false, .v (.slice none 0 0), .v (.slice none 0 0)] 272 false, .box [B false, .v (.slice none 0 0), .v (.slice none 0 0)] 272 false]⟩ (by kernel_rfl) ?_
 refine WL.nil ?_
 refine En.seq ?_
 refine En.seq ?_
 refine En.region ?_
 refine WL.run ht hn 1 ⟨[sl 0 (.pptr 0 0 (Bk 0)), sl 4 (.ptr 3 0), sl 6 (.ptr 4 0), sl 60 (.rd (trR rLab x))], [.box [.own 1, .gs 2 0] 161 false, rowI 3 intT lets, gridI 23 3 intT nxt, .box [B false, .v (.slice none 0 0), .v (.slice none 0 0)] 272 false, .box [B false, .v (.slice none 0 0), .v (.slice none 0 0)] 272 false]⟩ (by kernel_rfl) ?_
 refine WL.val hn (by rfl) (val_node (s := .agg [I x.lab.fKind, I x.lab.fLetter, LS (TT rLab) x.kids]) (t := x) (lab := rLab) rLabH rfl (by rfl) rfl rfl) (by rfl) ?_
 refine WL.val hn (by rfl) (val_field (l := [I x.lab.fKind, I x.lab.fLetter, LS (TT rLab) x.kids]) (r := .one (qrLook3 x)) ht rfl (by rfl) (by rfl) (by rfl) (by rfl) (by rfl) (by rfl)) (by rfl) ?_
 refine WL.val hn (by rfl) (val_load (s := .one (qrLook3 x)) ht rfl (by rfl) (by rfl) (by rfl) (by rfl) (by rfl)) (by rfl) ?_
 refine WL.run ht hn 2 ⟨[sl 0 (.pptr 0 0 (Bk 0)), sl 4 (.ptr 3 0), sl 6 (.ptr 4 0), sl 63 (qrLook3 x), sl 64 (qrLook4 x), sl 65 (I 0)], [.box [.own 1, .gs 2 0] 161 false, rowI 3 intT lets, gridI 23 3 intT nxt, .box [B false, .v (.slice none 0 0), .v (.slice none 0 0)] 272 false, .box [B false, .v (.slice none 0 0), .v (.slice none 0 0)] 272 false]⟩ (by kernel_rfl) ?_
 refine WL.nil ?_
 refine En.block ?_
 refine En.nilBoxO (T := intT) 4 1 6 3 (by rfl) (by rfl) (by rfl) (by rfl) ?_
 refine En.nilBoxO (T := intT) 4 2 7 3 (by rfl) (by rfl) (by rfl) (by rfl) ?_
 obtain ⟨Inv, mu, h0, hI⟩ := h
 refine En.loop (σ := Int × (List Int) × (List (List Int)) × Bool × (List Int) × (List Int)) (fun zz => Inv zz.1 zz.2.1 zz.2.2.1 zz.2.2.2.1 zz.2.2.2.2.1 zz.2.2.2.2.2) (fun zz => mu zz.1 zz.2.1 zz.2.2.1 zz.2.2.2.1 zz.2.2.2.2.1 zz.2.2.2.2.2) (fun zz => ⟨[sl 0 (.pptr 0 0 (Bk 0)), sl 4 (.ptr 3 0), sl 6 (.ptr 4 0), sl 63 (qrLook3 x), sl 64 (qrLook4 x), sl 65 (I zz.1)], [.box [.own 1, .gs 2 0] 161 false, rowI 3 intT zz.2.1, gridI 23 3 intT zz.2.2.1, .box [B false, .v (.slice none 0 0), .v (.slice none 0 0)] 272 false, .box [B zz.2.2.2.1, .own 6, .own 7] 272 false, .gone, rowI 3 intT zz.2.2.2.2.1, rowI 3 intT zz.2.2.2.2.2]⟩) (0, lets, nxt, false, ([] : (List Int)), ([] : (List Int))) h0 (sub_ok (by kernel_rfl)) ?_
 rintro ⟨x65, l1, g2, y40, l6, l7⟩ h
 replace h := hI _ _ _ _ _ _ h
 show En c ⟨[sl 0 (.pptr 0 0 (Bk 0)), sl 4 (.ptr 3 0), sl 6 (.ptr 4 0), sl 63 (qrLook3 x), sl 64 (qrLook4 x), sl 65 (I x65)], [.box [.own 1, .gs 2 0] 161 false, rowI 3 intT l1, gridI 23 3 intT g2, .box [B false, .v (.slice none 0 0), .v (.slice none 0 0)] 272 false, .box [B y40, .own 6, .own 7] 272 false, .gone, rowI 3 intT l6, rowI 3 intT l7]⟩ _
 refine En.seq ?_
 refine En.region ?_
 refine WL.run ht hn 1 ⟨[sl 0 (.pptr 0 0 (Bk 0)), sl 4 (.ptr 3 0), sl 6 (.ptr 4 0), sl 63 (qrLook3 x), sl 64 (qrLook4 x), sl 65 (I x65), sl 66 (B (decide (x65 < (x.kids.length : Int))))], [.box [.own 1, .gs 2 0] 161 false, rowI 3 intT l1, gridI 23 3 intT g2, .box [B false, .v (.slice none 0 0), .v (.slice none 0 0)] 272 false, .box [B y40, .own 6, .own 7] 272 false, .gone, rowI 3 intT l6, rowI 3 intT l7]⟩ (by kernel_rfl) ?_
 refine WL.nil ?_
 refine En.seq ?_
 refine En.cond (b := (decide (x65 < (x.kids.length : Int)))) (by kernel_rfl) (fun hb => ?_) (fun hb => ?_)
 replace h := h.1 hb
 refine En.skip ?_
 refine En.seq ?_
 refine En.block ?_
 refine En.seq ?_
 refine En.region ?_
 obtain ⟨e, he, h⟩ := h
 refine WL.val hn (by rfl) (val_index (T := (TT rLab)) (l := x.kids) (i := x65) ht rfl (by rfl) (by rfl) (by rfl) (by rfl) (by rfl) (by rfl) he) (by rfl) ?_
 refine WL.val hn (by rfl) (val_load (s := .one (.rd (trR rLab e))) ht rfl (by rfl) (by rfl) (by rfl) (by rfl) (by rfl)) (by rfl) ?_
 refine WL.run ht hn 1 ⟨[sl 0 (.pptr 0 0 (Bk 0)), sl 4 (.ptr 3 0), sl 6 (.ptr 4 0), sl 8 (.rd (trR rLab e)), sl 63 (qrLook3 x), sl 64 (qrLook4 x), sl 65 (I x65)], [.box [.own 1, .gs 2 0] 161 false, rowI 3 intT l1, gridI 23 3 intT g2, .box [B false, .v (.slice none 0 0), .v (.slice none 0 0)] 272 false, .box [B y40, .own 6, .own 7] 272 false, .gone, rowI 3 intT l6, rowI 3 intT l7]⟩ (by kernel_rfl) ?_
 refine WL.nil ?_
 refine En.seq ?_
 refine En.region ?_
 refine WL.run ht hn 2 ⟨[sl 0 (.pptr 0 0 (Bk 0)), sl 4 (.ptr 3 0), sl 6 (.ptr 4 0), sl 63 (qrLook3 x), sl 64 (qrLook4 x), sl 65 (I x65), sl 69 (.ptr 0 0), sl 70 (.rd (trR rLab e))], [.box [.own 1, .gs 2 0] 161 false, rowI 3 intT l1, gridI 23 3 intT g2, .box [B false, .v (.slice none 0 0), .v (.slice none 0 0)] 272 false, .box [B y40, .own 6, .own 7] 272 false, .gone, rowI 3 intT l6, rowI 3 intT l7]⟩ (by kernel_rfl) ?_
 have hp := h.1
 replace h := h.2
 refine WL.callE (lkI k ih e l1 g2 hp) en158 (caps := []) [0, 1, 2] hn (by rfl) rfl (by rfl) (argsAs (by kernel_rfl) (by rfl)) (by kernel_rfl) (by decide) (by rfl) (by rfl) (fun _ _ => ⟨by rfl, _, by rfl, ?_⟩)
 refine WL.run ht hn 2 ⟨[sl 0 (.pptr 0 0 (Bk 0)), sl 4 (.ptr 3 0), sl 6 (.ptr 4 0), sl 9 (.ptr 8 0), sl 63 (qrLook3 x), sl 64 (qrLook4 x), sl 65 (I x65)], [.box [.own 1, .gs 2 0] 161 false, rowI 3 intT ((lookR k e l1 g2).2.1), gridI 23 3 intT ((lookR k e l1 g2).2.2), .box [B false, .v (.slice none 0 0), .v (.slice none 0 0)] 272 false, .box [B y40, .own 6, .own 7] 272 false, .gone, rowI 3 intT l6, rowI 3 intT l7, .box [B ((lookR k e l1 g2).1).fEmpty, LS intT ((lookR k e l1 g2).1).fFirst, LS intT ((lookR k e l1 g2).1).fLast] 272 false]⟩ (by kernel_rfl) ?_
 refine WL.nil ?_
 obtain ⟨J, h, hJ⟩ := h
 refine En.seqJ (σ := Bool) (fun zz => J zz) (fun zz => ⟨[sl 0 (.pptr 0 0 (Bk 0)), sl 4 (.ptr 3 0), sl 6 (.ptr 4 0), sl 9 (.ptr 8 0), sl 63 (qrLook3 x), sl 64 (qrLook4 x), sl 65 (I x65)], [.box [.own 1, .gs 2 0] 161 false, rowI 3 intT ((lookR k e l1 g2).2.1), gridI 23 3 intT ((lookR k e l1 g2).2.2), .box [B false, .v (.slice none 0 0), .v (.slice none 0 0)] 272 false, .box [B zz, .own 6, .own 7] 272 false, .gone, rowI 3 intT l6, rowI 3 intT l7, .box [B ((lookR k e l1 g2).1).fEmpty, LS intT ((lookR k e l1 g2).1).fFirst, LS intT ((lookR k e l1 g2).1).fLast] 272 false]⟩) ?_ ?_
 refine En.region ?_
 refine WL.run ht hn 3 ⟨[sl 0 (.pptr 0 0 (Bk 0)), sl 4 (.ptr 3 0), sl 6 (.ptr 4 0), sl 9 (.ptr 8 0), sl 63 (qrLook3 x), sl 64 (qrLook4 x), sl 65 (I x65), sl 74 (B y40)], [.box [.own 1, .gs 2 0] 161 false, rowI 3 intT ((lookR k e l1 g2).2.1), gridI 23 3 intT ((lookR k e l1 g2).2.2), .box [B false, .v (.slice none 0 0), .v (.slice none 0 0)] 272 false, .box [B y40, .own 6, .own 7] 272 false, .gone, rowI 3 intT l6, rowI 3 intT l7, .box [B ((lookR k e l1 g2).1).fEmpty, LS intT ((lookR k e l1 g2).1).fFirst, LS intT ((lookR k e l1 g2).1).fLast] 272 false]⟩ (by kernel_rfl) ?_
 refine splitB y40 (fun hb => ?_) (fun hb => ?_)
 replace h := h.1 hb
 refine WL.setB 74 hb (by kernel_rfl) ?_
 refine WL.run ht hn 5 ⟨[sl 0 (.pptr 0 0 (Bk 0)), sl 4 (.ptr 3 0), sl 6 (.ptr 4 0), sl 9 (.ptr 8 0), sl 63 (qrLook3 x), sl 64 (qrLook4 x), sl 65 (I x65)], [.box [.own 1, .gs 2 0] 161 false, rowI 3 intT ((lookR k e l1 g2).2.1), gridI 23 3 intT ((lookR k e l1 g2).2.2), .box [B false, .v (.slice none 0 0), .v (.slice none 0 0)] 272 false, .box [B true, .own 6, .own 7] 272 false, .gone, rowI 3 intT l6, rowI 3 intT l7, .box [B ((lookR k e l1 g2).1).fEmpty, LS intT ((lookR k e l1 g2).1).fFirst, LS intT ((lookR k e l1 g2).1).fLast] 272 false]⟩ (by kernel_rfl) ?_
 refine WL.nil ?_
 exact En.at (I := fun zz => J zz) (T := fun zz => ⟨[sl 0 (.pptr 0 0 (Bk 0)), sl 4 (.ptr 3 0), sl 6 (.ptr 4 0), sl 9 (.ptr 8 0), sl 63 (qrLook3 x), sl 64 (qrLook4 x), sl 65 (I x65)], [.box [.own 1, .gs 2 0] 161 false, rowI 3 intT ((lookR k e l1 g2).2.1), gridI 23 3 intT ((lookR k e l1 g2).2.2), .box [B false, .v (.slice none 0 0), .v (.slice none 0 0)] 272 false, .box [B zz, .own 6, .own 7] 272 false, .gone, rowI 3 intT l6, rowI 3 intT l7, .box [B ((lookR k e l1 g2).1).fEmpty, LS intT ((lookR k e l1 g2).1).fFirst, LS intT ((lookR k e l1 g2).1).fLast] 272 false]⟩) true h (by kernel_rfl)
 replace h := h.2 hb
 refine WL.setB 74 hb (by kernel_rfl) ?_
 refine WL.run ht hn 5 ⟨[sl 0 (.pptr 0 0 (Bk 0)), sl 4 (.ptr 3 0), sl 6 (.ptr 4 0), sl 9 (.ptr 8 0), sl 63 (qrLook3 x), sl 64 (qrLook4 x), sl 65 (I x65)], [.box [.own 1, .gs 2 0] 161 false, rowI 3 intT ((lookR k e l1 g2).2.1), gridI 23 3 intT ((lookR k e l1 g2).2.2), .box [B false, .v (.slice none 0 0), .v (.slice none 0 0)] 272 false, .box [B ((lookR k e l1 g2).1).fEmpty, .own 6, .own 7] 272 false, .gone, rowI 3 intT l6, rowI 3 intT l7, .box [B ((lookR k e l1 g2).1).fEmpty, LS intT ((lookR k e l1 g2).1).fFirst, LS intT ((lookR k e l1 g2).1).fLast] 272 false]⟩ (by kernel_rfl) ?_
 refine WL.nil ?_
 exact En.at (I := fun zz => J zz) (T := fun zz => ⟨[sl 0 (.pptr 0 0 (Bk 0)), sl 4 (.ptr 3 0), sl 6 (.ptr 4 0), sl 9 (.ptr 8 0), sl 63 (qrLook3 x), sl 64 (qrLook4 x), sl 65 (I x65)], [.box [.own 1, .gs 2 0] 161 false, rowI 3 intT ((lookR k e l1 g2).2.1), gridI 23 3 intT ((lookR k e l1 g2).2.2), .box [B false, .v (.slice none 0 0), .v (.slice none 0 0)] 272 false, .box [B zz, .own 6, .own 7] 272 false, .gone, rowI 3 intT l6, rowI 3 intT l7, .box [B ((lookR k e l1 g2).1).fEmpty, LS intT ((lookR k e l1 g2).1).fFirst, LS intT ((lookR k e l1 g2).1).fLast] 272 false]⟩) ((lookR k e l1 g2).1).fEmpty h (by kernel_rfl)
 intro y40_2 h
 replace h := hJ _ h
 show En c ⟨[sl 0 (.pptr 0 0 (Bk 0)), sl 4 (.ptr 3 0), sl 6 (.ptr 4 0), sl 9 (.ptr 8 0), sl 63 (qrLook3 x), sl 64 (qrLook4 x), sl 65 (I x65)], [.box [.own 1, .gs 2 0] 161 false, rowI 3 intT ((lookR k e l1 g2).2.1), gridI 23 3 intT ((lookR k e l1 g2).2.2), .box [B false, .v (.slice none 0 0), .v (.slice none 0 0)] 272 false, .box [B y40_2, .own 6, .own 7] 272 false, .gone, rowI 3 intT l6, rowI 3 intT l7, .box [B ((lookR k e l1 g2).1).fEmpty, LS intT ((lookR k e l1 g2).1).fFirst, LS intT ((lookR k e l1 g2).1).fLast] 272 false]⟩ _
 have hp_3 := h.1
 replace h := h.2
 have hp_4 := h.1
 replace h := h.2
 refine En.regionT ⟨[sl 0 (.pptr 0 0 (Bk 0)), sl 4 (.ptr 3 0), sl 6 (.ptr 4 0), sl 9 (.ptr 8 0), sl 63 (qrLook3 x), sl 64 (qrLook4 x), sl 65 (I x65)], [.sv (.one (.ptr 4 1)), .sv (.one (.own 6)), .sv (.one (.ptr 8 1)), .sv (.one (LS intT ((lookR k e l1 g2).1).fFirst)), .sv (.one (.own 9)), .sv (.one (.ptr 4 2)), .sv (.one (.own 7)), .sv (.one (.ptr 8 2)), .sv (.one (LS intT ((lookR k e l1 g2).1).fLast)), .sv (.one (.own 10)), .sv (.one (.ptr 4 1))], [⟨.box [.own 1, .gs 2 0] 161 false, none, none, none⟩, ⟨rowI 3 intT ((lookR k e l1 g2).2.1), none, none, none⟩, ⟨gridI 23 3 intT ((lookR k e l1 g2).2.2), none, none, none⟩, ⟨.box [B false, .v (.slice none 0 0), .v (.slice none 0 0)] 272 false, none, none, none⟩, ⟨.box [B y40_2, .own 6, .own 7] 272 false, none, none, none⟩, ⟨.gone, none, none, none⟩, ⟨rowI 3 intT l6, none, some 4, none⟩, ⟨rowI 3 intT l7, none, some 9, none⟩, ⟨.box [B ((lookR k e l1 g2).1).fEmpty, LS intT ((lookR k e l1 g2).1).fFirst, LS intT ((lookR k e l1 g2).1).fLast] 272 false, none, none, none⟩, ⟨rowI 3 intT (l6 ++ ((lookR k e l1 g2).1).fFirst), some 4, none, none⟩, ⟨rowI 3 intT (l7 ++ ((lookR k e l1 g2).1).fLast), some 9, none, none⟩]⟩ 11 ⟨[sl 0 (.pptr 0 0 (Bk 0)), sl 4 (.ptr 3 0), sl 6 (.ptr 4 0), sl 63 (qrLook3 x), sl 64 (qrLook4 x), sl 65 (I x65), sl 83 (.own 9), sl 88 (.own 10), sl 89 (.ptr 4 1)], [.box [.own 1, .gs 2 0] 161 false, rowI 3 intT ((lookR k e l1 g2).2.1), gridI 23 3 intT ((lookR k e l1 g2).2.2), .box [B false, .v (.slice none 0 0), .v (.slice none 0 0)] 272 false, .box [B y40_2, .own 6, .own 7] 272 false, .gone, .gone, .gone, .gone, rowI 3 intT (l6 ++ ((lookR k e l1 g2).1).fFirst), rowI 3 intT (l7 ++ ((lookR k e l1 g2).1).fLast)]⟩ (by kernel_rfl) hn (by kernel_rfl) (by kernel_rfl) (by kernel_rfl) (by rfl) (by kernel_rfl) ?_ (by kernel_rfl) ?_
 exact ⟨.mt ⟨[sl 6 (.ptr 4 0)], []⟩ [] none (by kernel_rfl) (by rfl) (mt_ev ht (by kernel_rfl)) rfl rfl rfl rfl,
 .mt ⟨[sl 79 (.ptr 4 1)], [.gone, .gone, .gone, .gone, .box [B y40_2, .own 6, .own 7] 272 false]⟩ [] none (by kernel_rfl) (by rfl) (mt_ev ht (by kernel_rfl)) rfl rfl rfl rfl,
 .mt ⟨[sl 9 (.ptr 8 0)], []⟩ [] none (by kernel_rfl) (by rfl) (mt_ev ht (by kernel_rfl)) rfl rfl rfl rfl,
 .mt ⟨[sl 81 (.ptr 8 1)], [.gone, .gone, .gone, .gone, .gone, .gone, .gone, .gone, .box [B ((lookR k e l1 g2).1).fEmpty, LS intT ((lookR k e l1 g2).1).fFirst, LS intT ((lookR k e l1 g2).1).fLast] 272 false]⟩ [] none (by kernel_rfl) (by rfl) (mt_ev ht (by kernel_rfl)) rfl rfl rfl rfl,
 .mt ⟨[sl 80 (.own 6), sl 82 (LS intT ((lookR k e l1 g2).1).fFirst)], [.gone, .gone, .gone, .gone, .gone, .gone, rowI 3 intT l6]⟩ [6] (some 9) (by kernel_rfl) (by rfl) (mt_append (T := intT) (l := l6) (es := ((lookR k e l1 g2).1).fFirst) (p := 9) ht rfl (by rfl) (by rfl) (by rfl) (by rfl) (by decide) (by rfl) (by rfl) (srcLS (T := intT) (es := ((lookR k e l1 g2).1).fFirst) (fun _ h => by cases h) (by decide) (by rfl)) (by exact hp_3) (by exact hp_3.le (by decide))) rfl rfl rfl rfl,
 .mt ⟨[sl 6 (.ptr 4 0)], []⟩ [] none (by kernel_rfl) (by rfl) (mt_ev ht (by kernel_rfl)) rfl rfl rfl rfl,
 .mt ⟨[sl 84 (.ptr 4 2)], [.gone, .gone, .gone, .gone, .box [B y40_2, .own 6, .own 7] 272 false]⟩ [] none (by kernel_rfl) (by rfl) (mt_ev ht (by kernel_rfl)) rfl rfl rfl rfl,
 .mt ⟨[sl 9 (.ptr 8 0)], []⟩ [] none (by kernel_rfl) (by rfl) (mt_ev ht (by kernel_rfl)) rfl rfl rfl rfl,
 .mt ⟨[sl 86 (.ptr 8 2)], [.gone, .gone, .gone, .gone, .gone, .gone, .gone, .gone, .box [B ((lookR k e l1 g2).1).fEmpty, LS intT ((lookR k e l1 g2).1).fFirst, LS intT ((lookR k e l1 g2).1).fLast] 272 false]⟩ [] none (by kernel_rfl) (by rfl) (mt_ev ht (by kernel_rfl)) rfl rfl rfl rfl,
 .mt ⟨[sl 85 (.own 7), sl 87 (LS intT ((lookR k e l1 g2).1).fLast)], [.gone, .gone, .gone, .gone, .gone, .gone, .gone, rowI 3 intT l7]⟩ [7] (some 10) (by kernel_rfl) (by rfl) (mt_append (T := intT) (l := l7) (es := ((lookR k e l1 g2).1).fLast) (p := 10) ht rfl (by rfl) (by rfl) (by rfl) (by rfl) (by decide) (by rfl) (by rfl) (srcLS (T := intT) (es := ((lookR k e l1 g2).1).fLast) (fun _ h => by cases h) (by decide) (by rfl)) (by exact hp_4) (by exact hp_4.le (by decide))) rfl rfl rfl rfl,
 .mt ⟨[sl 6 (.ptr 4 0)], []⟩ [] none (by kernel_rfl) (by rfl) (mt_ev ht (by kernel_rfl)) rfl rfl rfl rfl,
 trivial⟩
 refine WL.run ht hn 3 ⟨[sl 0 (.pptr 0 0 (Bk 0)), sl 4 (.ptr 3 0), sl 6 (.ptr 4 0), sl 63 (qrLook3 x), sl 64 (qrLook4 x), sl 65 (I x65)], [.box [.own 1, .gs 2 0] 161 false, rowI 3 intT ((lookR k e l1 g2).2.1), gridI 23 3 intT ((lookR k e l1 g2).2.2), .box [B false, .v (.slice none 0 0), .v (.slice none 0 0)] 272 false, .box [B y40_2, .own 9, .own 10] 272 false, .gone, .gone, .gone, .gone, rowI 3 intT (l6 ++ ((lookR k e l1 g2).1).fFirst), rowI 3 intT (l7 ++ ((lookR k e l1 g2).1).fLast)]⟩ (by kernel_rfl) ?_
 refine WL.nil ?_
 refine En.region ?_
 refine WL.run ht hn 2 ⟨[sl 0 (.pptr 0 0 (Bk 0)), sl 4 (.ptr 3 0), sl 6 (.ptr 4 0), sl 63 (qrLook3 x), sl 64 (qrLook4 x), sl 65 (I (wr (x65 + 1)))], [.box [.own 1, .gs 2 0] 161 false, rowI 3 intT ((lookR k e l1 g2).2.1), gridI 23 3 intT ((lookR k e l1 g2).2.2), .box [B false, .v (.slice none 0 0), .v (.slice none 0 0)] 272 false, .box [B y40_2, .own 9, .own 10] 272 false, .gone, .gone, .gone, .gone, rowI 3 intT (l6 ++ ((lookR k e l1 g2).1).fFirst), rowI 3 intT (l7 ++ ((lookR k e l1 g2).1).fLast)]⟩ (by kernel_rfl) ?_
 refine WL.nil ?_
 refine En.move 9 6 (by rfl) (by rfl) ?_
 refine En.move 10 7 (by rfl) (by rfl) ?_
 exact En.at (I := fun zz => Inv zz.1 zz.2.1 zz.2.2.1 zz.2.2.2.1 zz.2.2.2.2.1 zz.2.2.2.2.2 ∧ mu zz.1 zz.2.1 zz.2.2.1 zz.2.2.2.1 zz.2.2.2.2.1 zz.2.2.2.2.2 < mu x65 l1 g2 y40 l6 l7) (T := fun zz => ⟨[sl 0 (.pptr 0 0 (Bk 0)), sl 4 (.ptr 3 0), sl 6 (.ptr 4 0), sl 63 (qrLook3 x), sl 64 (qrLook4 x), sl 65 (I zz.1)], [.box [.own 1, .gs 2 0] 161 false, rowI 3 intT zz.2.1, gridI 23 3 intT zz.2.2.1, .box [B false, .v (.slice none 0 0), .v (.slice none 0 0)] 272 false, .box [B zz.2.2.2.1, .own 6, .own 7] 272 false, .gone, rowI 3 intT zz.2.2.2.2.1, rowI 3 intT zz.2.2.2.2.2]⟩) ((wr (x65 + 1)), ((lookR k e l1 g2).2.1), ((lookR k e l1 g2).2.2), y40_2, (l6 ++ ((lookR k e l1 g2).1).fFirst), (l7 ++ ((lookR k e l1 g2).1).fLast)) h (by kernel_rfl)
 replace h := h.2 hb
 refine En.exit rfl ?_
 refine En.seq ?_
 refine En.region ?_
 refine WL.run ht hn 2 ⟨[sl 0 (.pptr 0 0 (Bk 0)), sl 4 (.ptr 3 0)], [.box [.own 1, .gs 2 0] 161 false, rowI 3 intT l1, gridI 23 3 intT g2, .box [B y40, .own 6, .own 7] 272 false, .gone, .gone, rowI 3 intT l6, rowI 3 intT l7]⟩ (by kernel_rfl) ?_
 refine WL.nil ?_
 refine En.ret ?_
 refine En.seal (T := intT) (l := l6) (e := 3) 6 rfl ?_
 refine En.seal (T := intT) (l := l7) (e := 3) 7 rfl ?_
 exact En.backE [0] ht ((RegularEnds.mk y40 l6 l7), l1, g2) h (by kernel_rfl) (by rfl) rfl
 replace h := h.2 hb
 refine En.seq ?_
 refine En.region ?_
 refine WL.run ht hn 2 ⟨[sl 0 (.pptr 0 0 (Bk 0)), sl 1 (.rd (trR rLab x)), sl 4 (.ptr 3 0), sl 93 (B (x.lab.fKind == 4))], [.box [.own 1, .gs 2 0] 161 false, rowI 3 intT lets, gridI 23 3 intT nxt, .box [B false, .v (.slice none 0 0), .v (.slice none 0 0)] 272 false]⟩ (by kernel_rfl) ?_
 refine WL.nil ?_
 refine En.cond (b := (x.lab.fKind == 4)) (by kernel_rfl) (fun hb => ?_) (fun hb => ?_)
 replace h := h.1 hb
 refine En.seq ?_
 refine En.region ?_
 refine WL.run ht hn 2 ⟨[sl 0 (.pptr 0 0 (Bk 0)), sl 1 (.rd (trR rLab x)), sl 4 (.ptr 3 0), sl 95 (.ptr 0 0), sl 96 (.rd (trR rLab x))], [.box [.own 1, .gs 2 0] 161 false, rowI 3 intT lets, gridI 23 3 intT nxt, .box [B false, .v (.slice none 0 0), .v (.slice none 0 0)] 272 false]⟩ (by kernel_rfl) ?_
 refine WL.val hn (by rfl) (val_node (s := .agg [I x.lab.fKind, I x.lab.fLetter, LS (TT rLab) x.kids]) (t := x) (lab := rLab) rLabH rfl (by rfl) rfl rfl) (by rfl) ?_
 refine WL.val hn (by rfl) (val_field (l := [I x.lab.fKind, I x.lab.fLetter, LS (TT rLab) x.kids]) (r := .one (qrLook3 x)) ht rfl (by rfl) (by rfl) (by rfl) (by rfl) (by rfl) (by rfl)) (by rfl) ?_
 refine WL.val hn (by rfl) (val_load (s := .one (qrLook3 x)) ht rfl (by rfl) (by rfl) (by rfl) (by rfl) (by rfl)) (by rfl) ?_
 obtain ⟨e_2, he_2, h⟩ := h
 refine WL.val hn (by rfl) (val_index (T := (TT rLab)) (l := x.kids) (i := 0) ht rfl (by rfl) (by rfl) (by rfl) (by rfl) (by rfl) (by rfl) he_2) (by rfl) ?_
 refine WL.val hn (by rfl) (val_load (s := .one (.rd (trR rLab e_2))) ht rfl (by rfl) (by rfl) (by rfl) (by rfl) (by rfl)) (by rfl) ?_
 have hp := h.1
 replace h := h.2
 refine WL.callE (lkI k ih e_2 lets nxt hp) en158 (caps := []) [0, 1, 2] hn (by rfl) rfl (by rfl) (argsAs (by kernel_rfl) (by rfl)) (by kernel_rfl) (by decide) (by rfl) (by rfl) (fun _ _ => ⟨by rfl, _, by rfl, ?_⟩)
 refine WL.run ht hn 2 ⟨[sl 0 (.pptr 0 0 (Bk 0)), sl 1 (.rd (trR rLab x)), sl 4 (.ptr 3 0), sl 10 (.ptr 4 0)], [.box [.own 1, .gs 2 0] 161 false, rowI 3 intT ((lookR k e_2 lets nxt).2.1), gridI 23 3 intT ((lookR k e_2 lets nxt).2.2), .box [B false, .v (.slice none 0 0), .v (.slice none 0 0)] 272 false, .box [B ((lookR k e_2 lets nxt).1).fEmpty, LS intT ((lookR k e_2 lets nxt).1).fFirst, LS intT ((lookR k e_2 lets nxt).1).fLast] 272 false]⟩ (by kernel_rfl) ?_
 refine WL.nil ?_
 refine En.seq ?_
 refine En.seq ?_
 refine En.region ?_
 refine WL.run ht hn 1 ⟨[sl 0 (.pptr 0 0 (Bk 0)), sl 4 (.ptr 3 0), sl 10 (.ptr 4 0), sl 103 (.rd (trR rLab x))], [.box [.own 1, .gs 2 0] 161 false, rowI 3 intT ((lookR k e_2 lets nxt).2.1), gridI 23 3 intT ((lookR k e_2 lets nxt).2.2), .box [B false, .v (.slice none 0 0), .v (.slice none 0 0)] 272 false, .box [B ((lookR k e_2 lets nxt).1).fEmpty, LS intT ((lookR k e_2 lets nxt).1).fFirst, LS intT ((lookR k e_2 lets nxt).1).fLast] 272 false]⟩ (by kernel_rfl) ?_
 refine WL.val hn (by rfl) (val_node (s := .agg [I x.lab.fKind, I x.lab.fLetter, LS (TT rLab) x.kids]) (t := x) (lab := rLab) rLabH rfl (by rfl) rfl rfl) (by rfl) ?_
 refine WL.val hn (by rfl) (val_field (l := [I x.lab.fKind, I x.lab.fLetter, LS (TT rLab) x.kids]) (r := .one (qrLook3 x)) ht rfl (by rfl) (by rfl) (by rfl) (by rfl) (by rfl) (by rfl)) (by rfl) ?_
 refine WL.val hn (by rfl) (val_load (s := .one (qrLook3 x)) ht rfl (by rfl) (by rfl) (by rfl) (by rfl) (by rfl)) (by rfl) ?_
 have hp := h.1
 replace h := h.2
 refine WL.val hn (by rfl) (val_slice (T := (TT rLab)) (l := x.kids) (lv := 1) (hv := (x.kids.length : Int)) ht rfl (by rfl) (by rfl) (by rfl) (by rfl) (by rfl) (by rfl) (by rfl) hp) (by rfl) ?_
 refine WL.run ht hn 2 ⟨[sl 0 (.pptr 0 0 (Bk 0)), sl 4 (.ptr 3 0), sl 10 (.ptr 4 0), sl 107 (qrLook1 x), sl 108 (qrLook0 x), sl 109 (I 0)], [.box [.own 1, .gs 2 0] 161 false, rowI 3 intT ((lookR k e_2 lets nxt).2.1), gridI 23 3 intT ((lookR k e_2 lets nxt).2.2), .box [B false, .v (.slice none 0 0), .v (.slice none 0 0)] 272 false, .box [B ((lookR k e_2 lets nxt).1).fEmpty, LS intT ((lookR k e_2 lets nxt).1).fFirst, LS intT ((lookR k e_2 lets nxt).1).fLast] 272 false]⟩ (by kernel_rfl) ?_
 refine WL.nil ?_
 refine En.block ?_
 obtain ⟨Inv_2, mu_2, h0_2, hI_2⟩ := h
 refine En.loop (σ := Int × (List Int) × (List (List Int)) × RegularEnds) (fun zz => Inv_2 zz.1 zz.2.1 zz.2.2.1 zz.2.2.2) (fun zz => mu_2 zz.1 zz.2.1 zz.2.2.1 zz.2.2.2) (fun zz => ⟨[sl 0 (.pptr 0 0 (Bk 0)), sl 4 (.ptr 3 0), sl 10 (.ptr 4 0), sl 107 (qrLook1 x), sl 108 (qrLook0 x), sl 109 (I zz.1)], [.box [.own 1, .gs 2 0] 161 false, rowI 3 intT zz.2.1, gridI 23 3 intT zz.2.2.1, .box [B false, .v (.slice none 0 0), .v (.slice none 0 0)] 272 false, .box [B zz.2.2.2.fEmpty, LS intT zz.2.2.2.fFirst, LS intT zz.2.2.2.fLast] 272 false]⟩) (0, ((lookR k e_2 lets nxt).2.1), ((lookR k e_2 lets nxt).2.2), ((lookR k e_2 lets nxt).1)) h0_2 (sub_ok (by kernel_rfl)) ?_
 rintro ⟨x109, l1_2, g2_2, y4⟩ h
 replace h := hI_2 _ _ _ _ h
 show En c ⟨[sl 0 (.pptr 0 0 (Bk 0)), sl 4 (.ptr 3 0), sl 10 (.ptr 4 0), sl 107 (qrLook1 x), sl 108 (qrLook0 x), sl 109 (I x109)], [.box [.own 1, .gs 2 0] 161 false, rowI 3 intT l1_2, gridI 23 3 intT g2_2, .box [B false, .v (.slice none 0 0), .v (.slice none 0 0)] 272 false, .box [B y4.fEmpty, LS intT y4.fFirst, LS intT y4.fLast] 272 false]⟩ _
 refine En.seq ?_
 refine En.region ?_
 refine WL.run ht hn 1 ⟨[sl 0 (.pptr 0 0 (Bk 0)), sl 4 (.ptr 3 0), sl 10 (.ptr 4 0), sl 107 (qrLook1 x), sl 108 (qrLook0 x), sl 109 (I x109), sl 110 (B (decide (x109 < (((x.kids.take ((x.kids.length : Int) : Int).toNat).drop (1 : Int).toNat).length : Int))))], [.box [.own 1, .gs 2 0] 161 false, rowI 3 intT l1_2, gridI 23 3 intT g2_2, .box [B false, .v (.slice none 0 0), .v (.slice none 0 0)] 272 false, .box [B y4.fEmpty, LS intT y4.fFirst, LS intT y4.fLast] 272 false]⟩ (by kernel_rfl) ?_
 refine WL.nil ?_
 refine En.seq ?_
 refine En.cond (b := (decide (x109 < (((x.kids.take ((x.kids.length : Int) : Int).toNat).drop (1 : Int).toNat).length : Int)))) (by kernel_rfl) (fun hb => ?_) (fun hb => ?_)
 replace h := h.1 hb
 refine En.skip ?_
 refine En.seq ?_
 refine En.block ?_
 refine En.seq ?_
 refine En.region ?_
 obtain ⟨e_3, he_3, h⟩ := h
 refine WL.val hn (by rfl) (val_index (T := (TT rLab)) (l := ((x.kids.take ((x.kids.length : Int) : Int).toNat).drop (1 : Int).toNat)) (i := x109) ht rfl (by rfl) (by rfl) (by rfl) (by rfl) (by rfl) (by rfl) he_3) (by rfl) ?_
 refine WL.val hn (by rfl) (val_load (s := .one (.rd (trR rLab e_3))) ht rfl (by rfl) (by rfl) (by rfl) (by rfl) (by rfl)) (by rfl) ?_
 refine WL.run ht hn 1 ⟨[sl 0 (.pptr 0 0 (Bk 0)), sl 4 (.ptr 3 0), sl 10 (.ptr 4 0), sl 12 (.rd (trR rLab e_3)), sl 107 (qrLook1 x), sl 108 (qrLook0 x), sl 109 (I x109)], [.box [.own 1, .gs 2 0] 161 false, rowI 3 intT l1_2, gridI 23 3 intT g2_2, .box [B false, .v (.slice none 0 0), .v (.slice none 0 0)] 272 false, .box [B y4.fEmpty, LS intT y4.fFirst, LS intT y4.fLast] 272 false]⟩ (by kernel_rfl) ?_
 refine WL.nil ?_
 have hp_r4 := h.1
 replace h := h.2
 have hp_r5 := h.1
 replace h := h.2
 refine En.regionD ⟨[sl 0 (.pptr 0 0 (Bk 0)), sl 4 (.ptr 3 0), sl 10 (.ptr 4 0), sl 107 (qrLook1 x), sl 108 (qrLook0 x), sl 109 (I x109)], [.box [.own 1, .gs 2 0] 161 false, rowI 3 intT (((lookR k e_3 l1_2 g2_2).2.1)), gridI 23 3 intT (tieR y4.fLast ((lookR k e_3 l1_2 g2_2).1).fFirst ((lookR k e_3 l1_2 g2_2).2.2)), .box [B false, .v (.slice none 0 0), .v (.slice none 0 0)] 272 false, .box [B (bhdR y4 ((lookR k e_3 l1_2 g2_2).1)).fEmpty, LS intT (bhdR y4 ((lookR k e_3 l1_2 g2_2).1)).fFirst, LS intT (bhdR y4 ((lookR k e_3 l1_2 g2_2).1)).fLast] 272 false]⟩ (by kernel_rfl) ?_ ?_
 intro N' hF
 refine RD.have 0 #[true, true, true, true, true, true, true] ⟨[sl 0 (.pptr 0 0 (Bk 0)), sl 4 (.ptr 3 0), sl 10 (.ptr 4 0), sl 107 (qrLook1 x), sl 108 (qrLook0 x), sl 109 (I x109)], [.box [.own 1, .gs 2 0] 161 false, rowI 3 intT (((lookR k e_3 l1_2 g2_2).2.1)), gridI 23 3 intT (tieR y4.fLast ((lookR k e_3 l1_2 g2_2).1).fFirst ((lookR k e_3 l1_2 g2_2).2.2)), .box [B false, .v (.slice none 0 0), .v (.slice none 0 0)] 272 false, .box [B (bhdR y4 ((lookR k e_3 l1_2 g2_2).1)).fEmpty, LS intT (bhdR y4 ((lookR k e_3 l1_2 g2_2).1)).fFirst, LS intT (bhdR y4 ((lookR k e_3 l1_2 g2_2).1)).fLast] 272 false]⟩ (RD.nil (by kernel_rfl) hF) (fun rd21 => ?_)
 refine RD.have 1 #[true, true, true, true, true, true, false] ⟨[sl 0 (.pptr 0 0 (Bk 0)), sl 4 (.ptr 3 0), sl 10 (.ptr 4 0), sl 107 (qrLook1 x), sl 108 (qrLook0 x), sl 109 (I x109), (118, .sv (.agg [B (bhdR y4 ((lookR k e_3 l1_2 g2_2).1)).fEmpty, LS intT (bhdR y4 ((lookR k e_3 l1_2 g2_2).1)).fFirst, LS intT (bhdR y4 ((lookR k e_3 l1_2 g2_2).1)).fLast]))], [.box [.own 1, .gs 2 0] 161 false, rowI 3 intT (((lookR k e_3 l1_2 g2_2).2.1)), gridI 23 3 intT (tieR y4.fLast ((lookR k e_3 l1_2 g2_2).1).fFirst ((lookR k e_3 l1_2 g2_2).2.2)), .box [B false, .v (.slice none 0 0), .v (.slice none 0 0)] 272 false, .box [B y4.fEmpty, LS intT y4.fFirst, LS intT y4.fLast] 272 false]⟩ ?_ (fun rd20 => ?_)
 refine RD.succ [6] (by kernel_rfl) rfl ⟨⟨_, _, _, rfl, ?_, rfl, rd21⟩, trivial⟩
 exact WL.run ht hn 1 _ (by kernel_rfl) WL.nilI
 refine RD.have 2 #[true, true, true, true, true, false, false] ⟨[sl 0 (.pptr 0 0 (Bk 0)), sl 4 (.ptr 3 0), sl 10 (.ptr 4 0), sl 107 (qrLook1 x), sl 108 (qrLook0 x), sl 109 (I x109), sl 113 (.ptr 0 0), (114, .sv (.agg [B y4.fEmpty, LS intT y4.fFirst, LS intT y4.fLast])), (117, .sv (.agg [B ((lookR k e_3 l1_2 g2_2).1).fEmpty, LS intT ((lookR k e_3 l1_2 g2_2).1).fFirst, LS intT ((lookR k e_3 l1_2 g2_2).1).fLast]))], [.box [.own 1, .gs 2 0] 161 false, rowI 3 intT ((lookR k e_3 l1_2 g2_2).2.1), gridI 23 3 intT ((lookR k e_3 l1_2 g2_2).2.2), .box [B false, .v (.slice none 0 0), .v (.slice none 0 0)] 272 false, .box [B y4.fEmpty, LS intT y4.fFirst, LS intT y4.fLast] 272 false]⟩ ?_ (fun rd19 => ?_)
 refine RD.succ [5] (by kernel_rfl) rfl ⟨⟨_, _, _, rfl, ?_, rfl, rd20⟩, trivial⟩
 refine WL.callE (rBhd_ct ((lookR k e_3 l1_2 g2_2).2.1) ((lookR k e_3 l1_2 g2_2).2.2) y4 ((lookR k e_3 l1_2 g2_2).1) hp_r5) en211 (caps := []) [0, 1, 2] hn (by rfl) rfl (by rfl) (argsAs (by kernel_rfl) (by rfl)) (by kernel_rfl) (by decide) (by rfl) (by rfl) (fun _ _ => ⟨by rfl, _, by rfl, ?_⟩)
 refine WL.nil ?_
 exact sub_ok (by kernel_rfl)
 refine RD.have 3 #[false, true, true, true, true, false, false] ⟨[sl 0 (.pptr 0 0 (Bk 0)), sl 4 (.ptr 3 0), sl 10 (.ptr 4 0), sl 107 (qrLook1 x), sl 108 (qrLook0 x), sl 109 (I x109), (114, .sv (.agg [B y4.fEmpty, LS intT y4.fFirst, LS intT y4.fLast])), (117, .sv (.agg [B ((lookR k e_3 l1_2 g2_2).1).fEmpty, LS intT ((lookR k e_3 l1_2 g2_2).1).fFirst, LS intT ((lookR k e_3 l1_2 g2_2).1).fLast]))], [.box [.own 1, .gs 2 0] 161 false, rowI 3 intT ((lookR k e_3 l1_2 g2_2).2.1), gridI 23 3 intT ((lookR k e_3 l1_2 g2_2).2.2), .box [B false, .v (.slice none 0 0), .v (.slice none 0 0)] 272 false, .box [B y4.fEmpty, LS intT y4.fFirst, LS intT y4.fLast] 272 false]⟩ ?_ (fun rd18 => ?_)
 refine RD.succ [0] (by kernel_rfl) rfl ⟨⟨_, _, _, rfl, ?_, rfl, rd19⟩, trivial⟩
 exact WL.run ht hn 1 _ (by kernel_rfl) WL.nilI
 refine RD.have 3 #[true, false, true, true, true, false, false] ⟨[sl 0 (.pptr 0 0 (Bk 0)), sl 4 (.ptr 3 0), sl 10 (.ptr 4 0), sl 107 (qrLook1 x), sl 108 (qrLook0 x), sl 109 (I x109), sl 113 (.ptr 0 0), (117, .sv (.agg [B ((lookR k e_3 l1_2 g2_2).1).fEmpty, LS intT ((lookR k e_3 l1_2 g2_2).1).fFirst, LS intT ((lookR k e_3 l1_2 g2_2).1).fLast]))], [.box [.own 1, .gs 2 0] 161 false, rowI 3 intT ((lookR k e_3 l1_2 g2_2).2.1), gridI 23 3 intT ((lookR k e_3 l1_2 g2_2).2.2), .box [B false, .v (.slice none 0 0), .v (.slice none 0 0)] 272 false, .box [B y4.fEmpty, LS intT y4.fFirst, LS intT y4.fLast] 272 false]⟩ ?_ (fun rd17 => ?_)
 refine RD.succ [1] (by kernel_rfl) rfl ⟨⟨_, _, _, rfl, ?_, rfl, rd19⟩, trivial⟩
 exact WL.run ht hn 1 _ (by kernel_rfl) WL.nilI
 refine RD.have 3 #[true, true, true, true, false, false, false] ⟨[sl 0 (.pptr 0 0 (Bk 0)), sl 4 (.ptr 3 0), sl 10 (.ptr 4 0), sl 107 (qrLook1 x), sl 108 (qrLook0 x), sl 109 (I x109), sl 113 (.ptr 0 0), (114, .sv (.agg [B y4.fEmpty, LS intT y4.fFirst, LS intT y4.fLast])), sl 115 (.ptr 0 0), sl 116 (.rd (trR rLab e_3))], [.box [.own 1, .gs 2 0] 161 false, rowI 3 intT l1_2, gridI 23 3 intT g2_2, .box [B false, .v (.slice none 0 0), .v (.slice none 0 0)] 272 false, .box [B y4.fEmpty, LS intT y4.fFirst, LS intT y4.fLast] 272 false]⟩ ?_ (fun rd16 => ?_)
 refine RD.succ [4] (by kernel_rfl) rfl ⟨⟨_, _, _, rfl, ?_, rfl, rd19⟩, trivial⟩
 refine WL.callE (lkI k ih e_3 l1_2 g2_2 hp_r4) en158 (caps := []) [0, 1, 2] hn (by rfl) rfl (by rfl) (argsAs (by kernel_rfl) (by rfl)) (by kernel_rfl) (by decide) (by rfl) (by rfl) (fun _ _ => ⟨by rfl, _, by rfl, ?_⟩)
 refine WL.nil ?_
 exact sub_ok (by kernel_rfl)
 refine RD.have 4 #[false, false, true, true, true, false, false] ⟨[sl 0 (.pptr 0 0 (Bk 0)), sl 4 (.ptr 3 0), sl 10 (.ptr 4 0), sl 107 (qrLook1 x), sl 108 (qrLook0 x), sl 109 (I x109), (117, .sv (.agg [B ((lookR k e_3 l1_2 g2_2).1).fEmpty, LS intT ((lookR k e_3 l1_2 g2_2).1).fFirst, LS intT ((lookR k e_3 l1_2 g2_2).1).fLast]))], [.box [.own 1, .gs 2 0] 161 false, rowI 3 intT ((lookR k e_3 l1_2 g2_2).2.1), gridI 23 3 intT ((lookR k e_3 l1_2 g2_2).2.2), .box [B false, .v (.slice none 0 0), .v (.slice none 0 0)] 272 false, .box [B y4.fEmpty, LS intT y4.fFirst, LS intT y4.fLast] 272 false]⟩ ?_ (fun rd15 => ?_)
 refine RD.succ [0, 1] (by kernel_rfl) rfl ⟨⟨_, _, _, rfl, ?_, rfl, rd17⟩, ⟨_, _, _, rfl, ?_, rfl, rd18⟩, trivial⟩
 exact WL.run ht hn 1 _ (by kernel_rfl) WL.nilI
 exact WL.run ht hn 1 _ (by kernel_rfl) WL.nilI
 refine RD.have 4 #[false, true, true, true, false, false, false] ⟨[sl 0 (.pptr 0 0 (Bk 0)), sl 4 (.ptr 3 0), sl 10 (.ptr 4 0), sl 107 (qrLook1 x), sl 108 (qrLook0 x), sl 109 (I x109), (114, .sv (.agg [B y4.fEmpty, LS intT y4.fFirst, LS intT y4.fLast])), sl 115 (.ptr 0 0), sl 116 (.rd (trR rLab e_3))], [.box [.own 1, .gs 2 0] 161 false, rowI 3 intT l1_2, gridI 23 3 intT g2_2, .box [B false, .v (.slice none 0 0), .v (.slice none 0 0)] 272 false, .box [B y4.fEmpty, LS intT y4.fFirst, LS intT y4.fLast] 272 false]⟩ ?_ (fun rd14 => ?_)
 refine RD.succ [0, 4] (by kernel_rfl) rfl ⟨⟨_, _, _, rfl, ?_, rfl, rd16⟩, ⟨_, _, _, rfl, ?_, rfl, rd18⟩, trivial⟩
 exact WL.run ht hn 1 _ (by kernel_rfl) WL.nilI
 refine WL.callE (lkI k ih e_3 l1_2 g2_2 hp_r4) en158 (caps := []) [0, 1, 2] hn (by rfl) rfl (by rfl) (argsAs (by kernel_rfl) (by rfl)) (by kernel_rfl) (by decide) (by rfl) (by rfl) (fun _ _ => ⟨by rfl, _, by rfl, ?_⟩)
 refine WL.nil ?_
 exact sub_ok (by kernel_rfl)
 refine RD.have 4 #[true, false, true, true, false, false, false] ⟨[sl 0 (.pptr 0 0 (Bk 0)), sl 4 (.ptr 3 0), sl 10 (.ptr 4 0), sl 107 (qrLook1 x), sl 108 (qrLook0 x), sl 109 (I x109), sl 113 (.ptr 0 0), sl 115 (.ptr 0 0), sl 116 (.rd (trR rLab e_3))], [.box [.own 1, .gs 2 0] 161 false, rowI 3 intT l1_2, gridI 23 3 intT g2_2, .box [B false, .v (.slice none 0 0), .v (.slice none 0 0)] 272 false, .box [B y4.fEmpty, LS intT y4.fFirst, LS intT y4.fLast] 272 false]⟩ ?_ (fun rd13 => ?_)
 refine RD.succ [1, 4] (by kernel_rfl) rfl ⟨⟨_, _, _, rfl, ?_, rfl, rd16⟩, ⟨_, _, _, rfl, ?_, rfl, rd17⟩, trivial⟩
 exact WL.run ht hn 1 _ (by kernel_rfl) WL.nilI
 refine WL.callE (lkI k ih e_3 l1_2 g2_2 hp_r4) en158 (caps := []) [0, 1, 2] hn (by rfl) rfl (by rfl) (argsAs (by kernel_rfl) (by rfl)) (by kernel_rfl) (by decide) (by rfl) (by rfl) (fun _ _ => ⟨by rfl, _, by rfl, ?_⟩)
 refine WL.nil ?_
 exact sub_ok (by kernel_rfl)
 refine RD.have 4 #[true, true, false, true, false, false, false] ⟨[sl 0 (.pptr 0 0 (Bk 0)), sl 4 (.ptr 3 0), sl 10 (.ptr 4 0), sl 107 (qrLook1 x), sl 108 (qrLook0 x), sl 109 (I x109), sl 113 (.ptr 0 0), (114, .sv (.agg [B y4.fEmpty, LS intT y4.fFirst, LS intT y4.fLast])), sl 116 (.rd (trR rLab e_3))], [.box [.own 1, .gs 2 0] 161 false, rowI 3 intT l1_2, gridI 23 3 intT g2_2, .box [B false, .v (.slice none 0 0), .v (.slice none 0 0)] 272 false, .box [B y4.fEmpty, LS intT y4.fFirst, LS intT y4.fLast] 272 false]⟩ ?_ (fun rd12 => ?_)
 refine RD.succ [2] (by kernel_rfl) rfl ⟨⟨_, _, _, rfl, ?_, rfl, rd16⟩, trivial⟩
 exact WL.run ht hn 1 _ (by kernel_rfl) WL.nilI
 refine RD.have 4 #[true, true, true, false, false, false, false] ⟨[sl 0 (.pptr 0 0 (Bk 0)), sl 4 (.ptr 3 0), sl 10 (.ptr 4 0), sl 12 (.rd (trR rLab e_3)), sl 107 (qrLook1 x), sl 108 (qrLook0 x), sl 109 (I x109), sl 113 (.ptr 0 0), (114, .sv (.agg [B y4.fEmpty, LS intT y4.fFirst, LS intT y4.fLast])), sl 115 (.ptr 0 0)], [.box [.own 1, .gs 2 0] 161 false, rowI 3 intT l1_2, gridI 23 3 intT g2_2, .box [B false, .v (.slice none 0 0), .v (.slice none 0 0)] 272 false, .box [B y4.fEmpty, LS intT y4.fFirst, LS intT y4.fLast] 272 false]⟩ ?_ (fun rd11 => ?_)
 refine RD.succ [3] (by kernel_rfl) rfl ⟨⟨_, _, _, rfl, ?_, rfl, rd16⟩, trivial⟩
 exact WL.run ht hn 1 _ (by kernel_rfl) WL.nilI
 refine RD.have 5 #[false, false, true, true, false, false, false] ⟨[sl 0 (.pptr 0 0 (Bk 0)), sl 4 (.ptr 3 0), sl 10 (.ptr 4 0), sl 107 (qrLook1 x), sl 108 (qrLook0 x), sl 109 (I x109), sl 115 (.ptr 0 0), sl 116 (.rd (trR rLab e_3))], [.box [.own 1, .gs 2 0] 161 false, rowI 3 intT l1_2, gridI 23 3 intT g2_2, .box [B false, .v (.slice none 0 0), .v (.slice none 0 0)] 272 false, .box [B y4.fEmpty, LS intT y4.fFirst, LS intT y4.fLast] 272 false]⟩ ?_ (fun rd10 => ?_)
 refine RD.succ [0, 1, 4] (by kernel_rfl) rfl ⟨⟨_, _, _, rfl, ?_, rfl, rd13⟩, ⟨_, _, _, rfl, ?_, rfl, rd14⟩, ⟨_, _, _, rfl, ?_, rfl, rd15⟩, trivial⟩
 exact WL.run ht hn 1 _ (by kernel_rfl) WL.nilI
 exact WL.run ht hn 1 _ (by kernel_rfl) WL.nilI
 refine WL.callE (lkI k ih e_3 l1_2 g2_2 hp_r4) en158 (caps := []) [0, 1, 2] hn (by rfl) rfl (by rfl) (argsAs (by kernel_rfl) (by rfl)) (by kernel_rfl) (by decide) (by rfl) (by rfl) (fun _ _ => ⟨by rfl, _, by rfl, ?_⟩)
 refine WL.nil ?_
 exact sub_ok (by kernel_rfl)
 refine RD.have 5 #[false, true, false, true, false, false, false] ⟨[sl 0 (.pptr 0 0 (Bk 0)), sl 4 (.ptr 3 0), sl 10 (.ptr 4 0), sl 107 (qrLook1 x), sl 108 (qrLook0 x), sl 109 (I x109), (114, .sv (.agg [B y4.fEmpty, LS intT y4.fFirst, LS intT y4.fLast])), sl 116 (.rd (trR rLab e_3))], [.box [.own 1, .gs 2 0] 161 false, rowI 3 intT l1_2, gridI 23 3 intT g2_2, .box [B false, .v (.slice none 0 0), .v (.slice none 0 0)] 272 false, .box [B y4.fEmpty, LS intT y4.fFirst, LS intT y4.fLast] 272 false]⟩ ?_ (fun rd9 => ?_)
 refine RD.succ [0, 2] (by kernel_rfl) rfl ⟨⟨_, _, _, rfl, ?_, rfl, rd12⟩, ⟨_, _, _, rfl, ?_, rfl, rd14⟩, trivial⟩
 exact WL.run ht hn 1 _ (by kernel_rfl) WL.nilI
 exact WL.run ht hn 1 _ (by kernel_rfl) WL.nilI
 refine RD.have 5 #[false, true, true, false, false, false, false] ⟨[sl 0 (.pptr 0 0 (Bk 0)), sl 4 (.ptr 3 0), sl 10 (.ptr 4 0), sl 12 (.rd (trR rLab e_3)), sl 107 (qrLook1 x), sl 108 (qrLook0 x), sl 109 (I x109), (114, .sv (.agg [B y4.fEmpty, LS intT y4.fFirst, LS intT y4.fLast])), sl 115 (.ptr 0 0)], [.box [.own 1, .gs 2 0] 161 false, rowI 3 intT l1_2, gridI 23 3 intT g2_2, .box [B false, .v (.slice none 0 0), .v (.slice none 0 0)] 272 false, .box [B y4.fEmpty, LS intT y4.fFirst, LS intT y4.fLast] 272 false]⟩ ?_ (fun rd8 => ?_)
 refine RD.succ [0, 3] (by kernel_rfl) rfl ⟨⟨_, _, _, rfl, ?_, rfl, rd11⟩, ⟨_, _, _, rfl, ?_, rfl, rd14⟩, trivial⟩
 exact WL.run ht hn 1 _ (by kernel_rfl) WL.nilI
 exact WL.run ht hn 1 _ (by kernel_rfl) WL.nilI
 refine RD.have 5 #[true, false, false, true, false, false, false] ⟨[sl 0 (.pptr 0 0 (Bk 0)), sl 4 (.ptr 3 0), sl 10 (.ptr 4 0), sl 107 (qrLook1 x), sl 108 (qrLook0 x), sl 109 (I x109), sl 113 (.ptr 0 0), sl 116 (.rd (trR rLab e_3))], [.box [.own 1, .gs 2 0] 161 false, rowI 3 intT l1_2, gridI 23 3 intT g2_2, .box [B false, .v (.slice none 0 0), .v (.slice none 0 0)] 272 false, .box [B y4.fEmpty, LS intT y4.fFirst, LS intT y4.fLast] 272 false]⟩ ?_ (fun rd7 => ?_)
 refine RD.succ [1, 2] (by kernel_rfl) rfl ⟨⟨_, _, _, rfl, ?_, rfl, rd12⟩, ⟨_, _, _, rfl, ?_, rfl, rd13⟩, trivial⟩
 exact WL.run ht hn 1 _ (by kernel_rfl) WL.nilI
 exact WL.run ht hn 1 _ (by kernel_rfl) WL.nilI
 refine RD.have 5 #[true, false, true, false, false, false, false] ⟨[sl 0 (.pptr 0 0 (Bk 0)), sl 4 (.ptr 3 0), sl 10 (.ptr 4 0), sl 12 (.rd (trR rLab e_3)), sl 107 (qrLook1 x), sl 108 (qrLook0 x), sl 109 (I x109), sl 113 (.ptr 0 0), sl 115 (.ptr 0 0)], [.box [.own 1, .gs 2 0] 161 false, rowI 3 intT l1_2, gridI 23 3 intT g2_2, .box [B false, .v (.slice none 0 0), .v (.slice none 0 0)] 272 false, .box [B y4.fEmpty, LS intT y4.fFirst, LS intT y4.fLast] 272 false]⟩ ?_ (fun rd6 => ?_)
 refine RD.succ [1, 3] (by kernel_rfl) rfl ⟨⟨_, _, _, rfl, ?_, rfl, rd11⟩, ⟨_, _, _, rfl, ?_, rfl, rd13⟩, trivial⟩
 exact WL.run ht hn 1 _ (by kernel_rfl) WL.nilI
 exact WL.run ht hn 1 _ (by kernel_rfl) WL.nilI
 refine RD.have 5 #[true, true, false, false, false, false, false] ⟨[sl 0 (.pptr 0 0 (Bk 0)), sl 4 (.ptr 3 0), sl 10 (.ptr 4 0), sl 12 (.rd (trR rLab e_3)), sl 107 (qrLook1 x), sl 108 (qrLook0 x), sl 109 (I x109), sl 113 (.ptr 0 0), (114, .sv (.agg [B y4.fEmpty, LS intT y4.fFirst, LS intT y4.fLast]))], [.box [.own 1, .gs 2 0] 161 false, rowI 3 intT l1_2, gridI 23 3 intT g2_2, .box [B false, .v (.slice none 0 0), .v (.slice none 0 0)] 272 false, .box [B y4.fEmpty, LS intT y4.fFirst, LS intT y4.fLast] 272 false]⟩ ?_ (fun rd5 => ?_)
 refine RD.succ [2, 3] (by kernel_rfl) rfl ⟨⟨_, _, _, rfl, ?_, rfl, rd11⟩, ⟨_, _, _, rfl, ?_, rfl, rd12⟩, trivial⟩
 exact WL.run ht hn 1 _ (by kernel_rfl) WL.nilI
 exact WL.run ht hn 1 _ (by kernel_rfl) WL.nilI
 refine RD.have 6 #[false, false, false, true, false, false, false] ⟨[sl 0 (.pptr 0 0 (Bk 0)), sl 4 (.ptr 3 0), sl 10 (.ptr 4 0), sl 107 (qrLook1 x), sl 108 (qrLook0 x), sl 109 (I x109), sl 116 (.rd (trR rLab e_3))], [.box [.own 1, .gs 2 0] 161 false, rowI 3 intT l1_2, gridI 23 3 intT g2_2, .box [B false, .v (.slice none 0 0), .v (.slice none 0 0)] 272 false, .box [B y4.fEmpty, LS intT y4.fFirst, LS intT y4.fLast] 272 false]⟩ ?_ (fun rd4 => ?_)
 refine RD.succ [0, 1, 2] (by kernel_rfl) rfl ⟨⟨_, _, _, rfl, ?_, rfl, rd7⟩, ⟨_, _, _, rfl, ?_, rfl, rd9⟩, ⟨_, _, _, rfl, ?_, rfl, rd10⟩, trivial⟩
 exact WL.run ht hn 1 _ (by kernel_rfl) WL.nilI
 exact WL.run ht hn 1 _ (by kernel_rfl) WL.nilI
 exact WL.run ht hn 1 _ (by kernel_rfl) WL.nilI
 refine RD.have 6 #[false, false, true, false, false, false, false] ⟨[sl 0 (.pptr 0 0 (Bk 0)), sl 4 (.ptr 3 0), sl 10 (.ptr 4 0), sl 12 (.rd (trR rLab e_3)), sl 107 (qrLook1 x), sl 108 (qrLook0 x), sl 109 (I x109), sl 115 (.ptr 0 0)], [.box [.own 1, .gs 2 0] 161 false, rowI 3 intT l1_2, gridI 23 3 intT g2_2, .box [B false, .v (.slice none 0 0), .v (.slice none 0 0)] 272 false, .box [B y4.fEmpty, LS intT y4.fFirst, LS intT y4.fLast] 272 false]⟩ ?_ (fun rd3 => ?_)
 refine RD.succ [0, 1, 3] (by kernel_rfl) rfl ⟨⟨_, _, _, rfl, ?_, rfl, rd6⟩, ⟨_, _, _, rfl, ?_, rfl, rd8⟩, ⟨_, _, _, rfl, ?_, rfl, rd10⟩, trivial⟩
 exact WL.run ht hn 1 _ (by kernel_rfl) WL.nilI
 exact WL.run ht hn 1 _ (by kernel_rfl) WL.nilI
 exact WL.run ht hn 1 _ (by kernel_rfl) WL.nilI
 refine RD.have 6 #[false, true, false, false, false, false, false] ⟨[sl 0 (.pptr 0 0 (Bk 0)), sl 4 (.ptr 3 0), sl 10 (.ptr 4 0), sl 12 (.rd (trR rLab e_3)), sl 107 (qrLook1 x), sl 108 (qrLook0 x), sl 109 (I x109), (114, .sv (.agg [B y4.fEmpty, LS intT y4.fFirst, LS intT y4.fLast]))], [.box [.own 1, .gs 2 0] 161 false, rowI 3 intT l1_2, gridI 23 3 intT g2_2, .box [B false, .v (.slice none 0 0), .v (.slice none 0 0)] 272 false, .box [B y4.fEmpty, LS intT y4.fFirst, LS intT y4.fLast] 272 false]⟩ ?_ (fun rd2 => ?_)
 refine RD.succ [0, 2, 3] (by kernel_rfl) rfl ⟨⟨_, _, _, rfl, ?_, rfl, rd5⟩, ⟨_, _, _, rfl, ?_, rfl, rd8⟩, ⟨_, _, _, rfl, ?_, rfl, rd9⟩, trivial⟩
 exact WL.run ht hn 1 _ (by kernel_rfl) WL.nilI
 exact WL.run ht hn 1 _ (by kernel_rfl) WL.nilI
 exact WL.run ht hn 1 _ (by kernel_rfl) WL.nilI
 refine RD.have 6 #[true, false, false, false, false, false, false] ⟨[sl 0 (.pptr 0 0 (Bk 0)), sl 4 (.ptr 3 0), sl 10 (.ptr 4 0), sl 12 (.rd (trR rLab e_3)), sl 107 (qrLook1 x), sl 108 (qrLook0 x), sl 109 (I x109), sl 113 (.ptr 0 0)], [.box [.own 1, .gs 2 0] 161 false, rowI 3 intT l1_2, gridI 23 3 intT g2_2, .box [B false, .v (.slice none 0 0), .v (.slice none 0 0)] 272 false, .box [B y4.fEmpty, LS intT y4.fFirst, LS intT y4.fLast] 272 false]⟩ ?_ (fun rd1 => ?_)
 refine RD.succ [1, 2, 3] (by kernel_rfl) rfl ⟨⟨_, _, _, rfl, ?_, rfl, rd5⟩, ⟨_, _, _, rfl, ?_, rfl, rd6⟩, ⟨_, _, _, rfl, ?_, rfl, rd7⟩, trivial⟩
 exact WL.run ht hn 1 _ (by kernel_rfl) WL.nilI
 exact WL.run ht hn 1 _ (by kernel_rfl) WL.nilI
 exact WL.run ht hn 1 _ (by kernel_rfl) WL.nilI
 refine RD.have 7 #[false, false, false, false, false, false, false] ⟨[sl 0 (.pptr 0 0 (Bk 0)), sl 4 (.ptr 3 0), sl 10 (.ptr 4 0), sl 12 (.rd (trR rLab e_3)), sl 107 (qrLook1 x), sl 108 (qrLook0 x), sl 109 (I x109)], [.box [.own 1, .gs 2 0] 161 false, rowI 3 intT l1_2, gridI 23 3 intT g2_2, .box [B false, .v (.slice none 0 0), .v (.slice none 0 0)] 272 false, .box [B y4.fEmpty, LS intT y4.fFirst, LS intT y4.fLast] 272 false]⟩ ?_ (fun rd0 => ?_)
 refine RD.succ [0, 1, 2, 3] (by kernel_rfl) rfl ⟨⟨_, _, _, rfl, ?_, rfl, rd1⟩, ⟨_, _, _, rfl, ?_, rfl, rd2⟩, ⟨_, _, _, rfl, ?_, rfl, rd3⟩, ⟨_, _, _, rfl, ?_, rfl, rd4⟩, trivial⟩
 exact WL.run ht hn 1 _ (by kernel_rfl) WL.nilI
 exact WL.run ht hn 1 _ (by kernel_rfl) WL.nilI
 exact WL.run ht hn 1 _ (by kernel_rfl) WL.nilI
 exact WL.run ht hn 1 _ (by kernel_rfl) WL.nilI
 exact RD.start rd0 rfl (by kernel_rfl) (sub_ok (by kernel_rfl))
 refine En.region ?_
 refine WL.run ht hn 2 ⟨[sl 0 (.pptr 0 0 (Bk 0)), sl 4 (.ptr 3 0), sl 10 (.ptr 4 0), sl 107 (qrLook1 x), sl 108 (qrLook0 x), sl 109 (I (wr (x109 + 1)))], [.box [.own 1, .gs 2 0] 161 false, rowI 3 intT (((lookR k e_3 l1_2 g2_2).2.1)), gridI 23 3 intT (tieR y4.fLast ((lookR k e_3 l1_2 g2_2).1).fFirst ((lookR k e_3 l1_2 g2_2).2.2)), .box [B false, .v (.slice none 0 0), .v (.slice none 0 0)] 272 false, .box [B (bhdR y4 ((lookR k e_3 l1_2 g2_2).1)).fEmpty, LS intT (bhdR y4 ((lookR k e_3 l1_2 g2_2).1)).fFirst, LS intT (bhdR y4 ((lookR k e_3 l1_2 g2_2).1)).fLast] 272 false]⟩ (by kernel_rfl) ?_
 refine WL.nil ?_
 exact En.at (I := fun zz => Inv_2 zz.1 zz.2.1 zz.2.2.1 zz.2.2.2 ∧ mu_2 zz.1 zz.2.1 zz.2.2.1 zz.2.2.2 < mu_2 x109 l1_2 g2_2 y4) (T := fun zz => ⟨[sl 0 (.pptr 0 0 (Bk 0)), sl 4 (.ptr 3 0), sl 10 (.ptr 4 0), sl 107 (qrLook1 x), sl 108 (qrLook0 x), sl 109 (I zz.1)], [.box [.own 1, .gs 2 0] 161 false, rowI 3 intT zz.2.1, gridI 23 3 intT zz.2.2.1, .box [B false, .v (.slice none 0 0), .v (.slice none 0 0)] 272 false, .box [B zz.2.2.2.fEmpty, LS intT zz.2.2.2.fFirst, LS intT zz.2.2.2.fLast] 272 false]⟩) ((wr (x109 + 1)), (((lookR k e_3 l1_2 g2_2).2.1)), (tieR y4.fLast ((lookR k e_3 l1_2 g2_2).1).fFirst ((lookR k e_3 l1_2 g2_2).2.2)), (bhdR y4 ((lookR k e_3 l1_2 g2_2).1))) h (by kernel_rfl)
 replace h := h.2 hb
 refine En.exit rfl ?_
 refine En.seq ?_
 refine En.region ?_
 refine WL.run ht hn 2 ⟨[sl 0 (.pptr 0 0 (Bk 0)), sl 4 (.ptr 3 0)], [.box [.own 1, .gs 2 0] 161 false, rowI 3 intT l1_2, gridI 23 3 intT g2_2, .box [B y4.fEmpty, LS intT y4.fFirst, LS intT y4.fLast] 272 false, .gone]⟩ (by kernel_rfl) ?_
 refine WL.nil ?_
 refine En.ret ?_
 exact En.backE [0] ht (y4, l1_2, g2_2) h (by kernel_rfl) (by rfl) rfl
 replace h := h.2 hb
 refine En.skip ?_
 refine En.seq ?_
 refine En.region ?_
 refine WL.run ht hn 2 ⟨[sl 0 (.pptr 0 0 (Bk 0)), sl 4 (.ptr 3 0), sl 121 (.ptr 0 0), sl 122 (.rd (trR rLab x))], [.box [.own 1, .gs 2 0] 161 false, rowI 3 intT lets, gridI 23 3 intT nxt, .box [B false, .v (.slice none 0 0), .v (.slice none 0 0)] 272 false]⟩ (by kernel_rfl) ?_
 refine WL.val hn (by rfl) (val_node (s := .agg [I x.lab.fKind, I x.lab.fLetter, LS (TT rLab) x.kids]) (t := x) (lab := rLab) rLabH rfl (by rfl) rfl rfl) (by rfl) ?_
 refine WL.val hn (by rfl) (val_field (l := [I x.lab.fKind, I x.lab.fLetter, LS (TT rLab) x.kids]) (r := .one (qrLook3 x)) ht rfl (by rfl) (by rfl) (by rfl) (by rfl) (by rfl) (by rfl)) (by rfl) ?_
 refine WL.val hn (by rfl) (val_load (s := .one (qrLook3 x)) ht rfl (by rfl) (by rfl) (by rfl) (by rfl) (by rfl)) (by rfl) ?_
 obtain ⟨e_4, he_4, h⟩ := h
 refine WL.val hn (by rfl) (val_index (T := (TT rLab)) (l := x.kids) (i := 0) ht rfl (by rfl) (by rfl) (by rfl) (by rfl) (by rfl) (by rfl) he_4) (by rfl) ?_
 refine WL.val hn (by rfl) (val_load (s := .one (.rd (trR rLab e_4))) ht rfl (by rfl) (by rfl) (by rfl) (by rfl) (by rfl)) (by rfl) ?_
 have hp := h.1
 replace h := h.2
 refine WL.callE (lkI k ih e_4 lets nxt hp) en158 (caps := []) [0, 1, 2] hn (by rfl) rfl (by rfl) (argsAs (by kernel_rfl) (by rfl)) (by kernel_rfl) (by decide) (by rfl) (by rfl) (fun _ _ => ⟨by rfl, _, by rfl, ?_⟩)
 refine WL.run ht hn 2 ⟨[sl 0 (.pptr 0 0 (Bk 0)), sl 4 (.ptr 3 0), sl 13 (.ptr 4 0)], [.box [.own 1, .gs 2 0] 161 false, rowI 3 intT ((lookR k e_4 lets nxt).2.1), gridI 23 3 intT ((lookR k e_4 lets nxt).2.2), .box [B false, .v (.slice none 0 0), .v (.slice none 0 0)] 272 false, .box [B ((lookR k e_4 lets nxt).1).fEmpty, LS intT ((lookR k e_4 lets nxt).1).fFirst, LS intT ((lookR k e_4 lets nxt).1).fLast] 272 false]⟩ (by kernel_rfl) ?_
 refine WL.nil ?_
 refine En.seq ?_
 refine En.region ?_
 refine WL.run ht hn 5 ⟨[sl 0 (.pptr 0 0 (Bk 0)), sl 4 (.ptr 3 0), sl 13 (.ptr 4 0), sl 129 (.ptr 0 0), sl 131 (LS intT ((lookR k e_4 lets nxt).1).fLast), sl 133 (LS intT ((lookR k e_4 lets nxt).1).fFirst)], [.box [.own 1, .gs 2 0] 161 false, rowI 3 intT ((lookR k e_4 lets nxt).2.1), gridI 23 3 intT ((lookR k e_4 lets nxt).2.2), .box [B false, .v (.slice none 0 0), .v (.slice none 0 0)] 272 false, .box [B ((lookR k e_4 lets nxt).1).fEmpty, LS intT ((lookR k e_4 lets nxt).1).fFirst, LS intT ((lookR k e_4 lets nxt).1).fLast] 272 false]⟩ (by kernel_rfl) ?_
 have hp := h.1
 replace h := h.2
 refine WL.callE (rTie_ct ((lookR k e_4 lets nxt).2.1) ((lookR k e_4 lets nxt).2.2) ((lookR k e_4 lets nxt).1).fLast ((lookR k e_4 lets nxt).1).fFirst hp) en212 (caps := []) [0, 1, 2] hn (by rfl) rfl (by rfl) (argsAs (by kernel_rfl) (by rfl)) (by kernel_rfl) (by decide) (by rfl) (by rfl) (fun _ _ => ⟨by rfl, _, by rfl, ?_⟩)
 refine WL.nil ?_
 refine En.seq ?_
 refine En.region ?_
 refine WL.run ht hn 2 ⟨[sl 0 (.pptr 0 0 (Bk 0)), sl 4 (.ptr 3 0), sl 13 (.ptr 4 0)], [.box [.own 1, .gs 2 0] 161 false, rowI 3 intT (((lookR k e_4 lets nxt).2.1)), gridI 23 3 intT (tieR ((lookR k e_4 lets nxt).1).fLast ((lookR k e_4 lets nxt).1).fFirst ((lookR k e_4 lets nxt).2.2)), .box [B false, .v (.slice none 0 0), .v (.slice none 0 0)] 272 false, .box [B true, LS intT ((lookR k e_4 lets nxt).1).fFirst, LS intT ((lookR k e_4 lets nxt).1).fLast] 272 false]⟩ (by kernel_rfl) ?_
 refine WL.nil ?_
 refine En.seq ?_
 refine En.region ?_
 refine WL.run ht hn 2 ⟨[sl 0 (.pptr 0 0 (Bk 0)), sl 4 (.ptr 3 0)], [.box [.own 1, .gs 2 0] 161 false, rowI 3 intT (((lookR k e_4 lets nxt).2.1)), gridI 23 3 intT (tieR ((lookR k e_4 lets nxt).1).fLast ((lookR k e_4 lets nxt).1).fFirst ((lookR k e_4 lets nxt).2.2)), .box [B true, LS intT ((lookR k e_4 lets nxt).1).fFirst, LS intT ((lookR k e_4 lets nxt).1).fLast] 272 false, .gone]⟩ (by kernel_rfl) ?_
 refine WL.nil ?_
 refine En.ret ?_
 exact En.backE [0] ht ((RegularEnds.mk true ((lookR k e_4 lets nxt).1).fFirst ((lookR k e_4 lets nxt).1).fLast), (((lookR k e_4 lets nxt).2.1)), (tieR ((lookR k e_4 lets nxt).1).fLast ((lookR k e_4 lets nxt).1).fFirst ((lookR k e_4 lets nxt).2.2))) h (by kernel_rfl) (by rfl) rfl
theorem rLook_next (k : Nat) (ih : LC k) : LC (k + 1) := fun x lets nxt hp => by
 refine (rLook_walk k lets nxt x ih (fun r => r = lookR (k + 1) x lets nxt) ?_).imp (fun r hr => ⟨(), trivial, by subst hr; rfl, by subst hr; rfl⟩)
 obtain ⟨R, hR⟩ := Option.isSome_iff_exists.1 hp
 have hz : lookR (k + 1) x lets nxt = R := by
  unfold lookR
  rw [hR]
  rfl
 simp only [hz]
 obtain ⟨a, kids⟩ := x
 unfold rLook_vc
 unfold lookS at hR
 split at hR
 ·cases hR
 rename_i hlen
 have gS : ∀ {x l n r}, lookS k x l n = some r → (lookS k x l n).isSome = true ∧ lookR k x l n = r := fun h => ⟨by rw [h]; rfl, by unfold lookR; rw [h]; rfl⟩
 have gT : ∀ {x l n r}, tieS x l n = some r → (tieS x l n).isSome = true ∧ tieR x l n = r := fun h => ⟨by rw [h]; rfl, by unfold tieR; rw [h]; rfl⟩
 refine ⟨fun hb => ?_, fun hb0 => ⟨fun hb => ?_, fun hb1 => ⟨fun hb => ?_, fun hb2 => ⟨fun hb => ?_, fun hb3 => ⟨fun hb => ?_, fun hb4 => ?_⟩⟩⟩⟩⟩
 ·have h0 : a.fKind = 0 := eq_of_beq hb
  rw [if_pos h0] at hR
  cases hR
  rfl
 ·have h0 : ¬ a.fKind = 0 := fun e => by rw [show ((Tr.node a kids).lab.fKind == 0) = true from beq_iff_eq.2 e] at hb0; cases hb0
  have h1 : a.fKind = 1 := eq_of_beq hb
  rw [if_neg h0, if_pos h1] at hR
  cases hR
  rfl
 ·have h0 : ¬ a.fKind = 0 := fun e => by rw [show ((Tr.node a kids).lab.fKind == 0) = true from beq_iff_eq.2 e] at hb0; cases hb0
  have h1 : ¬ a.fKind = 1 := fun e => by rw [show ((Tr.node a kids).lab.fKind == 1) = true from beq_iff_eq.2 e] at hb1; cases hb1
  have h2 : a.fKind = 2 := eq_of_beq hb
  rw [if_neg h0, if_neg h1, if_pos h2] at hR
  split at hR
  ·rename_i hc
   cases hR
   refine ⟨hc.1, hc.2, ?_⟩
   have hw : wr (((lets ++ ([a.fLetter] : List Int)).length : Int) - 1) = (lets.length : Int) := by
    have : (((lets ++ ([a.fLetter] : List Int)).length : Int) - 1) = lets.length := by simp
    rw [this, wr_in (by omega) (by omega)]
   show (RegularEnds.mk false [wr (((lets ++ ([a.fLetter] : List Int)).length : Int) - 1)] [wr (((lets ++ ([a.fLetter] : List Int)).length : Int) - 1)], lets ++ [a.fLetter], nxt ++ List.replicate 1 []) = _
   rw [hw]
   rfl
  ·cases hR
 ·have h0 : ¬ a.fKind = 0 := fun e => by rw [show ((Tr.node a kids).lab.fKind == 0) = true from beq_iff_eq.2 e] at hb0; cases hb0
  have h1 : ¬ a.fKind = 1 := fun e => by rw [show ((Tr.node a kids).lab.fKind == 1) = true from beq_iff_eq.2 e] at hb1; cases hb1
  have h2 : ¬ a.fKind = 2 := fun e => by rw [show ((Tr.node a kids).lab.fKind == 2) = true from beq_iff_eq.2 e] at hb2; cases hb2
  have h3 : a.fKind = 3 := eq_of_beq hb
  rw [if_neg h0, if_neg h1, if_neg h2, if_pos h3] at hR
  refine ⟨fun i l1 g2 y l6 l7 => ∃ n : Nat, i = n ∧ n ≤ kids.length ∧ eithL (lookS k) (kids.drop n) ⟨y, l6, l7⟩ l1 g2 = some R, fun i _ _ _ _ _ => kids.length - i.toNat, ⟨0, rfl, Nat.zero_le _, hR⟩, ?_⟩
  rintro _ l1 g2 y l6 l7 ⟨n, rfl, hn, he⟩
  refine ⟨fun hb => ?_, fun hb => ?_⟩
  ·have hlt : n < kids.length := by have := of_decide_eq_true hb; exact Int.ofNat_lt.1 this
   rw [List.drop_eq_getElem_cons hlt, eithL] at he
   split at he
   ·cases he
   rename_i r hr
   split at he
   ·rename_i hc
    obtain ⟨g1, g2'⟩ := gS hr
    refine ⟨kids[n], by show idx kids (n : Int) = _; simp [idx, hlt], g1, ?_⟩
    rw [g2']
    refine ⟨fun b => b = (y || r.1.fEmpty), ⟨fun e => by rw [e]; rfl, fun e => by rw [e]; rfl⟩, ?_⟩
    rintro _ rfl
    refine ⟨hc.1, hc.2, ⟨n + 1, wr_len (by omega) hlt, hlt, he⟩, ?_⟩
    rw [wr_len (n := kids.length) (by omega) hlt]
    show kids.length - (n + 1) < kids.length - n
    omega
   ·cases he
  ·have hge : kids.length ≤ n := by have := of_decide_eq_false hb; exact Nat.le_of_not_lt fun h => this (Int.ofNat_lt.2 h)
   rw [List.drop_eq_nil_of_le hge, eithL] at he
   cases he
   rfl
 ·have h0 : ¬ a.fKind = 0 := fun e => by rw [show ((Tr.node a kids).lab.fKind == 0) = true from beq_iff_eq.2 e] at hb0; cases hb0
  have h1 : ¬ a.fKind = 1 := fun e => by rw [show ((Tr.node a kids).lab.fKind == 1) = true from beq_iff_eq.2 e] at hb1; cases hb1
  have h2 : ¬ a.fKind = 2 := fun e => by rw [show ((Tr.node a kids).lab.fKind == 2) = true from beq_iff_eq.2 e] at hb2; cases hb2
  have h3 : ¬ a.fKind = 3 := fun e => by rw [show ((Tr.node a kids).lab.fKind == 3) = true from beq_iff_eq.2 e] at hb3; cases hb3
  have h4 : a.fKind = 4 := eq_of_beq hb
  rw [if_neg h0, if_neg h1, if_neg h2, if_neg h3] at hR
  cases kids with
  | nil => cases hR
  | cons x xs =>
   simp only at hR
   split at hR
   ·cases hR
   rename_i r hr
   rw [if_pos h4] at hR
   obtain ⟨g1, g2⟩ := gS hr
   simp only [List.length_cons] at hlen
   refine ⟨x, rfl, g1, ⟨by decide, by show (1 : Int) ≤ ((x :: xs).length : Int); simp only [List.length_cons]; omega, Int.le_refl _⟩, ?_⟩
   rw [g2]
   have hxs : (((Tr.node a (x :: xs)).kids.take (((Tr.node a (x :: xs)).kids.length : Int) : Int).toNat).drop (1 : Int).toNat) = xs := by
    show (((x :: xs).take (((x :: xs).length : Int)).toNat).drop 1) = xs
    rw [Int.toNat_natCast, List.take_length]
    rfl
   rw [hxs]
   refine ⟨fun i l1 g2 e => ∃ n : Nat, i = n ∧ n ≤ xs.length ∧ rowK (lookS k) (xs.drop n) e l1 g2 = some R, fun i _ _ _ => xs.length - i.toNat, ⟨0, rfl, Nat.zero_le _, hR⟩, ?_⟩
   rintro _ l1 g2 e ⟨n, rfl, hn, he⟩
   refine ⟨fun hb => ?_, fun hb => ?_⟩
   ·have hlt : n < xs.length := by have := of_decide_eq_true hb; exact Int.ofNat_lt.1 this
    rw [List.drop_eq_getElem_cons hlt, rowK] at he
    split at he
    ·cases he
    rename_i r2 hr2
    split at he
    ·cases he
    rename_i n2 hn2
    split at he
    ·rename_i hc
     obtain ⟨g3, g4⟩ := gS hr2
     obtain ⟨g5, g6⟩ := gT hn2
     refine ⟨xs[n], by simp [idx, hlt], g3, ?_⟩
     rw [g4]
     refine ⟨⟨g5, hc⟩, ?_⟩
     rw [g6]
     refine ⟨⟨n + 1, wr_len (n := xs.length) (by omega) hlt, hlt, he⟩, ?_⟩
     rw [wr_len (n := xs.length) (by omega) hlt]
     show xs.length - (n + 1) < xs.length - n
     omega
    ·cases he
   ·have hge : xs.length ≤ n := by have := of_decide_eq_false hb; exact Nat.le_of_not_lt fun h => this (Int.ofNat_lt.2 h)
    rw [List.drop_eq_nil_of_le hge, rowK] at he
    cases he
    rfl
 ·have h0 : ¬ a.fKind = 0 := fun e => by rw [show ((Tr.node a kids).lab.fKind == 0) = true from beq_iff_eq.2 e] at hb0; cases hb0
  have h1 : ¬ a.fKind = 1 := fun e => by rw [show ((Tr.node a kids).lab.fKind == 1) = true from beq_iff_eq.2 e] at hb1; cases hb1
  have h2 : ¬ a.fKind = 2 := fun e => by rw [show ((Tr.node a kids).lab.fKind == 2) = true from beq_iff_eq.2 e] at hb2; cases hb2
  have h3 : ¬ a.fKind = 3 := fun e => by rw [show ((Tr.node a kids).lab.fKind == 3) = true from beq_iff_eq.2 e] at hb3; cases hb3
  have h4 : ¬ a.fKind = 4 := fun e => by rw [show ((Tr.node a kids).lab.fKind == 4) = true from beq_iff_eq.2 e] at hb4; cases hb4
  rw [if_neg h0, if_neg h1, if_neg h2, if_neg h3] at hR
  cases kids with
  | nil => cases hR
  | cons x xs =>
   simp only at hR
   split at hR
   ·cases hR
   rename_i r hr
   rw [if_neg h4] at hR
   split at hR
   ·cases hR
   rename_i n2 hn2
   cases hR
   obtain ⟨g1, g2⟩ := gS hr
   obtain ⟨g3, g4⟩ := gT hn2
   refine ⟨x, rfl, g1, ?_⟩
   rw [g2]
   refine ⟨g3, ?_⟩
   rw [g4]
theorem rLook_ct : ∀ k, LC k
 | 0 => fun x lets nxt hp => by simp [lookS] at hp
 | k + 1 => rLook_next k (rLook_ct k)
def rMach_vc (k : Nat) (x : RTr) (Q : (RegularPlaces × (List Bool)) → Prop) : Prop :=
 ((lookS k x ([] : (List Int)) ([] : (List (List Int)))).isSome) ∧
 makeOk (wr ((((lookR k x ([] : (List Int)) ([] : (List (List Int)))).2.1).length : Int) + 1)) (wr ((((lookR k x ([] : (List Int)) ([] : (List (List Int)))).2.1).length : Int) + 1)) 1 ∧
 ∃ (Inv : Int → (List Bool) → Prop) (mu : Int → (List Bool) → Nat), Inv 0 (List.replicate ((wr ((((lookR k x ([] : (List Int)) ([] : (List (List Int)))).2.1).length : Int) + 1))).toNat false) ∧
 ∀ (x26 : Int) (l4 : (List Bool)) , Inv x26 l4 → (IfP (decide (x26 < (((lookR k x ([] : (List Int)) ([] : (List (List Int)))).1).fLast.length : Int))) (∃ e, idx ((lookR k x ([] : (List Int)) ([] : (List (List Int)))).1).fLast x26 = some e ∧
 ∃ e_2, idx l4 e = some e_2 ∧
 (Inv (wr (x26 + 1)) (l4.set (e).toNat true) ∧ mu (wr (x26 + 1)) (l4.set (e).toNat true) < mu x26 l4)) (∃ e_3, idx l4 (((lookR k x ([] : (List Int)) ([] : (List (List Int)))).2.1).length : Int) = some e_3 ∧
 capOk ((lookR k x ([] : (List Int)) ([] : (List (List Int)))).2.2).length (([((lookR k x ([] : (List Int)) ([] : (List (List Int)))).1).fFirst] : (List (List Int))) : (List (List Int))).length 24 ∧
 Q ((RegularPlaces.mk ((lookR k x ([] : (List Int)) ([] : (List (List Int)))).2.1) (((lookR k x ([] : (List Int)) ([] : (List (List Int)))).2.2) ++ ([((lookR k x ([] : (List Int)) ([] : (List (List Int)))).1).fFirst] : (List (List Int))))), (l4.set ((((lookR k x ([] : (List Int)) ([] : (List (List Int)))).2.1).length : Int)).toNat ((lookR k x ([] : (List Int)) ([] : (List (List Int)))).1).fEmpty))))
noncomputable abbrev qrMach0 (k : Nat) (x : RTr) := (lookR k x ([] : (List Int)) ([] : (List (List Int))))
noncomputable abbrev qrMach1 := (List (List Int))
noncomputable abbrev qrMach2 (k : Nat) (x : RTr) := (I (((qrMach0 k x).2.1).length : Int))
noncomputable abbrev qrMach3 (k : Nat) (x : RTr) := (I (((qrMach0 k x).1).fLast.length : Int))
noncomputable abbrev qrMach4 (k : Nat) (x : RTr) := (wr ((((qrMach0 k x).2.1).length : Int) + 1))
noncomputable abbrev qrMach5 (k : Nat) (x : RTr) := (LS intT ((qrMach0 k x).1).fFirst)
noncomputable abbrev qrMach6 (k : Nat) (x : RTr) := (LS intT ((qrMach0 k x).1).fLast)
noncomputable abbrev qrMach7 (k : Nat) (x : RTr) := (LS (lsT intT) ([((qrMach0 k x).1).fFirst] : (qrMach1)))
set_option maxHeartbeats 2000000 in
theorem rMach_walk (k : Nat) (x : RTr) (Q : (RegularPlaces × (List Bool)) → Prop) (h : rMach_vc k x Q) : Ct 73 [.sv (.one (.rd (trR rLab x)))] [] Q (fun (r : (RegularPlaces × (List Bool))) => .tup [.one (.pe (svR (.agg [LS intT r.1.fLetters, LS (lsT intT) r.1.fNext])) 2), .one (LS boolT r.2)]) := by
 have ht := tab_ok
 refine Ct.body Try.func73 rfl rfl rfl rfl (fun c hn => ?_)
 unfold rMach_vc at h
 refine En.seq ?_
 refine En.region ?_
 refine WL.run ht hn 2 ⟨[sl 0 (.rd (trR rLab x))], []⟩ (by kernel_rfl) ?_
 refine WL.nil ?_
 refine En.seq ?_
 refine En.region ?_
 refine WL.run ht hn 3 ⟨[sl 0 (.rd (trR rLab x)), sl 4 (.ptr 0 0)], [.box [.v (.slice none 0 0), .v (.slice none 0 0)] 161 false]⟩ (by kernel_rfl) ?_
 refine WL.nil ?_
 refine En.seq ?_
 refine En.region ?_
 refine WL.run ht hn 2 ⟨[sl 4 (.ptr 0 0), sl 12 (.ptr 0 0), sl 13 (.rd (trR rLab x))], [.box [.v (.slice none 0 0), .v (.slice none 0 0)] 161 false]⟩ (by kernel_rfl) ?_
 refine WL.nilBoxO (T := intT) 0 0 1 3 (by rfl) (by rfl) (by rfl) (by rfl) ?_
 refine WL.nilBoxG (T := intT) 0 1 2 23 3 (by rfl) (by rfl) (by rfl) (by rfl) ?_
 have hp := h.1
 replace h := h.2
 refine WL.callE (rLook_ct k x ([] : (List Int)) ([] : (qrMach1)) hp) en158 (caps := []) [0, 1, 2] hn (by rfl) rfl (by rfl) (argsAs (by kernel_rfl) (by rfl)) (by kernel_rfl) (by decide) (by rfl) (by rfl) (fun _ _ => ⟨by rfl, _, by rfl, ?_⟩)
 refine WL.run ht hn 2 ⟨[sl 4 (.ptr 0 0), sl 5 (.ptr 3 0)], [.box [.own 1, .gs 2 0] 161 false, rowI 3 intT ((qrMach0 k x).2.1), gridI 23 3 intT ((qrMach0 k x).2.2), .box [B ((qrMach0 k x).1).fEmpty, LS intT ((qrMach0 k x).1).fFirst, LS intT ((qrMach0 k x).1).fLast] 272 false]⟩ (by kernel_rfl) ?_
 refine WL.nil ?_
 refine En.seq ?_
 refine En.region ?_
 refine WL.run ht hn 6 ⟨[sl 4 (.ptr 0 0), sl 5 (.ptr 3 0), sl 6 (qrMach2 k x)], [.box [.own 1, .gs 2 0] 161 false, rowI 3 intT ((qrMach0 k x).2.1), gridI 23 3 intT ((qrMach0 k x).2.2), .box [B ((qrMach0 k x).1).fEmpty, LS intT ((qrMach0 k x).1).fFirst, LS intT ((qrMach0 k x).1).fLast] 272 false]⟩ (by kernel_rfl) ?_
 refine WL.nil ?_
 refine En.seq ?_
 refine En.region ?_
 refine WL.run ht hn 2 ⟨[sl 4 (.ptr 0 0), sl 5 (.ptr 3 0), sl 6 (qrMach2 k x), sl 21 (I (qrMach4 k x))], [.box [.own 1, .gs 2 0] 161 false, rowI 3 intT ((qrMach0 k x).2.1), gridI 23 3 intT ((qrMach0 k x).2.2), .box [B ((qrMach0 k x).1).fEmpty, LS intT ((qrMach0 k x).1).fFirst, LS intT ((qrMach0 k x).1).fLast] 272 false]⟩ (by kernel_rfl) ?_
 have hp := h.1
 replace h := h.2
 refine WL.mt0 (K := []) (p := some (4, rowI 4 boolT (List.replicate ((qrMach4 k x)).toNat false))) hn (by rfl) (mt_make (T := boolT) false (zv := (.bool false)) 4 (l := (qrMach4 k x)) (cp := (qrMach4 k x)) ht rfl (by rfl) (by rfl) (by rfl) (by rfl) (by decide) (by rfl) (by rfl) hp.1 hp.2.1 hp.2.2 (hp.le (by decide)) rfl (fun _ => ⟨rfl, trivial⟩)) (by rfl) (by rfl) (by rfl) ?_
 refine WL.run ht hn 1 ⟨[sl 4 (.ptr 0 0), sl 5 (.ptr 3 0), sl 6 (qrMach2 k x), sl 7 (.own 4)], [.box [.own 1, .gs 2 0] 161 false, rowI 3 intT ((qrMach0 k x).2.1), gridI 23 3 intT ((qrMach0 k x).2.2), .box [B ((qrMach0 k x).1).fEmpty, LS intT ((qrMach0 k x).1).fFirst, LS intT ((qrMach0 k x).1).fLast] 272 false, rowI 4 boolT (List.replicate ((qrMach4 k x)).toNat false)]⟩ (by kernel_rfl) ?_
 refine WL.nil ?_
 refine En.seq ?_
 refine En.seq ?_
 refine En.region ?_
 refine WL.run ht hn 4 ⟨[sl 4 (.ptr 0 0), sl 5 (.ptr 3 0), sl 6 (qrMach2 k x), sl 7 (.own 4), sl 24 (qrMach6 k x), sl 25 (qrMach3 k x), sl 26 (I 0)], [.box [.own 1, .gs 2 0] 161 false, rowI 3 intT ((qrMach0 k x).2.1), gridI 23 3 intT ((qrMach0 k x).2.2), .box [B ((qrMach0 k x).1).fEmpty, LS intT ((qrMach0 k x).1).fFirst, LS intT ((qrMach0 k x).1).fLast] 272 false, rowI 4 boolT (List.replicate ((qrMach4 k x)).toNat false)]⟩ (by kernel_rfl) ?_
 refine WL.nil ?_
 refine En.block ?_
 obtain ⟨Inv, mu, h0, hI⟩ := h
 refine En.loop (σ := Int × (List Bool)) (fun zz => Inv zz.1 zz.2) (fun zz => mu zz.1 zz.2) (fun zz => ⟨[sl 4 (.ptr 0 0), sl 5 (.ptr 3 0), sl 6 (qrMach2 k x), sl 7 (.own 4), sl 24 (qrMach6 k x), sl 25 (qrMach3 k x), sl 26 (I zz.1)], [.box [.own 1, .gs 2 0] 161 false, rowI 3 intT ((qrMach0 k x).2.1), gridI 23 3 intT ((qrMach0 k x).2.2), .box [B ((qrMach0 k x).1).fEmpty, LS intT ((qrMach0 k x).1).fFirst, LS intT ((qrMach0 k x).1).fLast] 272 false, rowI 4 boolT zz.2]⟩) (0, (List.replicate ((qrMach4 k x)).toNat false)) h0 (sub_ok (by kernel_rfl)) ?_
 rintro ⟨x26, l4⟩ h
 replace h := hI _ _ h
 show En c ⟨[sl 4 (.ptr 0 0), sl 5 (.ptr 3 0), sl 6 (qrMach2 k x), sl 7 (.own 4), sl 24 (qrMach6 k x), sl 25 (qrMach3 k x), sl 26 (I x26)], [.box [.own 1, .gs 2 0] 161 false, rowI 3 intT ((qrMach0 k x).2.1), gridI 23 3 intT ((qrMach0 k x).2.2), .box [B ((qrMach0 k x).1).fEmpty, LS intT ((qrMach0 k x).1).fFirst, LS intT ((qrMach0 k x).1).fLast] 272 false, rowI 4 boolT l4]⟩ _
 refine En.seq ?_
 refine En.region ?_
 refine WL.run ht hn 1 ⟨[sl 4 (.ptr 0 0), sl 5 (.ptr 3 0), sl 6 (qrMach2 k x), sl 7 (.own 4), sl 24 (qrMach6 k x), sl 25 (qrMach3 k x), sl 26 (I x26), sl 27 (B (decide (x26 < (((qrMach0 k x).1).fLast.length : Int))))], [.box [.own 1, .gs 2 0] 161 false, rowI 3 intT ((qrMach0 k x).2.1), gridI 23 3 intT ((qrMach0 k x).2.2), .box [B ((qrMach0 k x).1).fEmpty, LS intT ((qrMach0 k x).1).fFirst, LS intT ((qrMach0 k x).1).fLast] 272 false, rowI 4 boolT l4]⟩ (by kernel_rfl) ?_
 refine WL.nil ?_
 refine En.seq ?_
 refine En.cond (b := (decide (x26 < (((qrMach0 k x).1).fLast.length : Int)))) (by kernel_rfl) (fun hb => ?_) (fun hb => ?_)
 replace h := h.1 hb
 refine En.skip ?_
 refine En.seq ?_
 refine En.block ?_
 refine En.seq ?_
 refine En.region ?_
 obtain ⟨e, he, h⟩ := h
 refine WL.val hn (by rfl) (val_index (T := intT) (l := ((qrMach0 k x).1).fLast) (i := x26) ht rfl (by rfl) (by rfl) (by rfl) (by rfl) (by rfl) (by rfl) he) (by rfl) ?_
 refine WL.val hn (by rfl) (val_load (s := .one (I e)) ht rfl (by rfl) (by rfl) (by rfl) (by rfl) (by rfl)) (by rfl) ?_
 refine WL.run ht hn 1 ⟨[sl 4 (.ptr 0 0), sl 5 (.ptr 3 0), sl 6 (qrMach2 k x), sl 7 (.own 4), sl 9 (I e), sl 24 (qrMach6 k x), sl 25 (qrMach3 k x), sl 26 (I x26)], [.box [.own 1, .gs 2 0] 161 false, rowI 3 intT ((qrMach0 k x).2.1), gridI 23 3 intT ((qrMach0 k x).2.2), .box [B ((qrMach0 k x).1).fEmpty, LS intT ((qrMach0 k x).1).fFirst, LS intT ((qrMach0 k x).1).fLast] 272 false, rowI 4 boolT l4]⟩ (by kernel_rfl) ?_
 refine WL.nil ?_
 refine En.region ?_
 refine WL.run ht hn 2 ⟨[sl 4 (.ptr 0 0), sl 5 (.ptr 3 0), sl 6 (qrMach2 k x), sl 7 (.own 4), sl 24 (qrMach6 k x), sl 25 (qrMach3 k x), sl 26 (I x26), sl 30 (.own 4), sl 31 (I e)], [.box [.own 1, .gs 2 0] 161 false, rowI 3 intT ((qrMach0 k x).2.1), gridI 23 3 intT ((qrMach0 k x).2.2), .box [B ((qrMach0 k x).1).fEmpty, LS intT ((qrMach0 k x).1).fFirst, LS intT ((qrMach0 k x).1).fLast] 272 false, rowI 4 boolT l4]⟩ (by kernel_rfl) ?_
 obtain ⟨e_2, he_2, h⟩ := h
 refine WL.val hn (by rfl) (val_indexO (T := boolT) (l := l4) (k := e) ht rfl (by rfl) (by rfl) (by rfl) (by rfl) (by decide) (by rfl) (by rfl) (by rfl) he_2) (by rfl) ?_
 refine WL.storeO (T := boolT) (l := l4) (y := true) ht hn (by rfl) rfl (by rfl) (by rfl) (fun _ h => by cases h) (by rfl) (by rfl) (idx_lt he_2) (by rfl) (by rfl) (by rfl) (by rfl) ?_
 refine WL.nil ?_
 refine En.region ?_
 refine WL.run ht hn 2 ⟨[sl 4 (.ptr 0 0), sl 5 (.ptr 3 0), sl 6 (qrMach2 k x), sl 7 (.own 4), sl 24 (qrMach6 k x), sl 25 (qrMach3 k x), sl 26 (I (wr (x26 + 1)))], [.box [.own 1, .gs 2 0] 161 false, rowI 3 intT ((qrMach0 k x).2.1), gridI 23 3 intT ((qrMach0 k x).2.2), .box [B ((qrMach0 k x).1).fEmpty, LS intT ((qrMach0 k x).1).fFirst, LS intT ((qrMach0 k x).1).fLast] 272 false, rowI 4 boolT (l4.set (e).toNat true)]⟩ (by kernel_rfl) ?_
 refine WL.nil ?_
 exact En.at (I := fun zz => Inv zz.1 zz.2 ∧ mu zz.1 zz.2 < mu x26 l4) (T := fun zz => ⟨[sl 4 (.ptr 0 0), sl 5 (.ptr 3 0), sl 6 (qrMach2 k x), sl 7 (.own 4), sl 24 (qrMach6 k x), sl 25 (qrMach3 k x), sl 26 (I zz.1)], [.box [.own 1, .gs 2 0] 161 false, rowI 3 intT ((qrMach0 k x).2.1), gridI 23 3 intT ((qrMach0 k x).2.2), .box [B ((qrMach0 k x).1).fEmpty, LS intT ((qrMach0 k x).1).fFirst, LS intT ((qrMach0 k x).1).fLast] 272 false, rowI 4 boolT zz.2]⟩) ((wr (x26 + 1)), (l4.set (e).toNat true)) h (by kernel_rfl)
 replace h := h.2 hb
 refine En.exit rfl ?_
 refine En.seq ?_
 refine En.region ?_
 refine WL.run ht hn 4 ⟨[sl 4 (.ptr 0 0), sl 5 (.ptr 3 0), sl 7 (.own 4), sl 34 (.own 4), sl 35 (qrMach2 k x), sl 37 (B ((qrMach0 k x).1).fEmpty)], [.box [.own 1, .gs 2 0] 161 false, rowI 3 intT ((qrMach0 k x).2.1), gridI 23 3 intT ((qrMach0 k x).2.2), .box [B ((qrMach0 k x).1).fEmpty, LS intT ((qrMach0 k x).1).fFirst, LS intT ((qrMach0 k x).1).fLast] 272 false, rowI 4 boolT l4]⟩ (by kernel_rfl) ?_
 obtain ⟨e_3, he_3, h⟩ := h
 refine WL.val hn (by rfl) (val_indexO (T := boolT) (l := l4) (k := (((qrMach0 k x).2.1).length : Int)) ht rfl (by rfl) (by rfl) (by rfl) (by rfl) (by decide) (by rfl) (by rfl) (by rfl) he_3) (by rfl) ?_
 refine WL.storeO (T := boolT) (l := l4) (y := ((qrMach0 k x).1).fEmpty) ht hn (by rfl) rfl (by rfl) (by rfl) (fun _ h => by cases h) (by rfl) (by rfl) (idx_lt he_3) (by rfl) (by rfl) (by rfl) (by rfl) ?_
 refine WL.nil ?_
 refine En.seq ?_
 have hp_r8 := h.1
 replace h := h.2
 refine En.regionD ⟨[sl 4 (.ptr 0 0), sl 7 (.own 4)], [.box [.own 1, .own 2] 161 false, rowI 3 intT ((qrMach0 k x).2.1), rowI 23 (lsT intT) (((qrMach0 k x).2.2) ++ ([((qrMach0 k x).1).fFirst] : (qrMach1))), .gone, rowI 4 boolT (l4.set ((((qrMach0 k x).2.1).length : Int)).toNat ((qrMach0 k x).1).fEmpty), .gone]⟩ (by kernel_rfl) ?_ ?_
 intro N' hF
 refine RD.have 0 #[true, true, true, true, true, true, true, true, true, true, true, true] ⟨[sl 4 (.ptr 0 0), sl 7 (.own 4)], [.box [.own 1, .own 2] 161 false, rowI 3 intT ((qrMach0 k x).2.1), rowI 23 (lsT intT) (((qrMach0 k x).2.2) ++ ([((qrMach0 k x).1).fFirst] : (qrMach1))), .gone, rowI 4 boolT (l4.set ((((qrMach0 k x).2.1).length : Int)).toNat ((qrMach0 k x).1).fEmpty), .gone]⟩ (RD.nil (by kernel_rfl) hF) (fun rd44 => ?_)
 refine RD.have 1 #[true, true, true, true, true, true, true, true, true, true, true, false] ⟨[sl 4 (.ptr 0 0), sl 7 (.own 4), sl 47 (.own 2), sl 49 (.ptr 0 1)], [.box [.own 1, .junk] 161 false, rowI 3 intT ((qrMach0 k x).2.1), rowI 23 (lsT intT) (((qrMach0 k x).2.2) ++ ([((qrMach0 k x).1).fFirst] : (qrMach1))), .gone, rowI 4 boolT (l4.set ((((qrMach0 k x).2.1).length : Int)).toNat ((qrMach0 k x).1).fEmpty), .gone]⟩ ?_ (fun rd43 => ?_)
 refine RD.succ [11] (by kernel_rfl) rfl ⟨⟨_, _, _, rfl, ?_, rfl, rd44⟩, trivial⟩
 exact WL.run ht hn 1 _ (by kernel_rfl) WL.nilI
 refine RD.have 2 #[true, true, true, true, true, true, true, true, true, true, false, false] ⟨[sl 4 (.ptr 0 0), sl 7 (.own 4), sl 47 (.own 2), sl 48 (.ptr 0 0)], [.box [.own 1, .junk] 161 false, rowI 3 intT ((qrMach0 k x).2.1), rowI 23 (lsT intT) (((qrMach0 k x).2.2) ++ ([((qrMach0 k x).1).fFirst] : (qrMach1))), .gone, rowI 4 boolT (l4.set ((((qrMach0 k x).2.1).length : Int)).toNat ((qrMach0 k x).1).fEmpty), .gone]⟩ ?_ (fun rd42 => ?_)
 refine RD.succ [10] (by kernel_rfl) rfl ⟨⟨_, _, _, rfl, ?_, rfl, rd43⟩, trivial⟩
 exact WL.run ht hn 1 _ (by kernel_rfl) WL.nilI
 refine RD.have 3 #[true, true, true, true, true, true, true, true, true, false, false, false] ⟨[sl 4 (.ptr 0 0), sl 7 (.own 4), sl 39 (.ptr 0 0), sl 47 (.own 2)], [.box [.own 1, .junk] 161 false, rowI 3 intT ((qrMach0 k x).2.1), rowI 23 (lsT intT) (((qrMach0 k x).2.2) ++ ([((qrMach0 k x).1).fFirst] : (qrMach1))), .gone, rowI 4 boolT (l4.set ((((qrMach0 k x).2.1).length : Int)).toNat ((qrMach0 k x).1).fEmpty), .gone]⟩ ?_ (fun rd41 => ?_)
 refine RD.succ [9] (by kernel_rfl) rfl ⟨⟨_, _, _, rfl, ?_, rfl, rd42⟩, trivial⟩
 exact WL.run ht hn 1 _ (by kernel_rfl) WL.nilI
 refine RD.have 4 #[false, true, true, true, true, true, true, true, true, false, false, false] ⟨[sl 4 (.ptr 0 0), sl 7 (.own 4), sl 47 (.own 2)], [.box [.own 1, .junk] 161 false, rowI 3 intT ((qrMach0 k x).2.1), rowI 23 (lsT intT) (((qrMach0 k x).2.2) ++ ([((qrMach0 k x).1).fFirst] : (qrMach1))), .gone, rowI 4 boolT (l4.set ((((qrMach0 k x).2.1).length : Int)).toNat ((qrMach0 k x).1).fEmpty), .gone]⟩ ?_ (fun rd40 => ?_)
 refine RD.succ [0] (by kernel_rfl) rfl ⟨⟨_, _, _, rfl, ?_, rfl, rd41⟩, trivial⟩
 exact WL.run ht hn 1 _ (by kernel_rfl) WL.nilI
 refine RD.have 4 #[true, true, true, true, true, true, true, true, false, false, false, false] ⟨[sl 4 (.ptr 0 0), sl 7 (.own 4), sl 39 (.ptr 0 0), sl 43 (.gs 2 0), sl 46 (.own 5)], [.box [.own 1, .gs 2 0] 161 false, rowI 3 intT ((qrMach0 k x).2.1), gridI 23 3 intT ((qrMach0 k x).2.2), .gone, rowI 4 boolT (l4.set ((((qrMach0 k x).2.1).length : Int)).toNat ((qrMach0 k x).1).fEmpty), rowI 23 (lsT intT) ([((qrMach0 k x).1).fFirst] : (qrMach1))]⟩ ?_ (fun rd39 => ?_)
 refine RD.succ [8] (by kernel_rfl) rfl ⟨⟨_, _, _, rfl, ?_, rfl, rd41⟩, trivial⟩
 refine WL.sub ⟨[sl 4 (.ptr 0 0), sl 7 (.own 4), sl 39 (.ptr 0 0), sl 43 (.gs 2 0), sl 46 (.own 5)], [.box [.own 1, .gs 2 0] 161 false, rowI 3 intT ((qrMach0 k x).2.1), gridI 23 3 intT ((qrMach0 k x).2.2), .gone, rowI 4 boolT (l4.set ((((qrMach0 k x).2.1).length : Int)).toNat ((qrMach0 k x).1).fEmpty), rowI 23 (lsT intT) ([((qrMach0 k x).1).fFirst] : (qrMach1))]⟩ (by kernel_rfl) ?_
 refine WL.sealRows (T := intT) (L := ((qrMach0 k x).2.2)) 2 (by rfl) (by rfl) (by rfl) ?_
 refine WL.sub ⟨[sl 4 (.ptr 0 0), sl 7 (.own 4), sl 39 (.ptr 0 0), sl 43 (.own 2), sl 46 (.own 5)], [.box [.own 1, .own 2] 161 false, rowI 3 intT ((qrMach0 k x).2.1), rowI 23 (lsT intT) ((qrMach0 k x).2.2), .gone, rowI 4 boolT (l4.set ((((qrMach0 k x).2.1).length : Int)).toNat ((qrMach0 k x).1).fEmpty), rowI 23 (lsT intT) ([((qrMach0 k x).1).fFirst] : (qrMach1))]⟩ (by kernel_rfl) ?_
 refine WL.seal (T := (lsT intT)) (l := ([((qrMach0 k x).1).fFirst] : (qrMach1))) (e := 23) 5 rfl ?_
 refine WL.run ht hn 0 ⟨[sl 4 (.ptr 0 0), sl 7 (.own 4), sl 39 (.ptr 0 0), sl 43 (.own 2), sl 46 (qrMach7 k x)], [.box [.own 1, .own 2] 161 false, rowI 3 intT ((qrMach0 k x).2.1), rowI 23 (lsT intT) ((qrMach0 k x).2.2), .gone, rowI 4 boolT (l4.set ((((qrMach0 k x).2.1).length : Int)).toNat ((qrMach0 k x).1).fEmpty), .gone]⟩ (by kernel_rfl) ?_
 refine WL.junk 0 1 (by rfl) ?_
 refine WL.mt (S2 := ⟨[sl 4 (.ptr 0 0), sl 7 (.own 4), sl 39 (.ptr 0 0), sl 46 (qrMach7 k x)], [.box [.own 1, .junk] 161 false, rowI 3 intT ((qrMach0 k x).2.1), rowI 23 (lsT intT) ((qrMach0 k x).2.2), .gone, rowI 4 boolT (l4.set ((((qrMach0 k x).2.1).length : Int)).toNat ((qrMach0 k x).1).fEmpty), .gone]⟩) (K := [2]) (p := some (2, rowI 23 (lsT intT) (((qrMach0 k x).2.2) ++ ([((qrMach0 k x).1).fFirst] : (qrMach1))))) hn (by rfl) (mt_append (T := (lsT intT)) (l := ((qrMach0 k x).2.2)) (es := ([((qrMach0 k x).1).fFirst] : (qrMach1))) ht rfl (by rfl) (by rfl) (by rfl) (by rfl) (by decide) (by rfl) (by rfl) (srcLS (T := (lsT intT)) (es := ([((qrMach0 k x).1).fFirst] : (qrMach1))) (fun _ h => by cases h) (by decide) (by rfl)) (by exact hp_r8) (by exact hp_r8.le (by decide))) (by kernel_rfl) (by rfl) (by rfl) (by rfl) ?_
 refine WL.nil ?_
 exact sub_ok (by kernel_rfl)
 refine RD.have 5 #[false, true, true, true, true, true, true, true, false, false, false, false] ⟨[sl 4 (.ptr 0 0), sl 7 (.own 4), sl 43 (.gs 2 0), sl 46 (.own 5)], [.box [.own 1, .gs 2 0] 161 false, rowI 3 intT ((qrMach0 k x).2.1), gridI 23 3 intT ((qrMach0 k x).2.2), .gone, rowI 4 boolT (l4.set ((((qrMach0 k x).2.1).length : Int)).toNat ((qrMach0 k x).1).fEmpty), rowI 23 (lsT intT) ([((qrMach0 k x).1).fFirst] : (qrMach1))]⟩ ?_ (fun rd38 => ?_)
 refine RD.succ [0, 8] (by kernel_rfl) rfl ⟨⟨_, _, _, rfl, ?_, rfl, rd39⟩, ⟨_, _, _, rfl, ?_, rfl, rd40⟩, trivial⟩
 exact WL.run ht hn 1 _ (by kernel_rfl) WL.nilI
 refine WL.sub ⟨[sl 4 (.ptr 0 0), sl 7 (.own 4), sl 43 (.gs 2 0), sl 46 (.own 5)], [.box [.own 1, .gs 2 0] 161 false, rowI 3 intT ((qrMach0 k x).2.1), gridI 23 3 intT ((qrMach0 k x).2.2), .gone, rowI 4 boolT (l4.set ((((qrMach0 k x).2.1).length : Int)).toNat ((qrMach0 k x).1).fEmpty), rowI 23 (lsT intT) ([((qrMach0 k x).1).fFirst] : (qrMach1))]⟩ (by kernel_rfl) ?_
 refine WL.sealRows (T := intT) (L := ((qrMach0 k x).2.2)) 2 (by rfl) (by rfl) (by rfl) ?_
 refine WL.sub ⟨[sl 4 (.ptr 0 0), sl 7 (.own 4), sl 43 (.own 2), sl 46 (.own 5)], [.box [.own 1, .own 2] 161 false, rowI 3 intT ((qrMach0 k x).2.1), rowI 23 (lsT intT) ((qrMach0 k x).2.2), .gone, rowI 4 boolT (l4.set ((((qrMach0 k x).2.1).length : Int)).toNat ((qrMach0 k x).1).fEmpty), rowI 23 (lsT intT) ([((qrMach0 k x).1).fFirst] : (qrMach1))]⟩ (by kernel_rfl) ?_
 refine WL.seal (T := (lsT intT)) (l := ([((qrMach0 k x).1).fFirst] : (qrMach1))) (e := 23) 5 rfl ?_
 refine WL.run ht hn 0 ⟨[sl 4 (.ptr 0 0), sl 7 (.own 4), sl 43 (.own 2), sl 46 (qrMach7 k x)], [.box [.own 1, .own 2] 161 false, rowI 3 intT ((qrMach0 k x).2.1), rowI 23 (lsT intT) ((qrMach0 k x).2.2), .gone, rowI 4 boolT (l4.set ((((qrMach0 k x).2.1).length : Int)).toNat ((qrMach0 k x).1).fEmpty), .gone]⟩ (by kernel_rfl) ?_
 refine WL.junk 0 1 (by rfl) ?_
 refine WL.mt (S2 := ⟨[sl 4 (.ptr 0 0), sl 7 (.own 4), sl 46 (qrMach7 k x)], [.box [.own 1, .junk] 161 false, rowI 3 intT ((qrMach0 k x).2.1), rowI 23 (lsT intT) ((qrMach0 k x).2.2), .gone, rowI 4 boolT (l4.set ((((qrMach0 k x).2.1).length : Int)).toNat ((qrMach0 k x).1).fEmpty), .gone]⟩) (K := [2]) (p := some (2, rowI 23 (lsT intT) (((qrMach0 k x).2.2) ++ ([((qrMach0 k x).1).fFirst] : (qrMach1))))) hn (by rfl) (mt_append (T := (lsT intT)) (l := ((qrMach0 k x).2.2)) (es := ([((qrMach0 k x).1).fFirst] : (qrMach1))) ht rfl (by rfl) (by rfl) (by rfl) (by rfl) (by decide) (by rfl) (by rfl) (srcLS (T := (lsT intT)) (es := ([((qrMach0 k x).1).fFirst] : (qrMach1))) (fun _ h => by cases h) (by decide) (by rfl)) (by exact hp_r8) (by exact hp_r8.le (by decide))) (by kernel_rfl) (by rfl) (by rfl) (by rfl) ?_
 refine WL.nil ?_
 exact sub_ok (by kernel_rfl)
 refine RD.have 5 #[true, true, true, true, false, true, true, true, false, false, false, false] ⟨[sl 4 (.ptr 0 0), sl 7 (.own 4), sl 39 (.ptr 0 0), sl 42 (.ptr 0 1), sl 46 (.own 5)], [.box [.own 1, .gs 2 0] 161 false, rowI 3 intT ((qrMach0 k x).2.1), gridI 23 3 intT ((qrMach0 k x).2.2), .gone, rowI 4 boolT (l4.set ((((qrMach0 k x).2.1).length : Int)).toNat ((qrMach0 k x).1).fEmpty), rowI 23 (lsT intT) ([((qrMach0 k x).1).fFirst] : (qrMach1))]⟩ ?_ (fun rd37 => ?_)
 refine RD.succ [4] (by kernel_rfl) rfl ⟨⟨_, _, _, rfl, ?_, rfl, rd39⟩, trivial⟩
 exact WL.run ht hn 1 _ (by kernel_rfl) WL.nilI
 refine RD.have 5 #[true, true, true, true, true, true, true, false, false, false, false, false] ⟨[sl 4 (.ptr 0 0), sl 7 (.own 4), sl 39 (.ptr 0 0), sl 43 (.gs 2 0), sl 45 (qrMach5 k x)], [.box [.own 1, .gs 2 0] 161 false, rowI 3 intT ((qrMach0 k x).2.1), gridI 23 3 intT ((qrMach0 k x).2.2), .gone, rowI 4 boolT (l4.set ((((qrMach0 k x).2.1).length : Int)).toNat ((qrMach0 k x).1).fEmpty)]⟩ ?_ (fun rd36 => ?_)
 refine RD.succ [7] (by kernel_rfl) rfl ⟨⟨_, _, _, rfl, ?_, rfl, rd39⟩, trivial⟩
 refine WL.mt0 (K := []) (p := some (5, rowI 23 (lsT intT) ([((qrMach0 k x).1).fFirst] : (qrMach1)))) hn (by rfl) (mt_lit (T := (lsT intT)) ([((qrMach0 k x).1).fFirst] : (qrMach1)) (mt_bsl 5 (r := cellsOf (lsT intT) ([((qrMach0 k x).1).fFirst] : (qrMach1))) ht rfl (by rfl) (by rfl) (by rfl) (by kernel_rfl) (by rfl)) (fun _ h => by cases h) (fun _ => rfl) (fun _ => rfl) (by rfl) (Nat.le_of_ble_eq_true rfl)) (by rfl) (by rfl) (by rfl) ?_
 refine WL.nil ?_
 exact sub_ok (by kernel_rfl)
 refine RD.have 6 #[false, true, true, true, false, true, true, true, false, false, false, false] ⟨[sl 4 (.ptr 0 0), sl 7 (.own 4), sl 42 (.ptr 0 1), sl 46 (.own 5)], [.box [.own 1, .gs 2 0] 161 false, rowI 3 intT ((qrMach0 k x).2.1), gridI 23 3 intT ((qrMach0 k x).2.2), .gone, rowI 4 boolT (l4.set ((((qrMach0 k x).2.1).length : Int)).toNat ((qrMach0 k x).1).fEmpty), rowI 23 (lsT intT) ([((qrMach0 k x).1).fFirst] : (qrMach1))]⟩ ?_ (fun rd35 => ?_)
 refine RD.succ [0, 4] (by kernel_rfl) rfl ⟨⟨_, _, _, rfl, ?_, rfl, rd37⟩, ⟨_, _, _, rfl, ?_, rfl, rd38⟩, trivial⟩
 exact WL.run ht hn 1 _ (by kernel_rfl) WL.nilI
 exact WL.run ht hn 1 _ (by kernel_rfl) WL.nilI
 refine RD.have 6 #[false, true, true, true, true, true, true, false, false, false, false, false] ⟨[sl 4 (.ptr 0 0), sl 7 (.own 4), sl 43 (.gs 2 0), sl 45 (qrMach5 k x)], [.box [.own 1, .gs 2 0] 161 false, rowI 3 intT ((qrMach0 k x).2.1), gridI 23 3 intT ((qrMach0 k x).2.2), .gone, rowI 4 boolT (l4.set ((((qrMach0 k x).2.1).length : Int)).toNat ((qrMach0 k x).1).fEmpty)]⟩ ?_ (fun rd34 => ?_)
 refine RD.succ [0, 7] (by kernel_rfl) rfl ⟨⟨_, _, _, rfl, ?_, rfl, rd36⟩, ⟨_, _, _, rfl, ?_, rfl, rd38⟩, trivial⟩
 exact WL.run ht hn 1 _ (by kernel_rfl) WL.nilI
 refine WL.mt0 (K := []) (p := some (5, rowI 23 (lsT intT) ([((qrMach0 k x).1).fFirst] : (qrMach1)))) hn (by rfl) (mt_lit (T := (lsT intT)) ([((qrMach0 k x).1).fFirst] : (qrMach1)) (mt_bsl 5 (r := cellsOf (lsT intT) ([((qrMach0 k x).1).fFirst] : (qrMach1))) ht rfl (by rfl) (by rfl) (by rfl) (by kernel_rfl) (by rfl)) (fun _ h => by cases h) (fun _ => rfl) (fun _ => rfl) (by rfl) (Nat.le_of_ble_eq_true rfl)) (by rfl) (by rfl) (by rfl) ?_
 refine WL.nil ?_
 exact sub_ok (by kernel_rfl)
 refine RD.have 6 #[true, true, true, false, false, true, true, true, false, false, false, false] ⟨[sl 4 (.ptr 0 0), sl 7 (.own 4), sl 39 (.ptr 0 0), sl 41 (.ptr 0 0), sl 46 (.own 5)], [.box [.own 1, .gs 2 0] 161 false, rowI 3 intT ((qrMach0 k x).2.1), gridI 23 3 intT ((qrMach0 k x).2.2), .gone, rowI 4 boolT (l4.set ((((qrMach0 k x).2.1).length : Int)).toNat ((qrMach0 k x).1).fEmpty), rowI 23 (lsT intT) ([((qrMach0 k x).1).fFirst] : (qrMach1))]⟩ ?_ (fun rd33 => ?_)
 refine RD.succ [3] (by kernel_rfl) rfl ⟨⟨_, _, _, rfl, ?_, rfl, rd37⟩, trivial⟩
 exact WL.run ht hn 1 _ (by kernel_rfl) WL.nilI
 refine RD.have 6 #[true, true, true, true, false, true, true, false, false, false, false, false] ⟨[sl 4 (.ptr 0 0), sl 7 (.own 4), sl 39 (.ptr 0 0), sl 42 (.ptr 0 1), sl 45 (qrMach5 k x)], [.box [.own 1, .gs 2 0] 161 false, rowI 3 intT ((qrMach0 k x).2.1), gridI 23 3 intT ((qrMach0 k x).2.2), .gone, rowI 4 boolT (l4.set ((((qrMach0 k x).2.1).length : Int)).toNat ((qrMach0 k x).1).fEmpty)]⟩ ?_ (fun rd32 => ?_)
 refine RD.succ [4, 7] (by kernel_rfl) rfl ⟨⟨_, _, _, rfl, ?_, rfl, rd36⟩, ⟨_, _, _, rfl, ?_, rfl, rd37⟩, trivial⟩
 exact WL.run ht hn 1 _ (by kernel_rfl) WL.nilI
 refine WL.mt0 (K := []) (p := some (5, rowI 23 (lsT intT) ([((qrMach0 k x).1).fFirst] : (qrMach1)))) hn (by rfl) (mt_lit (T := (lsT intT)) ([((qrMach0 k x).1).fFirst] : (qrMach1)) (mt_bsl 5 (r := cellsOf (lsT intT) ([((qrMach0 k x).1).fFirst] : (qrMach1))) ht rfl (by rfl) (by rfl) (by rfl) (by kernel_rfl) (by rfl)) (fun _ h => by cases h) (fun _ => rfl) (fun _ => rfl) (by rfl) (Nat.le_of_ble_eq_true rfl)) (by rfl) (by rfl) (by rfl) ?_
 refine WL.nil ?_
 exact sub_ok (by kernel_rfl)
 refine RD.have 6 #[true, true, true, true, true, true, false, false, false, false, false, false] ⟨[sl 4 (.ptr 0 0), sl 7 (.own 4), sl 39 (.ptr 0 0), sl 43 (.gs 2 0), sl 44 (.ptr 3 1)], [.box [.own 1, .gs 2 0] 161 false, rowI 3 intT ((qrMach0 k x).2.1), gridI 23 3 intT ((qrMach0 k x).2.2), .box [B ((qrMach0 k x).1).fEmpty, LS intT ((qrMach0 k x).1).fFirst, LS intT ((qrMach0 k x).1).fLast] 272 false, rowI 4 boolT (l4.set ((((qrMach0 k x).2.1).length : Int)).toNat ((qrMach0 k x).1).fEmpty)]⟩ ?_ (fun rd31 => ?_)
 refine RD.succ [6] (by kernel_rfl) rfl ⟨⟨_, _, _, rfl, ?_, rfl, rd36⟩, trivial⟩
 exact WL.run ht hn 1 _ (by kernel_rfl) WL.nilI
 refine RD.have 7 #[false, true, true, false, false, true, true, true, false, false, false, false] ⟨[sl 4 (.ptr 0 0), sl 7 (.own 4), sl 41 (.ptr 0 0), sl 46 (.own 5)], [.box [.own 1, .gs 2 0] 161 false, rowI 3 intT ((qrMach0 k x).2.1), gridI 23 3 intT ((qrMach0 k x).2.2), .gone, rowI 4 boolT (l4.set ((((qrMach0 k x).2.1).length : Int)).toNat ((qrMach0 k x).1).fEmpty), rowI 23 (lsT intT) ([((qrMach0 k x).1).fFirst] : (qrMach1))]⟩ ?_ (fun rd30 => ?_)
 refine RD.succ [0, 3] (by kernel_rfl) rfl ⟨⟨_, _, _, rfl, ?_, rfl, rd33⟩, ⟨_, _, _, rfl, ?_, rfl, rd35⟩, trivial⟩
 exact WL.run ht hn 1 _ (by kernel_rfl) WL.nilI
 exact WL.run ht hn 1 _ (by kernel_rfl) WL.nilI
 refine RD.have 7 #[false, true, true, true, false, true, true, false, false, false, false, false] ⟨[sl 4 (.ptr 0 0), sl 7 (.own 4), sl 42 (.ptr 0 1), sl 45 (qrMach5 k x)], [.box [.own 1, .gs 2 0] 161 false, rowI 3 intT ((qrMach0 k x).2.1), gridI 23 3 intT ((qrMach0 k x).2.2), .gone, rowI 4 boolT (l4.set ((((qrMach0 k x).2.1).length : Int)).toNat ((qrMach0 k x).1).fEmpty)]⟩ ?_ (fun rd29 => ?_)
 refine RD.succ [0, 4, 7] (by kernel_rfl) rfl ⟨⟨_, _, _, rfl, ?_, rfl, rd32⟩, ⟨_, _, _, rfl, ?_, rfl, rd34⟩, ⟨_, _, _, rfl, ?_, rfl, rd35⟩, trivial⟩
 exact WL.run ht hn 1 _ (by kernel_rfl) WL.nilI
 exact WL.run ht hn 1 _ (by kernel_rfl) WL.nilI
 refine WL.mt0 (K := []) (p := some (5, rowI 23 (lsT intT) ([((qrMach0 k x).1).fFirst] : (qrMach1)))) hn (by rfl) (mt_lit (T := (lsT intT)) ([((qrMach0 k x).1).fFirst] : (qrMach1)) (mt_bsl 5 (r := cellsOf (lsT intT) ([((qrMach0 k x).1).fFirst] : (qrMach1))) ht rfl (by rfl) (by rfl) (by rfl) (by kernel_rfl) (by rfl)) (fun _ h => by cases h) (fun _ => rfl) (fun _ => rfl) (by rfl) (Nat.le_of_ble_eq_true rfl)) (by rfl) (by rfl) (by rfl) ?_
 refine WL.nil ?_
 exact sub_ok (by kernel_rfl)
 refine RD.have 7 #[false, true, true, true, true, true, false, false, false, false, false, false] ⟨[sl 4 (.ptr 0 0), sl 7 (.own 4), sl 43 (.gs 2 0), sl 44 (.ptr 3 1)], [.box [.own 1, .gs 2 0] 161 false, rowI 3 intT ((qrMach0 k x).2.1), gridI 23 3 intT ((qrMach0 k x).2.2), .box [B ((qrMach0 k x).1).fEmpty, LS intT ((qrMach0 k x).1).fFirst, LS intT ((qrMach0 k x).1).fLast] 272 false, rowI 4 boolT (l4.set ((((qrMach0 k x).2.1).length : Int)).toNat ((qrMach0 k x).1).fEmpty)]⟩ ?_ (fun rd28 => ?_)
 refine RD.succ [0, 6] (by kernel_rfl) rfl ⟨⟨_, _, _, rfl, ?_, rfl, rd31⟩, ⟨_, _, _, rfl, ?_, rfl, rd34⟩, trivial⟩
 exact WL.run ht hn 1 _ (by kernel_rfl) WL.nilI
 exact WL.run ht hn 1 _ (by kernel_rfl) WL.nilI
 refine RD.have 7 #[true, true, false, false, false, true, true, true, false, false, false, false] ⟨[sl 4 (.ptr 0 0), sl 7 (.own 4), sl 39 (.ptr 0 0), sl 40 (.ptr 0 0), sl 46 (.own 5)], [.box [.own 1, .gs 2 0] 161 false, rowI 3 intT ((qrMach0 k x).2.1), gridI 23 3 intT ((qrMach0 k x).2.2), .gone, rowI 4 boolT (l4.set ((((qrMach0 k x).2.1).length : Int)).toNat ((qrMach0 k x).1).fEmpty), rowI 23 (lsT intT) ([((qrMach0 k x).1).fFirst] : (qrMach1))]⟩ ?_ (fun rd27 => ?_)
 refine RD.succ [2] (by kernel_rfl) rfl ⟨⟨_, _, _, rfl, ?_, rfl, rd33⟩, trivial⟩
 exact WL.run ht hn 1 _ (by kernel_rfl) WL.nilI
 refine RD.have 7 #[true, true, true, false, false, true, true, false, false, false, false, false] ⟨[sl 4 (.ptr 0 0), sl 7 (.own 4), sl 39 (.ptr 0 0), sl 41 (.ptr 0 0), sl 45 (qrMach5 k x)], [.box [.own 1, .gs 2 0] 161 false, rowI 3 intT ((qrMach0 k x).2.1), gridI 23 3 intT ((qrMach0 k x).2.2), .gone, rowI 4 boolT (l4.set ((((qrMach0 k x).2.1).length : Int)).toNat ((qrMach0 k x).1).fEmpty)]⟩ ?_ (fun rd26 => ?_)
 refine RD.succ [3, 7] (by kernel_rfl) rfl ⟨⟨_, _, _, rfl, ?_, rfl, rd32⟩, ⟨_, _, _, rfl, ?_, rfl, rd33⟩, trivial⟩
 exact WL.run ht hn 1 _ (by kernel_rfl) WL.nilI
 refine WL.mt0 (K := []) (p := some (5, rowI 23 (lsT intT) ([((qrMach0 k x).1).fFirst] : (qrMach1)))) hn (by rfl) (mt_lit (T := (lsT intT)) ([((qrMach0 k x).1).fFirst] : (qrMach1)) (mt_bsl 5 (r := cellsOf (lsT intT) ([((qrMach0 k x).1).fFirst] : (qrMach1))) ht rfl (by rfl) (by rfl) (by rfl) (by kernel_rfl) (by rfl)) (fun _ h => by cases h) (fun _ => rfl) (fun _ => rfl) (by rfl) (Nat.le_of_ble_eq_true rfl)) (by rfl) (by rfl) (by rfl) ?_
 refine WL.nil ?_
 exact sub_ok (by kernel_rfl)
 refine RD.have 7 #[true, true, true, true, false, true, false, false, false, false, false, false] ⟨[sl 4 (.ptr 0 0), sl 7 (.own 4), sl 39 (.ptr 0 0), sl 42 (.ptr 0 1), sl 44 (.ptr 3 1)], [.box [.own 1, .gs 2 0] 161 false, rowI 3 intT ((qrMach0 k x).2.1), gridI 23 3 intT ((qrMach0 k x).2.2), .box [B ((qrMach0 k x).1).fEmpty, LS intT ((qrMach0 k x).1).fFirst, LS intT ((qrMach0 k x).1).fLast] 272 false, rowI 4 boolT (l4.set ((((qrMach0 k x).2.1).length : Int)).toNat ((qrMach0 k x).1).fEmpty)]⟩ ?_ (fun rd25 => ?_)
 refine RD.succ [4, 6] (by kernel_rfl) rfl ⟨⟨_, _, _, rfl, ?_, rfl, rd31⟩, ⟨_, _, _, rfl, ?_, rfl, rd32⟩, trivial⟩
 exact WL.run ht hn 1 _ (by kernel_rfl) WL.nilI
 exact WL.run ht hn 1 _ (by kernel_rfl) WL.nilI
 refine RD.have 7 #[true, true, true, true, true, false, false, false, false, false, false, false] ⟨[sl 4 (.ptr 0 0), sl 5 (.ptr 3 0), sl 7 (.own 4), sl 39 (.ptr 0 0), sl 43 (.gs 2 0)], [.box [.own 1, .gs 2 0] 161 false, rowI 3 intT ((qrMach0 k x).2.1), gridI 23 3 intT ((qrMach0 k x).2.2), .box [B ((qrMach0 k x).1).fEmpty, LS intT ((qrMach0 k x).1).fFirst, LS intT ((qrMach0 k x).1).fLast] 272 false, rowI 4 boolT (l4.set ((((qrMach0 k x).2.1).length : Int)).toNat ((qrMach0 k x).1).fEmpty)]⟩ ?_ (fun rd24 => ?_)
 refine RD.succ [5] (by kernel_rfl) rfl ⟨⟨_, _, _, rfl, ?_, rfl, rd31⟩, trivial⟩
 exact WL.run ht hn 1 _ (by kernel_rfl) WL.nilI
 refine RD.have 8 #[false, true, false, false, false, true, true, true, false, false, false, false] ⟨[sl 4 (.ptr 0 0), sl 7 (.own 4), sl 40 (.ptr 0 0), sl 46 (.own 5)], [.box [.own 1, .gs 2 0] 161 false, rowI 3 intT ((qrMach0 k x).2.1), gridI 23 3 intT ((qrMach0 k x).2.2), .gone, rowI 4 boolT (l4.set ((((qrMach0 k x).2.1).length : Int)).toNat ((qrMach0 k x).1).fEmpty), rowI 23 (lsT intT) ([((qrMach0 k x).1).fFirst] : (qrMach1))]⟩ ?_ (fun rd23 => ?_)
 refine RD.succ [0, 2] (by kernel_rfl) rfl ⟨⟨_, _, _, rfl, ?_, rfl, rd27⟩, ⟨_, _, _, rfl, ?_, rfl, rd30⟩, trivial⟩
 exact WL.run ht hn 1 _ (by kernel_rfl) WL.nilI
 exact WL.run ht hn 1 _ (by kernel_rfl) WL.nilI
 refine RD.have 8 #[false, true, true, false, false, true, true, false, false, false, false, false] ⟨[sl 4 (.ptr 0 0), sl 7 (.own 4), sl 41 (.ptr 0 0), sl 45 (qrMach5 k x)], [.box [.own 1, .gs 2 0] 161 false, rowI 3 intT ((qrMach0 k x).2.1), gridI 23 3 intT ((qrMach0 k x).2.2), .gone, rowI 4 boolT (l4.set ((((qrMach0 k x).2.1).length : Int)).toNat ((qrMach0 k x).1).fEmpty)]⟩ ?_ (fun rd22 => ?_)
 refine RD.succ [0, 3, 7] (by kernel_rfl) rfl ⟨⟨_, _, _, rfl, ?_, rfl, rd26⟩, ⟨_, _, _, rfl, ?_, rfl, rd29⟩, ⟨_, _, _, rfl, ?_, rfl, rd30⟩, trivial⟩
 exact WL.run ht hn 1 _ (by kernel_rfl) WL.nilI
 exact WL.run ht hn 1 _ (by kernel_rfl) WL.nilI
 refine WL.mt0 (K := []) (p := some (5, rowI 23 (lsT intT) ([((qrMach0 k x).1).fFirst] : (qrMach1)))) hn (by rfl) (mt_lit (T := (lsT intT)) ([((qrMach0 k x).1).fFirst] : (qrMach1)) (mt_bsl 5 (r := cellsOf (lsT intT) ([((qrMach0 k x).1).fFirst] : (qrMach1))) ht rfl (by rfl) (by rfl) (by rfl) (by kernel_rfl) (by rfl)) (fun _ h => by cases h) (fun _ => rfl) (fun _ => rfl) (by rfl) (Nat.le_of_ble_eq_true rfl)) (by rfl) (by rfl) (by rfl) ?_
 refine WL.nil ?_
 exact sub_ok (by kernel_rfl)
 refine RD.have 8 #[false, true, true, true, false, true, false, false, false, false, false, false] ⟨[sl 4 (.ptr 0 0), sl 7 (.own 4), sl 42 (.ptr 0 1), sl 44 (.ptr 3 1)], [.box [.own 1, .gs 2 0] 161 false, rowI 3 intT ((qrMach0 k x).2.1), gridI 23 3 intT ((qrMach0 k x).2.2), .box [B ((qrMach0 k x).1).fEmpty, LS intT ((qrMach0 k x).1).fFirst, LS intT ((qrMach0 k x).1).fLast] 272 false, rowI 4 boolT (l4.set ((((qrMach0 k x).2.1).length : Int)).toNat ((qrMach0 k x).1).fEmpty)]⟩ ?_ (fun rd21 => ?_)
 refine RD.succ [0, 4, 6] (by kernel_rfl) rfl ⟨⟨_, _, _, rfl, ?_, rfl, rd25⟩, ⟨_, _, _, rfl, ?_, rfl, rd28⟩, ⟨_, _, _, rfl, ?_, rfl, rd29⟩, trivial⟩
 exact WL.run ht hn 1 _ (by kernel_rfl) WL.nilI
 exact WL.run ht hn 1 _ (by kernel_rfl) WL.nilI
 exact WL.run ht hn 1 _ (by kernel_rfl) WL.nilI
 refine RD.have 8 #[false, true, true, true, true, false, false, false, false, false, false, false] ⟨[sl 4 (.ptr 0 0), sl 5 (.ptr 3 0), sl 7 (.own 4), sl 43 (.gs 2 0)], [.box [.own 1, .gs 2 0] 161 false, rowI 3 intT ((qrMach0 k x).2.1), gridI 23 3 intT ((qrMach0 k x).2.2), .box [B ((qrMach0 k x).1).fEmpty, LS intT ((qrMach0 k x).1).fFirst, LS intT ((qrMach0 k x).1).fLast] 272 false, rowI 4 boolT (l4.set ((((qrMach0 k x).2.1).length : Int)).toNat ((qrMach0 k x).1).fEmpty)]⟩ ?_ (fun rd20 => ?_)
 refine RD.succ [0, 5] (by kernel_rfl) rfl ⟨⟨_, _, _, rfl, ?_, rfl, rd24⟩, ⟨_, _, _, rfl, ?_, rfl, rd28⟩, trivial⟩
 exact WL.run ht hn 1 _ (by kernel_rfl) WL.nilI
 exact WL.run ht hn 1 _ (by kernel_rfl) WL.nilI
 refine RD.have 8 #[true, false, false, false, false, true, true, true, false, false, false, false] ⟨[sl 4 (.ptr 0 0), sl 7 (.own 4), sl 39 (.ptr 0 0), sl 46 (.own 5)], [.box [.own 1, .gs 2 0] 161 false, rowI 3 intT ((qrMach0 k x).2.1), gridI 23 3 intT ((qrMach0 k x).2.2), .gone, rowI 4 boolT (l4.set ((((qrMach0 k x).2.1).length : Int)).toNat ((qrMach0 k x).1).fEmpty), rowI 23 (lsT intT) ([((qrMach0 k x).1).fFirst] : (qrMach1))]⟩ ?_ (fun rd19 => ?_)
 refine RD.succ [1] (by kernel_rfl) rfl ⟨⟨_, _, _, rfl, ?_, rfl, rd27⟩, trivial⟩
 exact WL.run ht hn 1 _ (by kernel_rfl) WL.nilI
 refine RD.have 8 #[true, true, false, false, false, true, true, false, false, false, false, false] ⟨[sl 4 (.ptr 0 0), sl 7 (.own 4), sl 39 (.ptr 0 0), sl 40 (.ptr 0 0), sl 45 (qrMach5 k x)], [.box [.own 1, .gs 2 0] 161 false, rowI 3 intT ((qrMach0 k x).2.1), gridI 23 3 intT ((qrMach0 k x).2.2), .gone, rowI 4 boolT (l4.set ((((qrMach0 k x).2.1).length : Int)).toNat ((qrMach0 k x).1).fEmpty)]⟩ ?_ (fun rd18 => ?_)
 refine RD.succ [2, 7] (by kernel_rfl) rfl ⟨⟨_, _, _, rfl, ?_, rfl, rd26⟩, ⟨_, _, _, rfl, ?_, rfl, rd27⟩, trivial⟩
 exact WL.run ht hn 1 _ (by kernel_rfl) WL.nilI
 refine WL.mt0 (K := []) (p := some (5, rowI 23 (lsT intT) ([((qrMach0 k x).1).fFirst] : (qrMach1)))) hn (by rfl) (mt_lit (T := (lsT intT)) ([((qrMach0 k x).1).fFirst] : (qrMach1)) (mt_bsl 5 (r := cellsOf (lsT intT) ([((qrMach0 k x).1).fFirst] : (qrMach1))) ht rfl (by rfl) (by rfl) (by rfl) (by kernel_rfl) (by rfl)) (fun _ h => by cases h) (fun _ => rfl) (fun _ => rfl) (by rfl) (Nat.le_of_ble_eq_true rfl)) (by rfl) (by rfl) (by rfl) ?_
 refine WL.nil ?_
 exact sub_ok (by kernel_rfl)
 refine RD.have 8 #[true, true, true, false, false, true, false, false, false, false, false, false] ⟨[sl 4 (.ptr 0 0), sl 7 (.own 4), sl 39 (.ptr 0 0), sl 41 (.ptr 0 0), sl 44 (.ptr 3 1)], [.box [.own 1, .gs 2 0] 161 false, rowI 3 intT ((qrMach0 k x).2.1), gridI 23 3 intT ((qrMach0 k x).2.2), .box [B ((qrMach0 k x).1).fEmpty, LS intT ((qrMach0 k x).1).fFirst, LS intT ((qrMach0 k x).1).fLast] 272 false, rowI 4 boolT (l4.set ((((qrMach0 k x).2.1).length : Int)).toNat ((qrMach0 k x).1).fEmpty)]⟩ ?_ (fun rd17 => ?_)
 refine RD.succ [3, 6] (by kernel_rfl) rfl ⟨⟨_, _, _, rfl, ?_, rfl, rd25⟩, ⟨_, _, _, rfl, ?_, rfl, rd26⟩, trivial⟩
 exact WL.run ht hn 1 _ (by kernel_rfl) WL.nilI
 exact WL.run ht hn 1 _ (by kernel_rfl) WL.nilI
 refine RD.have 8 #[true, true, true, true, false, false, false, false, false, false, false, false] ⟨[sl 4 (.ptr 0 0), sl 5 (.ptr 3 0), sl 7 (.own 4), sl 39 (.ptr 0 0), sl 42 (.ptr 0 1)], [.box [.own 1, .gs 2 0] 161 false, rowI 3 intT ((qrMach0 k x).2.1), gridI 23 3 intT ((qrMach0 k x).2.2), .box [B ((qrMach0 k x).1).fEmpty, LS intT ((qrMach0 k x).1).fFirst, LS intT ((qrMach0 k x).1).fLast] 272 false, rowI 4 boolT (l4.set ((((qrMach0 k x).2.1).length : Int)).toNat ((qrMach0 k x).1).fEmpty)]⟩ ?_ (fun rd16 => ?_)
 refine RD.succ [4, 5] (by kernel_rfl) rfl ⟨⟨_, _, _, rfl, ?_, rfl, rd24⟩, ⟨_, _, _, rfl, ?_, rfl, rd25⟩, trivial⟩
 exact WL.run ht hn 1 _ (by kernel_rfl) WL.nilI
 exact WL.run ht hn 1 _ (by kernel_rfl) WL.nilI
 refine RD.have 9 #[false, false, false, false, false, true, true, true, false, false, false, false] ⟨[sl 4 (.ptr 0 0), sl 7 (.own 4), sl 46 (.own 5)], [.box [.own 1, .gs 2 0] 161 false, rowI 3 intT ((qrMach0 k x).2.1), gridI 23 3 intT ((qrMach0 k x).2.2), .gone, rowI 4 boolT (l4.set ((((qrMach0 k x).2.1).length : Int)).toNat ((qrMach0 k x).1).fEmpty), rowI 23 (lsT intT) ([((qrMach0 k x).1).fFirst] : (qrMach1))]⟩ ?_ (fun rd15 => ?_)
 refine RD.succ [0, 1] (by kernel_rfl) rfl ⟨⟨_, _, _, rfl, ?_, rfl, rd19⟩, ⟨_, _, _, rfl, ?_, rfl, rd23⟩, trivial⟩
 exact WL.run ht hn 1 _ (by kernel_rfl) WL.nilI
 exact WL.run ht hn 1 _ (by kernel_rfl) WL.nilI
 refine RD.have 9 #[false, true, false, false, false, true, true, false, false, false, false, false] ⟨[sl 4 (.ptr 0 0), sl 7 (.own 4), sl 40 (.ptr 0 0), sl 45 (qrMach5 k x)], [.box [.own 1, .gs 2 0] 161 false, rowI 3 intT ((qrMach0 k x).2.1), gridI 23 3 intT ((qrMach0 k x).2.2), .gone, rowI 4 boolT (l4.set ((((qrMach0 k x).2.1).length : Int)).toNat ((qrMach0 k x).1).fEmpty)]⟩ ?_ (fun rd14 => ?_)
 refine RD.succ [0, 2, 7] (by kernel_rfl) rfl ⟨⟨_, _, _, rfl, ?_, rfl, rd18⟩, ⟨_, _, _, rfl, ?_, rfl, rd22⟩, ⟨_, _, _, rfl, ?_, rfl, rd23⟩, trivial⟩
 exact WL.run ht hn 1 _ (by kernel_rfl) WL.nilI
 exact WL.run ht hn 1 _ (by kernel_rfl) WL.nilI
 refine WL.mt0 (K := []) (p := some (5, rowI 23 (lsT intT) ([((qrMach0 k x).1).fFirst] : (qrMach1)))) hn (by rfl) (mt_lit (T := (lsT intT)) ([((qrMach0 k x).1).fFirst] : (qrMach1)) (mt_bsl 5 (r := cellsOf (lsT intT) ([((qrMach0 k x).1).fFirst] : (qrMach1))) ht rfl (by rfl) (by rfl) (by rfl) (by kernel_rfl) (by rfl)) (fun _ h => by cases h) (fun _ => rfl) (fun _ => rfl) (by rfl) (Nat.le_of_ble_eq_true rfl)) (by rfl) (by rfl) (by rfl) ?_
 refine WL.nil ?_
 exact sub_ok (by kernel_rfl)
 refine RD.have 9 #[false, true, true, false, false, true, false, false, false, false, false, false] ⟨[sl 4 (.ptr 0 0), sl 7 (.own 4), sl 41 (.ptr 0 0), sl 44 (.ptr 3 1)], [.box [.own 1, .gs 2 0] 161 false, rowI 3 intT ((qrMach0 k x).2.1), gridI 23 3 intT ((qrMach0 k x).2.2), .box [B ((qrMach0 k x).1).fEmpty, LS intT ((qrMach0 k x).1).fFirst, LS intT ((qrMach0 k x).1).fLast] 272 false, rowI 4 boolT (l4.set ((((qrMach0 k x).2.1).length : Int)).toNat ((qrMach0 k x).1).fEmpty)]⟩ ?_ (fun rd13 => ?_)
 refine RD.succ [0, 3, 6] (by kernel_rfl) rfl ⟨⟨_, _, _, rfl, ?_, rfl, rd17⟩, ⟨_, _, _, rfl, ?_, rfl, rd21⟩, ⟨_, _, _, rfl, ?_, rfl, rd22⟩, trivial⟩
 exact WL.run ht hn 1 _ (by kernel_rfl) WL.nilI
 exact WL.run ht hn 1 _ (by kernel_rfl) WL.nilI
 exact WL.run ht hn 1 _ (by kernel_rfl) WL.nilI
 refine RD.have 9 #[false, true, true, true, false, false, false, false, false, false, false, false] ⟨[sl 4 (.ptr 0 0), sl 5 (.ptr 3 0), sl 7 (.own 4), sl 42 (.ptr 0 1)], [.box [.own 1, .gs 2 0] 161 false, rowI 3 intT ((qrMach0 k x).2.1), gridI 23 3 intT ((qrMach0 k x).2.2), .box [B ((qrMach0 k x).1).fEmpty, LS intT ((qrMach0 k x).1).fFirst, LS intT ((qrMach0 k x).1).fLast] 272 false, rowI 4 boolT (l4.set ((((qrMach0 k x).2.1).length : Int)).toNat ((qrMach0 k x).1).fEmpty)]⟩ ?_ (fun rd12 => ?_)
 refine RD.succ [0, 4, 5] (by kernel_rfl) rfl ⟨⟨_, _, _, rfl, ?_, rfl, rd16⟩, ⟨_, _, _, rfl, ?_, rfl, rd20⟩, ⟨_, _, _, rfl, ?_, rfl, rd21⟩, trivial⟩
 exact WL.run ht hn 1 _ (by kernel_rfl) WL.nilI
 exact WL.run ht hn 1 _ (by kernel_rfl) WL.nilI
 exact WL.run ht hn 1 _ (by kernel_rfl) WL.nilI
 refine RD.have 9 #[true, false, false, false, false, true, true, false, false, false, false, false] ⟨[sl 4 (.ptr 0 0), sl 7 (.own 4), sl 39 (.ptr 0 0), sl 45 (qrMach5 k x)], [.box [.own 1, .gs 2 0] 161 false, rowI 3 intT ((qrMach0 k x).2.1), gridI 23 3 intT ((qrMach0 k x).2.2), .gone, rowI 4 boolT (l4.set ((((qrMach0 k x).2.1).length : Int)).toNat ((qrMach0 k x).1).fEmpty)]⟩ ?_ (fun rd11 => ?_)
 refine RD.succ [1, 7] (by kernel_rfl) rfl ⟨⟨_, _, _, rfl, ?_, rfl, rd18⟩, ⟨_, _, _, rfl, ?_, rfl, rd19⟩, trivial⟩
 exact WL.run ht hn 1 _ (by kernel_rfl) WL.nilI
 refine WL.mt0 (K := []) (p := some (5, rowI 23 (lsT intT) ([((qrMach0 k x).1).fFirst] : (qrMach1)))) hn (by rfl) (mt_lit (T := (lsT intT)) ([((qrMach0 k x).1).fFirst] : (qrMach1)) (mt_bsl 5 (r := cellsOf (lsT intT) ([((qrMach0 k x).1).fFirst] : (qrMach1))) ht rfl (by rfl) (by rfl) (by rfl) (by kernel_rfl) (by rfl)) (fun _ h => by cases h) (fun _ => rfl) (fun _ => rfl) (by rfl) (Nat.le_of_ble_eq_true rfl)) (by rfl) (by rfl) (by rfl) ?_
 refine WL.nil ?_
 exact sub_ok (by kernel_rfl)
 refine RD.have 9 #[true, true, false, false, false, true, false, false, false, false, false, false] ⟨[sl 4 (.ptr 0 0), sl 7 (.own 4), sl 39 (.ptr 0 0), sl 40 (.ptr 0 0), sl 44 (.ptr 3 1)], [.box [.own 1, .gs 2 0] 161 false, rowI 3 intT ((qrMach0 k x).2.1), gridI 23 3 intT ((qrMach0 k x).2.2), .box [B ((qrMach0 k x).1).fEmpty, LS intT ((qrMach0 k x).1).fFirst, LS intT ((qrMach0 k x).1).fLast] 272 false, rowI 4 boolT (l4.set ((((qrMach0 k x).2.1).length : Int)).toNat ((qrMach0 k x).1).fEmpty)]⟩ ?_ (fun rd10 => ?_)
 refine RD.succ [2, 6] (by kernel_rfl) rfl ⟨⟨_, _, _, rfl, ?_, rfl, rd17⟩, ⟨_, _, _, rfl, ?_, rfl, rd18⟩, trivial⟩
 exact WL.run ht hn 1 _ (by kernel_rfl) WL.nilI
 exact WL.run ht hn 1 _ (by kernel_rfl) WL.nilI
 refine RD.have 9 #[true, true, true, false, false, false, false, false, false, false, false, false] ⟨[sl 4 (.ptr 0 0), sl 5 (.ptr 3 0), sl 7 (.own 4), sl 39 (.ptr 0 0), sl 41 (.ptr 0 0)], [.box [.own 1, .gs 2 0] 161 false, rowI 3 intT ((qrMach0 k x).2.1), gridI 23 3 intT ((qrMach0 k x).2.2), .box [B ((qrMach0 k x).1).fEmpty, LS intT ((qrMach0 k x).1).fFirst, LS intT ((qrMach0 k x).1).fLast] 272 false, rowI 4 boolT (l4.set ((((qrMach0 k x).2.1).length : Int)).toNat ((qrMach0 k x).1).fEmpty)]⟩ ?_ (fun rd9 => ?_)
 refine RD.succ [3, 5] (by kernel_rfl) rfl ⟨⟨_, _, _, rfl, ?_, rfl, rd16⟩, ⟨_, _, _, rfl, ?_, rfl, rd17⟩, trivial⟩
 exact WL.run ht hn 1 _ (by kernel_rfl) WL.nilI
 exact WL.run ht hn 1 _ (by kernel_rfl) WL.nilI
 refine RD.have 10 #[false, false, false, false, false, true, true, false, false, false, false, false] ⟨[sl 4 (.ptr 0 0), sl 7 (.own 4), sl 45 (qrMach5 k x)], [.box [.own 1, .gs 2 0] 161 false, rowI 3 intT ((qrMach0 k x).2.1), gridI 23 3 intT ((qrMach0 k x).2.2), .gone, rowI 4 boolT (l4.set ((((qrMach0 k x).2.1).length : Int)).toNat ((qrMach0 k x).1).fEmpty)]⟩ ?_ (fun rd8 => ?_)
 refine RD.succ [0, 1, 7] (by kernel_rfl) rfl ⟨⟨_, _, _, rfl, ?_, rfl, rd11⟩, ⟨_, _, _, rfl, ?_, rfl, rd14⟩, ⟨_, _, _, rfl, ?_, rfl, rd15⟩, trivial⟩
 exact WL.run ht hn 1 _ (by kernel_rfl) WL.nilI
 exact WL.run ht hn 1 _ (by kernel_rfl) WL.nilI
 refine WL.mt0 (K := []) (p := some (5, rowI 23 (lsT intT) ([((qrMach0 k x).1).fFirst] : (qrMach1)))) hn (by rfl) (mt_lit (T := (lsT intT)) ([((qrMach0 k x).1).fFirst] : (qrMach1)) (mt_bsl 5 (r := cellsOf (lsT intT) ([((qrMach0 k x).1).fFirst] : (qrMach1))) ht rfl (by rfl) (by rfl) (by rfl) (by kernel_rfl) (by rfl)) (fun _ h => by cases h) (fun _ => rfl) (fun _ => rfl) (by rfl) (Nat.le_of_ble_eq_true rfl)) (by rfl) (by rfl) (by rfl) ?_
 refine WL.nil ?_
 exact sub_ok (by kernel_rfl)
 refine RD.have 10 #[false, true, false, false, false, true, false, false, false, false, false, false] ⟨[sl 4 (.ptr 0 0), sl 7 (.own 4), sl 40 (.ptr 0 0), sl 44 (.ptr 3 1)], [.box [.own 1, .gs 2 0] 161 false, rowI 3 intT ((qrMach0 k x).2.1), gridI 23 3 intT ((qrMach0 k x).2.2), .box [B ((qrMach0 k x).1).fEmpty, LS intT ((qrMach0 k x).1).fFirst, LS intT ((qrMach0 k x).1).fLast] 272 false, rowI 4 boolT (l4.set ((((qrMach0 k x).2.1).length : Int)).toNat ((qrMach0 k x).1).fEmpty)]⟩ ?_ (fun rd7 => ?_)
 refine RD.succ [0, 2, 6] (by kernel_rfl) rfl ⟨⟨_, _, _, rfl, ?_, rfl, rd10⟩, ⟨_, _, _, rfl, ?_, rfl, rd13⟩, ⟨_, _, _, rfl, ?_, rfl, rd14⟩, trivial⟩
 exact WL.run ht hn 1 _ (by kernel_rfl) WL.nilI
 exact WL.run ht hn 1 _ (by kernel_rfl) WL.nilI
 exact WL.run ht hn 1 _ (by kernel_rfl) WL.nilI
 refine RD.have 10 #[false, true, true, false, false, false, false, false, false, false, false, false] ⟨[sl 4 (.ptr 0 0), sl 5 (.ptr 3 0), sl 7 (.own 4), sl 41 (.ptr 0 0)], [.box [.own 1, .gs 2 0] 161 false, rowI 3 intT ((qrMach0 k x).2.1), gridI 23 3 intT ((qrMach0 k x).2.2), .box [B ((qrMach0 k x).1).fEmpty, LS intT ((qrMach0 k x).1).fFirst, LS intT ((qrMach0 k x).1).fLast] 272 false, rowI 4 boolT (l4.set ((((qrMach0 k x).2.1).length : Int)).toNat ((qrMach0 k x).1).fEmpty)]⟩ ?_ (fun rd6 => ?_)
 refine RD.succ [0, 3, 5] (by kernel_rfl) rfl ⟨⟨_, _, _, rfl, ?_, rfl, rd9⟩, ⟨_, _, _, rfl, ?_, rfl, rd12⟩, ⟨_, _, _, rfl, ?_, rfl, rd13⟩, trivial⟩
 exact WL.run ht hn 1 _ (by kernel_rfl) WL.nilI
 exact WL.run ht hn 1 _ (by kernel_rfl) WL.nilI
 exact WL.run ht hn 1 _ (by kernel_rfl) WL.nilI
 refine RD.have 10 #[true, false, false, false, false, true, false, false, false, false, false, false] ⟨[sl 4 (.ptr 0 0), sl 7 (.own 4), sl 39 (.ptr 0 0), sl 44 (.ptr 3 1)], [.box [.own 1, .gs 2 0] 161 false, rowI 3 intT ((qrMach0 k x).2.1), gridI 23 3 intT ((qrMach0 k x).2.2), .box [B ((qrMach0 k x).1).fEmpty, LS intT ((qrMach0 k x).1).fFirst, LS intT ((qrMach0 k x).1).fLast] 272 false, rowI 4 boolT (l4.set ((((qrMach0 k x).2.1).length : Int)).toNat ((qrMach0 k x).1).fEmpty)]⟩ ?_ (fun rd5 => ?_)
 refine RD.succ [1, 6] (by kernel_rfl) rfl ⟨⟨_, _, _, rfl, ?_, rfl, rd10⟩, ⟨_, _, _, rfl, ?_, rfl, rd11⟩, trivial⟩
 exact WL.run ht hn 1 _ (by kernel_rfl) WL.nilI
 exact WL.run ht hn 1 _ (by kernel_rfl) WL.nilI
 refine RD.have 10 #[true, true, false, false, false, false, false, false, false, false, false, false] ⟨[sl 4 (.ptr 0 0), sl 5 (.ptr 3 0), sl 7 (.own 4), sl 39 (.ptr 0 0), sl 40 (.ptr 0 0)], [.box [.own 1, .gs 2 0] 161 false, rowI 3 intT ((qrMach0 k x).2.1), gridI 23 3 intT ((qrMach0 k x).2.2), .box [B ((qrMach0 k x).1).fEmpty, LS intT ((qrMach0 k x).1).fFirst, LS intT ((qrMach0 k x).1).fLast] 272 false, rowI 4 boolT (l4.set ((((qrMach0 k x).2.1).length : Int)).toNat ((qrMach0 k x).1).fEmpty)]⟩ ?_ (fun rd4 => ?_)
 refine RD.succ [2, 5] (by kernel_rfl) rfl ⟨⟨_, _, _, rfl, ?_, rfl, rd9⟩, ⟨_, _, _, rfl, ?_, rfl, rd10⟩, trivial⟩
 exact WL.run ht hn 1 _ (by kernel_rfl) WL.nilI
 exact WL.run ht hn 1 _ (by kernel_rfl) WL.nilI
 refine RD.have 11 #[false, false, false, false, false, true, false, false, false, false, false, false] ⟨[sl 4 (.ptr 0 0), sl 7 (.own 4), sl 44 (.ptr 3 1)], [.box [.own 1, .gs 2 0] 161 false, rowI 3 intT ((qrMach0 k x).2.1), gridI 23 3 intT ((qrMach0 k x).2.2), .box [B ((qrMach0 k x).1).fEmpty, LS intT ((qrMach0 k x).1).fFirst, LS intT ((qrMach0 k x).1).fLast] 272 false, rowI 4 boolT (l4.set ((((qrMach0 k x).2.1).length : Int)).toNat ((qrMach0 k x).1).fEmpty)]⟩ ?_ (fun rd3 => ?_)
 refine RD.succ [0, 1, 6] (by kernel_rfl) rfl ⟨⟨_, _, _, rfl, ?_, rfl, rd5⟩, ⟨_, _, _, rfl, ?_, rfl, rd7⟩, ⟨_, _, _, rfl, ?_, rfl, rd8⟩, trivial⟩
 exact WL.run ht hn 1 _ (by kernel_rfl) WL.nilI
 exact WL.run ht hn 1 _ (by kernel_rfl) WL.nilI
 exact WL.run ht hn 1 _ (by kernel_rfl) WL.nilI
 refine RD.have 11 #[false, true, false, false, false, false, false, false, false, false, false, false] ⟨[sl 4 (.ptr 0 0), sl 5 (.ptr 3 0), sl 7 (.own 4), sl 40 (.ptr 0 0)], [.box [.own 1, .gs 2 0] 161 false, rowI 3 intT ((qrMach0 k x).2.1), gridI 23 3 intT ((qrMach0 k x).2.2), .box [B ((qrMach0 k x).1).fEmpty, LS intT ((qrMach0 k x).1).fFirst, LS intT ((qrMach0 k x).1).fLast] 272 false, rowI 4 boolT (l4.set ((((qrMach0 k x).2.1).length : Int)).toNat ((qrMach0 k x).1).fEmpty)]⟩ ?_ (fun rd2 => ?_)
 refine RD.succ [0, 2, 5] (by kernel_rfl) rfl ⟨⟨_, _, _, rfl, ?_, rfl, rd4⟩, ⟨_, _, _, rfl, ?_, rfl, rd6⟩, ⟨_, _, _, rfl, ?_, rfl, rd7⟩, trivial⟩
 exact WL.run ht hn 1 _ (by kernel_rfl) WL.nilI
 exact WL.run ht hn 1 _ (by kernel_rfl) WL.nilI
 exact WL.run ht hn 1 _ (by kernel_rfl) WL.nilI
 refine RD.have 11 #[true, false, false, false, false, false, false, false, false, false, false, false] ⟨[sl 4 (.ptr 0 0), sl 5 (.ptr 3 0), sl 7 (.own 4), sl 39 (.ptr 0 0)], [.box [.own 1, .gs 2 0] 161 false, rowI 3 intT ((qrMach0 k x).2.1), gridI 23 3 intT ((qrMach0 k x).2.2), .box [B ((qrMach0 k x).1).fEmpty, LS intT ((qrMach0 k x).1).fFirst, LS intT ((qrMach0 k x).1).fLast] 272 false, rowI 4 boolT (l4.set ((((qrMach0 k x).2.1).length : Int)).toNat ((qrMach0 k x).1).fEmpty)]⟩ ?_ (fun rd1 => ?_)
 refine RD.succ [1, 5] (by kernel_rfl) rfl ⟨⟨_, _, _, rfl, ?_, rfl, rd4⟩, ⟨_, _, _, rfl, ?_, rfl, rd5⟩, trivial⟩
 exact WL.run ht hn 1 _ (by kernel_rfl) WL.nilI
 exact WL.run ht hn 1 _ (by kernel_rfl) WL.nilI
 refine RD.have 12 #[false, false, false, false, false, false, false, false, false, false, false, false] ⟨[sl 4 (.ptr 0 0), sl 5 (.ptr 3 0), sl 7 (.own 4)], [.box [.own 1, .gs 2 0] 161 false, rowI 3 intT ((qrMach0 k x).2.1), gridI 23 3 intT ((qrMach0 k x).2.2), .box [B ((qrMach0 k x).1).fEmpty, LS intT ((qrMach0 k x).1).fFirst, LS intT ((qrMach0 k x).1).fLast] 272 false, rowI 4 boolT (l4.set ((((qrMach0 k x).2.1).length : Int)).toNat ((qrMach0 k x).1).fEmpty)]⟩ ?_ (fun rd0 => ?_)
 refine RD.succ [0, 1, 5] (by kernel_rfl) rfl ⟨⟨_, _, _, rfl, ?_, rfl, rd1⟩, ⟨_, _, _, rfl, ?_, rfl, rd2⟩, ⟨_, _, _, rfl, ?_, rfl, rd3⟩, trivial⟩
 exact WL.run ht hn 1 _ (by kernel_rfl) WL.nilI
 exact WL.run ht hn 1 _ (by kernel_rfl) WL.nilI
 exact WL.run ht hn 1 _ (by kernel_rfl) WL.nilI
 exact RD.start rd0 rfl (by kernel_rfl) (sub_ok (by kernel_rfl))
 refine En.seq ?_
 refine En.region ?_
 refine WL.run ht hn 4 ⟨[sl 2 (.ptr 0 0), sl 3 (.own 4)], [.box [.own 1, .own 2] 161 false, rowI 3 intT ((qrMach0 k x).2.1), rowI 23 (lsT intT) (((qrMach0 k x).2.2) ++ ([((qrMach0 k x).1).fFirst] : (qrMach1))), .gone, rowI 4 boolT (l4.set ((((qrMach0 k x).2.1).length : Int)).toNat ((qrMach0 k x).1).fEmpty), .gone]⟩ (by kernel_rfl) ?_
 refine WL.nil ?_
 refine En.ret ?_
 refine En.seal (T := intT) (l := ((qrMach0 k x).2.1)) (e := 3) 1 rfl ?_
 refine En.seal (T := (lsT intT)) (l := (((qrMach0 k x).2.2) ++ ([((qrMach0 k x).1).fFirst] : (qrMach1)))) (e := 23) 2 rfl ?_
 refine En.freeze [0] (by rfl) ?_
 refine En.ghost 2 (o1 (.pe (svR (.agg [LS intT ((qrMach0 k x).2.1), LS (lsT intT) (((qrMach0 k x).2.2) ++ ([((qrMach0 k x).1).fFirst] : (qrMach1)))])) 2)) (by rfl) (pe_of (i := 0) (cells := [LS intT ((qrMach0 k x).2.1), LS (lsT intT) (((qrMach0 k x).2.2) ++ ([((qrMach0 k x).1).fFirst] : (qrMach1)))]) (by rfl) (by rfl) (by rfl)) ?_
 refine En.seal (T := boolT) (l := (l4.set ((((qrMach0 k x).2.1).length : Int)).toNat ((qrMach0 k x).1).fEmpty)) (e := 4) 4 rfl ?_
 exact En.back ht ((RegularPlaces.mk ((qrMach0 k x).2.1) (((qrMach0 k x).2.2) ++ ([((qrMach0 k x).1).fFirst] : (qrMach1)))), (l4.set ((((qrMach0 k x).2.1).length : Int)).toNat ((qrMach0 k x).1).fEmpty)) h (by kernel_rfl) rfl
theorem en73 : ∀ args w, (callFunc 73 args).run Try.prog w = .ok (.enter 73 args) w := enters_of Try.func73 (by kernel_rfl) rfl
def setsS : List Int → List Bool → Option (List Bool)
 | [], g => some g
 | a :: l, g => match idx g a with
  | none => none
  | some _ => setsS l (g.set a.toNat true)
def machS (k : Nat) (x : RTr) : Option (RegularPlaces × List Bool) := match lookS k x [] [] with
 | none => none
 | some r => if 1048576 < r.2.1.length ∨ 1048576 < r.2.2.length ∨ 1048576 < r.1.fLast.length then none else match setsS r.1.fLast (List.replicate (r.2.1.length + 1) false) with
  | none => none
  | some g => match idx g (r.2.1.length : Int) with
   | none => none
   | some _ => some (⟨r.2.1, r.2.2 ++ [r.1.fFirst]⟩, g.set r.2.1.length r.1.fEmpty)
def machR (k : Nat) (x : RTr) : RegularPlaces × List Bool := (machS k x).getD default
theorem rMach_ct (k : Nat) (x : RTr) (hp : (machS k x).isSome)  : Ct 73 [.sv (.one (.rd (trR rLab x)))] [] (fun (_ : Unit) => True) (fun _ => .tup [.one (.pe (svR (.agg [LS intT (machR k x).1.fLetters, LS (lsT intT) (machR k x).1.fNext])) 2), .one (LS boolT (machR k x).2)]) := by
 refine (rMach_walk k x (fun res_ => res_ = (machR k x)) ?_).fun
 obtain ⟨R, hR⟩ := Option.isSome_iff_exists.1 hp
 have hz : machR k x = R := by
  unfold machR
  rw [hR]
  rfl
 rw [hz]
 unfold machS at hR
 split at hR
 ·cases hR
 rename_i r hr
 split at hR
 ·cases hR
 rename_i hsz
 split at hR
 ·cases hR
 rename_i G hG
 split at hR
 ·cases hR
 rename_i b hb2
 cases hR
 have g2 : lookR k x [] [] = r := by
  unfold lookR
  rw [hr]
  rfl
 unfold rMach_vc
 rw [g2]
 have hw : wr ((r.2.1.length : Int) + 1) = ((r.2.1.length + 1 : Nat) : Int) := by
  rw [wr_in (by omega) (by omega)]
  rfl
 refine ⟨by rw [hr]; rfl, ?_⟩
 rw [hw]
 refine ⟨⟨by omega, Int.le_refl _, by omega⟩, fun i g => ∃ n : Nat, i = n ∧ n ≤ r.1.fLast.length ∧ setsS (r.1.fLast.drop n) g = some G, fun i _ => r.1.fLast.length - i.toNat, ⟨0, rfl, Nat.zero_le _, ?_⟩, ?_⟩
 ·rw [Int.toNat_natCast]
  exact hG
 rintro _ g ⟨n, rfl, hn, he⟩
 refine ⟨fun hb => ?_, fun hb => ?_⟩
 ·have hlt : n < r.1.fLast.length := by have := of_decide_eq_true hb; exact Int.ofNat_lt.1 this
  rw [List.drop_eq_getElem_cons hlt, setsS] at he
  split at he
  ·cases he
  rename_i y hy
  refine ⟨r.1.fLast[n], by simp [idx, hlt], y, hy, ⟨n + 1, wr_len (n := r.1.fLast.length) (by omega) hlt, hlt, he⟩, ?_⟩
  rw [wr_len (n := r.1.fLast.length) (by omega) hlt]
  show r.1.fLast.length - (n + 1) < r.1.fLast.length - n
  omega
 ·have hge : r.1.fLast.length ≤ n := by have := of_decide_eq_false hb; exact Nat.le_of_not_lt fun h => this (Int.ofNat_lt.2 h)
  rw [List.drop_eq_nil_of_le hge, setsS] at he
  cases he
  refine ⟨b, hb2, by show (r.2.2.length + 1) * 24 ≤ _; omega, ?_⟩
  rw [Int.toNat_natCast]
end Go.Proofs.Ytapnmjeadbhffaa

