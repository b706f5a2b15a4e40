/- Symbolic states of a walk: how states are brought to one form where ways meet. No condition. -/
import Derived.Test.YtfpdnigihjmohaaMirV
namespace Go.Proofs.Ytfpdnigihjmohaa
open Go.RowKit Go.MapKept
set_option linter.unusedSimpArgs false
set_option linter.unusedVariables false
set_option maxRecDepth 100000

theorem At.ren_ok {g : Gh} {hs : Nat → Value} {f : Nat → Nat} {a : At} {u : Value} (h : a.ok g (fun i => hs (f i)) u) : (a.ren f).ok g hs u := by
  refine ⟨?_, by have := h.2; cases a <;> exact this⟩
  have h1 := h.1
  cases a <;> simp only [At.raw, At.ren] at h1 ⊢
  case fn _ l => rw [h1, List.map_map]; rfl
  all_goals exact h1
theorem oks_ren' {g : Gh} {hs : Nat → Value} {f : Nat → Nat} : ∀ {l : List At} {us : List Value}, oks g (fun i => hs (f i)) l us → oks g hs (l.map (At.ren f)) us
  | [], [], _ => trivial
  | [], _ :: _, h => h.elim
  | _ :: _, [], h => h.elim
  | _ :: _, _ :: _, h => ⟨At.ren_ok h.1, h.2.1, oks_ren' h.2.2⟩
theorem SV.ren_ok {g : Gh} {hs : Nat → Value} {f : Nat → Nat} {a : SV} {u : Value} (h : a.ok g (fun i => hs (f i)) u) : (a.ren f).ok g hs u := by
  cases a with
  | one a => exact At.ren_ok h
  | agg l =>
    obtain ⟨cs, h1, h2⟩ := h
    exact ⟨cs, h1, oks_ren' h2⟩
theorem svs_ren' {g : Gh} {hs : Nat → Value} {f : Nat → Nat} : ∀ {l : List SV} {us : List Value}, SV.oks g (fun i => hs (f i)) l us → SV.oks g hs (l.map (SV.ren f)) us
  | [], [], _ => trivial
  | [], _ :: _, h => h.elim
  | _ :: _, [], h => h.elim
  | _ :: _, _ :: _, h => ⟨SV.ren_ok h.1, svs_ren' h.2⟩
theorem SC.ren_ok {g : Gh} {hs : Nat → Value} {f : Nat → Nat} {a : SC} {u : Value} (h : a.ok g (fun i => hs (f i)) u) : (a.ren f).ok g hs u := by
  cases a with
  | sv s => exact SV.ren_ok h
  | tup l =>
    obtain ⟨cs, h1, h2⟩ := h
    exact ⟨cs, h1, svs_ren' h2⟩
def Item.mv (f : Nat → Nat) : Item → Item
  | .box cells ty fz => .box (cells.map (At.ren f)) ty fz
  | .iter j r => .iter (f j) r
  | it => it
theorem Item.mv_fz {f : Nat → Nat} {it : Item} : (it.mv f).fz = it.fz := by cases it <;> rfl
theorem Item.mv_gone {f : Nat → Nat} {it : Item} : it.mv f = .gone ↔ it = .gone := by cases it <;> simp [Item.mv]
theorem Item.mv_ok {g : Gh} {hs : Nat → Value} {f : Nat → Nat} {w : World} {v : Value} {it : Item} (h : it.ok g (fun i => hs (f i)) w v) : (it.mv f).ok g hs w v := by
  cases it with
  | box cells ty fz =>
    obtain ⟨b, cs, h1, h2, h3⟩ := h
    exact ⟨b, cs, h1, oks_ren' h2, h3⟩
  | row _ _ _ _ => exact h
  | map _ => exact h
  | iter _ _ => exact h
  | gone => trivial
def mvF (q p : Nat) : Nat → Nat := fun i => bif Nat.beq i q then p else i
def moveS (S : St) (q p : Nat) : St := ⟨S.F.map fun e => (e.1, e.2.ren (mvF q p)), setM ((S.M.set q .gone).map (Item.mv (mvF q p))) p ((S.M.getD q .gone).mv (mvF q p))⟩
def freeAt (S : St) (p : Nat) : Bool := match S.M[p]? with
  | none => true
  | some .gone => true
  | _ => false
section
variable {c : Cfg} {S S1 : St} {a : Act} {w : World} {g : Gh} {hs : Nat → Value} {tab : Tab} {n : Nat} {o : Oper} {ops : Array Oper} {rest L : List Oper} {N : Po}
theorem Ok'.move (h : Ok' c S a w g hs) {q p : Nat} (hne : Nat.beq q p = false) (hp : (freeAt S p && S.refsAll (fun i => !(Nat.beq i p))) = true) : Ok' c (moveS S q p) a w g (fun i => if i = p then hs q else hs i) := by
  obtain ⟨hfr, hrf⟩ := (Bool.and_eq_true _ _).mp hp
  have hqp : q ≠ p := fun e => by subst e; simp at hne
  have hH : ∀ i, (!(Nat.beq i p)) = true → (fun i => if i = p then hs q else hs i) (mvF q p i) = hs i := fun i hi => by
    have hip : i ≠ p := fun e => by subst e; simp at hi
    unfold mvF
    by_cases e : i = q
    · subst e; simp
    · have : Nat.beq i q = false := (by cases hb : Nat.beq i q with | false => rfl | true => exact absurd (Nat.eq_of_beq_eq_true hb) e)
      rw [this]
      simp [hip]
  have hit : ∀ (i : Nat) (jt : Item), (moveS S q p).M[i]? = some jt → jt ≠ .gone → ∃ k kt, S.M[k]? = some kt ∧ jt = kt.mv (mvF q p) ∧ (if i = p then hs q else hs i) = hs k ∧ ((i = p ∧ k = q) ∨ (i ≠ p ∧ k = i ∧ i ≠ q)) := fun i jt hi hn => by
    rcases setM_get i jt hi with ⟨rfl, rfl⟩ | ⟨hip, hi | rfl⟩
    · cases hq : S.M[q]? with
      | none =>
        exfalso; apply hn
        rw [List.getD_eq_getElem?_getD, hq]
        rfl
      | some kt =>
        refine ⟨q, kt, hq, ?_, if_pos rfl, .inl ⟨rfl, rfl⟩⟩
        rw [List.getD_eq_getElem?_getD, hq]
        rfl
    · rw [List.getElem?_map] at hi
      cases hk : (S.M.set q .gone)[i]? with
      | none => rw [hk] at hi; simp at hi
      | some kt =>
        rw [hk] at hi
        simp at hi
        have hiq : i ≠ q := fun e => by
          subst e
          rw [List.getElem?_set] at hk
          simp only [if_true] at hk
          split at hk
          · simp at hk
            subst hk
            exact hn hi.symm
          · cases hk
        rw [List.getElem?_set, if_neg (Ne.symm hiq)] at hk
        exact ⟨i, kt, hk, hi.symm, if_neg hip, .inr ⟨hip, rfl, hiq⟩⟩
    · exact absurd rfl hn
  refine ⟨h.size, h.defers, h.base, fun t x hx => ?_, fun i jt hi => ?_, fun i j jt kt hij hi hj hfi hnj b hb => ?_, fun i jt hi hn b hb => ?_⟩
  · obtain ⟨⟨t', y⟩, hy, hyx⟩ := List.mem_map.1 hx
    cases hyx
    exact SC.ren_ok (hs := fun i => if i = p then hs q else hs i) (SC.ok_hs (fun i hi => hH i (St.refs_F hrf hy i hi)) (h.slots _ y hy))
  · by_cases hn : jt = .gone
    · subst hn; trivial
    · obtain ⟨k, kt, h1, rfl, h3, _⟩ := hit i jt hi hn
      show Item.ok _ _ _ (if i = p then hs q else hs i) _
      rw [h3]
      exact Item.mv_ok (hs := fun i => if i = p then hs q else hs i) (Item.ok_hs (fun i hi => hH i (St.refs_M hrf h1 i hi)) (h.items k kt h1))
  · obtain ⟨k, k1, h1, rfl, h3, h4⟩ := hit i jt hi (fz_gone hfi)
    obtain ⟨k', k2, h1', rfl, h3', h4'⟩ := hit j kt hj hnj
    simp only [h3, h3'] at hb ⊢
    rw [Item.mv_fz] at hfi
    exact h.sep k k' k1 k2 (by rcases h4 with ⟨e1, e2⟩ | ⟨e1, e2, e3⟩ <;> rcases h4' with ⟨f1, f2⟩ | ⟨f1, f2, f3⟩ <;> omega) h1 h1' hfi (fun e => hnj (Item.mv_gone.2 e)) b hb
  · obtain ⟨k, kt, h1, rfl, h3, _⟩ := hit i jt hi hn
    simp only [h3] at hb
    rw [Item.mv_fz]
    exact h.mine k kt h1 (fun e => hn (Item.mv_gone.2 e)) b hb
theorem En.move (q p : Nat) (hne : Nat.beq q p = false) (hp : (freeAt S p && S.refsAll (fun i => !(Nat.beq i p))) = true) (h : En c (moveS S q p) N) : En c S N := fun a w ⟨_, _, hk⟩ => h a w ⟨_, _, hk.move hne hp⟩
theorem rowNil_ok {α : Type} {t p e : Nat} {T : Ty α} (hl : look t S.F = some (.sv (.one (.v (.slice none 0 0))))) (hr : S.refsAll (fun i => !(Nat.beq i p)) = true) (hk : Ok' c S a w g hs) : ∃ hs', Ok' c ⟨(t, .sv (.one (.own p))) :: S.F, newM S.M [] (some (p, rowI e T []))⟩ a w g hs' := by
  have hv := (hk.slots t _ (look_mem hl)).1
  have he := hk.eff (K := []) (p := some (p, rowI e T [])) (h' := .slice none 0 0) (Eff.refl hk.base) ⟨⟨[], World.ownsRow_nil _ _ _ _, rowRead.nil⟩, fun b hb => by cases hb⟩ hr rfl
  refine ⟨_, he.size, he.defers, he.base, fun t' y hy => ?_, he.items, he.sep, he.mine⟩
  rcases List.mem_cons.1 hy with hy | hy
  · cases hy
    refine ⟨?_, by rw [hv]; trivial⟩
    show _ = (if p = p then _ else hs p)
    rw [if_pos rfl]
    exact hv
  · exact he.slots t' y hy
theorem En.rowNil {α : Type} (t p e : Nat) (T : Ty α) (hl : look t S.F = some (.sv (.one (.v (.slice none 0 0))))) (hr : S.refsAll (fun i => !(Nat.beq i p)) = true)
    (h : En c ⟨(t, .sv (.one (.own p))) :: S.F, newM S.M [] (some (p, rowI e T []))⟩ N) : En c S N := fun a w ⟨g, _, hk⟩ => by
  obtain ⟨hs', hk'⟩ := rowNil_ok hl hr hk
  exact h a w ⟨g, hs', hk'⟩
theorem En.ghost (t : Nat) {x : SC} (x' : SC) (hl : look t S.F = some x) (hx : ∀ a w g hs, Ok' c S a w g hs → ∀ u, x.ok g hs u → x'.ok g hs u) (h : En c ⟨(t, x') :: S.F, S.M⟩ N) : En c S N := fun a w ⟨g, hs, hk⟩ => by
  refine h a w ⟨g, hs, hk.size, hk.defers, hk.base, fun t' y hy => ?_, hk.items, hk.sep, hk.mine⟩
  rcases List.mem_cons.1 hy with hy | hy
  · cases hy
    exact hx a w g hs hk _ (hk.slots t _ (look_mem hl))
  · exact hk.slots t' y hy
theorem En.nilAgg {α : Type} {T : Ty α} {cells : List At} (t j : Nat) (hl : look t S.F = some (.sv (.agg cells))) (hj : cells[j]? = some (.v (.slice none 0 0))) (h : En c ⟨(t, .sv (.agg (cells.set j (LS T ([] : List α))))) :: S.F, S.M⟩ N) : En c S N :=
  En.ghost t (x' := .sv (.agg (cells.set j (LS T ([] : List α))))) hl (fun a w g hs _ u hu => by
    obtain ⟨us, h1, h2⟩ := hu
    exact ⟨us, h1, oks_nil j hj h2⟩) h
theorem En.nilBox {α : Type} {T : Ty α} {cells : List At} {ty : Nat} {fz : Bool} (i j : Nat) (hm : S.M[i]? = some (.box cells ty fz)) (hj : cells[j]? = some (.v (.slice none 0 0))) (h : En c ⟨S.F, S.M.set i (.box (cells.set j (LS T ([] : List α))) ty fz)⟩ N) : En c S N := fun a w ⟨g, hs, hk⟩ => by
  have hset : ∀ (k : Nat) (jt : Item), (S.M.set i (.box (cells.set j (LS T ([] : List α))) ty fz))[k]? = some jt → (k = i ∧ jt = .box (cells.set j (LS T ([] : List α))) ty fz) ∨ (k ≠ i ∧ S.M[k]? = some jt) := fun k jt hk => by
    rw [List.getElem?_set] at hk
    by_cases e : i = k
    · rw [if_pos e] at hk
      split at hk
      · simp at hk; exact .inl ⟨e.symm, hk.symm⟩
      · cases hk
    · rw [if_neg e] at hk; exact .inr ⟨Ne.symm e, hk⟩
  have old : ∀ (k : Nat) (jt : Item), (S.M.set i (.box (cells.set j (LS T ([] : List α))) ty fz))[k]? = some jt → jt ≠ .gone → ∃ kt, S.M[k]? = some kt ∧ kt.fz = jt.fz ∧ kt ≠ .gone := fun k jt hk hn => by
    rcases hset k jt hk with ⟨rfl, rfl⟩ | ⟨_, h⟩
    · exact ⟨_, hm, rfl, by simp⟩
    · exact ⟨jt, h, rfl, hn⟩
  refine h a w ⟨g, hs, hk.size, hk.defers, hk.base, hk.slots, fun k jt hj' => ?_, fun k l jt lt hkl h1 h2 hf hn => ?_, fun k jt h1 hn => ?_⟩
  · rcases hset k jt hj' with ⟨rfl, rfl⟩ | ⟨_, h⟩
    · obtain ⟨b, cs, h1, h2, h3⟩ := hk.items k _ hm
      exact ⟨b, cs, h1, oks_nil j hj h2, h3⟩
    · exact hk.items k jt h
  · obtain ⟨kt, a1, a2, a3⟩ := old k jt h1 (fz_gone hf)
    obtain ⟨kt', b1, b2, b3⟩ := old l lt h2 hn
    exact hk.sep k l kt kt' hkl a1 b1 (a2.trans hf) b3
  · obtain ⟨kt, a1, a2, a3⟩ := old k jt h1 hn
    rw [← a2]
    exact hk.mine k kt a1 a3
/-- division -/
theorem val_div {x y : Operand} {b : TypeId} {t : Nat} {op : BinOp} {k : IntKind} {u v r : Int} (ho : o.op = .binOp op t x y b) (hx : evX S.F x = some (.sv (.one (.v (.int k u))))) (hy : evX S.F y = some (.sv (.one (.v (.int k v))))) (h0 : v ≠ 0) (hop : (op = .quo ∧ r = k.wrap (Int.tdiv u v)) ∨ (op = .rem ∧ r = Int.tmod u v)) : Val c S o (.sv (.one (.v (.int k r)))) := fun a w g hs h => by
  have h1 : a.eval x = .int k u := (evX_ok h hx).1
  have h2 : a.eval y = .int k v := (evX_ok h hy).1
  refine ⟨_, ?_, rfl, trivial⟩
  have e : execOp a.eval o = (do pure (.value (← (do eqGuard op t x y (a.eval x) (a.eval y); binOp op t (a.eval x) (a.eval y) : Sem Value))) : Sem Next) := by unfold execOp; rw [ho]
  rw [e]
  refine run_val ?_
  rw [h1, h2]
  rcases hop with ⟨rfl, rfl⟩ | ⟨rfl, rfl⟩
  · have hg : (eqGuard .quo t x y (.int k u) (.int k v)).run Try.prog w = .ok () w := by simp [eqGuard]
    rw [Sem.run_bind, hg, Result.andThen_ok]
    simp [binOp, Op.intDiv, h0]
  · have hg : (eqGuard .rem t x y (.int k u) (.int k v)).run Try.prog w = .ok () w := by simp [eqGuard]
    rw [Sem.run_bind, hg, Result.andThen_ok]
    simp [binOp, Op.intDiv, h0]
/-- truths alike, or not -/
theorem val_eqB {x y : Operand} {b : TypeId} {t : Nat} {op : BinOp} {u v r : Bool} (ho : o.op = .binOp op t x y b) (ht : Try.prog.underlying t = some .bool) (hx : evX S.F x = some (.sv (.one (.v (.bool u))))) (hy : evX S.F y = some (.sv (.one (.v (.bool v))))) (hop : (op = .eql ∧ r = (u == v)) ∨ (op = .neq ∧ r = (u != v))) : Val c S o (.sv (.one (.v (.bool r)))) := fun a w g hs h => by
  have h1 : a.eval x = .bool u := (evX_ok h hx).1
  have h2 : a.eval y = .bool v := (evX_ok h hy).1
  refine ⟨_, ?_, rfl, trivial⟩
  have e : execOp a.eval o = (do pure (.value (← (do eqGuard op t x y (a.eval x) (a.eval y); binOp op t (a.eval x) (a.eval y) : Sem Value))) : Sem Next) := by unfold execOp; rw [ho]
  rw [e]
  refine run_val ?_
  rw [h1, h2]
  have hu := run_underlying ht w
  have heq : (Op.equal t (.bool u) (.bool v)).run Try.prog w = .ok (u == v) w := by
    show (Op.equalIn (9999 + 1) _ _ _).run _ _ = _
    rw [Op.equalIn]
    simp only [Sem.run_bind, hu, Result.andThen_ok]
    simp
  rcases hop with ⟨rfl, rfl⟩ | ⟨rfl, rfl⟩
  · have hg : (eqGuard .eql t x y (.bool u) (.bool v)).run Try.prog w = .ok () w := by simp [eqGuard]
    rw [Sem.run_bind, hg, Result.andThen_ok]
    simp [binOp, heq]
  · have hg : (eqGuard .neq t x y (.bool u) (.bool v)).run Try.prog w = .ok () w := by simp [eqGuard]
    rw [Sem.run_bind, hg, Result.andThen_ok]
    simp [binOp, heq]
    cases u <;> cases v <;> rfl
end
end Go.Proofs.Ytfpdnigihjmohaa
