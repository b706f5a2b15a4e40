/- Symbolic states of a walk: the machine does as reckoned. No condition. -/
import Derived.Test.YtfpdnigihjmohaaMirE
namespace Go.Proofs.Ytfpdnigihjmohaa
open Go.RowKit Go.MapKept
set_option linter.unusedSimpArgs false
set_option linter.unusedVariables false
set_option maxRecDepth 100000

section
variable {c : Cfg} {S : St} {a : Act} {w : World} {g : Gh} {hs : Nat → Value} {tab : Tab}
theorem len_slice {t e n cap : Nat} {ao : Option Addr} {ty : TypeId} (ht : Try.prog.underlying t = some (.slice e)) (w : World) : (Builtin.len_ #[t] ty #[.slice ao n cap]).run Try.prog w = .ok (.int .i64 n) w := by
  simp [Builtin.len_, run_underlying ht, goInt]
theorem slT_some {t : Nat} {e : Nat} (h : slT t = some e) : Try.prog.underlying t = some (.slice e) := by
  unfold slT at h
  split at h
  · rename_i x hx
    cases h
    exact hx
  · cases h
theorem kindT_some {t : Nat} {k : IntKind} (h : kindT t = some k) : Try.prog.underlying t = some (.int k) := by
  unfold kindT at h
  split at h
  · rename_i x hx
    cases h
    exact hx
  · cases h
theorem run_sizeOf_agg {t : Nat} {b : Bool} (h : aggT t = some b) (w : World) : (sizeOf t).run Try.prog w = .ok (Try.prog.cellsOf t) w := by
  unfold aggT at h
  cases hx : Try.prog.info? t with
  | none =>
    unfold Program.underlying at h
    rw [hx] at h
    cases h
  | some i => simp [sizeOf, typeInfo, Go.program, Sem.run, hx, Program.cellsOf]
theorem run_mapM_of {α β : Type} (f : α → Sem β) (k : α → β) (w : World) : ∀ (l : List α), (∀ x ∈ l, (f x).run Try.prog w = .ok (k x) w) → (l.mapM f).run Try.prog w = .ok (l.map k) w
  | [], _ => by simp
  | x :: l, h => by
    have ih := run_mapM_of f k w l (fun y hy => h y (List.mem_cons_of_mem _ hy))
    simp [List.mapM_cons, Sem.run_bind, h x (by simp), ih]
theorem evV_ok (ht : tab.ok) (h : Ok' c S a w g hs) {o : Oper} {x : SC} (e : evV tab S o = some x) : ∃ v, (execOp a.eval o).run Try.prog w = .ok (.value v) w ∧ x.ok g hs v := by
  obtain ⟨dst, op, type, pos, after, guard⟩ := o
  cases op <;> simp only [evV] at e <;> try (cases e; done)
  case move x => exact ⟨_, by simp [execOp], evX_ok h e⟩
  case assign x => exact ⟨_, by simp [execOp], evX_ok h e⟩
  case pick k u v =>
    unfold evPick at e
    split at e
    · rename_i hk
      exact ⟨_, by simp [execOp, evK_ok h hk, asBool], evX_ok h e⟩
    · rename_i hk
      exact ⟨_, by simp [execOp, evK_ok h hk, asBool], evX_ok h e⟩
    · cases e
  case unOp op t x =>
    unfold evUn at e
    split at e
    · split at e
      · rename_i b hb
        cases e
        exact ⟨_, run_val (v := .bool (!b)) (by simp [evK_ok h hb, Op.unary]), ok_v trivial⟩
      · cases e
    · split at e
      · rename_i k n hb
        cases e
        exact ⟨_, run_val (v := .int k (k.wrap (0 - n))) (by simp [evK_ok h hb, Op.unary, Op.intArith]), ok_v trivial⟩
      · cases e
    · cases e
  case binOp op t x y yt =>
    unfold evBin at e
    split at e
    case h_2 => cases e
    rename_i u hu
    split at e
    case h_2 => cases e
    rename_i v hv
    split at e
    case h_2 => cases e
    rename_i r hr
    cases e
    refine ⟨r, run_val ?_, ok_v (binV_cell hr)⟩
    rw [evK_ok h hu, evK_ok h hv]
    exact run_bin w hr
  case fieldAddr s x f =>
    unfold evFA at e
    split at e
    case h_2 => cases e
    rename_i i off hx
    split at e
    case h_2 => cases e
    rename_i ti hti
    split at e
    case h_2 => cases e
    rename_i hst
    split at e
    case h_2 => cases e
    rename_i fo sz ag hf
    cases e
    obtain ⟨fs, fx, h1, h2, h3, h4, h5⟩ := (ht s ti hti).field hst hf
    obtain ⟨⟨b, hb, hv⟩, _⟩ := evX_ok h hx
    refine ⟨.pointer (some ⟨b, off + fo, none⟩), run_val ?_, ⟨b, hb, rfl⟩, trivial⟩
    simp only [Instr.fieldAt, Sem.run_bind, run_underlying h1, Result.andThen_ok, h2, hv, Instr.sureAddr, Sem.run_pure, fieldPlace, run_sizeOf_of h4]
    simp [h3, Addr.add_lit]
  case field s x f =>
    unfold evField at e
    split at e
    case h_2 => cases e
    rename_i l hx
    split at e
    case h_2 => cases e
    rename_i ti hti
    split at e
    case h_2 => cases e
    rename_i hst
    split at e
    case h_2 => cases e
    rename_i fo sz ag hf
    split at e
    case h_2 => cases e
    rename_i r hr
    cases e
    obtain ⟨fs, fx, h1, h2, h3, h4, h5⟩ := (ht s ti hti).field hst hf
    obtain ⟨cs, hv, hl⟩ := evX_ok h hx
    obtain ⟨v, h6, h7⟩ := run_part h5 h4 (by omega) hl hr w
    refine ⟨v, run_val ?_, h7⟩
    simp only [Instr.field, Sem.run_bind, run_underlying h1, Result.andThen_ok, h2, hv, asAgg, Sem.run_pure, h3, h6]
  case extract x i =>
    unfold evExtract at e
    split at e
    case h_2 => cases e
    rename_i l hx
    split at e
    case h_2 => cases e
    rename_i r hr
    cases e
    obtain ⟨us, hv, hl⟩ := evX_ok h hx
    obtain ⟨u, h1, h2⟩ := svs_get hl hr
    exact ⟨u, run_val (by simp [hv, Instr.extract, h1]), h2⟩
  case load t x =>
    unfold evLoad at e
    split at e
    case h_2 => cases e
    rename_i i off hx
    split at e
    case h_2 => cases e
    rename_i cells ty fz hm
    split at e
    case h_2 => cases e
    rename_i ti hti
    split at e
    case h_2 => cases e
    rename_i r hr
    cases e
    obtain ⟨⟨b, hb, hv⟩, _⟩ := evX_ok h hx
    obtain ⟨b', cs, h1, h2, h3, h4⟩ := h.items i _ hm
    rw [hb] at h1
    simp at h1
    subst h1
    obtain ⟨v, h5, h6⟩ := run_loadVar_box (ht t ti hti) h3 h2 hr
    exact ⟨v, run_val (by simp [Instr.loadAt, hv, Instr.sureAddr, h5]), h6⟩
  case makeFunc fn first captured =>
    unfold evMF at e
    split at e
    case h_2 => cases e
    rename_i f
    split at e
    case h_2 => cases e
    rename_i hf
    split at e
    case h_2 => cases e
    rename_i l hl
    cases e
    have h1 := evCaps_ok h hl
    have h2 : first = #[] := by simpa using hf
    have h3 : captured.map a.eval = (l.map hs).toArray := by
      apply Array.toList_inj.1
      rw [Array.toList_map]
      exact h1
    refine ⟨.func (.func f) #[] (l.map hs).toArray, run_val ?_, rfl, trivial⟩
    subst h2
    rw [h3]
    simp [Instr.makeFunc]
  case build t parts =>
    unfold evBuild at e
    split at e
    case h_2 => cases e
    rename_i ti hti
    split at e
    case h_2 => cases e
    rename_i hag0
    obtain ⟨hag, hne⟩ := (Bool.and_eq_true _ _).mp hag0
    split at e
    case h_2 => cases e
    rename_i ps hps
    split at e
    case h_2 => cases e
    rename_i r hr
    cases e
    have hp := evP_ok h hps
    have htk := ht t ti hti
    obtain ⟨z, hz1, hz2⟩ := htk.run_zero
    have ho := htk.offs
    unfold fieldsT at ho
    have hz0 : oks g hs (ti.zero.map .v) ti.zero := oks_v htk.zc
    have hpl : (Array.map (fun (x : Nat × Operand) => (x.1, a.eval x.2)) parts).toList = parts.toList.map fun x => (x.1, a.eval x.2) := by simp
    have hzc : z.cells = ti.zero.toArray := by simp [← hz1]
    have hax := htk.agg
    rw [hag] at hax
    unfold aggT at hax
    cases hu : Try.prog.underlying t with
    | none => rw [hu] at hax; cases hax
    | some d =>
      rw [hu] at ho hax
      cases d <;> simp at hax
      case struct fs =>
        simp only at ho
        have hsz : ∀ (f : Field), f ∈ fs.toList → (sizeOf f.type).run Try.prog w = .ok (Try.prog.cellsOf f.type) w := fun f hf => by
          obtain ⟨j, hj⟩ := List.getElem?_of_mem hf
          have h1 := congrArg (·[j]?) ho
          simp only [List.getElem?_map, hj, Option.map_some] at h1
          cases h2 : ti.offs[j]? with
          | none => rw [h2] at h1; cases h1
          | some y =>
            rw [h2] at h1
            simp at h1
            exact run_sizeOf_agg h1.2.2 w
        have hmm : (fs.mapM fun (f : Field) => (do pure (f.offset, ← sizeOf f.type) : Sem (Nat × Nat))).run Try.prog w = .ok (fs.map fun f => (f.offset, Try.prog.cellsOf f.type)) w := by
          rw [Array.mapM_eq_mapM_toList]
          have := run_mapM_of (fun (f : Field) => (do pure (f.offset, ← sizeOf f.type) : Sem (Nat × Nat))) (fun f => (f.offset, Try.prog.cellsOf f.type)) w fs.toList (fun f hf => by rw [Sem.run_bind, hsz f hf]; rfl)
          rw [map_eq_pure_bind, Sem.run_bind, this]
          simp only [Result.andThen_ok, Sem.run_pure]
          congr 1
          apply Array.toList_inj.1
          simp
        obtain ⟨us', h1, h2⟩ := fill_ok (place := fun i => (fs.map fun f => (f.offset, Try.prog.cellsOf f.type))[i]?) (fun i off sz ag hi => by
          have h1 := congrArg (·[i]?) ho
          simp only [List.getElem?_map, hi, Option.map_some] at h1
          cases hf : fs.toList[i]? with
          | none => rw [hf] at h1; cases h1
          | some f =>
            rw [hf] at h1
            simp at h1
            rw [Array.getElem?_map, ← Array.getElem?_toList, hf]
            simp [h1.1, h1.2.1]) hp hz0 hr
        refine ⟨.agg us'.toArray, run_val ?_, us', rfl, h2⟩
        simp only [Instr.build, Sem.run_bind, hz2, Result.andThen_ok, run_underlying hu, hmm, hzc, hpl, h1, Sem.run_pure]
      case array n el =>
        simp only at ho
        have hsz : (sizeOf el).run Try.prog w = .ok (Try.prog.cellsOf el) w := by
          have h1 := congrArg (·[0]?) ho
          simp only [List.getElem?_map] at h1
          cases h2 : ti.offs[0]? with
          | none =>
            have : ti.offs = [] := by simpa using h2
            rw [this] at hne
            cases hne
          | some y =>
            rw [h2] at h1
            cases h3 : (List.range n)[0]? with
            | none => rw [h3] at h1; cases h1
            | some z =>
              rw [h3] at h1
              simp at h1
              exact run_sizeOf_agg h1.2.2 w
        obtain ⟨us', h1, h2⟩ := fill_ok (place := fun i => some (i * Try.prog.cellsOf el, Try.prog.cellsOf el)) (fun i off sz ag hi => by
          have h1 := congrArg (·[i]?) ho
          simp only [List.getElem?_map, hi, Option.map_some] at h1
          cases h3 : (List.range n)[i]? with
          | none => rw [h3] at h1; cases h1
          | some z =>
            have hz : z = i := by
              have := (List.getElem?_eq_some_iff.1 h3).2
              simpa using this.symm
            subst hz
            rw [h3] at h1
            simp at h1
            obtain ⟨e1, e2, _⟩ := h1
            subst e1 e2
            rfl) hp hz0 hr
        refine ⟨.agg us'.toArray, run_val ?_, us', rfl, h2⟩
        simp only [Instr.build, Sem.run_bind, hz2, Result.andThen_ok, run_underlying hu, hsz, hzc, hpl, h1, Sem.run_pure]
  case nilCheck x =>
    unfold evNC at e
    split at e
    · rename_i i off hx
      cases e
      obtain ⟨⟨b, hb, hv⟩, _⟩ := evX_ok h hx
      exact ⟨_, by simp [execOp, hv], ⟨b, hb, rfl⟩, trivial⟩
    · rename_i r s hx
      cases e
      obtain ⟨⟨b, o, x, hv, h2⟩, _⟩ := evX_ok h hx
      exact ⟨_, by simp [execOp, hv], ⟨b, o, x, rfl, h2⟩, trivial⟩
    · cases e
  case convert s d x =>
    unfold evConv at e
    split at e
    case h_2 => cases e
    rename_i k0 n hx
    split at e
    case h_2 => cases e
    rename_i si hsi
    split at e
    case h_2 => cases e
    rename_i ti hti
    split at e
    case h_2 => cases e
    rename_i k hk
    cases e
    have h1 := kindT_some ((ht d ti hti).kind.trans hk)
    have hx' := evK_ok h hx
    have h2 := (ht s si hsi).agg
    unfold aggT at h2
    cases hu : Try.prog.underlying s with
    | none => rw [hu] at h2; cases h2
    | some ds =>
      refine ⟨.int k (k.wrap n), run_val ?_, ok_v trivial⟩
      simp only [convert, Sem.run_bind, run_underlying hu, run_underlying h1, Result.andThen_ok, hx', Conv.intToInt]
      simp
  case call cl =>
    obtain ⟨callee, args, argTypes⟩ := cl
    unfold evCall at e
    split at e
    case h_2 => cases e
    rename_i b hb
    simp only at hb
    subst hb
    split at e
    · split at e
      case h_2 => cases e
      rename_i x hx
      split at e
      case h_2 => cases e
      rename_i t ht'
      simp only at hx ht' e
      have hx : args = #[x] := by rw [← Array.toArray_toList (xs := args), hx]
      have ht' : argTypes = #[t] := by rw [← Array.toArray_toList (xs := argTypes), ht']
      subst hx ht'
      unfold evLen at e
      split at e
      case h_2 => cases e
      rename_i ti hti
      split at e
      case h_2 => cases e
      rename_i el hel
      have hu := slT_some ((ht t ti hti).sl.trans hel)
      have fin : ∀ {ao : Option Addr} {n cap : Nat}, a.eval x = .slice ao n cap → ∃ v, (execOp a.eval ⟨dst, .call ⟨.builtin .len, #[x], #[t]⟩, type, pos, after, guard⟩).run Try.prog w = .ok (.value v) w ∧ SC.ok g hs (.sv (.one (.v (.int .i64 n)))) v := fun {ao n cap} hv =>
        ⟨.int .i64 n, by simp [execOp, resolve, invoke, builtin, hv, len_slice hu], ok_v trivial⟩
      split at e
      · rename_i r n hx
        cases e
        obtain ⟨⟨_, ao, cap, hv⟩, _⟩ := evX_ok h hx
        exact fin hv
      · rename_i i hx
        split at e
        case h_2 => cases e
        rename_i ty s r n hm
        cases e
        have hv : a.eval x = hs i := (evX_ok h hx).1
        obtain ⟨cs, ⟨_, h1⟩, _⟩ := h.items i _ hm
        rcases h1 with ⟨h1, rfl⟩ | ⟨gb, cap, cur, h1, _⟩
        · exact fin (hv.trans h1)
        · exact fin (hv.trans h1)
      · rename_i ao n cap hx
        cases e
        exact fin (evX_ok h hx).1
      · cases e
    · split at e
      case h_2 => cases e
      rename_i v x vs hv
      split at e
      case h_2 => cases e
      rename_i r hr
      cases e
      have h1 := evKs_ok h hv
      obtain ⟨h2, h3⟩ := run_min w hr (minE_cell hr)
      refine ⟨r, ?_, ok_v h3⟩
      simp only at h1
      refine (congrArg (fun z => Sem.run Try.prog z w) ?_).trans (run_val (e := Builtin.min_ argTypes type (args.map a.eval)) (v := r) ?_)
      · simp [execOp, resolve, invoke, builtin]
      · unfold Builtin.min_
        simp only [Array.toList_map, h1]
        exact h2
    · split at e
      case h_2 => cases e
      rename_i v x vs hv
      split at e
      case h_2 => cases e
      rename_i r hr
      cases e
      have h1 := evKs_ok h hv
      obtain ⟨h2, h3⟩ := run_max w hr (maxE_cell hr)
      refine ⟨r, ?_, ok_v h3⟩
      simp only at h1
      refine (congrArg (fun z => Sem.run Try.prog z w) ?_).trans (run_val (e := Builtin.max_ argTypes type (args.map a.eval)) (v := r) ?_)
      · simp [execOp, resolve, invoke, builtin]
      · unfold Builtin.max_
        simp only [Array.toList_map, h1]
        exact h2
    · cases e
end
end Go.Proofs.Ytfpdnigihjmohaa
