/- Symbolic states of a walk: slices of the call's own that are only read from now on; new ones; parts of slices. No condition. -/
import Derived.Test.YtfpdnigihjmohaaMirO
import Derived.Laws.MakeOwn
namespace Go.Proofs.Ytfpdnigihjmohaa
open Go.RowKit Go.MapKept
set_option linter.unusedSimpArgs false
set_option linter.unusedVariables false
set_option maxRecDepth 100000

def At.sub (a : At) (i : Nat) (b : At) : At := match a with
  | .own j => match Nat.beq j i with
    | true => b
    | false => .own j
  | a => a
def SV.sub (s : SV) (i : Nat) (b : At) : SV := match s with
  | .one a => .one (a.sub i b)
  | .agg l => .agg (l.map (·.sub i b))
def SC.sub (x : SC) (i : Nat) (b : At) : SC := match x with
  | .sv s => .sv (s.sub i b)
  | .tup l => .tup (l.map (·.sub i b))
def Item.sub (it : Item) (i : Nat) (b : At) : Item := match it with
  | .box cells ty fz => .box (cells.map (·.sub i b)) ty fz
  | it => it
section
variable {g : Gh} {hs : Nat → Value} {i : Nat} {b : At}
theorem At.sub_ok (hb : b.ok g hs (hs i)) {a : At} {u : Value} (h : a.ok g hs u) : (a.sub i b).ok g hs u := by
  cases a with
  | own j =>
    show At.ok g hs (match Nat.beq j i with | true => b | false => .own j) u
    cases hj : Nat.beq j i with
    | true =>
      have := Nat.eq_of_beq_eq_true hj
      subst this
      have : u = hs j := h.1
      subst this
      exact hb
    | false => exact h
  | _ => exact h
theorem oks_sub (hb : b.ok g hs (hs i)) : ∀ {l : List At} {us : List Value}, oks g hs l us → oks g hs (l.map (·.sub i b)) us
  | [], [], _ => trivial
  | [], _ :: _, h => h.elim
  | _ :: _, [], h => h.elim
  | _ :: _, _ :: _, h => ⟨At.sub_ok hb h.1, h.2.1, oks_sub hb h.2.2⟩
theorem SV.sub_ok (hb : b.ok g hs (hs i)) {a : SV} {u : Value} (h : a.ok g hs u) : (a.sub i b).ok g hs u := by
  cases a with
  | one a => exact At.sub_ok hb h
  | agg l =>
    obtain ⟨cs, h1, h2⟩ := h
    exact ⟨cs, h1, oks_sub hb h2⟩
theorem svs_sub (hb : b.ok g hs (hs i)) : ∀ {l : List SV} {us : List Value}, SV.oks g hs l us → SV.oks g hs (l.map (·.sub i b)) us
  | [], [], _ => trivial
  | [], _ :: _, h => h.elim
  | _ :: _, [], h => h.elim
  | _ :: _, _ :: _, h => ⟨SV.sub_ok hb h.1, svs_sub hb h.2⟩
theorem SC.sub_ok (hb : b.ok g hs (hs i)) {a : SC} {u : Value} (h : a.ok g hs u) : (a.sub i b).ok g hs u := by
  cases a with
  | sv s => exact SV.sub_ok hb h
  | tup l =>
    obtain ⟨cs, h1, h2⟩ := h
    exact ⟨cs, h1, svs_sub hb h2⟩
end
theorem ls_nil {α : Type} {T : Ty α} {g : Gh} {hs : Nat → Value} : (LS T ([] : List α)).ok g hs (.slice none 0 0) := ⟨⟨⟨none, 0, 0, rfl, rfl, Nat.le_refl _, by simp [maxLen], fun _ => rfl, fun q a h => by simp at h⟩, none, 0, rfl⟩, trivial⟩
section
variable {c : Cfg} {S S1 : St} {a : Act} {w : World} {g : Gh} {hs : Nat → Value} {tab : Tab} {n : Nat} {o : Oper} {ops : Array Oper} {rest L : List Oper} {N : Po}
theorem row_LS {α : Type} {T : Ty α} {l : List α} {e : Nat} {v : Value} {cs : List Value} {g' : Gh} (h1 : w.ownsRow 0 e T.s v l.length cs) (h2 : rowRead T l g cs) (hle : Gh.le g g') (hb : ∀ b, v.ownBlock = some b → g' b = w.heap[b]?) : (LS T l).ok g' hs v := by
  obtain ⟨h0, h1⟩ := h1
  rcases h1 with ⟨rfl, hn⟩ | ⟨gb, cap, cur, rfl, _, e4, e5, e6, e7, e8⟩
  · have : l = [] := List.eq_nil_of_length_eq_zero hn
    subst this
    exact ls_nil
  · refine ⟨⟨⟨some ⟨gb, 0, none⟩, l.length, cap, rfl, rfl, e5, e6, (fun e => by cases e), fun q a ha => ?_⟩, _, _, rfl⟩, trivial⟩
    obtain ⟨u, u1, u2, u3⟩ := row_elem h2 ha
    refine ⟨gb, 0, u, rfl, SV.mono hle u1, u2, fun j c hj => ?_⟩
    have := u3 j c hj
    unfold Gh.cell
    rw [hb gb rfl, e4]
    rw [← e8, List.getElem?_take] at this
    split at this
    · rw [Nat.zero_add]
      simpa using this
    · cases this
/-- the state behind the change -/
def sealS (S : St) (i : Nat) (b : At) : St := ⟨S.F.map fun e => (e.1, e.2.sub i b), (S.M.set i .gone).map (·.sub i b)⟩
theorem Ok'.seal {α : Type} {T : Ty α} {l : List α} {e i : Nat} (h : Ok' c S a w g hs) (hm : S.M[i]? = some (rowI e T l)) : ∃ g', Ok' c (sealS S i (LS T l)) a w g' hs := by
  classical
  obtain ⟨cs, r1, r2⟩ := h.items i _ hm
  have hmine := h.mine i _ hm (by simp)
  have hbk : blk (hs i) = (hs i).ownBlock := blk_slice (ownsRow_slice r1)
  let g' : Gh := fun x => if (hs i).ownBlock = some x then w.heap[x]? else g x
  have hle : Gh.le g g' := fun x o e => by
    show (if (hs i).ownBlock = some x then _ else g x) = some o
    by_cases hx : (hs i).ownBlock = some x
    · have := (hmine x (by rw [hbk]; exact hx)).2 rfl
      rw [this.2] at e
      cases e
    · rw [if_neg hx]; exact e
  have hb : (LS T l).ok g' hs (hs i) := row_LS r1 r2 hle (fun b hb => if_pos hb)
  have hset : ∀ (j : Nat) (jt : Item), ((S.M.set i .gone).map (·.sub i (LS T l)))[j]? = some jt → jt ≠ .gone → ∃ kt, j ≠ i ∧ S.M[j]? = some kt ∧ jt = kt.sub i (LS T l) ∧ kt ≠ .gone ∧ jt.fz = kt.fz := fun j jt hj hn => by
    rw [List.getElem?_map, List.getElem?_set] at hj
    by_cases e : i = j
    · rw [if_pos e] at hj
      split at hj
      · simp [Item.sub] at hj
        exact absurd hj.symm hn
      · cases hj
    · rw [if_neg e] at hj
      cases hk : S.M[j]? with
      | none => rw [hk] at hj; cases hj
      | some kt =>
        rw [hk] at hj
        simp at hj
        refine ⟨kt, Ne.symm e, rfl, hj.symm, fun e => ?_, ?_⟩
        · subst e; exact hn hj.symm
        · rw [← hj]; cases kt <;> rfl
  refine ⟨g', h.size, h.defers, ⟨h.base.os, h.base.tape, h.base.output, h.base.grows, h.base.frame, h.base.ghle.trans hle, fun x o e => ?_, fun x o e => ?_⟩, fun t x hx => ?_, fun j jt hj => ?_, fun j k jt kt hjk hj hk hfj hnk x hx => ?_, fun j jt hj hnj x hx => ?_⟩
  · by_cases hx : (hs i).ownBlock = some x
    · exact .inr ((hmine x (by rw [hbk]; exact hx)).2 rfl).1
    · rw [show g' x = g x from if_neg hx] at e
      exact h.base.ghnew x o e
  · by_cases hx : (hs i).ownBlock = some x
    · rw [show g' x = w.heap[x]? from if_pos hx] at e
      exact e
    · rw [show g' x = g x from if_neg hx] at e
      exact h.base.pers x o e
  · obtain ⟨y, hy, e⟩ := List.mem_map.1 hx
    cases e
    exact SC.sub_ok hb (SC.mono hle (h.slots _ _ hy))
  · by_cases hn : jt = .gone
    · subst hn; trivial
    · obtain ⟨kt, h1, h2, rfl, h3, _⟩ := hset j jt hj hn
      have h4 := Item.mono hle (h.items j kt h2)
      cases kt with
      | box cells ty fz =>
        obtain ⟨b, us, k1, k2, k3, k4⟩ := h4
        exact ⟨b, us, k1, oks_sub hb k2, k3, k4⟩
      | _ => exact h4
  · obtain ⟨jt', h1, h2, rfl, h3, h4⟩ := hset j jt hj (fz_gone hfj)
    obtain ⟨kt', k1, k2, rfl, k3, k4⟩ := hset k kt hk hnk
    exact h.sep j k jt' kt' hjk h2 k2 (by rw [← h4]; exact hfj) k3 x hx
  · obtain ⟨jt', h1, h2, rfl, h3, h4⟩ := hset j jt hj hnj
    obtain ⟨m1, m2⟩ := h.mine j jt' h2 h3 x hx
    refine ⟨m1, fun hf => ?_⟩
    rw [h4] at hf
    refine ⟨(m2 hf).1, ?_⟩
    have hx' : (hs i).ownBlock ≠ some x := fun e => h.sep j i jt' _ h1 h2 hm hf (by simp) x hx (by rw [hbk]; exact e)
    rw [show g' x = g x from if_neg hx']
    exact (m2 hf).2
theorem WL.seal {α : Type} {T : Ty α} {l : List α} {e : Nat} (i : Nat) (hm : S.M[i]? = some (rowI e T l)) (h : WL c ops L (sealS S i (LS T l)) N) : WL c ops L S N := fun a w ⟨g, hs, hk⟩ => by
  obtain ⟨g', hk'⟩ := hk.seal hm
  exact h a w ⟨g', hs, hk'⟩
theorem En.seal {α : Type} {T : Ty α} {l : List α} {e : Nat} (i : Nat) (hm : S.M[i]? = some (rowI e T l)) (h : En c (sealS S i (LS T l)) N) : En c S N := fun a w ⟨g, hs, hk⟩ => by
  obtain ⟨g', hk'⟩ := hk.seal hm
  exact h a w ⟨g', hs, hk'⟩
/-- new elements, all alike -/
theorem made_row {α : Type} {T : Ty α} {z0 : α} {z : Value} {k N : Nat} (hz : (T.sv z0).ok g hs0 z) (hs : z.cells.size = T.s) (h0 : 0 < T.s) (hk : k ≤ N) : rowRead T (List.replicate k z0) g ((madeCells z.cells (N * T.s)).toList.take (k * T.s)) := by
  refine ⟨List.replicate k z, ?_, by simp, fun q u a hu ha => ?_⟩
  · have hsz : ∀ u ∈ List.replicate k z, u.cells.size = T.s := fun u hu => by rw [List.eq_of_mem_replicate hu]; exact hs
    apply List.ext_getElem?
    intro j
    by_cases hj : j < k * T.s
    · have hq : j / T.s < k := by rw [Nat.div_lt_iff_lt_mul h0]; exact hj
      have hm : j % T.s < T.s := Nat.mod_lt _ h0
      have h1 := flat_at (q := j / T.s) (j := j % T.s) (u := z) (c := z.cells[j % T.s]'(by omega)) hsz (by simp [hq]) (by simp [hs, hm])
      rw [show j / T.s * T.s + j % T.s = j from by rw [Nat.mul_comm]; exact Nat.div_add_mod j T.s] at h1
      rw [h1, List.getElem?_take, if_pos hj]
      have hjN : j < N * T.s := Nat.lt_of_lt_of_le hj (Nat.mul_le_mul_right _ hk)
      have hmz : j % z.cells.size < z.cells.size := by rw [hs]; exact hm
      simp [madeCells, hjN]
      have e : j % z.cells.size = j % T.s := by rw [hs]
      rw [getElem!_pos z.cells (j % z.cells.size) hmz]
      simp only [e]
    · rw [List.getElem?_take, if_neg hj, List.getElem?_eq_none]
      rw [flat_len hsz]
      simp
      omega
  · rw [List.getElem?_replicate] at hu ha
    split at hu
    · rename_i h
      rw [if_pos h] at ha
      simp at hu ha
      subst hu ha
      exact ⟨hz, hs⟩
    · cases hu
/-- make -/
theorem mt_make {α : Type} {T : Ty α} (z0 : α) {zv : Value} (p : Nat) {t e : Nat} {ti te : TI} {x y : Operand} {k1 k2 : IntKind} {l cp : Int} (ht : tab.ok) (ho : o.op = .makeSlice t x y) (h1 : tab t = some ti) (h2 : ti.sl = some e) (h3 : tab e = some te) (h4 : te.size = T.s) (h5 : 0 < T.s)
    (hx : evK S.F x = some (.int k1 l)) (hy : evK S.F y = some (.int k2 cp)) (hl0 : 0 ≤ l) (hlc : l ≤ cp) (hb : cp * te.bytes ≤ 140737488355328) (hb2 : cp ≤ 140737488355328) (hzc : zv.cells.toList = te.zero) (hz : ∀ g, (T.sv z0).ok g hs0 zv) :
    MT c S o (.sv (.one (.own p))) [] (some (p, rowI e T (List.replicate l.toNat z0))) := fun a w g hs h N Z hN => by
  have hu := slT_some ((ht t ti h1).sl.trans h2)
  have hte := ht e te h3
  obtain ⟨x', z, i1, i2, i3, i4, i5⟩ := hte.parts
  have hzz : z.cells = zv.cells := by apply Array.toList_inj.1; rw [i5, hzc]
  have hzs : zv.cells.size = T.s := by rw [← Array.length_toList, hzc, hte.zs, h4]
  have hrun := run_make (P := Try.prog) (w := w) t e x' z hu i1 i2 k1 k2 l cp hl0 hlc (by rw [i4, Int.mul_comm]; omega) (by omega)
  unfold Oper.wp
  have hr : (execOp a.eval o).run Try.prog w = .ok (.value (.slice (some ⟨w.heap.size, 0, none⟩) l.toNat cp.toNat)) (w.alloc (.cells (madeCells z.cells (cp.toNat * x'.size)) e)) := by
    have : execOp a.eval o = (do pure (.value (← Instr.makeSlice t (a.eval x) (a.eval y))) : Sem Next) := by unfold execOp; rw [ho]
    rw [this, evK_ok h hx, evK_ok h hy]
    exact run_valW hrun
  rw [hr]
  have hlc' : l.toNat ≤ cp.toNat := by omega
  have hsz : x'.size = T.s := by rw [i3, h4]
  refine hN _ _ g (.slice (some ⟨w.heap.size, 0, none⟩) l.toNat cp.toNat) ⟨rfl, rfl, rfl, by simp, fun b hb _ => (World.grownBy_alloc w _ none).block b hb (by simp), Gh.le.refl g, fun b o e => .inl e, fun b o e => ?_⟩ ⟨?_, trivial⟩ ⟨⟨(madeCells zv.cells (cp.toNat * T.s)).toList.take (l.toNat * T.s), ?_, made_row (hz g) hzs h5 hlc'⟩, fun b hb => ?_⟩
  · exact ((World.grownBy_alloc w _ none).block b (h.base.pers.lt e) (by simp)).trans (h.base.pers b o e)
  · show _ = (if p = p then _ else hs p)
    rw [if_pos rfl]
  · rw [List.length_replicate]
    refine ⟨?_, .inr ⟨w.heap.size, cp.toNat, madeCells zv.cells (cp.toNat * T.s), rfl, Nat.zero_le _, ?_, hlc', by simp only [maxLen]; omega, by rw [size_madeCells], rfl⟩⟩
    · rw [List.length_take, Array.length_toList, size_madeCells]
      exact Nat.min_eq_left (Nat.mul_le_mul_right _ hlc')
    · rw [hzz, hsz]
      exact heap_alloc_new w _
  · cases hb
    refine ⟨by simp, fun _ => ?_, .inl (Nat.le_refl _)⟩
    cases hgb : g w.heap.size with
    | none => rfl
    | some o => have := h.base.pers.lt hgb; omega
theorem slRead.take {α : Type} {T : Ty α} {l : List α} {ao : Option Addr} {n' cap : Nat} (h : slRead T l g (.slice ao n' cap)) {lo hi : Nat} (h1 : lo ≤ hi) (h2 : hi ≤ l.length) :
    slRead T ((l.take hi).drop lo) g (.slice (if cap = lo then ao else ao.map (·.add (lo * T.s))) (hi - lo) (cap - lo)) := by
  obtain ⟨ao', n'', cap', e1, e2, e3, e4, e5, e6⟩ := h
  cases e1
  subst e2
  refine ⟨_, _, _, rfl, by simp; omega, by omega, by omega, fun e => ?_, fun q a hq => ?_⟩
  · split at e
    · omega
    · cases ao with
      | none => have := e5 rfl; omega
      | some x => cases e
  · rw [List.getElem?_drop, List.getElem?_take] at hq
    split at hq
    case isFalse => cases hq
    obtain ⟨b, o, u, rfl, k2, k3, k4⟩ := e6 _ a hq
    refine ⟨b, o + lo * T.s, u, ?_, k2, k3, fun j c hj => ?_⟩
    · rw [if_neg (by omega)]
      simp [Addr.add_lit]
    · have := k4 j c hj
      rw [Nat.add_mul] at this
      rw [← this]
      congr 2
      omega
/-- a part of a slice -/
theorem val_slice {α : Type} {T : Ty α} {l : List α} {t el m : Nat} {ti te : TI} {x : Operand} {lo hi : Option Operand} {lv hv : Int} (ht : tab.ok) (ho : o.op = .slice t x lo hi none) (h1 : tab t = some ti) (h2 : ti.sl = some el) (h3 : tab el = some te) (h4 : te.size = T.s)
    (hx : evX S.F x = some (.sv (.one (.sl (slR T l) m)))) (hlo : (match lo with | some q => evK S.F q = some (.int .i64 lv) | none => lv = 0)) (hhi : (match hi with | some q => evK S.F q = some (.int .i64 hv) | none => hv = l.length)) (h5 : 0 ≤ lv ∧ lv ≤ hv ∧ hv ≤ l.length) :
    Val c S o (.sv (.one (LS T ((l.take hv.toNat).drop lv.toNat)))) := fun a w g hs h => by
  obtain ⟨h6, h7, h8⟩ := h5
  have hu := slT_some ((ht t ti h1).sl.trans h2)
  obtain ⟨⟨hr, ao, cap, e1⟩, _⟩ := evX_ok h hx
  have hr' : slRead T l g (a.eval x) := hr
  rw [e1] at hr'
  have hr2 := hr'
  obtain ⟨ao', n'', cap', k1, k2, k3, k4, k5, k6⟩ := hr2
  cases k1
  subst k2
  have htk := hr'.take (lo := lv.toNat) (hi := hv.toNat) (by omega) (by omega)
  refine ⟨_, ?_, ⟨htk, _, _, by simp only [List.length_drop, List.length_take]; congr 1; omega⟩, trivial⟩
  have : execOp a.eval o = (do pure (.value (← Instr.sliceAt t (a.eval x) (lo.map a.eval) (hi.map a.eval) none)) : Sem Next) := by unfold execOp; rw [ho]; rfl
  rw [this]
  refine run_val ?_
  have hb : (Instr.sliceBounds true l.length cap (lo.map a.eval) (hi.map a.eval) none).run Try.prog w = .ok (lv.toNat, hv.toNat, cap) w := by
    unfold Instr.sliceBounds
    cases lo with
    | none =>
      cases hi with
      | none =>
        simp only at hlo hhi
        subst hlo hhi
        simp
      | some q =>
        simp only at hlo hhi
        subst hlo
        simp only [Option.map_none, Option.map_some, Sem.run_bind, Sem.run_pure, Result.andThen_ok, Instr.sliceBound, evK_ok h hhi, asIntOf]
        rw [if_pos (by omega)]
        simp
    | some q' =>
      cases hi with
      | none =>
        simp only at hlo hhi
        subst hhi
        simp only [Option.map_none, Option.map_some, Sem.run_bind, Sem.run_pure, Result.andThen_ok, Instr.sliceBound, evK_ok h hlo, asIntOf]
        rw [if_pos (by omega)]
        simp
      | some q =>
        simp only at hlo hhi
        simp only [Option.map_some, Sem.run_bind, Sem.run_pure, Result.andThen_ok, Instr.sliceBound, evK_ok h hhi, evK_ok h hlo, asIntOf]
        rw [if_pos (by omega)]
        simp only [Sem.run_bind, Sem.run_pure, Result.andThen_ok]
        rw [if_pos (by omega)]
        simp
  simp only [Instr.sliceAt, Instr.slice, Sem.run_bind, run_underlying hu, Result.andThen_ok, e1, hb, (ht el te h3).run_size, Sem.run_pure, h4]
theorem WL.mt0 {x : SC} {K : List Nat} {p : Option (Nat × Item)} (hn : c.n = n) (hw : wantE ops S.F o = some true) (hm : MT c S o x K p) (hr : refsNe S p = true) (hu : usable S K = true) (e : putE n o.dst x ⟨S.F, newM S.M K p⟩ = some S1) (h : WL c ops rest S1 N) : WL c ops (o :: rest) S N := fun a w ⟨g, hs, hk⟩ => by
  unfold wpList
  rw [if_pos (wantE_ok hk hw)]
  refine .inl (hm a w g hs hk _ N fun v w' g' h' h1 h3 h4 => ?_)
  exact h _ _ ⟨g', _, putE_ok (hk.eff h1 h4 hr hu) hn h3 e⟩
/-- is there room? -/
def capOk (n m b : Nat) : Prop := (n + m) * b ≤ 140737488355328
theorem capOk.le {n m b : Nat} (h : capOk n m b) (hb : 0 < b) : n + m ≤ 140737488355328 := Nat.le_trans (Nat.le_mul_of_pos_right _ hb) h
def makeOk (l c : Int) (b : Nat) : Prop := 0 ≤ l ∧ l ≤ c ∧ c * b ≤ 140737488355328
theorem makeOk.le {l c : Int} {b : Nat} (h : makeOk l c b) (hb : 0 < b) : c ≤ 140737488355328 := by
  obtain ⟨h1, h2, h3⟩ := h
  have : c * 1 ≤ c * b := Int.mul_le_mul_of_nonneg_left (by omega) (by omega)
  omega
def partOk (lo hi n : Int) : Prop := 0 ≤ lo ∧ lo ≤ hi ∧ hi ≤ n
/-- an append to nil -/
theorem mt_appendN {α : Type} {T : Ty α} {es : List α} {p : Nat} {x y : Operand} {t e : Nat} {ti te : TI} (ht : tab.ok) (ho : o.op = .call ⟨.builtin .append, #[x, y], #[t, t]⟩) (h1 : tab t = some ti) (h2 : ti.sl = some e) (h3 : tab e = some te) (h4 : te.size = T.s) (h5 : 0 < T.s)
    (hx : evX S.F x = some (.sv (.one (.v (.slice none 0 0))))) (hsrc : SrcOk c S y T es) (hb : es.length * te.bytes ≤ 140737488355328) (hb2 : es.length ≤ 140737488355328) : MT c S o (.sv (.one (.own p))) [] (some (p, rowI e T es)) := fun a w g hs h N Z hN => by
  have hu := slT_some ((ht t ti h1).sl.trans h2)
  have hv : a.eval x = .slice none 0 0 := (evX_ok h hx).1
  obtain ⟨cs', r3, r4⟩ := hsrc a w g hs h
  rw [← h4] at r3 h5
  obtain ⟨v', w', k1, k2, k3, k4⟩ := run_append_src (w := w) (ty := o.type) (ti := ti) hu (ht e te h3) h5 (World.ownsRow_nil w 0 e te.size) r3 (by simp only [maxLen]; omega) (by simpa using hb)
  unfold Oper.wp
  have hrun : (execOp a.eval o).run Try.prog w = .ok (.value v') w' := by
    have : execOp a.eval o = (do pure (.value (← Builtin.append_ #[t, t] o.type #[a.eval x, a.eval y])) : Sem Next) := by
      unfold execOp
      rw [ho]
      simp [resolve, invoke, builtin]
    rw [this, hv]
    exact run_valW k1
  rw [hrun]
  have hsl' := ownsRow_slice k2
  have k3' : ∀ b, b < w.heap.size → w'.heap[b]? = w.heap[b]? := fun b hb => k3.block b hb (by simp [Value.ownBlock])
  refine hN v' w' g v' ⟨k3.os, k3.tape, k3.output, k3.size, fun b hb _ => k3' b hb, Gh.le.refl g, fun b o e => .inl e, fun b o e => (k3' b (h.base.pers.lt e)).trans (h.base.pers b o e)⟩ ⟨?_, ?_⟩ ⟨⟨cs', ?_, r4⟩, fun b hb => ?_⟩
  · show v' = (if p = p then v' else hs p)
    rw [if_pos rfl]
  · obtain ⟨ao, m, cap, rfl⟩ := hsl'
    trivial
  · rw [← h4]
    simpa using k2
  · rw [blk_slice hsl'] at hb
    rcases k4 with e | e
    · rw [hb] at e
      cases e
    · rw [hb] at e
      cases e
      have := k2.lt w.heap.size hb
      refine ⟨this.2, fun _ => ?_, .inl (Nat.le_refl _)⟩
      cases hgb : g w.heap.size with
      | none => rfl
      | some o => have := h.base.pers.lt hgb; omega
/-- a cell of a variable that is not looked at any more -/
def junkC (cells : List At) (j : Nat) : List At := cells.set j .junk
theorem oks_junk : ∀ {l : List At} {us : List Value} (j : Nat), oks g hs l us → oks g hs (l.set j .junk) us
  | [], _, _, h => by simpa using h
  | _ :: _, [], _, h => h.elim
  | _ :: _, _ :: _, 0, h => ⟨⟨trivial, trivial⟩, h.2.1, h.2.2⟩
  | _ :: _, _ :: _, j + 1, h => ⟨h.1, h.2.1, oks_junk j h.2.2⟩
theorem WL.junk (i j : Nat) {cells : List At} {ty : Nat} (hm : S.M[i]? = some (.box cells ty false)) (h : WL c ops L ⟨S.F, S.M.set i (.box (cells.set j .junk) ty false)⟩ N) : WL c ops L S N := fun a w ⟨g, hs, hk⟩ => by
  refine h a w ⟨g, hs, hk.upd hm rfl rfl (World.grownBy.mk rfl rfl rfl (Nat.le_refl _) (fun _ _ _ => rfl)) ?_⟩
  obtain ⟨b, cs, h1, h2, h3, h4⟩ := hk.items i _ hm
  exact ⟨b, cs, h1, oks_junk j h2, h3, fun h => by cases h⟩
/-- a slice without elements, written out -/
theorem mt_empty {α : Type} (T : Ty α) (p : Nat) {t e : Nat} {ti te : TI} (ht : tab.ok) (ho : o.op = .buildSlice t 0 #[]) (h1 : tab t = some ti) (h2 : ti.sl = some e) (h3 : tab e = some te) : MT c S o (.sv (.one (.own p))) [] (some (p, rowI e T [])) := fun a w g hs h N Z hN => by
  have hu := slT_some ((ht t ti h1).sl.trans h2)
  unfold Oper.wp
  have hrun : (execOp a.eval o).run Try.prog w = .ok (.value (.slice (some ⟨w.heap.size, 0, none⟩) 0 0)) (w.alloc (.cells #[] e)) := by
    have : execOp a.eval o = (do pure (.value (← Instr.buildSlice t 0 #[])) : Sem Next) := by unfold execOp; rw [ho]; simp
    rw [this]
    refine run_valW ?_
    simp [Instr.buildSlice, run_underlying hu, (ht e te h3).run_size, Instr.fill, newRow, newObj, Sem.run]
    exact congrArg (fun z => w.alloc (.cells z e)) (Array.toList_inj.1 (by simp))
  rw [hrun]
  refine hN _ _ g (.slice (some ⟨w.heap.size, 0, none⟩) 0 0) ⟨rfl, rfl, rfl, by simp, fun b hb _ => (World.grownBy_alloc w _ none).block b hb (by simp), Gh.le.refl g, fun b o e => .inl e, fun b o e => ?_⟩ ⟨?_, trivial⟩ ⟨⟨[], ⟨by simp, .inr ⟨w.heap.size, 0, #[], rfl, Nat.zero_le _, heap_alloc_new w _, Nat.le_refl _, by simp [maxLen], by simp, by simp⟩⟩, rowRead.nil⟩, fun b hb => ?_⟩
  · exact ((World.grownBy_alloc w _ none).block b (h.base.pers.lt e) (by simp)).trans (h.base.pers b o e)
  · show _ = (if p = p then _ else hs p)
    rw [if_pos rfl]
  · cases hb
    refine ⟨by simp, fun _ => ?_, .inl (Nat.le_refl _)⟩
    cases hgb : g w.heap.size with
    | none => rfl
    | some o => have := h.base.pers.lt hgb; omega
theorem En.nilLS {α : Type} (t : Nat) (T : Ty α) (hl : look t S.F = some (.sv (.one (.v (.slice none 0 0))))) (h : En c ⟨(t, .sv (.one (LS T ([] : List α)))) :: S.F, S.M⟩ N) : En c S N := fun a w ⟨g, hs, hk⟩ => by
  refine h a w ⟨g, hs, hk.size, hk.defers, hk.base, fun t' y hy => ?_, hk.items, hk.sep, hk.mine⟩
  rcases List.mem_cons.1 hy with hy | hy
  · cases hy
    have hv := (hk.slots t _ (look_mem hl)).1
    rw [hv]
    exact ls_nil
  · exact hk.slots t' y hy
theorem WL.nilLS {α : Type} (t : Nat) (T : Ty α) (hl : look t S.F = some (.sv (.one (.v (.slice none 0 0))))) (h : WL c ops L ⟨(t, .sv (.one (LS T ([] : List α)))) :: S.F, S.M⟩ N) : WL c ops L S N :=
  WL.ghost t _ hl (fun a w g hs _ u hu => by
    have : u = .slice none 0 0 := hu.1
    subst this
    exact ls_nil) h
theorem slRead.le {α : Type} {T : Ty α} {l : List α} {v : Value} (h : slRead T l g v) : l.length ≤ 9223372036854775807 := by
  obtain ⟨ao, n, cap, h1, rfl, h2, h3, _⟩ := h
  simp only [maxLen] at h3
  omega
theorem En.lenL {α : Type} {T : Ty α} {l : List α} {m : Nat} (t : Nat) (hl : look t S.F = some (.sv (.one (.sl (slR T l) m)))) (h : l.length ≤ 9223372036854775807 → En c S N) : En c S N := fun a w ⟨g, hs, hk⟩ =>
  h (slRead.le (hk.slots t _ (look_mem hl)).1.1) a w ⟨g, hs, hk⟩
theorem En.lenA {α : Type} {T : Ty α} {l : List α} {m : Nat} (t j : Nat) {cells : List At} (hl : look t S.F = some (.sv (.agg cells))) (hj : cells[j]? = some (.sl (slR T l) m)) (h : l.length ≤ 9223372036854775807 → En c S N) : En c S N := fun a w ⟨g, hs, hk⟩ => by
  obtain ⟨cs, _, h2⟩ := hk.slots t _ (look_mem hl)
  obtain ⟨u, _, h3, _⟩ := oks_get h2 hj
  exact h (slRead.le h3.1.1) a w ⟨g, hs, hk⟩
theorem WL.lenL {α : Type} {T : Ty α} {l : List α} {m : Nat} (t : Nat) (hl : look t S.F = some (.sv (.one (.sl (slR T l) m)))) (h : l.length ≤ 9223372036854775807 → WL c ops L S N) : WL c ops L S N := fun a w ⟨g, hs, hk⟩ =>
  h (slRead.le (hk.slots t _ (look_mem hl)).1.1) a w ⟨g, hs, hk⟩
theorem WL.lenA {α : Type} {T : Ty α} {l : List α} {m : Nat} (t j : Nat) {cells : List At} (hl : look t S.F = some (.sv (.agg cells))) (hj : cells[j]? = some (.sl (slR T l) m)) (h : l.length ≤ 9223372036854775807 → WL c ops L S N) : WL c ops L S N := fun a w ⟨g, hs, hk⟩ => by
  obtain ⟨cs, _, h2⟩ := hk.slots t _ (look_mem hl)
  obtain ⟨u, _, h3, _⟩ := oks_get h2 hj
  exact h (slRead.le h3.1.1) a w ⟨g, hs, hk⟩
end
end Go.Proofs.Ytfpdnigihjmohaa
